/- lockset: LocksetKeeps as the rows want it. -/
import Derived.Test.YtkgjibhbhddckaaDoorQClKPlays43
import Derived.Test.YtkgjibhbhddckaaDoorQClKPlays45
import Derived.Test.YtkgjibhbhddckaaDoorQClKPlays47
namespace Go.Vc
open Go Go.Proofs
end Go.Vc
/- lockset: LocksetPlays as the rows want it. -/
namespace Go.Vc
open Go Go.Proofs
theorem locksetPlays_walk {w : World} (hT : TabW w) {s : Shp} {xs : List AskG} {pad sad : Option Addr} {cap slen scap b1 b2 : Nat} (w0 : ReadS w pad (s.pa.map I)) (w1 : ReadS w sad (xs.flatMap askC) ∧ xs.length = slen ∧ ∀ x ∈ xs, ∀ B, b2 ≤ B → B ≤ 1048576 → AskOk w x)
    (h0 : s.pa.length ≤ b1) (h1 : xs.length ≤ b2) (hb : b1 + (b2 + 0) ≤ 1048576) :
    Calls Tryd.prog 4 #[.agg ⟨shC s pad cap⟩, .slice sad slen scap] w (fun e w' => e = .returned (.bool true) ∧ RowKit.Below w.heap.size w w') := by
  obtain ⟨w1, rfl, hc⟩ := w1
  exact (locksetPlays_ret hT w0 (by omega) w1 (by omega) (fun x hx => hc x hx b2 (Nat.le_refl _) (by omega))).calls
end Go.Vc
