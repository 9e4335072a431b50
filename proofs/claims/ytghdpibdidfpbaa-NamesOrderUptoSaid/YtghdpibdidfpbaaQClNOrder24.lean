/- NamesOrder's call as its frame asks it. -/
import Derived.Test.YtghdpibdidfpbaaQClNOrder7
import Derived.Test.YtghdpibdidfpbaaQClNOrder23
namespace Go.Vc
open Go Go.Proofs Go.ChangeShapes Go.WideShapes Go.ChangeAt Go.RowKit
variable {w : World}
theorem namesOrder_walk {x : AskN} {pad : Option Addr} {cap : Nat} (h : ReadS w x.a (x.list.map S) ∧ (∀ s ∈ x.list, s.length ≤ 9223372036854775807) ∧ x.list.length ≤ 9223372036854775807 ∧ -9223372036854775808 ≤ x.most ∧ x.most ≤ 9223372036854775807) :
    Calls Try.prog 7 #[.agg ⟨askN x pad cap⟩] w (fun e w' => e = .returned (.bool true) ∧ Below w.heap.size w w') := by
  obtain ⟨h1, h3, hm, hmost⟩ := h
  exact (namesOrder_ret x.list h1 h3 hm x.name x.most hmost x.least).calls
end Go.Vc
