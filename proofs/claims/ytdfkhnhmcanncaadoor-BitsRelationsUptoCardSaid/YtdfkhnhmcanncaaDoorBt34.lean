/- bits: BitsRelations, the walk. -/
import Derived.Test.YtdfkhnhmcanncaaDoorBt33
namespace Go.Vc
open Go Go.Proofs
theorem bitsRelations_walk {w : World} (hT : TabW w) {size : Int} (hs : (Lit.int .i64 size).wf = true) {a : Option Addr} {len cap : Nat} {es : List (Int × Int × Int)}
    (h : ReadS w a (edgeV es) ∧ es.length = len ∧ ∀ e ∈ es, (-9223372036854775808 ≤ e.1 ∧ e.1 ≤ 9223372036854775807) ∧ (-9223372036854775808 ≤ e.2.1 ∧ e.2.1 ≤ 9223372036854775807) ∧ (-9223372036854775808 ≤ e.2.2 ∧ e.2.2 ≤ 9223372036854775807)) (hb : es.length ≤ 1048576) :
    Calls Tryd.prog 6 #[.int .i64 size, .slice a len cap] w (fun e w' => e = .returned (.bool true) ∧ RowKit.Below w.heap.size w w') := by
  obtain ⟨h1, h2, h3⟩ := h
  have := BitsRelations_ret hT (wf64 hs) (c := cap) h1 hb h3
  rw [h2] at this
  exact this.calls
end Go.Vc
