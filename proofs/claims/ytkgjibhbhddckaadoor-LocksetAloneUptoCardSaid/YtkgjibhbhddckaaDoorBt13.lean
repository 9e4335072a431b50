/- bits: the document's sets (reference): Of, List, Words; sameWords. -/
import Derived.Test.YtkgjibhbhddckaaDoorBt12
import Derived.Test.YtkgjibhbhddckaaDoorVcMx
namespace Go.Vc
open Go Go.Proofs
set_option maxRecDepth 10000
variable {w : World}

section
variable {p : Nat} {l : List Nat} {ad : Option Addr} {cap : Nat}
end

/-- the numbers below m -/
def elemsTo (ws : List Nat) (m : Nat) : List Nat := (List.range m).filter (bit ws)
theorem elemsTo_succ (ws : List Nat) (m : Nat) : elemsTo ws (m + 1) = elemsTo ws m ++ if bit ws m then [m] else [] := by
  unfold elemsTo
  rw [List.range_succ, List.filter_append]
  congr 1
  simp [List.filter_cons]
theorem elemsTo_all (ws : List Nat) : elemsTo ws (64 * ws.length) = elems ws := rfl
theorem elemsTo_len (ws : List Nat) (m : Nat) : (elemsTo ws m).length ≤ m := by
  have := List.length_filter_le (bit ws) (List.range m)
  simpa [elemsTo] using this
def Big (ws : List Nat) : Prop := ∃ k, 1048576 ≤ k ∧ bit ws k = true

theorem shr_mod2 (x k : Nat) : (x >>> k) % 2 = 1 ↔ x.testBit k = true := by
  rw [Nat.testBit_eq_decide_div_mod_eq, Nat.shiftRight_eq_div_pow]; simp
end Go.Vc
