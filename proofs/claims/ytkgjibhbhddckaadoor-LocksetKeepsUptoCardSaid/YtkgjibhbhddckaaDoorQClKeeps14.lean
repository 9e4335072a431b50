/- bits: Join. -/
import Derived.Test.YtkgjibhbhddckaaDoorQClKeeps13
namespace Go.Vc
open Go Go.Proofs
set_option maxRecDepth 10000
variable {w : World}

def joinW (ws vs : List Nat) : List Nat := updW (· ||| ·) (growW ws vs.length) vs vs.length
def moreN (ws vs : List Nat) (n : Nat) : Bool := (List.range n).any fun i => decide (andn (vs.getD i 0) (ws.getD i 0) ≠ 0)
def joinStep (p : Nat) (F : Nat → List Nat) (s : List Nat × Bool) (q : Nat) : List Nat × Bool :=
  (joinW s.1 (if q = p then s.1 else F q), s.2 || moreN (growW s.1 (if q = p then s.1 else F q).length) (if q = p then s.1 else F q) (if q = p then s.1 else F q).length)
/-- another set, or the set itself -/
structure OtherAt (w0 : World) (p : Nat) (ad : Option Addr) (F : Nat → List Nat) (q : Nat) : Prop where
  at_ : q = p ∨ ∃ bd bap, SetAt w0 q (F q) bd bap ∧ Apart p ad q bd

theorem OtherAt.now {w : World} {p : Nat} {ad : Option Addr} {F : Nat → List Nat} {q : Nat} (hq : OtherAt w p ad F q) (us : List Nat) (ad2 : Option Addr) (cap2 : Nat) :
    ∃ bd bap, ∀ w5 us5, SetTo w p ad w5 us5 ad2 cap2 → (q = p → us5 = us) → SetAt w5 q (if q = p then us else F q) bd bap := by
  by_cases hqp : q = p
  · exact ⟨ad2, cap2, fun w5 us5 hto h => by rw [if_pos hqp, ← h hqp, hqp]; exact hto.at_⟩
  · rcases hq.at_ with h | ⟨bd, bap, h1, h2⟩
    · exact absurd h hqp
    · exact ⟨bd, bap, fun w5 us5 hto _ => by rw [if_neg hqp]; exact hto.other h2 h1⟩
theorem updW_or_self (us : List Nat) (i : Nat) : updW (· ||| ·) us us i = us := by
  have : updW (· ||| ·) us us i = updW (· ||| ·) us us 0 := by
    unfold updW
    apply List.map_congr_left
    intro j _
    simp
  rw [this, updW_zero]
end Go.Vc
