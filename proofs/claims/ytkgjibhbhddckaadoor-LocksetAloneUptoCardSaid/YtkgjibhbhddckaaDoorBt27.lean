/- bits: the document's lists: with, without, in, Copy; relations of the document in memory. -/
import Derived.Test.YtkgjibhbhddckaaDoorBt18
import Derived.Test.YtkgjibhbhddckaaDoorVcAg
namespace Go.Vc
open Go Go.Proofs
set_option maxRecDepth 10000
variable {w : World}

/-! ### Rising lists -/
theorem sorted_ext : ∀ {a b : List Nat}, a.Pairwise (· < ·) → b.Pairwise (· < ·) → (∀ x, x ∈ a ↔ x ∈ b) → a = b
  | [], [], _, _, _ => rfl
  | [], y :: b, _, _, h => by have := (h y).2 (by simp); simp at this
  | x :: a, [], _, _, h => by have := (h x).1 (by simp); simp at this
  | x :: a, y :: b, ha, hb, h => by
    rw [List.pairwise_cons] at ha hb
    have hxy : x = y := by
      have h1 := (h x).1 (by simp)
      have h2 := (h y).2 (by simp)
      rcases List.mem_cons.1 h1 with e | h1
      · exact e
      · rcases List.mem_cons.1 h2 with e | h2
        · exact e.symm
        · have := ha.1 y h2; have := hb.1 x h1; omega
    subst hxy
    congr 1
    refine sorted_ext ha.2 hb.2 fun z => ?_
    constructor
    · intro hz
      rcases List.mem_cons.1 ((h z).1 (by simp [hz])) with e | h1
      · have := ha.1 z hz; omega
      · exact h1
    · intro hz
      rcases List.mem_cons.1 ((h z).2 (by simp [hz])) with e | h1
      · have := hb.1 z hz; omega
      · exact h1
def withL (l : List Nat) (n : Nat) : List Nat := l.filter (fun x => decide (x < n)) ++ n :: l.filter (fun x => decide (n < x))
theorem mem_withL {l : List Nat} {n x : Nat} : x ∈ withL l n ↔ x ∈ l ∨ x = n := by
  unfold withL
  simp only [List.mem_append, List.mem_cons, List.mem_filter, decide_eq_true_eq]
  constructor
  · rintro (⟨h, _⟩ | h | ⟨h, _⟩)
    · exact .inl h
    · exact .inr h
    · exact .inl h
  · rintro (h | h)
    · rcases Nat.lt_trichotomy x n with h1 | h1 | h1
      · exact .inl ⟨h, h1⟩
      · exact .inr (.inl h1)
      · exact .inr (.inr ⟨h, h1⟩)
    · exact .inr (.inl h)
theorem sorted_withL {l : List Nat} (h : l.Pairwise (· < ·)) (n : Nat) : (withL l n).Pairwise (· < ·) := by
  unfold withL
  rw [List.pairwise_append, List.pairwise_cons]
  refine ⟨h.filter _, ⟨fun x hx => ?_, h.filter _⟩, fun x hx y hy => ?_⟩
  · simpa using (List.mem_filter.1 hx).2
  · have h1 : x < n := by simpa using (List.mem_filter.1 hx).2
    rcases List.mem_cons.1 hy with rfl | hy
    · exact h1
    · have h2 : n < y := by simpa using (List.mem_filter.1 hy).2
      omega
theorem withL_len (l : List Nat) (n : Nat) : (withL l n).length ≤ l.length + 1 := by
  unfold withL
  rw [List.length_append, List.length_cons]
  have : (l.filter fun x => decide (x < n)).length + (l.filter fun x => decide (n < x)).length ≤ l.length := by
    induction l with
    | nil => simp
    | cons y r ih =>
      simp only [List.filter_cons]
      by_cases h1 : y < n
      · have : ¬ n < y := by omega
        simp [h1, this]; omega
      · by_cases h2 : n < y
        · simp [h1, h2]; omega
        · simp [h1, h2]; omega
  omega
theorem elems_withL {ws ws' : List Nat} {n : Nat} (h : ∀ j, bit ws' j = (bit ws j || decide (j = n))) : elems ws' = withL (elems ws) n :=
  sorted_ext (elems_sorted _) (sorted_withL (elems_sorted _) n) fun x => by
    rw [mem_withL, mem_elems, mem_elems, h, Bool.or_eq_true, decide_eq_true_eq]
end Go.Vc
