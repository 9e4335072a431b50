/- bits: the document's lists: with, without, in, Copy; relations of the document in memory. -/
import Derived.Test.YtkgjibhbhddckaaDoorQClKeeps16
namespace Go.Vc
open Go Go.Proofs
set_option maxRecDepth 10000
variable {w : World}

/-! ### Rising lists -/
theorem sorted_ext : ∀ {a b : List Nat}, a.Pairwise (· < ·) → b.Pairwise (· < ·) → (∀ x, x ∈ a ↔ x ∈ b) → a = b
  | [], [], _, _, _ => rfl
  | [], y :: b, _, _, h => by have := (h y).2 (by simp); simp at this
  | x :: a, [], _, _, h => by have := (h x).1 (by simp); simp at this
  | x :: a, y :: b, ha, hb, h => by
    rw [List.pairwise_cons] at ha hb
    have hxy : x = y := by
      have h1 := (h x).1 (by simp)
      have h2 := (h y).2 (by simp)
      rcases List.mem_cons.1 h1 with e | h1
      · exact e
      · rcases List.mem_cons.1 h2 with e | h2
        · exact e.symm
        · have := ha.1 y h2; have := hb.1 x h1; omega
    subst hxy
    congr 1
    refine sorted_ext ha.2 hb.2 fun z => ?_
    constructor
    · intro hz
      rcases List.mem_cons.1 ((h z).1 (by simp [hz])) with e | h1
      · have := ha.1 z hz; omega
      · exact h1
    · intro hz
      rcases List.mem_cons.1 ((h z).2 (by simp [hz])) with e | h1
      · have := hb.1 z hz; omega
      · exact h1
def withL (l : List Nat) (n : Nat) : List Nat := l.filter (fun x => decide (x < n)) ++ n :: l.filter (fun x => decide (n < x))
theorem mem_withL {l : List Nat} {n x : Nat} : x ∈ withL l n ↔ x ∈ l ∨ x = n := by
  unfold withL
  simp only [List.mem_append, List.mem_cons, List.mem_filter, decide_eq_true_eq]
  constructor
  · rintro (⟨h, _⟩ | h | ⟨h, _⟩)
    · exact .inl h
    · exact .inr h
    · exact .inl h
  · rintro (h | h)
    · rcases Nat.lt_trichotomy x n with h1 | h1 | h1
      · exact .inl ⟨h, h1⟩
      · exact .inr (.inl h1)
      · exact .inr (.inr ⟨h, h1⟩)
    · exact .inr (.inl h)
theorem sorted_withL {l : List Nat} (h : l.Pairwise (· < ·)) (n : Nat) : (withL l n).Pairwise (· < ·) := by
  unfold withL
  rw [List.pairwise_append, List.pairwise_cons]
  refine ⟨h.filter _, ⟨fun x hx => ?_, h.filter _⟩, fun x hx y hy => ?_⟩
  · simpa using (List.mem_filter.1 hx).2
  · have h1 : x < n := by simpa using (List.mem_filter.1 hx).2
    rcases List.mem_cons.1 hy with rfl | hy
    · exact h1
    · have h2 : n < y := by simpa using (List.mem_filter.1 hy).2
      omega
theorem elems_withL {ws ws' : List Nat} {n : Nat} (h : ∀ j, bit ws' j = (bit ws j || decide (j = n))) : elems ws' = withL (elems ws) n :=
  sorted_ext (elems_sorted _) (sorted_withL (elems_sorted _) n) fun x => by
    rw [mem_withL, mem_elems, mem_elems, h, Bool.or_eq_true, decide_eq_true_eq]
end Go.Vc
/- bits: the document's sets: right, New, Put, Del, Has, Len, Next. -/
namespace Go.Vc
open Go Go.Proofs
set_option maxRecDepth 10000
variable {w : World}

/-- a set's pointer, or nil -/
def optr : Option Nat → Value
  | none => .pointer none
  | some q => ptr q
def rightB (n : Int) : Bool := decide (0 ≤ n) && decide (n < 1048576)
/-- rising, and each below the bound -/
structure Ris (l : List Nat) : Prop where
  sorted : l.Pairwise (· < ·)
  lt : ∀ x ∈ l, x < 1048576
theorem sorted_len {l : List Nat} {N : Nat} (hs : l.Pairwise (· < ·)) (hl : ∀ x ∈ l, x < N) : l.length ≤ N := by
  have e : l = (List.range N).filter (fun x => decide (x ∈ l)) :=
    sorted_ext hs (List.Pairwise.filter _ List.pairwise_lt_range) fun x =>
      ⟨fun hx => List.mem_filter.2 ⟨List.mem_range.2 (hl x hx), decide_eq_true hx⟩, fun hx => of_decide_eq_true (List.mem_filter.1 hx).2⟩
  rw [e]
  refine Nat.le_trans (List.length_filter_le _ _) ?_
  rw [List.length_range]; exact Nat.le_refl _
theorem Ris.len {l : List Nat} (h : Ris l) : l.length ≤ 1048576 := sorted_len h.sorted h.lt
theorem Ris.nil : Ris [] := ⟨List.Pairwise.nil, by simp⟩
theorem Ris.put {l : List Nat} (h : Ris l) {k : Nat} (hk : k < 1048576) : Ris (withL l k) :=
  ⟨sorted_withL h.sorted k, fun x hx => by
    rcases mem_withL.1 hx with hx | rfl
    · exact h.lt x hx
    · exact hk⟩
theorem Ris.filter {l : List Nat} (h : Ris l) (p : Nat → Bool) : Ris (l.filter p) := ⟨h.sorted.filter _, fun x hx => h.lt x (List.mem_filter.1 hx).1⟩
theorem elems_putW (ws : List Nat) (k : Nat) : elems (putW ws k) = withL (elems ws) k :=
  elems_withL fun j => by rw [bit_putW]; congr 1; simp [eq_comm]
theorem elems_delW {ws : List Nat} (hok : WOk ws) (k : Nat) : elems (delW ws k) = (elems ws).filter (fun x => decide (x ≠ k)) :=
  sorted_ext (elems_sorted _) ((elems_sorted _).filter _) fun x => by
    rw [List.mem_filter, mem_elems, mem_elems, bit_delW hok, Bool.and_eq_true, Bool.not_eq_true', decide_eq_false_iff_not, decide_eq_true_eq]
    exact and_congr_right fun _ => ⟨fun h e => h e.symm, fun h e => h e.symm⟩

section
variable {p : Nat} {l : List Nat} {ad : Option Addr} {cap : Nat}
/-- the first that is not below n -/
def nextL (l : List Nat) (n : Int) : Value := match l.find? (fun (x : Nat) => decide (n ≤ (x : Int))) with
  | some x => .tuple #[I x, .bool true]
  | none => .tuple #[I 0, .bool false]
end
end Go.Vc
