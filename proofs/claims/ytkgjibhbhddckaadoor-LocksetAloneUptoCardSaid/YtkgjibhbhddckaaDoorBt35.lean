/- bits: the document's sets: right, New, Put, Del, Has, Len, Next. -/
import Derived.Test.YtkgjibhbhddckaaDoorBt27
namespace Go.Vc
open Go Go.Proofs
set_option maxRecDepth 10000
variable {w : World}

/-- a set's pointer, or nil -/
def optr : Option Nat → Value
  | none => .pointer none
  | some q => ptr q
def rightB (n : Int) : Bool := decide (0 ≤ n) && decide (n < 1048576)
theorem rightB_nat {n : Int} (h : rightB n = true) : ∃ k : Nat, n = (k : Int) ∧ k < 1048576 := by
  unfold rightB at h
  simp at h
  exact ⟨n.toNat, by omega, by omega⟩
theorem rightB_bad {n : Int} (h : rightB n = false) : n < 0 ∨ 1048576 ≤ n := by
  unfold rightB at h
  simp at h
  omega
theorem rightB_of {k : Nat} (h : k < 1048576) : rightB (k : Int) = true := by
  unfold rightB; simp; omega
theorem allOk_iff (l : List Int) : allOk l = l.all rightB := rfl
/-- rising, and each below the bound -/
structure Ris (l : List Nat) : Prop where
  sorted : l.Pairwise (· < ·)
  lt : ∀ x ∈ l, x < 1048576
theorem sorted_len {l : List Nat} {N : Nat} (hs : l.Pairwise (· < ·)) (hl : ∀ x ∈ l, x < N) : l.length ≤ N := by
  have e : l = (List.range N).filter (fun x => decide (x ∈ l)) :=
    sorted_ext hs (List.Pairwise.filter _ List.pairwise_lt_range) fun x =>
      ⟨fun hx => List.mem_filter.2 ⟨List.mem_range.2 (hl x hx), decide_eq_true hx⟩, fun hx => of_decide_eq_true (List.mem_filter.1 hx).2⟩
  rw [e]
  refine Nat.le_trans (List.length_filter_le _ _) ?_
  rw [List.length_range]; exact Nat.le_refl _
theorem Ris.len {l : List Nat} (h : Ris l) : l.length ≤ 1048576 := sorted_len h.sorted h.lt
theorem Ris.nil : Ris [] := ⟨List.Pairwise.nil, by simp⟩
theorem Ris.put {l : List Nat} (h : Ris l) {k : Nat} (hk : k < 1048576) : Ris (withL l k) :=
  ⟨sorted_withL h.sorted k, fun x hx => by
    rcases mem_withL.1 hx with hx | rfl
    · exact h.lt x hx
    · exact hk⟩
theorem Ris.filter {l : List Nat} (h : Ris l) (p : Nat → Bool) : Ris (l.filter p) := ⟨h.sorted.filter _, fun x hx => h.lt x (List.mem_filter.1 hx).1⟩
theorem ris_elems {ws : List Nat} (h : ws.length ≤ 16384) : Ris (elems ws) := ⟨elems_sorted ws, elems_lt h⟩
theorem elems_putW (ws : List Nat) (k : Nat) : elems (putW ws k) = withL (elems ws) k :=
  elems_withL fun j => by rw [bit_putW]; congr 1; simp [eq_comm]
theorem elems_delW {ws : List Nat} (hok : WOk ws) (k : Nat) : elems (delW ws k) = (elems ws).filter (fun x => decide (x ≠ k)) :=
  sorted_ext (elems_sorted _) ((elems_sorted _).filter _) fun x => by
    rw [List.mem_filter, mem_elems, mem_elems, bit_delW hok, Bool.and_eq_true, Bool.not_eq_true', decide_eq_false_iff_not, decide_eq_true_eq]
    exact and_congr_right fun _ => ⟨fun h e => h e.symm, fun h e => h e.symm⟩

section
variable {p : Nat} {l : List Nat} {ad : Option Addr} {cap : Nat}
/-- the first that is not below n -/
def nextL (l : List Nat) (n : Int) : Value := match l.find? (fun (x : Nat) => decide (n ≤ (x : Int))) with
  | some x => .tuple #[I x, .bool true]
  | none => .tuple #[I 0, .bool false]
end
end Go.Vc
