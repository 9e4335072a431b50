/- slices of records: where each lies, and what a store leaves. -/
import Derived.Test.YtkgjibhbhddckaaQClTells10
namespace Go.Vc
open Go
variable {w : World} {α : Type} {f : α → List Value} {m : Nat}
theorem flC_len (hf : ∀ x, (f x).length = m) (l : List α) : (l.flatMap f).length = l.length * m := by
  induction l with
  | nil => simp
  | cons x r ih => rw [List.flatMap_cons, List.length_append, ih, hf, List.length_cons, Nat.succ_mul]; omega
theorem flC_at (hf : ∀ x, (f x).length = m) (h0 : 0 < m) : ∀ (l : List α) (k : Nat), (l.flatMap f)[k]? = (l[k / m]?).bind fun x => (f x)[k % m]?
  | [], k => by simp
  | y :: r, k => by
    rw [List.flatMap_cons]
    by_cases hk : k < m
    · rw [List.getElem?_append_left (by rw [hf]; exact hk), Nat.div_eq_of_lt hk, Nat.mod_eq_of_lt hk]; rfl
    · obtain ⟨k', rfl⟩ : ∃ k', k = k' + m := ⟨k - m, by omega⟩
      rw [List.getElem?_append_right (by rw [hf]; omega), hf, Nat.add_sub_cancel, flC_at hf h0 r k', Nat.add_div_right _ h0, Nat.add_mod_right]
      rfl
theorem flC_get (hf : ∀ x, (f x).length = m) {l : List α} {i j : Nat} {x : α} {v : Value} (hx : l[i]? = some x) (hv : (f x)[j]? = some v) : (l.flatMap f)[i * m + j]? = some v := by
  have hj : j < m := by rw [← hf x]; exact (List.getElem?_eq_some_iff.1 hv).1
  have e1 : (i * m + j) / m = i := by rw [Nat.mul_comm, Nat.mul_add_div (by omega), Nat.div_eq_of_lt hj]; omega
  have e2 : (i * m + j) % m = j := by rw [Nat.mul_comm, Nat.mul_add_mod, Nat.mod_eq_of_lt hj]
  rw [flC_at hf (by omega), e1, e2, hx]
  exact hv
theorem flC_set (hf : ∀ x, (f x).length = m) (h0 : 0 < m) {l : List α} {i : Nat} (x : α) (hi : i < l.length) (junk : List Value) : setMany (l.flatMap f ++ junk) (i * m) (f x) = (l.set i x).flatMap f ++ junk := by
  have hl := flC_len hf l
  have hl2 := flC_len hf (l.set i x)
  rw [List.length_set] at hl2
  have him : i * m + m ≤ l.length * m := by rw [← Nat.succ_mul]; exact Nat.mul_le_mul_right m hi
  apply List.ext_getElem?
  intro k
  rw [setMany_get _ _ _ _ (by rw [List.length_append, hf]; omega), hf]
  by_cases hk : i * m ≤ k ∧ k < i * m + m
  · obtain ⟨j, rfl⟩ : ∃ j, k = i * m + j := ⟨k - i * m, by omega⟩
    have hj : j < m := by omega
    have e1 : (i * m + j) / m = i := by rw [Nat.mul_comm, Nat.mul_add_div (by omega), Nat.div_eq_of_lt hj]; omega
    have e2 : (i * m + j) % m = j := by rw [Nat.mul_comm, Nat.mul_add_mod, Nat.mod_eq_of_lt hj]
    rw [if_pos hk, List.getElem?_append_left (by omega), flC_at hf h0, e1, e2, List.getElem?_set_self hi, Nat.add_sub_cancel_left]; rfl
  · rw [if_neg hk]
    by_cases hk2 : k < l.length * m
    · rw [List.getElem?_append_left (by omega), List.getElem?_append_left (by omega), flC_at hf h0, flC_at hf h0]
      have : k / m ≠ i := by
        rintro rfl
        have e := Nat.div_add_mod k m
        have h2 := Nat.mod_lt k h0
        rw [Nat.mul_comm] at e
        omega
      rw [List.getElem?_set_ne (fun e => this e.symm)]
    · rw [List.getElem?_append_right (by omega), List.getElem?_append_right (by omega), hl, hl2]
theorem set1_many (L : List Value) (i : Nat) (v : Value) : setMany L i [v] = L.set i v := rfl
theorem OwnS.rec {T : TypeId} {ad : Option Addr} {cap : Nat} {l : List α} (h : OwnS w T m ad l.length cap (l.flatMap f)) (hf : ∀ x, (f x).length = m) (h0 : 0 < m) {i : Nat} (hi : i < l.length) :
    ∃ b L, ad = some ⟨b, 0, none⟩ ∧ Blk w b L T ∧ i * m + m ≤ L.length ∧ (∀ x, l[i]? = some x → ∀ j v, (f x)[j]? = some v → L[i * m + j]? = some v) ∧
      ∀ x w', Upd w b (.cells ⟨setMany L (i * m) (f x)⟩ T (0, 0)) w' → OwnS w' T m ad l.length cap ((l.set i x).flatMap f) := by
  have hl := flC_len hf l
  have him : i * m + m ≤ l.length * m := by rw [← Nat.succ_mul]; exact Nat.mul_le_mul_right m hi
  cases ad with
  | none => obtain ⟨h1, _⟩ := h.2; omega
  | some ad =>
    obtain ⟨b, off, spot⟩ := ad
    obtain ⟨h1, h2, h3, h4, junk, h5, h6⟩ := h.2
    dsimp only at h1 h2 h5
    subst h1 h2
    refine ⟨b, l.flatMap f ++ junk, rfl, h5, by rw [List.length_append]; omega, fun x hx j v hv => ?_, fun x w' hu => ?_⟩
    · have := flC_get hf hx hv
      rw [List.getElem?_append_left (List.getElem?_eq_some_iff.1 this).1]; exact this
    · have hl2 := flC_len hf (l.set i x)
      rw [List.length_set] at hl2
      refine ⟨hl2, rfl, rfl, h3, h4, junk, ?_, ?_⟩
      · have := hu.blk
        rw [flC_set hf h0 x hi] at this
        exact this
      · rw [List.length_append] at h6 ⊢; omega
/-- one cell of a record is stored -/
theorem set_many_cell (L : List Value) {o j : Nat} {cs : List Value} {v : Value} (hL : ∀ j' v', cs[j']? = some v' → L[o + j']? = some v') (hlen : o + cs.length ≤ L.length) (hj : j < cs.length) : setMany L o (cs.set j v) = L.set (o + j) v := by
  apply List.ext_getElem?
  intro k
  rw [setMany_get _ _ _ _ (by simpa using hlen), List.length_set]
  by_cases hk : o ≤ k ∧ k < o + cs.length
  · rw [if_pos hk]
    obtain ⟨r, rfl⟩ : ∃ r, k = o + r := ⟨k - o, by omega⟩
    rw [Nat.add_sub_cancel_left]
    by_cases hr : j = r
    · subst hr
      rw [List.getElem?_set_self hj, List.getElem?_set_self (by omega)]
    · have hr2 : r < cs.length := by omega
      rw [List.getElem?_set_ne hr, List.getElem?_set_ne (by omega), List.getElem?_eq_getElem hr2, hL r _ (List.getElem?_eq_getElem hr2)]
  · rw [if_neg hk, List.getElem?_set_ne (by omega)]
theorem OwnS.readN {T : TypeId} {size : Nat} {ad : Option Addr} {n cap : Nat} {xs : List Value} (h : OwnS w T size ad n cap xs) : ReadS w ad xs := by
  cases ad with
  | none =>
    obtain ⟨h0, h1⟩ := h
    obtain ⟨h2, _⟩ := h1
    subst h2
    exact List.eq_nil_of_length_eq_zero (by omega)
  | some ad =>
    obtain ⟨b, off, spot⟩ := ad
    obtain ⟨_, h1, h2, _, _, junk, h5, _⟩ := h
    dsimp only at h1 h2 h5
    subst h1 h2
    refine ReadS.mk fun i v hv => ?_
    rw [Nat.zero_add]
    exact h5.cell (by rw [List.getElem?_append_left (List.getElem?_eq_some_iff.1 hv).1]; exact hv)
def upB (f : Nat → Bool) (k : Nat) (b : Bool) (i : Nat) : Bool := if i = k then b else f i
def bl (f : Nat → Bool) (n : Nat) : List Value := (List.range n).map fun i => .bool (f i)
theorem bl_len (f : Nat → Bool) (n : Nat) : (bl f n).length = n := by simp [bl]
theorem bl_get (f : Nat → Bool) {n i : Nat} (h : i < n) : (bl f n)[i]? = some (.bool (f i)) := by simp [bl, h]
theorem bl_set (f : Nat → Bool) (n i : Nat) (b : Bool) : (bl f n).set i (.bool b) = bl (upB f i b) n := by
  apply List.ext_getElem?
  intro j
  by_cases hj : j < n
  · rw [bl_get _ hj]
    by_cases hij : i = j
    · subst hij
      rw [List.getElem?_set_self (by rw [bl_len]; exact hj)]; simp [upB]
    · rw [List.getElem?_set_ne hij, bl_get _ hj]
      simp [upB, show ¬ j = i from fun h => hij h.symm]
  · rw [List.getElem?_eq_none (by rw [List.length_set, bl_len]; omega), List.getElem?_eq_none (by rw [bl_len]; omega)]
theorem bl_congr {f g : Nat → Bool} {n : Nat} (h : ∀ i, i < n → f i = g i) : bl f n = bl g n := by
  unfold bl
  apply List.map_congr_left
  intro i hi
  rw [h i (by simpa using hi)]
theorem bl_false (n : Nat) : List.replicate n (Value.bool false) = bl (fun _ => false) n := by
  apply List.ext_getElem?
  intro i
  rw [List.getElem?_replicate]
  by_cases hi : i < n
  · rw [if_pos hi, bl_get _ hi]
  · rw [if_neg hi, List.getElem?_eq_none (by rw [bl_len]; omega)]
open Classical in
noncomputable def propB (p : Prop) : Bool := decide p
open Classical in
theorem propB_iff {p : Prop} : propB p = true ↔ p := @decide_eq_true_iff _ _
theorem propB_congr {p q : Prop} (h : p ↔ q) : propB p = propB q := by rw [Bool.eq_iff_iff, propB_iff, propB_iff]; exact h
end Go.Vc
