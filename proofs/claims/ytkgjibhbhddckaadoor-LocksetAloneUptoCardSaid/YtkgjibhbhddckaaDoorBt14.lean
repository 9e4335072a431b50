/- bits: what the document's words are; trim's last word. No program. -/
import Derived.Test.YtkgjibhbhddckaaDoorBt13
namespace Go.Vc
open Go

theorem trim_last : ∀ (ws : List Nat), trim ws = [] ∨ ∃ l x, trim ws = l ++ [x] ∧ x ≠ 0
  | [] => .inl rfl
  | x :: r => by
    have hh : trim (x :: r) = match trim r with | [] => if x = 0 then [] else [x] | y :: s => x :: y :: s := rfl
    cases ht : trim r with
    | nil =>
      rw [ht] at hh
      dsimp only at hh
      rw [hh]
      by_cases h0 : x = 0
      · left; simp [h0]
      · right; exact ⟨[], x, by simp [h0], h0⟩
    | cons y s =>
      rw [ht] at hh
      dsimp only at hh
      right
      rcases trim_last r with h1 | ⟨l, z, h1, h2⟩
      · rw [h1] at ht; cases ht
      · rw [hh, ← ht, h1]
        exact ⟨x :: l, z, by simp, h2⟩
theorem WOk.trim {ws : List Nat} (h : WOk ws) : WOk (trim ws) := fun x hx => by
  rw [trim_take] at hx; exact h x (List.mem_of_mem_take hx)
theorem bits_ext {a b : List Nat} (ha : WOk a) (hb : WOk b) (hl : a.length = b.length) (h : ∀ k, bit a k = bit b k) : a = b := by
  apply List.ext_getElem hl
  intro i h1 h2
  have e1 : a[i] = a.getD i 0 := by simp [List.getD_eq_getElem?_getD, h1]
  have e2 : b[i] = b.getD i 0 := by simp [List.getD_eq_getElem?_getD, h2]
  rw [e1, e2]
  apply Nat.eq_of_testBit_eq
  intro j
  by_cases hj : j < 64
  · have := h (64 * i + j)
    unfold bit at this
    have q1 : (64 * i + j) / 64 = i := by omega
    have q2 : (64 * i + j) % 64 = j := by omega
    rwa [q1, q2] at this
  · have p1 : a.getD i 0 < 2 ^ j := Nat.lt_of_lt_of_le (ha.getD i) (Nat.pow_le_pow_right (by omega) (by omega))
    have p2 : b.getD i 0 < 2 ^ j := Nat.lt_of_lt_of_le (hb.getD i) (Nat.pow_le_pow_right (by omega) (by omega))
    rw [Nat.testBit_lt_two_pow p1, Nat.testBit_lt_two_pow p2]
/-- the length of what is trimmed: the last number's word -/
theorem trim_len_bit {ws : List Nat} (hok : WOk ws) {k : Nat} (hb : bit ws k = true) : k / 64 < (trim ws).length := by
  rw [← bit_trim] at hb
  have := bit_lt hb; omega
theorem trim_has {ws : List Nat} (hok : WOk ws) (hne : trim ws ≠ []) : ∃ k, bit ws k = true ∧ k / 64 + 1 = (trim ws).length := by
  rcases trim_last ws with h | ⟨l, x, h, hx⟩
  · exact absurd h hne
  · have hxl : x < 2 ^ 64 := hok.trim x (by rw [h]; simp)
    obtain ⟨i, hi, h1, _⟩ := least_bit hxl hx
    refine ⟨64 * l.length + i, ?_, ?_⟩
    · rw [← bit_trim, h]
      unfold bit
      have q1 : (64 * l.length + i) / 64 = l.length := by omega
      have q2 : (64 * l.length + i) % 64 = i := by omega
      rw [q1, q2, List.getD_eq_getElem?_getD]
      simp [h1]
    · rw [h, List.length_append]
      simp; omega
theorem big_iff {ws : List Nat} (hok : WOk ws) : Big ws ↔ 16384 < (trim ws).length := by
  constructor
  · rintro ⟨k, h1, h2⟩
    have := trim_len_bit hok h2; omega
  · intro h
    obtain ⟨k, h1, h2⟩ := trim_has hok (by intro h0; rw [h0] at h; simp at h)
    exact ⟨k, by omega, h1⟩
theorem elems_trim (ws : List Nat) : elems (trim ws) = elems ws := by
  have hl := trim_len ws
  have e1 : elems (trim ws) = (List.range (64 * (trim ws).length)).filter (bit ws) := by
    unfold elems
    apply List.filter_congr
    intro j _
    exact bit_trim ws j
  have e2 : 64 * ws.length = 64 * (trim ws).length + (64 * ws.length - 64 * (trim ws).length) := by omega
  rw [e1]
  conv => rhs; unfold elems
  rw [e2, List.range_add, List.filter_append]
  have : (List.map (fun x => 64 * (trim ws).length + x) (List.range (64 * ws.length - 64 * (trim ws).length))).filter (bit ws) = [] := by
    rw [List.filter_eq_nil_iff]
    intro x hx
    obtain ⟨y, _, rfl⟩ := List.mem_map.1 hx
    intro hb
    rw [← bit_trim] at hb
    have := bit_lt hb; omega
  rw [this, List.append_nil]
theorem elems_sorted (ws : List Nat) : (elems ws).Pairwise (· < ·) := List.Pairwise.filter _ List.pairwise_lt_range

/-! ### The document's words -/
def owW (n : Nat) (l : List Nat) : List Nat := l.foldl (fun ws k => ws.set (k / 64) (ws.getD (k / 64) 0 + 2 ^ (k % 64))) (List.replicate n 0)
def refW (l : List Nat) : List Nat := match l.getLast? with
  | none => []
  | some k => owW (k / 64 + 1) l
theorem owW_snoc (n : Nat) (l : List Nat) (k : Nat) : owW n (l ++ [k]) = (owW n l).set (k / 64) ((owW n l).getD (k / 64) 0 + 2 ^ (k % 64)) := by
  unfold owW; rw [List.foldl_append]; rfl
theorem owW_len (n : Nat) (l : List Nat) : (owW n l).length = n := by
  unfold owW
  have : ∀ (l ws : List Nat), (l.foldl (fun ws k => ws.set (k / 64) (ws.getD (k / 64) 0 + 2 ^ (k % 64))) ws).length = ws.length := by
    intro l
    induction l with
    | nil => intro ws; rfl
    | cons k r ih => intro ws; simp only [List.foldl_cons]; rw [ih]; simp
  rw [this]; simp
theorem owW_take {n : Nat} {l : List Nat} (hs : l.Pairwise (· < ·)) (hn : ∀ k ∈ l, k / 64 < n) (i : Nat) (hi : i ≤ l.length) :
    WOk (owW n (l.take i)) ∧ ∀ j, bit (owW n (l.take i)) j = decide (j ∈ l.take i) := by
  induction i with
  | zero =>
    refine ⟨WOk.zeros n, fun j => ?_⟩
    unfold bit owW
    simp [List.getD_eq_getElem?_getD, List.getElem?_replicate]
    split <;> simp
  | succ i ih =>
    obtain ⟨h1, h2⟩ := ih (by omega)
    have hlt : i < l.length := by omega
    have htk : l.take (i + 1) = l.take i ++ [l[i]] := by rw [List.take_add_one, List.getElem?_eq_getElem hlt]; rfl
    have hlow : ∀ j, j ∈ l.take i → j < l[i] := by
      intro j hj
      have hp := hs
      rw [← List.take_append_drop (i + 1) l, htk] at hp
      exact (List.pairwise_append.1 (List.pairwise_append.1 hp).1).2.2 j hj _ (by simp)
    have hk := hn l[i] (List.getElem_mem hlt)
    rw [htk, owW_snoc]
    generalize l[i] = k at hlow hk
    have hx : (owW n (l.take i)).getD (k / 64) 0 < 2 ^ (k % 64) := by
      apply Nat.lt_pow_two_of_testBit
      intro j hj
      by_cases hj64 : j < 64
      · have := h2 (64 * (k / 64) + j)
        unfold bit at this
        have q1 : (64 * (k / 64) + j) / 64 = k / 64 := by omega
        have q2 : (64 * (k / 64) + j) % 64 = j := by omega
        rw [q1, q2] at this
        rw [this, decide_eq_false]
        intro hm
        have := hlow _ hm; omega
      · exact Nat.testBit_lt_two_pow (Nat.lt_of_lt_of_le (h1.getD _) (Nat.pow_le_pow_right (by omega) (by omega)))
    have hadd : (owW n (l.take i)).getD (k / 64) 0 + 2 ^ (k % 64) = (owW n (l.take i)).getD (k / 64) 0 ||| 2 ^ (k % 64) := by
      have := Nat.two_pow_add_eq_or_of_lt hx 1
      rw [Nat.mul_one] at this
      rw [Nat.add_comm, this, Nat.or_comm]
    rw [hadd]
    have hlen := owW_len n (l.take i)
    refine ⟨h1.set (Nat.or_lt_two_pow (h1.getD _) (Nat.pow_lt_pow_right (by omega) (by omega))), fun j => ?_⟩
    unfold bit
    rw [getD_set _ _ _ _ (by omega)]
    have h2j := h2 j
    unfold bit at h2j
    by_cases hjk : k / 64 = j / 64
    · rw [if_pos hjk, Nat.testBit_or, Nat.testBit_two_pow, hjk, h2j, Bool.eq_iff_iff]
      simp
      constructor
      · rintro (h | h)
        · exact .inl h
        · right; omega
      · rintro (h | h)
        · exact .inl h
        · right; omega
    · rw [if_neg hjk, h2j, decide_eq_decide]
      constructor
      · intro h; exact List.mem_append_left _ h
      · intro h
        rcases List.mem_append.1 h with h | h
        · exact h
        · simp at h; subst h; exact absurd rfl hjk
theorem refW_elems {ws : List Nat} (hok : WOk ws) : refW (elems ws) = trim ws := by
  unfold refW
  cases hl : (elems ws).getLast? with
  | none =>
    have he : elems ws = [] := by simpa using hl
    by_cases hne : trim ws = []
    · exact hne.symm
    · obtain ⟨k, h1, _⟩ := trim_has hok hne
      have := mem_elems.2 h1
      rw [he] at this; cases this
  | some k =>
    dsimp only
    have hmem : k ∈ elems ws := List.mem_of_getLast? hl
    have hmax : ∀ j ∈ elems ws, j ≤ k := by
      intro j hj
      have hs := elems_sorted ws
      obtain ⟨pre, hp⟩ : ∃ pre, elems ws = pre ++ [k] := List.getLast?_eq_some_iff.1 hl
      rw [hp] at hs hj
      rcases List.mem_append.1 hj with h | h
      · exact Nat.le_of_lt ((List.pairwise_append.1 hs).2.2 j h k (by simp))
      · simp at h; omega
    have h1 := trim_len_bit hok (mem_elems.1 hmem)
    obtain ⟨k', h2, h3⟩ := trim_has hok (by intro h0; rw [h0] at h1; simp at h1)
    have h4 := hmax k' (mem_elems.2 h2)
    have hlen : (trim ws).length = k / 64 + 1 := by omega
    have ho := owW_take (n := k / 64 + 1) (elems_sorted ws) (fun j hj => by have := hmax j hj; omega) (elems ws).length (Nat.le_refl _)
    rw [List.take_length] at ho
    refine bits_ext ho.1 hok.trim (by rw [owW_len, hlen]) (fun j => ?_)
    rw [ho.2 j, bit_trim]
    cases hb : bit ws j with
    | true => exact decide_eq_true (mem_elems.2 hb)
    | false => exact decide_eq_false (fun h => by have := mem_elems.1 h; rw [hb] at this; cases this)
end Go.Vc
