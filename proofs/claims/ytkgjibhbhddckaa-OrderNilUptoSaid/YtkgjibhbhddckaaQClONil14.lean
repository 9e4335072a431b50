/- bits: what the document's words are; trim's last word. No program. -/
import Derived.Test.YtkgjibhbhddckaaQClONil13
import Derived.Test.YtkgjibhbhddckaaQClONil5
import Derived.OpenShut
namespace Go.Vc
open Go

theorem trim_last : ∀ (ws : List Nat), trim ws = [] ∨ ∃ l x, trim ws = l ++ [x] ∧ x ≠ 0
  | [] => .inl rfl
  | x :: r => by
    have hh : trim (x :: r) = match trim r with | [] => if x = 0 then [] else [x] | y :: s => x :: y :: s := rfl
    cases ht : trim r with
    | nil =>
      rw [ht] at hh
      dsimp only at hh
      rw [hh]
      by_cases h0 : x = 0
      · left; simp [h0]
      · right; exact ⟨[], x, by simp [h0], h0⟩
    | cons y s =>
      rw [ht] at hh
      dsimp only at hh
      right
      rcases trim_last r with h1 | ⟨l, z, h1, h2⟩
      · rw [h1] at ht; cases ht
      · rw [hh, ← ht, h1]
        exact ⟨x :: l, z, by simp, h2⟩
theorem WOk.trim {ws : List Nat} (h : WOk ws) : WOk (trim ws) := fun x hx => by
  rw [trim_take] at hx; exact h x (List.mem_of_mem_take hx)
theorem bits_ext {a b : List Nat} (ha : WOk a) (hb : WOk b) (hl : a.length = b.length) (h : ∀ k, bit a k = bit b k) : a = b := by
  apply List.ext_getElem hl
  intro i h1 h2
  have e1 : a[i] = a.getD i 0 := by simp [List.getD_eq_getElem?_getD, h1]
  have e2 : b[i] = b.getD i 0 := by simp [List.getD_eq_getElem?_getD, h2]
  rw [e1, e2]
  apply Nat.eq_of_testBit_eq
  intro j
  by_cases hj : j < 64
  · have := h (64 * i + j)
    unfold bit at this
    have q1 : (64 * i + j) / 64 = i := by omega
    have q2 : (64 * i + j) % 64 = j := by omega
    rwa [q1, q2] at this
  · have p1 : a.getD i 0 < 2 ^ j := Nat.lt_of_lt_of_le (ha.getD i) (Nat.pow_le_pow_right (by omega) (by omega))
    have p2 : b.getD i 0 < 2 ^ j := Nat.lt_of_lt_of_le (hb.getD i) (Nat.pow_le_pow_right (by omega) (by omega))
    rw [Nat.testBit_lt_two_pow p1, Nat.testBit_lt_two_pow p2]
/-- the length of what is trimmed: the last number's word -/
theorem trim_len_bit {ws : List Nat} (hok : WOk ws) {k : Nat} (hb : bit ws k = true) : k / 64 < (trim ws).length := by
  rw [← bit_trim] at hb
  have := bit_lt hb; omega
theorem trim_has {ws : List Nat} (hok : WOk ws) (hne : trim ws ≠ []) : ∃ k, bit ws k = true ∧ k / 64 + 1 = (trim ws).length := by
  rcases trim_last ws with h | ⟨l, x, h, hx⟩
  · exact absurd h hne
  · have hxl : x < 2 ^ 64 := hok.trim x (by rw [h]; simp)
    obtain ⟨i, hi, h1, _⟩ := least_bit hxl hx
    refine ⟨64 * l.length + i, ?_, ?_⟩
    · rw [← bit_trim, h]
      unfold bit
      have q1 : (64 * l.length + i) / 64 = l.length := by omega
      have q2 : (64 * l.length + i) % 64 = i := by omega
      rw [q1, q2, List.getD_eq_getElem?_getD]
      simp [h1]
    · rw [h, List.length_append]
      simp; omega
theorem big_iff {ws : List Nat} (hok : WOk ws) : Big ws ↔ 16384 < (trim ws).length := by
  constructor
  · rintro ⟨k, h1, h2⟩
    have := trim_len_bit hok h2; omega
  · intro h
    obtain ⟨k, h1, h2⟩ := trim_has hok (by intro h0; rw [h0] at h; simp at h)
    exact ⟨k, by omega, h1⟩
theorem elems_trim (ws : List Nat) : elems (trim ws) = elems ws := by
  have hl := trim_len ws
  have e1 : elems (trim ws) = (List.range (64 * (trim ws).length)).filter (bit ws) := by
    unfold elems
    apply List.filter_congr
    intro j _
    exact bit_trim ws j
  have e2 : 64 * ws.length = 64 * (trim ws).length + (64 * ws.length - 64 * (trim ws).length) := by omega
  rw [e1]
  conv => rhs; unfold elems
  rw [e2, List.range_add, List.filter_append]
  have : (List.map (fun x => 64 * (trim ws).length + x) (List.range (64 * ws.length - 64 * (trim ws).length))).filter (bit ws) = [] := by
    rw [List.filter_eq_nil_iff]
    intro x hx
    obtain ⟨y, _, rfl⟩ := List.mem_map.1 hx
    intro hb
    rw [← bit_trim] at hb
    have := bit_lt hb; omega
  rw [this, List.append_nil]
theorem elems_sorted (ws : List Nat) : (elems ws).Pairwise (· < ·) := List.Pairwise.filter _ List.pairwise_lt_range

/-! ### The document's words -/
def owW (n : Nat) (l : List Nat) : List Nat := l.foldl (fun ws k => ws.set (k / 64) (ws.getD (k / 64) 0 + 2 ^ (k % 64))) (List.replicate n 0)
def refW (l : List Nat) : List Nat := match l.getLast? with
  | none => []
  | some k => owW (k / 64 + 1) l
theorem owW_snoc (n : Nat) (l : List Nat) (k : Nat) : owW n (l ++ [k]) = (owW n l).set (k / 64) ((owW n l).getD (k / 64) 0 + 2 ^ (k % 64)) := by
  unfold owW; rw [List.foldl_append]; rfl
theorem owW_len (n : Nat) (l : List Nat) : (owW n l).length = n := by
  unfold owW
  have : ∀ (l ws : List Nat), (l.foldl (fun ws k => ws.set (k / 64) (ws.getD (k / 64) 0 + 2 ^ (k % 64))) ws).length = ws.length := by
    intro l
    induction l with
    | nil => intro ws; rfl
    | cons k r ih => intro ws; simp only [List.foldl_cons]; rw [ih]; simp
  rw [this]; simp
theorem owW_take {n : Nat} {l : List Nat} (hs : l.Pairwise (· < ·)) (hn : ∀ k ∈ l, k / 64 < n) (i : Nat) (hi : i ≤ l.length) :
    WOk (owW n (l.take i)) ∧ ∀ j, bit (owW n (l.take i)) j = decide (j ∈ l.take i) := by
  induction i with
  | zero =>
    refine ⟨WOk.zeros n, fun j => ?_⟩
    unfold bit owW
    simp [List.getD_eq_getElem?_getD, List.getElem?_replicate]
    split <;> simp
  | succ i ih =>
    obtain ⟨h1, h2⟩ := ih (by omega)
    have hlt : i < l.length := by omega
    have htk : l.take (i + 1) = l.take i ++ [l[i]] := by rw [List.take_add_one, List.getElem?_eq_getElem hlt]; rfl
    have hlow : ∀ j, j ∈ l.take i → j < l[i] := by
      intro j hj
      have hp := hs
      rw [← List.take_append_drop (i + 1) l, htk] at hp
      exact (List.pairwise_append.1 (List.pairwise_append.1 hp).1).2.2 j hj _ (by simp)
    have hk := hn l[i] (List.getElem_mem hlt)
    rw [htk, owW_snoc]
    generalize l[i] = k at hlow hk
    have hx : (owW n (l.take i)).getD (k / 64) 0 < 2 ^ (k % 64) := by
      apply Nat.lt_pow_two_of_testBit
      intro j hj
      by_cases hj64 : j < 64
      · have := h2 (64 * (k / 64) + j)
        unfold bit at this
        have q1 : (64 * (k / 64) + j) / 64 = k / 64 := by omega
        have q2 : (64 * (k / 64) + j) % 64 = j := by omega
        rw [q1, q2] at this
        rw [this, decide_eq_false]
        intro hm
        have := hlow _ hm; omega
      · exact Nat.testBit_lt_two_pow (Nat.lt_of_lt_of_le (h1.getD _) (Nat.pow_le_pow_right (by omega) (by omega)))
    have hadd : (owW n (l.take i)).getD (k / 64) 0 + 2 ^ (k % 64) = (owW n (l.take i)).getD (k / 64) 0 ||| 2 ^ (k % 64) := by
      have := Nat.two_pow_add_eq_or_of_lt hx 1
      rw [Nat.mul_one] at this
      rw [Nat.add_comm, this, Nat.or_comm]
    rw [hadd]
    have hlen := owW_len n (l.take i)
    refine ⟨h1.set (Nat.or_lt_two_pow (h1.getD _) (Nat.pow_lt_pow_right (by omega) (by omega))), fun j => ?_⟩
    unfold bit
    rw [getD_set _ _ _ _ (by omega)]
    have h2j := h2 j
    unfold bit at h2j
    by_cases hjk : k / 64 = j / 64
    · rw [if_pos hjk, Nat.testBit_or, Nat.testBit_two_pow, hjk, h2j, Bool.eq_iff_iff]
      simp
      constructor
      · rintro (h | h)
        · exact .inl h
        · right; omega
      · rintro (h | h)
        · exact .inl h
        · right; omega
    · rw [if_neg hjk, h2j, decide_eq_decide]
      constructor
      · intro h; exact List.mem_append_left _ h
      · intro h
        rcases List.mem_append.1 h with h | h
        · exact h
        · simp at h; subst h; exact absurd rfl hjk
theorem refW_elems {ws : List Nat} (hok : WOk ws) : refW (elems ws) = trim ws := by
  unfold refW
  cases hl : (elems ws).getLast? with
  | none =>
    have he : elems ws = [] := by simpa using hl
    by_cases hne : trim ws = []
    · exact hne.symm
    · obtain ⟨k, h1, _⟩ := trim_has hok hne
      have := mem_elems.2 h1
      rw [he] at this; cases this
  | some k =>
    dsimp only
    have hmem : k ∈ elems ws := List.mem_of_getLast? hl
    have hmax : ∀ j ∈ elems ws, j ≤ k := by
      intro j hj
      have hs := elems_sorted ws
      obtain ⟨pre, hp⟩ : ∃ pre, elems ws = pre ++ [k] := List.getLast?_eq_some_iff.1 hl
      rw [hp] at hs hj
      rcases List.mem_append.1 hj with h | h
      · exact Nat.le_of_lt ((List.pairwise_append.1 hs).2.2 j h k (by simp))
      · simp at h; omega
    have h1 := trim_len_bit hok (mem_elems.1 hmem)
    obtain ⟨k', h2, h3⟩ := trim_has hok (by intro h0; rw [h0] at h1; simp at h1)
    have h4 := hmax k' (mem_elems.2 h2)
    have hlen : (trim ws).length = k / 64 + 1 := by omega
    have ho := owW_take (n := k / 64 + 1) (elems_sorted ws) (fun j hj => by have := hmax j hj; omega) (elems ws).length (Nat.le_refl _)
    rw [List.take_length] at ho
    refine bits_ext ho.1 hok.trim (by rw [owW_len, hlen]) (fun j => ?_)
    rw [ho.2 j, bit_trim]
    cases hb : bit ws j with
    | true => exact decide_eq_true (mem_elems.2 hb)
    | false => exact decide_eq_false (fun h => by have := mem_elems.1 h; rw [hb] at this; cases this)
end Go.Vc
/- bits: Of; the document's Words; sameWords. -/
namespace Go.Vc
open Go Go.Proofs
set_option maxRecDepth 10000
variable {w : World}

/-! ### A set of any length, and trim -/
section
variable {p : Nat} {ws : List Nat} {ad : Option Addr} {cap : Nat}
end

/-! ### The document's Words -/
theorem shl_weight {k : Nat} (hk : k < 63) : IntKind.u64.wrap (((2 ^ k : Nat) : Int) * 2) = ((2 ^ (k + 1) : Nat) : Int) := by
  rw [wrapU, Nat.pow_succ]
  have : 2 ^ k < 2 ^ 63 := Nat.pow_lt_pow_right (by omega) hk
  generalize 2 ^ k = z at this ⊢
  omega
end Go.Vc
/- bits: what the operations on words do to the numbers. No program. -/
namespace Go.Vc
open Go

/-- its last word is not 0 -/
def Tr (ws : List Nat) : Prop := trim ws = ws
theorem tr_trim (ws : List Nat) : Tr (trim ws) := by
  rcases trim_last ws with h | ⟨l, x, h, hx⟩
  · unfold Tr; rw [h]; rfl
  · unfold Tr; rw [h]; exact trim_snoc hx
theorem Tr.top {ws : List Nat} (h : Tr ws) (hok : WOk ws) (hne : ws ≠ []) : ∃ k, bit ws k = true ∧ k / 64 + 1 = ws.length := by
  have := trim_has hok (by rw [h]; exact hne)
  rwa [h] at this
theorem tr_of_top {ws : List Nat} (hok : WOk ws) {k : Nat} (hb : bit ws k = true) (hk : k / 64 + 1 = ws.length) : Tr ws := by
  have h1 := trim_len_bit hok hb
  have h2 := trim_len ws
  unfold Tr
  rw [trim_take, List.take_of_length_le (by omega)]
theorem tr_nil : Tr [] := rfl
theorem tr_ext {a b : List Nat} (ha : Tr a) (hb : Tr b) (hoa : WOk a) (hob : WOk b) (h : ∀ k, bit a k = bit b k) : a = b := by
  refine bits_ext hoa hob ?_ h
  have key : ∀ {a b : List Nat}, Tr a → WOk a → (∀ k, bit a k = bit b k) → a.length ≤ b.length := by
    intro a b ha hoa h
    by_cases hne : a = []
    · subst hne; simp
    · obtain ⟨k, h1, h2⟩ := ha.top hoa hne
      rw [h k] at h1
      have := bit_lt h1; omega
  have := key ha hoa h
  have := key hb hob (fun k => (h k).symm)
  omega
theorem putW_len (ws : List Nat) (k : Nat) : (putW ws k).length = max ws.length (k / 64 + 1) := by
  unfold putW; simp; omega
theorem tr_putW {ws : List Nat} (hok : WOk ws) (h : Tr ws) (k : Nat) : Tr (putW ws k) := by
  have hok' : WOk (putW ws k) := by
    unfold putW
    exact (hok.append (WOk.zeros _)).set (Nat.or_lt_two_pow ((hok.append (WOk.zeros _)).getD _) (Nat.pow_lt_pow_right (by omega) (by omega)))
  have hl := putW_len ws k
  by_cases hk : ws.length ≤ k / 64 + 1
  · exact tr_of_top hok' (k := k) (by rw [bit_putW]; simp) (by omega)
  · obtain ⟨k', h1, h2⟩ := h.top hok (by rintro rfl; simp at hk)
    exact tr_of_top hok' (k := k') (by rw [bit_putW, h1]; rfl) (by omega)
theorem WOk.putW {ws : List Nat} (hok : WOk ws) (k : Nat) : WOk (putW ws k) := by
  unfold Vc.putW
  exact (hok.append (WOk.zeros _)).set (Nat.or_lt_two_pow ((hok.append (WOk.zeros _)).getD _) (Nat.pow_lt_pow_right (by omega) (by omega)))
theorem tr_newW (l : List Int) : ∀ (ws : List Nat), WOk ws → Tr ws → WOk (newW l ws) ∧ Tr (newW l ws) := by
  induction l with
  | nil => exact fun ws h1 h2 => ⟨h1, h2⟩
  | cons n r ih => intro ws h1 h2; exact ih _ (h1.putW _) (tr_putW h1 h2 _)
theorem tr_delW {ws : List Nat} (h : Tr ws) (k : Nat) : Tr (delW ws k) := by
  unfold delW
  split
  · exact tr_trim _
  · exact h

theorem updW_getD' (f : Nat → Nat → Nat) (ws vs : List Nat) (n i : Nat) : (updW f ws vs n).getD i 0 = if i < ws.length then (if i < n then f (ws.getD i 0) (vs.getD i 0) else ws.getD i 0) else 0 := by
  by_cases hi : i < ws.length
  · rw [if_pos hi, updW_getD _ _ _ _ _ hi]
  · rw [if_neg hi, List.getD_eq_getElem?_getD, List.getElem?_eq_none (by rw [updW_len]; omega)]; rfl
theorem getD_beyond {ws : List Nat} {i : Nat} (h : ws.length ≤ i) : ws.getD i 0 = 0 := by
  rw [List.getD_eq_getElem?_getD, List.getElem?_eq_none h]; rfl
theorem growW_getD (ws : List Nat) (n i : Nat) : (growW ws n).getD i 0 = ws.getD i 0 := getD_zeros ws _ i
theorem bit_growW (ws : List Nat) (n j : Nat) : bit (growW ws n) j = bit ws j := by unfold bit; rw [growW_getD]
theorem take_getD (ws : List Nat) (n i : Nat) : (ws.take n).getD i 0 = if i < n then ws.getD i 0 else 0 := by
  rw [List.getD_eq_getElem?_getD, List.getD_eq_getElem?_getD, List.getElem?_take]
  split <;> rfl
theorem bit_keepW (ws vs : List Nat) (j : Nat) : bit (keepW ws vs) j = (bit ws j && bit vs j) := by
  unfold keepW
  rw [bit_trim]
  unfold bit
  rw [updW_getD']
  have hl : (ws.take (min ws.length vs.length)).length = min ws.length vs.length := by simp
  rw [hl, take_getD]
  by_cases h : j / 64 < min ws.length vs.length
  · rw [if_pos h, if_pos h, if_pos h, Nat.testBit_and]
  · rw [if_neg h, Nat.zero_testBit]
    by_cases h2 : j / 64 < ws.length
    · rw [getD_beyond (ws := vs) (by omega), Nat.zero_testBit, Bool.and_false]
    · rw [getD_beyond (ws := ws) (by omega), Nat.zero_testBit, Bool.false_and]
theorem bit_dropW {ws vs : List Nat} (hv : WOk vs) (j : Nat) : bit (dropW ws vs) j = (bit ws j && !bit vs j) := by
  unfold dropW
  rw [bit_trim]
  unfold bit
  rw [updW_getD']
  by_cases h : j / 64 < ws.length
  · rw [if_pos h]
    by_cases h2 : j / 64 < vs.length
    · rw [if_pos (by omega), testBit_andn (hv.getD _) (by omega)]
    · rw [if_neg (by omega), getD_beyond (ws := vs) (by omega), Nat.zero_testBit]; simp
  · rw [if_neg h, getD_beyond (ws := ws) (by omega), Nat.zero_testBit, Bool.false_and]
theorem bit_turnW (ws vs : List Nat) (j : Nat) : bit (turnW ws vs) j = (bit ws j ^^ bit vs j) := by
  unfold turnW
  rw [bit_trim]
  unfold bit
  rw [updW_getD', growW_len, growW_getD]
  by_cases h : j / 64 < max ws.length vs.length
  · rw [if_pos h]
    by_cases h2 : j / 64 < vs.length
    · rw [if_pos h2, Nat.testBit_xor]
    · rw [if_neg h2, getD_beyond (ws := vs) (by omega), Nat.zero_testBit]; simp
  · rw [if_neg h, getD_beyond (ws := ws) (by omega), getD_beyond (ws := vs) (by omega), Nat.zero_testBit]; rfl
theorem bit_joinW (ws vs : List Nat) (j : Nat) : bit (joinW ws vs) j = (bit ws j || bit vs j) := by
  unfold joinW bit
  rw [updW_getD', growW_len, growW_getD]
  by_cases h : j / 64 < max ws.length vs.length
  · rw [if_pos h]
    by_cases h2 : j / 64 < vs.length
    · rw [if_pos h2, Nat.testBit_or]
    · rw [if_neg h2, getD_beyond (ws := vs) (by omega), Nat.zero_testBit]; simp
  · rw [if_neg h, getD_beyond (ws := ws) (by omega), getD_beyond (ws := vs) (by omega), Nat.zero_testBit]; rfl
theorem joinW_len (ws vs : List Nat) : (joinW ws vs).length = max ws.length vs.length := by unfold joinW; rw [updW_len, growW_len]
theorem WOk.joinW {ws vs : List Nat} (h : WOk ws) (k : WOk vs) : WOk (joinW ws vs) := by
  intro x hx
  unfold Vc.joinW updW at hx
  obtain ⟨i, _, rfl⟩ := List.mem_map.1 hx
  rw [growW_getD]
  split
  · exact Nat.or_lt_two_pow (h.getD _) (k.getD _)
  · exact h.getD _
theorem tr_joinW {ws vs : List Nat} (h : WOk ws) (k : WOk vs) (ht : Tr ws) (kt : Tr vs) : Tr (joinW ws vs) := by
  have hl := joinW_len ws vs
  by_cases h0 : ws = [] ∧ vs = []
  · obtain ⟨rfl, rfl⟩ := h0; rfl
  · by_cases hlt : ws.length ≤ vs.length
    · obtain ⟨i, h1, h2⟩ := kt.top k (by rintro rfl; simp at hlt; exact h0 ⟨hlt, rfl⟩)
      exact tr_of_top (h.joinW k) (k := i) (by rw [bit_joinW, h1, Bool.or_true]) (by omega)
    · obtain ⟨i, h1, h2⟩ := ht.top h (by rintro rfl; simp at hlt)
      exact tr_of_top (h.joinW k) (k := i) (by rw [bit_joinW, h1, Bool.true_or]) (by omega)

theorem zero_of_bits {x : Nat} (hx : x < 2 ^ 64) (h : ∀ i, i < 64 → x.testBit i = false) : x = 0 := by
  apply Nat.eq_of_testBit_eq
  intro i
  rw [Nat.zero_testBit]
  by_cases hi : i < 64
  · exact h i hi
  · exact Nat.testBit_lt_two_pow (Nat.lt_of_lt_of_le hx (Nat.pow_le_pow_right (by omega) (by omega)))
theorem word_bit (ws : List Nat) (i k : Nat) (hk : k < 64) : bit ws (64 * i + k) = (ws.getD i 0).testBit k := by
  unfold bit
  have h1 : (64 * i + k) / 64 = i := by omega
  have h2 : (64 * i + k) % 64 = k := by omega
  rw [h1, h2]
theorem withinW_iff {ws vs : List Nat} (hw : WOk ws) (hv : WOk vs) (ht : Tr ws) : withinW ws vs = true ↔ ∀ j, bit ws j = true → bit vs j = true := by
  unfold withinW
  rw [Bool.and_eq_true, decide_eq_true_eq, List.all_eq_true]
  constructor
  · rintro ⟨_, h⟩ j hj
    have hl := bit_lt hj
    have := of_decide_eq_true (h (j / 64) (by simp; omega))
    have h2 := testBit_andn (a := ws.getD (j / 64) 0) (hv.getD (j / 64)) (by omega : j % 64 < 64)
    rw [this, Nat.zero_testBit] at h2
    unfold bit at hj ⊢
    rw [hj] at h2
    cases hh : (vs.getD (j / 64) 0).testBit (j % 64) with
    | true => rfl
    | false => rw [hh] at h2; cases h2
  · intro h
    constructor
    · by_cases hne : ws = []
      · subst hne; simp
      · obtain ⟨k, h1, h2⟩ := ht.top hw hne
        have := bit_lt (h k h1); omega
    · intro i _
      refine decide_eq_true (zero_of_bits (andn_lt (hw.getD i)) fun k hk => ?_)
      rw [testBit_andn (hv.getD i) hk]
      have := h (64 * i + k)
      rw [word_bit _ _ _ hk, word_bit _ _ _ hk] at this
      cases h1 : (ws.getD i 0).testBit k with
      | false => rfl
      | true => rw [this h1]; rfl
theorem meetsW_iff {ws vs : List Nat} (hw : WOk ws) : meetsW ws vs = true ↔ ∃ j, bit ws j = true ∧ bit vs j = true := by
  unfold meetsW
  rw [List.any_eq_true]
  constructor
  · rintro ⟨i, hi, h⟩
    have h := of_decide_eq_true h
    have hlt : ws.getD i 0 &&& vs.getD i 0 < 2 ^ 64 := and_lt (hw.getD i)
    obtain ⟨k, hk, h1, _⟩ := least_bit hlt h
    rw [Nat.testBit_and, Bool.and_eq_true] at h1
    exact ⟨64 * i + k, by rw [word_bit _ _ _ hk]; exact h1.1, by rw [word_bit _ _ _ hk]; exact h1.2⟩
  · rintro ⟨j, h1, h2⟩
    have l1 := bit_lt h1
    have l2 := bit_lt h2
    refine ⟨j / 64, by simp; omega, decide_eq_true fun h0 => ?_⟩
    have := congrArg (fun x => x.testBit (j % 64)) h0
    simp only [Nat.testBit_and, Nat.zero_testBit] at this
    unfold bit at h1 h2
    rw [h1, h2] at this; cases this
theorem moreN_iff {ws vs : List Nat} (hw : WOk ws) (hv : WOk vs) : moreN (growW ws vs.length) vs vs.length = true ↔ ∃ j, bit vs j = true ∧ bit ws j = false := by
  unfold moreN
  rw [List.any_eq_true]
  constructor
  · rintro ⟨i, hi, h⟩
    have h := of_decide_eq_true h
    rw [growW_getD] at h
    obtain ⟨k, hk, h1, _⟩ := least_bit (andn_lt (hv.getD i)) h
    rw [testBit_andn (hw.getD i) hk, Bool.and_eq_true] at h1
    exact ⟨64 * i + k, by rw [word_bit _ _ _ hk]; exact h1.1, by rw [word_bit _ _ _ hk]; simpa using h1.2⟩
  · rintro ⟨j, h1, h2⟩
    have l1 := bit_lt h1
    refine ⟨j / 64, by simp; omega, decide_eq_true fun h0 => ?_⟩
    rw [growW_getD] at h0
    have h3 := testBit_andn (a := vs.getD (j / 64) 0) (hw.getD (j / 64)) (by omega : j % 64 < 64)
    rw [h0, Nat.zero_testBit] at h3
    unfold bit at h1 h2
    rw [h1, h2] at h3; cases h3
theorem eq_iff_bits {a b : List Nat} (ha : Tr a) (hb : Tr b) (hoa : WOk a) (hob : WOk b) : a = b ↔ ∀ k, bit a k = bit b k := ⟨fun h k => by rw [h], tr_ext ha hb hoa hob⟩

/-! ### Counting -/
theorem elems_upto {ws : List Nat} {N : Nat} (h : 64 * ws.length ≤ N) : elems ws = (List.range N).filter (bit ws) := by
  obtain ⟨d, rfl⟩ : ∃ d, N = 64 * ws.length + d := ⟨N - 64 * ws.length, by omega⟩
  rw [List.range_add, List.filter_append]
  have : (List.map (fun x => 64 * ws.length + x) (List.range d)).filter (bit ws) = [] := by
    rw [List.filter_eq_nil_iff]
    intro x hx
    obtain ⟨y, _, rfl⟩ := List.mem_map.1 hx
    intro hb
    have := bit_lt hb; omega
  rw [this, List.append_nil]; rfl
theorem count_or (l : List Nat) (p q : Nat → Bool) : (l.filter fun j => p j || q j).length + (l.filter fun j => p j && q j).length = (l.filter p).length + (l.filter q).length := by
  induction l with
  | nil => rfl
  | cons x r ih =>
    simp only [List.filter_cons]
    cases hp : p x <;> cases hq : q x <;> simp <;> omega
theorem count_drop (l : List Nat) (p q : Nat → Bool) : (l.filter fun j => p j && !q j).length + (l.filter fun j => p j && q j).length = (l.filter p).length := by
  induction l with
  | nil => rfl
  | cons x r ih =>
    simp only [List.filter_cons]
    cases hp : p x <;> cases hq : q x <;> simp <;> omega
theorem count_turn (l : List Nat) (p q : Nat → Bool) : (l.filter fun j => p j ^^ q j).length + (l.filter fun j => p j && q j).length = (l.filter fun j => p j || q j).length := by
  induction l with
  | nil => rfl
  | cons x r ih =>
    simp only [List.filter_cons]
    cases hp : p x <;> cases hq : q x <;> simp <;> omega
theorem elems_len_of {ws : List Nat} {N : Nat} (p : Nat → Bool) (h : 64 * ws.length ≤ N) (hp : ∀ j, bit ws j = p j) : (elems ws).length = ((List.range N).filter p).length := by
  rw [elems_upto h]
  congr 1
  apply List.filter_congr
  intro j _
  exact hp j
theorem nodup_length_le {a : List Nat} : ∀ {b : List Nat}, a.Nodup → (∀ x ∈ a, x ∈ b) → a.length ≤ b.length := by
  induction a with
  | nil => intros; simp
  | cons x r ih =>
    intro b hn hs
    have hx := hs x (by simp)
    have h1 := List.nodup_cons.1 hn
    have := ih (b := b.erase x) h1.2 (fun y hy => by
      have hne : y ≠ x := fun h => h1.1 (h ▸ hy)
      exact (List.mem_erase_of_ne hne).2 (hs y (by simp [hy])))
    rw [List.length_erase_of_mem hx] at this
    have hb : 0 < b.length := List.length_pos_of_mem hx
    simp only [List.length_cons]; omega
/-- no more than were put -/
theorem elems_newW_le (l : List Int) (hok : allOk l = true) : (elems (newW l [])).length ≤ l.length := by
  have h := bit_newW l [] 
  have : (elems (newW l [])).length ≤ (l.map Int.toNat).length := by
    refine nodup_length_le ((elems_sorted _).imp (fun h => Nat.ne_of_lt h)) fun x hx => ?_
    have h1 := mem_elems.1 hx
    rw [h x hok] at h1
    have h2 : (x : Int) ∈ l := by
      have : bit [] x = false := by simp [bit]
      rw [this, Bool.false_or] at h1
      simpa using h1
    exact List.mem_map.2 ⟨_, h2, by simp⟩
  simpa using this
end Go.Vc
/- What a slice of numbers that came in reads as. -/
namespace Go.Vc
open Go
/-- what the frame tells of a slice of integers that came in: nil; or a row of 'cap' cells, the numbers 'zs' (the first 'len' are its elements), each fitting its kind -/
def IsRow (k : IntKind) (w : World) (a : Option Addr) (len cap : Nat) (zs : List Int) : Prop :=
  (a = none ∧ len = 0 ∧ cap = 0 ∧ zs = []) ∨
  ∃ x, a = some x ∧ len ≤ cap ∧ cap ≤ maxLen ∧ zs.length = cap ∧ (∀ i, i < zs.length → w.cell? (x.add i) = some (.int k (zs.getD i 0))) ∧ ∀ n ∈ zs, (Lit.int k n).wf = true
theorem IsRow.read {k : IntKind} {w : World} {a : Option Addr} {len cap : Nat} {zs : List Int} (h : IsRow k w a len cap zs) : ReadS w a (zs.map (Value.int k)) := by
  rcases h with ⟨rfl, _, _, rfl⟩ | ⟨x, rfl, _, _, _, hc, _⟩
  · rfl
  · intro i v hv
    have hi : i < zs.length := by have := (List.getElem?_eq_some_iff.1 hv).1; simpa using this
    rw [hc i hi]
    simp [hi] at hv
    subst hv
    simp [List.getD_eq_getElem?_getD, hi]
theorem IsRow.len_le {k : IntKind} {w : World} {a : Option Addr} {len cap : Nat} {zs : List Int} (h : IsRow k w a len cap zs) : len ≤ zs.length ∧ zs.length = cap ∧ cap ≤ 9223372036854775807 := by
  rcases h with ⟨_, rfl, rfl, rfl⟩ | ⟨x, _, h1, h2, h3, _⟩
  · simp
  · simp only [maxLen] at h2; omega
theorem IsRow.rng64 {w : World} {a : Option Addr} {len cap : Nat} {zs : List Int} (h : IsRow .i64 w a len cap zs) (i : Nat) : -9223372036854775808 ≤ zs.getD i 0 ∧ zs.getD i 0 ≤ 9223372036854775807 := by
  rcases h with ⟨_, _, _, rfl⟩ | ⟨x, _, _, _, _, _, hw⟩
  · simp
  · rw [List.getD_eq_getElem?_getD]; exact range_i64 hw i
theorem IsRow.bytes {w : World} {a : Option Addr} {len cap : Nat} {zs : List Int} (h : IsRow .u8 w a len cap zs) : ∃ bs : List UInt8, zs = bs.map fun c => (c.toNat : Int) := by
  have hw : ∀ n ∈ zs, 0 ≤ n ∧ n ≤ 255 := by
    rcases h with ⟨_, _, _, rfl⟩ | ⟨x, _, _, _, _, _, hw⟩
    · simp
    · exact fun n hn => bounds_u8 (hw n hn)
  refine ⟨zs.map fun n => UInt8.ofNat n.toNat, ?_⟩
  rw [List.map_map]
  conv => lhs; rw [show zs = zs.map id from by simp]
  apply List.map_congr_left
  intro n hn
  have := hw n hn
  simp only [id, Function.comp, UInt8.toNat_ofNat']
  omega
end Go.Vc
/- bits: BitsOrder. -/
namespace Go.Vc
open Go Go.Proofs
set_option maxRecDepth 10000
variable {w : World}

def atI (pre : List Nat) : Int := match pre.getLast? with | some k => (k : Int) | none => -1
theorem atI_snoc (pre : List Nat) (k : Nat) : atI (pre ++ [k]) = (k : Int) := by simp [atI]
theorem atI_facts {ws pre post : List Nat} (h : elems ws = pre ++ post) : (∀ j, j ∈ pre → (j : Int) < atI pre + 1) ∧ 0 ≤ atI pre + 1 ∧ (∀ j, bit ws j = true → (j : Int) < atI pre + 1 → j ∈ pre) := by
  rcases List.eq_nil_or_concat pre with rfl | ⟨pre', k, rfl⟩
  · refine ⟨by simp, by simp [atI], fun j _ hj => ?_⟩
    simp [atI] at hj; omega
  · rw [List.concat_eq_append] at h ⊢
    rw [atI_snoc]
    rw [List.append_assoc] at h
    obtain ⟨h1, h2, h3⟩ := elems_split (k := k) (post := post) h
    refine ⟨fun j hj => ?_, by omega, fun j hb hj => ?_⟩
    · rcases List.mem_append.1 hj with hj | hj
      · have := h2 j hj; omega
      · simp at hj; omega
    · by_cases hlt : j < k
      · exact List.mem_append_left _ (h3 j hb hlt)
      · have : j = k := by omega
        subst this; simp
theorem nextV_at {ws pre post : List Nat} (h : elems ws = pre ++ post) : nextV ws (atI pre + 1) = .tuple #[I (max (hdI post) 0), .bool (decide (0 ≤ hdI post))] := by
  obtain ⟨h1, h2, h3⟩ := atI_facts h
  unfold nextV
  rw [nxI_elems h _ h1 h2 h3]
theorem atI_rng {ws pre post : List Nat} (h : elems ws = pre ++ post) (hl : ws.length ≤ 16384) : -1 ≤ atI pre ∧ atI pre < 1048576 := by
  have h0 := (atI_facts h).2.1
  refine ⟨by omega, ?_⟩
  rcases List.eq_nil_or_concat pre with rfl | ⟨pre', k, rfl⟩
  · simp [atI]
  · rw [List.concat_eq_append] at h ⊢
    rw [atI_snoc]
    have hb := bit_lt (mem_elems.1 (by rw [h]; simp : k ∈ elems ws))
    omega

/-! ### As the rows want it -/
theorem Ret.calls {P : Program} {f : FuncId} {vs : List Value} {w : World} (h : Ret P f vs w (fun v w' => v = .bool true ∧ Kp [] w w')) : Calls P f ⟨vs⟩ w (fun e w' => e = .returned (.bool true) ∧ RowKit.Below w.heap.size w w') :=
  h.2.mono fun _ _ ⟨_, he, hv, kp⟩ => ⟨by rw [he, hv], kp.below⟩
theorem wf64 {x : Int} (h : (Lit.int .i64 x).wf = true) : -9223372036854775808 ≤ x ∧ x ≤ 9223372036854775807 := by
  simpa [Lit.wf, IntKind.min, IntKind.max, IntKind.signed, IntKind.bits] using h
theorem IsRow.ints {w : World} {a : Option Addr} {len cap : Nat} {zs : List Int} (h : IsRow .i64 w a len cap zs) : ReadS w a ((zs.take len).map I) ∧ (zs.take len).length = len ∧ ∀ x ∈ zs.take len, -9223372036854775808 ≤ x ∧ x ≤ 9223372036854775807 := by
  have hl := h.len_le
  refine ⟨?_, by simp; omega, fun x hx => ?_⟩
  · rw [List.map_take]; exact h.read.take len
  · obtain ⟨i, hi⟩ := List.getElem?_of_mem (List.mem_of_mem_take hx)
    have := h.rng64 i
    rw [List.getD_eq_getElem?_getD, hi] at this
    exact this
end Go.Vc
