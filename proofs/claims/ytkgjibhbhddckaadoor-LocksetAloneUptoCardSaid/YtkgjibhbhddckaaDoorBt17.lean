/- bits: what the operations on words do to the numbers. No program. -/
import Derived.Test.YtkgjibhbhddckaaDoorBt15
namespace Go.Vc
open Go

/-- its last word is not 0 -/
def Tr (ws : List Nat) : Prop := trim ws = ws
theorem tr_trim (ws : List Nat) : Tr (trim ws) := by
  rcases trim_last ws with h | ⟨l, x, h, hx⟩
  · unfold Tr; rw [h]; rfl
  · unfold Tr; rw [h]; exact trim_snoc hx
theorem Tr.top {ws : List Nat} (h : Tr ws) (hok : WOk ws) (hne : ws ≠ []) : ∃ k, bit ws k = true ∧ k / 64 + 1 = ws.length := by
  have := trim_has hok (by rw [h]; exact hne)
  rwa [h] at this
theorem tr_of_top {ws : List Nat} (hok : WOk ws) {k : Nat} (hb : bit ws k = true) (hk : k / 64 + 1 = ws.length) : Tr ws := by
  have h1 := trim_len_bit hok hb
  have h2 := trim_len ws
  unfold Tr
  rw [trim_take, List.take_of_length_le (by omega)]
theorem tr_nil : Tr [] := rfl
theorem tr_ext {a b : List Nat} (ha : Tr a) (hb : Tr b) (hoa : WOk a) (hob : WOk b) (h : ∀ k, bit a k = bit b k) : a = b := by
  refine bits_ext hoa hob ?_ h
  have key : ∀ {a b : List Nat}, Tr a → WOk a → (∀ k, bit a k = bit b k) → a.length ≤ b.length := by
    intro a b ha hoa h
    by_cases hne : a = []
    · subst hne; simp
    · obtain ⟨k, h1, h2⟩ := ha.top hoa hne
      rw [h k] at h1
      have := bit_lt h1; omega
  have := key ha hoa h
  have := key hb hob (fun k => (h k).symm)
  omega
theorem putW_len (ws : List Nat) (k : Nat) : (putW ws k).length = max ws.length (k / 64 + 1) := by
  unfold putW; simp; omega
theorem tr_putW {ws : List Nat} (hok : WOk ws) (h : Tr ws) (k : Nat) : Tr (putW ws k) := by
  have hok' : WOk (putW ws k) := by
    unfold putW
    exact (hok.append (WOk.zeros _)).set (Nat.or_lt_two_pow ((hok.append (WOk.zeros _)).getD _) (Nat.pow_lt_pow_right (by omega) (by omega)))
  have hl := putW_len ws k
  by_cases hk : ws.length ≤ k / 64 + 1
  · exact tr_of_top hok' (k := k) (by rw [bit_putW]; simp) (by omega)
  · obtain ⟨k', h1, h2⟩ := h.top hok (by rintro rfl; simp at hk)
    exact tr_of_top hok' (k := k') (by rw [bit_putW, h1]; rfl) (by omega)
theorem WOk.putW {ws : List Nat} (hok : WOk ws) (k : Nat) : WOk (putW ws k) := by
  unfold Vc.putW
  exact (hok.append (WOk.zeros _)).set (Nat.or_lt_two_pow ((hok.append (WOk.zeros _)).getD _) (Nat.pow_lt_pow_right (by omega) (by omega)))
theorem tr_newW (l : List Int) : ∀ (ws : List Nat), WOk ws → Tr ws → WOk (newW l ws) ∧ Tr (newW l ws) := by
  induction l with
  | nil => exact fun ws h1 h2 => ⟨h1, h2⟩
  | cons n r ih => intro ws h1 h2; exact ih _ (h1.putW _) (tr_putW h1 h2 _)
theorem tr_delW {ws : List Nat} (h : Tr ws) (k : Nat) : Tr (delW ws k) := by
  unfold delW
  split
  · exact tr_trim _
  · exact h

theorem updW_getD' (f : Nat → Nat → Nat) (ws vs : List Nat) (n i : Nat) : (updW f ws vs n).getD i 0 = if i < ws.length then (if i < n then f (ws.getD i 0) (vs.getD i 0) else ws.getD i 0) else 0 := by
  by_cases hi : i < ws.length
  · rw [if_pos hi, updW_getD _ _ _ _ _ hi]
  · rw [if_neg hi, List.getD_eq_getElem?_getD, List.getElem?_eq_none (by rw [updW_len]; omega)]; rfl
theorem getD_beyond {ws : List Nat} {i : Nat} (h : ws.length ≤ i) : ws.getD i 0 = 0 := by
  rw [List.getD_eq_getElem?_getD, List.getElem?_eq_none h]; rfl
theorem growW_getD (ws : List Nat) (n i : Nat) : (growW ws n).getD i 0 = ws.getD i 0 := getD_zeros ws _ i
theorem bit_growW (ws : List Nat) (n j : Nat) : bit (growW ws n) j = bit ws j := by unfold bit; rw [growW_getD]
theorem take_getD (ws : List Nat) (n i : Nat) : (ws.take n).getD i 0 = if i < n then ws.getD i 0 else 0 := by
  rw [List.getD_eq_getElem?_getD, List.getD_eq_getElem?_getD, List.getElem?_take]
  split <;> rfl
theorem bit_keepW (ws vs : List Nat) (j : Nat) : bit (keepW ws vs) j = (bit ws j && bit vs j) := by
  unfold keepW
  rw [bit_trim]
  unfold bit
  rw [updW_getD']
  have hl : (ws.take (min ws.length vs.length)).length = min ws.length vs.length := by simp
  rw [hl, take_getD]
  by_cases h : j / 64 < min ws.length vs.length
  · rw [if_pos h, if_pos h, if_pos h, Nat.testBit_and]
  · rw [if_neg h, Nat.zero_testBit]
    by_cases h2 : j / 64 < ws.length
    · rw [getD_beyond (ws := vs) (by omega), Nat.zero_testBit, Bool.and_false]
    · rw [getD_beyond (ws := ws) (by omega), Nat.zero_testBit, Bool.false_and]
theorem bit_dropW {ws vs : List Nat} (hv : WOk vs) (j : Nat) : bit (dropW ws vs) j = (bit ws j && !bit vs j) := by
  unfold dropW
  rw [bit_trim]
  unfold bit
  rw [updW_getD']
  by_cases h : j / 64 < ws.length
  · rw [if_pos h]
    by_cases h2 : j / 64 < vs.length
    · rw [if_pos (by omega), testBit_andn (hv.getD _) (by omega)]
    · rw [if_neg (by omega), getD_beyond (ws := vs) (by omega), Nat.zero_testBit]; simp
  · rw [if_neg h, getD_beyond (ws := ws) (by omega), Nat.zero_testBit, Bool.false_and]
theorem bit_turnW (ws vs : List Nat) (j : Nat) : bit (turnW ws vs) j = (bit ws j ^^ bit vs j) := by
  unfold turnW
  rw [bit_trim]
  unfold bit
  rw [updW_getD', growW_len, growW_getD]
  by_cases h : j / 64 < max ws.length vs.length
  · rw [if_pos h]
    by_cases h2 : j / 64 < vs.length
    · rw [if_pos h2, Nat.testBit_xor]
    · rw [if_neg h2, getD_beyond (ws := vs) (by omega), Nat.zero_testBit]; simp
  · rw [if_neg h, getD_beyond (ws := ws) (by omega), getD_beyond (ws := vs) (by omega), Nat.zero_testBit]; rfl
theorem bit_joinW (ws vs : List Nat) (j : Nat) : bit (joinW ws vs) j = (bit ws j || bit vs j) := by
  unfold joinW bit
  rw [updW_getD', growW_len, growW_getD]
  by_cases h : j / 64 < max ws.length vs.length
  · rw [if_pos h]
    by_cases h2 : j / 64 < vs.length
    · rw [if_pos h2, Nat.testBit_or]
    · rw [if_neg h2, getD_beyond (ws := vs) (by omega), Nat.zero_testBit]; simp
  · rw [if_neg h, getD_beyond (ws := ws) (by omega), getD_beyond (ws := vs) (by omega), Nat.zero_testBit]; rfl
theorem joinW_len (ws vs : List Nat) : (joinW ws vs).length = max ws.length vs.length := by unfold joinW; rw [updW_len, growW_len]
theorem WOk.joinW {ws vs : List Nat} (h : WOk ws) (k : WOk vs) : WOk (joinW ws vs) := by
  intro x hx
  unfold Vc.joinW updW at hx
  obtain ⟨i, _, rfl⟩ := List.mem_map.1 hx
  rw [growW_getD]
  split
  · exact Nat.or_lt_two_pow (h.getD _) (k.getD _)
  · exact h.getD _
theorem tr_joinW {ws vs : List Nat} (h : WOk ws) (k : WOk vs) (ht : Tr ws) (kt : Tr vs) : Tr (joinW ws vs) := by
  have hl := joinW_len ws vs
  by_cases h0 : ws = [] ∧ vs = []
  · obtain ⟨rfl, rfl⟩ := h0; rfl
  · by_cases hlt : ws.length ≤ vs.length
    · obtain ⟨i, h1, h2⟩ := kt.top k (by rintro rfl; simp at hlt; exact h0 ⟨hlt, rfl⟩)
      exact tr_of_top (h.joinW k) (k := i) (by rw [bit_joinW, h1, Bool.or_true]) (by omega)
    · obtain ⟨i, h1, h2⟩ := ht.top h (by rintro rfl; simp at hlt)
      exact tr_of_top (h.joinW k) (k := i) (by rw [bit_joinW, h1, Bool.true_or]) (by omega)

theorem zero_of_bits {x : Nat} (hx : x < 2 ^ 64) (h : ∀ i, i < 64 → x.testBit i = false) : x = 0 := by
  apply Nat.eq_of_testBit_eq
  intro i
  rw [Nat.zero_testBit]
  by_cases hi : i < 64
  · exact h i hi
  · exact Nat.testBit_lt_two_pow (Nat.lt_of_lt_of_le hx (Nat.pow_le_pow_right (by omega) (by omega)))
theorem word_bit (ws : List Nat) (i k : Nat) (hk : k < 64) : bit ws (64 * i + k) = (ws.getD i 0).testBit k := by
  unfold bit
  have h1 : (64 * i + k) / 64 = i := by omega
  have h2 : (64 * i + k) % 64 = k := by omega
  rw [h1, h2]
theorem withinW_iff {ws vs : List Nat} (hw : WOk ws) (hv : WOk vs) (ht : Tr ws) : withinW ws vs = true ↔ ∀ j, bit ws j = true → bit vs j = true := by
  unfold withinW
  rw [Bool.and_eq_true, decide_eq_true_eq, List.all_eq_true]
  constructor
  · rintro ⟨_, h⟩ j hj
    have hl := bit_lt hj
    have := of_decide_eq_true (h (j / 64) (by simp; omega))
    have h2 := testBit_andn (a := ws.getD (j / 64) 0) (hv.getD (j / 64)) (by omega : j % 64 < 64)
    rw [this, Nat.zero_testBit] at h2
    unfold bit at hj ⊢
    rw [hj] at h2
    cases hh : (vs.getD (j / 64) 0).testBit (j % 64) with
    | true => rfl
    | false => rw [hh] at h2; cases h2
  · intro h
    constructor
    · by_cases hne : ws = []
      · subst hne; simp
      · obtain ⟨k, h1, h2⟩ := ht.top hw hne
        have := bit_lt (h k h1); omega
    · intro i _
      refine decide_eq_true (zero_of_bits (andn_lt (hw.getD i)) fun k hk => ?_)
      rw [testBit_andn (hv.getD i) hk]
      have := h (64 * i + k)
      rw [word_bit _ _ _ hk, word_bit _ _ _ hk] at this
      cases h1 : (ws.getD i 0).testBit k with
      | false => rfl
      | true => rw [this h1]; rfl
theorem meetsW_iff {ws vs : List Nat} (hw : WOk ws) : meetsW ws vs = true ↔ ∃ j, bit ws j = true ∧ bit vs j = true := by
  unfold meetsW
  rw [List.any_eq_true]
  constructor
  · rintro ⟨i, hi, h⟩
    have h := of_decide_eq_true h
    have hlt : ws.getD i 0 &&& vs.getD i 0 < 2 ^ 64 := and_lt (hw.getD i)
    obtain ⟨k, hk, h1, _⟩ := least_bit hlt h
    rw [Nat.testBit_and, Bool.and_eq_true] at h1
    exact ⟨64 * i + k, by rw [word_bit _ _ _ hk]; exact h1.1, by rw [word_bit _ _ _ hk]; exact h1.2⟩
  · rintro ⟨j, h1, h2⟩
    have l1 := bit_lt h1
    have l2 := bit_lt h2
    refine ⟨j / 64, by simp; omega, decide_eq_true fun h0 => ?_⟩
    have := congrArg (fun x => x.testBit (j % 64)) h0
    simp only [Nat.testBit_and, Nat.zero_testBit] at this
    unfold bit at h1 h2
    rw [h1, h2] at this; cases this
theorem moreN_iff {ws vs : List Nat} (hw : WOk ws) (hv : WOk vs) : moreN (growW ws vs.length) vs vs.length = true ↔ ∃ j, bit vs j = true ∧ bit ws j = false := by
  unfold moreN
  rw [List.any_eq_true]
  constructor
  · rintro ⟨i, hi, h⟩
    have h := of_decide_eq_true h
    rw [growW_getD] at h
    obtain ⟨k, hk, h1, _⟩ := least_bit (andn_lt (hv.getD i)) h
    rw [testBit_andn (hw.getD i) hk, Bool.and_eq_true] at h1
    exact ⟨64 * i + k, by rw [word_bit _ _ _ hk]; exact h1.1, by rw [word_bit _ _ _ hk]; simpa using h1.2⟩
  · rintro ⟨j, h1, h2⟩
    have l1 := bit_lt h1
    refine ⟨j / 64, by simp; omega, decide_eq_true fun h0 => ?_⟩
    rw [growW_getD] at h0
    have h3 := testBit_andn (a := vs.getD (j / 64) 0) (hw.getD (j / 64)) (by omega : j % 64 < 64)
    rw [h0, Nat.zero_testBit] at h3
    unfold bit at h1 h2
    rw [h1, h2] at h3; cases h3
theorem eq_iff_bits {a b : List Nat} (ha : Tr a) (hb : Tr b) (hoa : WOk a) (hob : WOk b) : a = b ↔ ∀ k, bit a k = bit b k := ⟨fun h k => by rw [h], tr_ext ha hb hoa hob⟩

/-! ### Counting -/
theorem elems_upto {ws : List Nat} {N : Nat} (h : 64 * ws.length ≤ N) : elems ws = (List.range N).filter (bit ws) := by
  obtain ⟨d, rfl⟩ : ∃ d, N = 64 * ws.length + d := ⟨N - 64 * ws.length, by omega⟩
  rw [List.range_add, List.filter_append]
  have : (List.map (fun x => 64 * ws.length + x) (List.range d)).filter (bit ws) = [] := by
    rw [List.filter_eq_nil_iff]
    intro x hx
    obtain ⟨y, _, rfl⟩ := List.mem_map.1 hx
    intro hb
    have := bit_lt hb; omega
  rw [this, List.append_nil]; rfl
theorem count_or (l : List Nat) (p q : Nat → Bool) : (l.filter fun j => p j || q j).length + (l.filter fun j => p j && q j).length = (l.filter p).length + (l.filter q).length := by
  induction l with
  | nil => rfl
  | cons x r ih =>
    simp only [List.filter_cons]
    cases hp : p x <;> cases hq : q x <;> simp <;> omega
theorem count_drop (l : List Nat) (p q : Nat → Bool) : (l.filter fun j => p j && !q j).length + (l.filter fun j => p j && q j).length = (l.filter p).length := by
  induction l with
  | nil => rfl
  | cons x r ih =>
    simp only [List.filter_cons]
    cases hp : p x <;> cases hq : q x <;> simp <;> omega
theorem count_turn (l : List Nat) (p q : Nat → Bool) : (l.filter fun j => p j ^^ q j).length + (l.filter fun j => p j && q j).length = (l.filter fun j => p j || q j).length := by
  induction l with
  | nil => rfl
  | cons x r ih =>
    simp only [List.filter_cons]
    cases hp : p x <;> cases hq : q x <;> simp <;> omega
theorem elems_len_of {ws : List Nat} {N : Nat} (p : Nat → Bool) (h : 64 * ws.length ≤ N) (hp : ∀ j, bit ws j = p j) : (elems ws).length = ((List.range N).filter p).length := by
  rw [elems_upto h]
  congr 1
  apply List.filter_congr
  intro j _
  exact hp j
theorem nodup_length_le {a : List Nat} : ∀ {b : List Nat}, a.Nodup → (∀ x ∈ a, x ∈ b) → a.length ≤ b.length := by
  induction a with
  | nil => intros; simp
  | cons x r ih =>
    intro b hn hs
    have hx := hs x (by simp)
    have h1 := List.nodup_cons.1 hn
    have := ih (b := b.erase x) h1.2 (fun y hy => by
      have hne : y ≠ x := fun h => h1.1 (h ▸ hy)
      exact (List.mem_erase_of_ne hne).2 (hs y (by simp [hy])))
    rw [List.length_erase_of_mem hx] at this
    have hb : 0 < b.length := List.length_pos_of_mem hx
    simp only [List.length_cons]; omega
/-- no more than were put -/
theorem elems_newW_le (l : List Int) (hok : allOk l = true) : (elems (newW l [])).length ≤ l.length := by
  have h := bit_newW l [] 
  have : (elems (newW l [])).length ≤ (l.map Int.toNat).length := by
    refine nodup_length_le ((elems_sorted _).imp (fun h => Nat.ne_of_lt h)) fun x hx => ?_
    have h1 := mem_elems.1 hx
    rw [h x hok] at h1
    have h2 : (x : Int) ∈ l := by
      have : bit [] x = false := by simp [bit]
      rw [this, Bool.false_or] at h1
      simpa using h1
    exact List.mem_map.2 ⟨_, h2, by simp⟩
  simpa using this
end Go.Vc
