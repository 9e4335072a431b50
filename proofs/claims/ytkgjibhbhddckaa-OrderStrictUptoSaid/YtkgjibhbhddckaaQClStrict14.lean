/- bits: what the operations on words do to the numbers. No program. -/
import Derived.Test.YtkgjibhbhddckaaQClStrict13
import Derived.Test.YtkgjibhbhddckaaQClStrict5
import Derived.OpenShut
namespace Go.Vc
open Go

/-- its last word is not 0 -/
def Tr (ws : List Nat) : Prop := trim ws = ws
theorem tr_trim (ws : List Nat) : Tr (trim ws) := by
  rcases trim_last ws with h | ⟨l, x, h, hx⟩
  · unfold Tr; rw [h]; rfl
  · unfold Tr; rw [h]; exact trim_snoc hx
theorem Tr.top {ws : List Nat} (h : Tr ws) (hok : WOk ws) (hne : ws ≠ []) : ∃ k, bit ws k = true ∧ k / 64 + 1 = ws.length := by
  have := trim_has hok (by rw [h]; exact hne)
  rwa [h] at this
theorem tr_of_top {ws : List Nat} (hok : WOk ws) {k : Nat} (hb : bit ws k = true) (hk : k / 64 + 1 = ws.length) : Tr ws := by
  have h1 := trim_len_bit hok hb
  have h2 := trim_len ws
  unfold Tr
  rw [trim_take, List.take_of_length_le (by omega)]
theorem tr_nil : Tr [] := rfl
theorem tr_ext {a b : List Nat} (ha : Tr a) (hb : Tr b) (hoa : WOk a) (hob : WOk b) (h : ∀ k, bit a k = bit b k) : a = b := by
  refine bits_ext hoa hob ?_ h
  have key : ∀ {a b : List Nat}, Tr a → WOk a → (∀ k, bit a k = bit b k) → a.length ≤ b.length := by
    intro a b ha hoa h
    by_cases hne : a = []
    · subst hne; simp
    · obtain ⟨k, h1, h2⟩ := ha.top hoa hne
      rw [h k] at h1
      have := bit_lt h1; omega
  have := key ha hoa h
  have := key hb hob (fun k => (h k).symm)
  omega
theorem putW_len (ws : List Nat) (k : Nat) : (putW ws k).length = max ws.length (k / 64 + 1) := by
  unfold putW; simp; omega
theorem tr_putW {ws : List Nat} (hok : WOk ws) (h : Tr ws) (k : Nat) : Tr (putW ws k) := by
  have hok' : WOk (putW ws k) := by
    unfold putW
    exact (hok.append (WOk.zeros _)).set (Nat.or_lt_two_pow ((hok.append (WOk.zeros _)).getD _) (Nat.pow_lt_pow_right (by omega) (by omega)))
  have hl := putW_len ws k
  by_cases hk : ws.length ≤ k / 64 + 1
  · exact tr_of_top hok' (k := k) (by rw [bit_putW]; simp) (by omega)
  · obtain ⟨k', h1, h2⟩ := h.top hok (by rintro rfl; simp at hk)
    exact tr_of_top hok' (k := k') (by rw [bit_putW, h1]; rfl) (by omega)
theorem WOk.putW {ws : List Nat} (hok : WOk ws) (k : Nat) : WOk (putW ws k) := by
  unfold Vc.putW
  exact (hok.append (WOk.zeros _)).set (Nat.or_lt_two_pow ((hok.append (WOk.zeros _)).getD _) (Nat.pow_lt_pow_right (by omega) (by omega)))
theorem tr_newW (l : List Int) : ∀ (ws : List Nat), WOk ws → Tr ws → WOk (newW l ws) ∧ Tr (newW l ws) := by
  induction l with
  | nil => exact fun ws h1 h2 => ⟨h1, h2⟩
  | cons n r ih => intro ws h1 h2; exact ih _ (h1.putW _) (tr_putW h1 h2 _)
theorem tr_delW {ws : List Nat} (h : Tr ws) (k : Nat) : Tr (delW ws k) := by
  unfold delW
  split
  · exact tr_trim _
  · exact h

theorem updW_getD' (f : Nat → Nat → Nat) (ws vs : List Nat) (n i : Nat) : (updW f ws vs n).getD i 0 = if i < ws.length then (if i < n then f (ws.getD i 0) (vs.getD i 0) else ws.getD i 0) else 0 := by
  by_cases hi : i < ws.length
  · rw [if_pos hi, updW_getD _ _ _ _ _ hi]
  · rw [if_neg hi, List.getD_eq_getElem?_getD, List.getElem?_eq_none (by rw [updW_len]; omega)]; rfl
theorem getD_beyond {ws : List Nat} {i : Nat} (h : ws.length ≤ i) : ws.getD i 0 = 0 := by
  rw [List.getD_eq_getElem?_getD, List.getElem?_eq_none h]; rfl
theorem growW_getD (ws : List Nat) (n i : Nat) : (growW ws n).getD i 0 = ws.getD i 0 := getD_zeros ws _ i
theorem bit_growW (ws : List Nat) (n j : Nat) : bit (growW ws n) j = bit ws j := by unfold bit; rw [growW_getD]
theorem take_getD (ws : List Nat) (n i : Nat) : (ws.take n).getD i 0 = if i < n then ws.getD i 0 else 0 := by
  rw [List.getD_eq_getElem?_getD, List.getD_eq_getElem?_getD, List.getElem?_take]
  split <;> rfl
theorem bit_keepW (ws vs : List Nat) (j : Nat) : bit (keepW ws vs) j = (bit ws j && bit vs j) := by
  unfold keepW
  rw [bit_trim]
  unfold bit
  rw [updW_getD']
  have hl : (ws.take (min ws.length vs.length)).length = min ws.length vs.length := by simp
  rw [hl, take_getD]
  by_cases h : j / 64 < min ws.length vs.length
  · rw [if_pos h, if_pos h, if_pos h, Nat.testBit_and]
  · rw [if_neg h, Nat.zero_testBit]
    by_cases h2 : j / 64 < ws.length
    · rw [getD_beyond (ws := vs) (by omega), Nat.zero_testBit, Bool.and_false]
    · rw [getD_beyond (ws := ws) (by omega), Nat.zero_testBit, Bool.false_and]
theorem bit_dropW {ws vs : List Nat} (hv : WOk vs) (j : Nat) : bit (dropW ws vs) j = (bit ws j && !bit vs j) := by
  unfold dropW
  rw [bit_trim]
  unfold bit
  rw [updW_getD']
  by_cases h : j / 64 < ws.length
  · rw [if_pos h]
    by_cases h2 : j / 64 < vs.length
    · rw [if_pos (by omega), testBit_andn (hv.getD _) (by omega)]
    · rw [if_neg (by omega), getD_beyond (ws := vs) (by omega), Nat.zero_testBit]; simp
  · rw [if_neg h, getD_beyond (ws := ws) (by omega), Nat.zero_testBit, Bool.false_and]
theorem bit_turnW (ws vs : List Nat) (j : Nat) : bit (turnW ws vs) j = (bit ws j ^^ bit vs j) := by
  unfold turnW
  rw [bit_trim]
  unfold bit
  rw [updW_getD', growW_len, growW_getD]
  by_cases h : j / 64 < max ws.length vs.length
  · rw [if_pos h]
    by_cases h2 : j / 64 < vs.length
    · rw [if_pos h2, Nat.testBit_xor]
    · rw [if_neg h2, getD_beyond (ws := vs) (by omega), Nat.zero_testBit]; simp
  · rw [if_neg h, getD_beyond (ws := ws) (by omega), getD_beyond (ws := vs) (by omega), Nat.zero_testBit]; rfl
theorem bit_joinW (ws vs : List Nat) (j : Nat) : bit (joinW ws vs) j = (bit ws j || bit vs j) := by
  unfold joinW bit
  rw [updW_getD', growW_len, growW_getD]
  by_cases h : j / 64 < max ws.length vs.length
  · rw [if_pos h]
    by_cases h2 : j / 64 < vs.length
    · rw [if_pos h2, Nat.testBit_or]
    · rw [if_neg h2, getD_beyond (ws := vs) (by omega), Nat.zero_testBit]; simp
  · rw [if_neg h, getD_beyond (ws := ws) (by omega), getD_beyond (ws := vs) (by omega), Nat.zero_testBit]; rfl
theorem joinW_len (ws vs : List Nat) : (joinW ws vs).length = max ws.length vs.length := by unfold joinW; rw [updW_len, growW_len]
theorem WOk.joinW {ws vs : List Nat} (h : WOk ws) (k : WOk vs) : WOk (joinW ws vs) := by
  intro x hx
  unfold Vc.joinW updW at hx
  obtain ⟨i, _, rfl⟩ := List.mem_map.1 hx
  rw [growW_getD]
  split
  · exact Nat.or_lt_two_pow (h.getD _) (k.getD _)
  · exact h.getD _
theorem tr_joinW {ws vs : List Nat} (h : WOk ws) (k : WOk vs) (ht : Tr ws) (kt : Tr vs) : Tr (joinW ws vs) := by
  have hl := joinW_len ws vs
  by_cases h0 : ws = [] ∧ vs = []
  · obtain ⟨rfl, rfl⟩ := h0; rfl
  · by_cases hlt : ws.length ≤ vs.length
    · obtain ⟨i, h1, h2⟩ := kt.top k (by rintro rfl; simp at hlt; exact h0 ⟨hlt, rfl⟩)
      exact tr_of_top (h.joinW k) (k := i) (by rw [bit_joinW, h1, Bool.or_true]) (by omega)
    · obtain ⟨i, h1, h2⟩ := ht.top h (by rintro rfl; simp at hlt)
      exact tr_of_top (h.joinW k) (k := i) (by rw [bit_joinW, h1, Bool.true_or]) (by omega)

theorem zero_of_bits {x : Nat} (hx : x < 2 ^ 64) (h : ∀ i, i < 64 → x.testBit i = false) : x = 0 := by
  apply Nat.eq_of_testBit_eq
  intro i
  rw [Nat.zero_testBit]
  by_cases hi : i < 64
  · exact h i hi
  · exact Nat.testBit_lt_two_pow (Nat.lt_of_lt_of_le hx (Nat.pow_le_pow_right (by omega) (by omega)))
theorem word_bit (ws : List Nat) (i k : Nat) (hk : k < 64) : bit ws (64 * i + k) = (ws.getD i 0).testBit k := by
  unfold bit
  have h1 : (64 * i + k) / 64 = i := by omega
  have h2 : (64 * i + k) % 64 = k := by omega
  rw [h1, h2]
theorem withinW_iff {ws vs : List Nat} (hw : WOk ws) (hv : WOk vs) (ht : Tr ws) : withinW ws vs = true ↔ ∀ j, bit ws j = true → bit vs j = true := by
  unfold withinW
  rw [Bool.and_eq_true, decide_eq_true_eq, List.all_eq_true]
  constructor
  · rintro ⟨_, h⟩ j hj
    have hl := bit_lt hj
    have := of_decide_eq_true (h (j / 64) (by simp; omega))
    have h2 := testBit_andn (a := ws.getD (j / 64) 0) (hv.getD (j / 64)) (by omega : j % 64 < 64)
    rw [this, Nat.zero_testBit] at h2
    unfold bit at hj ⊢
    rw [hj] at h2
    cases hh : (vs.getD (j / 64) 0).testBit (j % 64) with
    | true => rfl
    | false => rw [hh] at h2; cases h2
  · intro h
    constructor
    · by_cases hne : ws = []
      · subst hne; simp
      · obtain ⟨k, h1, h2⟩ := ht.top hw hne
        have := bit_lt (h k h1); omega
    · intro i _
      refine decide_eq_true (zero_of_bits (andn_lt (hw.getD i)) fun k hk => ?_)
      rw [testBit_andn (hv.getD i) hk]
      have := h (64 * i + k)
      rw [word_bit _ _ _ hk, word_bit _ _ _ hk] at this
      cases h1 : (ws.getD i 0).testBit k with
      | false => rfl
      | true => rw [this h1]; rfl
theorem meetsW_iff {ws vs : List Nat} (hw : WOk ws) : meetsW ws vs = true ↔ ∃ j, bit ws j = true ∧ bit vs j = true := by
  unfold meetsW
  rw [List.any_eq_true]
  constructor
  · rintro ⟨i, hi, h⟩
    have h := of_decide_eq_true h
    have hlt : ws.getD i 0 &&& vs.getD i 0 < 2 ^ 64 := and_lt (hw.getD i)
    obtain ⟨k, hk, h1, _⟩ := least_bit hlt h
    rw [Nat.testBit_and, Bool.and_eq_true] at h1
    exact ⟨64 * i + k, by rw [word_bit _ _ _ hk]; exact h1.1, by rw [word_bit _ _ _ hk]; exact h1.2⟩
  · rintro ⟨j, h1, h2⟩
    have l1 := bit_lt h1
    have l2 := bit_lt h2
    refine ⟨j / 64, by simp; omega, decide_eq_true fun h0 => ?_⟩
    have := congrArg (fun x => x.testBit (j % 64)) h0
    simp only [Nat.testBit_and, Nat.zero_testBit] at this
    unfold bit at h1 h2
    rw [h1, h2] at this; cases this
theorem moreN_iff {ws vs : List Nat} (hw : WOk ws) (hv : WOk vs) : moreN (growW ws vs.length) vs vs.length = true ↔ ∃ j, bit vs j = true ∧ bit ws j = false := by
  unfold moreN
  rw [List.any_eq_true]
  constructor
  · rintro ⟨i, hi, h⟩
    have h := of_decide_eq_true h
    rw [growW_getD] at h
    obtain ⟨k, hk, h1, _⟩ := least_bit (andn_lt (hv.getD i)) h
    rw [testBit_andn (hw.getD i) hk, Bool.and_eq_true] at h1
    exact ⟨64 * i + k, by rw [word_bit _ _ _ hk]; exact h1.1, by rw [word_bit _ _ _ hk]; simpa using h1.2⟩
  · rintro ⟨j, h1, h2⟩
    have l1 := bit_lt h1
    refine ⟨j / 64, by simp; omega, decide_eq_true fun h0 => ?_⟩
    rw [growW_getD] at h0
    have h3 := testBit_andn (a := vs.getD (j / 64) 0) (hw.getD (j / 64)) (by omega : j % 64 < 64)
    rw [h0, Nat.zero_testBit] at h3
    unfold bit at h1 h2
    rw [h1, h2] at h3; cases h3
theorem eq_iff_bits {a b : List Nat} (ha : Tr a) (hb : Tr b) (hoa : WOk a) (hob : WOk b) : a = b ↔ ∀ k, bit a k = bit b k := ⟨fun h k => by rw [h], tr_ext ha hb hoa hob⟩

/-! ### Counting -/
theorem elems_upto {ws : List Nat} {N : Nat} (h : 64 * ws.length ≤ N) : elems ws = (List.range N).filter (bit ws) := by
  obtain ⟨d, rfl⟩ : ∃ d, N = 64 * ws.length + d := ⟨N - 64 * ws.length, by omega⟩
  rw [List.range_add, List.filter_append]
  have : (List.map (fun x => 64 * ws.length + x) (List.range d)).filter (bit ws) = [] := by
    rw [List.filter_eq_nil_iff]
    intro x hx
    obtain ⟨y, _, rfl⟩ := List.mem_map.1 hx
    intro hb
    have := bit_lt hb; omega
  rw [this, List.append_nil]; rfl
theorem count_or (l : List Nat) (p q : Nat → Bool) : (l.filter fun j => p j || q j).length + (l.filter fun j => p j && q j).length = (l.filter p).length + (l.filter q).length := by
  induction l with
  | nil => rfl
  | cons x r ih =>
    simp only [List.filter_cons]
    cases hp : p x <;> cases hq : q x <;> simp <;> omega
theorem count_drop (l : List Nat) (p q : Nat → Bool) : (l.filter fun j => p j && !q j).length + (l.filter fun j => p j && q j).length = (l.filter p).length := by
  induction l with
  | nil => rfl
  | cons x r ih =>
    simp only [List.filter_cons]
    cases hp : p x <;> cases hq : q x <;> simp <;> omega
theorem count_turn (l : List Nat) (p q : Nat → Bool) : (l.filter fun j => p j ^^ q j).length + (l.filter fun j => p j && q j).length = (l.filter fun j => p j || q j).length := by
  induction l with
  | nil => rfl
  | cons x r ih =>
    simp only [List.filter_cons]
    cases hp : p x <;> cases hq : q x <;> simp <;> omega
theorem elems_len_of {ws : List Nat} {N : Nat} (p : Nat → Bool) (h : 64 * ws.length ≤ N) (hp : ∀ j, bit ws j = p j) : (elems ws).length = ((List.range N).filter p).length := by
  rw [elems_upto h]
  congr 1
  apply List.filter_congr
  intro j _
  exact hp j
theorem nodup_length_le {a : List Nat} : ∀ {b : List Nat}, a.Nodup → (∀ x ∈ a, x ∈ b) → a.length ≤ b.length := by
  induction a with
  | nil => intros; simp
  | cons x r ih =>
    intro b hn hs
    have hx := hs x (by simp)
    have h1 := List.nodup_cons.1 hn
    have := ih (b := b.erase x) h1.2 (fun y hy => by
      have hne : y ≠ x := fun h => h1.1 (h ▸ hy)
      exact (List.mem_erase_of_ne hne).2 (hs y (by simp [hy])))
    rw [List.length_erase_of_mem hx] at this
    have hb : 0 < b.length := List.length_pos_of_mem hx
    simp only [List.length_cons]; omega
/-- no more than were put -/
theorem elems_newW_le (l : List Int) (hok : allOk l = true) : (elems (newW l [])).length ≤ l.length := by
  have h := bit_newW l [] 
  have : (elems (newW l [])).length ≤ (l.map Int.toNat).length := by
    refine nodup_length_le ((elems_sorted _).imp (fun h => Nat.ne_of_lt h)) fun x hx => ?_
    have h1 := mem_elems.1 hx
    rw [h x hok] at h1
    have h2 : (x : Int) ∈ l := by
      have : bit [] x = false := by simp [bit]
      rw [this, Bool.false_or] at h1
      simpa using h1
    exact List.mem_map.2 ⟨_, h2, by simp⟩
  simpa using this
end Go.Vc
/- What a slice of numbers that came in reads as. -/
namespace Go.Vc
open Go
/-- what the frame tells of a slice of integers that came in: nil; or a row of 'cap' cells, the numbers 'zs' (the first 'len' are its elements), each fitting its kind -/
def IsRow (k : IntKind) (w : World) (a : Option Addr) (len cap : Nat) (zs : List Int) : Prop :=
  (a = none ∧ len = 0 ∧ cap = 0 ∧ zs = []) ∨
  ∃ x, a = some x ∧ len ≤ cap ∧ cap ≤ maxLen ∧ zs.length = cap ∧ (∀ i, i < zs.length → w.cell? (x.add i) = some (.int k (zs.getD i 0))) ∧ ∀ n ∈ zs, (Lit.int k n).wf = true
theorem IsRow.read {k : IntKind} {w : World} {a : Option Addr} {len cap : Nat} {zs : List Int} (h : IsRow k w a len cap zs) : ReadS w a (zs.map (Value.int k)) := by
  rcases h with ⟨rfl, _, _, rfl⟩ | ⟨x, rfl, _, _, _, hc, _⟩
  · rfl
  · intro i v hv
    have hi : i < zs.length := by have := (List.getElem?_eq_some_iff.1 hv).1; simpa using this
    rw [hc i hi]
    simp [hi] at hv
    subst hv
    simp [List.getD_eq_getElem?_getD, hi]
theorem IsRow.len_le {k : IntKind} {w : World} {a : Option Addr} {len cap : Nat} {zs : List Int} (h : IsRow k w a len cap zs) : len ≤ zs.length ∧ zs.length = cap ∧ cap ≤ 9223372036854775807 := by
  rcases h with ⟨_, rfl, rfl, rfl⟩ | ⟨x, _, h1, h2, h3, _⟩
  · simp
  · simp only [maxLen] at h2; omega
theorem IsRow.rng64 {w : World} {a : Option Addr} {len cap : Nat} {zs : List Int} (h : IsRow .i64 w a len cap zs) (i : Nat) : -9223372036854775808 ≤ zs.getD i 0 ∧ zs.getD i 0 ≤ 9223372036854775807 := by
  rcases h with ⟨_, _, _, rfl⟩ | ⟨x, _, _, _, _, _, hw⟩
  · simp
  · rw [List.getD_eq_getElem?_getD]; exact range_i64 hw i
theorem IsRow.bytes {w : World} {a : Option Addr} {len cap : Nat} {zs : List Int} (h : IsRow .u8 w a len cap zs) : ∃ bs : List UInt8, zs = bs.map fun c => (c.toNat : Int) := by
  have hw : ∀ n ∈ zs, 0 ≤ n ∧ n ≤ 255 := by
    rcases h with ⟨_, _, _, rfl⟩ | ⟨x, _, _, _, _, _, hw⟩
    · simp
    · exact fun n hn => bounds_u8 (hw n hn)
  refine ⟨zs.map fun n => UInt8.ofNat n.toNat, ?_⟩
  rw [List.map_map]
  conv => lhs; rw [show zs = zs.map id from by simp]
  apply List.map_congr_left
  intro n hn
  have := hw n hn
  simp only [id, Function.comp, UInt8.toNat_ofNat']
  omega
end Go.Vc
/- bits: BitsOrder. -/
namespace Go.Vc
open Go Go.Proofs
set_option maxRecDepth 10000
variable {w : World}

def atI (pre : List Nat) : Int := match pre.getLast? with | some k => (k : Int) | none => -1
theorem atI_snoc (pre : List Nat) (k : Nat) : atI (pre ++ [k]) = (k : Int) := by simp [atI]
theorem atI_facts {ws pre post : List Nat} (h : elems ws = pre ++ post) : (∀ j, j ∈ pre → (j : Int) < atI pre + 1) ∧ 0 ≤ atI pre + 1 ∧ (∀ j, bit ws j = true → (j : Int) < atI pre + 1 → j ∈ pre) := by
  rcases List.eq_nil_or_concat pre with rfl | ⟨pre', k, rfl⟩
  · refine ⟨by simp, by simp [atI], fun j _ hj => ?_⟩
    simp [atI] at hj; omega
  · rw [List.concat_eq_append] at h ⊢
    rw [atI_snoc]
    rw [List.append_assoc] at h
    obtain ⟨h1, h2, h3⟩ := elems_split (k := k) (post := post) h
    refine ⟨fun j hj => ?_, by omega, fun j hb hj => ?_⟩
    · rcases List.mem_append.1 hj with hj | hj
      · have := h2 j hj; omega
      · simp at hj; omega
    · by_cases hlt : j < k
      · exact List.mem_append_left _ (h3 j hb hlt)
      · have : j = k := by omega
        subst this; simp
theorem nextV_at {ws pre post : List Nat} (h : elems ws = pre ++ post) : nextV ws (atI pre + 1) = .tuple #[I (max (hdI post) 0), .bool (decide (0 ≤ hdI post))] := by
  obtain ⟨h1, h2, h3⟩ := atI_facts h
  unfold nextV
  rw [nxI_elems h _ h1 h2 h3]
theorem atI_rng {ws pre post : List Nat} (h : elems ws = pre ++ post) (hl : ws.length ≤ 16384) : -1 ≤ atI pre ∧ atI pre < 1048576 := by
  have h0 := (atI_facts h).2.1
  refine ⟨by omega, ?_⟩
  rcases List.eq_nil_or_concat pre with rfl | ⟨pre', k, rfl⟩
  · simp [atI]
  · rw [List.concat_eq_append] at h ⊢
    rw [atI_snoc]
    have hb := bit_lt (mem_elems.1 (by rw [h]; simp : k ∈ elems ws))
    omega

/-! ### As the rows want it -/
theorem Ret.calls {P : Program} {f : FuncId} {vs : List Value} {w : World} (h : Ret P f vs w (fun v w' => v = .bool true ∧ Kp [] w w')) : Calls P f ⟨vs⟩ w (fun e w' => e = .returned (.bool true) ∧ RowKit.Below w.heap.size w w') :=
  h.2.mono fun _ _ ⟨_, he, hv, kp⟩ => ⟨by rw [he, hv], kp.below⟩
theorem wf64 {x : Int} (h : (Lit.int .i64 x).wf = true) : -9223372036854775808 ≤ x ∧ x ≤ 9223372036854775807 := by
  simpa [Lit.wf, IntKind.min, IntKind.max, IntKind.signed, IntKind.bits] using h
theorem IsRow.ints {w : World} {a : Option Addr} {len cap : Nat} {zs : List Int} (h : IsRow .i64 w a len cap zs) : ReadS w a ((zs.take len).map I) ∧ (zs.take len).length = len ∧ ∀ x ∈ zs.take len, -9223372036854775808 ≤ x ∧ x ≤ 9223372036854775807 := by
  have hl := h.len_le
  refine ⟨?_, by simp; omega, fun x hx => ?_⟩
  · rw [List.map_take]; exact h.read.take len
  · obtain ⟨i, hi⟩ := List.getElem?_of_mem (List.mem_of_mem_take hx)
    have := h.rng64 i
    rw [List.getD_eq_getElem?_getD, hi] at this
    exact this
end Go.Vc
/- bits: BitsWords. -/
namespace Go.Vc
open Go Go.Proofs
set_option maxRecDepth 10000
variable {w : World}

section
variable {P : Program} {n : Nat} {e : Env} {K : EPost} {all : List Oper} {G : List Nat} {ro : Option Nat} {dst : Option Tmp} {ty : TypeId} {pos : String} {after : Array Edge} {g : Option (Nat × Bool)} {l : List Oper} {t : TypeId} {x y : Operand}
/-- append(nil, s...): a copy of one's own -/
theorem o_appendNil {T : TypeId} {td : TypeDesc} {tn : String} {tby : Nat} {thp : Bool} {tal tfa : Nat} {z : Value} {tcm : Bool} {tms : Array Method}
    {ad : Option Addr} {m cy : Nat} (news : List Value) (hx : ev e x = .slice none 0 0) (hy : ev e y = .slice ad m cy) (hr : ReadS w ad news)
    (hu : P.underlying t = some (.slice T)) (hi : P.info? T = some ⟨td, tn, 1, tby, thp, tal, tfa, some z, tcm, tms⟩) (hzs : z.cells.size = 1)
    (hl : news.length = m) (h1 : ∀ v ∈ news, v.oneCell' = true) (h63 : m ≤ maxLen) (hby : m * tby ≤ 140737488355328) (hd : dOk n dst = true) (hm : may all G e g = some true)
    (kk : ∀ ad' cap' w', NewS w T w' ad' m cap' news → Ops ro P n all G K l (put e dst (.slice ad' m cap')) w') :
    Ops ro P n all G K (⟨dst, .call ⟨.builtin .append, #[x, y], #[t, t]⟩, ty, pos, after, g⟩ :: l) e w := by
  by_cases h0 : m = 0
  · subst h0
    have : news = [] := List.eq_nil_of_length_eq_zero hl
    subst this
    exact o_append0 hx hy (Nat.le_refl _) hu hi hd hm (kk none 0 w ⟨ownS_nil _ _ _, Kp.refl _ _, by simp [blkOf]⟩)
  · obtain ⟨b, off, rfl, _, hc⟩ := hr.at_ (by omega)
    refine o_append news hx hy (ownS_nil _ _ _) (fun j v hv => by rw [addr_lit]; exact hc j v hv) hu hi hzs (by omega) (by omega) (by omega) h1 (by omega) (by rw [Nat.zero_add]; exact hby) hd hm ?_
    intro ad' cap' w' ho hk hnew
    rw [Nat.zero_add] at ho ⊢
    refine kk ad' cap' w' ⟨ho, hk, fun b hb => ?_⟩
    rcases hnew b hb with h | h
    · simp [blkOf] at h
    · exact h
end
theorem trim_trim (ws : List Nat) : trim (trim ws) = trim ws := by
  rcases trim_last ws with h | ⟨l, x, h, hx⟩
  · rw [h]; rfl
  · rw [h]; exact trim_snoc hx
theorem elems_lt {ws : List Nat} (h : ws.length ≤ 16384) : ∀ k ∈ elems ws, k < 1048576 := fun k hk => by have := bit_lt (mem_elems.1 hk); omega

theorem wfU {x : Int} (h : (Lit.int .u64 x).wf = true) : 0 ≤ x ∧ x < 18446744073709551616 := by
  have := h
  simp [Lit.wf, IntKind.min, IntKind.max, IntKind.signed, IntKind.bits] at this
  omega
theorem IsRow.words {w : World} {a : Option Addr} {len cap : Nat} {zs : List Int} (h : IsRow .u64 w a len cap zs) : ∃ ws : List Nat, ReadS w a (ws.map U) ∧ ws.length = len ∧ WOk ws ∧ zs.take len = ws.map (fun (n : Nat) => (n : Int)) := by
  have hl := h.len_le
  have hw : ∀ x ∈ zs, 0 ≤ x ∧ x < 18446744073709551616 := by
    rcases h with ⟨_, _, _, rfl⟩ | ⟨x, _, _, _, _, _, hw⟩
    · simp
    · exact fun n hn => wfU (hw n hn)
  have hr := h.read.take len
  rw [← List.map_take] at hr
  have e1 : zs.take len = ((zs.take len).map Int.toNat).map (fun (n : Nat) => (n : Int)) := by
    rw [List.map_map]
    conv => lhs; rw [show zs.take len = (zs.take len).map id by simp]
    apply List.map_congr_left
    intro x hx
    have := hw x (List.mem_of_mem_take hx)
    simp only [id, Function.comp]; omega
  refine ⟨(zs.take len).map Int.toNat, ?_, by simp; omega, ?_, e1⟩
  · rw [e1] at hr
    rw [List.map_map] at hr
    have : (Value.int IntKind.u64 ∘ fun (n : Nat) => (n : Int)) = U := rfl
    rw [this] at hr; exact hr
  · intro y hy
    obtain ⟨x, hx, rfl⟩ := List.mem_map.1 hy
    have := hw x (List.mem_of_mem_take hx)
    omega
end Go.Vc
/- bits: families of sets that share nothing; BitsAlgebra. -/
namespace Go.Vc
open Go Go.Proofs
set_option maxRecDepth 10000
variable {w : World}

/-- a set's place and words -/
structure S4 where
  p : Nat
  ws : List Nat
  ad : Option Addr
  cap : Nat
def S4.blks (s : S4) : List Nat := s.p :: blkOf s.ad
end Go.Vc
/- bits: a relation in memory; NewRelation, Size, Link, Linked. -/
namespace Go.Vc
open Go Go.Proofs
set_option maxRecDepth 10000
variable {w : World}

def wid (n : Nat) : Nat := (n + 63) / 64
abbrev rowV (W : Nat) (b : Nat) : Value := .slice (some ⟨b, 0, none⟩) W W
def relBlks (p : Nat) (ad : Option Addr) (bs : List Nat) : List Nat := p :: (blkOf ad ++ bs)
section
variable {p n : Nat} {bs : List Nat} {M : List (List Nat)} {ad : Option Addr} {cap : Nat}
theorem relRow_ne {b1 b2 : Nat} {l1 l2 : List Value} {T1 T2 : TypeId} (h1 : Blk w b1 l1 T1) (h2 : Blk w b2 l2 T2) (hT : T1 ≠ T2) : b1 ≠ b2 := by
  rintro rfl
  unfold Blk at h1 h2
  rw [h1] at h2
  simp at h2
  exact hT h2.2
end
/-- is i linked to j -/
def bitM (M : List (List Nat)) (i j : Nat) : Bool := bit (M.getD i []) j
theorem bitM_row {M : List (List Nat)} {i : Nat} {ws : List Nat} (h : M[i]? = some ws) (j : Nat) : bitM M i j = bit ws j := by unfold bitM; rw [List.getD_eq_getElem?_getD, h]; rfl
theorem rthere_nil : Ret Try.prog 83 [.pointer none] w (fun v w' => v = .bool false ∧ w' = w) := by
  refine enter Try.call83 Try.func83 rfl rfl rfl rfl ?_
  (repeat first|refine zA ?_|refine zB ?_|refine zC ?_|refine zD ?_|refine zE ?_|refine zg ?_|refine zo rfl rfl (by first|exact trivial|(simp only[AllP];omega)|(simp(discharger:=omega)only[AllP,cA,cB];omega)|(simp only[AllP,cC,cD,cE,cF,cG];omega)) ?_|refine zn ?_|refine zb ?_|refine ze rfl ?_|refine zr ?_|refine zk ?_|refine zT rfl rfl rfl ?_|refine zU rfl rfl rfl ?_|refine zV rfl rfl rfl ?_|refine zf rfl ?_|refine zt rfl ?_)
  exact ⟨_, rfl, rfl, rfl⟩
def nodeB (n : Nat) (i : Int) : Bool := decide (0 ≤ i) && decide (i < n)
/-! ### NewRelation -/
def zeroM (n : Nat) : List (List Nat) := List.replicate n (List.replicate (wid n) 0)
theorem bitM_zero (n i j : Nat) : bitM (zeroM n) i j = false := by
  unfold bitM zeroM bit
  rw [List.getD_eq_getElem?_getD (l := List.replicate n _), List.getElem?_replicate]
  split
  · simp only [Option.getD_some]
    rw [List.getD_eq_getElem?_getD, List.getElem?_replicate]
    split <;> simp
  · simp
theorem NewRelation_bad {x : Int} (hx : x < 0 ∨ 2048 < x) : Ret Try.prog 52 [I x] w (fun v w' => v = .tuple #[.pointer none, I 2] ∧ w' = w) := by
  refine enter Try.call52 Try.func52 rfl rfl rfl rfl ?_
  (repeat first|refine zA ?_|refine zB ?_|refine zC ?_|refine zD ?_|refine zE ?_|refine zg ?_|refine zo rfl rfl (by first|exact trivial|(simp only[AllP];omega)|(simp(discharger:=omega)only[AllP,cA,cB];omega)|(simp only[AllP,cC,cD,cE,cF,cG];omega)) ?_|refine zn ?_|refine zb ?_|refine ze rfl ?_|refine zr ?_|refine zk ?_|refine zT rfl rfl rfl ?_|refine zU rfl rfl rfl ?_|refine zV rfl rfl rfl ?_|refine zf rfl ?_|refine zt rfl ?_)
  refine o_bool [0] [I x] 10 true (fun w' => w' = w) ?_ ?_
  · refine o_split 2 false rfl rfl rfl (fun hb => ?_) (fun hb => ?_)
    · (repeat first|refine zo rfl rfl (by first|exact trivial|(simp only[AllP];omega)|(simp(discharger:=omega)only[AllP,cA,cB];omega)|(simp only[AllP,cC,cD,cE,cF,cG];omega)) ?_|refine zn ?_|refine zT rfl rfl rfl ?_|refine zU rfl rfl rfl ?_|refine zV rfl rfl rfl ?_)
      exact ⟨rfl, ⟨_, rfl, rfl⟩, rfl⟩
    · have hb' : ¬ x < 0 := by simpa using hb
      (repeat first|refine zo rfl rfl (by first|exact trivial|(simp only[AllP];omega)|(simp(discharger:=omega)only[AllP,cA,cB];omega)|(simp only[AllP,cC,cD,cE,cF,cG];omega)) ?_|refine zn ?_|refine zT rfl rfl rfl ?_|refine zU rfl rfl rfl ?_|refine zV rfl rfl rfl ?_)
      exact ⟨rfl, ⟨_, rfl, by simp; omega⟩, rfl⟩
  rintro e w' rfl
  (repeat first|refine zA ?_|refine zB ?_|refine zC ?_|refine zD ?_|refine zE ?_|refine zg ?_|refine zo rfl rfl (by first|exact trivial|(simp only[AllP];omega)|(simp(discharger:=omega)only[AllP,cA,cB];omega)|(simp only[AllP,cC,cD,cE,cF,cG];omega)) ?_|refine zn ?_|refine zb ?_|refine ze rfl ?_|refine zr ?_|refine zk ?_|refine zT rfl rfl rfl ?_|refine zU rfl rfl rfl ?_|refine zV rfl rfl rfl ?_|refine zf rfl ?_|refine zt rfl ?_)
  exact ⟨_, rfl, rfl, rfl⟩
end Go.Vc
/- bits: relations: Link, Linked, Row, the copy of the rows, the pairs' iterator. -/
namespace Go.Vc
open Go Go.Proofs
set_option maxRecDepth 10000
variable {w : World}

section
variable {p n : Nat} {bs : List Nat} {M : List (List Nat)} {ad : Option Addr} {cap : Nat}
theorem nodeB_nat {x : Int} (h : nodeB n x = true) : ∃ k : Nat, x = (k : Int) ∧ k < n := by
  unfold nodeB at h
  simp only [Bool.and_eq_true, decide_eq_true_eq] at h
  exact ⟨x.toNat, by omega, by omega⟩
def linkM (M : List (List Nat)) (i j : Nat) : List (List Nat) := M.set i ((M.getD i []).set (j / 64) ((M.getD i []).getD (j / 64) 0 ||| 2 ^ (j % 64)))
theorem wid_lt {j : Nat} (h : j < n) : j / 64 < wid n := by unfold wid; omega
theorem Link_nil {i j : Int} : Ret Try.prog 53 [.pointer none, I i, I j] w (fun v w' => v = I 1 ∧ w' = w) := by
  refine enter Try.call53 Try.func53 rfl rfl rfl rfl ?_
  (repeat first|refine zA ?_|refine zB ?_|refine zC ?_|refine zD ?_|refine zE ?_|refine zg ?_|refine zo rfl rfl (by first|exact trivial|(simp only[AllP];omega)|(simp(discharger:=omega)only[AllP,cA,cB];omega)|(simp only[AllP,cC,cD,cE,cF,cG];omega)) ?_|refine zn ?_|refine zb ?_|refine ze rfl ?_|refine zr ?_|refine zk ?_|refine zT rfl rfl rfl ?_|refine zU rfl rfl rfl ?_|refine zV rfl rfl rfl ?_|refine zf rfl ?_|refine zt rfl ?_)
  refine o_call rthere_nil rfl rfl rfl ?_
  rintro v w1 ⟨rfl, rfl⟩
  (repeat first|refine zA ?_|refine zB ?_|refine zC ?_|refine zD ?_|refine zE ?_|refine zg ?_|refine zo rfl rfl (by first|exact trivial|(simp only[AllP];omega)|(simp(discharger:=omega)only[AllP,cA,cB];omega)|(simp only[AllP,cC,cD,cE,cF,cG];omega)) ?_|refine zn ?_|refine zb ?_|refine ze rfl ?_|refine zr ?_|refine zk ?_|refine zT rfl rfl rfl ?_|refine zU rfl rfl rfl ?_|refine zV rfl rfl rfl ?_|refine zf rfl ?_|refine zt rfl ?_)
  exact ⟨_, rfl, rfl, rfl⟩
def linkedB (n : Nat) (M : List (List Nat)) (i j : Int) : Bool := nodeB n i && nodeB n j && bitM M i.toNat j.toNat
theorem Linked_nil (i j : Int) : Ret Try.prog 69 [.pointer none, I i, I j] w (fun v w' => v = .bool false ∧ w' = w) := by
  refine enter Try.call69 Try.func69 rfl rfl rfl rfl ?_
  (repeat first|refine zA ?_|refine zB ?_|refine zC ?_|refine zD ?_|refine zE ?_|refine zg ?_|refine zo rfl rfl (by first|exact trivial|(simp only[AllP];omega)|(simp(discharger:=omega)only[AllP,cA,cB];omega)|(simp only[AllP,cC,cD,cE,cF,cG];omega)) ?_|refine zn ?_|refine zb ?_|refine ze rfl ?_|refine zr ?_|refine zk ?_|refine zT rfl rfl rfl ?_|refine zU rfl rfl rfl ?_|refine zV rfl rfl rfl ?_|refine zf rfl ?_|refine zt rfl ?_)
  refine o_call rthere_nil rfl rfl rfl ?_
  rintro v w1 ⟨rfl, rfl⟩
  (repeat first|refine zA ?_|refine zB ?_|refine zC ?_|refine zD ?_|refine zE ?_|refine zg ?_|refine zo rfl rfl (by first|exact trivial|(simp only[AllP];omega)|(simp(discharger:=omega)only[AllP,cA,cB];omega)|(simp only[AllP,cC,cD,cE,cF,cG];omega)) ?_|refine zn ?_|refine zb ?_|refine ze rfl ?_|refine zr ?_|refine zk ?_|refine zT rfl rfl rfl ?_|refine zU rfl rfl rfl ?_|refine zV rfl rfl rfl ?_|refine zf rfl ?_|refine zt rfl ?_)
  exact ⟨_, rfl, rfl, rfl⟩
/-! ### The copy of the rows -/
/-- rows that lie in a block: their slices As, their words M -/
structure RowsAt (w : World) (bc n : Nat) (As : List (Option Addr × Nat)) (M : List (List Nat)) : Prop where
  blk : Blk w bc (As.map fun x => Value.slice x.1 (wid n) x.2) 135
  nA : As.length = n
  nM : M.length = n
  row : ∀ (i : Nat) (x : Option Addr × Nat) (ws : List Nat), As[i]? = some x → M[i]? = some ws → OwnS w 136 1 x.1 (wid n) x.2 (ws.map U) ∧ WOk ws ∧ ws.length = wid n
def rowsBlks (bc : Nat) (As : List (Option Addr × Nat)) : List Nat := bc :: As.flatMap fun x => blkOf x.1
theorem RowsAt.keep {w' : World} {bc : Nat} {As : List (Option Addr × Nat)} (h : RowsAt w bc n As M) (hk : ∀ b, b ∈ rowsBlks bc As → w'.heap[b]? = w.heap[b]?) : RowsAt w' bc n As M :=
  ⟨by unfold Blk; rw [hk bc (by simp [rowsBlks])]; exact h.blk, h.nA, h.nM, fun i x ws h1 h2 => ⟨(h.row i x ws h1 h2).1.keep (fun b hb => hk b (by
    unfold rowsBlks
    refine List.mem_cons_of_mem _ (List.mem_flatMap.2 ⟨x, List.mem_of_getElem? h1, hb⟩))), (h.row i x ws h1 h2).2⟩⟩
theorem RowsAt.lt {bc : Nat} {As : List (Option Addr × Nat)} (h : RowsAt w bc n As M) : ∀ b, b ∈ rowsBlks bc As → b < w.heap.size := by
  intro b hb
  rcases List.mem_cons.1 hb with rfl | hb
  · exact h.blk.lt
  · obtain ⟨x, hx, hb⟩ := List.mem_flatMap.1 hb
    obtain ⟨i, hi⟩ := List.getElem?_of_mem hx
    have hlt : i < M.length := by rw [h.nM, ← h.nA]; exact (List.getElem?_eq_some_iff.1 hi).1
    exact (h.row i x M[i] hi (List.getElem?_eq_getElem hlt)).1.lt b hb
end
end Go.Vc
