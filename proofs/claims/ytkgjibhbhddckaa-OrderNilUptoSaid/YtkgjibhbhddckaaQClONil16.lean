/- bits: what the operations on relations do to the links; chains. No program. -/
import Derived.Test.YtkgjibhbhddckaaQClONil15
namespace Go.Vc
open Go

/-- n rows of the right width -/
structure MOk (n : Nat) (M : List (List Nat)) : Prop where
  len : M.length = n
  row : ∀ ws ∈ M, ws.length = wid n ∧ WOk ws
theorem MOk.get {n : Nat} {M : List (List Nat)} (h : MOk n M) {i : Nat} (hi : i < n) : ∃ ws, M[i]? = some ws ∧ M.getD i [] = ws ∧ ws.length = wid n ∧ WOk ws := by
  have hl : i < M.length := by rw [h.len]; exact hi
  refine ⟨M[i], List.getElem?_eq_getElem hl, ?_, h.row _ (List.getElem_mem hl)⟩
  rw [List.getD_eq_getElem?_getD, List.getElem?_eq_getElem hl]; rfl
theorem MOk.set {n : Nat} {M : List (List Nat)} (h : MOk n M) {i : Nat} {ws : List Nat} (hw : ws.length = wid n) (hok : WOk ws) : MOk n (M.set i ws) :=
  ⟨by simpa using h.len, fun x hx => by
    rcases List.mem_or_eq_of_mem_set hx with h1 | h1
    · exact h.row x h1
    · rw [h1]; exact ⟨hw, hok⟩⟩
theorem bitM_set {M : List (List Nat)} {i : Nat} {ws : List Nat} (hi : i < M.length) (a b : Nat) : bitM (M.set i ws) a b = if a = i then bit ws b else bitM M a b := by
  unfold bitM
  rw [List.getD_eq_getElem?_getD, List.getD_eq_getElem?_getD, List.getElem?_set]
  by_cases h : i = a
  · subst h; simp [hi]
  · rw [if_neg h, if_neg (fun e => h e.symm)]
theorem linkM_ok {n : Nat} {M : List (List Nat)} (h : MOk n M) {i j : Nat} (hi : i < n) (hj : j < n) : MOk n (linkM M i j) := by
  obtain ⟨ws, h1, h2, h3, h4⟩ := h.get hi
  unfold linkM
  rw [h2]
  exact h.set (by simpa using h3) (h4.set (Nat.or_lt_two_pow (h4.getD _) (Nat.pow_lt_pow_right (by omega) (by omega))))
theorem bitM_linkM {n : Nat} {M : List (List Nat)} (h : MOk n M) {i j : Nat} (hi : i < n) (hj : j < n) (a b : Nat) : bitM (linkM M i j) a b = (bitM M a b || decide (a = i ∧ b = j)) := by
  obtain ⟨ws, h1, h2, h3, h4⟩ := h.get hi
  have hjw := wid_lt hj
  unfold linkM
  rw [bitM_set (by rw [h.len]; exact hi)]
  by_cases ha : a = i
  · subst ha
    rw [if_pos rfl]
    have : bitM M a b = bit (M.getD a []) b := rfl
    rw [this, h2]
    unfold bit
    rw [getD_set _ _ _ _ (by omega)]
    by_cases hb : j / 64 = b / 64
    · rw [if_pos hb, Nat.testBit_or, Nat.testBit_two_pow, hb]
      congr 1
      rw [decide_eq_decide]
      constructor
      · intro e; exact ⟨rfl, by omega⟩
      · rintro ⟨_, e⟩; omega
    · rw [if_neg hb]
      have : ¬ (a = a ∧ b = j) := fun e => hb (by rw [e.2])
      rw [decide_eq_false this, Bool.or_false]
  · rw [if_neg ha]
    simp [ha]
theorem zeroM_ok (n : Nat) : MOk n (zeroM n) := ⟨by simp [zeroM], fun ws hw => by
  unfold zeroM at hw
  rw [List.mem_replicate] at hw
  rw [hw.2]
  exact ⟨by simp, WOk.zeros _⟩⟩
theorem turnedM_bits {n : Nat} : ∀ (xs : List (Nat × Nat)), (∀ x ∈ xs, x.1 < n ∧ x.2 < n) → MOk n (turnedM n xs) ∧ ∀ a b, bitM (turnedM n xs) a b = decide ((b, a) ∈ xs) := by
  have key : ∀ (xs : List (Nat × Nat)) (T : List (List Nat)), MOk n T → (∀ x ∈ xs, x.1 < n ∧ x.2 < n) → MOk n (xs.foldl (fun T x => linkM T x.2 x.1) T) ∧ ∀ a b, bitM (xs.foldl (fun T x => linkM T x.2 x.1) T) a b = (bitM T a b || decide ((b, a) ∈ xs)) := by
    intro xs
    induction xs with
    | nil => intro T hT _; exact ⟨hT, fun a b => by simp⟩
    | cons x r ih =>
      intro T hT hx
      obtain ⟨h1, h2⟩ := hx x (by simp)
      obtain ⟨i1, i2⟩ := ih (linkM T x.2 x.1) (linkM_ok hT h2 h1) (fun y hy => hx y (by simp [hy]))
      refine ⟨i1, fun a b => ?_⟩
      rw [List.foldl_cons, i2, bitM_linkM hT h2 h1, Bool.or_assoc]
      congr 1
      rw [Bool.eq_iff_iff]
      simp only [Bool.or_eq_true, decide_eq_true_eq, List.mem_cons]
      constructor
      · rintro (⟨e1, e2⟩ | h)
        · left; rw [e1, e2]
        · exact .inr h
      · rintro (h | h)
        · left; cases x; cases h; exact ⟨rfl, rfl⟩
        · exact .inr h
  intro xs hx
  obtain ⟨h1, h2⟩ := key xs (zeroM n) (zeroM_ok n) hx
  exact ⟨h1, fun a b => by unfold turnedM; rw [h2, bitM_zero, Bool.false_or]⟩
theorem bitM_out {n : Nat} {M : List (List Nat)} (h : MOk n M) {i : Nat} (hi : n ≤ i) (j : Nat) : bitM M i j = false := by
  unfold bitM
  rw [List.getD_eq_getElem?_getD, List.getElem?_eq_none (by rw [h.len]; exact hi)]
  simp [bit]
theorem turned_ok {n : Nat} {M : List (List Nat)} (h : MOk n M) (hin : InB n M) : MOk n (turnedM n (pairsL n M)) ∧ (∀ a b, bitM (turnedM n (pairsL n M)) a b = bitM M b a) ∧ InB n (turnedM n (pairsL n M)) := by
  obtain ⟨h1, h2⟩ := turnedM_bits (n := n) (pairsL n M) (fun x hx => by
    obtain ⟨a, b⟩ := x
    obtain ⟨g1, g2⟩ := mem_pairsL.1 hx
    exact ⟨g1, hin _ _ g2⟩)
  have h3 : ∀ a b, bitM (turnedM n (pairsL n M)) a b = bitM M b a := fun a b => by
    rw [h2, Bool.eq_iff_iff, decide_eq_true_eq, mem_pairsL]
    constructor
    · exact fun h => h.2
    · intro hb
      refine ⟨?_, hb⟩
      apply Classical.byContradiction
      intro hn
      rw [bitM_out h (by omega)] at hb; cases hb
  refine ⟨h1, h3, fun i j hb => ?_⟩
  rw [h3] at hb
  apply Classical.byContradiction
  intro hn
  rw [bitM_out h (by omega)] at hb; cases hb

/-! ### The closure -/
theorem bit_orRow {a b : List Nat} (h : b.length ≤ a.length) (j : Nat) : bit (orRow a b) j = (bit a j || bit b j) := by
  unfold orRow bit
  rw [updW_getD']
  by_cases h1 : j / 64 < a.length
  · rw [if_pos h1]
    by_cases h2 : j / 64 < b.length
    · rw [if_pos h2, Nat.testBit_or]
    · rw [if_neg h2, getD_beyond (ws := b) (by omega), Nat.zero_testBit, Bool.or_false]
  · rw [if_neg h1, getD_beyond (ws := a) (by omega), getD_beyond (ws := b) (by omega), Nat.zero_testBit]; rfl
theorem orRow_ok {n : Nat} {a b : List Nat} (ha : a.length = wid n ∧ WOk a) (hb : b.length = wid n ∧ WOk b) : (orRow a b).length = wid n ∧ WOk (orRow a b) := by
  refine ⟨by unfold orRow; rw [updW_len]; exact ha.1, fun x hx => ?_⟩
  unfold orRow updW at hx
  obtain ⟨i, _, rfl⟩ := List.mem_map.1 hx
  split
  · exact Nat.or_lt_two_pow (ha.2.getD _) (hb.2.getD _)
  · exact ha.2.getD _
theorem stepK_bits {n : Nat} {T : List (List Nat)} (h : MOk n T) {k : Nat} (hk : k < n) (m : Nat) (hm : m ≤ n) : MOk n (stepK n T k m) ∧ ∀ i j, bitM (stepK n T k m) i j = (bitM T i j || (decide (i < m) && bitM T i k && bitM T k j)) := by
  induction m with
  | zero => exact ⟨h, fun i j => by simp [stepK]⟩
  | succ m ih =>
    obtain ⟨h1, h2⟩ := ih (by omega)
    rw [stepK_succ]
    have hkk : ∀ j, bitM (stepK n T k m) k j = bitM T k j := fun j => by
      rw [h2]
      cases hb : bitM T k j <;> simp
    have hmk : bitM (stepK n T k m) m k = bitM T m k := by rw [h2]; simp
    have hmj : ∀ j, bitM (stepK n T k m) m j = bitM T m j := fun j => by rw [h2]; simp
    rw [hmk]
    cases hb : bitM T m k with
    | false =>
      rw [if_neg (by simp)]
      refine ⟨h1, fun i j => ?_⟩
      rw [h2]
      by_cases him : i = m
      · subst him; rw [hb]; simp
      · have : decide (i < m) = decide (i < m + 1) := by rw [decide_eq_decide]; omega
        rw [this]
    | true =>
      rw [if_pos rfl]
      obtain ⟨wm, a1, a2, a3⟩ := h1.get (i := m) (by omega)
      obtain ⟨wk, b1, b2, b3⟩ := h1.get hk
      have ho := orRow_ok a3 b3
      rw [a2, b2]
      refine ⟨h1.set ho.1 ho.2, fun i j => ?_⟩
      rw [bitM_set (by rw [h1.len]; omega)]
      by_cases him : i = m
      · subst him
        rw [if_pos rfl, bit_orRow (by omega)]
        have e1 : bit wm j = bitM (stepK n T k i) i j := by unfold bitM; rw [a2]
        have e2 : bit wk j = bitM (stepK n T k i) k j := by unfold bitM; rw [b2]
        rw [e1, e2, hmj, hkk, hb]; simp
      · rw [if_neg him, h2]
        have : decide (i < m) = decide (i < m + 1) := by rw [decide_eq_decide]; omega
        rw [this]
theorem closeTo_ok {n : Nat} {M : List (List Nat)} (h : MOk n M) (m : Nat) (hm : m ≤ n) : MOk n (closeTo n M m) := by
  induction m with
  | zero => exact h
  | succ m ih => rw [closeTo_succ]; exact (stepK_bits (ih (by omega)) (by omega) n (Nat.le_refl _)).1
theorem closeTo_bits {n : Nat} {M : List (List Nat)} (h : MOk n M) {m : Nat} (hm : m < n) (i j : Nat) : bitM (closeTo n M (m + 1)) i j = (bitM (closeTo n M m) i j || (bitM (closeTo n M m) i m && bitM (closeTo n M m) m j)) := by
  have hT := closeTo_ok h m (by omega)
  rw [closeTo_succ, (stepK_bits hT hm n (Nat.le_refl _)).2]
  by_cases hi : i < n
  · simp [hi]
  · rw [bitM_out hT (by omega) m]; simp
/-- a chain of one link or more -/
inductive Ch (R : Nat → Nat → Prop) : Nat → Nat → Prop
  | one {i j : Nat} : R i j → Ch R i j
  | more {i k j : Nat} : R i k → Ch R k j → Ch R i j
theorem Ch.trans {R : Nat → Nat → Prop} {i k j : Nat} (h : Ch R i k) (g : Ch R k j) : Ch R i j := by
  induction h with
  | one h => exact .more h g
  | more h _ ih => exact .more h (ih g)
theorem Ch.mono {R S : Nat → Nat → Prop} (hs : ∀ i j, R i j → S i j) {i j : Nat} (h : Ch R i j) : Ch S i j := by
  induction h with
  | one h => exact .one (hs _ _ h)
  | more h _ ih => exact .more (hs _ _ h) ih
theorem Ch.flip {R : Nat → Nat → Prop} {i j : Nat} (h : Ch R i j) : Ch (fun a b => R b a) j i := by
  induction h with
  | one h => exact .one h
  | more h _ ih => exact ih.trans (.one h)
def linkR (M : List (List Nat)) : Nat → Nat → Prop := fun i j => bitM M i j = true
theorem closeTo_sound {n : Nat} {M : List (List Nat)} (h : MOk n M) (m : Nat) (hm : m ≤ n) : ∀ i j, bitM (closeTo n M m) i j = true → Ch (linkR M) i j := by
  induction m with
  | zero => exact fun i j hb => .one hb
  | succ m ih =>
    intro i j hb
    rw [closeTo_bits h (by omega)] at hb
    rw [Bool.or_eq_true, Bool.and_eq_true] at hb
    rcases hb with hb | ⟨h1, h2⟩
    · exact ih (by omega) i j hb
    · exact (ih (by omega) i m h1).trans (ih (by omega) m j h2)
theorem closeTo_incl {n : Nat} {M : List (List Nat)} (h : MOk n M) (m : Nat) (hm : m ≤ n) : ∀ i j, bitM M i j = true → bitM (closeTo n M m) i j = true := by
  induction m with
  | zero => exact fun i j hb => hb
  | succ m ih => intro i j hb; rw [closeTo_bits h (by omega), ih (by omega) i j hb]; rfl
theorem closeTo_tran {n : Nat} {M : List (List Nat)} (h : MOk n M) (m : Nat) (hm : m ≤ n) : ∀ k, k < m → ∀ i j, bitM (closeTo n M m) i k = true → bitM (closeTo n M m) k j = true → bitM (closeTo n M m) i j = true := by
  induction m with
  | zero => intro k hk; omega
  | succ m ih =>
    have P := ih (by omega)
    intro k hk i j h1 h2
    rw [closeTo_bits h (by omega), Bool.or_eq_true, Bool.and_eq_true] at h1 h2 ⊢
    by_cases hkm : k = m
    · subst hkm
      have g1 : bitM (closeTo n M k) i k = true := by rcases h1 with h1 | h1; exact h1; exact h1.1
      have g2 : bitM (closeTo n M k) k j = true := by rcases h2 with h2 | h2; exact h2; exact h2.2
      exact .inr ⟨g1, g2⟩
    · have Pk := P k (by omega)
      rcases h1 with h1 | ⟨h1, h1'⟩
      · rcases h2 with h2 | ⟨h2, h2'⟩
        · exact .inl (Pk i j h1 h2)
        · exact .inr ⟨Pk i m h1 h2, h2'⟩
      · rcases h2 with h2 | ⟨h2, h2'⟩
        · exact .inr ⟨h1, Pk m j h1' h2⟩
        · exact .inr ⟨h1, h2'⟩
/-- what Close leaves: the chains -/
theorem closeM_iff {n : Nat} {M : List (List Nat)} (h : MOk n M) (i j : Nat) : bitM (closeM n M) i j = true ↔ Ch (linkR M) i j := by
  constructor
  · exact closeTo_sound h n (Nat.le_refl _) i j
  · intro hc
    induction hc with
    | one hb => exact closeTo_incl h n (Nat.le_refl _) _ _ hb
    | more hb hc ih =>
      rename_i i k j
      have hk : k < n := by
        apply Classical.byContradiction
        intro hn
        have hz : ∀ j, bitM M k j = false := bitM_out h (by omega)
        cases hc with
        | one hb => unfold linkR at hb; rw [hz] at hb; cases hb
        | more hb _ => unfold linkR at hb; rw [hz] at hb; cases hb
      exact closeTo_tran h n (Nat.le_refl _) k hk i j (closeTo_incl h n (Nat.le_refl _) _ _ hb) ih
theorem closeM_ok {n : Nat} {M : List (List Nat)} (h : MOk n M) : MOk n (closeM n M) := closeTo_ok h n (Nat.le_refl _)
theorem Ch.last {R : Nat → Nat → Prop} {i j : Nat} (h : Ch R i j) : ∃ k, R k j := by
  induction h with
  | one h => exact ⟨_, h⟩
  | more _ _ ih => exact ih
theorem closeM_inb {n : Nat} {M : List (List Nat)} (h : MOk n M) (hin : InB n M) : InB n (closeM n M) := fun i j hb => by
  obtain ⟨k, hk⟩ := ((closeM_iff h i j).1 hb).last
  exact hin _ _ hk
theorem mat_ext {n : Nat} {A B : List (List Nat)} (ha : MOk n A) (hb : MOk n B) (h : ∀ i j, bitM A i j = bitM B i j) : A = B := by
  apply List.ext_getElem (by rw [ha.len, hb.len])
  intro i h1 h2
  obtain ⟨a, a1, a2, a3, a4⟩ := ha.get (i := i) (by rw [← ha.len]; exact h1)
  obtain ⟨b, b1, b2, b3, b4⟩ := hb.get (i := i) (by rw [← ha.len]; exact h1)
  rw [List.getElem?_eq_getElem h1] at a1
  rw [List.getElem?_eq_getElem h2] at b1
  cases a1; cases b1
  refine bits_ext a4 b4 (by omega) (fun k => ?_)
  have := h i k
  unfold bitM at this
  rwa [a2, b2] at this
/-- twice is once -/
theorem closeM_twice {n : Nat} {M : List (List Nat)} (h : MOk n M) : closeM n (closeM n M) = closeM n M := by
  refine mat_ext (closeM_ok (closeM_ok h)) (closeM_ok h) fun i j => ?_
  rw [Bool.eq_iff_iff, closeM_iff (closeM_ok h)]
  constructor
  · intro hc
    induction hc with
    | one hb => exact hb
    | more hb _ ih => exact (closeM_iff h _ _).2 (((closeM_iff h _ _).1 hb).trans ((closeM_iff h _ _).1 ih))
  · exact fun hb => .one hb
end Go.Vc
