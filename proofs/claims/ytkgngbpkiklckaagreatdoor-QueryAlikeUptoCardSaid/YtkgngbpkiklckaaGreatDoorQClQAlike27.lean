/- bits: relations: Link, Linked, Row, the copy of the rows, the pairs' iterator. -/
import Derived.Test.YtkgngbpkiklckaaGreatDoorQClQAlike26
namespace Go.Vc
open Go Go.Proofs
set_option maxRecDepth 10000
variable {w : World}

section
variable {p n : Nat} {bs : List Nat} {M : List (List Nat)} {ad : Option Addr} {cap : Nat}
/-- a row's cell, a word's cell -/
theorem RelAt.cells (h : RelAt w p n bs M ad cap) {i : Nat} (hi : i < n) : ∃ ba b ws, ad = some ⟨ba, 0, none⟩ ∧ bs[i]? = some b ∧ M[i]? = some ws ∧ Blk w b (ws.map U) 174 ∧ ws.length = wid n ∧ WOk ws ∧ w.cell? ⟨ba, i, none⟩ = some (rowV (wid n) b) ∧ ∀ k, k < wid n → w.cell? ⟨b, k, none⟩ = some (U (ws.getD k 0)) := by
  obtain ⟨b, ws, h1, h2, h3, h4, h5⟩ := h.at_row hi
  have ho := h.own
  cases ad with
  | none => have := ho.2.1; omega
  | some ad =>
    obtain ⟨ba, off, spot⟩ := ad
    obtain ⟨e1, e2, _⟩ := ho.2
    cases e1; cases e2
    refine ⟨ba, b, ws, rfl, h1, h2, h3, h4, h5, ?_, fun k hk => ?_⟩
    · exact ho.get (by rw [List.getElem?_map, h1]; rfl)
    · refine h3.cell ?_
      rw [List.getElem?_map, List.getD_eq_getElem?_getD, List.getElem?_eq_getElem (by omega)]; rfl
theorem nodeB_nat {x : Int} (h : nodeB n x = true) : ∃ k : Nat, x = (k : Int) ∧ k < n := by
  unfold nodeB at h
  simp only [Bool.and_eq_true, decide_eq_true_eq] at h
  exact ⟨x.toNat, by omega, by omega⟩
def linkM (M : List (List Nat)) (i j : Nat) : List (List Nat) := M.set i ((M.getD i []).set (j / 64) ((M.getD i []).getD (j / 64) 0 ||| 2 ^ (j % 64)))
theorem wid_lt {j : Nat} (h : j < n) : j / 64 < wid n := by unfold wid; omega
def linkedB (n : Nat) (M : List (List Nat)) (i j : Int) : Bool := nodeB n i && nodeB n j && bitM M i.toNat j.toNat
/-! ### The copy of the rows -/
/-- rows that lie in a block: their slices As, their words M -/
structure RowsAt (w : World) (bc n : Nat) (As : List (Option Addr × Nat)) (M : List (List Nat)) : Prop where
  blk : Blk w bc (As.map fun x => Value.slice x.1 (wid n) x.2) 242
  nA : As.length = n
  nM : M.length = n
  row : ∀ (i : Nat) (x : Option Addr × Nat) (ws : List Nat), As[i]? = some x → M[i]? = some ws → OwnS w 174 1 x.1 (wid n) x.2 (ws.map U) ∧ WOk ws ∧ ws.length = wid n
def rowsBlks (bc : Nat) (As : List (Option Addr × Nat)) : List Nat := bc :: As.flatMap fun x => blkOf x.1
theorem RowsAt.keep {w' : World} {bc : Nat} {As : List (Option Addr × Nat)} (h : RowsAt w bc n As M) (hk : ∀ b, b ∈ rowsBlks bc As → w'.heap[b]? = w.heap[b]?) : RowsAt w' bc n As M :=
  ⟨by unfold Blk; rw [hk bc (by simp [rowsBlks])]; exact h.blk, h.nA, h.nM, fun i x ws h1 h2 => ⟨(h.row i x ws h1 h2).1.keep (fun b hb => hk b (by
    unfold rowsBlks
    refine List.mem_cons_of_mem _ (List.mem_flatMap.2 ⟨x, List.mem_of_getElem? h1, hb⟩))), (h.row i x ws h1 h2).2⟩⟩
theorem RowsAt.lt {bc : Nat} {As : List (Option Addr × Nat)} (h : RowsAt w bc n As M) : ∀ b, b ∈ rowsBlks bc As → b < w.heap.size := by
  intro b hb
  rcases List.mem_cons.1 hb with rfl | hb
  · exact h.blk.lt
  · obtain ⟨x, hx, hb⟩ := List.mem_flatMap.1 hb
    obtain ⟨i, hi⟩ := List.getElem?_of_mem hx
    have hlt : i < M.length := by rw [h.nM, ← h.nA]; exact (List.getElem?_eq_some_iff.1 hi).1
    exact (h.row i x M[i] hi (List.getElem?_eq_getElem hlt)).1.lt b hb
end
end Go.Vc
/- bits: relations: the pairs' iterator, the law's pairs, Turned, Close. -/
namespace Go.Vc
open Go Go.Proofs
set_option maxRecDepth 10000
variable {w : World}

def rowPairs (M : List (List Nat)) (i : Nat) : List (Nat × Nat) := (elems (M.getD i [])).map fun j => (i, j)
def pairsL (n : Nat) (M : List (List Nat)) : List (Nat × Nat) := (List.range n).flatMap (rowPairs M)
abbrev encP (x : Nat × Nat) : List Value := [I (x.1 : Int), I (x.2 : Int)]
/-- a sequence of pairs: a function value that tells them -/
structure SeqP (w : World) (v : Value) (Fp : List Nat) (xs : List (Nat × Nat)) : Prop where
  is : ∃ f lb, v = .func (.func f) #[] ⟨lb⟩ ∧ Iter Tryz.prog f lb Fp encP xs w
theorem SeqP.kp {w w' : World} {v : Value} {Fp : List Nat} {xs : List (Nat × Nat)} (h : SeqP w v Fp xs) {S : List Nat} (hk : Kp S w w') (hd : ∀ b, b ∈ Fp → b ∉ S) : SeqP w' v Fp xs := by
  obtain ⟨f, lb, h1, h2⟩ := h.is
  exact ⟨f, lb, h1, h2.kp hk.size (fun b hb => hk.at_ b (h2.1 b hb) (hd b hb))⟩
theorem SeqP.lt {v : Value} {Fp : List Nat} {xs : List (Nat × Nat)} (h : SeqP w v Fp xs) : ∀ b, b ∈ Fp → b < w.heap.size := by
  obtain ⟨f, lb, h1, h2⟩ := h.is
  exact h2.1
/-! ### pairs: the law's reading -/
def pairsN (xs : List (Nat × Nat)) (most : Int) : List (Nat × Nat) := if 0 ≤ most then xs.take most.toNat else xs
def flatP (xs : List (Nat × Nat)) : List Nat := xs.flatMap fun x => [x.1, x.2]
structure PairsI (w : World) (bm bx bn : Nat) (most : Int) (pre : List (Nat × Nat)) (W : World) (ad : Option Addr) (cap : Nat) : Prop where
  bm_ : Blk W bm [I most] 3
  bn_ : Blk W bn [I pre.length] 3
  bx_ : Blk W bx [.slice ad (flatP pre).length cap] 25
  own : OwnS W 3 1 ad (flatP pre).length cap ((flatP pre).map encI)
  kp : Kp [] w W
  ne : bx ∉ blkOf ad
  nn : bn ∉ bm :: bx :: blkOf ad
  nm : bm ∉ bx :: blkOf ad
  new : ∀ b, b ∈ blkOf ad → w.heap.size ≤ b
  new3 : w.heap.size ≤ bm ∧ w.heap.size ≤ bx ∧ w.heap.size ≤ bn
  few : 0 ≤ most → (pre.length : Int) ≤ most
end Go.Vc
/- bits: relations: Turned, Close. -/
namespace Go.Vc
open Go Go.Proofs
set_option maxRecDepth 10000
variable {w : World}

section
variable {p n : Nat} {bs : List Nat} {M : List (List Nat)} {ad : Option Addr} {cap : Nat}
/-- each link stays among the nodes -/
def InB (n : Nat) (M : List (List Nat)) : Prop := ∀ i j, bitM M i j = true → j < n
def turnedM (n : Nat) (xs : List (Nat × Nat)) : List (List Nat) := xs.foldl (fun T x => linkM T x.2 x.1) (zeroM n)
/-! ### Close -/
def orRow (a b : List Nat) : List Nat := updW (· ||| ·) a b b.length
def stepK (n : Nat) (M : List (List Nat)) (k : Nat) (m : Nat) : List (List Nat) := (List.range m).foldl (fun T i => if bitM T i k then T.set i (orRow (T.getD i []) (T.getD k [])) else T) M
def closeTo (n : Nat) (M : List (List Nat)) (m : Nat) : List (List Nat) := (List.range m).foldl (fun T k => stepK n T k n) M
def closeM (n : Nat) (M : List (List Nat)) : List (List Nat) := closeTo n M n
theorem stepK_succ (n : Nat) (M : List (List Nat)) (k m : Nat) : stepK n M k (m + 1) = if bitM (stepK n M k m) m k then (stepK n M k m).set m (orRow ((stepK n M k m).getD m []) ((stepK n M k m).getD k [])) else stepK n M k m := by
  unfold stepK; rw [List.range_succ, List.foldl_append]; rfl
theorem closeTo_succ (n : Nat) (M : List (List Nat)) (m : Nat) : closeTo n M (m + 1) = stepK n (closeTo n M m) m n := by
  unfold closeTo; rw [List.range_succ, List.foldl_append]; rfl
theorem set_self {M : List (List Nat)} {i : Nat} {ws : List Nat} (h : M[i]? = some ws) : M.set i ws = M := by
  apply List.ext_getElem?
  intro j
  rw [List.getElem?_set]
  split
  · rename_i e; subst e
    split
    · exact h.symm
    · rename_i hl; rw [List.getElem?_eq_none (by omega)]
  · rfl
end
end Go.Vc
/- bits: what the operations on relations do to the links; chains. No program. -/
namespace Go.Vc
open Go

/-- n rows of the right width -/
structure MOk (n : Nat) (M : List (List Nat)) : Prop where
  len : M.length = n
  row : ∀ ws ∈ M, ws.length = wid n ∧ WOk ws
theorem MOk.get {n : Nat} {M : List (List Nat)} (h : MOk n M) {i : Nat} (hi : i < n) : ∃ ws, M[i]? = some ws ∧ M.getD i [] = ws ∧ ws.length = wid n ∧ WOk ws := by
  have hl : i < M.length := by rw [h.len]; exact hi
  refine ⟨M[i], List.getElem?_eq_getElem hl, ?_, h.row _ (List.getElem_mem hl)⟩
  rw [List.getD_eq_getElem?_getD, List.getElem?_eq_getElem hl]; rfl
theorem MOk.set {n : Nat} {M : List (List Nat)} (h : MOk n M) {i : Nat} {ws : List Nat} (hw : ws.length = wid n) (hok : WOk ws) : MOk n (M.set i ws) :=
  ⟨by simpa using h.len, fun x hx => by
    rcases List.mem_or_eq_of_mem_set hx with h1 | h1
    · exact h.row x h1
    · rw [h1]; exact ⟨hw, hok⟩⟩
theorem RelAt.mok {w : World} {p n : Nat} {bs : List Nat} {M : List (List Nat)} {ad : Option Addr} {cap : Nat} (h : RelAt w p n bs M ad cap) : MOk n M :=
  ⟨h.nM, fun ws hw => by
    obtain ⟨i, hi⟩ := List.getElem?_of_mem hw
    have hlt : i < n := by rw [← h.nM]; exact (List.getElem?_eq_some_iff.1 hi).1
    obtain ⟨b, ws', _, h2, _, h4⟩ := h.at_row hlt
    rw [hi] at h2; cases h2; exact h4⟩
theorem bitM_set {M : List (List Nat)} {i : Nat} {ws : List Nat} (hi : i < M.length) (a b : Nat) : bitM (M.set i ws) a b = if a = i then bit ws b else bitM M a b := by
  unfold bitM
  rw [List.getD_eq_getElem?_getD, List.getD_eq_getElem?_getD, List.getElem?_set]
  by_cases h : i = a
  · subst h; simp [hi]
  · rw [if_neg h, if_neg (fun e => h e.symm)]
theorem bitM_linkM {n : Nat} {M : List (List Nat)} (h : MOk n M) {i j : Nat} (hi : i < n) (hj : j < n) (a b : Nat) : bitM (linkM M i j) a b = (bitM M a b || decide (a = i ∧ b = j)) := by
  obtain ⟨ws, h1, h2, h3, h4⟩ := h.get hi
  have hjw := wid_lt hj
  unfold linkM
  rw [bitM_set (by rw [h.len]; exact hi)]
  by_cases ha : a = i
  · subst ha
    rw [if_pos rfl]
    have : bitM M a b = bit (M.getD a []) b := rfl
    rw [this, h2]
    unfold bit
    rw [getD_set _ _ _ _ (by omega)]
    by_cases hb : j / 64 = b / 64
    · rw [if_pos hb, Nat.testBit_or, Nat.testBit_two_pow, hb]
      congr 1
      rw [decide_eq_decide]
      constructor
      · intro e; exact ⟨rfl, by omega⟩
      · rintro ⟨_, e⟩; omega
    · rw [if_neg hb]
      have : ¬ (a = a ∧ b = j) := fun e => hb (by rw [e.2])
      rw [decide_eq_false this, Bool.or_false]
  · rw [if_neg ha]
    simp [ha]
theorem bitM_out {n : Nat} {M : List (List Nat)} (h : MOk n M) {i : Nat} (hi : n ≤ i) (j : Nat) : bitM M i j = false := by
  unfold bitM
  rw [List.getD_eq_getElem?_getD, List.getElem?_eq_none (by rw [h.len]; exact hi)]
  simp [bit]
/-! ### The closure -/
theorem bit_orRow {a b : List Nat} (h : b.length ≤ a.length) (j : Nat) : bit (orRow a b) j = (bit a j || bit b j) := by
  unfold orRow bit
  rw [updW_getD']
  by_cases h1 : j / 64 < a.length
  · rw [if_pos h1]
    by_cases h2 : j / 64 < b.length
    · rw [if_pos h2, Nat.testBit_or]
    · rw [if_neg h2, getD_beyond (ws := b) (by omega), Nat.zero_testBit, Bool.or_false]
  · rw [if_neg h1, getD_beyond (ws := a) (by omega), getD_beyond (ws := b) (by omega), Nat.zero_testBit]; rfl
theorem orRow_ok {n : Nat} {a b : List Nat} (ha : a.length = wid n ∧ WOk a) (hb : b.length = wid n ∧ WOk b) : (orRow a b).length = wid n ∧ WOk (orRow a b) := by
  refine ⟨by unfold orRow; rw [updW_len]; exact ha.1, fun x hx => ?_⟩
  unfold orRow updW at hx
  obtain ⟨i, _, rfl⟩ := List.mem_map.1 hx
  split
  · exact Nat.or_lt_two_pow (ha.2.getD _) (hb.2.getD _)
  · exact ha.2.getD _
theorem stepK_bits {n : Nat} {T : List (List Nat)} (h : MOk n T) {k : Nat} (hk : k < n) (m : Nat) (hm : m ≤ n) : MOk n (stepK n T k m) ∧ ∀ i j, bitM (stepK n T k m) i j = (bitM T i j || (decide (i < m) && bitM T i k && bitM T k j)) := by
  induction m with
  | zero => exact ⟨h, fun i j => by simp [stepK]⟩
  | succ m ih =>
    obtain ⟨h1, h2⟩ := ih (by omega)
    rw [stepK_succ]
    have hkk : ∀ j, bitM (stepK n T k m) k j = bitM T k j := fun j => by
      rw [h2]
      cases hb : bitM T k j <;> simp
    have hmk : bitM (stepK n T k m) m k = bitM T m k := by rw [h2]; simp
    have hmj : ∀ j, bitM (stepK n T k m) m j = bitM T m j := fun j => by rw [h2]; simp
    rw [hmk]
    cases hb : bitM T m k with
    | false =>
      rw [if_neg (by simp)]
      refine ⟨h1, fun i j => ?_⟩
      rw [h2]
      by_cases him : i = m
      · subst him; rw [hb]; simp
      · have : decide (i < m) = decide (i < m + 1) := by rw [decide_eq_decide]; omega
        rw [this]
    | true =>
      rw [if_pos rfl]
      obtain ⟨wm, a1, a2, a3⟩ := h1.get (i := m) (by omega)
      obtain ⟨wk, b1, b2, b3⟩ := h1.get hk
      have ho := orRow_ok a3 b3
      rw [a2, b2]
      refine ⟨h1.set ho.1 ho.2, fun i j => ?_⟩
      rw [bitM_set (by rw [h1.len]; omega)]
      by_cases him : i = m
      · subst him
        rw [if_pos rfl, bit_orRow (by omega)]
        have e1 : bit wm j = bitM (stepK n T k i) i j := by unfold bitM; rw [a2]
        have e2 : bit wk j = bitM (stepK n T k i) k j := by unfold bitM; rw [b2]
        rw [e1, e2, hmj, hkk, hb]; simp
      · rw [if_neg him, h2]
        have : decide (i < m) = decide (i < m + 1) := by rw [decide_eq_decide]; omega
        rw [this]
theorem closeTo_ok {n : Nat} {M : List (List Nat)} (h : MOk n M) (m : Nat) (hm : m ≤ n) : MOk n (closeTo n M m) := by
  induction m with
  | zero => exact h
  | succ m ih => rw [closeTo_succ]; exact (stepK_bits (ih (by omega)) (by omega) n (Nat.le_refl _)).1
theorem closeTo_bits {n : Nat} {M : List (List Nat)} (h : MOk n M) {m : Nat} (hm : m < n) (i j : Nat) : bitM (closeTo n M (m + 1)) i j = (bitM (closeTo n M m) i j || (bitM (closeTo n M m) i m && bitM (closeTo n M m) m j)) := by
  have hT := closeTo_ok h m (by omega)
  rw [closeTo_succ, (stepK_bits hT hm n (Nat.le_refl _)).2]
  by_cases hi : i < n
  · simp [hi]
  · rw [bitM_out hT (by omega) m]; simp
/-- a chain of one link or more -/
inductive Ch (R : Nat → Nat → Prop) : Nat → Nat → Prop
  | one {i j : Nat} : R i j → Ch R i j
  | more {i k j : Nat} : R i k → Ch R k j → Ch R i j
theorem Ch.trans {R : Nat → Nat → Prop} {i k j : Nat} (h : Ch R i k) (g : Ch R k j) : Ch R i j := by
  induction h with
  | one h => exact .more h g
  | more h _ ih => exact .more h (ih g)
theorem Ch.mono {R S : Nat → Nat → Prop} (hs : ∀ i j, R i j → S i j) {i j : Nat} (h : Ch R i j) : Ch S i j := by
  induction h with
  | one h => exact .one (hs _ _ h)
  | more h _ ih => exact .more (hs _ _ h) ih
def linkR (M : List (List Nat)) : Nat → Nat → Prop := fun i j => bitM M i j = true
theorem closeTo_sound {n : Nat} {M : List (List Nat)} (h : MOk n M) (m : Nat) (hm : m ≤ n) : ∀ i j, bitM (closeTo n M m) i j = true → Ch (linkR M) i j := by
  induction m with
  | zero => exact fun i j hb => .one hb
  | succ m ih =>
    intro i j hb
    rw [closeTo_bits h (by omega)] at hb
    rw [Bool.or_eq_true, Bool.and_eq_true] at hb
    rcases hb with hb | ⟨h1, h2⟩
    · exact ih (by omega) i j hb
    · exact (ih (by omega) i m h1).trans (ih (by omega) m j h2)
theorem closeTo_incl {n : Nat} {M : List (List Nat)} (h : MOk n M) (m : Nat) (hm : m ≤ n) : ∀ i j, bitM M i j = true → bitM (closeTo n M m) i j = true := by
  induction m with
  | zero => exact fun i j hb => hb
  | succ m ih => intro i j hb; rw [closeTo_bits h (by omega), ih (by omega) i j hb]; rfl
theorem closeTo_tran {n : Nat} {M : List (List Nat)} (h : MOk n M) (m : Nat) (hm : m ≤ n) : ∀ k, k < m → ∀ i j, bitM (closeTo n M m) i k = true → bitM (closeTo n M m) k j = true → bitM (closeTo n M m) i j = true := by
  induction m with
  | zero => intro k hk; omega
  | succ m ih =>
    have P := ih (by omega)
    intro k hk i j h1 h2
    rw [closeTo_bits h (by omega), Bool.or_eq_true, Bool.and_eq_true] at h1 h2 ⊢
    by_cases hkm : k = m
    · subst hkm
      have g1 : bitM (closeTo n M k) i k = true := by rcases h1 with h1 | h1; exact h1; exact h1.1
      have g2 : bitM (closeTo n M k) k j = true := by rcases h2 with h2 | h2; exact h2; exact h2.2
      exact .inr ⟨g1, g2⟩
    · have Pk := P k (by omega)
      rcases h1 with h1 | ⟨h1, h1'⟩
      · rcases h2 with h2 | ⟨h2, h2'⟩
        · exact .inl (Pk i j h1 h2)
        · exact .inr ⟨Pk i m h1 h2, h2'⟩
      · rcases h2 with h2 | ⟨h2, h2'⟩
        · exact .inr ⟨h1, Pk m j h1' h2⟩
        · exact .inr ⟨h1, h2'⟩
/-- what Close leaves: the chains -/
theorem closeM_iff {n : Nat} {M : List (List Nat)} (h : MOk n M) (i j : Nat) : bitM (closeM n M) i j = true ↔ Ch (linkR M) i j := by
  constructor
  · exact closeTo_sound h n (Nat.le_refl _) i j
  · intro hc
    induction hc with
    | one hb => exact closeTo_incl h n (Nat.le_refl _) _ _ hb
    | more hb hc ih =>
      rename_i i k j
      have hk : k < n := by
        apply Classical.byContradiction
        intro hn
        have hz : ∀ j, bitM M k j = false := bitM_out h (by omega)
        cases hc with
        | one hb => unfold linkR at hb; rw [hz] at hb; cases hb
        | more hb _ => unfold linkR at hb; rw [hz] at hb; cases hb
      exact closeTo_tran h n (Nat.le_refl _) k hk i j (closeTo_incl h n (Nat.le_refl _) _ _ hb) ih
theorem Ch.last {R : Nat → Nat → Prop} {i j : Nat} (h : Ch R i j) : ∃ k, R k j := by
  induction h with
  | one h => exact ⟨_, h⟩
  | more _ _ ih => exact ih
end Go.Vc
