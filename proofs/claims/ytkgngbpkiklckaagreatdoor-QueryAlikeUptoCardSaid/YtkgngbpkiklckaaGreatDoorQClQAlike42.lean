/- Query: questions that say the same, in plain Lean (no program in sight). -/
import Derived.Test.YtkgngbpkiklckaaGreatDoorQClQAlike41
import Derived.Test.YtkgngbpkiklckaaGreatDoorQClQAlike20
import Derived.Test.YtkgngbpkiklckaaGreatDoorQClQAlike22
namespace Go.Vc
open Go
set_option maxRecDepth 20000
theorem bind_all {f : Int → Int × Nat} : ∀ (l : List Int) (c : Int), (bindL 23 f l c).1 = if l.all (fun i => decide ((f i).1 = 1)) = true then 1 else 0
  | [], c => by simp [bindL]
  | i :: r, c => by
    rw [bindL]
    by_cases h : (f i).1 = 1
    · rw [if_neg (fun hh => hh.2 h), if_neg (by omega), if_neg (by omega), bind_all r]
      simp [h]
    · rw [if_pos ⟨rfl, h⟩]; simp [h]
theorem bind_most {f : Int → Int × Nat} : ∀ (l : List Int) (c : Int), (bindL 26 f l c).1 = (l.find? (fun i => decide ((f i).1 = 1))).getD (-1)
  | [], c => by simp [bindL]
  | i :: r, c => by
    rw [bindL, if_neg (by omega), if_neg (by omega)]
    by_cases h : (f i).1 = 1
    · rw [if_pos ⟨.inr rfl, h⟩, List.find?_cons_of_pos (by simp [h])]; rfl
    · rw [if_neg (fun hh => h hh.2), bind_most r, List.find?_cons_of_neg (by simp [h])]
/-- a truth is 0 or 1 -/
theorem evq_bool (W : QW) : ∀ (t : QT) (σ : List UInt8 → Int), goodT t → senseQ t = true → answerO t.op.toNat = 2 → (evq W t σ).1 = 0 ∨ (evq W t σ).1 = 1
  | .n0 op num name, σ, hg, _, ha => by
    exfalso
    have ha : answerO op.toNat = 2 := ha
    rcases hg with ⟨rfl, _⟩ | ⟨rfl, _⟩ | ⟨rfl, _⟩ <;> exact absurd ha (by decide)
  | .n1 op num name a, σ, hg, hs, ha => by
    obtain ⟨_, hga, h⟩ := hg
    rw [senseQ, Bool.and_eq_true, decide_eq_true_eq] at hs
    have ha : answerO op.toNat = 2 := ha
    rcases h with ⟨h, _⟩ | ⟨h, _⟩
    · rcases h with rfl | rfl | rfl | rfl | rfl
      · exact absurd ha (by decide)
      · exact absurd ha (by decide)
      · exact absurd ha (by decide)
      · exact absurd ha (by decide)
      · rw [evq, if_neg (by decide)]
        rcases evq_bool W a σ hga hs.2 hs.1 with e | e <;> (rw [e]; first | (left; rfl) | (right; rfl))
    · rcases h with rfl | rfl | rfl | rfl | rfl
      · rw [evq, if_pos (by decide)]
        dsimp only
        rw [bind_any]; split <;> simp
      · rw [evq, if_pos (by decide)]
        dsimp only
        rw [bind_all]; split <;> simp
      · exact absurd ha (by decide)
      · exact absurd ha (by decide)
      · exact absurd ha (by decide)
  | .n2 op num name a b, σ, hg, hs, ha => by
    obtain ⟨_, _, _, _, h⟩ := hg
    have ha : answerO op.toNat = 2 := ha
    have tr : ∀ b : Bool, trI b = 0 ∨ trI b = 1 := fun b => by cases b <;> simp [trI]
    rw [evq]
    split
    · split
      · exact tr _
      · exact .inl rfl
    · split
      · split
        · exact .inr rfl
        · exact tr _
      · rename_i h18 h19
        dsimp only
        rcases h with rfl | rfl | rfl | rfl | rfl | rfl | rfl | rfl | rfl | rfl | rfl | rfl | rfl
        · exact absurd ha (by decide)
        · exact absurd ha (by decide)
        · exact absurd ha (by decide)
        · exact tr _
        · exact tr _
        · exact tr _
        · exact tr _
        · exact tr _
        · exact tr _
        · exact absurd rfl h18
        · exact absurd rfl h19
        · exact tr _
        · exact tr _
/-! ### The questions -/
section
variable (name : List UInt8) (q : QT)
def freeQ : QT := .n1 22 0 name q
def zeroQ : QT := .n0 1 0 []
def countQ : QT := .n2 16 0 [] (.n1 24 0 name q) zeroQ
def leastQ : QT := .n2 15 0 [] (.n1 25 0 name q) zeroQ
def mostQ : QT := .n2 15 0 [] (.n1 26 0 name q) zeroQ
def notQ (t : QT) : QT := .n1 17 0 [] t
def refQ : QT := notQ (.n1 23 0 name (notQ q))
def everyQ : QT := .n1 23 0 name q
def totalQ : QT := .n2 13 0 [] (.n1 24 0 name q) (.n0 3 0 [])
def bothQ : QT := notQ (.n2 18 0 [] (freeQ name q) (everyQ name q))
def neitherQ : QT := .n2 19 0 [] (notQ (freeQ name q)) (notQ (everyQ name q))
end
section
variable {W : QW} {name : List UInt8} {q : QT} {σ : List UInt8 → Int}
/-- does it hold of this event? -/
def atB (W : QW) (name : List UInt8) (q : QT) (σ : List UInt8 → Int) (i : Nat) : Bool := decide ((evq W q (setV σ name i)).1 = 1)
def anyB (W : QW) (name : List UInt8) (q : QT) (σ : List UInt8 → Int) : Bool := (List.range W.n).any (atB W name q σ)
def allB (W : QW) (name : List UInt8) (q : QT) (σ : List UInt8 → Int) : Bool := (List.range W.n).all (atB W name q σ)
theorem val_free : decide ((evq W (freeQ name q) σ).1 = 1) = anyB W name q σ := by
  unfold freeQ
  rw [evq, if_pos (by decide)]
  dsimp only
  rw [bind_any]
  have : (evs W 22).any (fun i => decide ((evq W q (setV σ name i)).1 = 1)) = anyB W name q σ := by
    unfold evs anyB
    rw [if_neg (by decide), List.any_map]; rfl
  rw [this]
  cases anyB W name q σ <;> rfl
theorem val_every : decide ((evq W (everyQ name q) σ).1 = 1) = allB W name q σ := by
  unfold everyQ
  rw [evq, if_pos (by decide)]
  dsimp only
  rw [bind_all]
  have : (evs W 23).all (fun i => decide ((evq W q (setV σ name i)).1 = 1)) = allB W name q σ := by
    unfold evs allB
    rw [if_neg (by decide), List.all_map]; rfl
  rw [this]
  cases allB W name q σ <;> rfl
theorem count_val : (evq W (.n1 24 0 name q) σ).1 = ((List.range W.n).countP (atB W name q σ) : Nat) := by
  rw [evq, if_pos (by decide)]
  dsimp only
  rw [bind_count, Int.zero_add]
  congr 1
  unfold evs
  rw [if_neg (by decide), List.countP_map]; rfl
theorem val_count : decide ((evq W (countQ name q) σ).1 = 1) = anyB W name q σ := by
  have e : evq W (countQ name q) σ = (trI (decide ((evq W zeroQ σ).1 < (evq W (.n1 24 0 name q) σ).1)), 1 + (evq W (.n1 24 0 name q) σ).2 + (evq W zeroQ σ).2) := rfl
  rw [e, trI_one, count_val]
  show decide ((0 : Int) < _) = _
  rw [Bool.eq_iff_iff, decide_eq_true_eq]
  unfold anyB
  rw [List.any_eq_true]
  rw [show ((0 : Int) < ((List.range W.n).countP (atB W name q σ) : Nat)) ↔ 0 < (List.range W.n).countP (atB W name q σ) by omega, List.countP_pos_iff]
theorem find_ge : ∀ (l : List Int), (∀ i ∈ l, 0 ≤ i) → ∀ p : Int → Bool, decide (0 ≤ (l.find? p).getD (-1)) = l.any p
  | [], _, _ => rfl
  | i :: r, h, p => by
    cases hp : p i with
    | true => rw [List.find?_cons_of_pos hp]; simp [hp]; exact h i (by simp)
    | false => rw [List.find?_cons_of_neg (by rw [hp]; simp), find_ge r (fun j hj => h j (by simp [hj])) p]; simp [hp]
theorem val_least : decide ((evq W (leastQ name q) σ).1 = 1) = anyB W name q σ := by
  have e : evq W (leastQ name q) σ = (trI (decide ((evq W zeroQ σ).1 ≤ (evq W (.n1 25 0 name q) σ).1)), 1 + (evq W (.n1 25 0 name q) σ).2 + (evq W zeroQ σ).2) := rfl
  have e2 : (evq W (.n1 25 0 name q) σ).1 = ((evs W 25).find? (fun i => decide ((evq W q (setV σ name i)).1 = 1))).getD (-1) := by
    rw [evq, if_pos (by decide)]
    dsimp only
    rw [bind_least]
  rw [e, trI_one, e2]
  show decide ((0 : Int) ≤ _) = _
  have hev : evs W 25 = (List.range W.n).map fun (i : Nat) => (i : Int) := by unfold evs; rw [if_neg (by decide)]
  rw [hev, find_ge _ (fun i hi => by obtain ⟨k, _, rfl⟩ := List.mem_map.1 hi; omega), List.any_map]; rfl
theorem val_most : decide ((evq W (mostQ name q) σ).1 = 1) = anyB W name q σ := by
  have e : evq W (mostQ name q) σ = (trI (decide ((evq W zeroQ σ).1 ≤ (evq W (.n1 26 0 name q) σ).1)), 1 + (evq W (.n1 26 0 name q) σ).2 + (evq W zeroQ σ).2) := rfl
  have e2 : (evq W (.n1 26 0 name q) σ).1 = ((evs W 26).find? (fun i => decide ((evq W q (setV σ name i)).1 = 1))).getD (-1) := by
    rw [evq, if_pos (by decide)]
    dsimp only
    rw [bind_most]
  rw [e, trI_one, e2]
  show decide ((0 : Int) ≤ _) = _
  have hev : evs W 26 = (List.range W.n).map fun (i : Nat) => ((W.n - 1 - i : Nat) : Int) := by unfold evs; rw [if_pos rfl]
  rw [hev, find_ge _ (fun i hi => by obtain ⟨k, _, rfl⟩ := List.mem_map.1 hi; omega), List.any_map]
  unfold anyB
  rw [Bool.eq_iff_iff, List.any_eq_true, List.any_eq_true]
  constructor
  · rintro ⟨i, hi, h⟩
    have hi := List.mem_range.1 hi
    exact ⟨W.n - 1 - i, List.mem_range.2 (by omega), h⟩
  · rintro ⟨i, hi, h⟩
    have hi := List.mem_range.1 hi
    refine ⟨W.n - 1 - i, List.mem_range.2 (by omega), ?_⟩
    show atB W name q σ (W.n - 1 - (W.n - 1 - i)) = true
    rw [show W.n - 1 - (W.n - 1 - i) = i by omega]; exact h
theorem val_not {t : QT} (h : (evq W t σ).1 = 0 ∨ (evq W t σ).1 = 1) : decide ((evq W (notQ t) σ).1 = 1) = !decide ((evq W t σ).1 = 1) := by
  have e : (evq W (notQ t) σ).1 = IntKind.i64.wrap (1 - (evq W t σ).1) := rfl
  rw [e]
  rcases h with h | h <;> (rw [h]; rfl)
theorem val_ref (hq : ∀ τ, (evq W q τ).1 = 0 ∨ (evq W q τ).1 = 1) : decide ((evq W (refQ name q) σ).1 = 1) = anyB W name q σ := by
  have h1 : (evq W (.n1 23 0 name (notQ q)) σ).1 = 0 ∨ (evq W (.n1 23 0 name (notQ q)) σ).1 = 1 := by
    rw [evq, if_pos (by decide)]
    dsimp only
    rw [bind_all]; split <;> simp
  have h2 := val_every (W := W) (name := name) (q := notQ q) (σ := σ)
  unfold everyQ at h2
  unfold refQ
  rw [val_not h1, h2]
  unfold allB anyB
  have : ∀ i, atB W name (notQ q) σ i = !atB W name q σ i := fun i => val_not (hq _)
  rw [Bool.eq_iff_iff, Bool.not_eq_true', List.any_eq_true, List.all_eq_false]
  simp [this]
theorem val_total : decide ((evq W (totalQ name q) σ).1 = 1) = allB W name q σ := by
  have e : evq W (totalQ name q) σ = (trI (decide ((evq W (.n1 24 0 name q) σ).1 = (evq W (.n0 3 0 []) σ).1)), 1 + (evq W (.n1 24 0 name q) σ).2 + (evq W (.n0 3 0 []) σ).2) := rfl
  rw [e, trI_one, count_val]
  show decide (((List.range W.n).countP (atB W name q σ) : Nat) = (W.n : Int)) = _
  unfold allB
  rw [Bool.eq_iff_iff, decide_eq_true_eq, List.all_eq_true]
  have hl : (List.range W.n).countP (atB W name q σ) = (List.range W.n).length ↔ _ := List.countP_eq_length
  rw [List.length_range] at hl
  rw [← hl]; omega
theorem val_both (hq : ∀ τ, (evq W (freeQ name q) τ).1 = 0 ∨ (evq W (freeQ name q) τ).1 = 1) : decide ((evq W (bothQ name q) σ).1 = 1) = !(anyB W name q σ && allB W name q σ) := by
  have e : evq W (.n2 18 0 [] (freeQ name q) (everyQ name q)) σ = if (evq W (freeQ name q) σ).1 = 1 then (trI (decide ((evq W (everyQ name q) σ).1 = 1)), 1 + (evq W (freeQ name q) σ).2 + (evq W (everyQ name q) σ).2) else (0, 1 + (evq W (freeQ name q) σ).2) := rfl
  have hf := val_free (W := W) (name := name) (q := q) (σ := σ)
  have hv := val_every (W := W) (name := name) (q := q) (σ := σ)
  have hand : (evq W (.n2 18 0 [] (freeQ name q) (everyQ name q)) σ).1 = trI (anyB W name q σ && allB W name q σ) := by
    rw [e, hv]
    by_cases h : (evq W (freeQ name q) σ).1 = 1
    · rw [if_pos h]
      rw [decide_eq_true h] at hf
      rw [← hf, Bool.true_and]
    · rw [if_neg h]
      rw [decide_eq_false h] at hf
      rw [← hf]; rfl
  unfold bothQ
  rw [val_not (by rw [hand]; cases (anyB W name q σ && allB W name q σ) <;> simp [trI]), hand, trI_one]
theorem val_neither (hq : (evq W (freeQ name q) σ).1 = 0 ∨ (evq W (freeQ name q) σ).1 = 1) (he : (evq W (everyQ name q) σ).1 = 0 ∨ (evq W (everyQ name q) σ).1 = 1) : decide ((evq W (neitherQ name q) σ).1 = 1) = !(anyB W name q σ && allB W name q σ) := by
  have e : evq W (neitherQ name q) σ = if (evq W (notQ (freeQ name q)) σ).1 = 1 then (1, 1 + (evq W (notQ (freeQ name q)) σ).2) else (trI (decide ((evq W (notQ (everyQ name q)) σ).1 = 1)), 1 + (evq W (notQ (freeQ name q)) σ).2 + (evq W (notQ (everyQ name q)) σ).2) := rfl
  have hf := val_not hq
  have hv := val_not he
  rw [val_free] at hf
  rw [val_every] at hv
  rw [e]
  by_cases h : (evq W (notQ (freeQ name q)) σ).1 = 1
  · rw [if_pos h]
    rw [decide_eq_true h] at hf
    cases ha : anyB W name q σ with
    | true => rw [ha] at hf; cases hf
    | false => rfl
  · rw [if_neg h]
    rw [decide_eq_false h] at hf
    cases ha : anyB W name q σ with
    | false => rw [ha] at hf; cases hf
    | true => show decide (trI _ = 1) = _; rw [trI_one, hv]; rfl
end
end Go.Vc
/- Query: rows of built questions, in plain Lean (no program in sight). -/
namespace Go.Vc
open Go
set_option maxRecDepth 20000
/-- how many kids a good tree's node has, by its operation -/
def arO : Int → Nat := fun op => if op = 1 ∨ op = 2 ∨ op = 3 then 0 else if op = 4 ∨ op = 8 ∨ op = 9 ∨ op = 10 ∨ op = 17 ∨ op = 22 ∨ op = 23 ∨ op = 24 ∨ op = 25 ∨ op = 26 then 1 else 2
theorem ar0 {op num : Int} {name : List UInt8} (h : goodT (.n0 op num name)) : arO op = 0 := by
  rcases h with ⟨rfl, _⟩ | ⟨rfl, _⟩ | ⟨rfl, _⟩ <;> rfl
theorem ar1 {op num : Int} {name : List UInt8} {a : QT} (h : goodT (.n1 op num name a)) : arO op = 1 := by
  obtain ⟨_, _, ⟨h, _⟩ | ⟨h, _⟩⟩ := h
  · rcases h with rfl | rfl | rfl | rfl | rfl <;> rfl
  · rcases h with rfl | rfl | rfl | rfl | rfl <;> rfl
theorem ar2 {op num : Int} {name : List UInt8} {a b : QT} (h : goodT (.n2 op num name a b)) : arO op = 2 := by
  obtain ⟨_, _, _, _, h⟩ := h
  rcases h with rfl | rfl | rfl | rfl | rfl | rfl | rfl | rfl | rfl | rfl | rfl | rfl | rfl <;> rfl
theorem rows_inj : ∀ (a b : QT) (r r' : List QN), goodT a → goodT b → a.rows ++ r = b.rows ++ r' → a = b ∧ r = r'
  | .n0 o m s, .n0 o' m' s', r, r', _, _, h => by
    simp only [QT.rows, List.cons_append, List.nil_append, List.cons.injEq, QN.mk.injEq] at h
    obtain ⟨⟨rfl, _, rfl, rfl⟩, rfl⟩ := h
    exact ⟨rfl, rfl⟩
  | .n1 o m s a, .n1 o' m' s' b, r, r', ha, hb, h => by
    simp only [QT.rows, List.cons_append, List.cons.injEq, QN.mk.injEq] at h
    obtain ⟨⟨rfl, _, rfl, rfl⟩, h⟩ := h
    obtain ⟨rfl, rfl⟩ := rows_inj a b r r' ha.2.1 hb.2.1 h
    exact ⟨rfl, rfl⟩
  | .n2 o m s a c, .n2 o' m' s' b d, r, r', ha, hb, h => by
    simp only [QT.rows, List.cons_append, List.append_assoc, List.cons.injEq, QN.mk.injEq] at h
    obtain ⟨⟨rfl, _, rfl, rfl⟩, h⟩ := h
    obtain ⟨rfl, h2⟩ := rows_inj a b _ _ ha.2.1 hb.2.1 h
    obtain ⟨rfl, rfl⟩ := rows_inj c d r r' ha.2.2.1 hb.2.2.1 h2
    exact ⟨rfl, rfl⟩
  | .n0 o m s, .n1 o' m' s' b, r, r', ha, hb, h => by
    simp only [QT.rows, List.cons_append, List.nil_append, List.cons.injEq, QN.mk.injEq] at h
    have e1 := ar0 ha
    have e2 := ar1 hb
    rw [h.1.1] at e1; rw [e1] at e2; cases e2
  | .n0 o m s, .n2 o' m' s' b d, r, r', ha, hb, h => by
    simp only [QT.rows, List.cons_append, List.nil_append, List.cons.injEq, QN.mk.injEq] at h
    have e1 := ar0 ha
    have e2 := ar2 hb
    rw [h.1.1] at e1; rw [e1] at e2; cases e2
  | .n1 o m s a, .n0 o' m' s', r, r', ha, hb, h => by
    simp only [QT.rows, List.cons_append, List.nil_append, List.cons.injEq, QN.mk.injEq] at h
    have e1 := ar1 ha
    have e2 := ar0 hb
    rw [h.1.1] at e1; rw [e1] at e2; cases e2
  | .n1 o m s a, .n2 o' m' s' b d, r, r', ha, hb, h => by
    simp only [QT.rows, List.cons_append, List.cons.injEq, QN.mk.injEq] at h
    have e1 := ar1 ha
    have e2 := ar2 hb
    rw [h.1.1] at e1; rw [e1] at e2; cases e2
  | .n2 o m s a c, .n0 o' m' s', r, r', ha, hb, h => by
    simp only [QT.rows, List.cons_append, List.nil_append, List.cons.injEq, QN.mk.injEq] at h
    have e1 := ar2 ha
    have e2 := ar0 hb
    rw [h.1.1] at e1; rw [e1] at e2; cases e2
  | .n2 o m s a c, .n1 o' m' s' b, r, r', ha, hb, h => by
    simp only [QT.rows, List.cons_append, List.cons.injEq, QN.mk.injEq] at h
    have e1 := ar2 ha
    have e2 := ar1 hb
    rw [h.1.1] at e1; rw [e1] at e2; cases e2
theorem good_num : ∀ {t : QT}, goodT t → ∀ x ∈ t.rows, x.num ≤ 9223372036854775807
  | .n0 op num name, hg, x, hx => by
    simp [QT.rows] at hx
    subst hx
    rcases hg with ⟨_, h1, h2, _⟩ | ⟨_, rfl, _⟩ | ⟨_, rfl, _⟩
    · exact h2
    · show (0 : Int) ≤ _; omega
    · show (0 : Int) ≤ _; omega
  | .n1 op num name a, hg, x, hx => by
    simp only [QT.rows, List.mem_cons] at hx
    obtain ⟨rfl, h, _⟩ := hg
    rcases hx with rfl | hx
    · show (0 : Int) ≤ _; omega
    · exact good_num h x hx
  | .n2 op num name a b, hg, x, hx => by
    simp only [QT.rows, List.mem_cons, List.mem_append] at hx
    obtain ⟨rfl, h, h', _⟩ := hg
    rcases hx with rfl | hx | hx
    · show (0 : Int) ≤ _; omega
    · exact good_num h x hx
    · exact good_num h' x hx
/-- a good tree is looked up again, or it is too deep -/
theorem look_tree {T : QT} (hg : goodT T) (hn : namedQ T [] = true) (hs : senseQ T = true) : lookedM T.rows = .error 305 ∨ lookedM T.rows = .ok T := by
  unfold lookedM
  cases hw : wholeM T.rows with
  | none => exact .inl rfl
  | some t =>
    obtain ⟨h1, h2, _⟩ := whole_good (good_num hg) hw
    obtain ⟨rfl, _⟩ := rows_inj T t [] [] hg h1 (by rw [h2])
    right
    dsimp only
    rw [if_neg (by rw [hn]; simp), if_neg (by rw [hs]; simp)]
/-- what is known of a tree that a name binds -/
structure FreeOk (name : List UInt8) (q : QT) : Prop where
  good : goodT q
  nm : qName name = true
  named : namedQ q [name] = true
  sense : senseQ q = true
  ans : answerO q.op.toNat = 2
theorem free_ok {name : List UInt8} {l : List QN} {t : QT} (hn : ∀ x ∈ l, x.num ≤ 9223372036854775807) (h : lookedM (⟨22, 1 + l.length, 0, name⟩ :: l) = .ok t) : ∃ q, t = freeQ name q ∧ l = q.rows ∧ FreeOk name q := by
  unfold lookedM at h
  cases hw : wholeM (⟨22, 1 + l.length, 0, name⟩ :: l) with
  | none => rw [hw] at h; cases h
  | some t' =>
    rw [hw] at h
    dsimp only at h
    by_cases h1 : namedQ t' [] = false
    · rw [if_pos h1] at h; cases h
    rw [if_neg h1] at h
    by_cases h2 : senseQ t' = false
    · rw [if_pos h2] at h; cases h
    rw [if_neg h2] at h
    cases h
    obtain ⟨g1, g2, _⟩ := whole_good (fun x hx => by
      rcases List.mem_cons.1 hx with rfl | hx
      · show (0 : Int) ≤ _; omega
      · exact hn x hx) hw
    cases t with
    | n0 o m s =>
      simp only [QT.rows, List.cons.injEq, QN.mk.injEq] at g2
      have e := ar0 g1
      rw [← g2.1.1] at e; exact absurd e (by decide)
    | n2 o m s a b =>
      simp only [QT.rows, List.cons.injEq, QN.mk.injEq] at g2
      have e := ar2 g1
      rw [← g2.1.1] at e; exact absurd e (by decide)
    | n1 o m s a =>
      simp only [QT.rows, List.cons.injEq, QN.mk.injEq] at g2
      obtain ⟨⟨rfl, _, rfl, rfl⟩, rfl⟩ := g2
      obtain ⟨_, ga, ⟨h, _⟩ | ⟨_, hq⟩⟩ := g1
      · rcases h with h | h | h | h | h <;> exact absurd h (by decide)
      · rw [namedQ, if_pos (by decide)] at h1
        rw [senseQ] at h2
        simp only [Bool.not_eq_false, Bool.and_eq_true, decide_eq_true_eq] at h1 h2
        exact ⟨a, rfl, rfl, ga, hq, h1, h2.2, h2.1⟩
section
variable {name : List UInt8} {q : QT} (h : FreeOk name q)
include h
theorem FreeOk.bind (op : Int) (ho : op = 22 ∨ op = 23 ∨ op = 24 ∨ op = 25 ∨ op = 26) : goodT (.n1 op 0 name q) ∧ namedQ (.n1 op 0 name q) [] = true ∧ senseQ (.n1 op 0 name q) = true := by
  refine ⟨⟨rfl, h.good, .inr ⟨ho, h.nm⟩⟩, ?_, ?_⟩
  · rw [namedQ, if_pos (by omega)]; exact h.named
  · have : ofO op.toNat = 2 := by rcases ho with rfl | rfl | rfl | rfl | rfl <;> rfl
    rw [senseQ, this, h.ans, h.sense]; rfl
/-- a question is well built -/
def WellQ (T : QT) : Prop := goodT T ∧ namedQ T [] = true ∧ senseQ T = true
omit h in
theorem WellQ.not {T : QT} (h : WellQ T) (ha : answerO T.op.toNat = 2) : WellQ (notQ T) := by
  obtain ⟨h1, h2, h3⟩ := h
  refine ⟨⟨rfl, h1, .inl ⟨by omega, rfl⟩⟩, ?_, ?_⟩
  · unfold notQ; rw [namedQ, if_neg (by decide)]; exact h2
  · unfold notQ; rw [senseQ, h3, ha]; rfl
omit h in
theorem WellQ.two {A B : QT} (hA : WellQ A) (hB : WellQ B) (op : Int) (ho : op = 13 ∨ op = 15 ∨ op = 16 ∨ op = 18 ∨ op = 19) (ha : answerO A.op.toNat = ofO op.toNat) (hb : answerO B.op.toNat = ofO op.toNat) : WellQ (.n2 op 0 [] A B) := by
  refine ⟨⟨rfl, hA.1, hB.1, rfl, by omega⟩, ?_, ?_⟩
  · rw [namedQ, hA.2.1, hB.2.1]; rfl
  · rw [senseQ, hA.2.2, hB.2.2, decide_eq_true ha, decide_eq_true hb]; rfl
omit h in
theorem well_zero : WellQ zeroQ := ⟨.inl ⟨rfl, by decide, by decide, rfl⟩, rfl, rfl⟩
omit h in
theorem well_events : WellQ (.n0 3 0 []) := ⟨.inr (.inr ⟨rfl, rfl, rfl⟩), rfl, rfl⟩
theorem well_free : WellQ (freeQ name q) := h.bind 22 (by omega)
theorem well_every : WellQ (everyQ name q) := h.bind 23 (by omega)
theorem well_count : WellQ (countQ name q) := WellQ.two (h.bind 24 (by omega)) well_zero 16 (by omega) rfl rfl
theorem well_least : WellQ (leastQ name q) := WellQ.two (h.bind 25 (by omega)) well_zero 15 (by omega) rfl rfl
theorem well_most : WellQ (mostQ name q) := WellQ.two (h.bind 26 (by omega)) well_zero 15 (by omega) rfl rfl
theorem well_inner : WellQ (.n1 23 0 name (notQ q)) := by
  refine ⟨⟨rfl, ⟨rfl, h.good, .inl ⟨by omega, rfl⟩⟩, .inr ⟨by omega, h.nm⟩⟩, ?_, ?_⟩
  · unfold notQ; rw [namedQ, if_pos (by decide), namedQ, if_neg (by decide)]; exact h.named
  · unfold notQ; rw [senseQ, senseQ, h.ans, h.sense]; rfl
theorem well_ref : WellQ (refQ name q) := (well_inner h).not rfl
theorem well_total : WellQ (totalQ name q) := WellQ.two (h.bind 24 (by omega)) well_events 13 (by omega) rfl rfl
theorem well_both : WellQ (bothQ name q) := (WellQ.two (well_free h) (well_every h) 18 (by omega) rfl rfl).not rfl
theorem well_neither : WellQ (neitherQ name q) := WellQ.two ((well_free h).not rfl) ((well_every h).not rfl) 19 (by omega) rfl rfl
end
end Go.Vc
/- Query: over. -/
namespace Go.Vc
open Go Go.Proofs
set_option maxRecDepth 20000
variable {w : World}
/-- a kid of a built question -/
structure KQ where
  ad : Option Addr
  cap : Nat
  l : List QN
def kqV (k : KQ) : Value := .slice k.ad k.l.length k.cap
def overR (op num : Int) (name : List UInt8) (L : List QN) : List QN := ⟨op, 1 + L.length, num, name⟩ :: L
set_option maxHeartbeats 6400000 in
theorem over_ret {ks : List KQ} {kad : Option Addr} {kcap : Nat} (op num : Int) (name : List UInt8) (hK : ReadS w kad (ks.map kqV)) (hR : ∀ k ∈ ks, ReadS w k.ad (k.l.flatMap qC)) (hl : (ks.flatMap (·.l)).length ≤ 1000000) (hk : ks.length ≤ 2) :
    Ret Tryz.prog 19 [I op, S name, I num, .slice kad ks.length kcap] w (fun v w' => ∃ ad cap, v = .agg ⟨[.slice ad (overR op num name (ks.flatMap (·.l))).length cap]⟩ ∧ OwnS w' 81 4 ad (overR op num name (ks.flatMap (·.l))).length cap ((overR op num name (ks.flatMap (·.l))).flatMap qC) ∧ Kp [] w w' ∧ ∀ b, b ∈ blkOf ad → w.heap.size ≤ b) := by
  have htake : ∀ i, ((ks.take i).flatMap (·.l)).length ≤ (ks.flatMap (·.l)).length := fun i => by
    conv => rhs; rw [← List.take_append_drop i ks]
    rw [List.flatMap_append, List.length_append]; omega
  refine enterC Tryz.call19 Tryz.func19 rfl rfl rfl rfl ?_
  (repeat first|refine zA ?_|refine zg ?_)
  refine o_alloc rfl rfl rfl rfl ?_
  intro b8 w1 e8 hu1
  have k1 : Kp [] w w1 := hu1.kp [] (.inr (by omega))
  have g8 : Blk w1 b8 [.slice none 0 0] 24 := hu1.blk
  have n8 : w.heap.size ≤ b8 := by omega
  clear hu1
  (repeat first|refine zA ?_|refine zg ?_|refine zo rfl rfl trivial ?_|refine zn ?_)
  refine o_build (qC ⟨op, 0, num, name⟩) rfl rfl rfl rfl rfl rfl rfl ?_
  refine o_buildSliceN (qC ⟨op, 0, num, name⟩) rfl rfl rfl (by kernel_rfl) rfl rfl rfl rfl ?_
  intro b w2 hb hu2
  have k2 : Kp [] w1 w2 := hu2.kp [] (.inr (by omega))
  have g8 := k2.blk (by simp) g8
  have ho2 : OwnS w2 81 4 (some ⟨b, 0, none⟩) 1 1 (qC ⟨op, 0, num, name⟩) := ⟨rfl, rfl, rfl, Nat.le_refl _, by simp [maxLen], [], by rw [List.append_nil]; exact hu2.blk, rfl⟩
  have k02 := k1.trans k2
  have y8 : b8 < w1.heap.size := by
    have h : Blk w1 b8 [.slice none 0 0] 24 := by assumption
    exact h.lt
  clear hu2
  have fin : ∀ {e : Env} {W : World} {ad : Option Addr} {n cap : Nat}, e 8 = ptr b8 → Blk W b8 [.slice ad n cap] 24 → resC Tryz.prog e W [.cell 8 24] [.agg ⟨[.slice ad n cap]⟩] := fun h1 h2 => ⟨⟨_, h1, run_loadB h2 rfl rfl rfl rfl⟩, trivial⟩
  (repeat first|refine zA ?_|refine zB ?_|refine zg ?_|refine zo rfl rfl trivial ?_|refine zn ?_|refine zb ?_)
  refine r_loop (α := Nat × Option Addr × Nat) [3, 8, 9, 10] (fun y => [.slice kad ks.length kcap, ptr b8, .slice y.2.1 (1 + ((ks.take y.1).flatMap (·.l)).length) y.2.2, I y.1]) (fun y W => y.1 ≤ ks.length ∧ OwnS W 81 4 y.2.1 (1 + ((ks.take y.1).flatMap (·.l)).length) y.2.2 (((⟨op, 0, num, name⟩ : QN) :: (ks.take y.1).flatMap (·.l)).flatMap qC) ∧ Kp [] w1 W ∧ Blk W b8 [.slice none 0 0] 24 ∧ ∀ c, c ∈ blkOf y.2.1 → w1.heap.size ≤ c) (fun y => ks.length - y.1) (0, some ⟨b, 0, none⟩, 1) rfl ⟨Nat.zero_le _, by simpa using ho2, k2, g8, fun c hc => by simp [blkOf] at hc; omega⟩ ?_
  rintro ⟨i, iad, icap⟩ e W ⟨hi, ho, kW, g8, hnew⟩
  dsimp only at hi ho hnew ⊢
  have hti := htake i
  (repeat first|refine zA ?_|refine zB ?_|refine zg ?_|refine zo rfl rfl trivial ?_|refine zn ?_)
  refine r_if rfl (fun hc => ?_) (fun hc => ?_)
  · have hi2 : i < ks.length := by omega
    obtain ⟨k, hkx⟩ : ∃ k, ks[i]? = some k := ⟨_, List.getElem?_eq_getElem hi2⟩
    have ht1 : ks.take (i + 1) = ks.take i ++ [k] := by rw [List.take_add_one, hkx]; rfl
    have hti1 := htake (i + 1)
    rw [ht1, List.flatMap_append, List.length_append] at hti1
    have hfk : ([k].flatMap (·.l)) = k.l := by simp
    rw [hfk] at hti1
    obtain ⟨kb, koff, rfl, _, hcell⟩ := (hK.kp (k1.trans kW) (by simp)).at_ (by simp; omega)
    have hkl := rows_cells_len k.l
    (repeat first|refine zC ?_|refine zg ?_|refine zo rfl rfl (by first|exact trivial|(simp only[AllP];omega)) ?_|refine zb ?_|refine zk ?_)
    refine o_loadc (v := kqV k) rfl (by rw [toNat_nat]; exact hcell i _ (by rw [List.getElem?_map, hkx]; rfl)) rfl rfl rfl rfl ?_
    refine o_appendR (k := 1 + ((ks.take i).flatMap (·.l)).length) (m := k.l.length) (k.l.flatMap qC) rfl rfl ho ((hR k (List.mem_of_getElem? hkx)).kp (k1.trans kW) (by simp)) rfl rfl rfl (by decide) hkl qC_one (by simp only [maxLen]; omega) (by omega) rfl rfl ?_
    intro ad6 cap6 w6 ho6 k6 hn6
    have hb8n : b8 ∉ blkOf iad := fun h => by have := hnew b8 h; omega
    have g8' := k6.blk hb8n g8
    have hsz := kW.size
    (repeat first|refine zg ?_|refine zo rfl rfl (by first|exact trivial|(simp only[AllP];omega)) ?_|refine zn ?_)
    have hcount : 1 + ((ks.take (i + 1)).flatMap (·.l)).length = 1 + ((ks.take i).flatMap (·.l)).length + k.l.length := by
      rw [ht1, List.flatMap_append, List.length_append, hfk]; omega
    have hlist : ((⟨op, 0, num, name⟩ : QN) :: (ks.take (i + 1)).flatMap (·.l)).flatMap qC = ((⟨op, 0, num, name⟩ : QN) :: (ks.take i).flatMap (·.l)).flatMap qC ++ k.l.flatMap qC := by
      rw [ht1, List.flatMap_append, hfk, List.flatMap_cons, List.flatMap_cons, List.flatMap_append, List.append_assoc]
    refine ⟨(i + 1, ad6, cap6), by dsimp only; rw [hcount]; rfl, ⟨by dsimp only; omega, by dsimp only; rw [hcount, hlist]; exact ho6, kW.since k6 hnew, g8', fun c hc => ?_⟩, by dsimp only; omega⟩
    · rcases hn6 c hc with h | h
      · exact hnew c h
      · omega
  · obtain rfl : i = ks.length := by omega
    rw [List.take_length] at ho hti ⊢
    generalize hLr : ks.flatMap (·.l) = Lr at ho hti hl ⊢
    have hlen : ((⟨op, 0, num, name⟩ : QN) :: Lr).length = 1 + Lr.length := by rw [List.length_cons, Nat.add_comm]
    rw [← hlen] at ho ⊢
    obtain ⟨bo, L, rfl, hL, hLl, hcell, hset⟩ := ho.rec (f := qC) (m := 4) qC_len (by omega) (i := 0) (by simp)
    have hbo := hnew bo (by simp [blkOf])
    (repeat first|refine zA ?_|refine zg ?_|refine zo rfl rfl (by first|exact trivial|(simp only[AllP];omega)) ?_|refine ze rfl ?_)
    refine o_store (b := bo) (off := 1) (v := I ((⟨op, 0, num, name⟩ : QN) :: Lr).length) (by rfl) hL (by omega) rfl rfl rfl rfl rfl rfl ?_
    intro w7 hu7
    have k7 : Kp [bo] W w7 := hu7.kp [bo] (.inl (by simp))
    have g8 := k7.blk (by simp; omega) g8
    have ho7 := hset ⟨op, 1 + Lr.length, num, name⟩ w7 (by
      have e2 : setMany L (0 * 4) (qC ⟨op, 1 + Lr.length, num, name⟩) = L.set (0 * 4 + 1) (I (1 + Lr.length : Nat)) := set_many_cell L (cs := qC ⟨op, 0, num, name⟩) (j := 1) (v := I (1 + Lr.length : Nat)) (fun j' v' h => hcell ⟨op, 0, num, name⟩ rfl j' v' h) (by rw [qC_len]; omega) (by rw [qC_len]; omega)
      rw [e2, ← hlen]; exact hu7)
    (repeat first|refine zA ?_|refine zg ?_|refine zo rfl rfl trivial ?_|refine zn ?_)
    refine o_build [.slice (some ⟨bo, 0, none⟩) ((⟨op, 0, num, name⟩ : QN) :: Lr).length icap] rfl rfl rfl rfl rfl rfl rfl ?_
    refine o_storeA (b := b8) (cs := [.slice (some ⟨bo, 0, none⟩) ((⟨op, 0, num, name⟩ : QN) :: Lr).length icap]) rfl g8 (Nat.le_refl _) rfl (by simp [Value.oneCell']) rfl rfl rfl rfl ?_
    intro w8 hu8
    have k8 : Kp [b8] w7 w8 := hu8.kp [b8] (.inl (by simp))
    (repeat first|refine zn ?_|refine zr ?_)
    refine ⟨_, fin rfl hu8.blk, some ⟨bo, 0, none⟩, icap, rfl, ho7.kp k8 (by simp [blkOf]; omega), (k1.trans ((kW.since k7 (by simp; omega)))).since k8 (by simpa using n8), fun c hc => ?_⟩
    simp [blkOf] at hc; omega
end Go.Vc
