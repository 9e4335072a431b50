/- Query: tokens without their places, in plain Lean (no program in sight). -/
import Derived.Test.YtkgngbpkiklckaaGreatDoorQClQBack21
import Derived.Test.YtkgngbpkiklckaaGreatDoorQClQBack6
namespace Go.Vc
open Go
/-- a token without its place -/
structure T0 where
  text : List UInt8
  num : Int
  deriving DecidableEq
/-- the tokens of a stream; none: a byte begins none -/
def TS.strip : TS → Option (List T0)
  | .stop _ => some []
  | .bad _ => none
  | .tok t r => r.strip.map (⟨t.text, t.num⟩ :: ·)
theorem tok1_at {i j : Nat} {l : List UInt8} : (tok1 i l).map (fun t => (⟨t.text, t.num⟩ : T0)) = (tok1 j l).map (fun t => (⟨t.text, t.num⟩ : T0)) := by
  cases l with
  | nil => rfl
  | cons c r =>
    simp only [tok1]
    split
    · rfl
    · split
      · cases numAcc 0 (c :: r.takeWhile digitB) <;> rfl
      · split <;> rfl
theorem strip_lexF : ∀ (f f' i j : Nat) (l : List UInt8), l.length < f → l.length < f' → (lexF f i l).strip = (lexF f' j l).strip
  | 0, _, _, _, _, h, _ => by omega
  | f + 1, 0, _, _, _, _, h => by omega
  | f + 1, f' + 1, i, j, l, h, h' => by
    rw [lexF, lexF]
    cases hd : l.drop (skipB l) with
    | nil => rfl
    | cons c r =>
      dsimp only
      have ht := tok1_at (i := i + skipB l) (j := j + skipB l) (l := c :: r)
      have hl : r.length + 1 + skipB l = l.length := by
        have h1 := congrArg List.length hd
        have h2 := skipB_le l
        simp at h1; omega
      cases h1 : tok1 (i + skipB l) (c :: r) with
      | none =>
        rw [h1] at ht
        cases h2 : tok1 (j + skipB l) (c :: r) with
        | none => rfl
        | some u => rw [h2] at ht; cases ht
      | some t =>
        rw [h1] at ht
        cases h2 : tok1 (j + skipB l) (c :: r) with
        | none => rw [h2] at ht; cases ht
        | some u =>
          rw [h2] at ht
          simp only [Option.map_some, Option.some.injEq, T0.mk.injEq] at ht
          obtain ⟨g1, g2, _, _⟩ := tok1_len h1
          simp only [TS.strip]
          rw [← ht.1, ← ht.2, strip_lexF f f' _ (j + skipB l + t.text.length) _ (by simp; omega) (by simp; omega)]
/-- the tokens of a text -/
def tk (l : List UInt8) : Option (List T0) := (lexF (l.length + 1) 0 l).strip
theorem tk_at {f i : Nat} {l : List UInt8} (h : l.length < f) : (lexF f i l).strip = tk l := strip_lexF _ _ _ _ _ h (by omega)
theorem tk_nil : tk [] = some [] := rfl
theorem skipB_cons {c : UInt8} {l : List UInt8} (h : blankB c = true) : skipB (c :: l) = skipB l + 1 := by simp [skipB, List.takeWhile_cons, h]
theorem skipB_no {c : UInt8} {l : List UInt8} (h : blankB c = false) : skipB (c :: l) = 0 := by simp [skipB, List.takeWhile_cons, h]
theorem tk_blank {c : UInt8} {l : List UInt8} (h : blankB c = true) : tk (c :: l) = tk l := by
  unfold tk
  have e : lexF ((c :: l).length + 1) 0 (c :: l) = lexF ((c :: l).length + 1) 1 l := by
    rw [lexF, lexF, skipB_cons h, List.drop_succ_cons, show 0 + (skipB l + 1) = 1 + skipB l by omega]
  rw [e]
  exact tk_at (by simp; omega)
theorem tk_cons {c : UInt8} {l : List UInt8} (hb : blankB c = false) {t : Tok} (ht : tok1 0 (c :: l) = some t) : tk (c :: l) = (tk ((c :: l).drop t.text.length)).map (⟨t.text, t.num⟩ :: ·) := by
  unfold tk
  rw [lexF, skipB_no hb]
  simp only [List.drop_zero, Nat.add_zero, ht, TS.strip]
  obtain ⟨g1, g2, _, _⟩ := tok1_len ht
  rw [tk_at (by simp; omega)]
  rfl
/-- may a word, a number, a mark end ahead of this? -/
def stopB : List UInt8 → Bool
  | [] => true
  | c :: _ => !letterB c && !digitB c && !decide (c = 61)
theorem tw_app {f : UInt8 → Bool} {a b : List UInt8} (ha : a.all f = true) (hb : ∀ c r, b = c :: r → f c = false) : (a ++ b).takeWhile f = a := by
  induction a with
  | nil =>
    cases b with
    | nil => rfl
    | cons c r => simp [List.takeWhile_cons, hb c r rfl]
  | cons x a ih =>
    simp only [List.all_cons, Bool.and_eq_true] at ha
    simp only [List.cons_append, List.takeWhile_cons, ha.1, if_true, ih ha.2]
theorem stop_head {b : List UInt8} (h : stopB b = true) {c : UInt8} {r : List UInt8} (e : b = c :: r) : letterB c = false ∧ digitB c = false ∧ c ≠ 61 := by
  subst e
  simp only [stopB, Bool.and_eq_true, Bool.not_eq_true', decide_eq_false_iff_not] at h
  exact ⟨h.1.1, h.1.2, h.2⟩
theorem letter_blank {c : UInt8} (h : letterB c = true) : blankB c = false := by
  unfold letterB blankB at *
  simp only [Bool.and_eq_true, decide_eq_true_eq, UInt8.le_iff_toNat_le] at h
  simp only [Bool.or_eq_false_iff, decide_eq_false_iff_not, ← UInt8.toNat_inj]
  simp at h ⊢; omega
theorem digit_blank {c : UInt8} (h : digitB c = true) : blankB c = false := by
  unfold digitB blankB at *
  simp only [Bool.and_eq_true, decide_eq_true_eq, UInt8.le_iff_toNat_le] at h
  simp only [Bool.or_eq_false_iff, decide_eq_false_iff_not, ← UInt8.toNat_inj]
  simp at h ⊢; omega
theorem digit_letter {c : UInt8} (h : digitB c = true) : letterB c = false := by
  unfold digitB letterB at *
  simp only [Bool.and_eq_true, decide_eq_true_eq, UInt8.le_iff_toNat_le] at h
  simp only [Bool.and_eq_false_iff, decide_eq_false_iff_not, UInt8.le_iff_toNat_le]
  simp at h ⊢; omega
theorem tk_word {c : UInt8} {a b : List UInt8} (hc : letterB c = true) (ha : a.all (fun c => letterB c || digitB c) = true) (hb : stopB b = true) : tk (c :: a ++ b) = (tk b).map (⟨c :: a, -1⟩ :: ·) := by
  have htw : (a ++ b).takeWhile (fun c => letterB c || digitB c) = a := tw_app ha (fun c r e => by obtain ⟨h1, h2, _⟩ := stop_head hb e; simp [h1, h2])
  have ht : tok1 0 (c :: (a ++ b)) = some ⟨c :: a, -1, 0⟩ := by simp [tok1, hc, htw]
  rw [List.cons_append, tk_cons (letter_blank hc) ht]
  simp
theorem tk_num {c : UInt8} {a b : List UInt8} {u : Nat} (hc : digitB c = true) (ha : a.all digitB = true) (hb : stopB b = true) (hn : numAcc 0 (c :: a) = some u) : tk (c :: a ++ b) = (tk b).map (⟨c :: a, u⟩ :: ·) := by
  have htw : (a ++ b).takeWhile digitB = a := tw_app ha (fun c r e => (stop_head hb e).2.1)
  have ht : tok1 0 (c :: (a ++ b)) = some ⟨c :: a, u, 0⟩ := by simp [tok1, hc, digit_letter hc, htw, hn]
  rw [List.cons_append, tk_cons (digit_blank hc) ht]
  simp
/-- a mark of one byte, whatever follows -/
theorem tk_mark1 {c : UInt8} {b : List UInt8} (hc : c = 40 ∨ c = 41 ∨ c = 44 ∨ c = 58 ∨ c = 43 ∨ c = 45 ∨ c = 42 ∨ c = 61) : tk (c :: b) = (tk b).map (⟨[c], -1⟩ :: ·) := by
  have h1 : blankB c = false ∧ letterB c = false ∧ digitB c = false ∧ c ≠ 33 ∧ c ≠ 60 ∧ c ≠ 62 := by rcases hc with rfl | rfl | rfl | rfl | rfl | rfl | rfl | rfl <;> decide
  have hm : markLen (c :: b) = 1 := by simp only [markLen, h1, if_false, or_self, if_pos hc]
  have ht : tok1 0 (c :: b) = some ⟨[c], -1, 0⟩ := by simp [tok1, h1, hm]
  rw [tk_cons h1.1 ht]
  simp
/-- '<' or '>' ahead of what is no '=' -/
theorem tk_mark2 {c : UInt8} {b : List UInt8} (hc : c = 60 ∨ c = 62) (hb : stopB b = true) : tk (c :: b) = (tk b).map (⟨[c], -1⟩ :: ·) := by
  have h1 : blankB c = false ∧ letterB c = false ∧ digitB c = false ∧ c ≠ 33 := by rcases hc with rfl | rfl <;> decide
  have hh : b.head? ≠ some 61 := by
    cases b with
    | nil => simp
    | cons d r => have := (stop_head hb rfl).2.2; simpa using this
  have hm : markLen (c :: b) = 1 := by simp only [markLen, h1, if_false, if_pos hc, hh]
  have ht : tok1 0 (c :: b) = some ⟨[c], -1, 0⟩ := by simp [tok1, h1, hm]
  rw [tk_cons h1.1 ht]
  simp
/-- a mark of two bytes -/
theorem tk_mark3 {c : UInt8} {b : List UInt8} (hc : c = 33 ∨ c = 60 ∨ c = 62) : tk (c :: 61 :: b) = (tk b).map (⟨[c, 61], -1⟩ :: ·) := by
  have h1 : blankB c = false ∧ letterB c = false ∧ digitB c = false := by rcases hc with rfl | rfl | rfl <;> decide
  have hm : markLen (c :: 61 :: b) = 2 := by
    rcases hc with rfl | rfl | rfl <;> simp [markLen]
  have ht : tok1 0 (c :: 61 :: b) = some ⟨[c, 61], -1, 0⟩ := by simp [tok1, h1, hm]
  rw [tk_cons h1.1 ht]
  simp
end Go.Vc
/- Query: a printed tree's tokens, in plain Lean (no program in sight). -/
namespace Go.Vc
open Go
/-- a tree that may be, but for its names' binding and its sorts -/
def goodT : QT → Prop
  | .n0 op num name => (op = 1 ∧ 0 ≤ num ∧ num ≤ 9223372036854775807 ∧ name = []) ∨ (op = 2 ∧ num = 0 ∧ qName name = true) ∨ (op = 3 ∧ num = 0 ∧ name = [])
  | .n1 op num name a => num = 0 ∧ goodT a ∧ ((op = 4 ∨ op = 8 ∨ op = 9 ∨ op = 10 ∨ op = 17) ∧ name = [] ∨ (op = 22 ∨ op = 23 ∨ op = 24 ∨ op = 25 ∨ op = 26) ∧ qName name = true)
  | .n2 op num name a b => num = 0 ∧ goodT a ∧ goodT b ∧ name = [] ∧ (op = 5 ∨ op = 6 ∨ op = 7 ∨ op = 11 ∨ op = 12 ∨ op = 13 ∨ op = 14 ∨ op = 15 ∨ op = 16 ∨ op = 18 ∨ op = 19 ∨ op = 20 ∨ op = 21)
/-- a word's or a mark's token -/
def wT (s : List UInt8) : T0 := ⟨s, -1⟩
def brkT (t : QT) (s : List T0) : List T0 := if callO t.op.toNat = true ∨ kidsO t.op.toNat = 0 then s else wT [40] :: (s ++ [wT [41]])
/-- the tokens of a printed tree -/
def tokM : QT → List T0
  | .n0 op num name => if op = 1 then [⟨Lib.decDigits num.toNat, num⟩] else if op = 2 then [wT name] else [wT (opWord op.toNat)]
  | .n1 op _ name a =>
    if callO op.toNat then wT (opWord op.toNat) :: wT [40] :: (tokM a ++ [wT [41]])
    else if bindsO op.toNat then wT (opWord op.toNat) :: wT name :: wT [58] :: tokM a
    else wT (opWord op.toNat) :: brkT a (tokM a)
  | .n2 op _ _ a b =>
    if callO op.toNat then wT (opWord op.toNat) :: wT [40] :: (tokM a ++ wT [44] :: (tokM b ++ [wT [41]]))
    else brkT a (tokM a) ++ wT (opWord op.toNat) :: brkT b (tokM b)
/-- how blanks and brackets may be widened -/
structure Wide (φ : UInt8 → List UInt8) : Prop where
  other : ∀ c, c ≠ 32 → c ≠ 40 → c ≠ 41 → φ c = [c]
  blank : ∀ b, tk (φ 32 ++ b) = tk b
  lp : ∀ b, tk (φ 40 ++ b) = (tk b).map (wT [40] :: ·)
  rp : ∀ b, tk (φ 41 ++ b) = (tk b).map (wT [41] :: ·)
  sblank : ∀ b, stopB (φ 32 ++ b) = true
  slp : ∀ b, stopB (φ 40 ++ b) = true
  srp : ∀ b, stopB (φ 41 ++ b) = true
theorem wide_id : Wide (fun c => [c]) := ⟨fun _ _ _ _ => rfl, fun b => tk_blank rfl, fun b => tk_mark1 (by simp), fun b => tk_mark1 (by simp), fun _ => rfl, fun _ => rfl, fun _ => rfl⟩
/-- what the law makes of a byte -/
def wideB (c : UInt8) : List UInt8 := if c = 32 ∨ c = 40 ∨ c = 41 then [32, c, 9, 10] else [c]
theorem wide_law : Wide wideB := by
  refine ⟨fun c h1 h2 h3 => by simp [wideB, h1, h2, h3], fun b => ?_, fun b => ?_, fun b => ?_, fun _ => rfl, fun _ => rfl, fun _ => rfl⟩
  · show tk (32 :: 32 :: 9 :: 10 :: b) = _
    rw [tk_blank rfl, tk_blank rfl, tk_blank rfl, tk_blank rfl]
  · show tk (32 :: 40 :: 9 :: 10 :: b) = _
    rw [tk_blank rfl, tk_mark1 (by simp), tk_blank rfl, tk_blank rfl]; rfl
  · show tk (32 :: 41 :: 9 :: 10 :: b) = _
    rw [tk_blank rfl, tk_mark1 (by simp), tk_blank rfl, tk_blank rfl]; rfl
theorem plain_of {c : UInt8} (h : (letterB c || digitB c) = true) : c ≠ 32 ∧ c ≠ 40 ∧ c ≠ 41 := by
  refine ⟨?_, ?_, ?_⟩ <;> rintro rfl <;> exact absurd h (by decide)
theorem wide_plain {φ : UInt8 → List UInt8} (hφ : Wide φ) : ∀ {l : List UInt8}, l.all (fun c => letterB c || digitB c) = true → l.flatMap φ = l
  | [], _ => rfl
  | c :: r, h => by
    simp only [List.all_cons, Bool.and_eq_true] at h
    obtain ⟨h1, h2, h3⟩ := plain_of h.1
    rw [List.flatMap_cons, hφ.other c h1 h2 h3, wide_plain hφ h.2]; rfl
/-! ### Numbers -/
theorem dig_num (k : Nat) (h : k < 10) : (UInt8.ofNat (48 + k)).toNat = 48 + k := by rw [UInt8.toNat_ofNat']; omega
theorem dig_is (k : Nat) (h : k < 10) : digitB (UInt8.ofNat (48 + k)) = true := by
  unfold digitB
  simp only [Bool.and_eq_true, decide_eq_true_eq, UInt8.le_iff_toNat_le, dig_num k h]
  simp; omega
theorem decDigits_big' {u : Nat} (h : ¬ u < 10) : Lib.decDigits u = Lib.decDigits (u / 10) ++ [UInt8.ofNat (48 + u % 10)] := by rw [Lib.decDigits, dif_neg h]
theorem dec_all : ∀ (u : Nat), (Lib.decDigits u).all digitB = true ∧ Lib.decDigits u ≠ []
  | u => by
    by_cases h : u < 10
    · rw [Lib.decDigits_one h]
      exact ⟨by simp only [List.all_cons, List.all_nil, Bool.and_true]; exact dig_is u h, by simp⟩
    · rw [decDigits_big' h]
      have := (dec_all (u / 10)).1
      exact ⟨by simp only [List.all_append, this, List.all_cons, List.all_nil, Bool.and_true, Bool.true_and]; exact dig_is (u % 10) (by omega), by simp⟩
termination_by u => u
theorem numAcc_app : ∀ (l : List UInt8) (n : Nat) (r : List UInt8), numAcc n (l ++ r) = (numAcc n l).bind fun m => numAcc m r
  | [], n, r => rfl
  | c :: l, n, r => by
    rw [List.cons_append, numAcc, numAcc]
    split
    · exact numAcc_app l _ r
    · rfl
theorem dec_num : ∀ (u : Nat), u ≤ 9223372036854775807 → numAcc 0 (Lib.decDigits u) = some u
  | u, hu => by
    by_cases h : u < 10
    · rw [Lib.decDigits_one h, numAcc, dig_num u h, if_pos (by omega), numAcc]
      congr 1; omega
    · rw [decDigits_big' h, numAcc_app, dec_num (u / 10) (by omega)]
      show numAcc (u / 10) [UInt8.ofNat (48 + u % 10)] = _
      rw [numAcc, dig_num (u % 10) (by omega), if_pos (by omega), numAcc]
      congr 1; omega
termination_by u => u
/-! ### Names and words -/
theorem name_shape {s : List UInt8} (h : qName s = true) : ∃ c a, s = c :: a ∧ letterB c = true ∧ a.all (fun c => letterB c || digitB c) = true := by
  unfold qName at h
  simp only [Bool.and_eq_true] at h
  obtain ⟨⟨⟨⟨⟨h1, _⟩, _⟩, _⟩, h5⟩, h6⟩ := h
  cases s with
  | nil => simp at h1
  | cons c a =>
    simp only [List.head?_cons, Option.map_some, Option.getD_some] at h5
    simp only [List.all_cons, Bool.and_eq_true] at h6
    exact ⟨c, a, rfl, h5, h6.2⟩
/-- the words of letters -/
def letterOp (k : Nat) : Bool := decide (k = 3) || (decide (8 ≤ k) && decide (k ≤ 10)) || (decide (17 ≤ k) && decide (k ≤ 26))
theorem word_shape {k : Nat} (h : letterOp k = true) : ∃ c a, opWord k = c :: a ∧ letterB c = true ∧ a.all (fun c => letterB c || digitB c) = true := by
  have h27 : k < 27 := by
    simp only [letterOp, Bool.or_eq_true, Bool.and_eq_true, decide_eq_true_eq] at h; omega
  have hall : ∀ k ∈ List.range 27, letterOp k = true → (match opWord k with | [] => false | c :: a => letterB c && a.all (fun c => letterB c || digitB c)) = true := by decide
  have := hall k (List.mem_range.2 h27) h
  cases hw : opWord k with
  | nil => rw [hw] at this; cases this
  | cons c a => rw [hw] at this; simp only [Bool.and_eq_true] at this; exact ⟨c, a, rfl, this.1, this.2⟩
section
variable {φ : UInt8 → List UInt8} (hφ : Wide φ)
include hφ
theorem tk_plain {s b : List UInt8} (h : ∃ c a, s = c :: a ∧ letterB c = true ∧ a.all (fun c => letterB c || digitB c) = true) (hb : stopB b = true) : tk (s.flatMap φ ++ b) = (tk b).map (wT s :: ·) := by
  obtain ⟨c, a, rfl, h1, h2⟩ := h
  rw [wide_plain hφ (by simp [h1, h2])]
  exact tk_word h1 h2 hb
theorem tk_dec {u : Nat} {b : List UInt8} (hu : u ≤ 9223372036854775807) (hb : stopB b = true) : tk ((Lib.decDigits u).flatMap φ ++ b) = (tk b).map (⟨Lib.decDigits u, u⟩ :: ·) := by
  obtain ⟨h1, h2⟩ := dec_all u
  have h3 := dec_num u hu
  rw [wide_plain hφ (by rw [List.all_eq_true] at h1 ⊢; intro x hx; simp [h1 x hx])]
  cases hd : Lib.decDigits u with
  | nil => exact absurd hd h2
  | cons c a =>
    rw [hd] at h1 h3
    simp only [List.all_cons, Bool.and_eq_true] at h1
    exact tk_num h1.1 h1.2 hb h3
theorem tk_brk {t : QT} {b : List UInt8} (hb : stopB b = true) (h : ∀ b, stopB b = true → tk ((toldM t).flatMap φ ++ b) = (tk b).map (tokM t ++ ·)) : tk ((brk t (toldM t)).flatMap φ ++ b) = (tk b).map (brkT t (tokM t) ++ ·) := by
  unfold brk brkT
  split
  · exact h b hb
  · rw [List.flatMap_cons, List.flatMap_append, List.append_assoc, List.append_assoc, hφ.lp, List.flatMap_cons, List.flatMap_nil, List.append_nil, h _ (hφ.srp b), hφ.rp]
    cases tk b <;> simp
theorem tk_told : ∀ (t : QT), goodT t → ∀ b, stopB b = true → tk ((toldM t).flatMap φ ++ b) = (tk b).map (tokM t ++ ·)
  | .n0 op num name, hg, b, hb => by
    rcases hg with ⟨rfl, h1, h2, _⟩ | ⟨rfl, _, h2⟩ | ⟨rfl, _, _⟩
    · have := tk_dec hφ (u := num.toNat) (b := b) (by omega) hb
      rw [Int.toNat_of_nonneg h1] at this
      simpa [toldM, tokM] using this
    · simpa [toldM, tokM] using tk_plain hφ (name_shape h2) hb
    · simpa [toldM, tokM] using tk_plain hφ (word_shape (k := 3) rfl) hb
  | .n1 op num name a, ⟨_, ha, hg⟩, b, hb => by
    have ih := tk_told a ha
    have h58 : φ 58 = [58] := hφ.other 58 (by decide) (by decide) (by decide)
    have h45 : φ 45 = [45] := hφ.other 45 (by decide) (by decide) (by decide)
    have call : ∀ w : Nat, w = 8 ∨ w = 9 ∨ w = 10 → tk ((toldM (.n1 w num name a)).flatMap φ ++ b) = (tk b).map (tokM (.n1 w num name a) ++ ·) := by
      intro w hw
      have e1 : toldM (.n1 w num name a) = opWord w ++ 40 :: (toldM a ++ [41]) ∧ tokM (.n1 w num name a) = wT (opWord w) :: wT [40] :: (tokM a ++ [wT [41]]) ∧ letterOp w = true := by
        rcases hw with rfl | rfl | rfl <;> exact ⟨by simp [toldM, callO], rfl, rfl⟩
      obtain ⟨e1, e2, e3⟩ := e1
      rw [e1, e2, List.flatMap_append, List.flatMap_cons, List.flatMap_append, List.flatMap_cons, List.flatMap_nil, List.append_nil, List.append_assoc, List.append_assoc, List.append_assoc, tk_plain hφ (word_shape e3) (hφ.slp _), hφ.lp, ih _ (hφ.srp b), hφ.rp]
      cases tk b <;> simp
    rcases hg with ⟨hop, _⟩ | ⟨hop, hn⟩
    · rcases hop with rfl | rfl | rfl | rfl | rfl
      · have e1 : toldM (.n1 4 num name a) = 45 :: brk a (toldM a) := rfl
        have e2 : tokM (.n1 4 num name a) = wT [45] :: brkT a (tokM a) := rfl
        rw [e1, e2, List.flatMap_cons, h45, List.append_assoc]
        show tk (45 :: ((brk a (toldM a)).flatMap φ ++ b)) = _
        rw [tk_mark1 (by simp), tk_brk hφ hb ih]
        cases tk b <;> simp [wT]
      · exact call 8 (.inl rfl)
      · exact call 9 (.inr (.inl rfl))
      · exact call 10 (.inr (.inr rfl))
      · have e1 : toldM (.n1 17 num name a) = opWord 17 ++ 32 :: brk a (toldM a) := by simp [toldM, callO, bindsO]
        have e2 : tokM (.n1 17 num name a) = wT (opWord 17) :: brkT a (tokM a) := rfl
        rw [e1, e2, List.flatMap_append, List.flatMap_cons, List.append_assoc, List.append_assoc, tk_plain hφ (word_shape rfl) (hφ.sblank _), hφ.blank, tk_brk hφ hb ih]
        cases tk b <;> simp
    · have e1 : ∀ w : Nat, w = 22 ∨ w = 23 ∨ w = 24 ∨ w = 25 ∨ w = 26 → toldM (.n1 w num name a) = opWord w ++ 32 :: (name ++ 58 :: 32 :: toldM a) ∧ tokM (.n1 w num name a) = wT (opWord w) :: wT name :: wT [58] :: tokM a ∧ letterOp w = true := by
        rintro w (rfl | rfl | rfl | rfl | rfl) <;> exact ⟨by simp [toldM, callO, bindsO], rfl, rfl⟩
      obtain ⟨w, hw, rfl⟩ : ∃ w : Nat, (w = 22 ∨ w = 23 ∨ w = 24 ∨ w = 25 ∨ w = 26) ∧ op = w := by
        rcases hop with rfl | rfl | rfl | rfl | rfl
        · exact ⟨22, by simp, rfl⟩
        · exact ⟨23, by simp, rfl⟩
        · exact ⟨24, by simp, rfl⟩
        · exact ⟨25, by simp, rfl⟩
        · exact ⟨26, by simp, rfl⟩
      obtain ⟨e1, e2, e3⟩ := e1 w hw
      rw [e1, e2, List.flatMap_append, List.flatMap_cons, List.flatMap_append, List.flatMap_cons, List.flatMap_cons, List.append_assoc, List.append_assoc, List.append_assoc, tk_plain hφ (word_shape e3) (hφ.sblank _), hφ.blank, tk_plain hφ (name_shape hn) (by rw [h58]; rfl), h58]
      show Option.map _ (Option.map _ (tk (58 :: ((φ 32 ++ (toldM a).flatMap φ) ++ b)))) = _
      rw [tk_mark1 (by simp), List.append_assoc, hφ.blank, ih b hb]
      cases tk b <;> simp [wT]
  | .n2 op num name a b', ⟨_, ha, hb', _, hop⟩, b, hb => by
    have iha := tk_told a ha
    have ihb := tk_told b' hb'
    have h44 : φ 44 = [44] := hφ.other 44 (by decide) (by decide) (by decide)
    obtain ⟨w, hw, rfl⟩ : ∃ w : Nat, (w = 5 ∨ w = 6 ∨ w = 7 ∨ w = 11 ∨ w = 12 ∨ w = 13 ∨ w = 14 ∨ w = 15 ∨ w = 16 ∨ w = 18 ∨ w = 19 ∨ w = 20 ∨ w = 21) ∧ op = w := by
      rcases hop with rfl | rfl | rfl | rfl | rfl | rfl | rfl | rfl | rfl | rfl | rfl | rfl | rfl
      · exact ⟨5, by simp, rfl⟩
      · exact ⟨6, by simp, rfl⟩
      · exact ⟨7, by simp, rfl⟩
      · exact ⟨11, by simp, rfl⟩
      · exact ⟨12, by simp, rfl⟩
      · exact ⟨13, by simp, rfl⟩
      · exact ⟨14, by simp, rfl⟩
      · exact ⟨15, by simp, rfl⟩
      · exact ⟨16, by simp, rfl⟩
      · exact ⟨18, by simp, rfl⟩
      · exact ⟨19, by simp, rfl⟩
      · exact ⟨20, by simp, rfl⟩
      · exact ⟨21, by simp, rfl⟩
    by_cases hc : callO w = true
    · have h2 : w = 20 ∨ w = 21 := by
        simp only [callO, Bool.or_eq_true, decide_eq_true_eq] at hc; omega
      have e3 : letterOp w = true := by rcases h2 with rfl | rfl <;> rfl
      have e1 : toldM (.n2 w num name a b') = opWord w ++ 40 :: (toldM a ++ 44 :: 32 :: (toldM b' ++ [41])) := by
        show (if callO (Int.toNat w) then _ else _) = _
        rw [Int.toNat_natCast, if_pos hc]; simp
      have e2 : tokM (.n2 w num name a b') = wT (opWord w) :: wT [40] :: (tokM a ++ wT [44] :: (tokM b' ++ [wT [41]])) := by
        show (if callO (Int.toNat w) then _ else _) = _
        rw [Int.toNat_natCast, if_pos hc]
      rw [e1, e2, List.flatMap_append, List.flatMap_cons, List.flatMap_append, List.flatMap_cons, List.flatMap_cons, List.flatMap_append, List.flatMap_cons, List.flatMap_nil, List.append_nil, h44]
      simp only [List.append_assoc]
      rw [tk_plain hφ (word_shape e3) (hφ.slp _), hφ.lp, iha _ (by rfl)]
      show Option.map _ (Option.map _ (Option.map _ (tk (44 :: (φ 32 ++ ((toldM b').flatMap φ ++ (φ 41 ++ b))))))) = _
      rw [tk_mark1 (by simp), hφ.blank, ihb _ (hφ.srp b), hφ.rp]
      cases tk b <;> simp [wT]
    · have e1 : toldM (.n2 w num name a b') = brk a (toldM a) ++ 32 :: (opWord w ++ 32 :: brk b' (toldM b')) := by
        show (if callO (Int.toNat w) then _ else _) = _
        rw [Int.toNat_natCast, if_neg hc]; simp
      have e2 : tokM (.n2 w num name a b') = brkT a (tokM a) ++ wT (opWord w) :: brkT b' (tokM b') := by
        show (if callO (Int.toNat w) then _ else _) = _
        rw [Int.toNat_natCast, if_neg hc]
      rw [e1, e2, List.flatMap_append, List.flatMap_cons, List.flatMap_append, List.flatMap_cons]
      simp only [List.append_assoc]
      rw [tk_brk hφ (hφ.sblank _) iha, hφ.blank]
      have key : ∀ d, stopB d = true → tk ((opWord w).flatMap φ ++ d) = (tk d).map (wT (opWord w) :: ·) := by
        intro d hd
        have o : ∀ c, c ≠ 32 → c ≠ 40 → c ≠ 41 → φ c = [c] := hφ.other
        rcases hw with rfl | rfl | rfl | rfl | rfl | rfl | rfl | rfl | rfl | rfl | rfl | rfl | rfl
        · show tk (φ 43 ++ [] ++ d) = _; rw [o 43 (by decide) (by decide) (by decide)]; exact tk_mark1 (by simp)
        · show tk (φ 45 ++ [] ++ d) = _; rw [o 45 (by decide) (by decide) (by decide)]; exact tk_mark1 (by simp)
        · show tk (φ 42 ++ [] ++ d) = _; rw [o 42 (by decide) (by decide) (by decide)]; exact tk_mark1 (by simp)
        · show tk (φ 60 ++ [] ++ d) = _; rw [o 60 (by decide) (by decide) (by decide)]; exact tk_mark2 (by simp) hd
        · show tk (φ 60 ++ (φ 61 ++ []) ++ d) = _; rw [o 60 (by decide) (by decide) (by decide), o 61 (by decide) (by decide) (by decide)]; exact tk_mark3 (by simp)
        · show tk (φ 61 ++ [] ++ d) = _; rw [o 61 (by decide) (by decide) (by decide)]; exact tk_mark1 (by simp)
        · show tk (φ 33 ++ (φ 61 ++ []) ++ d) = _; rw [o 33 (by decide) (by decide) (by decide), o 61 (by decide) (by decide) (by decide)]; exact tk_mark3 (by simp)
        · show tk (φ 62 ++ (φ 61 ++ []) ++ d) = _; rw [o 62 (by decide) (by decide) (by decide), o 61 (by decide) (by decide) (by decide)]; exact tk_mark3 (by simp)
        · show tk (φ 62 ++ [] ++ d) = _; rw [o 62 (by decide) (by decide) (by decide)]; exact tk_mark2 (by simp) hd
        · exact tk_plain hφ (word_shape rfl) hd
        · exact tk_plain hφ (word_shape rfl) hd
        · exact absurd rfl hc
        · exact absurd rfl hc
      rw [key _ (hφ.sblank _), hφ.blank, tk_brk hφ hb ihb]
      cases tk b <;> simp [wT]
end
end Go.Vc
/- Append of a row that may be empty. -/
namespace Go.Vc
open Go
section
variable {P : Program} {n : Nat} {a : Act} {e : Env} {w : World} {K : EPost} {all : List Oper} {G : List Nat} {ro : Ro} {dst : Option Tmp} {ty : TypeId} {pos : String} {after : Array Edge} {g : Option (Nat × Bool)} {l : List Oper} {t : TypeId} {x y : Operand}
/-- append of a row that may be empty -/
theorem o_appendR {T : TypeId} {td : TypeDesc} {tn : String} {size tby : Nat} {thp : Bool} {tal tfa : Nat} {z : Value} {tcm : Bool} {tms : Array Method}
    {ad ay : Option Addr} {k cap m cy : Nat} {xs : List Value} (news : List Value)
    (hx : ev e x = .slice ad k cap) (hy : ev e y = .slice ay m cy) (ho : OwnS w T size ad k cap xs) (hn : ReadS w ay news)
    (hu : P.underlying t = some (.slice T)) (hi : P.info? T = some ⟨td, tn, size, tby, thp, tal, tfa, some z, tcm, tms⟩) (hzs : z.cells.size = size) (hsz : 0 < size)
    (hl : news.length = m * size) (h1 : ∀ v ∈ news, v.oneCell' = true) (h63 : k + m ≤ maxLen) (hby : (k + m) * tby ≤ 140737488355328) (hd : dOk n dst = true) (hm : may all G e g = some true)
    (kk : ∀ ad' cap' w', OwnS w' T size ad' (k + m) cap' (xs ++ news) → Kp (blkOf ad) w w' → (∀ b, b ∈ blkOf ad' → b ∈ blkOf ad ∨ w.heap.size ≤ b) → Ops ro P n all G K l (put e dst (.slice ad' (k + m) cap')) w') :
    Ops ro P n all G K (⟨dst, .call ⟨.builtin .append, #[x, y], #[t, t]⟩, ty, pos, after, g⟩ :: l) e w := by
  by_cases h0 : m = 0
  · subst h0
    have hxs : news = [] := List.eq_nil_of_length_eq_zero (by omega)
    subst hxs
    exact o_append0 hx hy ho.le_cap hu hi hd hm (kk ad cap w (by rw [List.append_nil]; exact ho) (Kp.refl _ _) (fun b hb => .inl hb))
  · have hpos : 0 < news.length := by rw [hl]; exact Nat.mul_pos (by omega) hsz
    obtain ⟨b, off, rfl, _, _⟩ := hn.at_ hpos
    exact o_append news hx hy ho (fun j v hv => hn j v hv) hu hi hzs hsz hl (by omega) h1 h63 hby hd hm kk
end
end Go.Vc
