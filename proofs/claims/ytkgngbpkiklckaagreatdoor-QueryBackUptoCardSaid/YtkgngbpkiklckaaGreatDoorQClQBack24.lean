/- Query: there and back, in plain Lean (no program in sight). -/
import Derived.Test.YtkgngbpkiklckaaGreatDoorQClQBack23
namespace Go.Vc
open Go
/-- what is read of a kid -/
def FactP (t : QT) : Prop := ∀ s r, s.strip = some (brkT t (tokM t) ++ r) → ∃ s', Rds 5 s t s' ∧ s'.strip = some r
def QuestP (t : QT) : Prop := ∀ s r, s.strip = some (tokM t ++ r) → endR r → ∃ s', Rds 0 s t s' ∧ s'.strip = some r
theorem brkT_head {t : QT} (hg : goodT t) {s : TS} {r : List T0} (h : s.strip = some (brkT t (tokM t) ++ r)) : s.is (opWord 17) = false := by
  unfold brkT at h
  split at h
  · rename_i hc
    cases t with
    | n0 op num name =>
      rcases hg with ⟨rfl, h1, h2, _⟩ | ⟨rfl, _, h2⟩ | ⟨rfl, _, _⟩
      · have h : s.strip = some (⟨Lib.decDigits num.toNat, num⟩ :: r) := h
        rw [is_strip h]
        simp; intro _; exact h1
      · have h : s.strip = some (wT name :: r) := h
        rw [op_is h, decide_eq_false (name_facts h2).2.2.2.2]
      · have h : s.strip = some (wT (opWord 3) :: r) := h
        rw [op_is h]; rfl
    | n1 op num name a =>
      obtain ⟨_, _, hop⟩ := hg
      have : op = 8 ∨ op = 9 ∨ op = 10 := by
        rcases hop with ⟨hop, _⟩ | ⟨hop, _⟩
        · rcases hop with rfl | rfl | rfl | rfl | rfl <;> first | (simp; done) | (exfalso; exact absurd hc (by simp [QT.op, callO, kidsO]))
        · exfalso; rcases hop with rfl | rfl | rfl | rfl | rfl <;> exact absurd hc (by simp [QT.op, callO, kidsO])
      rcases this with rfl | rfl | rfl
      · have h : s.strip = some (wT (opWord 8) :: (wT [40] :: (tokM a ++ [wT [41]]) ++ r)) := h
        rw [op_is h]; rfl
      · have h : s.strip = some (wT (opWord 9) :: (wT [40] :: (tokM a ++ [wT [41]]) ++ r)) := h
        rw [op_is h]; rfl
      · have h : s.strip = some (wT (opWord 10) :: (wT [40] :: (tokM a ++ [wT [41]]) ++ r)) := h
        rw [op_is h]; rfl
    | n2 op num name a b =>
      obtain ⟨_, _, _, _, hop⟩ := hg
      have : op = 20 ∨ op = 21 := by
        rcases hop with rfl | rfl | rfl | rfl | rfl | rfl | rfl | rfl | rfl | rfl | rfl | rfl | rfl <;> first | (simp; done) | (exfalso; exact absurd hc (by simp [QT.op, callO, kidsO]))
      rcases this with rfl | rfl
      · have h : s.strip = some (wT (opWord 20) :: (wT [40] :: (tokM a ++ wT [44] :: (tokM b ++ [wT [41]])) ++ r)) := h
        rw [op_is h]; rfl
      · have h : s.strip = some (wT (opWord 21) :: (wT [40] :: (tokM a ++ wT [44] :: (tokM b ++ [wT [41]])) ++ r)) := h
        rw [op_is h]; rfl
  · have h : s.strip = some (wT [40] :: ((tokM t ++ [wT [41]]) ++ r)) := h
    rw [op_is h]; rfl
/-- ahead of an operation's word: what does not stand there -/
theorem word_no {s : TS} {r : List T0} {w : Nat} (h : s.strip = some (wT (opWord w) :: r)) (lvl : Nat) (hw : (w = 7 ∧ lvl = 5) ∨ ((w = 5 ∨ w = 6) ∧ lvl = 4) ∨ (11 ≤ w ∧ w ≤ 16 ∧ lvl = 3) ∨ (w = 18 ∧ lvl = 2) ∨ (w = 19 ∧ lvl = 1)) : noOp s lvl := by
  have e := fun v => op_is h v
  have hh : ∀ a b : Nat, 3 ≤ a → a ≤ 19 → 3 ≤ b → b ≤ 19 → opWord a = opWord b → a = b ∨ (a = 4 ∧ b = 6) ∨ (a = 6 ∧ b = 4) := by
    have hall : ∀ a ∈ List.range 20, ∀ b ∈ List.range 20, 3 ≤ a → 3 ≤ b → opWord a = opWord b → a = b ∨ (a = 4 ∧ b = 6) ∨ (a = 6 ∧ b = 4) := by decide
    intro a b h1 h2 h3 h4 h5
    exact hall a (List.mem_range.2 (by omega)) b (List.mem_range.2 (by omega)) h1 h3 h5
  have ne : ∀ k : Nat, 3 ≤ k → k ≤ 19 → k ≠ w → k ≠ 4 → s.is (opWord k) = false := fun k h1 h2 h3 h4 => by
    rw [e, decide_eq_false_iff_not]
    intro hc
    rcases hh w k (by omega) (by omega) h1 h2 hc with h | h | h <;> omega
  refine ⟨fun hl => ?_, fun hl => ?_, fun hl => ?_, fun hl => ?_, fun hl => ?_⟩
  · simp [rowOp, ne 7 (by omega) (by omega) (by omega) (by omega)]
  · simp [rowOp, ne 5 (by omega) (by omega) (by omega) (by omega), ne 6 (by omega) (by omega) (by omega) (by omega)]
  · simp [cmpOp, ne 11 (by omega) (by omega) (by omega) (by omega), ne 12 (by omega) (by omega) (by omega) (by omega), ne 13 (by omega) (by omega) (by omega) (by omega), ne 14 (by omega) (by omega) (by omega) (by omega), ne 15 (by omega) (by omega) (by omega) (by omega), ne 16 (by omega) (by omega) (by omega) (by omega)]
  · simp [rowOp, ne 18 (by omega) (by omega) (by omega) (by omega)]
  · simp [rowOp, ne 19 (by omega) (by omega) (by omega) (by omega)]
theorem noOp.mono {s : TS} {a b : Nat} (h : noOp s a) (hab : a ≤ b) : noOp s b :=
  ⟨fun h1 => h.1 (by omega), fun h1 => h.2.1 (by omega), fun h1 => h.2.2.1 (by omega), fun h1 => h.2.2.2.1 (by omega), fun h1 => h.2.2.2.2 (by omega)⟩
/-- from a level with its operation read up to a whole question -/
theorem up0 {s s' : TS} {t : QT} {lvl : Nat} (h : Rds lvl s t s') (hl : lvl ≤ 4) (h0 : s.is (opWord 17) = false) (hn : noOp s' 0) : Rds 0 s t s' := by
  obtain ⟨n4, n3, n2, n1, n0⟩ := hn
  have g3 : ∀ {l : Nat}, l = 4 → Rds l s t s' → Rds 3 s t s' := fun e h => by subst e; exact up_row (by simp) h (n3 (by omega))
  have g2 : Rds 3 s t s' → Rds 2 s t s' := fun h => up_simple h h0 (n2 (by omega))
  have g1 : Rds 2 s t s' → Rds 1 s t s' := fun h => up_row (by simp) h (n1 (by omega))
  have g0 : Rds 1 s t s' → Rds 0 s t s' := fun h => up_row (by simp) h (n0 rfl)
  have : lvl = 0 ∨ lvl = 1 ∨ lvl = 2 ∨ lvl = 3 ∨ lvl = 4 := by omega
  rcases this with rfl | rfl | rfl | rfl | rfl
  · exact h
  · exact g0 h
  · exact g0 (g1 h)
  · exact g0 (g1 (g2 h))
  · exact g0 (g1 (g2 (g3 rfl h)))
/-- at the level 2 ahead of more: 'not' stays -/
theorem up0' {s s' : TS} {t : QT} (h : Rds 2 s t s') (hn : noOp s' 0) : Rds 0 s t s' := up_row (by simp) (up_row (lvl := 1) (by simp) h (hn.2.2.2.1 (by omega))) (hn.2.2.2.2 rfl)
theorem wd_call1 {n k : Nat} {s : TS} (hk : k = 8 ∨ k = 9 ∨ k = 10) : wd (n + 1) k s = (adv s >>= fun s => mustT s [40] >>= fun s => rd n 0 s >>= fun x => mustT x.2 [41] >>= fun s => .ok (.n1 k 0 [] x.1, s)) := by
  rw [wd]
  rcases hk with rfl | rfl | rfl <;> rfl
theorem wd_call2 {n k : Nat} {s : TS} (hk : k = 20 ∨ k = 21) : wd (n + 1) k s = (adv s >>= fun s => mustT s [40] >>= fun s => rd n 0 s >>= fun x => mustT x.2 [44] >>= fun s => rd n 0 s >>= fun y => mustT y.2 [41] >>= fun s => .ok (.n2 k 0 [] x.1 y.1, s)) := by
  rw [wd]
  rcases hk with rfl | rfl <;> rfl
theorem wd_bind {n k : Nat} {t : Tok} {r : TS} {s : TS} (hk : k = 22 ∨ k = 23 ∨ k = 24 ∨ k = 25 ∨ k = 26) (ha : adv s = .ok (.tok t r)) (h1 : t.num < 0) (h2 : qName t.text = true) : wd (n + 1) k s = (adv (.tok t r) >>= fun s => mustT s [58] >>= fun s => rd n 0 s >>= fun x => .ok (.n1 k 0 t.text x.1, x.2)) := by
  have h3 : ¬ (0 ≤ t.num ∨ qName t.text = false) := by rw [h2]; simp; omega
  have e : wd (n + 1) k s = (adv s >>= fun s => match s with
    | .tok t r => if 0 ≤ t.num ∨ qName t.text = false then .error (301, t.at_) else (adv (.tok t r) >>= fun s => mustT s [58] >>= fun s => rd n 0 s >>= fun x => .ok (.n1 k 0 t.text x.1, x.2))
    | s => .error (301, s.pos)) := by
    rw [wd]
    rcases hk with rfl | rfl | rfl | rfl | rfl <;> rfl
  rw [e, ha]
  exact if_neg h3
theorem call1 {k : Nat} {a : QT} (hk : k = 8 ∨ k = 9 ∨ k = 10) (ih : QuestP a) (s : TS) (r : List T0) (h : s.strip = some (wT (opWord k) :: wT [40] :: (tokM a ++ wT [41] :: r))) : ∃ s', Rds 5 s (.n1 k 0 [] a) s' ∧ s'.strip = some r := by
  obtain ⟨_, s1, rfl, _, _, h3, h4⟩ := strip_cons h
  obtain ⟨s2, g2, g3⟩ := must_ok h3
  obtain ⟨s3, ⟨N, hr⟩, g4⟩ := ih s2 _ g3 (.inr ⟨r, .inl rfl⟩)
  obtain ⟨s4, g5, g6⟩ := must_ok g4
  refine ⟨s4, f_word (by rcases hk with rfl | rfl | rfl <;> rfl) h ⟨N + 1, fun n hN => ?_⟩, g6⟩
  obtain ⟨m, rfl⟩ : ∃ m, n = m + 1 := ⟨n - 1, by omega⟩
  rw [wd_call1 hk, h4]
  show (mustT s1 [40] >>= fun s => _) = _
  rw [g2]
  show (rd m 0 s2 >>= fun x => _) = _
  rw [hr m (by omega)]
  show (mustT s3 [41] >>= fun s => _) = _
  rw [g5]; rfl
theorem call2 {k : Nat} {a b : QT} (hk : k = 20 ∨ k = 21) (iha : QuestP a) (ihb : QuestP b) (s : TS) (r : List T0) (h : s.strip = some (wT (opWord k) :: wT [40] :: (tokM a ++ wT [44] :: (tokM b ++ wT [41] :: r)))) : ∃ s', Rds 5 s (.n2 k 0 [] a b) s' ∧ s'.strip = some r := by
  obtain ⟨_, s1, rfl, _, _, h3, h4⟩ := strip_cons h
  obtain ⟨s2, g2, g3⟩ := must_ok h3
  obtain ⟨s3, ⟨N, hr⟩, g4⟩ := iha s2 _ g3 (.inr ⟨_, .inr rfl⟩)
  obtain ⟨s4, g5, g6⟩ := must_ok g4
  obtain ⟨s5, ⟨M, hr2⟩, g7⟩ := ihb s4 _ g6 (.inr ⟨r, .inl rfl⟩)
  obtain ⟨s6, g8, g9⟩ := must_ok g7
  refine ⟨s6, f_word (by rcases hk with rfl | rfl <;> rfl) h ⟨N + M + 1, fun n hN => ?_⟩, g9⟩
  obtain ⟨m, rfl⟩ : ∃ m, n = m + 1 := ⟨n - 1, by omega⟩
  rw [wd_call2 hk, h4]
  show (mustT s1 [40] >>= fun s => _) = _
  rw [g2]
  show (rd m 0 s2 >>= fun x => _) = _
  rw [hr m (by omega)]
  show (mustT s3 [44] >>= fun s => _) = _
  rw [g5]
  show (rd m 0 s4 >>= fun x => _) = _
  rw [hr2 m (by omega)]
  show (mustT s5 [41] >>= fun s => _) = _
  rw [g8]; rfl
theorem bind1 {k : Nat} {a : QT} {name : List UInt8} (hk : k = 22 ∨ k = 23 ∨ k = 24 ∨ k = 25 ∨ k = 26) (hn : qName name = true) (ih : QuestP a) (s : TS) (r : List T0) (hr : endR r) (h : s.strip = some (wT (opWord k) :: wT name :: wT [58] :: (tokM a ++ r))) : ∃ s', Rds 5 s (.n1 k 0 name a) s' ∧ s'.strip = some r := by
  obtain ⟨_, s1, rfl, _, _, h3, h4⟩ := strip_cons h
  obtain ⟨u, s2, rfl, k1, k2, k3, k4⟩ := strip_cons h3
  have k1 : u.text = name := k1
  have k2 : u.num = -1 := k2
  obtain ⟨s3, g2, g3⟩ := must_ok k3
  obtain ⟨s4, ⟨N, hrr⟩, g4⟩ := ih s3 _ g3 hr
  refine ⟨s4, f_word (by rcases hk with rfl | rfl | rfl | rfl | rfl <;> rfl) h ⟨N + 1, fun n hN => ?_⟩, g4⟩
  obtain ⟨m, rfl⟩ : ∃ m, n = m + 1 := ⟨n - 1, by omega⟩
  rw [wd_bind hk h4 (by omega) (by rw [k1]; exact hn), k4]
  show (mustT s2 [58] >>= fun s => _) = _
  rw [g2]
  show (rd m 0 s3 >>= fun x => _) = _
  rw [hrr m (by omega), k1]; rfl
theorem rowOp_word {s : TS} {r : List T0} {w lvl : Nat} (h : s.strip = some (wT (opWord w) :: r)) (hw : (w = 7 ∧ lvl = 4) ∨ ((w = 5 ∨ w = 6) ∧ lvl = 3) ∨ (w = 18 ∧ lvl = 1) ∨ (w = 19 ∧ lvl = 0)) : rowOp lvl s = some (w : Int) := by
  have e := fun v => op_is h v
  rcases hw with ⟨rfl, rfl⟩ | ⟨rfl | rfl, rfl⟩ | ⟨rfl, rfl⟩ | ⟨rfl, rfl⟩ <;> (simp only [rowOp, e]; rfl)
theorem cmpOp_word {s : TS} {r : List T0} {w : Nat} (h : s.strip = some (wT (opWord w) :: r)) (hw : 11 ≤ w ∧ w ≤ 16) : cmpOp s = some w := by
  have e := fun v => op_is h v
  have : w = 11 ∨ w = 12 ∨ w = 13 ∨ w = 14 ∨ w = 15 ∨ w = 16 := by omega
  rcases this with rfl | rfl | rfl | rfl | rfl | rfl <;> (simp only [cmpOp, e]; rfl)
/-- what was printed is read -/
theorem rd_told : ∀ t : QT, goodT t → FactP t ∧ QuestP t
  | .n0 op num name, hg => by
    have hf : FactP (.n0 op num name) := by
      intro s r h
      rcases hg with ⟨rfl, h1, h2, rfl⟩ | ⟨rfl, rfl, h2⟩ | ⟨rfl, rfl, rfl⟩
      · exact f_number h1 (w := Lib.decDigits num.toNat) h
      · exact f_name h2 h
      · obtain ⟨_, s1, rfl, _, _, h3, h4⟩ := strip_cons (x := wT (opWord 3)) h
        refine ⟨s1, f_word (k := 3) rfl h ⟨1, fun n hN => ?_⟩, h3⟩
        obtain ⟨m, rfl⟩ : ∃ m, n = m + 1 := ⟨n - 1, by omega⟩
        rw [wd, if_pos rfl, h4]; rfl
    refine ⟨hf, fun s r h hr => ?_⟩
    have hb : brkT (.n0 op num name) (tokM (.n0 op num name)) = tokM (.n0 op num name) := by
      unfold brkT; rw [if_pos]
      rcases hg with ⟨rfl, _⟩ | ⟨rfl, _⟩ | ⟨rfl, _⟩ <;> exact .inr rfl
    rw [← hb] at h
    obtain ⟨s', h1, h2⟩ := hf s r h
    exact ⟨s', up h1 (brkT_head hg h) 0 (by omega) (end_no h2 hr), h2⟩
  | .n1 op num name a, ⟨hnum, ha, hop⟩ => by
    subst hnum
    have hg : goodT (.n1 op 0 name a) := ⟨rfl, ha, hop⟩
    obtain ⟨fa, qa⟩ := rd_told a ha
    -- of what is no call: the question makes the factor
    have viaQ : (callO op.toNat = true ∨ kidsO op.toNat = 0) = False → QuestP (.n1 op 0 name a) → FactP (.n1 op 0 name a) ∧ QuestP (.n1 op 0 name a) := by
      intro hc hq
      refine ⟨fun s r h => ?_, hq⟩
      unfold brkT at h
      rw [if_neg (by show ¬ (callO op.toNat = true ∨ kidsO op.toNat = 0); rw [hc]; exact id)] at h
      exact f_paren (l := tokM (.n1 op 0 name a)) (by rw [h]; simp) hq
    rcases hop with ⟨hop, rfl⟩ | ⟨hop, hn⟩
    · have call : ∀ k : Nat, k = 8 ∨ k = 9 ∨ k = 10 → op = k → FactP (.n1 op 0 [] a) ∧ QuestP (.n1 op 0 [] a) := by
        rintro k hk rfl
        have e1 : tokM (.n1 (k : Int) 0 [] a) = wT (opWord k) :: wT [40] :: (tokM a ++ [wT [41]]) := by rcases hk with rfl | rfl | rfl <;> rfl
        have hb : brkT (.n1 (k : Int) 0 [] a) (tokM (.n1 (k : Int) 0 [] a)) = tokM (.n1 (k : Int) 0 [] a) := by
          unfold brkT; rw [if_pos]; rcases hk with rfl | rfl | rfl <;> exact .inl rfl
        have hf : FactP (.n1 (k : Int) 0 [] a) := fun s r h => call1 hk qa s r (by rw [hb, e1] at h; rw [h]; simp)
        refine ⟨hf, fun s r h hr => ?_⟩
        rw [← hb] at h
        obtain ⟨s', h1, h2⟩ := hf s r h
        exact ⟨s', up h1 (brkT_head hg h) 0 (by omega) (end_no h2 hr), h2⟩
      rcases hop with h4 | h8 | h9 | h10 | h17
      · subst h4
        refine viaQ (by simp [callO, kidsO]) (fun s r h hr => ?_)
        have h : s.strip = some (wT (opWord 4) :: (brkT a (tokM a) ++ r)) := h
        obtain ⟨u, s1, rfl, k1, k2, h3, h4⟩ := strip_cons h
        obtain ⟨s2, ⟨N, g1⟩, g2⟩ := fa s1 r h3
        refine ⟨s2, up ⟨N + 1, fun n hN => ?_⟩ (by rw [op_is h]; rfl) 0 (by omega) (end_no g2 hr), g2⟩
        obtain ⟨m, rfl⟩ : ∃ m, n = m + 1 := ⟨n - 1, by omega⟩
        rw [rd5, if_neg (by rw [k2]; show ¬ (0:Int) ≤ -1; decide), op_is h, decide_eq_true rfl, if_pos rfl, h4]
        show (rd m 5 s1 >>= fun x => _) = _
        rw [g1 m (by omega)]; rfl
      · exact call 8 (by simp) h8
      · exact call 9 (by simp) h9
      · exact call 10 (by simp) h10
      · subst h17
        refine viaQ (by simp [callO, kidsO]) (fun s r h hr => ?_)
        have h : s.strip = some (wT (opWord 17) :: (brkT a (tokM a) ++ r)) := h
        obtain ⟨u, s1, rfl, k1, k2, h3, h4⟩ := strip_cons h
        obtain ⟨s2, g1, g2⟩ := fa s1 r h3
        have hno := end_no g2 hr
        obtain ⟨N, g3⟩ := up g1 (brkT_head ha h3) 2 (by omega) (hno.mono (by omega))
        refine ⟨s2, up0' ⟨N + 1, fun n hN => ?_⟩ hno, g2⟩
        obtain ⟨m, rfl⟩ : ∃ m, n = m + 1 := ⟨n - 1, by omega⟩
        rw [rd2, op_is h, decide_eq_true rfl, if_pos rfl, h4]
        show (rd m 2 s1 >>= fun x => _) = _
        rw [g3 m (by omega)]; rfl
    · obtain ⟨w, hw, rfl⟩ : ∃ w : Nat, (w = 22 ∨ w = 23 ∨ w = 24 ∨ w = 25 ∨ w = 26) ∧ op = w := by
        rcases hop with rfl | rfl | rfl | rfl | rfl
        · exact ⟨22, by simp, rfl⟩
        · exact ⟨23, by simp, rfl⟩
        · exact ⟨24, by simp, rfl⟩
        · exact ⟨25, by simp, rfl⟩
        · exact ⟨26, by simp, rfl⟩
      refine viaQ (by rcases hw with rfl | rfl | rfl | rfl | rfl <;> simp [callO, kidsO]) (fun s r h hr => ?_)
      have e1 : tokM (.n1 (w : Int) 0 name a) = wT (opWord w) :: wT name :: wT [58] :: tokM a := by rcases hw with rfl | rfl | rfl | rfl | rfl <;> rfl
      rw [e1] at h
      have h : s.strip = some (wT (opWord w) :: wT name :: wT [58] :: (tokM a ++ r)) := h
      obtain ⟨s', h1, h2⟩ := bind1 hw hn qa s r hr h
      exact ⟨s', up h1 (by rw [op_is h]; rcases hw with rfl | rfl | rfl | rfl | rfl <;> rfl) 0 (by omega) (end_no h2 hr), h2⟩
  | .n2 op num name a b, ⟨hnum, ha, hb, hname, hop⟩ => by
    subst hnum hname
    have hg : goodT (.n2 op 0 [] a b) := ⟨rfl, ha, hb, rfl, hop⟩
    obtain ⟨fa, qa⟩ := rd_told a ha
    obtain ⟨fb, qb⟩ := rd_told b hb
    have call : ∀ k : Nat, k = 20 ∨ k = 21 → op = k → FactP (.n2 op 0 [] a b) ∧ QuestP (.n2 op 0 [] a b) := by
      rintro k hk rfl
      have e1 : tokM (.n2 (k : Int) 0 [] a b) = wT (opWord k) :: wT [40] :: (tokM a ++ wT [44] :: (tokM b ++ [wT [41]])) := by rcases hk with rfl | rfl <;> rfl
      have hb : brkT (.n2 (k : Int) 0 [] a b) (tokM (.n2 (k : Int) 0 [] a b)) = tokM (.n2 (k : Int) 0 [] a b) := by
        unfold brkT; rw [if_pos]; rcases hk with rfl | rfl <;> exact .inl rfl
      have hf : FactP (.n2 (k : Int) 0 [] a b) := fun s r h => call2 hk qa qb s r (by rw [hb, e1] at h; rw [h]; simp)
      refine ⟨hf, fun s r h hr => ?_⟩
      rw [← hb] at h
      obtain ⟨s', h1, h2⟩ := hf s r h
      exact ⟨s', up h1 (brkT_head hg h) 0 (by omega) (end_no h2 hr), h2⟩
    have viaQ : (callO op.toNat = true ∨ kidsO op.toNat = 0) = False → QuestP (.n2 op 0 [] a b) → FactP (.n2 op 0 [] a b) ∧ QuestP (.n2 op 0 [] a b) := by
      intro hc hq
      refine ⟨fun s r h => ?_, hq⟩
      unfold brkT at h
      rw [if_neg (by show ¬ (callO op.toNat = true ∨ kidsO op.toNat = 0); rw [hc]; exact id)] at h
      exact f_paren (l := tokM (.n2 op 0 [] a b)) (by rw [h]; simp) hq
    have row : ∀ w lvl : Nat, (w = 7 ∧ lvl = 4) ∨ ((w = 5 ∨ w = 6) ∧ lvl = 3) ∨ (w = 18 ∧ lvl = 1) ∨ (w = 19 ∧ lvl = 0) → op = w → FactP (.n2 op 0 [] a b) ∧ QuestP (.n2 op 0 [] a b) := by
      rintro w lvl hw rfl
      refine viaQ (by rcases hw with ⟨rfl, rfl⟩ | ⟨rfl | rfl, rfl⟩ | ⟨rfl, rfl⟩ | ⟨rfl, rfl⟩ <;> simp [callO, kidsO]) (fun s r h hr => ?_)
      have e1 : tokM (.n2 (w : Int) 0 [] a b) = brkT a (tokM a) ++ wT (opWord w) :: brkT b (tokM b) := by rcases hw with ⟨rfl, rfl⟩ | ⟨rfl | rfl, rfl⟩ | ⟨rfl, rfl⟩ | ⟨rfl, rfl⟩ <;> rfl
      rw [e1, List.append_assoc] at h
      have h : s.strip = some (brkT a (tokM a) ++ (wT (opWord w) :: (brkT b (tokM b) ++ r))) := h
      obtain ⟨s1, h1, h2⟩ := fa s _ h
      obtain ⟨_, s2, _, _, _, h3, h4⟩ := strip_cons h2
      obtain ⟨s3, h5, h6⟩ := fb s2 r h3
      have hno := end_no h6 hr
      have hsub : subLvl lvl = lvl + 1 ∧ lvl ≤ 4 := by rcases hw with ⟨rfl, rfl⟩ | ⟨rfl | rfl, rfl⟩ | ⟨rfl, rfl⟩ | ⟨rfl, rfl⟩ <;> exact ⟨rfl, by omega⟩
      have hl4 : lvl = 0 ∨ lvl = 1 ∨ lvl = 3 ∨ lvl = 4 := by omega
      have hn0 : rowOp lvl s3 = none := by
        rcases hl4 with rfl | rfl | rfl | rfl
        · exact hno.2.2.2.2 rfl
        · exact hno.2.2.2.1 (by omega)
        · exact hno.2.1 (by omega)
        · exact hno.1 (by omega)
      have g := row1 hl4 (by rw [hsub.1]; exact up h1 (brkT_head ha h) (lvl + 1) (by omega) (word_no h2 (lvl + 1) (by omega))) (rowOp_word h2 hw) h4 (by rw [hsub.1]; exact up h5 (brkT_head hb h3) (lvl + 1) (by omega) (hno.mono (by omega))) hn0
      exact ⟨s3, up0 g hsub.2 (brkT_head ha h) hno, h6⟩
    have cmp : ∀ w : Nat, 11 ≤ w ∧ w ≤ 16 → op = w → FactP (.n2 op 0 [] a b) ∧ QuestP (.n2 op 0 [] a b) := by
      rintro w hw rfl
      have hw6 : w = 11 ∨ w = 12 ∨ w = 13 ∨ w = 14 ∨ w = 15 ∨ w = 16 := by omega
      refine viaQ (by rcases hw6 with rfl | rfl | rfl | rfl | rfl | rfl <;> simp [callO, kidsO]) (fun s r h hr => ?_)
      have e1 : tokM (.n2 (w : Int) 0 [] a b) = brkT a (tokM a) ++ wT (opWord w) :: brkT b (tokM b) := by rcases hw6 with rfl | rfl | rfl | rfl | rfl | rfl <;> rfl
      rw [e1, List.append_assoc] at h
      have h : s.strip = some (brkT a (tokM a) ++ (wT (opWord w) :: (brkT b (tokM b) ++ r))) := h
      obtain ⟨s1, h1, h2⟩ := fa s _ h
      obtain ⟨_, s2, _, _, _, h3, h4⟩ := strip_cons h2
      obtain ⟨s3, h5, h6⟩ := fb s2 r h3
      have hno := end_no h6 hr
      have g := cmp1 (brkT_head ha h) (up h1 (brkT_head ha h) 3 (by omega) (word_no h2 3 (by omega))) (cmpOp_word h2 hw) h4 (up h5 (brkT_head hb h3) 3 (by omega) (hno.mono (by omega)))
      exact ⟨s3, up0 g (by omega) (brkT_head ha h) hno, h6⟩
    rcases hop with h | h | h | h | h | h | h | h | h | h | h | h | h
    · exact row 5 3 (by omega) h
    · exact row 6 3 (by omega) h
    · exact row 7 4 (by omega) h
    · exact cmp 11 (by omega) h
    · exact cmp 12 (by omega) h
    · exact cmp 13 (by omega) h
    · exact cmp 14 (by omega) h
    · exact cmp 15 (by omega) h
    · exact cmp 16 (by omega) h
    · exact row 18 1 (by omega) h
    · exact row 19 0 (by omega) h
    · exact call 20 (by omega) h
    · exact call 21 (by omega) h
end Go.Vc
