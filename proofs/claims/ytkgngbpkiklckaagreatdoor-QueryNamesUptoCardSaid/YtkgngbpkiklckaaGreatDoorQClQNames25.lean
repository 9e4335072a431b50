/- Query: what was printed is read as that tree, in plain Lean (no program in sight). -/
import Derived.Test.YtkgngbpkiklckaaGreatDoorQClQNames24
import Derived.Test.YtkgngbpkiklckaaGreatDoorQClQNames16
namespace Go.Vc
open Go
/-- from some fuel on -/
def Rds (lvl : Nat) (s : TS) (t : QT) (s' : TS) : Prop := ∃ N, ∀ n, N ≤ n → rd n lvl s = .ok (t, s')
/-- what may stand behind a whole question -/
def endR (r : List T0) : Prop := r = [] ∨ ∃ r', r = wT [41] :: r' ∨ r = wT [44] :: r'
/-- no operation of a row, of a comparison stands there -/
def noOp (s : TS) (lvl : Nat) : Prop := (lvl ≤ 4 → rowOp 4 s = none) ∧ (lvl ≤ 3 → rowOp 3 s = none) ∧ (lvl ≤ 2 → cmpOp s = none) ∧ (lvl ≤ 1 → rowOp 1 s = none) ∧ (lvl = 0 → rowOp 0 s = none)
/-- a factor is a product, a sum, .. as far as the level goes -/
theorem up_row {lvl : Nat} {s s' : TS} {t : QT} (hl : lvl = 0 ∨ lvl = 1 ∨ lvl = 3 ∨ lvl = 4) (h : Rds (subLvl lvl) s t s') (hn : rowOp lvl s' = none) : Rds lvl s t s' := by
  obtain ⟨N, h⟩ := h
  refine ⟨N + 2, fun n hN => ?_⟩
  obtain ⟨m, rfl⟩ : ∃ m, n = m + 2 := ⟨n - 2, by omega⟩
  have h1 := h (m + 1) (by omega)
  have e : rd (m + 2) lvl s = (rd (m + 1) (subLvl lvl) s >>= fun x => rw (m + 1) lvl x.1 x.2) := by
    rcases hl with rfl | rfl | rfl | rfl <;> rfl
  rw [e, h1]
  show rw (m + 1) lvl t s' = _
  rw [rw, hn]
theorem rd2 (n : Nat) (s : TS) : rd (n + 1) 2 s = if s.is (opWord 17) then (adv s >>= fun s => rd n 2 s >>= fun x => .ok (.n1 17 0 [] x.1, x.2)) else (rd n 3 s >>= fun x => match cmpOp x.2 with
    | some op => adv x.2 >>= fun s => rd n 3 s >>= fun y => .ok (.n2 op 0 [] x.1 y.1, y.2)
    | none => .ok x) := by
  rw [rd]
  split
  · rfl
  · congr 1
theorem up_simple {s s' : TS} {t : QT} (h : Rds 3 s t s') (h0 : s.is (opWord 17) = false) (hn : cmpOp s' = none) : Rds 2 s t s' := by
  obtain ⟨N, h⟩ := h
  refine ⟨N + 1, fun n hN => ?_⟩
  obtain ⟨m, rfl⟩ : ∃ m, n = m + 1 := ⟨n - 1, by omega⟩
  rw [rd2, h0, if_neg (by simp), h m (by omega)]
  show (match cmpOp s' with | some op => _ | none => _) = _
  rw [hn]
theorem up {s s' : TS} {t : QT} (h : Rds 5 s t s') (h0 : s.is (opWord 17) = false) (lvl : Nat) (hl : lvl ≤ 5) (hn : noOp s' lvl) : Rds lvl s t s' := by
  obtain ⟨n4, n3, n2, n1, n0⟩ := hn
  rcases Nat.lt_or_ge 4 lvl with h5 | h4
  · rw [show lvl = 5 by omega]; exact h
  have g4 : Rds 4 s t s' := up_row (by simp) h (n4 h4)
  rcases Nat.lt_or_ge 3 lvl with h5 | h3
  · rw [show lvl = 4 by omega]; exact g4
  have g3 : Rds 3 s t s' := up_row (by simp) g4 (n3 h3)
  rcases Nat.lt_or_ge 2 lvl with h5 | h2
  · rw [show lvl = 3 by omega]; exact g3
  have g2 : Rds 2 s t s' := up_simple g3 h0 (n2 h2)
  rcases Nat.lt_or_ge 1 lvl with h5 | h1
  · rw [show lvl = 2 by omega]; exact g2
  have g1 : Rds 1 s t s' := up_row (by simp) g2 (n1 h1)
  rcases Nat.lt_or_ge 0 lvl with h5 | h00
  · rw [show lvl = 1 by omega]; exact g1
  rw [show lvl = 0 by omega]
  exact up_row (by simp) g1 (n0 (by omega))
theorem rd5 (n : Nat) {t : Tok} {r : TS} : rd (n + 1) 5 (.tok t r) = if 0 ≤ t.num then (adv (.tok t r) >>= fun s => .ok (.n0 1 t.num [], s))
    else if (TS.tok t r).is (opWord 4) then (adv (.tok t r) >>= fun s => rd n 5 s >>= fun x => .ok (.n1 4 0 [] x.1, x.2))
    else if (TS.tok t r).is [40] then (adv (.tok t r) >>= fun s => rd n 0 s >>= fun x => mustT x.2 [41] >>= fun s => .ok (x.1, s))
    else match kindOf t.text with
      | some k => adv (.tok t r) >>= fun s => .ok (.n0 1 k [], s)
      | none => if opOf t.text ≠ 0 then wd n (opOf t.text) (.tok t r) else if qName t.text then (adv (.tok t r) >>= fun s => .ok (.n0 2 0 t.text, s)) else .error (301, t.at_) := by
  rw [rd] <;> first | rfl | (intro h; cases h)
end Go.Vc
/- Query: there and back, in plain Lean (no program in sight). -/
namespace Go.Vc
open Go
/-- what is read of a kid -/
def FactP (t : QT) : Prop := ∀ s r, s.strip = some (brkT t (tokM t) ++ r) → ∃ s', Rds 5 s t s' ∧ s'.strip = some r
def QuestP (t : QT) : Prop := ∀ s r, s.strip = some (tokM t ++ r) → endR r → ∃ s', Rds 0 s t s' ∧ s'.strip = some r
theorem noOp.mono {s : TS} {a b : Nat} (h : noOp s a) (hab : a ≤ b) : noOp s b :=
  ⟨fun h1 => h.1 (by omega), fun h1 => h.2.1 (by omega), fun h1 => h.2.2.1 (by omega), fun h1 => h.2.2.2.1 (by omega), fun h1 => h.2.2.2.2 (by omega)⟩
end Go.Vc
/- Query: there and back, joined, in plain Lean (no program in sight). -/
namespace Go.Vc
open Go
/-- no token's number is too great -/
def okNum : TS → Prop
  | .tok t r => t.num ≤ 9223372036854775807 ∧ okNum r
  | _ => True
theorem numAcc_le : ∀ (l : List UInt8) (n u : Nat), (l.all digitB = true) → n ≤ 9223372036854775807 → numAcc n l = some u → u ≤ 9223372036854775807
  | [], n, u, _, h, e => by simp [numAcc] at e; omega
  | c :: l, n, u, ha, h, e => by
    simp only [List.all_cons, Bool.and_eq_true] at ha
    have hc : 48 ≤ c.toNat ∧ c.toNat ≤ 57 := by
      have := ha.1
      unfold digitB at this
      simp only [Bool.and_eq_true, decide_eq_true_eq, UInt8.le_iff_toNat_le] at this
      simpa using this
    rw [numAcc] at e
    split at e
    · exact numAcc_le l _ u ha.2 (by omega) e
    · cases e
theorem all_tw {f : UInt8 → Bool} : ∀ {l : List UInt8}, (l.takeWhile f).all f = true
  | [] => rfl
  | c :: l => by
    rw [List.takeWhile_cons]
    cases hc : f c with
    | false => rfl
    | true => simp only [if_true, List.all_cons, hc, Bool.true_and]; exact all_tw
theorem tok1_num {i : Nat} {l : List UInt8} {t : Tok} (h : tok1 i l = some t) : t.num ≤ 9223372036854775807 := by
  cases l with
  | nil => simp [tok1] at h; subst h; show (-1 : Int) ≤ _; decide
  | cons c r =>
    simp only [tok1] at h
    split at h
    · cases h; show (-1 : Int) ≤ _; decide
    · split at h
      · rename_i hd
        simp only [Option.map_eq_some_iff] at h
        obtain ⟨n, h1, rfl⟩ := h
        have := numAcc_le (c :: r.takeWhile digitB) 0 n (by
          rw [List.all_cons, hd, Bool.true_and]; exact all_tw) (by omega) h1
        show (n : Int) ≤ _; omega
      · split at h
        · cases h
        · cases h; show (-1 : Int) ≤ _; decide
theorem lexF_okNum : ∀ (f i : Nat) (l : List UInt8), okNum (lexF f i l)
  | 0, _, _ => trivial
  | f + 1, i, l => by
    rw [lexF]
    split
    · trivial
    · split
      · trivial
      · rename_i h; exact ⟨tok1_num h, lexF_okNum f _ _⟩
theorem adv_okNum {s s' : TS} (h : adv s = .ok s') (hs : okNum s) : okNum s' := by
  unfold adv at h
  split at h
  · cases h
  · cases h; exact hs.2
  · cases h; exact hs
theorem mustT_okNum {s s' : TS} {w : List UInt8} (h : mustT s w = .ok s') (hs : okNum s) : okNum s' := by
  unfold mustT at h
  split at h
  · exact adv_okNum h hs
  · cases h
theorem good_row {a b : QT} {lvl : Nat} {op : Int} {s : TS} (ha : goodT a) (hb : goodT b) (h : rowOp lvl s = some op) : goodT (.n2 op 0 [] a b) := by
  refine ⟨rfl, ha, hb, rfl, ?_⟩
  unfold rowOp at h
  split at h <;> (repeat' split at h) <;> cases h <;> simp
/-- what is read is a tree that may be -/
theorem rd_good : ∀ n : Nat, (∀ lvl s t s', okNum s → rd n lvl s = .ok (t, s') → goodT t ∧ okNum s') ∧ (∀ lvl u s t s', okNum s → goodT u → rw n lvl u s = .ok (t, s') → goodT t ∧ okNum s') ∧ (∀ op s t s', okNum s → wd n op s = .ok (t, s') → goodT t ∧ okNum s')
  | 0 => ⟨fun _ _ _ _ _ h => by simp [rd] at h, fun _ _ _ _ _ _ _ h => by simp [rw] at h, fun _ _ _ _ _ h => by simp [wd] at h⟩
  | n + 1 => by
    obtain ⟨ih1, ih2, ih3⟩ := rd_good n
    have hrow : ∀ lvl s t s', okNum s → (do let (t, s) ← rd n (subLvl lvl) s; rw n lvl t s) = (.ok (t, s') : PR) → goodT t ∧ okNum s' := by
      intro lvl s t s' hs h
      obtain ⟨⟨t1, s1⟩, h1, h2⟩ := bind_ok h
      obtain ⟨g1, g2⟩ := ih1 _ _ _ _ hs h1
      exact ih2 _ _ _ _ _ g2 g1 h2
    refine ⟨fun lvl s t s' hs h => ?_, fun lvl u s t s' hs hu h => ?_, fun op s t s' hs h => ?_⟩
    · unfold rd at h
      split at h
      · split at h
        · obtain ⟨s1, h1, h⟩ := bind_ok h
          obtain ⟨⟨t1, s2⟩, h2, h⟩ := bind_ok h
          cases h
          obtain ⟨g1, g2⟩ := ih1 _ _ _ _ (adv_okNum h1 hs) h2
          exact ⟨⟨rfl, g1, .inl ⟨by simp, rfl⟩⟩, g2⟩
        · obtain ⟨⟨t1, s1⟩, h1, h⟩ := bind_ok h
          obtain ⟨g1, g2⟩ := ih1 _ _ _ _ hs h1
          dsimp only at h
          split at h
          · rename_i op hop
            obtain ⟨s2, h2, h⟩ := bind_ok h
            obtain ⟨⟨t2, s3⟩, h3, h⟩ := bind_ok h
            cases h
            obtain ⟨g3, g4⟩ := ih1 _ _ _ _ (adv_okNum h2 g2) h3
            have hm := List.mem_of_find?_eq_some hop
            refine ⟨⟨rfl, g1, g3, rfl, ?_⟩, g4⟩
            simp only [List.mem_cons, List.not_mem_nil, or_false] at hm
            rcases hm with rfl | rfl | rfl | rfl | rfl | rfl <;> simp
          · cases h; exact ⟨g1, g2⟩
      · exact hrow _ _ _ _ hs h
      · exact hrow _ _ _ _ hs h
      · exact hrow _ _ _ _ hs h
      · exact hrow _ _ _ _ hs h
      · split at h
        · rename_i t0 r
          split at h
          · rename_i h0
            obtain ⟨s1, h1, h⟩ := bind_ok h
            cases h
            exact ⟨.inl ⟨rfl, h0, hs.1, rfl⟩, adv_okNum h1 hs⟩
          · split at h
            · obtain ⟨s1, h1, h⟩ := bind_ok h
              obtain ⟨⟨t2, s2⟩, h2, h⟩ := bind_ok h
              cases h
              obtain ⟨g1, g2⟩ := ih1 _ _ _ _ (adv_okNum h1 hs) h2
              exact ⟨⟨rfl, g1, .inl ⟨by simp, rfl⟩⟩, g2⟩
            · split at h
              · obtain ⟨s1, h1, h⟩ := bind_ok h
                obtain ⟨⟨t2, s2⟩, h2, h⟩ := bind_ok h
                obtain ⟨s3, h3, h⟩ := bind_ok h
                cases h
                obtain ⟨g1, g2⟩ := ih1 _ _ _ _ (adv_okNum h1 hs) h2
                exact ⟨g1, mustT_okNum h3 g2⟩
              · split at h
                · rename_i k hk
                  obtain ⟨s1, h1, h⟩ := bind_ok h
                  cases h
                  refine ⟨.inl ⟨rfl, by omega, ?_, rfl⟩, adv_okNum h1 hs⟩
                  unfold kindOf at hk
                  simp only [Option.map_eq_some_iff] at hk
                  obtain ⟨i, hi, rfl⟩ := hk
                  have := (List.findIdx?_eq_some_iff_findIdx_eq.1 hi).1
                  have e : kindWords.length = 11 := rfl
                  omega
                · split at h
                  · exact ih3 _ _ _ _ hs h
                  · split at h
                    · rename_i hn
                      obtain ⟨s1, h1, h⟩ := bind_ok h
                      cases h
                      exact ⟨.inr (.inl ⟨rfl, rfl, hn⟩), adv_okNum h1 hs⟩
                    · cases h
        · cases h
    · unfold rw at h
      split at h
      · cases h; exact ⟨hu, hs⟩
      · rename_i op hop
        obtain ⟨s1, h1, h⟩ := bind_ok h
        obtain ⟨⟨t2, s2⟩, h2, h⟩ := bind_ok h
        obtain ⟨g1, g2⟩ := ih1 _ _ _ _ (adv_okNum h1 hs) h2
        exact ih2 _ _ _ _ _ g2 (good_row hu g1 hop) h
    · unfold wd at h
      split at h
      · obtain ⟨s1, h1, h⟩ := bind_ok h
        cases h
        exact ⟨.inr (.inr ⟨rfl, rfl, rfl⟩), adv_okNum h1 hs⟩
      · split at h
        · rename_i hbi
          obtain ⟨s1, h1, h⟩ := bind_ok h
          split at h
          · rename_i t0 r
            split at h
            · cases h
            · rename_i hnn
              obtain ⟨s2, h2, h⟩ := bind_ok h
              obtain ⟨s3, h3, h⟩ := bind_ok h
              obtain ⟨⟨t4, s4⟩, h4, h⟩ := bind_ok h
              cases h
              obtain ⟨g1, g2⟩ := ih1 _ _ _ _ (mustT_okNum h3 (adv_okNum h2 (adv_okNum h1 hs))) h4
              refine ⟨⟨rfl, g1, .inr ⟨?_, ?_⟩⟩, g2⟩
              · simp only [bindsO, Bool.and_eq_true, decide_eq_true_eq] at hbi; omega
              · cases hq : qName t0.text with
                | true => rfl
                | false => exact absurd (.inr hq) hnn
          · cases h
        · split at h
          · rename_i hca
            have hc5 : op = 8 ∨ op = 9 ∨ op = 10 ∨ op = 20 ∨ op = 21 := by simpa [callO, or_assoc] using hca
            obtain ⟨s1, h1, h⟩ := bind_ok h
            obtain ⟨s2, h2, h⟩ := bind_ok h
            obtain ⟨⟨t3, s3⟩, h3, h⟩ := bind_ok h
            obtain ⟨g1, g2⟩ := ih1 _ _ _ _ (mustT_okNum h2 (adv_okNum h1 hs)) h3
            dsimp only at h
            split at h
            · rename_i hk
              obtain ⟨s4, h4, h⟩ := bind_ok h
              cases h
              refine ⟨⟨rfl, g1, .inl ⟨?_, rfl⟩⟩, mustT_okNum h4 g2⟩
              rcases hc5 with rfl | rfl | rfl | rfl | rfl <;> first | (simp; done) | exact absurd hk (by decide)
            · rename_i hk
              obtain ⟨s4, h4, h⟩ := bind_ok h
              obtain ⟨⟨t5, s5⟩, h5, h⟩ := bind_ok h
              dsimp only at h
              obtain ⟨s6, h6, h⟩ := bind_ok h
              cases h
              obtain ⟨g3, g4⟩ := ih1 _ _ _ _ (mustT_okNum h4 g2) h5
              refine ⟨⟨rfl, g1, g3, rfl, ?_⟩, mustT_okNum h6 g4⟩
              rcases hc5 with rfl | rfl | rfl | rfl | rfl <;> first | (simp; done) | exact absurd (by decide) hk
          · cases h
theorem parse_good {l : List UInt8} {t : QT} (h : parseM l = .ok t) : goodT t ∧ t.depth ≤ 64 ∧ t.size ≤ l.length := by
  unfold parseM at h
  split at h
  · cases h
  · have hlen := lex_len (txt := l) l.length 0 (by omega) (by omega)
    split at h
    · cases h
    · obtain ⟨⟨t1, s1⟩, h1, h⟩ := bind_ok h
      have hz := (rd_size _).1 _ _ _ _ h1
      obtain ⟨g1, _⟩ := (rd_good _).1 _ _ _ _ (lexF_okNum _ _ _) h1
      dsimp only at h
      split at h
      · cases h
      · split at h
        · cases h
        · cases h; exact ⟨g1, by omega, by omega⟩
/-! ### Rows and trees -/
theorem own_ops {op num : Int} {name : List UInt8} (h : ownQ op num name = true) : ∃ k : Nat, op = k ∧ 1 ≤ k ∧ k ≤ 26 ∧ 0 ≤ num ∧ (k ≠ 1 → num = 0) ∧ (22 ≤ k ∨ k = 2 → qName name = true) ∧ (¬ (22 ≤ k ∨ k = 2) → name = []) := by
  unfold ownQ at h
  simp only [Bool.and_eq_true, decide_eq_true_eq, Bool.or_eq_true] at h
  obtain ⟨⟨⟨⟨h1, h2⟩, h3⟩, h4⟩, h5⟩ := h
  refine ⟨op.toNat, by omega, by omega, by omega, h3, fun hk => ?_, fun hk => ?_, fun hk => ?_⟩
  · rcases h4 with h4 | h4
    · exact h4
    · omega
  · rw [if_pos] at h5
    · exact h5
    · simp only [bindsO, Bool.and_eq_true, decide_eq_true_eq]; omega
  · rw [if_neg] at h5
    · exact of_decide_eq_true h5
    · simp only [bindsO, Bool.and_eq_true, decide_eq_true_eq]; omega
theorem kids_cases {k : Nat} (h1 : 1 ≤ k) (h2 : k ≤ 26) : (kidsO k = 0 ∧ (k = 1 ∨ k = 2 ∨ k = 3)) ∨ (kidsO k = 1 ∧ ((k = 4 ∨ k = 8 ∨ k = 9 ∨ k = 10 ∨ k = 17) ∨ (k = 22 ∨ k = 23 ∨ k = 24 ∨ k = 25 ∨ k = 26))) ∨ (kidsO k = 2 ∧ (k = 5 ∨ k = 6 ∨ k = 7 ∨ k = 11 ∨ k = 12 ∨ k = 13 ∨ k = 14 ∨ k = 15 ∨ k = 16 ∨ k = 18 ∨ k = 19 ∨ k = 20 ∨ k = 21)) := by
  have hall : ∀ k ∈ List.range 27, 1 ≤ k → (kidsO k = 0 ∧ (k = 1 ∨ k = 2 ∨ k = 3)) ∨ (kidsO k = 1 ∧ ((k = 4 ∨ k = 8 ∨ k = 9 ∨ k = 10 ∨ k = 17) ∨ (k = 22 ∨ k = 23 ∨ k = 24 ∨ k = 25 ∨ k = 26))) ∨ (kidsO k = 2 ∧ (k = 5 ∨ k = 6 ∨ k = 7 ∨ k = 11 ∨ k = 12 ∨ k = 13 ∨ k = 14 ∨ k = 15 ∨ k = 16 ∨ k = 18 ∨ k = 19 ∨ k = 20 ∨ k = 21)) := by decide
  exact hall k (List.mem_range.2 (by omega)) h1
/-- a row's tree -/
theorem grow_good : ∀ (f above : Nat) (l : List QN) (t : QT) (r : List QN), (∀ x ∈ l, x.num ≤ 9223372036854775807) → growF f above l = some (t, r) → goodT t ∧ l = t.rows ++ r ∧ t.depth + above ≤ 64
  | 0, _, _, _, _, _, h => by simp [growF] at h
  | f + 1, _, [], _, _, _, h => by simp [growF] at h
  | f + 1, above, x :: r, t, r', hn, h => by
    rw [growF] at h
    split at h
    · cases h
    · rename_i hab
      split at h
      · cases h
      · rename_i ho
        have ho : ownQ x.op x.num x.name = true := by simpa using ho
        obtain ⟨k, hk, k1, k2, k3, k4, k5, k6⟩ := own_ops ho
        obtain ⟨xop, xsize, xnum, xname⟩ := x
        have hk : xop = k := hk
        subst hk
        have hx := hn _ (List.mem_cons_self ..)
        have hnr : ∀ x ∈ r, x.num ≤ 9223372036854775807 := fun x hx => hn x (List.mem_cons_of_mem _ hx)
        dsimp only at h k3 k4 k5 k6 hx
        rw [Int.toNat_natCast] at h
        rcases kids_cases k1 k2 with ⟨e, hop⟩ | ⟨e, hop⟩ | ⟨e, hop⟩
        · rw [if_pos e] at h
          split at h
          · rename_i hs
            cases h
            refine ⟨?_, by rw [hs]; rfl, by simp [QT.depth]; omega⟩
            rcases hop with rfl | rfl | rfl
            · exact .inl ⟨rfl, k3, hx, k6 (by omega)⟩
            · exact .inr (.inl ⟨rfl, k4 (by omega), k5 (by omega)⟩)
            · exact .inr (.inr ⟨rfl, k4 (by omega), k6 (by omega)⟩)
          · cases h
        · rw [if_neg (by omega)] at h
          split at h
          · cases h
          · rename_i a r1 ha
            obtain ⟨ga, ea, da⟩ := grow_good f (above + 1) r a r1 hnr ha
            rw [if_pos e] at h
            split at h
            · rename_i hs
              cases h
              refine ⟨⟨k4 (by omega), ga, ?_⟩, by rw [hs, ea]; rfl, by simp only [QT.depth]; omega⟩
              rcases hop with hop | hop
              · refine .inl ⟨?_, k6 (by omega)⟩
                rcases hop with rfl | rfl | rfl | rfl | rfl <;> simp
              · refine .inr ⟨?_, k5 (by omega)⟩
                rcases hop with rfl | rfl | rfl | rfl | rfl <;> simp
            · cases h
        · rw [if_neg (by omega)] at h
          split at h
          · cases h
          · rename_i a r1 ha
            obtain ⟨ga, ea, da⟩ := grow_good f (above + 1) r a r1 hnr ha
            rw [if_neg (by omega)] at h
            split at h
            · cases h
            · rename_i b r2 hb
              have hnr1 : ∀ x ∈ r1, x.num ≤ 9223372036854775807 := fun x hx => hnr x (by rw [ea]; exact List.mem_append_right _ hx)
              obtain ⟨gb, eb, db⟩ := grow_good f (above + 1) r1 b r2 hnr1 hb
              split at h
              · rename_i hs
                cases h
                refine ⟨⟨k4 (by omega), ga, gb, k6 (by omega), ?_⟩, by rw [hs, ea, eb]; simp [QT.rows], by simp only [QT.depth]; omega⟩
                rcases hop with rfl | rfl | rfl | rfl | rfl | rfl | rfl | rfl | rfl | rfl | rfl | rfl | rfl <;> simp
              · cases h
theorem whole_good {l : List QN} {t : QT} (hn : ∀ x ∈ l, x.num ≤ 9223372036854775807) (h : wholeM l = some t) : goodT t ∧ l = t.rows ∧ t.depth ≤ 64 := by
  unfold wholeM at h
  split at h
  · rename_i t' hg
    cases h
    obtain ⟨h1, h2, h3⟩ := grow_good _ _ _ _ _ hn hg
    exact ⟨h1, by rw [h2, List.append_nil], by omega⟩
  · cases h
end Go.Vc
