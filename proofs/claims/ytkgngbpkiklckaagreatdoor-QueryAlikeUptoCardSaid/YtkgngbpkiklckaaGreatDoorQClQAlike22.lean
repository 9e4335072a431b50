/- Query: there and back, joined, in plain Lean (no program in sight). -/
import Derived.Test.YtkgngbpkiklckaaGreatDoorQClQAlike21
import Derived.Test.YtkgngbpkiklckaaGreatDoorQClQAlike14
import Derived.WalkKit
import Derived.ProofKit
namespace Go.Vc
open Go
/-- no token's number is too great -/
def okNum : TS → Prop
  | .tok t r => t.num ≤ 9223372036854775807 ∧ okNum r
  | _ => True
theorem numAcc_le : ∀ (l : List UInt8) (n u : Nat), (l.all digitB = true) → n ≤ 9223372036854775807 → numAcc n l = some u → u ≤ 9223372036854775807
  | [], n, u, _, h, e => by simp [numAcc] at e; omega
  | c :: l, n, u, ha, h, e => by
    simp only [List.all_cons, Bool.and_eq_true] at ha
    have hc : 48 ≤ c.toNat ∧ c.toNat ≤ 57 := by
      have := ha.1
      unfold digitB at this
      simp only [Bool.and_eq_true, decide_eq_true_eq, UInt8.le_iff_toNat_le] at this
      simpa using this
    rw [numAcc] at e
    split at e
    · exact numAcc_le l _ u ha.2 (by omega) e
    · cases e
theorem all_tw {f : UInt8 → Bool} : ∀ {l : List UInt8}, (l.takeWhile f).all f = true
  | [] => rfl
  | c :: l => by
    rw [List.takeWhile_cons]
    cases hc : f c with
    | false => rfl
    | true => simp only [if_true, List.all_cons, hc, Bool.true_and]; exact all_tw
theorem tok1_num {i : Nat} {l : List UInt8} {t : Tok} (h : tok1 i l = some t) : t.num ≤ 9223372036854775807 := by
  cases l with
  | nil => simp [tok1] at h; subst h; show (-1 : Int) ≤ _; decide
  | cons c r =>
    simp only [tok1] at h
    split at h
    · cases h; show (-1 : Int) ≤ _; decide
    · split at h
      · rename_i hd
        simp only [Option.map_eq_some_iff] at h
        obtain ⟨n, h1, rfl⟩ := h
        have := numAcc_le (c :: r.takeWhile digitB) 0 n (by
          rw [List.all_cons, hd, Bool.true_and]; exact all_tw) (by omega) h1
        show (n : Int) ≤ _; omega
      · split at h
        · cases h
        · cases h; show (-1 : Int) ≤ _; decide
theorem lexF_okNum : ∀ (f i : Nat) (l : List UInt8), okNum (lexF f i l)
  | 0, _, _ => trivial
  | f + 1, i, l => by
    rw [lexF]
    split
    · trivial
    · split
      · trivial
      · rename_i h; exact ⟨tok1_num h, lexF_okNum f _ _⟩
theorem adv_okNum {s s' : TS} (h : adv s = .ok s') (hs : okNum s) : okNum s' := by
  unfold adv at h
  split at h
  · cases h
  · cases h; exact hs.2
  · cases h; exact hs
theorem mustT_okNum {s s' : TS} {w : List UInt8} (h : mustT s w = .ok s') (hs : okNum s) : okNum s' := by
  unfold mustT at h
  split at h
  · exact adv_okNum h hs
  · cases h
theorem good_row {a b : QT} {lvl : Nat} {op : Int} {s : TS} (ha : goodT a) (hb : goodT b) (h : rowOp lvl s = some op) : goodT (.n2 op 0 [] a b) := by
  refine ⟨rfl, ha, hb, rfl, ?_⟩
  unfold rowOp at h
  split at h <;> (repeat' split at h) <;> cases h <;> simp
/-- what is read is a tree that may be -/
theorem rd_good : ∀ n : Nat, (∀ lvl s t s', okNum s → rd n lvl s = .ok (t, s') → goodT t ∧ okNum s') ∧ (∀ lvl u s t s', okNum s → goodT u → rw n lvl u s = .ok (t, s') → goodT t ∧ okNum s') ∧ (∀ op s t s', okNum s → wd n op s = .ok (t, s') → goodT t ∧ okNum s')
  | 0 => ⟨fun _ _ _ _ _ h => by simp [rd] at h, fun _ _ _ _ _ _ _ h => by simp [rw] at h, fun _ _ _ _ _ h => by simp [wd] at h⟩
  | n + 1 => by
    obtain ⟨ih1, ih2, ih3⟩ := rd_good n
    have hrow : ∀ lvl s t s', okNum s → (do let (t, s) ← rd n (subLvl lvl) s; rw n lvl t s) = (.ok (t, s') : PR) → goodT t ∧ okNum s' := by
      intro lvl s t s' hs h
      obtain ⟨⟨t1, s1⟩, h1, h2⟩ := bind_ok h
      obtain ⟨g1, g2⟩ := ih1 _ _ _ _ hs h1
      exact ih2 _ _ _ _ _ g2 g1 h2
    refine ⟨fun lvl s t s' hs h => ?_, fun lvl u s t s' hs hu h => ?_, fun op s t s' hs h => ?_⟩
    · unfold rd at h
      split at h
      · split at h
        · obtain ⟨s1, h1, h⟩ := bind_ok h
          obtain ⟨⟨t1, s2⟩, h2, h⟩ := bind_ok h
          cases h
          obtain ⟨g1, g2⟩ := ih1 _ _ _ _ (adv_okNum h1 hs) h2
          exact ⟨⟨rfl, g1, .inl ⟨by simp, rfl⟩⟩, g2⟩
        · obtain ⟨⟨t1, s1⟩, h1, h⟩ := bind_ok h
          obtain ⟨g1, g2⟩ := ih1 _ _ _ _ hs h1
          dsimp only at h
          split at h
          · rename_i op hop
            obtain ⟨s2, h2, h⟩ := bind_ok h
            obtain ⟨⟨t2, s3⟩, h3, h⟩ := bind_ok h
            cases h
            obtain ⟨g3, g4⟩ := ih1 _ _ _ _ (adv_okNum h2 g2) h3
            have hm := List.mem_of_find?_eq_some hop
            refine ⟨⟨rfl, g1, g3, rfl, ?_⟩, g4⟩
            simp only [List.mem_cons, List.not_mem_nil, or_false] at hm
            rcases hm with rfl | rfl | rfl | rfl | rfl | rfl <;> simp
          · cases h; exact ⟨g1, g2⟩
      · exact hrow _ _ _ _ hs h
      · exact hrow _ _ _ _ hs h
      · exact hrow _ _ _ _ hs h
      · exact hrow _ _ _ _ hs h
      · split at h
        · rename_i t0 r
          split at h
          · rename_i h0
            obtain ⟨s1, h1, h⟩ := bind_ok h
            cases h
            exact ⟨.inl ⟨rfl, h0, hs.1, rfl⟩, adv_okNum h1 hs⟩
          · split at h
            · obtain ⟨s1, h1, h⟩ := bind_ok h
              obtain ⟨⟨t2, s2⟩, h2, h⟩ := bind_ok h
              cases h
              obtain ⟨g1, g2⟩ := ih1 _ _ _ _ (adv_okNum h1 hs) h2
              exact ⟨⟨rfl, g1, .inl ⟨by simp, rfl⟩⟩, g2⟩
            · split at h
              · obtain ⟨s1, h1, h⟩ := bind_ok h
                obtain ⟨⟨t2, s2⟩, h2, h⟩ := bind_ok h
                obtain ⟨s3, h3, h⟩ := bind_ok h
                cases h
                obtain ⟨g1, g2⟩ := ih1 _ _ _ _ (adv_okNum h1 hs) h2
                exact ⟨g1, mustT_okNum h3 g2⟩
              · split at h
                · rename_i k hk
                  obtain ⟨s1, h1, h⟩ := bind_ok h
                  cases h
                  refine ⟨.inl ⟨rfl, by omega, ?_, rfl⟩, adv_okNum h1 hs⟩
                  unfold kindOf at hk
                  simp only [Option.map_eq_some_iff] at hk
                  obtain ⟨i, hi, rfl⟩ := hk
                  have := (List.findIdx?_eq_some_iff_findIdx_eq.1 hi).1
                  have e : kindWords.length = 11 := rfl
                  omega
                · split at h
                  · exact ih3 _ _ _ _ hs h
                  · split at h
                    · rename_i hn
                      obtain ⟨s1, h1, h⟩ := bind_ok h
                      cases h
                      exact ⟨.inr (.inl ⟨rfl, rfl, hn⟩), adv_okNum h1 hs⟩
                    · cases h
        · cases h
    · unfold rw at h
      split at h
      · cases h; exact ⟨hu, hs⟩
      · rename_i op hop
        obtain ⟨s1, h1, h⟩ := bind_ok h
        obtain ⟨⟨t2, s2⟩, h2, h⟩ := bind_ok h
        obtain ⟨g1, g2⟩ := ih1 _ _ _ _ (adv_okNum h1 hs) h2
        exact ih2 _ _ _ _ _ g2 (good_row hu g1 hop) h
    · unfold wd at h
      split at h
      · obtain ⟨s1, h1, h⟩ := bind_ok h
        cases h
        exact ⟨.inr (.inr ⟨rfl, rfl, rfl⟩), adv_okNum h1 hs⟩
      · split at h
        · rename_i hbi
          obtain ⟨s1, h1, h⟩ := bind_ok h
          split at h
          · rename_i t0 r
            split at h
            · cases h
            · rename_i hnn
              obtain ⟨s2, h2, h⟩ := bind_ok h
              obtain ⟨s3, h3, h⟩ := bind_ok h
              obtain ⟨⟨t4, s4⟩, h4, h⟩ := bind_ok h
              cases h
              obtain ⟨g1, g2⟩ := ih1 _ _ _ _ (mustT_okNum h3 (adv_okNum h2 (adv_okNum h1 hs))) h4
              refine ⟨⟨rfl, g1, .inr ⟨?_, ?_⟩⟩, g2⟩
              · simp only [bindsO, Bool.and_eq_true, decide_eq_true_eq] at hbi; omega
              · cases hq : qName t0.text with
                | true => rfl
                | false => exact absurd (.inr hq) hnn
          · cases h
        · split at h
          · rename_i hca
            have hc5 : op = 8 ∨ op = 9 ∨ op = 10 ∨ op = 20 ∨ op = 21 := by simpa [callO, or_assoc] using hca
            obtain ⟨s1, h1, h⟩ := bind_ok h
            obtain ⟨s2, h2, h⟩ := bind_ok h
            obtain ⟨⟨t3, s3⟩, h3, h⟩ := bind_ok h
            obtain ⟨g1, g2⟩ := ih1 _ _ _ _ (mustT_okNum h2 (adv_okNum h1 hs)) h3
            dsimp only at h
            split at h
            · rename_i hk
              obtain ⟨s4, h4, h⟩ := bind_ok h
              cases h
              refine ⟨⟨rfl, g1, .inl ⟨?_, rfl⟩⟩, mustT_okNum h4 g2⟩
              rcases hc5 with rfl | rfl | rfl | rfl | rfl <;> first | (simp; done) | exact absurd hk (by decide)
            · rename_i hk
              obtain ⟨s4, h4, h⟩ := bind_ok h
              obtain ⟨⟨t5, s5⟩, h5, h⟩ := bind_ok h
              dsimp only at h
              obtain ⟨s6, h6, h⟩ := bind_ok h
              cases h
              obtain ⟨g3, g4⟩ := ih1 _ _ _ _ (mustT_okNum h4 g2) h5
              refine ⟨⟨rfl, g1, g3, rfl, ?_⟩, mustT_okNum h6 g4⟩
              rcases hc5 with rfl | rfl | rfl | rfl | rfl <;> first | (simp; done) | exact absurd (by decide) hk
          · cases h
theorem parse_good {l : List UInt8} {t : QT} (h : parseM l = .ok t) : goodT t ∧ t.depth ≤ 64 ∧ t.size ≤ l.length := by
  unfold parseM at h
  split at h
  · cases h
  · have hlen := lex_len (txt := l) l.length 0 (by omega) (by omega)
    split at h
    · cases h
    · obtain ⟨⟨t1, s1⟩, h1, h⟩ := bind_ok h
      have hz := (rd_size _).1 _ _ _ _ h1
      obtain ⟨g1, _⟩ := (rd_good _).1 _ _ _ _ (lexF_okNum _ _ _) h1
      dsimp only at h
      split at h
      · cases h
      · split at h
        · cases h
        · cases h; exact ⟨g1, by omega, by omega⟩
/-! ### Rows and trees -/
theorem own_ops {op num : Int} {name : List UInt8} (h : ownQ op num name = true) : ∃ k : Nat, op = k ∧ 1 ≤ k ∧ k ≤ 26 ∧ 0 ≤ num ∧ (k ≠ 1 → num = 0) ∧ (22 ≤ k ∨ k = 2 → qName name = true) ∧ (¬ (22 ≤ k ∨ k = 2) → name = []) := by
  unfold ownQ at h
  simp only [Bool.and_eq_true, decide_eq_true_eq, Bool.or_eq_true] at h
  obtain ⟨⟨⟨⟨h1, h2⟩, h3⟩, h4⟩, h5⟩ := h
  refine ⟨op.toNat, by omega, by omega, by omega, h3, fun hk => ?_, fun hk => ?_, fun hk => ?_⟩
  · rcases h4 with h4 | h4
    · exact h4
    · omega
  · rw [if_pos] at h5
    · exact h5
    · simp only [bindsO, Bool.and_eq_true, decide_eq_true_eq]; omega
  · rw [if_neg] at h5
    · exact of_decide_eq_true h5
    · simp only [bindsO, Bool.and_eq_true, decide_eq_true_eq]; omega
theorem kids_cases {k : Nat} (h1 : 1 ≤ k) (h2 : k ≤ 26) : (kidsO k = 0 ∧ (k = 1 ∨ k = 2 ∨ k = 3)) ∨ (kidsO k = 1 ∧ ((k = 4 ∨ k = 8 ∨ k = 9 ∨ k = 10 ∨ k = 17) ∨ (k = 22 ∨ k = 23 ∨ k = 24 ∨ k = 25 ∨ k = 26))) ∨ (kidsO k = 2 ∧ (k = 5 ∨ k = 6 ∨ k = 7 ∨ k = 11 ∨ k = 12 ∨ k = 13 ∨ k = 14 ∨ k = 15 ∨ k = 16 ∨ k = 18 ∨ k = 19 ∨ k = 20 ∨ k = 21)) := by
  have hall : ∀ k ∈ List.range 27, 1 ≤ k → (kidsO k = 0 ∧ (k = 1 ∨ k = 2 ∨ k = 3)) ∨ (kidsO k = 1 ∧ ((k = 4 ∨ k = 8 ∨ k = 9 ∨ k = 10 ∨ k = 17) ∨ (k = 22 ∨ k = 23 ∨ k = 24 ∨ k = 25 ∨ k = 26))) ∨ (kidsO k = 2 ∧ (k = 5 ∨ k = 6 ∨ k = 7 ∨ k = 11 ∨ k = 12 ∨ k = 13 ∨ k = 14 ∨ k = 15 ∨ k = 16 ∨ k = 18 ∨ k = 19 ∨ k = 20 ∨ k = 21)) := by decide
  exact hall k (List.mem_range.2 (by omega)) h1
/-- a row's tree -/
theorem grow_good : ∀ (f above : Nat) (l : List QN) (t : QT) (r : List QN), (∀ x ∈ l, x.num ≤ 9223372036854775807) → growF f above l = some (t, r) → goodT t ∧ l = t.rows ++ r ∧ t.depth + above ≤ 64
  | 0, _, _, _, _, _, h => by simp [growF] at h
  | f + 1, _, [], _, _, _, h => by simp [growF] at h
  | f + 1, above, x :: r, t, r', hn, h => by
    rw [growF] at h
    split at h
    · cases h
    · rename_i hab
      split at h
      · cases h
      · rename_i ho
        have ho : ownQ x.op x.num x.name = true := by simpa using ho
        obtain ⟨k, hk, k1, k2, k3, k4, k5, k6⟩ := own_ops ho
        obtain ⟨xop, xsize, xnum, xname⟩ := x
        have hk : xop = k := hk
        subst hk
        have hx := hn _ (List.mem_cons_self ..)
        have hnr : ∀ x ∈ r, x.num ≤ 9223372036854775807 := fun x hx => hn x (List.mem_cons_of_mem _ hx)
        dsimp only at h k3 k4 k5 k6 hx
        rw [Int.toNat_natCast] at h
        rcases kids_cases k1 k2 with ⟨e, hop⟩ | ⟨e, hop⟩ | ⟨e, hop⟩
        · rw [if_pos e] at h
          split at h
          · rename_i hs
            cases h
            refine ⟨?_, by rw [hs]; rfl, by simp [QT.depth]; omega⟩
            rcases hop with rfl | rfl | rfl
            · exact .inl ⟨rfl, k3, hx, k6 (by omega)⟩
            · exact .inr (.inl ⟨rfl, k4 (by omega), k5 (by omega)⟩)
            · exact .inr (.inr ⟨rfl, k4 (by omega), k6 (by omega)⟩)
          · cases h
        · rw [if_neg (by omega)] at h
          split at h
          · cases h
          · rename_i a r1 ha
            obtain ⟨ga, ea, da⟩ := grow_good f (above + 1) r a r1 hnr ha
            rw [if_pos e] at h
            split at h
            · rename_i hs
              cases h
              refine ⟨⟨k4 (by omega), ga, ?_⟩, by rw [hs, ea]; rfl, by simp only [QT.depth]; omega⟩
              rcases hop with hop | hop
              · refine .inl ⟨?_, k6 (by omega)⟩
                rcases hop with rfl | rfl | rfl | rfl | rfl <;> simp
              · refine .inr ⟨?_, k5 (by omega)⟩
                rcases hop with rfl | rfl | rfl | rfl | rfl <;> simp
            · cases h
        · rw [if_neg (by omega)] at h
          split at h
          · cases h
          · rename_i a r1 ha
            obtain ⟨ga, ea, da⟩ := grow_good f (above + 1) r a r1 hnr ha
            rw [if_neg (by omega)] at h
            split at h
            · cases h
            · rename_i b r2 hb
              have hnr1 : ∀ x ∈ r1, x.num ≤ 9223372036854775807 := fun x hx => hnr x (by rw [ea]; exact List.mem_append_right _ hx)
              obtain ⟨gb, eb, db⟩ := grow_good f (above + 1) r1 b r2 hnr1 hb
              split at h
              · rename_i hs
                cases h
                refine ⟨⟨k4 (by omega), ga, gb, k6 (by omega), ?_⟩, by rw [hs, ea, eb]; simp [QT.rows], by simp only [QT.depth]; omega⟩
                rcases hop with rfl | rfl | rfl | rfl | rfl | rfl | rfl | rfl | rfl | rfl | rfl | rfl | rfl <;> simp
              · cases h
theorem whole_good {l : List QN} {t : QT} (hn : ∀ x ∈ l, x.num ≤ 9223372036854775807) (h : wholeM l = some t) : goodT t ∧ l = t.rows ∧ t.depth ≤ 64 := by
  unfold wholeM at h
  split at h
  · rename_i t' hg
    cases h
    obtain ⟨h1, h2, h3⟩ := grow_good _ _ _ _ _ hn hg
    exact ⟨h1, by rw [h2, List.append_nil], by omega⟩
  · cases h
end Go.Vc
/- Query: sensible, looked, Check. -/
namespace Go.Vc
open Go Go.Proofs
set_option maxRecDepth 10000
variable {w : World}
/-- have all kids the sort that is asked for? -/
theorem sensible_ret : ∀ (t : QT) {w : World} {lo p : Nat}, TreeAt shQ lo w t p → Ret Tryz.prog 84 [ptr p] w (fun v w' => v = .bool (senseQ t) ∧ Kp [] w w') := by
  intro t
  induction t using QT.ind with
  | h t ih =>
  intro w lo p hT
  obtain ⟨bad, bcap, ks, hks, hB, hR, hK, _⟩ := hT.view
  have hmean : senseQ t = !(ks.any fun x => !decide (answerO x.2.op.toNat = ofO t.op.toNat) || !senseQ x.2) := by
    have e1 : (ks.any fun x => !decide (answerO x.2.op.toNat = ofO t.op.toNat) || !senseQ x.2) = (t.kids.any fun x => !decide (answerO x.op.toNat = ofO t.op.toNat) || !senseQ x) := by
      rw [← hks, List.any_map]; rfl
    rw [e1]
    cases t with
    | n0 op num name => rfl
    | n1 op num name a =>
      show (decide (answerO a.op.toNat = ofO op.toNat) && senseQ a) = !((!decide (answerO a.op.toNat = ofO op.toNat) || !senseQ a) || false)
      simp
    | n2 op num name a b =>
      show ((decide (answerO a.op.toNat = ofO op.toNat) && senseQ a) && (decide (answerO b.op.toNat = ofO op.toNat) && senseQ b)) = !((!decide (answerO a.op.toNat = ofO op.toNat) || !senseQ a) || ((!decide (answerO b.op.toNat = ofO op.toNat) || !senseQ b) || false))
      simp
  have hkl : ks.length ≤ 2 := by rw [← List.length_map (f := fun x : Nat × QT => x.2), hks]; exact t.kids_len
  have hpl := hB.lt
  rw [hmean]
  refine enter Tryz.call84 Tryz.func84 rfl rfl rfl rfl ?_
  (repeat first|refine zA ?_|refine zg ?_)
  refine o_box rfl rfl rfl ?_
  intro b w1 hb hu1
  have k1 : Kp [] w w1 := hu1.kp [] (.inr (by omega))
  have hB1 := k1.blk (by simp) hB
  have hb1 : Blk w1 b [ptr p] 87 := hu1.blk
  (repeat first|refine zA ?_|refine zg ?_|refine zo rfl rfl trivial ?_|refine zn ?_|refine o_load rfl hb1 rfl rfl rfl rfl rfl ?_)
  refine o_load (v := .slice bad ks.length bcap) rfl hB1 rfl rfl rfl rfl rfl ?_
  (repeat refine zo rfl rfl trivial ?_)
  refine o_call (ContainsTree_ret (f := 127) (cs := [ptr b]) (b := fun x => !decide (answerO x.2.op.toNat = ofO t.op.toNat) || !senseQ x.2) (hR.kp k1 (by simp)) hkl (fun x hx W kW => ?_)) rfl rfl rfl ?_
  · have hxk : x.2 ∈ t.kids := by rw [← hks]; exact List.mem_map_of_mem hx
    have hTx := (hK x hx).kp (k1.trans kW) (by simp)
    obtain ⟨_, _, _, _, hBx, _, _, _⟩ := hTx.view
    have hbW := kW.blk (by simp) hb1
    have hBW := kW.blk (by simp) hB1
    refine enter Tryz.call127 Tryz.func127 rfl rfl rfl rfl ?_
    (repeat first|refine zA ?_|refine zg ?_|refine zo rfl rfl trivial ?_|refine zn ?_)
    refine r_seq ?_
    refine r_cut (α := Unit) [3] (fun _ => [.bool (!decide (answerO x.2.op.toNat = ofO t.op.toNat) || !senseQ x.2)]) (fun _ W' => Kp [] W W') ?_ ?_
    · refine r_quietK follows_mixed (by kernel_rfl) ?_
      (repeat refine yo rfl rfl trivial ?_)
      refine q_load (v := I (answerO x.2.op.toNat)) rfl (fun _ hs => (Kp.blk hs (by simp) hBx).cell rfl) rfl rfl rfl rfl ?_
      refine q_load (v := ptr p) rfl (fun _ hs => (Kp.blk hs (by simp) hbW).cell rfl) rfl rfl rfl rfl ?_
      (repeat refine yo rfl rfl trivial ?_)
      refine q_load (v := I (ofO t.op.toNat)) rfl (fun _ hs => (Kp.blk hs (by simp) hBW).cell rfl) rfl rfl rfl rfl ?_
      (repeat refine yo rfl rfl trivial ?_)
      refine q_split _ _ rfl rfl rfl (fun h1 => ?_) (fun h1 => ?_)
      · (repeat first|refine yo rfl rfl trivial ?_|refine yn ?_)
        intro w' hs
        exact ⟨(), by rw [h1]; rfl, hs⟩
      · (repeat refine yo rfl rfl trivial ?_)
        refine q_call (.bool (senseQ x.2)) (fun w' hw => (ih x.2 hxk (hTx.kp hw (by simp))).mono (fun v w'' ⟨h1, h2⟩ => ⟨h1, hw.trans h2⟩)) Tryz.call84 rfl rfl rfl ?_
        (repeat first|refine yo rfl rfl trivial ?_|refine yn ?_)
        intro w' hs
        exact ⟨(), by rw [h1]; rfl, hs⟩
    rintro _ e2 w3 k3
    (repeat refine zr ?_)
    exact ⟨_, rfl, rfl, kW.trans k3⟩
  rintro v w3 ⟨rfl, k3⟩
  (repeat first|refine zo rfl rfl trivial ?_|refine zn ?_|refine zr ?_)
  exact ⟨_, rfl, rfl, k1.trans k3⟩
/-- a row of nodes as it is lent -/
structure Rows (w : World) (ad : Option Addr) (cap : Nat) (l : List QN) : Prop where
  read : ReadS w ad (l.flatMap qC)
  cap_ : l.length ≤ cap
  max_ : cap ≤ 9223372036854775807
  len : l.length ≤ 1048576
  name : ∀ x ∈ l, x.name.length ≤ 9223372036854775806
  num : ∀ x ∈ l, x.num ≤ 9223372036854775807
theorem Rows.kp {w' : World} {S' : List Nat} {ad : Option Addr} {cap : Nat} {l : List QN} (h : Rows w ad cap l) (hk : Kp S' w w') (hS : ∀ b ∈ blkOf ad, b ∉ S') : Rows w' ad cap l := ⟨h.read.kp hk hS, h.cap_, h.max_, h.len, h.name, h.num⟩
theorem looked_ret {l : List QN} {ad : Option Addr} {cap : Nat} (hA : AscW w) (hR : Rows w ad cap l) :
    Ret Tryz.prog 45 [qV ad l.length cap] w (fun v w' => (match lookedM l with | .error c => v = .tuple #[.pointer none, I c] | .ok t => ∃ p, v = .tuple #[ptr p, I 0] ∧ TreeAt shQ w.heap.size w' t p) ∧ Kp [] w w') := by
  have hm := hR.max_
  have hl : lookedM l = match wholeM l with | none => .error 305 | some t => if namedQ t [] = false then .error 303 else if senseQ t = false then .error 304 else .ok t := rfl
  refine enter Tryz.call45 Tryz.func45 rfl rfl rfl rfl ?_
  (repeat first|refine zA ?_|refine zg ?_)
  refine o_box rfl rfl rfl ?_
  intro b w1 hb hu1
  have k1 : Kp [] w w1 := hu1.kp [] (.inr (by omega))
  have y1 := k1.size
  have hb1 : Blk w1 b [.slice ad l.length cap] 24 := hu1.blk
  (repeat first|refine zA ?_|refine zg ?_|refine zo rfl rfl trivial ?_|refine zn ?_)
  refine o_loadA (vs := [.slice ad l.length cap]) rfl (fun j v hv => by rw [Nat.zero_add]; exact hb1.cell hv) rfl rfl rfl rfl rfl rfl ?_
  refine o_call (whole_ret (hA.kp k1 (by simp)) (hR.read.kp k1 (by simp)) hR.cap_ (by omega) hR.name) rfl rfl rfl ?_
  rintro v w2 ⟨hv, k2⟩
  cases hw : wholeM l with
  | none =>
    rw [hw] at hv hl
    have hv : v = .pointer none := hv
    subst hv
    rw [hl]
    (repeat first|refine zA ?_|refine zC ?_|refine zg ?_|refine zo rfl rfl trivial ?_|refine zn ?_|refine zb ?_|refine zr ?_|refine zt rfl ?_)
    exact ⟨_, rfl, rfl, k1.trans k2⟩
  | some t =>
    rw [hw] at hv hl
    obtain ⟨p, rfl, hT⟩ := hv
    obtain ⟨hg, hrow, hd⟩ := whole_good hR.num hw
    (repeat first|refine zA ?_|refine zC ?_|refine zg ?_|refine zo rfl rfl trivial ?_|refine zn ?_|refine zb ?_|refine zf rfl ?_)
    refine o_call (named_ret t hg (nad := none) (ncap := 0) [] hT rfl (by simp; omega)) rfl rfl rfl ?_
    rintro v w3 ⟨rfl, k3⟩
    cases hn : namedQ t [] with
    | false =>
      rw [hl]
      dsimp only
      rw [if_pos hn]
      (repeat first|refine zA ?_|refine zg ?_|refine zo rfl rfl trivial ?_|refine zn ?_|refine zr ?_|refine zt rfl ?_)
      exact ⟨_, rfl, rfl, (k1.trans k2).trans k3⟩
    | true =>
      rw [hl]
      dsimp only
      rw [if_neg (by rw [hn]; simp)]
      (repeat first|refine zA ?_|refine zg ?_|refine zo rfl rfl trivial ?_|refine zn ?_|refine zf rfl ?_)
      refine o_call (sensible_ret t (hT.kp k3 (by simp))) rfl rfl rfl ?_
      rintro v w4 ⟨rfl, k4⟩
      cases hs : senseQ t with
      | false =>
        rw [if_pos rfl]
        (repeat first|refine zA ?_|refine zg ?_|refine zo rfl rfl trivial ?_|refine zn ?_|refine zr ?_|refine zt rfl ?_)
        exact ⟨_, rfl, rfl, ((k1.trans k2).trans k3).trans k4⟩
      | true =>
        rw [if_neg (by simp)]
        (repeat first|refine zA ?_|refine zg ?_|refine zo rfl rfl trivial ?_|refine zn ?_|refine zr ?_|refine zk ?_|refine zf rfl ?_)
        exact ⟨_, rfl, ⟨p, rfl, ((hT.kp k3 (by simp)).kp k4 (by simp)).lo_le y1⟩, ((k1.trans k2).trans k3).trans k4⟩
/-- P30.2 as the program has it -/
def checkM (l : List QN) : Int × Int :=
  match lookedM l with
  | .error c => (0, c)
  | .ok t => (answerO t.op.toNat, 0)
end Go.Vc
/- Query: a builder of texts (the shelf's contracts), a number's digits. -/
namespace Go.Vc
open Go Go.Proofs Go.Shelf Go.RowKit
set_option maxRecDepth 10000
variable {w : World}
theorem r_lastKL {P : Program} {n : Nat} {e : Env} {K : EPost} {X : List (Nat × EPost)} {R : EPost} {ro : Ro} {o : Oper} {id : Nat} {L : List Oper} (hm : P.follows .mixedOrders = true) (hL : L.getLast? = some o) (hB : Region.lexB .any L.dropLast.toArray = true) (hS : sinkB L = true)
    (h : QOps P n L.dropLast [] (Kp [] w) (fun e' => ∀ w', Kp [] w w' → Ops ro P n [o] [] K [o] e' w') L.dropLast e) : Wp ro P n (.region id L.toArray true) K X R e w := by
  have e1 : L = L.dropLast ++ [o] := by
    have hne : L ≠ [] := by rintro rfl; simp at hL
    have h1 := List.dropLast_concat_getLast hne
    have h2 := List.getLast?_eq_some_getLast hne
    rw [hL] at h2
    rw [← Option.some.inj h2] at h1
    exact h1.symm
  exact r_lastC (Kp [] w) hm e1 hB (by rw [← e1]; exact hS) ((Sm.drew w).kp []) h
/-- a builder that holds a text, made since w0 -/
structure BdAt (w0 w : World) (b : Nat) (l : List UInt8) : Prop where
  is : Lib.IsBuilderF 92 5 w0.heap.size b (Lib.byteCells l) w
  kp : Kp [] w0 w
theorem isB_kp {B b : Nat} {bs : List Value} {w' : World} {T e : TypeId} (h : Lib.IsBuilderF T e B b bs w) (hk : Kp [] w w') : Lib.IsBuilderF T e B b bs w' := by
  have at_ : ∀ {p : Value}, Lib.BuilderAtF T e B b p bs w → Lib.BuilderAtF T e B b p bs w' := by
    rintro p ⟨h1, v, h2, ⟨h3, h4⟩, h5⟩
    have keep : ∀ {k : Nat} {o : Obj}, w.heap[k]? = some o → w'.heap[k]? = some o := fun {k o} hko => by
      rw [hk.at_ k (Array.getElem?_eq_some_iff.1 hko).1 (by simp)]; exact hko
    refine ⟨h1, v, keep h2, ⟨h3, ?_⟩, h5⟩
    rcases h4 with h4 | ⟨g, cap, cur, fz, g1, g2, g3, g4⟩
    · exact .inl h4
    · exact .inr ⟨g, cap, cur, fz, g1, g2, keep g3, g4⟩
  exact h.elim (fun h => .inl (at_ h)) (fun h => .inr (at_ h))
theorem BdAt.kp' {w0 w' : World} {b : Nat} {l : List UInt8} (h : BdAt w0 w b l) (hk : Kp [] w w') : BdAt w0 w' b l := ⟨isB_kp h.is hk, h.kp.trans hk⟩
theorem BdAt.ge {w0 : World} {b : Nat} {l : List UInt8} (h : BdAt w0 w b l) : w0.heap.size ≤ b := h.is.elim (fun h => h.1) (fun h => h.1)
/-- what writing to a builder leaves -/
structure BdTo (w0 w : World) (b : Nat) (l : List UInt8) (w' : World) : Prop extends BdAt w0 w' b l where
  oth : Lib.OthersKept 5 (some b) w w'
  size : w.heap.size ≤ w'.heap.size
theorem BdTo.trans {w0 w1 w2 : World} {b : Nat} {l l' : List UInt8} (h : BdTo w0 w b l w1) (k : BdTo w0 w1 b l' w2) : BdTo w0 w b l' w2 := ⟨k.toBdAt, h.oth.trans k.oth, Nat.le_trans h.size k.size⟩
theorem BdTo.since {w0 w1 w2 : World} {b : Nat} {l : List UInt8} (h : Kp [] w w1) (k : BdTo w0 w1 b l w2) : BdTo w0 w b l w2 :=
  ⟨k.toBdAt, fun i o hi hb ho => k.oth i o (by rw [h.at_ i (Array.getElem?_eq_some_iff.1 hi).1 (by simp)]; exact hi) hb ho, Nat.le_trans h.size k.size⟩
theorem BdTo.blk {w0 w' : World} {b c : Nat} {l : List UInt8} {cs : List Value} {T : TypeId} (h : BdTo w0 w b l w') (hc : Blk w c cs T) (hcb : c ≠ b) (hT : T ≠ 5) : Blk w' c cs T :=
  h.oth c _ hc (fun e => hcb (Option.some.inj e)) (fun x fz e => by injection e with _ e2; exact hT e2)
theorem kp_of_below {w0 w1 w2 : World} (h : Kp [] w0 w1) (hb : Below w0.heap.size w1 w2) : Kp [] w0 w2 := by
  obtain ⟨h1, h2, h3, h4, h5⟩ := hb
  exact ⟨h1.trans h.os, h2.trans h.tape, h3.trans h.output, Nat.le_trans h.size h4, fun k hk hS => (h5 k hk).trans (h.at_ k hk hS)⟩
theorem xWB : Builder.Extra Tryz.prog Tryz.layWB_ren := { sizeBuilder := by kernel_rfl, liesBuilder := by kernel_rfl, t5 := Tryz.underlying5, a5 := Tryz.isAgg5, z5 := Tryz.sizeOf5, v5 := Tryz.zeroValue5, infoByte := by kernel_rfl, cellsByte := by kernel_rfl, sizeByte := by kernel_rfl, neB5 := by decide }
theorem xWS : Builder.Extra Tryz.prog Tryz.layWS_ren := { sizeBuilder := by kernel_rfl, liesBuilder := by kernel_rfl, t5 := Tryz.underlying5, a5 := Tryz.isAgg5, z5 := Tryz.sizeOf5, v5 := Tryz.zeroValue5, infoByte := by kernel_rfl, cellsByte := by kernel_rfl, sizeByte := by kernel_rfl, neB5 := by decide }
theorem xBS : Builder.Extra Tryz.prog Tryz.layBS_ren := { sizeBuilder := by kernel_rfl, liesBuilder := by kernel_rfl, t5 := Tryz.underlying5, a5 := Tryz.isAgg5, z5 := Tryz.sizeOf5, v5 := Tryz.zeroValue5, infoByte := by kernel_rfl, cellsByte := by kernel_rfl, sizeByte := by kernel_rfl, neB5 := by decide }
theorem byteCells_app (l r : List UInt8) : Lib.byteCells (l ++ r) = Lib.byteCells l ++ Lib.byteCells r := by simp [Lib.byteCells]
theorem byteCells_len (l : List UInt8) : (Lib.byteCells l).length = l.length := by simp [Lib.byteCells]
theorem WriteByte_ret {w0 : World} {b : Nat} {l : List UInt8} (h : BdAt w0 w b l) (hl : l.length ≤ 70368744177664) (c : UInt8) : Ret Tryz.prog 74 [ptr b, Y c] w (fun v w' => v = .nilIface ∧ BdTo w0 w b (l ++ [c]) w') := by
  refine ⟨Tryz.call74, ?_⟩
  refine Calls.mono (Any.Builder_WriteByte_k Tryz.layWB xWB w0.heap.size b (Lib.byteCells l) (c.toNat : Int) w h.is (by rw [byteCells_len]; omega) h.kp.size) ?_
  rintro e w' ⟨rfl, h1, h2, h3⟩
  refine ⟨_, rfl, rfl, ⟨⟨?_, kp_of_below h.kp h2⟩, h3, h2.size⟩⟩
  rw [byteCells_app]
  exact .inr h1
theorem WriteString_ret {w0 : World} {b : Nat} {l : List UInt8} (h : BdAt w0 w b l) (s : List UInt8) (hl : l.length + s.length ≤ 70368744177664) : Ret Tryz.prog 75 [ptr b, S s] w (fun v w' => v = .tuple #[I s.length, .nilIface] ∧ BdTo w0 w b (l ++ s) w') := by
  refine ⟨Tryz.call75, ?_⟩
  refine Calls.mono (Any.Builder_WriteString_k Tryz.layWS xWS w0.heap.size b (Lib.byteCells l) ⟨⟨s⟩⟩ w h.is (by rw [byteCells_len]; show l.length + s.length ≤ _; omega) h.kp.size) ?_
  rintro e w' ⟨rfl, h1, h2, h3⟩
  refine ⟨_, rfl, rfl, ⟨⟨?_, kp_of_below h.kp h2⟩, h3, h2.size⟩⟩
  rw [byteCells_app]
  exact .inr h1
theorem BLen_ret {w0 : World} {b : Nat} {l : List UInt8} (h : BdAt w0 w b l) : Ret Tryz.prog 38 [ptr b] w (fun v w' => v = I l.length ∧ w' = w) := by
  refine ⟨Tryz.call38, ?_⟩
  refine Calls.mono (Any.Builder_Len_f Tryz.layBL w0.heap.size b (Lib.byteCells l) w h.is) ?_
  rintro e w' ⟨rfl, h2⟩
  exact ⟨_, rfl, by rw [byteCells_len], h2⟩
theorem BString_ret {w0 : World} {b : Nat} {l : List UInt8} (h : BdAt w0 w b l) : Ret Tryz.prog 39 [ptr b] w (fun v w' => v = S l ∧ BdTo w0 w b l w') := by
  refine ⟨Tryz.call39, ?_⟩
  refine Calls.mono (Any.Builder_String_any_k Tryz.layBS xBS w0.heap.size b l w h.is h.kp.size) ?_
  rintro e w' ⟨rfl, h1, h2, h3⟩
  exact ⟨_, rfl, rfl, ⟨⟨h1, kp_of_below h.kp h2⟩, h3, h2.size⟩⟩
/-- the table of powers of ten -/
def PowQ (w : World) : Prop := Lib.TabIs Tryz.prog w "internal/strconv.uint64pow10" .u64 Lib.pow10Tab
theorem powGQ : Tryz.prog.globalNamed "internal/strconv.uint64pow10" = some 2 := by kernel_rfl
theorem PowQ.heap {w w' : World} (h : PowQ w) (hk : w'.heap[2]? = w.heap[2]?) : PowQ w' := by
  unfold PowQ Lib.TabIs World.var? at *
  rw [powGQ] at *
  simpa [hk] using h
theorem PowQ.lt {w : World} (h : PowQ w) : 2 < w.heap.size := by
  unfold PowQ Lib.TabIs World.var? at *
  rw [powGQ] at *
  simp only [Option.bind_some] at h
  cases hx : w.heap[2]? with
  | none => rw [hx] at h; simp at h
  | some o => exact (Array.getElem?_eq_some_iff.1 hx).1
theorem PowQ.kp {w w' : World} {F : List Nat} (h : PowQ w) (hk : Kp F w w') (hF : 2 ∉ F) : PowQ w' := h.heap (hk.at_ _ h.lt hF)
theorem grown_kpQ {w1 : World} {k : Nat} {os : Array Obj} (h : w1 = Go.Sort.grow (w.drewN k) os) : Kp [] w w1 := by
  subst h
  refine ⟨rfl, rfl, rfl, ?_, fun i hi _ => ?_⟩
  · show w.heap.size ≤ (w.heap ++ os).size
    rw [Array.size_append]; omega
  · show (w.heap ++ os)[i]? = _
    exact Array.getElem?_append_left hi
theorem Itoa_ret (hP : PowQ w) (n : Nat) (hn : n ≤ 9223372036854775807) : Ret Tryz.prog 76 [I n] w (fun v w' => v = S (Lib.decDigits n) ∧ Kp [] w w') := by
  refine ⟨Tryz.call76, ?_⟩
  refine Calls.mono (Any.strconv_Itoa Tryz.layItoa (n : Int) (by omega) (by omega) w hP) ?_
  rintro e w' ⟨rfl, k, os, hw⟩
  exact ⟨_, rfl, by show _ = Value.string ⟨⟨Lib.decDigits n⟩⟩; unfold Lib.itoa; simp, grown_kpQ hw⟩
end Go.Vc
