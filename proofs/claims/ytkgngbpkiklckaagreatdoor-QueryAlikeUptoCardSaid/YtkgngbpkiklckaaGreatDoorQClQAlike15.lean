/- Query: a row of things with words between. -/
import Derived.Test.YtkgngbpkiklckaaGreatDoorQClQAlike14
namespace Go.Vc
open Go Go.Proofs
set_option maxRecDepth 10000
section
variable {P : Program} {n : Nat} {w : World} {e : Env} {K : EPost} {all : List Oper} {G : List Nat} {ro : Ro} {dst : Option Tmp} {ty : TypeId} {pos : String} {after : Array Edge} {g : Option (Nat × Bool)} {l : List Oper} {t : TypeId} {x y : Operand}
/-- an entry of a map's literal, the key a text -/
theorem o_insertS {kt et : TypeId} {d : TypeDesc} {es : Array MapEntry} {clock m : Nat} {key v : Value} {z : Operand} {c1 c2 : Option Prop} (hx : ev e x = .map (some m)) (hy : same (ev e y) = some (c1, key)) (hv : same (ev e z) = some (c2, v)) (hb : w.heap[m]? = some (.map es clock))
    (hr : Instr.findNow d key es.toList 0 = some none) (hu : P.underlying t = some (.map kt et)) (hk : P.underlying kt = some d) (hdd : d = .string ∨ ∃ k, d = .int k) (hd : dOk n dst = true) (hm : may all G e g = some true)
    (k : ∀ w', Upd w m (.map (es.push ⟨key, v, clock⟩) (clock + 1)) w' → Ops ro P n all G K l (put e dst undef) w') : Ops ro P n all G K (⟨dst, .insert t x y z, ty, pos, after, g⟩ :: l) e w := by
  refine ops_skips (w' := { w with heap := w.heap.setIfInBounds m (.map (es.push ⟨key, v, clock⟩) (clock + 1)) }) hd hm ?_ (k _ (upd_setObj hb))
  have hgo : (getObj m).run P w = .ok (.map es clock) w := by simp [getObj, Sem.run, hb]
  have hfk : (Instr.findKey kt key es.toList).run P w = .ok none w := by
    simp only [Instr.findKey, Sem.run_bind, run_underlying hk, Result.andThen_ok, hr, Sem.run_pure]
  have hso : ∀ o, (setObj m o).run P w = .ok () { w with heap := w.heap.setIfInBounds m o } := fun o => by simp [setObj, Sem.run, hb]
  simp only [execOp, Instr.mapUpdate, hx, ← same_eq hy, ← same_eq hv, Sem.run_bind, run_underlying hu, Result.andThen_ok, hgo, checkKey_run hk hdd, hfk, hso, Sem.run_pure]
end
/-- the words of a level, as a map's entries -/
def wordE : Nat → Array MapEntry
  | 0 => #[⟨S (opWord 19), I 19, 0⟩]
  | 1 => #[⟨S (opWord 18), I 18, 0⟩]
  | 3 => #[⟨S (opWord 5), I 5, 0⟩, ⟨S (opWord 6), I 6, 1⟩]
  | _ => #[⟨S (opWord 7), I 7, 0⟩]
def wordF (lvl : Nat) (s : List UInt8) : Option Int :=
  match lvl with
  | 0 => if s = opWord 19 then some 19 else none
  | 1 => if s = opWord 18 then some 18 else none
  | 3 => if s = opWord 5 then some 5 else if s = opWord 6 then some 6 else none
  | _ => if s = opWord 7 then some 7 else none
theorem beq_strQ (a b : List UInt8) : ((ByteArray.mk ⟨a⟩) == (ByteArray.mk ⟨b⟩)) = decide (a = b) := by
  have : ((ByteArray.mk ⟨a⟩) == (ByteArray.mk ⟨b⟩)) = ((Array.mk a) == (Array.mk b)) := rfl
  rw [this, Bool.eq_iff_iff]; simp
theorem same_str (a b : List UInt8) : Instr.sameNow .string (S a) (S b) = some (decide (a = b)) := by
  show some _ = some _
  rw [← beq_strQ]
theorem word_find (lvl : Nat) (s : List UInt8) : ∃ r : Option (Nat × Value), Instr.findNow .string (S s) (wordE lvl).toList 0 = some r ∧ (match wordF lvl s with | some v => ∃ i, r = some (i, I v) | none => r = none) := by
  have h1 : ∀ (k : Nat) (v : Int), ∃ r : Option (Nat × Value), Instr.findNow .string (S s) [⟨S (opWord k), I v, 0⟩] 0 = some r ∧ (match (if s = opWord k then some v else none) with | some v => ∃ i, r = some (i, I v) | none => r = none) := by
    intro k v
    simp only [Instr.findNow, same_str]
    by_cases c : s = opWord k
    · rw [if_pos c, decide_eq_true c]; exact ⟨_, rfl, _, rfl⟩
    · rw [if_neg c, decide_eq_false c]; exact ⟨_, rfl, rfl⟩
  unfold wordE wordF
  split
  · exact h1 19 19
  · exact h1 18 18
  · simp only [Instr.findNow, same_str]
    by_cases c : s = opWord 5
    · rw [if_pos c, decide_eq_true c]; exact ⟨_, rfl, _, rfl⟩
    · rw [if_neg c, decide_eq_false c]
      by_cases c2 : s = opWord 6
      · rw [if_pos c2, decide_eq_true c2]; exact ⟨_, rfl, _, rfl⟩
      · rw [if_neg c2, decide_eq_false c2]; exact ⟨_, rfl, rfl⟩
  · exact h1 7 7
theorem rowOp_eq {s : TS} (lvl : Nat) : rowOp lvl s = if s.hd.num < 0 then wordF lvl s.hd.text else none := by
  have e : ∀ (k : Nat), opWord k ≠ [] → s.is (opWord k) = (decide (s.hd.text = opWord k) && decide (s.hd.num < 0)) := fun k hk => is_hd hk
  unfold rowOp wordF
  by_cases c : s.hd.num < 0
  · rw [if_pos c]
    split <;> simp only [e 19 (by decide), e 18 (by decide), e 5 (by decide), e 6 (by decide), e 7 (by decide), c, decide_true, Bool.and_true, decide_eq_true_eq]
  · rw [if_neg c]
    split <;> simp [e 19 (by decide), e 18 (by decide), e 5 (by decide), e 6 (by decide), e 7 (by decide), c]
end Go.Vc
/- Query: row, and what reads rows. -/
namespace Go.Vc
open Go Go.Proofs
set_option maxRecDepth 10000
variable {w : World} {p : Nat} {txt : List UInt8} {s : TS}
/-- a reading function does as the model says -/
def RdOk (n lvl : Nat) (f : FuncId) : Prop := ∀ {w : World} {p : Nat} {txt : List UInt8} {s : TS}, AscW w → p ≠ 0 → PAt w p txt s → txt.length ≤ 4096 → s.len ≤ 4096 → 10 * s.len + 7 ≤ n + lvl →
  RetP Tryz.prog f [ptr p] w (fun v w' => ∃ t s', rd n lvl s = .ok (t, s') ∧ (∃ q, v = ptr q ∧ TreeAt zsh (p + 1) w' t q) ∧ PAt w' p txt s' ∧ Kp [p] w w') (OutE (rd n lvl s) p w)
theorem rd_row {n lvl : Nat} (hl : lvl = 0 ∨ lvl = 1 ∨ lvl = 3 ∨ lvl = 4) : rd (n + 1) lvl s = (rd n (subLvl lvl) s >>= fun x => rw n lvl x.1 x.2) := by
  rcases hl with rfl | rfl | rfl | rfl <;> rfl
theorem rw_none {m lvl : Nat} {t : QT} (h : rowOp lvl s = none) : rw (m + 1) lvl t s = .ok (t, s) := by
  rw [rw, h]
theorem rw_some {m lvl : Nat} {t : QT} {op : Int} (h : rowOp lvl s = some op) : rw (m + 1) lvl t s = (adv s >>= fun s => rd m (subLvl lvl) s >>= fun x => rw m lvl (.n2 op 0 [] t x.1) x.2) := by
  rw [rw, h]
theorem pos_lt {w : World} {k : Tok} {i : Nat} (h : PB w p txt i k) : p < w.heap.size := Blk.lt h
/-- a node above two -/
theorem n2_at {w3 w5 : World} {q q2 b p' : Nat} {t u : QT} {op : Int} (ht : TreeAt zsh (p + 1) w3 t q) (hu : TreeAt zsh (p + 1) w3 u q2) (k35 : Kp [] w3 w5) (hb : p + 1 ≤ b) (hr : ReadS w5 (some ⟨b, 0, none⟩) [ptr q, ptr q2]) (hp' : p + 1 ≤ p')
    (hB : TBlk zsh w5 p' op (1 + sumS [(q, t), (q2, u)] : Nat) 0 [] (.slice (some ⟨b, 0, none⟩) 2 2)) : TreeAt zsh (p + 1) w5 (.n2 op 0 [] t u) p' := by
  refine ⟨hp', some ⟨b, 0, none⟩, 2, q, q2, ?_, hr, by simp [blkOf]; exact hb, ht.kp k35 (by simp), hu.kp k35 (by simp)⟩
  have e : 1 + sumS [(q, t), (q2, u)] = 1 + t.size + u.size := by simp [sumS]; omega
  rw [e] at hB
  exact hB
set_option maxHeartbeats 6400000 in
theorem row_ret {n lvl : Nat} {f : FuncId} {mm c : Nat} (hl : lvl = 0 ∨ lvl = 1 ∨ lvl = 3 ∨ lvl = 4) (ih : ∀ m, m ≤ n → RdOk m (subLvl lvl) f) (hA : AscW w) (hpg : p ≠ 0) (h : PAt w p txt s) (htl : txt.length ≤ 4096) (hsl : s.len ≤ 4096) (hn : 10 * s.len + 7 ≤ n + 1 + lvl)
    (hm : w.heap[mm]? = some (.map (wordE lvl) c)) (hmp : mm ≠ p) :
    RetP Tryz.prog 81 [ptr p, .func (.func f) #[ptr p] #[], .map (some mm)] w (fun v w' => ∃ t s', rd (n + 1) lvl s = .ok (t, s') ∧ (∃ q, v = ptr q ∧ TreeAt zsh (p + 1) w' t q) ∧ PAt w' p txt s' ∧ Kp [p] w w') (OutE (rd (n + 1) lvl s) p w) := by
  have hrd := rd_row (n := n) (s := s) hl
  have hmlt : mm < w.heap.size := (Array.getElem?_eq_some_iff.1 hm).1
  have hpl := pos_lt h.pb
  have hsub : subLvl lvl = lvl + 1 := by rcases hl with rfl | rfl | rfl | rfl <;> rfl
  refine enterP Tryz.call81 Tryz.func81 rfl rfl rfl rfl ?_
  (repeat first|refine zA ?_|refine zg ?_|refine zo rfl rfl trivial ?_|refine zn ?_)
  refine o_callvP (first := #[ptr p]) (cap := #[]) (ih n (Nat.le_refl _) hA hpg h htl hsl (by rw [hsub]; omega)) rfl rfl rfl rfl (fun v w' hE => ?_) ?_
  · obtain ⟨c1, i1, h1, h2, h3⟩ := hE
    exact ⟨c1, i1, by rw [hrd, h1]; rfl, h2, h3⟩
  rintro v w1 ⟨t, s1, h1, ⟨q, rfl, hT⟩, hP, k1⟩
  have hz := (rd_size n).1 _ _ _ _ h1
  rw [h1] at hrd
  have hrd : rd (n + 1) lvl s = rw n lvl t s1 := hrd
  have htp := t.size_pos
  (repeat first|refine zo rfl rfl trivial ?_|refine zn ?_|refine zb ?_)
  refine r_loop (α := Nat × QT × TS × Nat) [0, 1, 2, 7] (fun x => [ptr p, .func (.func f) #[ptr p] #[], .map (some mm), ptr x.2.2.2])
    (fun x W => rd (n + 1) lvl s = rw x.1 lvl x.2.1 x.2.2.1 ∧ x.1 ≤ n ∧ 10 * x.2.2.1.len + 1 ≤ x.1 ∧ TreeAt zsh (p + 1) W x.2.1 x.2.2.2 ∧ PAt W p txt x.2.2.1 ∧ Kp [p] w W ∧ x.2.1.size + x.2.2.1.len ≤ s.len) (fun x => x.1) (n, t, s1, q) rfl ⟨hrd, Nat.le_refl _, by dsimp only; omega, hT, hP, k1, hz⟩ ?_
  clear hT hP k1 hz htp h1 hrd
  rintro ⟨m, t, s1, q⟩ e W ⟨hrd, hmn, hnd, hT, hP, kW, hz⟩
  dsimp only at hrd hmn hnd hT hP hz ⊢
  obtain ⟨m', rfl⟩ : ∃ m', m = m' + 1 := ⟨m - 1, by omega⟩
  have hmW : W.heap[mm]? = some (.map (wordE lvl) c) := by rw [kW.at_ mm hmlt (by simpa using hmp)]; exact hm
  have hB := hP.pb
  obtain ⟨r, hr, hw⟩ := word_find lvl s1.hd.text
  have hro := rowOp_eq (s := s1) lvl
  (repeat first|refine zA ?_|refine zg ?_|refine zo rfl rfl trivial ?_|refine zb ?_|refine o_load rfl hB rfl rfl rfl rfl rfl ?_)
  refine o_lookup2 r rfl rfl hmW hr rfl rfl (.inl rfl) rfl rfl rfl rfl ?_
  cases hwf : wordF lvl s1.hd.text with
  | none =>
    rw [hwf] at hw hro
    have hw : r = none := hw
    subst hw
    have hro : rowOp lvl s1 = none := by rw [hro]; split <;> rfl
    (repeat first|refine zA ?_|refine zB ?_|refine zg ?_|refine zo rfl rfl trivial ?_|refine zn ?_|refine zr ?_|refine zT rfl rfl rfl ?_|refine zt rfl ?_)
    exact ⟨_, rfl, t, s1, by rw [hrd, rw_none hro], ⟨q, rfl, hT⟩, hP, kW⟩
  | some v =>
    rw [hwf] at hw hro
    obtain ⟨i, hw⟩ : ∃ i, r = some (i, I v) := hw
    subst hw
    (repeat first|refine zA ?_|refine zB ?_|refine zg ?_|refine zo rfl rfl trivial ?_|refine zn ?_|refine zU rfl rfl rfl ?_|refine o_load rfl hB rfl rfl rfl rfl rfl ?_)
    refine r_if rfl (fun h0 => ?_) (fun h0 => ?_)
    · have hro : rowOp lvl s1 = none := by rw [hro, if_neg (by omega)]
      (repeat first|refine zA ?_|refine zg ?_|refine zo rfl rfl trivial ?_|refine zn ?_|refine zr ?_)
      exact ⟨_, rfl, t, s1, by rw [hrd, rw_none hro], ⟨q, rfl, hT⟩, hP, kW⟩
    · have hro : rowOp lvl s1 = some v := by rw [hro, if_pos (by omega)]
      have hl1 := rowOp_len hro
      rw [rw_some hro] at hrd
      (repeat first|refine zA ?_|refine zg ?_|refine zo rfl rfl trivial ?_|refine zk ?_)
      refine o_callP (adv_ret hP htl) rfl rfl rfl (fun v w' hE => ?_) ?_
      · obtain ⟨c1, i1, h1, h2, h3⟩ := hE
        exact ⟨c1, i1, by rw [hrd, h1]; rfl, h2, kW.trans h3⟩
      rintro v' w2 ⟨rfl, ⟨s2, h2, hP2⟩, k2⟩
      rw [h2] at hrd
      have hrd : rd (n + 1) lvl s = (rd m' (subLvl lvl) s2 >>= fun x => rw m' lvl (.n2 v 0 [] t x.1) x.2) := hrd
      have hl2 := (adv_len h2).1
      have kW2 := kW.trans k2
      (repeat first|refine zg ?_|refine zo rfl rfl trivial ?_|refine zn ?_)
      refine o_callvP (first := #[ptr p]) (cap := #[]) (ih m' (by omega) (hA.kp kW2 (by simpa using Ne.symm hpg)) hpg hP2 htl (by omega) (by rw [hsub]; omega)) rfl rfl rfl rfl (fun v w' hE => ?_) ?_
      · obtain ⟨c1, i1, h1, h2, h3⟩ := hE
        exact ⟨c1, i1, by rw [hrd, h1]; rfl, h2, kW2.trans h3⟩
      rintro v' w3 ⟨u, s3, h3, ⟨q2, rfl, hT3⟩, hP3, k3⟩
      have hz3 := (rd_size m').1 _ _ _ _ h3
      rw [h3] at hrd
      have hrd : rd (n + 1) lvl s = rw m' lvl (.n2 v 0 [] t u) s3 := hrd
      have htp := t.size_pos
      have hup := u.size_pos
      have kW3 := kW2.trans k3
      have hTt := (hT.kp k2 (by simp)).kp k3 (by simp)
      have hsz3 := kW3.size
      refine o_buildSlice [ptr q, ptr q2] rfl (by simp [Value.oneCell']) rfl (by decide) (by decide) rfl rfl rfl rfl rfl ?_
      intro b w4 hb hu4
      have k4 : Kp [] w3 w4 := hu4.kp [] (.inr (by omega))
      have hr4 : ReadS w4 (some ⟨b, 0, none⟩) [ptr q, ptr q2] := fun i v hv => by rw [addr_lit, Nat.zero_add]; exact hu4.blk.cell hv
      refine o_call (made_ret v 0 [] [(q, t), (q2, u)] hr4 (by simp; exact ⟨⟨_, _, hTt.kp k4 (by simp)⟩, ⟨_, _, hT3.kp k4 (by simp)⟩⟩) (by simp [sumS]; omega) (by simp)) rfl rfl rfl ?_
      rintro v' w5 ⟨p', rfl, hp', hB5, k5⟩
      have hs4 := k4.size
      (repeat first|refine zo rfl rfl trivial ?_|refine zn ?_)
      exact ⟨(m', .n2 v 0 [] t u, s3, p'), rfl, ⟨hrd, by dsimp only; omega, by dsimp only; omega, n2_at hTt hT3 (k4.trans k5) (by omega) (hr4.kp k5 (by simp)) (by dsimp only; omega) hB5, (hP3.kp k4 (by simp)).kp k5 (by simp), (kW3.trans (k4.mono (by simp))).trans (k5.mono (by simp)), by simp only [QT.size]; omega⟩, by dsimp only; omega⟩
end Go.Vc
/- Query: what reads rows: question, conjunction, sum, term. -/
namespace Go.Vc
open Go Go.Proofs
set_option maxRecDepth 10000
theorem question_ok {n : Nat} (ih : ∀ m, m ≤ n → RdOk m 1 82) : RdOk (n + 1) 0 42 := by
  intro w p txt s hA hpg h htl hsl hn
  have hpl := pos_lt h.pb
  refine enterP Tryz.call42 Tryz.func42 rfl rfl rfl rfl ?_
  (repeat first|refine zA ?_|refine zg ?_|refine zo rfl rfl trivial ?_|refine zn ?_)
  refine o_makeMap rfl rfl ?_
  intro mm w1 hmm hu0
  have k0 : Kp [] w w1 := hu0.kp [] (.inr (by omega))
  refine o_insertS (key := S (opWord 19)) (v := I 19) rfl rfl rfl hu0.at_ rfl rfl rfl (.inl rfl) rfl rfl ?_
  intro w2 hu1
  have k1 : Kp [] w w2 := k0.since (hu1.kp [mm] (.inl (by simp))) (by simp; omega)
  (repeat refine zo rfl rfl trivial ?_)
  refine o_callP (row_ret (lvl := 0) (n := n) (.inl rfl) ih (hA.kp k1 (by simp)) hpg (h.kp k1 (by simp)) htl hsl (by omega) hu1.at_ (by omega)) rfl rfl rfl (fun v w' hE => ?_) ?_
  · obtain ⟨c1, i1, h1, h2, h3⟩ := hE
    exact ⟨c1, i1, h1, h2, (k1.mono (by simp)).trans h3⟩
  rintro v w' ⟨t, s', h1, h2, h3, h4⟩
  obtain ⟨q, rfl, hT⟩ := h2
  (repeat first|refine zo rfl rfl trivial ?_|refine zn ?_|refine zr ?_)
  exact ⟨_, rfl, t, s', h1, ⟨q, rfl, hT⟩, h3, (k1.mono (by simp)).trans h4⟩
theorem conjunction_ok {n : Nat} (ih : ∀ m, m ≤ n → RdOk m 2 123) : RdOk (n + 1) 1 82 := by
  intro w p txt s hA hpg h htl hsl hn
  have hpl := pos_lt h.pb
  refine enterP Tryz.call82 Tryz.func82 rfl rfl rfl rfl ?_
  (repeat first|refine zA ?_|refine zg ?_|refine zo rfl rfl trivial ?_|refine zn ?_)
  refine o_makeMap rfl rfl ?_
  intro mm w1 hmm hu0
  have k0 : Kp [] w w1 := hu0.kp [] (.inr (by omega))
  refine o_insertS (key := S (opWord 18)) (v := I 18) rfl rfl rfl hu0.at_ rfl rfl rfl (.inl rfl) rfl rfl ?_
  intro w2 hu1
  have k1 : Kp [] w w2 := k0.since (hu1.kp [mm] (.inl (by simp))) (by simp; omega)
  (repeat refine zo rfl rfl trivial ?_)
  refine o_callP (row_ret (lvl := 1) (n := n) (.inr (.inl rfl)) ih (hA.kp k1 (by simp)) hpg (h.kp k1 (by simp)) htl hsl (by omega) hu1.at_ (by omega)) rfl rfl rfl (fun v w' hE => ?_) ?_
  · obtain ⟨c1, i1, h1, h2, h3⟩ := hE
    exact ⟨c1, i1, h1, h2, (k1.mono (by simp)).trans h3⟩
  rintro v w' ⟨t, s', h1, h2, h3, h4⟩
  obtain ⟨q, rfl, hT⟩ := h2
  (repeat first|refine zo rfl rfl trivial ?_|refine zn ?_|refine zr ?_)
  exact ⟨_, rfl, t, s', h1, ⟨q, rfl, hT⟩, h3, (k1.mono (by simp)).trans h4⟩
theorem sum_ok {n : Nat} (ih : ∀ m, m ≤ n → RdOk m 4 184) : RdOk (n + 1) 3 157 := by
  intro w p txt s hA hpg h htl hsl hn
  have hpl := pos_lt h.pb
  refine enterP Tryz.call157 Tryz.func157 rfl rfl rfl rfl ?_
  (repeat first|refine zA ?_|refine zg ?_|refine zo rfl rfl trivial ?_|refine zn ?_)
  refine o_makeMap rfl rfl ?_
  intro mm w1 hmm hu0
  have k0 : Kp [] w w1 := hu0.kp [] (.inr (by omega))
  refine o_insertS (key := S (opWord 5)) (v := I 5) rfl rfl rfl hu0.at_ rfl rfl rfl (.inl rfl) rfl rfl ?_
  intro w2 hu1
  have k1 : Kp [] w w2 := k0.since (hu1.kp [mm] (.inl (by simp))) (by simp; omega)
  refine o_insertS (key := S (opWord 6)) (v := I 6) rfl rfl rfl hu1.at_ rfl rfl rfl (.inl rfl) rfl rfl ?_
  intro w3 hu2
  have k2 : Kp [] w w3 := k1.since (hu2.kp [mm] (.inl (by simp))) (by simp; omega)
  (repeat refine zo rfl rfl trivial ?_)
  refine o_callP (row_ret (lvl := 3) (n := n) (.inr (.inr (.inl rfl))) ih (hA.kp k2 (by simp)) hpg (h.kp k2 (by simp)) htl hsl (by omega) hu2.at_ (by omega)) rfl rfl rfl (fun v w' hE => ?_) ?_
  · obtain ⟨c1, i1, h1, h2, h3⟩ := hE
    exact ⟨c1, i1, h1, h2, (k2.mono (by simp)).trans h3⟩
  rintro v w' ⟨t, s', h1, h2, h3, h4⟩
  obtain ⟨q, rfl, hT⟩ := h2
  (repeat first|refine zo rfl rfl trivial ?_|refine zn ?_|refine zr ?_)
  exact ⟨_, rfl, t, s', h1, ⟨q, rfl, hT⟩, h3, (k2.mono (by simp)).trans h4⟩
theorem term_ok {n : Nat} (ih : ∀ m, m ≤ n → RdOk m 5 197) : RdOk (n + 1) 4 184 := by
  intro w p txt s hA hpg h htl hsl hn
  have hpl := pos_lt h.pb
  refine enterP Tryz.call184 Tryz.func184 rfl rfl rfl rfl ?_
  (repeat first|refine zA ?_|refine zg ?_|refine zo rfl rfl trivial ?_|refine zn ?_)
  refine o_makeMap rfl rfl ?_
  intro mm w1 hmm hu0
  have k0 : Kp [] w w1 := hu0.kp [] (.inr (by omega))
  refine o_insertS (key := S (opWord 7)) (v := I 7) rfl rfl rfl hu0.at_ rfl rfl rfl (.inl rfl) rfl rfl ?_
  intro w2 hu1
  have k1 : Kp [] w w2 := k0.since (hu1.kp [mm] (.inl (by simp))) (by simp; omega)
  (repeat refine zo rfl rfl trivial ?_)
  refine o_callP (row_ret (lvl := 4) (n := n) (.inr (.inr (.inr rfl))) ih (hA.kp k1 (by simp)) hpg (h.kp k1 (by simp)) htl hsl (by omega) hu1.at_ (by omega)) rfl rfl rfl (fun v w' hE => ?_) ?_
  · obtain ⟨c1, i1, h1, h2, h3⟩ := hE
    exact ⟨c1, i1, h1, h2, (k1.mono (by simp)).trans h3⟩
  rintro v w' ⟨t, s', h1, h2, h3, h4⟩
  obtain ⟨q, rfl, hT⟩ := h2
  (repeat first|refine zo rfl rfl trivial ?_|refine zn ?_|refine zr ?_)
  exact ⟨_, rfl, t, s', h1, ⟨q, rfl, hT⟩, h3, (k1.mono (by simp)).trans h4⟩
end Go.Vc
/- Query: simple. -/
namespace Go.Vc
open Go Go.Proofs
set_option maxRecDepth 10000
variable {w : World} {p : Nat} {txt : List UInt8} {s : TS}
theorem rd_simple {n : Nat} : rd (n + 1) 2 s = if s.is (opWord 17) then (adv s >>= fun s => rd n 2 s >>= fun x => .ok (.n1 17 0 [] x.1, x.2)) else (rd n 3 s >>= fun x => match cmpOp x.2 with
    | some op => adv x.2 >>= fun s => rd n 3 s >>= fun y => .ok (.n2 op 0 [] x.1 y.1, y.2)
    | none => .ok x) := by
  rw [rd]
  split
  · rfl
  · congr 1
theorem cmp_some {k : Nat} (h1 : 11 ≤ k) (h2 : k ≤ 16) (hk : s.is (opWord k) = true) (hj : ∀ j, 11 ≤ j → j < k → s.is (opWord j) = false) : cmpOp s = some k := by
  unfold cmpOp
  have : k = 11 ∨ k = 12 ∨ k = 13 ∨ k = 14 ∨ k = 15 ∨ k = 16 := by omega
  rcases this with rfl | rfl | rfl | rfl | rfl | rfl
  · simp only [List.find?_cons, hk]
  · simp only [List.find?_cons, hk, hj 11 (by omega) (by omega)]
  · simp only [List.find?_cons, hk, hj 11 (by omega) (by omega), hj 12 (by omega) (by omega)]
  · simp only [List.find?_cons, hk, hj 11 (by omega) (by omega), hj 12 (by omega) (by omega), hj 13 (by omega) (by omega)]
  · simp only [List.find?_cons, hk, hj 11 (by omega) (by omega), hj 12 (by omega) (by omega), hj 13 (by omega) (by omega), hj 14 (by omega) (by omega)]
  · simp only [List.find?_cons, hk, hj 11 (by omega) (by omega), hj 12 (by omega) (by omega), hj 13 (by omega) (by omega), hj 14 (by omega) (by omega), hj 15 (by omega) (by omega)]
theorem cmp_none (hj : ∀ j, 11 ≤ j → j < 17 → s.is (opWord j) = false) : cmpOp s = none := by
  unfold cmpOp
  simp only [List.find?_cons, List.find?_nil, hj 11 (by omega) (by omega), hj 12 (by omega) (by omega), hj 13 (by omega) (by omega), hj 14 (by omega) (by omega), hj 15 (by omega) (by omega), hj 16 (by omega) (by omega)]
theorem opWord_ne {k : Nat} (h1 : 3 ≤ k) (h2 : k ≤ 26) : opWord k ≠ [] := by
  have h : ∀ k ∈ List.range 27, 3 ≤ k → opWord k ≠ [] := by decide
  exact h k (List.mem_range.2 (by omega)) h1
/-- a node above one -/
theorem n1_at {w3 w5 : World} {q b p' : Nat} {t : QT} {op num : Int} {name : List UInt8} (ht : TreeAt zsh (p + 1) w3 t q) (k35 : Kp [] w3 w5) (hb : p + 1 ≤ b) (hr : ReadS w5 (some ⟨b, 0, none⟩) [ptr q]) (hp' : p + 1 ≤ p')
    (hB : TBlk zsh w5 p' op (1 + sumS [(q, t)] : Nat) num name (.slice (some ⟨b, 0, none⟩) 1 1)) : TreeAt zsh (p + 1) w5 (.n1 op num name t) p' := by
  refine ⟨hp', some ⟨b, 0, none⟩, 1, q, ?_, hr, by simp [blkOf]; exact hb, ht.kp k35 (by simp)⟩
  have e : 1 + sumS [(q, t)] = 1 + t.size := by simp [sumS]
  rw [e] at hB
  exact hB
set_option maxHeartbeats 6400000 in
theorem simple_ok {n : Nat} (ih2 : RdOk n 2 123) (ih3 : RdOk n 3 157) : RdOk (n + 1) 2 123 := by
  intro w p txt s hA hpg h htl hsl hn
  have hpl := pos_lt h.pb
  have hrd := rd_simple (n := n) (s := s)
  refine enterP Tryz.call123 Tryz.func123 rfl rfl rfl rfl ?_
  (repeat first|refine zA ?_|refine zB ?_|refine zg ?_|refine zo rfl rfl trivial ?_|refine zn ?_)
  refine o_callP (is_ret (word := opWord 17) (by decide) h htl) rfl rfl rfl (fun v w' hE => ?_) ?_
  · obtain ⟨h0, c1, i1, h1, h2, h3⟩ := hE
    exact ⟨c1, i1, by rw [hrd, if_pos h0, h1]; rfl, h2, h3⟩
  rintro v w1 ⟨k1, ⟨h1, rfl, s1, h2, hP1⟩ | ⟨h1, rfl, hP1⟩⟩
  · rw [if_pos h1, h2] at hrd
    have hrd : rd (n + 1) 2 s = (rd n 2 s1 >>= fun x => .ok (.n1 17 0 [] x.1, x.2)) := hrd
    have hl1 := is_len h1
    have hl2 := (adv_len h2).1
    (repeat first|refine zA ?_|refine zg ?_|refine zo rfl rfl trivial ?_|refine zn ?_|refine zt rfl ?_)
    refine o_callP (ih2 (hA.kp k1 (by simpa using Ne.symm hpg)) hpg hP1 htl (by omega) (by omega)) rfl rfl rfl (fun v w' hE => ?_) ?_
    · obtain ⟨c1, i1, g1, g2, g3⟩ := hE
      exact ⟨c1, i1, by rw [hrd, g1]; rfl, g2, k1.trans g3⟩
    rintro v w2 ⟨t, s2, h3, ⟨q, rfl, hT⟩, hP2, k2⟩
    rw [h3] at hrd
    have hz := (rd_size n).1 _ _ _ _ h3
    have kW := k1.trans k2
    have hsz := kW.size
    refine o_buildSlice [ptr q] rfl (by simp [Value.oneCell']) rfl (by decide) (by decide) rfl rfl rfl rfl rfl ?_
    intro b w4 hb hu4
    have k4 : Kp [] w2 w4 := hu4.kp [] (.inr (by omega))
    have hr4 : ReadS w4 (some ⟨b, 0, none⟩) [ptr q] := fun i v hv => by rw [addr_lit, Nat.zero_add]; exact hu4.blk.cell hv
    refine o_call (made_ret 17 0 [] [(q, t)] hr4 (by simp; exact ⟨_, _, hT.kp k4 (by simp)⟩) (by simp [sumS]; omega) (by simp)) rfl rfl rfl ?_
    rintro v' w5 ⟨p', rfl, hp', hB5, k5⟩
    have hs4 := k4.size
    (repeat first|refine zo rfl rfl trivial ?_|refine zn ?_|refine zr ?_)
    exact ⟨_, rfl, _, s2, hrd, ⟨p', rfl, n1_at hT (k4.trans k5) (by omega) (hr4.kp k5 (by simp)) (by omega) hB5⟩, (hP2.kp k4 (by simp)).kp k5 (by simp), (kW.trans (k4.mono (by simp))).trans (k5.mono (by simp))⟩
  · rw [if_neg (by rw [h1]; simp)] at hrd
    (repeat first|refine zA ?_|refine zg ?_|refine zo rfl rfl trivial ?_|refine zn ?_|refine zk ?_|refine zf rfl ?_)
    refine o_callP (ih3 (hA.kp k1 (by simpa using Ne.symm hpg)) hpg hP1 htl (by omega) (by omega)) rfl rfl rfl (fun v w' hE => ?_) ?_
    · obtain ⟨c1, i1, g1, g2, g3⟩ := hE
      exact ⟨c1, i1, by rw [hrd, g1]; rfl, g2, k1.trans g3⟩
    rintro v w2 ⟨t, s2, h3, ⟨q, rfl, hT⟩, hP2, k2⟩
    rw [h3] at hrd
    have hz := (rd_size n).1 _ _ _ _ h3
    have htp := t.size_pos
    have kW := k1.trans k2
    have hsz := kW.size
    have hrd : rd (n + 1) 2 s = (match cmpOp s2 with
      | some op => adv s2 >>= fun s => rd n 3 s >>= fun y => .ok (.n2 op 0 [] t y.1, y.2)
      | none => .ok (t, s2)) := hrd
    (repeat first|refine zA ?_|refine zB ?_|refine zg ?_|refine zo rfl rfl trivial ?_|refine zn ?_|refine zb ?_)
    refine r_loop (α := Nat) [0, 3, 4] (fun k => [ptr p, ptr q, I k]) (fun k W => 11 ≤ k ∧ k ≤ 17 ∧ Kp [p] w2 W ∧ PAt W p txt s2 ∧ ∀ j, 11 ≤ j → j < k → s2.is (opWord j) = false) (fun k => 17 - k) 11 rfl ⟨by omega, by omega, Kp.refl _ _, hP2, by omega⟩ ?_
    rintro k e W ⟨hk1, hk2, kk, hPk, hj⟩
    (repeat first|refine zA ?_|refine zB ?_|refine zg ?_|refine zo rfl rfl trivial ?_|refine zn ?_)
    refine r_if rfl (fun hc => ?_) (fun hc => ?_)
    · have hk3 : k ≤ 16 := by omega
      (repeat first|refine zA ?_|refine zC ?_|refine zg ?_|refine zo rfl rfl trivial ?_|refine zb ?_|refine zk ?_)
      refine o_call shapes_ret rfl rfl rfl ?_
      rintro v w3 ⟨rfl, hr, k3⟩
      (repeat refine zo rfl rfl (by first|exact trivial|(simp only[AllP];omega)) ?_)
      refine o_loadc (v := S (opWord k)) rfl (by
        have h := hr (k * 6 + 0) _ (flC_get (f := shO) (m := 6) (j := 0) shO_len (List.getElem?_range (show k < 27 by omega)) rfl)
        rw [addr_lit] at h
        rw [← h]; congr 2) rfl rfl rfl rfl ?_
      have kk3 := kk.trans (k3.mono (S' := [p]) (by simp))
      refine o_callP (is_ret (word := opWord k) (opWord_ne (by omega) (by omega)) (hPk.kp k3 (by simp)) htl) rfl rfl rfl (fun v w' hE => ?_) ?_
      · obtain ⟨h0, c1, i1, g1, g2, g3⟩ := hE
        exact ⟨c1, i1, by rw [hrd, cmp_some hk1 hk3 h0 hj]; dsimp only; rw [g1]; rfl, g2, (kW.trans kk3).trans g3⟩
      rintro v w4 ⟨k4, ⟨g1, rfl, s4, g2, hP4⟩ | ⟨g1, rfl, hP4⟩⟩
      · have hop := cmp_some hk1 hk3 g1 hj
        rw [hop] at hrd
        dsimp only at hrd
        rw [g2] at hrd
        have hrd : rd (n + 1) 2 s = (rd n 3 s4 >>= fun y => .ok (.n2 k 0 [] t y.1, y.2)) := hrd
        have hl1 := is_len g1
        have hl2 := (adv_len g2).1
        have kW4 := (kW.trans kk3).trans k4
        (repeat first|refine zA ?_|refine zg ?_|refine zo rfl rfl trivial ?_|refine zn ?_|refine zt rfl ?_)
        refine o_callP (ih3 (hA.kp kW4 (by simpa using Ne.symm hpg)) hpg hP4 htl (by omega) (by omega)) rfl rfl rfl (fun v w' hE => ?_) ?_
        · obtain ⟨c1, i1, g1, g2, g3⟩ := hE
          exact ⟨c1, i1, by rw [hrd, g1]; rfl, g2, kW4.trans g3⟩
        rintro v w5 ⟨u, s5, h5, ⟨q2, rfl, hT5⟩, hP5, k5⟩
        rw [h5] at hrd
        have hz5 := (rd_size n).1 _ _ _ _ h5
        have hup := u.size_pos
        have hTt : TreeAt zsh (p + 1) w5 t q := (hT.kp (kk3.trans k4) (by simp)).kp k5 (by simp)
        have kW5 := kW4.trans k5
        have hsz5 := kW5.size
        refine o_buildSlice [ptr q, ptr q2] rfl (by simp [Value.oneCell']) rfl (by decide) (by decide) rfl rfl rfl rfl rfl ?_
        intro b w6 hb hu6
        have k6 : Kp [] w5 w6 := hu6.kp [] (.inr (by omega))
        have hr6 : ReadS w6 (some ⟨b, 0, none⟩) [ptr q, ptr q2] := fun i v hv => by rw [addr_lit, Nat.zero_add]; exact hu6.blk.cell hv
        refine o_call (made_ret k 0 [] [(q, t), (q2, u)] hr6 (by simp; exact ⟨⟨_, _, hTt.kp k6 (by simp)⟩, ⟨_, _, hT5.kp k6 (by simp)⟩⟩) (by simp [sumS]; omega) (by simp)) rfl rfl rfl ?_
        rintro v' w7 ⟨p', rfl, hp', hB7, k7⟩
        have hs6 := k6.size
        (repeat first|refine zo rfl rfl trivial ?_|refine zn ?_|refine zr ?_)
        exact ⟨_, rfl, _, s5, hrd, ⟨p', rfl, n2_at hTt hT5 (k6.trans k7) (by omega) (hr6.kp k7 (by simp)) (by omega) hB7⟩, (hP5.kp k6 (by simp)).kp k7 (by simp), (kW5.trans (k6.mono (by simp))).trans (k7.mono (by simp))⟩
      · (repeat first|refine zg ?_|refine zo rfl rfl (by first|exact trivial|(simp only[AllP];omega)) ?_|refine zn ?_|refine zk ?_|refine zf rfl ?_)
        exact ⟨k + 1, rfl, ⟨by omega, by omega, kk3.trans k4, hP4, fun j h1 h2 => by
          by_cases c : j = k
          · subst c; exact g1
          · exact hj j h1 (by omega)⟩, by omega⟩
    · have : k = 17 := by omega
      subst this
      rw [cmp_none hj] at hrd
      (repeat first|refine zA ?_|refine zg ?_|refine zo rfl rfl trivial ?_|refine zn ?_|refine ze rfl ?_|refine zr ?_)
      exact ⟨_, rfl, t, s2, hrd, ⟨q, rfl, hT.kp kk (by simp)⟩, hPk, kW.trans kk⟩
end Go.Vc
