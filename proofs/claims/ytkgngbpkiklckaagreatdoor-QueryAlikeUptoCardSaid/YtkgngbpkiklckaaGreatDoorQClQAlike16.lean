/- Query: what begins with an operation's word. -/
import Derived.Test.YtkgngbpkiklckaaGreatDoorQClQAlike15
namespace Go.Vc
open Go Go.Proofs
set_option maxRecDepth 10000
section
variable {P : Program} {n : Nat} {w : World} {e : Env} {K : EPost} {all : List Oper} {G : List Nat} {ro : Ro} {dst : Option Tmp} {ty : TypeId} {pos : String} {after : Array Edge} {g : Option (Nat × Bool)} {l : List Oper} {t : TypeId} {x y : Operand}
/-- append to a row that is full: new memory -/
theorem o_appendF {T : TypeId} {td : TypeDesc} {tn : String} {size tby : Nat} {thp : Bool} {tal tfa : Nat} {z : Value} {tcm : Bool} {tms : Array Method}
    {b k : Nat} {xs : List Value} {ay : Addr} {m cy : Nat} (news : List Value)
    (hx : ev e x = .slice (some ⟨b, 0, none⟩) k k) (hy : ev e y = .slice (some ay) m cy) (ho : OwnS w T size (some ⟨b, 0, none⟩) k k xs) (hn : ∀ j v, news[j]? = some v → w.cell? (ay.add j) = some v)
    (hu : P.underlying t = some (.slice T)) (hi : P.info? T = some ⟨td, tn, size, tby, thp, tal, tfa, some z, tcm, tms⟩) (hzs : z.cells.size = size) (hsz : 0 < size)
    (hl : news.length = m * size) (hm0 : 0 < m) (h63 : k + m ≤ maxLen) (hby : (k + m) * tby ≤ 140737488355328) (hd : dOk n dst = true) (hm : may all G e g = some true)
    (kk : ∀ b' cap' w', OwnS w' T size (some ⟨b', 0, none⟩) (k + m) cap' (xs ++ news) → Kp [] w w' → w.heap.size ≤ b' → Ops ro P n all G K l (put e dst (.slice (some ⟨b', 0, none⟩) (k + m) cap')) w') :
    Ops ro P n all G K (⟨dst, .call ⟨.builtin .append, #[x, y], #[t, t]⟩, ty, pos, after, g⟩ :: l) e w := by
  have hlen : (xs ++ news).length = (k + m) * size := by rw [List.length_append, ho.1, hl, Nat.add_mul]
  have hsmall : k + m ≤ 9223372036854775807 := by simp only [maxLen] at h63; omega
  obtain ⟨_, _, _, _, junk, hB, hjl⟩ := ho.2
  have holds : ∀ j v, xs[j]? = some v → w.cell? ((⟨b, 0, none⟩ : Addr).add j) = some v := fun j v hv => by
    rw [addr_lit, Nat.zero_add]; exact hB.cell (by rw [List.getElem?_append_left (List.getElem?_eq_some_iff.1 hv).1]; exact hv)
  have hr := run_append_grow (P := P) w t ty T _ z hu hi rfl ⟨b, 0, none⟩ k k xs ho.1 holds ay m cy news hl hn (by omega) (by omega) (growslice_fits (by omega) hby)
  have hge := grownCap_ge w (k + m) k T
  have hcm := grownCap_le_maxLen w (k + m) k T h63
  have hup := upd_alloc w.drew (.cells (xs.toArray ++ news.toArray ++ Builtin.zeroCells z.cells (grownCap w (k + m) k T - (k + m))) T)
  have e1 : xs.toArray ++ news.toArray ++ Builtin.zeroCells z.cells (grownCap w (k + m) k T - (k + m)) = ⟨xs ++ news ++ (Builtin.zeroCells z.cells (grownCap w (k + m) k T - (k + m))).toList⟩ := by apply Array.ext'; simp
  rw [e1] at hup hr
  refine ops_does (w' := w.drew.alloc (.cells ⟨xs ++ news ++ (Builtin.zeroCells z.cells (grownCap w (k + m) k T - (k + m))).toList⟩ T)) hd hm ?_ (kk w.heap.size _ _ ⟨hlen, rfl, rfl, hge, hcm, _, hup.at_, ?_⟩ (hup.drew.kp _ (.inr (Nat.le_refl _))) (Nat.le_refl _))
  · simp only [execOp, resolve, Sem.run_bind, Sem.run_pure, Result.andThen_ok, invoke, builtin, List.map_toArray, List.map_cons, List.map_nil, hx, hy, hr]
  · simp only [List.length_append, Array.length_toList, size_zeroCells, hzs, ho.1, hl, ← Nat.add_mul]
    congr 1
    omega
end
variable {w : World} {p : Nat} {txt : List UInt8} {s : TS}
theorem wd_ev {n : Nat} : wd (n + 1) 3 s = (adv s >>= fun s => .ok (.n0 3 0 [], s)) := by
  rw [wd]; rfl
theorem wd_off {n op : Nat} (h3 : op ≠ 3) (hb : bindsO op = false) (hc : callO op = false) : wd (n + 1) op s = .error (301, s.pos) := by
  rw [wd, if_neg h3, hb, hc]; rfl
theorem wd_binds {n op : Nat} (h3 : op ≠ 3) (hb : bindsO op = true) : wd (n + 1) op s = (adv s >>= fun s => if 0 ≤ s.hd.num ∨ qName s.hd.text = false then .error (301, s.pos) else adv s >>= fun s' => mustT s' [58] >>= fun s' => rd n 0 s' >>= fun x => .ok (.n1 op 0 s.hd.text x.1, x.2)) := by
  rw [wd, if_neg h3, hb, if_pos rfl]
  congr 1
  funext s
  cases s with
  | tok t r => rfl
  | stop j => rw [if_pos (.inr (show qName [] = false by decide))]
  | bad j => rw [if_pos (.inr (show qName [] = false by decide))]
theorem wd_call {n op : Nat} (h3 : op ≠ 3) (hb : bindsO op = false) (hc : callO op = true) : wd (n + 1) op s = (adv s >>= fun s => mustT s [40] >>= fun s => rd n 0 s >>= fun x =>
    if kidsO op = 1 then mustT x.2 [41] >>= fun s => .ok (.n1 op 0 [] x.1, s) else mustT x.2 [44] >>= fun s => rd n 0 s >>= fun y => mustT y.2 [41] >>= fun s => .ok (.n2 op 0 [] x.1 y.1, s)) := by
  rw [wd, if_neg h3, hb, hc]
  rfl
/-- a node above none -/
theorem n0_at {w5 : World} {p' : Nat} {op num : Int} {name : List UInt8} {ad : Option Addr} {cap : Nat} (hp' : p + 1 ≤ p') (hB : TBlk zsh w5 p' op (1 + sumS [] : Nat) num name (.slice ad 0 cap)) : TreeAt zsh (p + 1) w5 (.n0 op num name) p' := ⟨hp', ad, cap, hB⟩
theorem n1_atG {w3 w5 : World} {q p' cap : Nat} {ad : Option Addr} {t : QT} {op num : Int} {name : List UInt8} (ht : TreeAt zsh (p + 1) w3 t q) (k35 : Kp [] w3 w5) (hb : ∀ b, b ∈ blkOf ad → p + 1 ≤ b) (hr : ReadS w5 ad [ptr q]) (hp' : p + 1 ≤ p')
    (hB : TBlk zsh w5 p' op (1 + sumS [(q, t)] : Nat) num name (.slice ad 1 cap)) : TreeAt zsh (p + 1) w5 (.n1 op num name t) p' := by
  refine ⟨hp', ad, cap, q, ?_, hr, hb, ht.kp k35 (by simp)⟩
  have e : 1 + sumS [(q, t)] = 1 + t.size := by simp [sumS]
  rw [e] at hB
  exact hB
theorem n2_atG {w3 w5 : World} {q q2 p' cap : Nat} {ad : Option Addr} {t u : QT} {op : Int} (ht : TreeAt zsh (p + 1) w3 t q) (hu : TreeAt zsh (p + 1) w3 u q2) (k35 : Kp [] w3 w5) (hb : ∀ b, b ∈ blkOf ad → p + 1 ≤ b) (hr : ReadS w5 ad [ptr q, ptr q2]) (hp' : p + 1 ≤ p')
    (hB : TBlk zsh w5 p' op (1 + sumS [(q, t), (q2, u)] : Nat) 0 [] (.slice ad 2 cap)) : TreeAt zsh (p + 1) w5 (.n2 op 0 [] t u) p' := by
  refine ⟨hp', ad, cap, q, q2, ?_, hr, hb, ht.kp k35 (by simp), hu.kp k35 (by simp)⟩
  have e : 1 + sumS [(q, t), (q2, u)] = 1 + t.size + u.size := by simp [sumS]; omega
  rw [e] at hB
  exact hB
/-- worded does as the model says -/
def WdOk (n op : Nat) : Prop := ∀ {w : World} {p : Nat} {txt : List UInt8} {s : TS}, AscW w → p ≠ 0 → PAt w p txt s → txt.length ≤ 4096 → s.len ≤ 4096 → 1 ≤ s.len → 10 * s.len ≤ n →
  RetP Tryz.prog 206 [ptr p, I op] w (fun v w' => ∃ t s', wd n op s = .ok (t, s') ∧ (∃ q, v = ptr q ∧ TreeAt zsh (p + 1) w' t q) ∧ PAt w' p txt s' ∧ Kp [p] w w') (OutE (wd n op s) p w)
set_option maxHeartbeats 12800000 in
theorem worded_ok {n op : Nat} (h1 : 1 ≤ op) (h26 : op ≤ 26) (ih : RdOk n 0 42) : WdOk (n + 1) op := by
  intro w p txt s hA hpg h htl hsl hs1 hn
  have hpl := pos_lt h.pb
  refine enterP Tryz.call206 Tryz.func206 rfl rfl rfl rfl ?_
  (repeat first|refine zA ?_|refine zg ?_|refine zo rfl rfl trivial ?_|refine zn ?_)
  refine o_call shapes_ret rfl rfl rfl ?_
  rintro v w1 ⟨rfl, hr, k1⟩
  (repeat refine zo rfl rfl (by first|exact trivial|(simp only[AllP];omega)) ?_)
  refine o_loadA (b := w.heap.size) (off := 0 + op * 6) (vs := shO op) rfl (fun j v hv => by
    have h := hr (op * 6 + j) v (flC_get (f := shO) (m := 6) shO_len (List.getElem?_range (show op < 27 by omega)) hv)
    rw [← h, addr_lit, show 0 + op * 6 + j = 0 + (op * 6 + j) by omega]) rfl rfl rfl rfl rfl rfl ?_
  refine o_alloc rfl rfl rfl rfl ?_
  intro b w2 hb hu2
  have k2 : Kp [] w1 w2 := hu2.kp [] (.inr (by omega))
  refine o_storeA (b := b) (cs := shO op) rfl hu2.blk (Nat.le_refl _) rfl (by simp [shO, Value.oneCell']) rfl rfl rfl rfl ?_
  intro w3 hu3
  have y1 := k1.size
  have k3 : Kp [] w w3 := (k1.trans k2).since (hu3.kp [b] (.inl (by simp))) (by simp; omega)
  have hb3 : Blk w3 b (shO op) 118 := hu3.blk
  have hP3 := h.kp k3 (by simp)
  have hA3 := hA.kp k3 (by simp)
  (repeat first|refine zA ?_|refine zC ?_|refine zg ?_|refine zo rfl rfl trivial ?_|refine zn ?_|refine zb ?_)
  refine r_if rfl (fun hc => ?_) (fun hc => ?_)
  · have hop : op = 3 := by omega
    subst hop
    have hrd := wd_ev (n := n) (s := s)
    (repeat first|refine zA ?_|refine zg ?_|refine zo rfl rfl trivial ?_)
    refine o_callP (adv_ret hP3 htl) rfl rfl rfl (fun v w' hE => ?_) ?_
    · obtain ⟨c1, i1, g1, g2, g3⟩ := hE
      exact ⟨c1, i1, by rw [hrd, g1]; rfl, g2, (k3.mono (by simp)).trans g3⟩
    rintro v w4 ⟨rfl, ⟨s1, g1, hP4⟩, k4⟩
    rw [g1] at hrd
    have k34 := (k3.mono (S' := [p]) (by simp)).trans k4
    have y4 := k34.size
    (repeat first|refine zA ?_|refine zg ?_|refine zo rfl rfl trivial ?_|refine zn ?_)
    refine o_call (made_ret (ad := none) (cap := 0) 3 0 [] [] rfl (by simp) (by simp [sumS]) (by simp)) rfl rfl rfl ?_
    rintro v' w5 ⟨p', rfl, hp', hB5, k5⟩
    (repeat first|refine zo rfl rfl trivial ?_|refine zn ?_|refine zr ?_)
    exact ⟨_, rfl, _, s1, hrd, ⟨p', rfl, n0_at (by omega) hB5⟩, hP4.kp k5 (by simp), k34.trans (k5.mono (by simp))⟩
  · have h3 : op ≠ 3 := by omega
    (repeat first|refine zA ?_|refine zg ?_|refine zo rfl rfl trivial ?_)
    refine o_load (v := .bool (bindsO op)) rfl hb3 rfl rfl rfl rfl rfl ?_
    (repeat first|refine zo rfl rfl trivial ?_|refine zn ?_)
    refine r_cond rfl (fun hbi => ?_) (fun hbi => ?_)
    · have hrd := wd_binds (n := n) (s := s) h3 hbi
      (repeat first|refine zA ?_|refine zg ?_|refine zo rfl rfl trivial ?_)
      refine o_callP (adv_ret hP3 htl) rfl rfl rfl (fun v w' hE => ?_) ?_
      · obtain ⟨c1, i1, g1, g2, g3⟩ := hE
        exact ⟨c1, i1, by rw [hrd, g1]; rfl, g2, (k3.mono (by simp)).trans g3⟩
      rintro v w4 ⟨rfl, ⟨s1, g1, hP4⟩, k4⟩
      rw [g1] at hrd
      have hrd : wd (n + 1) op s = (if 0 ≤ s1.hd.num ∨ qName s1.hd.text = false then .error (301, s1.pos) else adv s1 >>= fun s' => mustT s' [58] >>= fun s' => rd n 0 s' >>= fun x => .ok (.n1 op 0 s1.hd.text x.1, x.2)) := hrd
      have hl1 := (adv_len g1).1
      have k34 := (k3.mono (S' := [p]) (by simp)).trans k4
      have hB4 := hP4.pb
      have hA4 := hA.kp k34 (by simpa using Ne.symm hpg)
      have htxl : s1.hd.text.length ≤ 4096 := by
        cases s1 with
        | tok t r => obtain ⟨_, h2, _⟩ := hP4; show t.text.length ≤ 4096; omega
        | stop j => simp [TS.hd]
        | bad j => simp [TS.hd]
      have hoff : ∀ {w5 : World}, (0 ≤ s1.hd.num ∨ qName s1.hd.text = false) → Kp [p] w w5 → ∀ v w', v = refV 301 s1.hd.at_ ∧ w' = w5 → OutE (wd (n + 1) op s) p w v w' := fun hcnd kk v w' hv =>
        ⟨301, s1.pos, by rw [hrd, if_pos hcnd], by rw [hv.1]; cases s1 <;> rfl, hv.2 ▸ kk⟩
      (repeat first|refine zA ?_|refine zB ?_|refine zg ?_|refine zo rfl rfl trivial ?_|refine zn ?_|refine o_load rfl hB4 rfl rfl rfl rfl rfl ?_)
      refine o_split _ _ rfl rfl rfl (fun hnum => ?_) (fun hnum => ?_)
      · have hnum : 0 ≤ s1.hd.num := of_decide_eq_true hnum
        (repeat first|refine zg ?_|refine zo rfl rfl trivial ?_|refine zn ?_|refine zt rfl ?_)
        exact o_callP (off_ret hB4 (fun _ _ => False)) rfl rfl rfl (fun v w' hv => hoff (.inl hnum) k34 v w' hv) (fun v w' h => h.elim)
      have hnum : ¬ 0 ≤ s1.hd.num := of_decide_eq_false hnum
      (repeat refine zo rfl rfl trivial ?_)
      refine o_call (isName_ret hA4 s1.hd.text (by omega)) rfl rfl rfl ?_
      rintro v w5 ⟨rfl, k5⟩
      have k35 := k34.trans (k5.mono (S' := [p]) (by simp))
      have hP5 := hP4.kp k5 (by simp)
      cases hqn : qName s1.hd.text with
      | false =>
        (repeat first|refine zg ?_|refine zo rfl rfl trivial ?_|refine zn ?_|refine zt rfl ?_)
        exact o_callP (off_ret hP5.pb (fun _ _ => False)) rfl rfl rfl (fun v w' hv => hoff (.inr hqn) k35 v w' hv) (fun v w' h => h.elim)
      | true =>
        rw [if_neg (by rintro (hh | hh); exact hnum hh; rw [hqn] at hh; cases hh)] at hrd
        (repeat first|refine zA ?_|refine zg ?_|refine zo rfl rfl trivial ?_|refine zn ?_|refine zk ?_|refine zf rfl ?_)
        refine o_callP (adv_ret hP5 htl) rfl rfl rfl (fun v w' hE => ?_) ?_
        · obtain ⟨c1, i1, g1, g2, g3⟩ := hE
          exact ⟨c1, i1, by rw [hrd, g1]; rfl, g2, k35.trans g3⟩
        rintro v w6 ⟨rfl, ⟨s2, g2, hP6⟩, k6⟩
        rw [g2] at hrd
        have hrd : wd (n + 1) op s = (mustT s2 [58] >>= fun s' => rd n 0 s' >>= fun x => .ok (.n1 op 0 s1.hd.text x.1, x.2)) := hrd
        have hl2 := (adv_len g2).1
        have k36 := k35.trans k6
        (repeat first|refine zA ?_|refine zg ?_|refine zo rfl rfl trivial ?_|refine zn ?_)
        refine o_callP (must_ret (word := [58]) (by decide) hP6 htl) rfl rfl rfl (fun v w' hE => ?_) ?_
        · obtain ⟨c1, i1, g1, g2, g3⟩ := hE
          exact ⟨c1, i1, by rw [hrd, g1]; rfl, g2, k36.trans g3⟩
        rintro v w7 ⟨rfl, ⟨s3, g3, hP7⟩, k7⟩
        rw [g3] at hrd
        have hrd : wd (n + 1) op s = (rd n 0 s3 >>= fun x => .ok (.n1 op 0 s1.hd.text x.1, x.2)) := hrd
        have hl3 := mustT_len g3
        have k37 := k36.trans k7
        (repeat first|refine zA ?_|refine zg ?_|refine zo rfl rfl trivial ?_|refine zn ?_)
        refine o_callP (ih (hA.kp k37 (by simpa using Ne.symm hpg)) hpg hP7 htl (by omega) (by omega)) rfl rfl rfl (fun v w' hE => ?_) ?_
        · obtain ⟨c1, i1, g1, g2, g3⟩ := hE
          exact ⟨c1, i1, by rw [hrd, g1]; rfl, g2, k37.trans g3⟩
        rintro v w8 ⟨t, s4, g4, ⟨q, rfl, hT⟩, hP8, k8⟩
        rw [g4] at hrd
        have hz := (rd_size n).1 _ _ _ _ g4
        have k38 := k37.trans k8
        have hsz := k38.size
        refine o_buildSlice [ptr q] rfl (by simp [Value.oneCell']) rfl (by decide) (by decide) rfl rfl rfl rfl rfl ?_
        intro b2 w9 hb2 hu9
        have k9 : Kp [] w8 w9 := hu9.kp [] (.inr (by omega))
        have hr9 : ReadS w9 (some ⟨b2, 0, none⟩) [ptr q] := fun i v hv => by rw [addr_lit, Nat.zero_add]; exact hu9.blk.cell hv
        refine o_call (made_ret op 0 s1.hd.text [(q, t)] hr9 (by simp; exact ⟨_, _, hT.kp k9 (by simp)⟩) (by simp [sumS]; omega) (by simp)) rfl rfl rfl ?_
        rintro v' w10 ⟨p', rfl, hp', hB10, k10⟩
        have hs9 := k9.size
        (repeat first|refine zo rfl rfl trivial ?_|refine zn ?_|refine zr ?_)
        exact ⟨_, rfl, _, s4, hrd, ⟨p', rfl, n1_at hT (k9.trans k10) (by omega) (hr9.kp k10 (by simp)) (by omega) hB10⟩, (hP8.kp k9 (by simp)).kp k10 (by simp), (k38.trans (k9.mono (by simp))).trans (k10.mono (by simp))⟩
    · (repeat first|refine zA ?_|refine zg ?_|refine zo rfl rfl trivial ?_)
      refine o_load (v := .bool (callO op)) rfl hb3 rfl rfl rfl rfl rfl ?_
      (repeat first|refine zo rfl rfl trivial ?_|refine zn ?_)
      refine r_cond rfl (fun hca => ?_) (fun hca => ?_)
      · have hrd := wd_call (n := n) (s := s) h3 hbi hca
        have hkids : kidsO op = 1 ∨ kidsO op = 2 := by
          have : op = 8 ∨ op = 9 ∨ op = 10 ∨ op = 20 ∨ op = 21 := by simpa [callO, or_assoc] using hca
          rcases this with rfl | rfl | rfl | rfl | rfl <;> decide
        (repeat first|refine zA ?_|refine zg ?_|refine zo rfl rfl trivial ?_)
        refine o_callP (adv_ret hP3 htl) rfl rfl rfl (fun v w' hE => ?_) ?_
        · obtain ⟨c1, i1, g1, g2, g3⟩ := hE
          exact ⟨c1, i1, by rw [hrd, g1]; rfl, g2, (k3.mono (by simp)).trans g3⟩
        rintro v w4 ⟨rfl, ⟨s1, g1, hP4⟩, k4⟩
        rw [g1] at hrd
        have hrd : wd (n + 1) op s = (mustT s1 [40] >>= fun s => rd n 0 s >>= fun x =>
          if kidsO op = 1 then mustT x.2 [41] >>= fun s => .ok (.n1 op 0 [] x.1, s) else mustT x.2 [44] >>= fun s => rd n 0 s >>= fun y => mustT y.2 [41] >>= fun s => .ok (.n2 op 0 [] x.1 y.1, s)) := hrd
        have hl1 := (adv_len g1).1
        have k34 := (k3.mono (S' := [p]) (by simp)).trans k4
        have hbp : b ≠ p := by have := k1.size; have := k2.size; omega
        (repeat first|refine zA ?_|refine zg ?_|refine zo rfl rfl trivial ?_|refine zn ?_)
        refine o_callP (must_ret (word := [40]) (by decide) hP4 htl) rfl rfl rfl (fun v w' hE => ?_) ?_
        · obtain ⟨c1, i1, g1, g2, g3⟩ := hE
          exact ⟨c1, i1, by rw [hrd, g1]; rfl, g2, k34.trans g3⟩
        rintro v w5 ⟨rfl, ⟨s2, g2, hP5⟩, k5⟩
        rw [g2] at hrd
        have hrd : wd (n + 1) op s = (rd n 0 s2 >>= fun x =>
          if kidsO op = 1 then mustT x.2 [41] >>= fun s => .ok (.n1 op 0 [] x.1, s) else mustT x.2 [44] >>= fun s => rd n 0 s >>= fun y => mustT y.2 [41] >>= fun s => .ok (.n2 op 0 [] x.1 y.1, s)) := hrd
        have hl2 := mustT_len g2
        have k35 := k34.trans k5
        (repeat first|refine zA ?_|refine zg ?_|refine zo rfl rfl trivial ?_|refine zn ?_)
        refine o_callP (ih (hA.kp k35 (by simpa using Ne.symm hpg)) hpg hP5 htl (by omega) (by omega)) rfl rfl rfl (fun v w' hE => ?_) ?_
        · obtain ⟨c1, i1, g1, g2, g3⟩ := hE
          exact ⟨c1, i1, by rw [hrd, g1]; rfl, g2, k35.trans g3⟩
        rintro v w6 ⟨t, s3, g3, ⟨q, rfl, hT⟩, hP6, k6⟩
        rw [g3] at hrd
        have hrd : wd (n + 1) op s = (if kidsO op = 1 then mustT s3 [41] >>= fun s => .ok (.n1 op 0 [] t, s) else mustT s3 [44] >>= fun s => rd n 0 s >>= fun y => mustT y.2 [41] >>= fun s => .ok (.n2 op 0 [] t y.1, s)) := hrd
        have hz3 := (rd_size n).1 _ _ _ _ g3
        have htp := t.size_pos
        have k36 := k35.trans k6
        have hsz6 := k36.size
        refine o_buildSlice [ptr q] rfl (by simp [Value.oneCell']) rfl (by decide) (by decide) rfl rfl rfl rfl rfl ?_
        intro b2 w7 hb2 hu7
        have k7 : Kp [] w6 w7 := hu7.kp [] (.inr (by omega))
        have k37 := k36.trans (k7.mono (S' := [p]) (by simp))
        have hO7 : OwnS w7 87 1 (some ⟨b2, 0, none⟩) 1 1 [ptr q] := ⟨rfl, rfl, rfl, Nat.le_refl _, by decide, [], hu7.blk, rfl⟩
        have hP7 := hP6.kp k7 (by simp)
        have hT7 := hT.kp k7 (by simp)
        have y2 := k2.size
        have k67 : Kp [p] w3 w7 := ((k4.trans k5).trans k6).trans (k7.mono (by simp))
        have hb7 : Blk w7 b (shO op) 118 := k67.blk (by simpa using hbp) hb3
        (repeat first|refine zC ?_|refine zo rfl rfl trivial ?_|refine zn ?_|refine zb ?_)
        refine r_loop (α := Option (Nat × QT) × Option Addr × Nat × TS) [0, 1, 5, 7] (fun x => [ptr p, I op, ptr b, .slice x.2.1 (1 + x.1.toList.length) x.2.2.1])
          (fun x W => PAt W p txt x.2.2.2 ∧ Kp [p] w W ∧ Kp [p] w7 W ∧ OwnS W 87 1 x.2.1 (1 + x.1.toList.length) x.2.2.1 (ptr q :: x.1.toList.map fun y => ptr y.1) ∧ (∀ c, c ∈ blkOf x.2.1 → w.heap.size ≤ c) ∧ (x.1 = none → x.2.2.2 = s3 ∧ x.2.1 = some ⟨b2, 0, none⟩ ∧ x.2.2.1 = 1) ∧
            ∀ y, x.1 = some y → kidsO op = 2 ∧ TreeAt zsh (p + 1) W y.2 y.1 ∧ y.2.size ≤ 4096 ∧ x.2.2.2.len ≤ 4096 ∧ wd (n + 1) op s = (mustT x.2.2.2 [41] >>= fun s => .ok (.n2 op 0 [] t y.2, s))) (fun x => 1 - x.1.toList.length) (none, some ⟨b2, 0, none⟩, 1, s3) rfl
          ⟨hP7, k37, Kp.refl _ _, hO7, by simp [blkOf]; omega, fun _ => ⟨rfl, rfl, rfl⟩, (fun y hy => by cases hy)⟩ ?_
        rintro ⟨o, ad, cap, s4⟩ e W ⟨hP, kW, k7W, hO, hfr, hnone, hsome⟩
        dsimp only at hP hO hfr hnone hsome ⊢
        have hbW : Blk W b (shO op) 118 := k7W.blk (by simpa using hbp) hb7
        have hTW : TreeAt zsh (p + 1) W t q := hT7.kp k7W (by simp)
        have hszW := kW.size
        (repeat first|refine zA ?_|refine zB ?_|refine zg ?_|refine zo rfl rfl trivial ?_)
        refine o_load (v := I (kidsO op)) rfl hbW rfl rfl rfl rfl rfl ?_
        cases o with
        | none =>
          obtain ⟨hs4, hs5, hs6⟩ := hnone rfl
          subst hs4 hs5 hs6
          rcases hkids with hk | hk
          · rw [if_pos hk] at hrd
            rw [hk]
            (repeat first|refine zA ?_|refine zg ?_|refine zo rfl rfl trivial ?_|refine zn ?_|refine ze rfl ?_|refine zf rfl ?_)
            refine o_callP (must_ret (word := [41]) (by decide) hP htl) rfl rfl rfl (fun v w' hE => ?_) ?_
            · obtain ⟨c1, i1, g1, g2, g3⟩ := hE
              exact ⟨c1, i1, by rw [hrd, g1]; rfl, g2, kW.trans g3⟩
            rintro v w8 ⟨rfl, ⟨s5, g5, hP8⟩, k8⟩
            rw [g5] at hrd
            have hO8 := hO.kp k8 (fun c hc => by have := hfr c hc; simp; omega)
            (repeat first|refine zA ?_|refine zg ?_|refine zo rfl rfl trivial ?_|refine zn ?_)
            refine o_call (made_ret (ad := some ⟨b2, 0, none⟩) (cap := 1) op 0 [] [(q, t)] hO8.read (by simp; exact ⟨_, _, hTW.kp k8 (by simp)⟩) (by simp [sumS]; omega) (by simp)) rfl rfl rfl ?_
            rintro v' w9 ⟨p', rfl, hp', hB9, k9⟩
            have hs8 := k8.size
            (repeat first|refine zo rfl rfl trivial ?_|refine zn ?_|refine zr ?_)
            exact ⟨_, rfl, _, s5, hrd, ⟨p', rfl, n1_atG (hTW.kp k8 (by simp)) k9 (fun c hc => by have := hfr c hc; omega) (hO8.read.kp k9 (by simp)) (by omega) hB9⟩, hP8.kp k9 (by simp), (kW.trans k8).trans (k9.mono (by simp))⟩
          · rw [if_neg (by omega)] at hrd
            rw [hk]
            (repeat first|refine zA ?_|refine zg ?_|refine zo rfl rfl trivial ?_|refine zn ?_|refine zb ?_|refine zk ?_|refine zt rfl ?_)
            refine o_callP (must_ret (word := [44]) (by decide) hP htl) rfl rfl rfl (fun v w' hE => ?_) ?_
            · obtain ⟨c1, i1, g1, g2, g3⟩ := hE
              exact ⟨c1, i1, by rw [hrd, g1]; rfl, g2, kW.trans g3⟩
            rintro v w8 ⟨rfl, ⟨s5, g5, hP8⟩, k8⟩
            rw [g5] at hrd
            have hrd : wd (n + 1) op s = (rd n 0 s5 >>= fun y => mustT y.2 [41] >>= fun s => .ok (.n2 op 0 [] t y.1, s)) := hrd
            have hl5 := mustT_len g5
            have kW8 := kW.trans k8
            (repeat first|refine zg ?_|refine zo rfl rfl trivial ?_|refine zn ?_)
            refine o_callP (ih (hA.kp kW8 (by simpa using Ne.symm hpg)) hpg hP8 htl (by omega) (by omega)) rfl rfl rfl (fun v w' hE => ?_) ?_
            · obtain ⟨c1, i1, g1, g2, g3⟩ := hE
              exact ⟨c1, i1, by rw [hrd, g1]; rfl, g2, kW8.trans g3⟩
            rintro v w9 ⟨u, s6, g6, ⟨q2, rfl, hTu⟩, hP9, k9⟩
            rw [g6] at hrd
            have hz6 := (rd_size n).1 _ _ _ _ g6
            have kW9 := kW8.trans k9
            have hO9 := hO.kp (k8.trans k9) (fun c hc => by have := hfr c hc; simp; omega)
            have hs9 := kW9.size
            refine o_buildSlice [ptr q2] rfl (by simp [Value.oneCell']) rfl (by decide) (by decide) rfl rfl rfl rfl rfl ?_
            intro b3 w10 hb3' hu10
            have k10 : Kp [] w9 w10 := hu10.kp [] (.inr (by omega))
            have hs10 := k10.size
            refine o_appendF [ptr q2] rfl rfl (hO9.kp k10 (by simp)) (fun j v hv => by rw [addr_lit, Nat.zero_add]; exact hu10.blk.cell hv) rfl rfl rfl (by decide) rfl (by decide) (by decide) (by decide) rfl rfl ?_
            intro b4 cap' w11 hO11 k11 hfr11
            have k911 := k10.trans k11
            have hup := u.size_pos
            (repeat first|refine zo rfl rfl trivial ?_|refine zn ?_)
            exact ⟨(some (q2, u), some ⟨b4, 0, none⟩, cap', s6), rfl, ⟨hP9.kp k911 (by simp), kW9.trans (k911.mono (by simp)), ((k7W.trans k8).trans k9).trans (k911.mono (by simp)), hO11, by simp [blkOf]; omega, (fun h => by cases h), fun y hy => by
              cases hy
              exact ⟨rfl, hTu.kp k911 (by simp), by dsimp only; omega, by dsimp only; omega, hrd⟩⟩, by simp⟩
        | some y =>
          obtain ⟨q2, u⟩ := y
          obtain ⟨hk, hTu, hsu, hsl4, hrd2⟩ := hsome _ rfl
          have hsu : u.size ≤ 4096 := hsu
          rw [hk]
          (repeat first|refine zA ?_|refine zg ?_|refine zo rfl rfl trivial ?_|refine zn ?_|refine ze rfl ?_|refine zf rfl ?_)
          refine o_callP (must_ret (word := [41]) (by decide) hP htl) rfl rfl rfl (fun v w' hE => ?_) ?_
          · obtain ⟨c1, i1, g1, g2, g3⟩ := hE
            exact ⟨c1, i1, by rw [hrd2, g1]; rfl, g2, kW.trans g3⟩
          rintro v w8 ⟨rfl, ⟨s5, g5, hP8⟩, k8⟩
          rw [g5] at hrd2
          have hO8 := hO.kp k8 (fun c hc => by have := hfr c hc; simp; omega)
          have hs8 := k8.size
          (repeat first|refine zA ?_|refine zg ?_|refine zo rfl rfl trivial ?_|refine zn ?_)
          refine o_call (made_ret (ad := ad) (cap := cap) op 0 [] [(q, t), (q2, u)] hO8.read (by simp; exact ⟨⟨_, _, hTW.kp k8 (by simp)⟩, ⟨_, _, hTu.kp k8 (by simp)⟩⟩) (by simp [sumS]; omega) (by simp)) rfl rfl rfl ?_
          rintro v' w9 ⟨p', rfl, hp', hB9, k9⟩
          (repeat first|refine zo rfl rfl trivial ?_|refine zn ?_|refine zr ?_)
          exact ⟨_, rfl, _, s5, hrd2, ⟨p', rfl, n2_atG (hTW.kp k8 (by simp)) (hTu.kp k8 (by simp)) k9 (fun c hc => by have := hfr c hc; omega) (hO8.read.kp k9 (by simp)) (by omega) hB9⟩, hP8.kp k9 (by simp), (kW.trans k8).trans (k9.mono (by simp))⟩
      · (repeat first|refine zA ?_|refine zg ?_|refine zo rfl rfl trivial ?_|refine zk ?_)
        refine o_callP (off_ret hP3.pb (fun _ _ => False)) rfl rfl rfl (fun v w' ⟨h3', h4⟩ => ⟨301, s.pos, wd_off h3 hbi hca, by rw [h3']; cases s <;> rfl, h4 ▸ k3.mono (by simp)⟩) (fun v w' h => h.elim)
end Go.Vc
