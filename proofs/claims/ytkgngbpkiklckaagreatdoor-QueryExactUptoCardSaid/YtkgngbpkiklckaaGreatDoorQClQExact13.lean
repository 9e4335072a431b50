/- Parts of a proof. -/
import Derived.Test.YtkgngbpkiklckaaGreatDoorQClQExact12
set_option maxHeartbeats 12800000
namespace Go.Vc
open Go Go.Proofs
set_option maxRecDepth 20000
section
section
variable {P : Program} {n : Nat} {w : World} {e : Env} {K : Jc0} {all : List Oper} {G : List Nat} {ro : Ro} {dst : Option Tmp} {ty : TypeId} {pos : String} {after : Array Edge} {g : Option (Nat × Bool)} {l : List Oper} {t : TypeId} {x y : Operand}
theorem o_appendF {T : TypeId} {td : TypeDesc} {tn : String} {size tby : Nat} {thp : Bool} {tal tfa : Nat} {z : Value} {tcm : Bool} {tms : Array Method}
  {b k : Nat} {xs : List Value} {ay : Addr} {m cy : Nat} (news : List Value)
  (hx : ev e x = .slice (some ⟨b, 0, none⟩) k k) (hy : ev e y = .slice (some ay) m cy) (ho : OwnS w T size (some ⟨b, 0, none⟩) k k xs) (hn : ∀ j v, news[j]? = some v → w.cell? (ay.add j) = some v)
  (hu : P.underlying t = some (.slice T)) (hi : P.info? T = some ⟨td, tn, size, tby, thp, tal, tfa, some z, tcm, tms⟩) (hzs : z.cells.size = size) (hsz : 0 < size)
  (hl : news.length = m * size) (hm0 : 0 < m) (h63 : k + m ≤ maxLen) (hby : (k + m) * tby ≤ 140737488355328) (hd : dOk n dst = true) (hm : may all G e g = some true)
  (kk : ∀ b' cap' w', OwnS w' T size (some ⟨b', 0, none⟩) (k + m) cap' (xs ++ news) → Kp [] w w' → w.heap.size ≤ b' → Ops ro P n all G K l (put e dst (.slice (some ⟨b', 0, none⟩) (k + m) cap')) w') :
  Ops ro P n all G K (⟨dst, .call ⟨.builtin .append, #[x, y], #[t, t]⟩, ty, pos, after, g⟩ :: l) e w := by
 have hlen : (xs ++ news).length = (k + m) * size := by rw [List.length_append, ho.1, hl, Nat.add_mul]
 have hsmall : k + m ≤ 9223372036854775807 := by simp only [maxLen] at h63; omega
 obtain ⟨_, _, _, _, junk, hB, hjl⟩ := ho.2
 have holds : ∀ j v, xs[j]? = some v → w.cell? ((⟨b, 0, none⟩ : Addr).add j) = some v := fun j v hv => by
  rw [Jc1, Nat.zero_add]; exact hB.cell (by rw [List.getElem?_append_left (List.getElem?_eq_some_iff.1 hv).1]; exact hv)
 have hr := run_append_grow (P := P) w t ty T _ z hu hi rfl ⟨b, 0, none⟩ k k xs ho.1 holds ay m cy news hl hn oM oM (growslice_fits oM hby)
 have hge := grownCap_ge w (k + m) k T
 have hcm := grownCap_le_maxLen w (k + m) k T h63
 have hup := Je2 w.drew (.cells (xs.toArray ++ news.toArray ++ Builtin.zeroCells z.cells (grownCap w (k + m) k T - (k + m))) T)
 have e1 : xs.toArray ++ news.toArray ++ Builtin.zeroCells z.cells (grownCap w (k + m) k T - (k + m)) = ⟨xs ++ news ++ (Builtin.zeroCells z.cells (grownCap w (k + m) k T - (k + m))).toList⟩ := by apply Array.ext'; simp
 rw [e1] at hup hr
 refine Jb5 (w' := w.drew.alloc (.cells ⟨xs ++ news ++ (Builtin.zeroCells z.cells (grownCap w (k + m) k T - (k + m))).toList⟩ T)) hd hm ?_ (kk w.heap.size _ _ ⟨hlen, rfl, rfl, hge, hcm, _, hup.at_, ?_⟩ (hup.drew.kp _ (.inr lR)) lR)
 ·simp only [execOp, resolve, Sem.run_bind, Sem.run_pure, Result.andThen_ok, invoke, builtin, List.map_toArray, List.map_cons, List.map_nil, hx, hy, hr]
 ·simp only [List.length_append, Array.length_toList, size_zeroCells, hzs, ho.1, hl, ← Nat.add_mul]
  congr 1
  omega
end
variable {w : World} {p : Nat} {txt : List UInt8} {s : TS}
theorem wd_ev {n : Nat} : wd (n + 1) 3 s = (adv s >>= fun s => .ok (.n0 3 0 [], s)) := by
 rw [wd]; rfl
theorem wd_off {n op : Nat} (h3 : op ≠ 3) (hb : Jb6 op = false) (hc : Jm0 op = false) : wd (n + 1) op s = .error (301, s.pos) := by
 rw [wd, if_neg h3, hb, hc]; rfl
theorem wd_binds {n op : Nat} (h3 : op ≠ 3) (hb : Jb6 op = true) : wd (n + 1) op s = (adv s >>= fun s => if 0 ≤ s.hd.num ∨ Jc5 s.hd.text = false then .error (301, s.pos) else adv s >>= fun s' => Jc4 s' [58] >>= fun s' => rd n 0 s' >>= fun x => .ok (.n1 op 0 s.hd.text x.1, x.2)) := by
 rw [wd, if_neg h3, hb, if_pos rfl]
 congr 1
 funext s
 cases s with
 | tok t r => rfl
 | stop j => rw [if_pos (.inr (show Jc5 [] = false by decide))]
 | bad j => rw [if_pos (.inr (show Jc5 [] = false by decide))]
theorem wd_call {n op : Nat} (h3 : op ≠ 3) (hb : Jb6 op = false) (hc : Jm0 op = true) : wd (n + 1) op s = (adv s >>= fun s => Jc4 s [40] >>= fun s => rd n 0 s >>= fun x =>
  if Jc7 op = 1 then Jc4 x.2 [41] >>= fun s => .ok (.n1 op 0 [] x.1, s) else Jc4 x.2 [44] >>= fun s => rd n 0 s >>= fun y => Jc4 y.2 [41] >>= fun s => .ok (.n2 op 0 [] x.1 y.1, s)) := by
 rw [wd, if_neg h3, hb, hc]
 rfl
theorem n0_at {w5 : World} {p' : Nat} {op num : Int} {name : List UInt8} {ad : Option Addr} {cap : Nat} (hp' : p + 1 ≤ p') (hB : TBlk zsh w5 p' op (1 + sumS [] : Nat) num name (.slice ad 0 cap)) : Jc3 zsh (p + 1) w5 (.n0 op num name) p' := ⟨hp', ad, cap, hB⟩
theorem n1_atG {w3 w5 : World} {q p' cap : Nat} {ad : Option Addr} {t : QT} {op num : Int} {name : List UInt8} (ht : Jc3 zsh (p + 1) w3 t q) (k35 : Kp [] w3 w5) (hb : ∀ b, b ∈ Ja1 ad → p + 1 ≤ b) (hr : Ja7 w5 ad [ptr q]) (hp' : p + 1 ≤ p')
  (hB : TBlk zsh w5 p' op (1 + sumS [(q, t)] : Nat) num name (.slice ad 1 cap)) : Jc3 zsh (p + 1) w5 (.n1 op num name t) p' := by
 refine ⟨hp', ad, cap, q, ?_, hr, hb, ht.kp k35 sI⟩
 have e : 1 + sumS [(q, t)] = 1 + t.size := by simp [sumS]
 rw [e] at hB
 exact hB
theorem n2_atG {w3 w5 : World} {q q2 p' cap : Nat} {ad : Option Addr} {t u : QT} {op : Int} (ht : Jc3 zsh (p + 1) w3 t q) (hu : Jc3 zsh (p + 1) w3 u q2) (k35 : Kp [] w3 w5) (hb : ∀ b, b ∈ Ja1 ad → p + 1 ≤ b) (hr : Ja7 w5 ad [ptr q, ptr q2]) (hp' : p + 1 ≤ p')
  (hB : TBlk zsh w5 p' op (1 + sumS [(q, t), (q2, u)] : Nat) 0 [] (.slice ad 2 cap)) : Jc3 zsh (p + 1) w5 (.n2 op 0 [] t u) p' := by
 refine ⟨hp', ad, cap, q, q2, ?_, hr, hb, ht.kp k35 sI, hu.kp k35 sI⟩
 have e : 1 + sumS [(q, t), (q2, u)] = 1 + t.size + u.size := by simp [sumS]; omega
 rw [e] at hB
 exact hB
def WdOk (n op : Nat) : Prop := ∀ {w : World} {p : Nat} {txt : List UInt8} {s : TS}, AscW w → p ≠ 0 → PAt w p txt s → txt.length ≤ 4096 → s.len ≤ 4096 → 1 ≤ s.len → 10 * s.len ≤ n →
 RetP Tryz.prog 206 [ptr p, I op] w (fun v w' => ∃ t s', wd n op s = .ok (t, s') ∧ (∃ q, v = ptr q ∧ Jc3 zsh (p + 1) w' t q) ∧ PAt w' p txt s' ∧ Kp [p] w w') (OutE (wd n op s) p w)
theorem worded_ok {n op : Nat} (h1 : 1 ≤ op) (h26 : op ≤ 26) (ih : RdOk n 0 42) : WdOk (n + 1) op := by
 intro w p txt s hA hpg h htl hsl hs1 hn
 have hpl := Qb8 h.pb
 refine Zp Tryz.call206 Tryz.func206 ?_
 refine zS ?_
 refine Zc Jt6 ?_
 rintro v w1 ⟨rfl, hr, k1⟩
 refine zS ?_
 refine Jq2 (b := w.heap.size) (off := 0 + op * 6) (vs := shO op) rfl (fun j v hv => by
  have h := hr (op * 6 + j) v (Jm9 (f := shO) (m := 6) shO_len (List.getElem?_range (show op < 27 by omega)) hv)
  rw [← h, Jc1, show 0 + op * 6 + j = 0 + (op * 6 + j) by omega]) rfl rfl rfl rfl rfl rfl ?_
 refine zS ?_
 refine Za ?_
 intro b w2 hb hu2
 have k2 : Kp [] w1 w2 := hu2.new oM
 refine Zs (b := b) (cs := shO op) rfl hu2.blk lR rfl (by simp [shO, Value.oneCell']) ?_
 intro w3 hu3
 have y1 := k1.size
 have k3 : Kp [] w w3 := (k1.trans k2).since (hu3.kp [b] (.inl sI)) (by simp; omega)
 have hb3 : Blk w3 b (shO op) 118 := hu3.blk
 have hP3 := h.kp k3 sI
 have hA3 := hA.kp k3 sI
 refine zS ?_
 refine r_if rfl (fun hc => ?_) (fun hc => ?_)
 ·have hop : op = 3 := oM
  subst hop
  have hrd := wd_ev (n := n) (s := s)
  refine zS ?_
  refine Jb7 (Js9 hP3 htl) rfl rfl rfl (fun v w' hE => ?_) ?_
  ·obtain ⟨c1, i1, g1, g2, g3⟩ := hE
   exact ⟨c1, i1, by rw [hrd, g1]; rfl, g2, (k3.mono sI).trans g3⟩
  rintro v w4 ⟨rfl, ⟨s1, g1, hP4⟩, k4⟩
  rw [g1] at hrd
  have k34 := (k3.mono (S' := [p]) sI).trans k4
  have y4 := k34.size
  refine zS ?_
  refine Zc (Jj0 (ad := none) (cap := 0) 3 0 [] [] rfl sI (by simp [sumS]) sI) ?_
  rintro v' w5 ⟨p', rfl, hp', hB5, k5⟩
  refine zS ?_
  exact ⟨_, rfl, _, s1, hrd, ⟨p', rfl, n0_at oM hB5⟩, hP4.kp k5 sI, k34.trans (k5.mono sI)⟩
 ·have h3 : op ≠ 3 := oM
  refine zS ?_
  refine Zl (v := .bool (Jb6 op)) rfl hb3 ?_
  refine zS ?_
  refine Je1 rfl (fun hbi => ?_) (fun hbi => ?_)
  ·have hrd := wd_binds (n := n) (s := s) h3 hbi
   refine zS ?_
   refine Jb7 (Js9 hP3 htl) rfl rfl rfl (fun v w' hE => ?_) ?_
   ·obtain ⟨c1, i1, g1, g2, g3⟩ := hE
    exact ⟨c1, i1, by rw [hrd, g1]; rfl, g2, (k3.mono sI).trans g3⟩
   rintro v w4 ⟨rfl, ⟨s1, g1, hP4⟩, k4⟩
   rw [g1] at hrd
   have hrd : wd (n + 1) op s = (if 0 ≤ s1.hd.num ∨ Jc5 s1.hd.text = false then .error (301, s1.pos) else adv s1 >>= fun s' => Jc4 s' [58] >>= fun s' => rd n 0 s' >>= fun x => .ok (.n1 op 0 s1.hd.text x.1, x.2)) := hrd
   have hl1 := (Jd4 g1).1
   have k34 := (k3.mono (S' := [p]) sI).trans k4
   have hB4 := hP4.pb
   have hA4 := hA.kp k34 (by simpa using Ne.symm hpg)
   have htxl : s1.hd.text.length ≤ 4096 := by
    cases s1 with
    | tok t r => obtain ⟨_, h2, _⟩ := hP4; show t.text.length ≤ 4096; omega
    | stop j => simp [TS.hd]
    | bad j => simp [TS.hd]
   have hoff : ∀ {w5 : World}, (0 ≤ s1.hd.num ∨ Jc5 s1.hd.text = false) → Kp [p] w w5 → ∀ v w', v = refV 301 s1.hd.at_ ∧ w' = w5 → OutE (wd (n + 1) op s) p w v w' := fun hcnd kk v w' hv =>
    ⟨301, s1.pos, by rw [hrd, if_pos hcnd], by rw [hv.1]; cases s1 <;> rfl, hv.2 ▸ kk⟩
   refine zL hB4 ?_
   refine Ja5 _ _ rfl rfl rfl (fun hnum => ?_) (fun hnum => ?_)
   ·have hnum : 0 ≤ s1.hd.num := of_decide_eq_true hnum
    refine zL hB4 ?_
    exact Jb7 (Jz5 hB4 (fun _ _ => False)) rfl rfl rfl (fun v w' hv => hoff (.inl hnum) k34 v w' hv) (fun v w' h => h.elim)
   have hnum : ¬ 0 ≤ s1.hd.num := of_decide_eq_false hnum
   refine zL hB4 ?_
   refine Zc (Jm6 hA4 s1.hd.text oM) ?_
   rintro v w5 ⟨rfl, k5⟩
   have k35 := k34.trans (k5.mono (S' := [p]) sI)
   have hP5 := hP4.kp k5 sI
   cases hqn : Jc5 s1.hd.text with
   | false =>
    refine zS ?_
    exact Jb7 (Jz5 hP5.pb (fun _ _ => False)) rfl rfl rfl (fun v w' hv => hoff (.inr hqn) k35 v w' hv) (fun v w' h => h.elim)
   | true =>
    rw [if_neg (by rintro (hh | hh); exact hnum hh; rw [hqn] at hh; cases hh)] at hrd
    refine zS ?_
    refine Jb7 (Js9 hP5 htl) rfl rfl rfl (fun v w' hE => ?_) ?_
    ·obtain ⟨c1, i1, g1, g2, g3⟩ := hE
     exact ⟨c1, i1, by rw [hrd, g1]; rfl, g2, k35.trans g3⟩
    rintro v w6 ⟨rfl, ⟨s2, g2, hP6⟩, k6⟩
    rw [g2] at hrd
    have hrd : wd (n + 1) op s = (Jc4 s2 [58] >>= fun s' => rd n 0 s' >>= fun x => .ok (.n1 op 0 s1.hd.text x.1, x.2)) := hrd
    have hl2 := (Jd4 g2).1
    have k36 := k35.trans k6
    refine zS ?_
    refine Jb7 (Ju0 (word := [58]) dE hP6 htl) rfl rfl rfl (fun v w' hE => ?_) ?_
    ·obtain ⟨c1, i1, g1, g2, g3⟩ := hE
     exact ⟨c1, i1, by rw [hrd, g1]; rfl, g2, k36.trans g3⟩
    rintro v w7 ⟨rfl, ⟨s3, g3, hP7⟩, k7⟩
    rw [g3] at hrd
    have hrd : wd (n + 1) op s = (rd n 0 s3 >>= fun x => .ok (.n1 op 0 s1.hd.text x.1, x.2)) := hrd
    have hl3 := Jg6 g3
    have k37 := k36.trans k7
    refine zS ?_
    refine Jb7 (ih (hA.kp k37 (by simpa using Ne.symm hpg)) hpg hP7 htl oM oM) rfl rfl rfl (fun v w' hE => ?_) ?_
    ·obtain ⟨c1, i1, g1, g2, g3⟩ := hE
     exact ⟨c1, i1, by rw [hrd, g1]; rfl, g2, k37.trans g3⟩
    rintro v w8 ⟨t, s4, g4, ⟨q, rfl, hT⟩, hP8, k8⟩
    rw [g4] at hrd
    have hz := (Ji1 n).1 _ _ _ _ g4
    have k38 := k37.trans k8
    have hsz := k38.size
    refine zS ?_
    refine Zu [ptr q] rfl (by simp [Value.oneCell']) rfl dE dE ?_
    intro b2 w9 hb2 hu9
    have k9 : Kp [] w8 w9 := hu9.new oM
    have hr9 : Ja7 w9 (some ⟨b2, 0, none⟩) [ptr q] := fun i v hv => by rw [Jc1, Nat.zero_add]; exact hu9.blk.cell hv
    refine Zc (Jj0 op 0 s1.hd.text [(q, t)] hr9 (by simp; exact ⟨_, _, hT.kp k9 sI⟩) (by simp [sumS]; omega) sI) ?_
    rintro v' w10 ⟨p', rfl, hp', hB10, k10⟩
    have hs9 := k9.size
    refine zS ?_
    exact ⟨_, rfl, _, s4, hrd, ⟨p', rfl, n1_at hT (k9.trans k10) oM (hr9.kp k10 sI) oM hB10⟩, (hP8.kp k9 sI).kp k10 sI, (k38.trans (k9.mono sI)).trans (k10.mono sI)⟩
  ·refine zS ?_
   refine Zl (v := .bool (Jm0 op)) rfl hb3 ?_
   refine zS ?_
   refine Je1 rfl (fun hca => ?_) (fun hca => ?_)
   ·have hrd := wd_call (n := n) (s := s) h3 hbi hca
    have hkids : Jc7 op = 1 ∨ Jc7 op = 2 := by
     have : op = 8 ∨ op = 9 ∨ op = 10 ∨ op = 20 ∨ op = 21 := by simpa [Jm0, or_assoc] using hca
     rcases this with rfl | rfl | rfl | rfl | rfl <;> decide
    refine zS ?_
    refine Jb7 (Js9 hP3 htl) rfl rfl rfl (fun v w' hE => ?_) ?_
    ·obtain ⟨c1, i1, g1, g2, g3⟩ := hE
     exact ⟨c1, i1, by rw [hrd, g1]; rfl, g2, (k3.mono sI).trans g3⟩
    rintro v w4 ⟨rfl, ⟨s1, g1, hP4⟩, k4⟩
    rw [g1] at hrd
    have hrd : wd (n + 1) op s = (Jc4 s1 [40] >>= fun s => rd n 0 s >>= fun x =>
     if Jc7 op = 1 then Jc4 x.2 [41] >>= fun s => .ok (.n1 op 0 [] x.1, s) else Jc4 x.2 [44] >>= fun s => rd n 0 s >>= fun y => Jc4 y.2 [41] >>= fun s => .ok (.n2 op 0 [] x.1 y.1, s)) := hrd
    have hl1 := (Jd4 g1).1
    have k34 := (k3.mono (S' := [p]) sI).trans k4
    have hbp : b ≠ p := by have := k1.size; have := k2.size; omega
    refine zS ?_
    refine Jb7 (Ju0 (word := [40]) dE hP4 htl) rfl rfl rfl (fun v w' hE => ?_) ?_
    ·obtain ⟨c1, i1, g1, g2, g3⟩ := hE
     exact ⟨c1, i1, by rw [hrd, g1]; rfl, g2, k34.trans g3⟩
    rintro v w5 ⟨rfl, ⟨s2, g2, hP5⟩, k5⟩
    rw [g2] at hrd
    have hrd : wd (n + 1) op s = (rd n 0 s2 >>= fun x =>
     if Jc7 op = 1 then Jc4 x.2 [41] >>= fun s => .ok (.n1 op 0 [] x.1, s) else Jc4 x.2 [44] >>= fun s => rd n 0 s >>= fun y => Jc4 y.2 [41] >>= fun s => .ok (.n2 op 0 [] x.1 y.1, s)) := hrd
    have hl2 := Jg6 g2
    have k35 := k34.trans k5
    refine zS ?_
    refine Jb7 (ih (hA.kp k35 (by simpa using Ne.symm hpg)) hpg hP5 htl oM oM) rfl rfl rfl (fun v w' hE => ?_) ?_
    ·obtain ⟨c1, i1, g1, g2, g3⟩ := hE
     exact ⟨c1, i1, by rw [hrd, g1]; rfl, g2, k35.trans g3⟩
    rintro v w6 ⟨t, s3, g3, ⟨q, rfl, hT⟩, hP6, k6⟩
    rw [g3] at hrd
    have hrd : wd (n + 1) op s = (if Jc7 op = 1 then Jc4 s3 [41] >>= fun s => .ok (.n1 op 0 [] t, s) else Jc4 s3 [44] >>= fun s => rd n 0 s >>= fun y => Jc4 y.2 [41] >>= fun s => .ok (.n2 op 0 [] t y.1, s)) := hrd
    have hz3 := (Ji1 n).1 _ _ _ _ g3
    have htp := t.size_pos
    have k36 := k35.trans k6
    have hsz6 := k36.size
    refine zS ?_
    refine Zu [ptr q] rfl (by simp [Value.oneCell']) rfl dE dE ?_
    intro b2 w7 hb2 hu7
    have k7 : Kp [] w6 w7 := hu7.new oM
    have k37 := k36.trans (k7.mono (S' := [p]) sI)
    have hO7 : OwnS w7 87 1 (some ⟨b2, 0, none⟩) 1 1 [ptr q] := ⟨rfl, rfl, rfl, lR, dE, [], hu7.blk, rfl⟩
    have hP7 := hP6.kp k7 sI
    have hT7 := hT.kp k7 sI
    have y2 := k2.size
    have k67 : Kp [p] w3 w7 := ((k4.trans k5).trans k6).trans (k7.mono sI)
    have hb7 : Blk w7 b (shO op) 118 := k67.blk (by simpa using hbp) hb3
    refine zS ?_
    refine Jb4 (α := Option (Nat × QT) × Option Addr × Nat × TS) [0, 1, 5, 7] (fun x => [ptr p, I op, ptr b, .slice x.2.1 (1 + x.1.toList.length) x.2.2.1])
     (fun x W => PAt W p txt x.2.2.2 ∧ Kp [p] w W ∧ Kp [p] w7 W ∧ OwnS W 87 1 x.2.1 (1 + x.1.toList.length) x.2.2.1 (ptr q :: x.1.toList.map fun y => ptr y.1) ∧ (∀ c, c ∈ Ja1 x.2.1 → w.heap.size ≤ c) ∧ (x.1 = none → x.2.2.2 = s3 ∧ x.2.1 = some ⟨b2, 0, none⟩ ∧ x.2.2.1 = 1) ∧
      ∀ y, x.1 = some y → Jc7 op = 2 ∧ Jc3 zsh (p + 1) W y.2 y.1 ∧ y.2.size ≤ 4096 ∧ x.2.2.2.len ≤ 4096 ∧ wd (n + 1) op s = (Jc4 x.2.2.2 [41] >>= fun s => .ok (.n2 op 0 [] t y.2, s))) (fun x => 1 - x.1.toList.length) (none, some ⟨b2, 0, none⟩, 1, s3) rfl
     ⟨hP7, k37, Kp.refl _ _, hO7, by simp [Ja1]; omega, fun _ => ⟨rfl, rfl, rfl⟩, (fun y hy => by cases hy)⟩ ?_
    rintro ⟨o, ad, cap, s4⟩ e W ⟨hP, kW, k7W, hO, hfr, hnone, hsome⟩
    dsimp only at hP hO hfr hnone hsome ⊢
    have hbW : Blk W b (shO op) 118 := k7W.blk (by simpa using hbp) hb7
    have hTW : Jc3 zsh (p + 1) W t q := hT7.kp k7W sI
    have hszW := kW.size
    refine zS ?_
    refine Zl (v := I (Jc7 op)) rfl hbW ?_
    cases o with
    | none =>
     obtain ⟨hs4, hs5, hs6⟩ := hnone rfl
     subst hs4 hs5 hs6
     rcases hkids with hk | hk
     ·rw [if_pos hk] at hrd
      rw [hk]
      refine zS ?_
      refine Jb7 (Ju0 (word := [41]) dE hP htl) rfl rfl rfl (fun v w' hE => ?_) ?_
      ·obtain ⟨c1, i1, g1, g2, g3⟩ := hE
       exact ⟨c1, i1, by rw [hrd, g1]; rfl, g2, kW.trans g3⟩
      rintro v w8 ⟨rfl, ⟨s5, g5, hP8⟩, k8⟩
      rw [g5] at hrd
      have hO8 := hO.kp k8 (fun c hc => by have := hfr c hc; simp; omega)
      refine zS ?_
      refine Zc (Jj0 (ad := some ⟨b2, 0, none⟩) (cap := 1) op 0 [] [(q, t)] hO8.read (by simp; exact ⟨_, _, hTW.kp k8 sI⟩) (by simp [sumS]; omega) sI) ?_
      rintro v' w9 ⟨p', rfl, hp', hB9, k9⟩
      have hs8 := k8.size
      refine zS ?_
      exact ⟨_, rfl, _, s5, hrd, ⟨p', rfl, n1_atG (hTW.kp k8 sI) k9 (fun c hc => by have := hfr c hc; omega) (hO8.read.kp k9 sI) oM hB9⟩, hP8.kp k9 sI, (kW.trans k8).trans (k9.mono sI)⟩
     ·rw [if_neg oM] at hrd
      rw [hk]
      refine zS ?_
      refine Jb7 (Ju0 (word := [44]) dE hP htl) rfl rfl rfl (fun v w' hE => ?_) ?_
      ·obtain ⟨c1, i1, g1, g2, g3⟩ := hE
       exact ⟨c1, i1, by rw [hrd, g1]; rfl, g2, kW.trans g3⟩
      rintro v w8 ⟨rfl, ⟨s5, g5, hP8⟩, k8⟩
      rw [g5] at hrd
      have hrd : wd (n + 1) op s = (rd n 0 s5 >>= fun y => Jc4 y.2 [41] >>= fun s => .ok (.n2 op 0 [] t y.1, s)) := hrd
      have hl5 := Jg6 g5
      have kW8 := kW.trans k8
      refine zS ?_
      refine Jb7 (ih (hA.kp kW8 (by simpa using Ne.symm hpg)) hpg hP8 htl oM oM) rfl rfl rfl (fun v w' hE => ?_) ?_
      ·obtain ⟨c1, i1, g1, g2, g3⟩ := hE
       exact ⟨c1, i1, by rw [hrd, g1]; rfl, g2, kW8.trans g3⟩
      rintro v w9 ⟨u, s6, g6, ⟨q2, rfl, hTu⟩, hP9, k9⟩
      rw [g6] at hrd
      have hz6 := (Ji1 n).1 _ _ _ _ g6
      have kW9 := kW8.trans k9
      have hO9 := hO.kp (k8.trans k9) (fun c hc => by have := hfr c hc; simp; omega)
      have hs9 := kW9.size
      refine zS ?_
      refine Zu [ptr q2] rfl (by simp [Value.oneCell']) rfl dE dE ?_
      intro b3 w10 hb3' hu10
      have k10 : Kp [] w9 w10 := hu10.new oM
      have hs10 := k10.size
      refine o_appendF [ptr q2] rfl rfl (hO9.kp k10 sI) (fun j v hv => by rw [Jc1, Nat.zero_add]; exact hu10.blk.cell hv) rfl rfl rfl dE rfl dE dE dE rfl rfl ?_
      intro b4 cap' w11 hO11 k11 hfr11
      have k911 := k10.trans k11
      have hup := u.size_pos
      refine zS ?_
      exact ⟨(some (q2, u), some ⟨b4, 0, none⟩, cap', s6), rfl, ⟨hP9.kp k911 sI, kW9.trans (k911.mono sI), ((k7W.trans k8).trans k9).trans (k911.mono sI), hO11, by simp [Ja1]; omega, (fun h => by cases h), fun y hy => by
       cases hy
       exact ⟨rfl, hTu.kp k911 sI, by dsimp only; omega, by dsimp only; omega, hrd⟩⟩, sI⟩
    | some y =>
     obtain ⟨q2, u⟩ := y
     obtain ⟨hk, hTu, hsu, hsl4, hrd2⟩ := hsome _ rfl
     have hsu : u.size ≤ 4096 := hsu
     rw [hk]
     refine zS ?_
     refine Jb7 (Ju0 (word := [41]) dE hP htl) rfl rfl rfl (fun v w' hE => ?_) ?_
     ·obtain ⟨c1, i1, g1, g2, g3⟩ := hE
      exact ⟨c1, i1, by rw [hrd2, g1]; rfl, g2, kW.trans g3⟩
     rintro v w8 ⟨rfl, ⟨s5, g5, hP8⟩, k8⟩
     rw [g5] at hrd2
     have hO8 := hO.kp k8 (fun c hc => by have := hfr c hc; simp; omega)
     have hs8 := k8.size
     refine zS ?_
     refine Zc (Jj0 (ad := ad) (cap := cap) op 0 [] [(q, t), (q2, u)] hO8.read (by simp; exact ⟨⟨_, _, hTW.kp k8 sI⟩, ⟨_, _, hTu.kp k8 sI⟩⟩) (by simp [sumS]; omega) sI) ?_
     rintro v' w9 ⟨p', rfl, hp', hB9, k9⟩
     refine zS ?_
     exact ⟨_, rfl, _, s5, hrd2, ⟨p', rfl, n2_atG (hTW.kp k8 sI) (hTu.kp k8 sI) k9 (fun c hc => by have := hfr c hc; omega) (hO8.read.kp k9 sI) oM hB9⟩, hP8.kp k9 sI, (kW.trans k8).trans (k9.mono sI)⟩
   ·refine zS ?_
    refine Jb7 (Jz5 hP3.pb (fun _ _ => False)) rfl rfl rfl (fun v w' ⟨h3', h4⟩ => ⟨301, s.pos, wd_off h3 hbi hca, by rw [h3']; cases s <;> rfl, h4 ▸ k3.mono sI⟩) (fun v w' h => h.elim)
end
section
variable {w : World} {p : Nat} {txt : List UInt8} {s : TS}
theorem rd_factor {n : Nat} : rd (n + 1) 5 s = if 0 ≤ s.hd.num then (adv s >>= fun s' => .ok (.n0 1 s.hd.num [], s'))
  else if s.is (Ja3 4) then (adv s >>= fun s => rd n 5 s >>= fun x => .ok (.n1 4 0 [] x.1, x.2))
  else if s.is [40] then (adv s >>= fun s => rd n 0 s >>= fun x => Jc4 x.2 [41] >>= fun s => .ok (x.1, s))
  else match Jr4 s.hd.text with
   | some k => adv s >>= fun s' => .ok (.n0 1 k [], s')
   | none => if opOf s.hd.text ≠ 0 then wd n (opOf s.hd.text) s else if Jc5 s.hd.text then (adv s >>= fun s' => .ok (.n0 2 0 s.hd.text, s')) else .error (301, s.pos) := by
 cases s with
 | tok t r => rw [rd] <;> first | rfl | (intro h; cases h)
 | stop j => rfl
 | bad j => rfl
theorem Qi8 {t : List UInt8} {i : Nat} {k : List UInt8} (hi : Ja8[i]? = some k) (h : t = k) (hj : ∀ (j : Nat) (k : List UInt8), j < i → Ja8[j]? = some k → t ≠ k) : Jr4 t = some (i + 1) := by
 unfold Jr4
 rw [Option.map_eq_some_iff]
 refine ⟨i, ?_, rfl⟩
 obtain ⟨hlt, rfl⟩ := List.getElem?_eq_some_iff.1 hi
 rw [List.findIdx?_eq_some_iff_getElem]
 exact ⟨hlt, by simp [h], fun j hj2 => by
  have := hj j _ hj2 (List.getElem?_eq_getElem oM)
  simpa using fun e => this e.symm⟩
theorem Qg2 {t : List UInt8} (hj : ∀ (j : Nat) (k : List UInt8), Ja8[j]? = some k → t ≠ k) : Jr4 t = none := by
 unfold Jr4
 rw [Option.map_eq_none_iff, List.findIdx?_eq_none_iff]
 intro x hx
 obtain ⟨j, hj2⟩ := List.getElem?_of_mem hx
 simpa using fun e => hj j x hj2 e.symm
theorem kind_ne {k : List UInt8} {i : Nat} (h : Ja8[i]? = some k) : k ≠ [] := by
 have hall : ∀ k ∈ Ja8, k ≠ [] := dE
 exact hall k (List.mem_of_getElem? h)
theorem factor_ok {n : Nat} (ih5 : RdOk n 5 197) (ih0 : RdOk n 0 42) (ihw : ∀ op, 1 ≤ op → op ≤ 26 → WdOk n op) : RdOk (n + 1) 5 197 := by
 intro w p txt s hA hpg h htl hsl hn
 have hpl := Qb8 h.pb
 have hB := h.pb
 have hrd := rd_factor (n := n) (s := s)
 have htx : s.hd.text.length ≤ 4096 := by
  cases s with
  | tok t r => obtain ⟨_, h2, _⟩ := h; show t.text.length ≤ 4096; omega
  | stop j => simp [TS.hd]
  | bad j => simp [TS.hd]
 refine Zp Tryz.call197 Tryz.func197 ?_
 refine zS ?_
 refine Jq2 (b := p) (off := 2) (vs := [S s.hd.text, I s.hd.num, I s.hd.at_]) rfl (fun j v hv => hB.cell (by
  rcases j with _ | _ | _ | j
  ·exact hv
  ·exact hv
  ·exact hv
  ·simp at hv)) rfl rfl rfl rfl rfl rfl ?_
 refine zS ?_
 refine Za ?_
 intro b w2 hb hu2
 have k2 : Kp [] w w2 := hu2.new oM
 refine Zs (b := b) (cs := [S s.hd.text, I s.hd.num, I s.hd.at_]) rfl hu2.blk lR rfl (by simp [Value.oneCell']) ?_
 intro w3 hu3
 have k3 : Kp [] w w3 := k2.since (hu3.kp [b] (.inl sI)) (by simp; omega)
 have hb3 : Blk w3 b [S s.hd.text, I s.hd.num, I s.hd.at_] 101 := hu3.blk
 have hP3 := h.kp k3 sI
 have hA3 := hA.kp k3 sI
 have hbp : b ≠ p := oM
 have s3 := k3.size
 have kp3 := k3.mono (S' := [p]) sI
 refine zL hb3 ?_
 refine r_if rfl (fun h0 => ?_) (fun h0 => ?_)
 ·-- a number
  rw [if_pos h0] at hrd
  refine zS ?_
  refine Jb7 (Js9 hP3 htl) rfl rfl rfl (fun v w' hE => ?_) ?_
  ·obtain ⟨c1, i1, g1, g2, g3⟩ := hE
   exact ⟨c1, i1, by rw [hrd, g1]; rfl, g2, kp3.trans g3⟩
  rintro v w4 ⟨rfl, ⟨s1, g1, hP4⟩, k4⟩
  rw [g1] at hrd
  have hb4 := k4.blk (by simpa using hbp) hb3
  have s4 := k4.size
  refine zL hb4 ?_
  refine Zc (Jj0 (ad := none) (cap := 0) 1 s.hd.num [] [] rfl sI (by simp [sumS]) sI) ?_
  rintro v' w5 ⟨p', rfl, hp', hB5, k5⟩
  refine zS ?_
  exact ⟨_, rfl, _, s1, hrd, ⟨p', rfl, n0_at oM hB5⟩, hP4.kp k5 sI, (kp3.trans k4).trans (k5.mono sI)⟩
 rw [if_neg h0] at hrd
 refine zS ?_
 refine Jb7 (Qn5 (word := Ja3 4) dE hP3 htl) rfl rfl rfl (fun v w' hE => ?_) ?_
 ·obtain ⟨g0, c1, i1, g1, g2, g3⟩ := hE
  exact ⟨c1, i1, by rw [hrd, if_pos g0, g1]; rfl, g2, kp3.trans g3⟩
 rintro v w4 ⟨k4, ⟨g1, rfl, s1, g2, hP4⟩ | ⟨g1, rfl, hP4⟩⟩
 ·-- '-'
  rw [if_pos g1, g2] at hrd
  have hrd : rd (n + 1) 5 s = (rd n 5 s1 >>= fun x => .ok (.n1 4 0 [] x.1, x.2)) := hrd
  have hl1 := Jo5 g1
  have hl2 := (Jd4 g2).1
  have k34 := kp3.trans k4
  refine zS ?_
  refine Jb7 (ih5 (hA.kp k34 (by simpa using Ne.symm hpg)) hpg hP4 htl oM oM) rfl rfl rfl (fun v w' hE => ?_) ?_
  ·obtain ⟨c1, i1, g1, g2, g3⟩ := hE
   exact ⟨c1, i1, by rw [hrd, g1]; rfl, g2, k34.trans g3⟩
  rintro v w5 ⟨t, s2, h3, ⟨q, rfl, hT⟩, hP5, k5⟩
  rw [h3] at hrd
  have hz := (Ji1 n).1 _ _ _ _ h3
  have kW := k34.trans k5
  have hsz := kW.size
  refine zS ?_
  refine Zu [ptr q] rfl (by simp [Value.oneCell']) rfl dE dE ?_
  intro b2 w6 hb2 hu6
  have k6 : Kp [] w5 w6 := hu6.new oM
  have hr6 : Ja7 w6 (some ⟨b2, 0, none⟩) [ptr q] := fun i v hv => by rw [Jc1, Nat.zero_add]; exact hu6.blk.cell hv
  refine Zc (Jj0 4 0 [] [(q, t)] hr6 (by simp; exact ⟨_, _, hT.kp k6 sI⟩) (by simp [sumS]; omega) sI) ?_
  rintro v' w7 ⟨p', rfl, hp', hB7, k7⟩
  have hs6 := k6.size
  refine zS ?_
  exact ⟨_, rfl, _, s2, hrd, ⟨p', rfl, n1_at hT (k6.trans k7) oM (hr6.kp k7 sI) oM hB7⟩, (hP5.kp k6 sI).kp k7 sI, (kW.trans (k6.mono sI)).trans (k7.mono sI)⟩
 rw [if_neg (by rw [g1]; simp)] at hrd
 have k34 := kp3.trans k4
 have hb4 := k4.blk (by simpa using hbp) hb3
 refine zS ?_
 refine Jb7 (Qn5 (word := [40]) dE hP4 htl) rfl rfl rfl (fun v w' hE => ?_) ?_
 ·obtain ⟨g0, c1, i1, g1, g2, g3⟩ := hE
  exact ⟨c1, i1, by rw [hrd, if_pos g0, g1]; rfl, g2, k34.trans g3⟩
 rintro v w5 ⟨k5, ⟨g3, rfl, s1, g4, hP5⟩ | ⟨g3, rfl, hP5⟩⟩
 ·-- brackets
  rw [if_pos g3, g4] at hrd
  have hrd : rd (n + 1) 5 s = (rd n 0 s1 >>= fun x => Jc4 x.2 [41] >>= fun s => .ok (x.1, s)) := hrd
  have hl1 := Jo5 g3
  have hl2 := (Jd4 g4).1
  have k35 := k34.trans k5
  refine zS ?_
  refine Jb7 (ih0 (hA.kp k35 (by simpa using Ne.symm hpg)) hpg hP5 htl oM oM) rfl rfl rfl (fun v w' hE => ?_) ?_
  ·obtain ⟨c1, i1, g1, g2, g3⟩ := hE
   exact ⟨c1, i1, by rw [hrd, g1]; rfl, g2, k35.trans g3⟩
  rintro v w6 ⟨t, s2, h3, ⟨q, rfl, hT⟩, hP6, k6⟩
  rw [h3] at hrd
  have hrd : rd (n + 1) 5 s = (Jc4 s2 [41] >>= fun s => .ok (t, s)) := hrd
  have k36 := k35.trans k6
  refine zS ?_
  refine Jb7 (Ju0 (word := [41]) dE hP6 htl) rfl rfl rfl (fun v w' hE => ?_) ?_
  ·obtain ⟨c1, i1, g1, g2, g3⟩ := hE
   exact ⟨c1, i1, by rw [hrd, g1]; rfl, g2, k36.trans g3⟩
  rintro v w7 ⟨rfl, ⟨s3, g7, hP7⟩, k7⟩
  rw [g7] at hrd
  refine zS ?_
  exact ⟨_, rfl, t, s3, hrd, ⟨q, rfl, hT.kp k7 sI⟩, hP7, k36.trans k7⟩
 rw [if_neg (by rw [g3]; simp)] at hrd
 have k35 := k34.trans k5
 have hb5 := k5.blk (by simpa using hbp) hb4
 have hnum : s.hd.num < 0 := oM
 have hisw : ∀ {k : List UInt8}, k ≠ [] → s.is k = decide (s.hd.text = k) := fun hk => by rw [is_hd hk, decide_eq_true hnum, Bool.and_true]
 refine zS ?_
 refine Zc (kinds_ret (hA.kp k35 (by simpa using Ne.symm hpg))) ?_
 rintro v w6 ⟨rfl, hr6, k6⟩
 have s5 := k35.size
 refine zS ?_
 have hk0 : Kp [p] w w6 := k35.trans (k6.mono sI)
 have hr6' : Ja7 w6 (some ⟨w5.heap.size, 0, none⟩) (Ja8.map S) := hr6
 refine Jb4 (α := Nat) [0, 3, 36, 37, 38] (fun i => [ptr p, ptr b, .slice (some ⟨w5.heap.size, 0, none⟩) 11 11, I 11, I i]) (fun i W => i ≤ 11 ∧ Kp [p] w6 W ∧ PAt W p txt s ∧ ∀ j k, j < i → Ja8[j]? = some k → s.hd.text ≠ k) (fun i => 11 - i) 0 rfl ⟨oM, Kp.refl _ _, hP5.kp k6 sI, oM⟩ ?_
 rintro i e W ⟨hi, kk, hPi, hj⟩
 refine zS ?_
 refine r_if rfl (fun hc => ?_) (fun hc => ?_)
 ·have hi2 : i < 11 := oM
  obtain ⟨k, hk⟩ : ∃ k, Ja8[i]? = some k := ⟨_, List.getElem?_eq_getElem (show i < Ja8.length from hi2)⟩
  have hrW := hr6'.kp kk (by simp [Ja1]; omega)
  have kW := hk0.trans kk
  refine zS ?_
  refine o_loadc (v := S k) rfl (by
   have h := hrW i (S k) (by rw [List.getElem?_map, hk]; rfl)
   rw [Jc1] at h
   rw [Ja2]; exact h) rfl rfl rfl rfl ?_
  refine zS ?_
  refine Jb7 (Qn5 (word := k) (kind_ne hk) hPi htl) rfl rfl rfl (fun v w' hE => ?_) ?_
  ·obtain ⟨g0, c1, i1, g1, g2, g3⟩ := hE
   rw [hisw (kind_ne hk), decide_eq_true_eq] at g0
   exact ⟨c1, i1, by rw [hrd, Qi8 hk g0 hj]; dsimp only; rw [g1]; rfl, g2, kW.trans g3⟩
  rintro v w7 ⟨k7, ⟨g7, rfl, s7, g8, hP7⟩ | ⟨g7, rfl, hP7⟩⟩
  ·rw [hisw (kind_ne hk), decide_eq_true_eq] at g7
   rw [Qi8 hk g7 hj] at hrd
   dsimp only at hrd
   rw [g8] at hrd
   have kW7 := kW.trans k7
   have s7 := kW7.size
   refine zS ?_
   refine Zc (Jj0 (ad := none) (cap := 0) 1 (i + 1) [] [] rfl sI (by simp [sumS]) sI) ?_
   rintro v' w8 ⟨p', rfl, hp', hB8, k8⟩
   refine zS ?_
   exact ⟨_, rfl, _, _, hrd, ⟨p', rfl, n0_at oM hB8⟩, hP7.kp k8 sI, kW7.trans (k8.mono sI)⟩
  ·rw [hisw (kind_ne hk), decide_eq_false_iff_not] at g7
   refine zS ?_
   exact ⟨i + 1, rfl, ⟨oM, kk.trans k7, hP7, fun j k' h1 h2 => by
    by_cases c : j = i
    ·subst c; rw [hk] at h2; cases h2; exact g7
    ·exact hj j k' oM h2⟩, oM⟩
 ·have : i = 11 := oM
  subst this
  rw [Qg2 (fun j k h1 => hj j k (List.getElem?_eq_some_iff.1 h1).1 h1)] at hrd
  dsimp only at hrd
  have kW := hk0.trans kk
  have hbW := kk.blk (by simpa using hbp) (k6.b0 hb5)
  refine zL hbW ?_
  refine Zc (Jw9 s.hd.text) ?_
  rintro v w7 ⟨rfl, k7⟩
  have kW7 := kW.trans (k7.mono (S' := [p]) sI)
  have hP7 := hPi.kp k7 sI
  have hb7 := k7.b0 hbW
  refine zS ?_
  refine Jn8 rfl (fun hop => ?_) (fun hop => ?_)
  ·have hop : opOf s.hd.text ≠ 0 := oM
   rw [if_pos hop] at hrd
   have h26 : opOf s.hd.text ≤ 26 := by
    unfold opOf
    cases hf : (List.range 27).find? (opT s.hd.text) with
    | none => simp
    | some k => have := List.mem_range.1 (List.mem_of_find?_eq_some hf); simp; omega
   have hs1 : 1 ≤ s.len := by
    cases s with
    | tok t r => simp [TS.len]
    | stop j => exact absurd rfl hop
    | bad j => exact absurd rfl hop
   refine zS ?_
   refine Jb7 (ihw (opOf s.hd.text) oM h26 (hA.kp kW7 (by simpa using Ne.symm hpg)) hpg hP7 htl hsl hs1 oM) rfl rfl rfl (fun v w' hE => ?_) ?_
   ·obtain ⟨c1, i1, g1, g2, g3⟩ := hE
    exact ⟨c1, i1, by rw [hrd, g1], g2, kW7.trans g3⟩
   rintro v w8 ⟨t, s2, h3, ⟨q, rfl, hT⟩, hP8, k8⟩
   rw [h3] at hrd
   refine zS ?_
   exact ⟨_, rfl, t, s2, hrd, ⟨q, rfl, hT⟩, hP8, kW7.trans k8⟩
  ·have hop : ¬ opOf s.hd.text ≠ 0 := oM
   rw [if_neg hop] at hrd
   refine zL hb7 ?_
   refine Zc (Jm6 (hA.kp kW7 (by simpa using Ne.symm hpg)) s.hd.text oM) ?_
   rintro v w8 ⟨rfl, k8⟩
   have kW8 := kW7.trans (k8.mono (S' := [p]) sI)
   have hP8 := hP7.kp k8 sI
   have hb8 := k8.b0 hb7
   cases hqn : Jc5 s.hd.text with
   | false =>
    rw [hqn] at hrd
    refine zS ?_
    exact Jb7 (Jz5 hP8.pb (fun _ _ => False)) rfl rfl rfl (fun v w' hv => ⟨301, s.pos, hrd, by rw [hv.1]; cases s <;> rfl, hv.2 ▸ kW8⟩) (fun v w' h => h.elim)
   | true =>
    rw [hqn, if_pos rfl] at hrd
    refine zS ?_
    refine Jb7 (Js9 hP8 htl) rfl rfl rfl (fun v w' hE => ?_) ?_
    ·obtain ⟨c1, i1, g1, g2, g3⟩ := hE
     exact ⟨c1, i1, by rw [hrd, g1]; rfl, g2, kW8.trans g3⟩
    rintro v w9 ⟨rfl, ⟨s9, g9, hP9⟩, k9⟩
    rw [g9] at hrd
    have hb9 := k9.blk (by simpa using hbp) hb8
    have kW9 := kW8.trans k9
    have s10 := kW9.size
    refine zL hb9 ?_
    refine Zc (Jj0 (ad := none) (cap := 0) 2 0 s.hd.text [] rfl sI (by simp [sumS]) sI) ?_
    rintro v' w10 ⟨p', rfl, hp', hB10, k10⟩
    refine zS ?_
    exact ⟨_, rfl, _, _, hrd, ⟨p', rfl, n0_at oM hB10⟩, hP9.kp k10 sI, kW9.trans (k10.mono sI)⟩
theorem all_ok : ∀ n : Nat, RdOk n 0 42 ∧ RdOk n 1 82 ∧ RdOk n 2 123 ∧ RdOk n 3 157 ∧ RdOk n 4 184 ∧ RdOk n 5 197 ∧ ∀ op, 1 ≤ op → op ≤ 26 → WdOk n op := by
 intro n
 induction n using Nat.strongRecOn with
 | ind n ih =>
  cases n with
  | zero => exact ⟨fun _ _ _ _ _ h => oM, fun _ _ _ _ _ h => oM, fun _ _ _ _ _ h => oM, fun _ _ _ _ _ h => oM, fun _ _ _ _ _ h => oM, fun _ _ _ _ _ h => oM, fun _ _ _ _ _ _ _ _ h1 h => oM⟩
  | succ n =>
   obtain ⟨i0, i1, i2, i3, i4, i5, iw⟩ := ih n oM
   refine ⟨question_ok fun m hm => (ih m oM).2.1, Qk1 fun m hm => (ih m oM).2.2.1, simple_ok i2 i3, sum_ok fun m hm => (ih m oM).2.2.2.2.1, term_ok fun m hm => (ih m oM).2.2.2.2.2.1, factor_ok i5 i0 iw, fun op h1 h26 => worded_ok h1 h26 i0⟩
end
end Go.Vc
