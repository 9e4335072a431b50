/- Parts of a proof. -/
import Derived.Test.YtkgngbpkiklckaaGreatDoorQClQExact42
set_option maxHeartbeats 12800000
namespace Go.Vc
open Go Go.Proofs
set_option maxRecDepth 20000
section
variable {w : World}
theorem lex_last {txt : List UInt8} : ∀ (n i : Nat), i ≤ txt.length → txt.length - i ≤ n → (∀ j, (lex txt i).last = .stop j → j = txt.length) ∧ ∀ t ∈ (lex txt i).toks, t.text.length ≤ txt.length := by
 intro n
 induction n with
 | zero =>
  intro i hi hn
  obtain rfl : i = txt.length := oM
  rw [lex_end]
  exact ⟨fun j h => by injection h with h; exact h.symm, by simp [TS.toks]⟩
 | succ n ih =>
  intro i hi hn
  cases h : lex txt i with
  | stop j =>
   refine ⟨fun q hq => ?_, by simp [TS.toks]⟩
   obtain rfl : j = q := by injection hq
   rw [Jm5 hi] at h
   split at h
   ·next hd =>
    injection h with h
    have h1 := List.drop_eq_nil_iff.1 hd
    have h2 := Qe2 (txt.drop i)
    rw [List.length_drop] at h2
    omega
   ·split at h <;> cases h
  | bad j => exact ⟨fun q hq => (by cases hq), by simp [TS.toks]⟩
  | tok t r =>
   obtain ⟨h1, h2, h3, rfl, _⟩ := lex_tok hi h
   obtain ⟨a, b⟩ := ih (t.at_ + t.text.length) h2 oM
   refine ⟨a, fun u hu => ?_⟩
   rcases List.mem_cons.1 hu with rfl | hu
   ·omega
   ·exact b u hu
theorem bad_last {en : Nat} : ∀ s : TS, (∀ j, s.last = .stop j → j = en) → (if badI s < 0 then TS.stop en else .bad (badI s).toNat) = s.last
 | .stop j, h => by rw [h j rfl]; rfl
 | .bad i, _ => by
  show (if (i : Int) < 0 then TS.stop en else .bad ((i : Int)).toNat) = .bad i
  rw [if_neg oM, Int.toNat_natCast]
 | .tok t r, h => bad_last r h
def ParseR (r : Except (Int × Int) QT) (w : World) (v : Value) (w' : World) : Prop :=
 match r with
 | .ok t => ∃ k : KQ, v = .tuple #[.agg ⟨[kqV k]⟩, .agg ⟨[I 0, I 0]⟩] ∧ k.l = t.rows ∧ Jl4 w' k ∧ ∀ b ∈ Ja1 k.ad, w.heap.size ≤ b
 | .error (c, i) => v = .tuple #[.agg ⟨[.slice none 0 0]⟩, .agg ⟨[I c, I i]⟩]
theorem Qh8 (txt : List UInt8) (hmax : txt.length ≤ 9223372036854775806) : Ret Tryz.prog 27 [S txt] w (fun v w' => ParseR (Ja4 txt) w v w' ∧ Kp [] w w') := by
 refine Zd Tryz.call27 Tryz.func27 ?_
 refine zS ?_
 refine Za ?_
 intro b2 w1 e2 hu1
 refine Za ?_
 intro b3 w2 e3 hu2
 have l1 := hu1.lt
 have l2 := hu2.lt
 have z23 : b2 ≠ b3 := oM
 have k2 : Kp [] w w2 := (hu1.new oM).trans (hu2.new oM)
 have y1 := (hu1.new oM).size
 have n2 : w.heap.size ≤ b2 := oM
 have n3 : w.heap.size ≤ b3 := oM
 have g2 : Blk w2 b2 [.slice none 0 0] 24 := hu2.kept z23 hu1.blk
 have g3 : Blk w2 b3 [I 0, I 0] 38 := hu2.blk
 clear hu1 hu2
 have fin : ∀ {e : Env} {W : World} {q : Value} {c i : Int}, e 2 = ptr b2 → e 3 = ptr b3 → Blk W b2 [q] 24 → Blk W b3 [I c, I i] 38 → resC Tryz.prog e W [.cell 2 24, .cell 3 38] [.agg ⟨[q]⟩, .agg ⟨[I c, I i]⟩] := fun h1 h2 h3 h4 =>
  ⟨⟨_, h1, Jb9 h3 rfl rfl rfl rfl⟩, ⟨_, h2, Jb9 h4 rfl rfl rfl rfl⟩, trivial⟩
 have err : ∀ {e : Env} {W W' : World} {c i : Int}, Kp [] w W → e 2 = ptr b2 → e 3 = ptr b3 → Blk W' b2 [.slice none 0 0] 24 → Blk W' b3 [I c, I i] 38 → Kp [b2, b3] W W' → Ja4 txt = .error (c, i) → ∃ us, resC Tryz.prog e W' [.cell 2 24, .cell 3 38] us ∧ (ParseR (Ja4 txt) w (tupV us) W' ∧ Kp [] w W') := fun k h1 h2 h3 h4 k' h => ⟨_, fin h1 h2 h3 h4, by rw [h]; rfl, k.since k' (by simp; omega)⟩
 refine zS ?_
 refine r_if rfl (fun hc => ?_) (fun hc => ?_)
 ·have hpm : Ja4 txt = .error (3, 4096) := by unfold Ja4; rw [if_pos oM]
  refine zS ?_
  refine Zb [.slice none 0 0] ?_
  refine Zb [I 3, I 4096] ?_
  refine Zs (b := b2) (cs := [.slice none 0 0]) rfl g2 lR rfl (by simp [Value.oneCell']) ?_
  intro w3 hu3
  refine Zs (b := b3) (cs := [I 3, I 4096]) rfl (hu3.kept z23.symm g3) lR rfl (by simp [Value.oneCell']) ?_
  intro w4 hu4
  refine zS ?_
  exact err k2 rfl rfl (hu4.kept z23 hu3.blk) hu4.blk ((hu3.kp _ (.inl sI)).trans (hu4.kp _ (.inl sI))) hpm
 have htl : txt.length ≤ 4096 := oM
 have hlen : (lex txt 0).toks.length ≤ txt.length := by rw [toks_len]; have := Qg3 (txt := txt) txt.length 0 oM oM; omega
 obtain ⟨hst, htx⟩ := lex_last (txt := txt) txt.length 0 oM oM
 have hz := bad_last (lex txt 0) hst
 have hback := tsL_toks (lex txt 0)
 have hpm : Ja4 txt = (match lex txt 0 with
  | .bad i => .error (300, i)
  | s => rd (20 * txt.length + 20) 0 s >>= fun x => endM x.1 x.2) := by
  unfold Ja4; rw [if_neg oM]
  cases lex txt 0 <;> rfl
 refine zS ?_
 refine Zc (tokens30_ret txt htl) ?_
 rintro v w3 ⟨ad, cap, rfl, ho, k3, hn3⟩
 have k03 := k2.trans k3
 have g2 := k3.b0 g2
 have g3 := k3.b0 g3
 have y2 := k2.size
 refine zS ?_
 refine Zb [.slice ad (lex txt 0).toks.length cap, I 0, I (badI (lex txt 0)), I txt.length, I 0, I 0] ?_
 refine Zx ?_
 intro p w4 ep hu4
 have k4 : Kp [] w3 w4 := hu4.new oM
 have k04 := k03.trans k4
 have y3 := k3.size
 have hpn : p ∉ Ja1 ad := fun hb => by have := ho.lt p hb; omega
 obtain ⟨g, hg⟩ : ∃ g : RdG, g = ⟨p, ad, cap, (lex txt 0).toks, badI (lex txt 0), txt.length⟩ := ⟨_, rfl⟩
 have hgp : g.p = p := by rw [hg]
 have hgl : g.ts.length ≤ txt.length := by rw [hg]; exact hlen
 have hA : RdA w4 g 0 0 0 := by
  rw [hg]
  exact ⟨hu4.blk, ho.readN.kp k4 sI, Nat.zero_le _, by dsimp only; omega, hpn, fun t ht => by have := htx t ht; omega⟩
 have hg0 : g.st 0 = lex txt 0 := by
  rw [hg]
  show tsL (if badI (lex txt 0) < 0 then TS.stop txt.length else .bad (badI (lex txt 0)).toNat) (lex txt 0).toks = _
  rw [hz, hback]
 obtain ⟨X, hX, hpm⟩ : ∃ r, PreS g 0 0 0 r ∧ Ja4 txt = ((r >>= rd (20 * txt.length + 20) 0) >>= fun x => endM x.1 x.2) := by
  cases hl : lex txt 0 with
  | bad i =>
   rw [hl] at hpm
   refine ⟨.error (300, i), .inr ⟨rfl, ?_, ?_, rfl, ?_⟩, hpm⟩ <;> rw [hg, hl]
   ·rfl
   ·show (0 : Int) ≤ (i : Int); omega
   ·rfl
  | stop i => rw [hl] at hpm hg0; exact ⟨.ok (.stop i), ⟨rfl, hg0.symm, rfl⟩, hpm⟩
  | tok t r => rw [hl] at hpm hg0; exact ⟨.ok (.tok t r), ⟨rfl, hg0.symm, rfl⟩, hpm⟩
 have g2 := k4.b0 g2
 have g3 := k4.b0 g3
 have hzp : p = w3.heap.size := ep
 have m2 : b2 < w4.heap.size := g2.lt
 have m3 : b3 < w4.heap.size := g3.lt
 have mp : p < w4.heap.size := hgp ▸ hA.hdr.lt
 have z2p : b2 ≠ p := by have := k3.size; omega
 have z3p : b3 ≠ p := by have := k3.size; omega
 have np : w.heap.size ≤ p := by have := k03.size; omega
 clear hu4 hpn hback hz hlen hst htx hg0
 refine zS ?_
 have hq := (all30 (20 * txt.length + 20)).1 hA hX oM
 rw [hgp] at hq
 refine Zc hq ?_
 clear hq
 generalize (X >>= rd (20 * txt.length + 20) 0) = Y at hpm ⊢
 rintro v w5 ⟨k, i5, c5, f5, rfl, hk5, hn5, h5, hi5, hl5, hR5, k5⟩
 have k05 := k04.since k5 (by simpa using np)
 have g2 := k5.blk (by simpa using z2p) g2
 have g3 := k5.blk (by simpa using z3p) g3
 have hle5 := h5.le
 have hln5 := h5.len
 have y4 := k04.size
 have told : ∀ {c f : Int}, Ju1 (Ju2 Y) = (c, f) → (i5 < g.ts.length ∨ 0 ≤ g.bad) → c5 = 0 → Ja4 txt = .error (c, f) := fun {c f} h1 h2 h3 => by
  rw [hpm, ← h1]
  cases Y with
  | error x => rfl
  | ok y =>
   obtain ⟨t, s⟩ := y
   obtain ⟨⟨_, hs, hb⟩, _⟩ := hR5
   show endM t s = .error (failV s)
   by_cases hlt : i5 < g.ts.length
   ·rw [hs, Jh8 (List.getElem?_eq_getElem hlt)]; rfl
   ·rw [show i5 = g.ts.length by omega, Jy0] at hs
    unfold RdG.z at hs
    rw [if_neg oM] at hs
    rw [hs] at hb; cases hb
 have done : ¬ i5 < g.ts.length → ¬ 0 ≤ g.bad → c5 = 0 → ∃ t, Ja4 txt = (if 64 < t.depth then .error (302, 0) else .ok t) ∧ k.l = t.rows := fun h1 h2 h3 => by
  cases Y with
  | error x =>
   obtain ⟨e, q⟩ := x
   rcases hR5 with ⟨_, _, h⟩ | ⟨_, _, h, _⟩
   ·exact absurd h3 h
   ·exact absurd h h2
  | ok y =>
   obtain ⟨t, s⟩ := y
   obtain ⟨⟨_, hs, hb⟩, hl⟩ := hR5
   refine ⟨t, ?_, hl⟩
   rw [hpm]
   show endM t s = _
   rw [hs, show i5 = g.ts.length by omega, Jy0]
   unfold RdG.z
   rw [if_pos oM]; rfl
 have was : c5 ≠ 0 → Ja4 txt = .error (c5, f5) := fun h => by
  rw [hpm]
  cases Y with
  | error x =>
   obtain ⟨e, q⟩ := x
   rcases hR5 with ⟨rfl, rfl, _⟩ | ⟨q, _⟩
   ·rfl
   ·exact absurd q h
  | ok y => exact absurd hR5.1.1 h
 have hpre := hR5.pre
 clear hpm hR5
 refine zS ?_
 refine Ja9 ?_
 refine Jd8 (α := Int × Int) [2, 3, 6, 7] (fun _ => [ptr b2, ptr b3, ptr p, kqV k]) (fun y W => RdA W g i5 y.1 y.2 ∧ Kp [p] w5 W ∧ (y.1 ≠ 0 ∧ Ja4 txt = .error y ∨ y.1 = 0 ∧ ∃ t, Ja4 txt = (if 64 < t.depth then .error (302, 0) else .ok t) ∧ k.l = t.rows)) ?_ ?_
 ·refine Ja9 ?_
  have hd := h5.hdr
  rw [hgp] at hd
  refine Jc9 Ja0 kR ?_
  refine zN hd ?_
  refine Ji0 _ _ rfl rfl rfl (fun h1 => ?_) (fun h1 => ?_)
  ·have h1 : c5 = 0 := of_decide_eq_true h1
   refine zN hd ?_
   refine Ji0 _ _ rfl rfl rfl (fun h2 => ?_) (fun h2 => ?_)
   ·have h2 : (i5 : Int) < g.ts.length := of_decide_eq_true h2
    refine zN hd ?_
    intro w6 k6
    refine zS ?_
    have hf := Qf8 (h5.kp0 k6) hpre
    rw [hgp] at hf
    refine Zc hf ?_
    rintro v w7 ⟨rfl, c7, f7, h7, n7, e7, k7⟩
    refine zS ?_
    exact ⟨(c7, f7), rfl, h7, (k6.mono sI).trans k7, .inl ⟨n7, told e7 (.inl oM) h1⟩⟩
   ·have h2 : ¬ (i5 : Int) < g.ts.length := of_decide_eq_false h2
    refine zN hd ?_
    intro w6 k6
    refine r_if rfl (fun h3 => ?_) (fun h3 => ?_)
    ·refine zS ?_
     have hf := Qf8 (h5.kp0 k6) hpre
     rw [hgp] at hf
     refine Zc hf ?_
     rintro v w7 ⟨rfl, c7, f7, h7, n7, e7, k7⟩
     refine zS ?_
     exact ⟨(c7, f7), rfl, h7, (k6.mono sI).trans k7, .inl ⟨n7, told e7 (.inr h3) h1⟩⟩
    ·refine zS ?_
     exact ⟨(c5, f5), rfl, h5.kp0 k6, k6.mono sI, .inr ⟨h1, done oM h3 h1⟩⟩
  ·have h1 : ¬ c5 = 0 := of_decide_eq_false h1
   refine zN hd ?_
   intro w6 k6
   refine zS ?_
   exact ⟨(c5, f5), rfl, h5.kp0 k6, k6.mono sI, .inl ⟨h1, was h1⟩⟩
 rintro ⟨c6, f6⟩ e6 w6 ⟨h6, k6, hw⟩
 clear told done was hpre
 dsimp only at h6 hw
 have k06 := k05.since k6 (by simpa using np)
 have g2 := k6.blk (by simpa using z2p) g2
 have g3 := k6.blk (by simpa using z3p) g3
 have hk6 : Jl4 w6 k := hk5.kp k6 (fun b hb => by have := hn5 b hb; simp; omega)
 have hd := h6.hdr
 rw [hgp] at hd
 refine zL hd ?_
 refine Jn8 rfl (fun h1 => ?_) (fun h1 => ?_)
 ·have hpm := (hw.resolve_right fun q => h1 q.1).2
  refine zS ?_
  refine Ja9 ?_
  refine Jd8 (α := Unit) [2, 3] (fun _ => [ptr b2, ptr b3]) (fun _ W => Blk W b2 [.slice none 0 0] 24 ∧ Blk W b3 [I c6, I f6] 38 ∧ Kp [b2, b3] w6 W) ?_ ?_
  ·refine Qj6 (fun w' => Blk w' p [.slice g.ad g.ts.length g.cap, I i5, I g.bad, I g.en, I c6, I f6] 148) 7 Ja0 kR ?_
   have sd := Sm.drew w6
   generalize ({ w6 with drawn := w6.drawn + 1 } : World) = wd at sd ⊢
   have gd := sd.blk hd
   have gd2 := sd.blk g2
   have gd3 := sd.blk g3
   refine Ji9 [0, 1, 2, 3, 4] 2 kR kR kR gd ?_
   try dsimp only [List.map_cons, List.map_nil]
   refine Zv [.slice none 0 0] rfl ?_
   refine zX ?_
   refine Zz (vs := [I c6, I f6]) rfl rfl (fun w' h' => h'.sub 4 _ rfl) ?_
   refine zX ?_
   refine Je4 5 kR rfl ?_
   refine Zs (b := b2) (cs := [.slice none 0 0]) rfl gd2 lR rfl (by simp [Value.oneCell']) ?_
   intro w7 hu7
   refine Ja6 ⟨.inr (hu7.kept z2p.symm gd), ?_⟩
   refine Je4 6 kR rfl ?_
   refine Zs (b := b3) (cs := [I c6, I f6]) rfl (hu7.kept z23.symm gd3) lR rfl (by simp [Value.oneCell']) ?_
   intro w8 hu8
   refine Ja6 ⟨.inl kR, Qi6 kR ?_⟩
   exact ⟨(), rfl, hu8.kept z23 hu7.blk, hu8.blk, ((sd.kp _).trans (hu7.kp _ (.inl sI))).trans (hu8.kp _ (.inl sI))⟩
  rintro _ e8 w8 ⟨j2, j3, k8⟩
  refine zS ?_
  exact err k06 rfl rfl j2 j3 k8 hpm
 have h1 : c6 = 0 := h1
 obtain ⟨_, t, hpm, hkl⟩ := hw.resolve_left fun q => q.1 h1
 have hts : t.size = k.l.length := by rw [hkl, QT.rows_len]
 refine zS ?_
 refine Zc (Qm3 t.size t (l := k.l) (at_ := 0) (above := 0) lR hk6.1 oM ⟨[], by rw [List.drop_zero, List.append_nil]; exact hkl⟩ oM) ?_
 rintro v w7 ⟨rfl, k7⟩
 have k07 := k06.trans k7
 have g2 := k7.b0 g2
 have g3 := k7.b0 g3
 have hk7 := hk6.kp k7 sI
 refine zS ?_
 refine r_if rfl (fun h2 => ?_) (fun h2 => ?_)
 ·have h2 : 64 < 0 + t.depth := h2
  rw [if_pos oM] at hpm
  refine zS ?_
  refine Zb [.slice none 0 0] ?_
  refine Zb [I 302, I 0] ?_
  refine Zs (b := b2) (cs := [.slice none 0 0]) rfl g2 lR rfl (by simp [Value.oneCell']) ?_
  intro w8 hu8
  refine Zs (b := b3) (cs := [I 302, I 0]) rfl (hu8.kept z23.symm g3) lR rfl (by simp [Value.oneCell']) ?_
  intro w9 hu9
  refine zS ?_
  exact err k07 rfl rfl (hu9.kept z23 hu8.blk) hu9.blk ((hu8.kp _ (.inl sI)).trans (hu9.kp _ (.inl sI))) hpm
 ·have h2 : ¬ 64 < 0 + t.depth := h2
  rw [if_neg oM] at hpm
  refine zS ?_
  refine Zb [kqV k] ?_
  refine Zb [I 0, I 0] ?_
  refine Zs (b := b2) (cs := [kqV k]) rfl g2 lR rfl (by simp [Value.oneCell', kqV]) ?_
  intro w8 hu8
  refine Zs (b := b3) (cs := [I 0, I 0]) rfl (hu8.kept z23.symm g3) lR rfl (by simp [Value.oneCell']) ?_
  intro w9 hu9
  have k9 : Kp [b2, b3] w7 w9 := (hu8.kp _ (.inl sI)).trans (hu9.kp _ (.inl sI))
  refine zS ?_
  refine ⟨_, fin rfl rfl (hu9.kept z23 hu8.blk) hu9.blk, ?_, k07.since k9 (by simp; omega)⟩
  rw [hpm]
  refine ⟨k, rfl, hkl, hk7.kp k9 (fun b hb => ?_), fun b hb => ?_⟩
  ·have := hn5 b hb
   simp; omega
  ·have := hn5 b hb; omega
end
section
variable {w : World}
end
section
variable {w : World}
theorem rows_ofR {t : QT} {txt : List UInt8} {k : KQ} (hp : Ja4 txt = .ok t) (hl : k.l = t.rows) (h : Jl4 w k) : Rows w k.ad k.cap t.rows := by
 obtain ⟨h1, h2, h3⟩ := Qb0 hp
 have := Qh6 hp
 obtain ⟨q1, q2, q3⟩ := h
 rw [hl] at q1 q2
 exact ⟨q1, q2, q3, by rw [QT.rows_len]; omega, fun x hx => (Jj1 t h1 x hx).2, fun x hx => (Jj1 t h1 x hx).1⟩
theorem Text30_ret {pad ead : Option Addr} {pcap ecap : Nat} {s : Shp} {E : List Ev} {fuel : Int} (txt : List UInt8) (hmax : txt.length ≤ 9223372036854775806) (hpa : Ja7 w pad (s.pa.map I)) (hpl : s.pa.length ≤ 1048576) (he : Ja7 w ead (evsC E)) (hel : E.length ≤ 1048576) :
  Ret Tryz.prog 70 [S txt, .agg ⟨shC s pad pcap⟩, .slice ead E.length ecap, I fuel] w (fun v w' => v = .tuple #[.agg ⟨repC (Jv0 txt s E fuel).1⟩, .agg ⟨[I (Jv0 txt s E fuel).2.1, I (Jv0 txt s E fuel).2.2]⟩] ∧ Kp [] w w') := by
 refine Zd Tryz.call70 Tryz.func70 ?_
 refine zS ?_
 refine Zx ?_
 intro b5 w1 e5 hu1
 have k1 : Kp [] w w1 := hu1.new oM
 refine Za ?_
 intro b8 w2 e8 hu2
 have l1 := hu1.lt
 have k2 : Kp [] w1 w2 := hu2.new oM
 refine Za ?_
 intro b9 w3 e9 hu3
 have l2 := hu2.lt
 have k3 : Kp [] w2 w3 := hu3.new oM
 have h5 : Blk w3 b5 (shC s pad pcap) 27 := (k2.trans k3).b0 hu1.blk
 have h8 : Blk w3 b8 (repC rep0) 45 := k3.b0 hu2.blk
 have h9 : Blk w3 b9 [I 0, I 0] 38 := hu3.blk
 have l3 := h9.lt
 have k03 := (k1.trans k2).trans k3
 have y1 := k1.size
 have y2 := k2.size
 have n8 : w.heap.size ≤ b8 := oM
 have n9 : w.heap.size ≤ b9 := oM
 have h89 : b8 ≠ b9 := oM
 clear hu1 hu2 hu3
 have fin : ∀ {e : Env} {W : World} {r : Rep} {x y : Int}, e 8 = ptr b8 → e 9 = ptr b9 → Blk W b8 (repC r) 45 → Blk W b9 [I x, I y] 38 → resC Tryz.prog e W [.cell 8 45, .cell 9 38] [.agg ⟨repC r⟩, .agg ⟨[I x, I y]⟩] := fun h1 h2 h3 h4 =>
  ⟨⟨_, h1, Jb9 h3 rfl rfl rfl rfl⟩, ⟨_, h2, Jb9 h4 rfl rfl rfl rfl⟩, trivial⟩
 have htm : Jv0 txt s E fuel = match Ja4 txt with
  | .error (c, i) => (rep0, c, i)
  | .ok t => if (askM t.rows s E fuel).2 = 0 then ((askM t.rows s E fuel).1, 0, 0) else (rep0, (askM t.rows s E fuel).2, 0) := rfl
 refine zS ?_
 refine Zc (Qh8 txt hmax) ?_
 rintro v w4 ⟨hv, k4⟩
 have k04 := k03.trans k4
 have y4 := k4.size
 have h54 := k4.b0 h5
 have h84 := k4.b0 h8
 have h94 := k4.b0 h9
 have lay : ∃ vq vf : Value, (∃ ad n cap, vq = qV ad n cap) ∧ (∃ c i : Int, vf = .agg ⟨[I c, I i]⟩ ∧ (match Ja4 txt with | .ok t => c = 0 ∧ i = 0 ∧ ∃ ad cap, vq = qV ad t.rows.length cap ∧ Rows w4 ad cap t.rows | .error (c', i') => c = c' ∧ i = i')) ∧ v = .tuple #[vq, vf] := by
  unfold ParseR at hv
  cases hp : Ja4 txt with
  | error e =>
   obtain ⟨c, i⟩ := e
   rw [hp] at hv
   exact ⟨_, _, ⟨none, 0, 0, rfl⟩, ⟨c, i, rfl, rfl, rfl⟩, hv⟩
  | ok t =>
   rw [hp] at hv
   obtain ⟨k, hv, hl, hN, _⟩ := hv
   exact ⟨_, _, ⟨k.ad, _, k.cap, rfl⟩, ⟨0, 0, rfl, rfl, rfl, k.ad, k.cap, rfl, rows_ofR hp hl hN⟩, by rw [hv, ← hl]; rfl⟩
 obtain ⟨_, _, ⟨qad, qn, qcap, rfl⟩, ⟨c, i, rfl, hpm⟩, rfl⟩ := lay
 refine zS ?_
 refine Za ?_
 intro b10 w5 e10 hu5
 refine Za ?_
 intro b11 w6 e11 hu6
 have l5 := hu5.lt
 have n1011 : b10 ≠ b11 := oM
 have k5 : Kp [] w4 w5 := hu5.new oM
 have k6 : Kp [] w4 w6 := k5.trans (hu6.new oM)
 refine Zs (b := b10) (cs := [.slice qad qn qcap]) rfl (hu6.kept n1011 hu5.blk) lR rfl (by simp [Value.oneCell']) ?_
 intro w7 hu7
 refine Zs (b := b11) (cs := [I c, I i]) rfl (hu7.kept n1011.symm hu6.blk) lR rfl (by simp [Value.oneCell']) ?_
 intro w8 hu8
 have y5 := k5.size
 have h10 : Blk w8 b10 [.slice qad qn qcap] 24 := hu8.kept n1011 hu7.blk
 have h11 : Blk w8 b11 [I c, I i] 38 := hu8.blk
 have k48 : Kp [] w4 w8 := (k6.since (hu7.kp [b10] (.inl sI)) (by simp; omega)).since (hu8.kp [b11] (.inl sI)) (by simp; omega)
 have k08 := k04.trans k48
 have h58 := k48.b0 h54
 have h88 := k48.b0 h84
 have h98 := k48.b0 h94
 have m8 := h84.lt
 have m9 := h94.lt
 clear hu5 hu6 hu7 hu8
 refine zL h11 ?_
 cases hp : Ja4 txt with
 | error e =>
  obtain ⟨c', i'⟩ := e
  rw [hp] at hpm htm
  obtain ⟨rfl, rfl⟩ := hpm
  have hc := parse_err hp
  rw [htm]
  refine Jn8 rfl (fun _ => ?_) (fun h => absurd h hc)
  refine zS ?_
  refine Ja9 ?_
  refine Jd8 (α := Unit) [8, 9] (fun _ => [ptr b8, ptr b9]) (fun _ W => Blk W b8 (repC rep0) 45 ∧ Blk W b9 [I c, I i] 38 ∧ Kp [b8, b9] w8 W) ?_ ?_
  ·refine Qj6 (fun w' => Blk w' b11 [I c, I i] 38) 4 Ja0 kR ?_
   have sd := Sm.drew w8
   generalize ({ w8 with drawn := w8.drawn + 1 } : World) = wd at sd ⊢
   have g11 := sd.blk h11
   have g8 := sd.blk h88
   have g9 := sd.blk h98
   have o1 : b11 ≠ b8 := oM
   have o2 : b11 ≠ b9 := oM
   refine Ji9 [0, 1] 2 kR kR kR g11 ?_
   try dsimp only [List.map_cons, List.map_nil]
   refine Zv (repC rep0) rfl ?_
   refine Zz (vs := [I c, I i]) rfl rfl (fun w' h' j v hv => by rw [Nat.zero_add]; exact h'.cell hv) ?_
   refine zX ?_
   refine Je4 2 kR rfl ?_
   refine Zs (b := b8) (cs := repC rep0) rfl g8 lR rfl (by simp [Value.oneCell', repC]) ?_
   intro w9 hu9
   refine Ja6 ⟨.inr (hu9.kept o1 g11), ?_⟩
   refine Je4 3 kR rfl ?_
   refine Zs (b := b9) (cs := [I c, I i]) rfl (hu9.kept h89.symm g9) lR rfl (by simp [Value.oneCell']) ?_
   intro w10 hu10
   refine Ja6 ⟨.inl kR, Qi6 kR ?_⟩
   exact ⟨(), rfl, hu10.kept h89 hu9.blk, hu10.blk, ((sd.kp _).trans (hu9.kp _ (.inl sI))).trans (hu10.kp _ (.inl sI))⟩
  rintro _ e9 w9 ⟨j8, j9, k9⟩
  refine zS ?_
  exact ⟨_, fin rfl rfl j8 j9, rfl, k08.since k9 (by simp; omega)⟩
 | ok t =>
  rw [hp] at hpm htm
  obtain ⟨rfl, rfl, ad, cap, hq, hO⟩ := hpm
  simp only [Value.agg.injEq, Array.mk.injEq, List.cons.injEq, Value.slice.injEq, and_true] at hq
  obtain ⟨rfl, rfl, rfl⟩ := hq
  have hRows := hO.kp k48 sI
  have htm : Jv0 txt s E fuel = if (askM t.rows s E fuel).2 = 0 then ((askM t.rows s E fuel).1, 0, 0) else (rep0, (askM t.rows s E fuel).2, 0) := htm
  refine r_no rfl sI ?_
  refine zS ?_
  refine Zm (vs := [.slice qad t.rows.length qcap]) rfl h10.cs ?_
  refine Zm (vs := shC s pad pcap) rfl h58.cs ?_
  refine zS ?_
  refine Zc (Qh4 hRows (hpa.kp k08 sI) hpl (he.kp k08 sI) hel) ?_
  generalize askM t.rows s E fuel = r at htm ⊢
  obtain ⟨rr, re⟩ := r
  dsimp only at htm ⊢
  rintro v w9 ⟨rfl, k9⟩
  have k89 := k9
  have h89' := k9.b0 h88
  have h99 := k9.b0 h98
  have k09 := k08.trans k9
  refine zS ?_
  refine Za ?_
  intro b12 w10 e12 hu10
  have k10 : Kp [] w9 w10 := hu10.new oM
  have l10 := hu10.lt
  have y9 := k9.size
  refine Zs (b := b12) (cs := repC rr) rfl hu10.blk lR rfl (by simp [Value.oneCell', repC]) ?_
  intro w11 hu11
  have k911 : Kp [] w9 w11 := k10.since (hu11.kp [b12] (.inl sI)) (by simp; omega)
  have h12 : Blk w11 b12 (repC rr) 45 := hu11.blk
  have h811 := k911.b0 h89'
  have h911 := k911.b0 h99
  have k011 := k09.trans k911
  clear hu10 hu11
  rw [htm]
  refine zS ?_
  refine Jn8 rfl (fun hne => ?_) (fun heq => ?_)
  ·rw [if_neg hne]
   refine zS ?_
   refine Zb (repC rep0) ?_
   refine zS ?_
   refine Zb [I re, I 0] ?_
   refine Zs (b := b8) (cs := repC rep0) rfl h811 lR rfl (by simp [Value.oneCell', repC]) ?_
   intro w12 hu12
   refine Zs (b := b9) (cs := [I re, I 0]) rfl (hu12.kept h89.symm h911) lR rfl (by simp [Value.oneCell']) ?_
   intro w13 hu13
   refine zS ?_
   exact ⟨_, fin rfl rfl (hu13.kept h89 hu12.blk) hu13.blk, rfl, (k011.since (hu12.kp [b8] (.inl sI)) (by simpa using n8)).since (hu13.kp [b9] (.inl sI)) (by simpa using n9)⟩
  ·rw [if_pos heq]
   refine zS ?_
   refine Zm (vs := repC rr) rfl h12.cs ?_
   refine Zb [I 0, I 0] ?_
   refine Zs (b := b8) (cs := repC rr) rfl h811 lR rfl (by simp [Value.oneCell', repC]) ?_
   intro w12 hu12
   refine Zs (b := b9) (cs := [I 0, I 0]) rfl (hu12.kept h89.symm h911) lR rfl (by simp [Value.oneCell']) ?_
   intro w13 hu13
   refine zS ?_
   exact ⟨_, fin rfl rfl (hu13.kept h89 hu12.blk) hu13.blk, rfl, (k011.since (hu12.kp [b8] (.inl sI)) (by simpa using n8)).since (hu13.kp [b9] (.inl sI)) (by simpa using n9)⟩
theorem OwnS.end_ {T : TypeId} {size : Nat} {ad : Option Addr} {n cap : Nat} {xs ys : List Value} (h : OwnS w T size ad n cap (xs ++ ys)) (hy : 0 < ys.length) : ∃ b, ad = some ⟨b, 0, none⟩ ∧ b < w.heap.size ∧ ∀ j v, ys[j]? = some v → w.cell? ⟨b, xs.length + j, none⟩ = some v := by
 have hr := h.readN
 obtain ⟨b, off, he, hb, hc⟩ := hr.at_ (by rw [List.length_append]; omega)
 obtain rfl : off = 0 := by
  obtain ⟨_, h⟩ := h
  rw [he] at h
  exact h.1
 exact ⟨b, he, hb, fun j v hv => by
  have := hc (xs.length + j) v (by rw [List.getElem?_append_right oM, Nat.add_sub_cancel_left]; exact hv)
  rwa [Nat.zero_add] at this⟩
theorem Qh9 {l : List QN} {ad lad : Option Addr} {cap lcap : Nat} (hR : Rows w ad cap l) (hO : OwnS w 81 4 lad (l.length + 70) lcap ((l ++ Jg4 70).flatMap qC)) :
  Ret Tryz.prog 32 [.agg ⟨[.slice lad l.length lcap]⟩, .agg ⟨[.slice ad l.length cap]⟩] w (fun v w' => v = .bool true ∧ Kp [] w w') := by
 have hm := hR.max_
 have hcl := hR.cap_
 have hle := hR.len
 have hlc := hO.le_cap
 have hRl : Rows w lad lcap l := OwnS.rowsP (m := Jg4 70) (by rw [Jg8]; exact hO) hR.len hR.name hR.num
 have hml := hRl.max_
 have hrl := Jf5 l
 obtain ⟨b, rfl, hbl, hcell⟩ : ∃ b, lad = some ⟨b, 0, none⟩ ∧ b < w.heap.size ∧ ∀ j v, ((Jg4 70).flatMap qC)[j]? = some v → w.cell? ⟨b, l.length * 4 + j, none⟩ = some v := by
  rw [List.flatMap_append] at hO
  obtain ⟨b, h1, h2, h3⟩ := hO.end_ (by rw [Jf5, Jg8]; omega)
  rw [hrl] at h3
  exact ⟨b, h1, h2, h3⟩
 refine Ze Tryz.call32 Tryz.func32 ?_
 refine zS ?_
 refine Zx ?_
 intro b2 w1 e2 hu1
 refine Zx ?_
 intro b3 w2 e3 hu2
 have l1 := hu1.lt
 have k2 : Kp [] w w2 := (hu1.new oM).trans (hu2.new oM)
 have g2 : Blk w2 b2 [.slice (some ⟨b, 0, none⟩) l.length lcap] 24 := (hu2.new oM).b0 hu1.blk
 have g3 : Blk w2 b3 [.slice ad l.length cap] 24 := hu2.blk
 clear hu1 hu2
 refine zS ?_
 refine Zm (vs := [.slice (some ⟨b, 0, none⟩) l.length lcap]) rfl g2.cs ?_
 refine Zm (vs := [.slice ad l.length cap]) rfl g3.cs ?_
 refine Zc (Jk3 (hRl.kp k2 sI) (hR.kp k2 sI)) ?_
 rw [decide_eq_true (rfl : l = l)]
 rintro v w3 ⟨rfl, k3⟩
 have k03 := k2.trans k3
 have g2 := k3.b0 g2
 have g3 := k3.b0 g3
 refine zL g2 ?_
 refine zL g3 ?_
 refine Jb4 (α := Nat) [2, 3, 5, 6] (fun i => [ptr b2, ptr b3, .slice (some ⟨b, 0, none⟩) (l.length + 70) lcap, I i]) (fun i W => i ≤ 70 ∧ W = w3) (fun i => 70 - i) 0 rfl ⟨Nat.zero_le _, rfl⟩ ?_
 rintro i e W ⟨hi, rfl⟩
 refine zS ?_
 refine r_if rfl (fun hc => ?_) (fun hc => ?_)
 ·have hi2 : i < 70 := oM
  have hmi : (Jg4 70)[i]? = some (mkN i) := by simp [Jg4, hi2]
  have hat : ∀ j v, (qC (mkN i))[j]? = some v → W.cell? ⟨b, (l.length + i) * 4 + j, none⟩ = some v := fun j v hv => by
   rw [← hcell (i * 4 + j) v (Jm9 (f := qC) (m := 4) (fun _ => rfl) hmi hv), show (l.length + i) * 4 + j = l.length * 4 + (i * 4 + j) by omega]
   exact World.cell?_of_block (k03.at_ b hbl sI)
  refine zL g3 ?_
  refine Jq2 (vs := qC (mkN i)) rfl (fun j v hv => by
   rw [show ((l.length : Int) + (i : Int)).toNat = l.length + i by omega, Nat.zero_add]
   exact hat j v hv) rfl rfl rfl rfl rfl rfl ?_
  refine zS ?_
  refine Zb (qC (mkN i)) ?_
  refine Qm7 (qC (mkN i)) (qC (mkN i)) rfl rfl rfl kR kR rfl rfl rfl rfl ?_
  rw [Ql6, decide_eq_true (rfl : mkN i = mkN i)]
  refine zS ?_
  exact ⟨i + 1, rfl, ⟨oM, rfl⟩, oM⟩
 ·refine zS ?_
  exact ⟨_, rfl, rfl, k03⟩
theorem spoil_ret {n cap : Nat} {ad : Option Addr} {l : List QN} (mark : Int) (hl : l.length = n) (hn : n ≤ 1048576) (hO : OwnS w 81 4 ad n cap (l.flatMap qC)) :
  Ret Tryz.prog 33 [.agg ⟨[.slice ad n cap]⟩, I mark] w (fun v w' => v = .bool true ∧ Kp (Ja1 ad) w w') := by
 subst hl
 have hlc := hO.le_max
 refine Ze Tryz.call33 Tryz.func33 ?_
 refine zS ?_
 refine Zx ?_
 intro b2 w1 e2 hu1
 have k1 : Kp [] w w1 := hu1.new oM
 have g2 : Blk w1 b2 [.slice ad l.length cap] 24 := hu1.blk
 have z2 : b2 ∉ Ja1 ad := fun hb => by have := hO.lt b2 hb; omega
 clear hu1
 refine zL g2 ?_
 refine Jb4 (α := Nat × List QN) [1, 2, 5, 6] (fun y => [I mark, ptr b2, .slice ad l.length cap, I y.1]) (fun y W => y.1 ≤ l.length ∧ y.2.length = l.length ∧ OwnS W 81 4 ad l.length cap (y.2.flatMap qC) ∧ Kp (Ja1 ad) w1 W) (fun y => l.length - y.1) (0, l) rfl ⟨Nat.zero_le _, rfl, hO.kp k1 sI, Kp.refl _ _⟩ ?_
 rintro ⟨i, m⟩ e W ⟨hi, hm, ho, kW⟩
 dsimp only at hi hm ho ⊢
 refine zS ?_
 refine r_if rfl (fun hc => ?_) (fun hc => ?_)
 ·have hi2 : i < l.length := oM
  obtain ⟨b, L, rfl, hL, hLl, hcell, hset⟩ := OwnS.rec (f := qC) (m := 4) (by rw [hm]; exact ho) (fun _ => rfl) oM (i := i) oM
  refine zS ?_
  refine Zb (qC ⟨0, mark, 0, []⟩) ?_
  refine zS ?_
  refine Zs (b := b) (cs := qC ⟨0, mark, 0, []⟩) rfl hL (by rw [Ja2]; simp [qC]; omega) rfl (fun v hv => Qm5 (l := [⟨0, mark, 0, []⟩]) v (by simpa using hv)) ?_
  intro w2 hu2
  rw [Ja2, Nat.zero_add] at hu2
  have ho2 := hset _ _ hu2
  rw [hm] at ho2
  refine zS ?_
  exact ⟨(i + 1, m.set i ⟨0, mark, 0, []⟩), rfl, ⟨oM, by rw [List.length_set]; exact hm, ho2, kW.trans (hu2.kp _ (.inl (by simp [Ja1])))⟩, by dsimp only; omega⟩
 ·refine zS ?_
  have yW := kW.size
  have hbk : ∀ c, c ∈ Ja1 ad → c < w1.heap.size := fun c hc => by have := hO.lt c hc; have := k1.size; omega
  have g2' : Blk W b2 [.slice ad l.length cap] 24 := kW.blk z2 g2
  have m2 := g2.lt
  refine Jb4 (α := Nat × List QN × Option Addr × Nat) [1, 2, 5, 7] (fun y => [I mark, ptr b2, .slice y.2.2.1 (l.length + y.1) y.2.2.2, I y.1]) (fun y V => y.1 ≤ 70 ∧ y.2.1.length = l.length + y.1 ∧ OwnS V 81 4 y.2.2.1 (l.length + y.1) y.2.2.2 (y.2.1.flatMap qC) ∧ Kp (Ja1 ad) W V ∧ ∀ c, c ∈ Ja1 y.2.2.1 → c ∈ Ja1 ad ∨ W.heap.size ≤ c) (fun y => 70 - y.1) (0, m, ad, cap) rfl ⟨Nat.zero_le _, hm, ho, Kp.refl _ _, fun c hc => .inl hc⟩ ?_
  rintro ⟨j, m, jad, jcap⟩ e V ⟨hj, hm, ho, kV, hnew⟩
  dsimp only at hj hm ho hnew ⊢
  have g2 := kV.blk z2 g2'
  refine zS ?_
  refine r_if rfl (fun hc => ?_) (fun hc => ?_)
  ·have hj2 : j < 70 := oM
   refine zS ?_
   refine Zb (qC ⟨0, mark, 0, []⟩) ?_
   refine Zn (qC ⟨0, mark, 0, []⟩) rfl rfl rfl kR ?_
   intro bn w5 hbn hu5
   have k5 : Kp [] V w5 := hu5.new oM
   have yV := kV.size
   refine Jg7 (k := l.length + j) (qC ⟨0, mark, 0, []⟩) rfl rfl (ho.kp k5 sI) (Ja7.blk hu5.blk) rfl rfl rfl dE rfl (fun v hv => Qm5 (l := [⟨0, mark, 0, []⟩]) v (by simpa using hv)) (by simp only [maxLen]; omega) oM rfl rfl ?_
   intro ad6 cap6 w6 ho6 k6 hn6
   have y5 := k5.size
   refine zS ?_
   refine ⟨(j + 1, m ++ [⟨0, mark, 0, []⟩], ad6, cap6), rfl, ⟨by dsimp only; omega, by dsimp only; rw [List.length_append, hm]; rfl, ?_, ?_, fun c hc => ?_⟩, by dsimp only; omega⟩
   ·dsimp only
    rw [List.flatMap_append]
    simpa [Nat.add_assoc] using ho6
   ·have k := kV.trans (k5.mono (S' := Ja1 ad) sI)
    exact ⟨k6.os.trans k.os, k6.tape.trans k.tape, k6.output.trans k.output, Nat.le_trans k.size k6.size, fun q hq hS => (k6.at_ q (Nat.lt_of_lt_of_le hq k.size) (fun hm => by
     rcases hnew q hm with h | h
     ·exact hS h
     ·omega)).trans (k.at_ q hq hS)⟩
   ·rcases hn6 c hc with h | h
    ·exact hnew c h
    ·exact .inr oM
  ·obtain rfl : j = 70 := oM
   have k02 : Kp (Ja1 ad) w V := ((k1.mono sI).trans kW).trans kV
   refine zL g2 ?_
   exact ⟨_, rfl, sI, k02⟩
end
end Go.Vc
