/- Parts of a proof. -/
import Derived.Test.YtkgngbpkiklckaaGreatDoorQClQExact44
set_option maxHeartbeats 12800000
namespace Go.Vc
open Go Go.Proofs
set_option maxRecDepth 20000
section
variable {w : World}
def parL : Except (Int × Int) QT → List QN
 | .ok t => t.rows
 | .error _ => []
def parF : Except (Int × Int) QT → Int × Int
 | .ok _ => (0, 0)
 | .error x => x
def renL : Except Int (List QN) → List QN
 | .ok l => l
 | .error _ => []
def renE : Except Int (List QN) → Int
 | .ok _ => 0
 | .error c => c
structure LOk (l : List QN) : Prop where
 len : l.length ≤ 1048576
 name : ∀ x ∈ l, x.name.length ≤ 9223372036854775806
 num : ∀ x ∈ l, x.num ≤ 9223372036854775807
theorem LOk.nil : LOk [] := ⟨sI, sI, sI⟩
theorem parL_ok (txt : List UInt8) : LOk (parL (Ja4 txt)) := by
 cases h : Ja4 txt with
 | error x => exact LOk.nil
 | ok t =>
  obtain ⟨h1, h2, h3⟩ := Qb0 h
  have := Qh6 h
  exact ⟨by show t.rows.length ≤ _; rw [QT.rows_len]; omega, fun x hx => (Jj1 t h1 x hx).2, fun x hx => (Jj1 t h1 x hx).1⟩
theorem renL_ok {l : List QN} {a c : List UInt8} (h : LOk l) (hc : c.length ≤ 1048576) : LOk (renL (renM l a c)) := by
 cases hr : renM l a c with
 | error x => exact LOk.nil
 | ok m =>
  obtain ⟨rfl, _⟩ := ren_ok hr
  refine ⟨by show (l.map _).length ≤ _; rw [List.length_map]; exact h.len, fun x hx => ?_, fun x hx => ?_⟩ <;> obtain ⟨y, hy, rfl⟩ := List.mem_map.1 hx <;> rw [rnN_eq]
  ·dsimp only
   unfold rn
   split
   ·omega
   ·exact h.name y hy
  ·exact h.num y hy
theorem OwnS.rowsL {ad : Option Addr} {cap : Nat} {l : List QN} (h : OwnS w 81 4 ad l.length cap (l.flatMap qC)) (hl : LOk l) : Rows w ad cap l :=
 OwnS.rowsP (m := []) (by simpa using h) hl.len hl.name hl.num
theorem Ql2.row {r : Except (Int × Int) QT} {v : Value} {w' : World} (h : Ql2 r w v w') : ∃ ad cap, v = .tuple #[.agg ⟨[.slice ad (parL r).length cap]⟩, .agg ⟨[I (parF r).1, I (parF r).2]⟩] ∧ OwnS w' 81 4 ad (parL r).length cap ((parL r).flatMap qC) ∧ ∀ b ∈ Ja1 ad, w.heap.size ≤ b := by
 cases r with
 | error x => exact ⟨none, 0, h, Jd6 _ _ _, by simp [Ja1]⟩
 | ok t =>
  obtain ⟨ad, cap, rfl, hO, hn⟩ := h
  exact ⟨ad, cap, by show _ = Value.tuple #[.agg ⟨[.slice ad t.rows.length cap]⟩, _]; rw [QT.rows_len]; rfl, by show OwnS _ _ _ _ t.rows.length _ _; rw [QT.rows_len]; exact hO, hn⟩
theorem ParseR.row {txt : List UInt8} {v : Value} {w' : World} (h : ParseR (Ja4 txt) w v w') : ∃ ad cap, v = .tuple #[.agg ⟨[.slice ad (parL (Ja4 txt)).length cap]⟩, .agg ⟨[I (parF (Ja4 txt)).1, I (parF (Ja4 txt)).2]⟩] ∧ Rows w' ad cap (parL (Ja4 txt)) ∧ ∀ b ∈ Ja1 ad, w.heap.size ≤ b := by
 cases hp : Ja4 txt with
 | error x =>
  rw [hp] at h
  exact ⟨none, 0, h, (Jd6 _ _ _ : OwnS w' 81 4 none 0 0 []).rowsL LOk.nil, by simp [Ja1]⟩
 | ok t =>
  rw [hp] at h
  obtain ⟨k, rfl, hl, hN, hn⟩ := h
  exact ⟨k.ad, k.cap, by show _ = Value.tuple #[.agg ⟨[.slice k.ad t.rows.length k.cap]⟩, _]; rw [← hl]; rfl, rows_ofR hp hl hN, hn⟩
theorem RenV.row {r : Except Int (List QN)} {v : Value} {w' : World} (h : RenV r w v w') : ∃ ad cap, v = .tuple #[.agg ⟨[.slice ad (renL r).length cap]⟩, I (renE r)] ∧ OwnS w' 81 4 ad (renL r).length cap ((renL r).flatMap qC) ∧ ∀ b ∈ Ja1 ad, w.heap.size ≤ b := by
 cases r with
 | error x => exact ⟨none, 0, h, Jd6 _ _ _, by simp [Ja1]⟩
 | ok t => exact h
def Qc0 (W : World) (lo hi b : Nat) (l : List QN) : Prop := ∃ ad cap, Blk W b [.slice ad l.length cap] 24 ∧ Rows W ad cap l ∧ lo ≤ b ∧ b < hi ∧ (l = [] ∨ ∀ c, c ∈ Ja1 ad → lo ≤ c ∧ c < hi)
theorem Rows.nil_ {W W' : World} {ad : Option Addr} {cap : Nat} {l : List QN} (h : Rows W ad cap l) (hl : l = []) : Rows W' ad cap l := by
 subst hl
 refine ⟨?_, h.cap_, h.max_, h.len, h.name, h.num⟩
 cases ad with
 | none => rfl
 | some a => intro i v hv; simp at hv
theorem Rows.ltB {ad : Option Addr} {cap : Nat} {l : List QN} (h : Rows w ad cap l) : l = [] ∨ ∀ b, b ∈ Ja1 ad → b < w.heap.size := by
 cases l with
 | nil => exact .inl rfl
 | cons x r =>
  refine .inr fun b hb => ?_
  obtain ⟨b0, off, rfl, hlt, _⟩ := h.cellN (i := 0) rfl
  simp [Ja1] at hb
  omega
theorem Qc0.kp {W W' : World} {S : List Nat} {lo hi b : Nat} {l : List QN} (h : Qc0 W lo hi b l) (hk : Kp S W W') (hS : ∀ s, s ∈ S → s < lo ∨ hi ≤ s) : Qc0 W' lo hi b l := by
 obtain ⟨ad, cap, h1, h2, h3, h4, h5⟩ := h
 refine ⟨ad, cap, hk.blk (fun hb => ?_) h1, ?_, h3, h4, h5⟩
 ·have := hS b hb; omega
 ·rcases h5 with h5 | h5
  ·exact h2.nil_ h5
  ·exact h2.kp hk (fun c hc hb => by have := hS c hb; have := h5 c hc; omega)
theorem Qc0.kp0 {W W' : World} {lo hi b : Nat} {l : List QN} (h : Qc0 W lo hi b l) (hk : Kp [] W W') : Qc0 W' lo hi b l := h.kp hk sI
def bump (x : QN) : QN := if x.op = 1 ∧ x.num < 100 then { x with num := x.num + 1 } else x
theorem LOk.set {l : List QN} (h : LOk l) {i : Nat} {x : QN} (hx : l[i]? = some x) : LOk (l.set i (bump x)) := by
 have hm := List.mem_of_getElem? hx
 refine ⟨by rw [List.length_set]; exact h.len, fun y hy => ?_, fun y hy => ?_⟩ <;> rcases List.mem_or_eq_of_mem_set hy with hy | rfl
 ·exact h.name y hy
 ·have := h.name x hm
  unfold bump; split <;> exact this
 ·exact h.num y hy
 ·have := h.num x hm
  unfold bump; split
  ·show x.num + 1 ≤ _; omega
  ·exact this
theorem Qk4 {x : AG} (hA : AscW w) (hP : PowQ w) (hx : x.Ok w) : Ret Tryz.prog 9 [.agg ⟨x.C⟩] w (fun v w' => v = .bool true ∧ Kp [] w w') := by
 refine Ze Tryz.call9 Tryz.func9 ?_
 refine zS ?_
 refine Zx ?_
 intro b1 w1 e1 hu1
 have k1 : Kp [] w w1 := hu1.new oM
 have g1 : Blk w1 b1 x.C 30 := hu1.blk
 clear hu1
 refine zS ?_
 refine Zc (works_ret (hA.kp k1 sI) (hP.kp k1 sI)) ?_
 rintro v w2 ⟨rfl, k2⟩
 have k02 := k1.trans k2
 have g1 := k2.b0 g1
 refine zS ?_
 refine Zm (vs := x.C) rfl g1.cs ?_
 refine Zc few_ret ?_
 rintro v w3 ⟨rfl, k3⟩
 have k03 := k02.trans k3
 have g1 := k3.b0 g1
 generalize (decide (x.fuel ≤ 300000) || decide (67108864 < x.fuel)) = fw
 cases fw with
 | false =>
  refine zS ?_
  refine Zc (works_ret (hA.kp k03 sI) (hP.kp k03 sI)) ?_
  rintro v w4 ⟨rfl, k4⟩
  refine zS ?_
  exact ⟨_, rfl, rfl, k03.trans k4⟩
 | true =>
 have htx := hx.txt
 have hfr := hx.fr
 have htt := hx.tt
 have hLx : LOk x.l := ⟨hx.rows.len, hx.rows.name, hx.rows.num⟩
 have hLp := parL_ok x.txt
 have hLr := renL_ok (a := x.fr) hLx htt
 have y3 := k03.size
 have m1 := g1.lt
 clear k1 k2 k3 k02
 refine zS ?_
 refine Zl rfl g1 (v := S x.txt) ?_
 refine Zc (Jy7 (hA.kp k03 sI) x.txt oM) ?_
 rintro v w4 ⟨hv, kc⟩
 obtain ⟨qad, qcap, rfl, hOq_, qn⟩ := hv.row
 clear hv
 have g1 := kc.b0 g1
 have hRq := hOq_.rowsL hLp
 have qh := hOq_.lt
 refine zS ?_
 refine Za ?_
 intro b3 wa ea hua
 refine Za ?_
 intro b4 wb eb hub
 have la := hua.lt
 have nab : b3 ≠ b4 := oM
 have ka : Kp [] w4 wb := (hua.new oM).trans (hub.new oM)
 refine Zs (b := b3) (cs := [.slice qad (parL (Ja4 x.txt)).length qcap]) rfl (hub.kept nab hua.blk) lR rfl (by simp [Value.oneCell']) ?_
 intro wc huc
 refine Zs (b := b4) (cs := [I (parF (Ja4 x.txt)).1, I (parF (Ja4 x.txt)).2]) rfl (huc.kept nab.symm hub.blk) lR rfl (by simp [Value.oneCell']) ?_
 intro w5 hud
 have kd : Kp [] w4 w5 := (ka.since (huc.kp [b3] (.inl sI)) (by simp; omega)).since (hud.kp [b4] (.inl sI)) (by simp; omega)
 have g3 : Blk w5 b3 [.slice qad (parL (Ja4 x.txt)).length qcap] 24 := hud.kept nab huc.blk
 have g4 : Blk w5 b4 [I (parF (Ja4 x.txt)).1, I (parF (Ja4 x.txt)).2] 38 := hud.blk
 have yc := kc.size
 have yd := kd.size
 have l3 := g3.lt
 have k05 := (k03.trans kc).trans kd
 have g1 := kd.b0 g1
 have X3 : Qc0 w5 w3.heap.size w5.heap.size b3 (parL (Ja4 x.txt)) := ⟨_, _, g3, hRq.kp kd sI, oM, l3, .inr fun c hc => ⟨qn c hc, by have := qh c hc; omega⟩⟩
 have hOq := hOq_.kp kd sI
 clear hua hub huc hud ka kc kd la nab hRq hOq_ yc yd
 have z5 := k05.size
 refine zS ?_
 refine Zl rfl g1 (v := S x.txt) ?_
 refine Zc (Jy7 (hA.kp k05 sI) x.txt oM) ?_
 rintro v w6 ⟨hv, kc⟩
 obtain ⟨pad, pcap, rfl, hOp_, pn⟩ := hv.row
 clear hv
 have g1 := kc.b0 g1
 have g3 := kc.b0 g3
 have g4 := kc.b0 g4
 have X3 := X3.kp0 kc
 have hOq := hOq.kp kc sI
 have hRp := hOp_.rowsL hLp
 have ph := hOp_.lt
 refine zS ?_
 refine Za ?_
 intro b5 wa ea hua
 refine Za ?_
 intro b6 wb eb hub
 have la := hua.lt
 have nab : b5 ≠ b6 := oM
 have ka : Kp [] w6 wb := (hua.new oM).trans (hub.new oM)
 refine Zs (b := b5) (cs := [.slice pad (parL (Ja4 x.txt)).length pcap]) rfl (hub.kept nab hua.blk) lR rfl (by simp [Value.oneCell']) ?_
 intro wc huc
 refine Zs (b := b6) (cs := [I (parF (Ja4 x.txt)).1, I (parF (Ja4 x.txt)).2]) rfl (huc.kept nab.symm hub.blk) lR rfl (by simp [Value.oneCell']) ?_
 intro w7 hud
 have kd : Kp [] w6 w7 := (ka.since (huc.kp [b5] (.inl sI)) (by simp; omega)).since (hud.kp [b6] (.inl sI)) (by simp; omega)
 have g5 : Blk w7 b5 [.slice pad (parL (Ja4 x.txt)).length pcap] 24 := hud.kept nab huc.blk
 have g6 : Blk w7 b6 [I (parF (Ja4 x.txt)).1, I (parF (Ja4 x.txt)).2] 38 := hud.blk
 have yc := kc.size
 have yd := kd.size
 have l5 := g5.lt
 have k07 := (k05.trans kc).trans kd
 have g1 := kd.b0 g1
 have g3 := kd.b0 g3
 have g4 := kd.b0 g4
 have X3 := X3.kp0 kd
 have hOq := hOq.kp kd sI
 have X5 : Qc0 w7 w5.heap.size w7.heap.size b5 (parL (Ja4 x.txt)) := ⟨_, _, g5, hRp.kp kd sI, oM, l5, .inr fun c hc => ⟨pn c hc, by have := ph c hc; omega⟩⟩
 clear hua hub huc hud ka kc kd la nab hRp hOp_ g5 yc yd
 refine zS ?_
 refine Zl rfl g1 (v := S x.txt) ?_
 refine Zc (Qh8 x.txt oM) ?_
 rintro v w8 ⟨hv, kc⟩
 obtain ⟨rad, rcap, rfl, hOr_, rn⟩ := hv.row
 clear hv
 have g1 := kc.b0 g1
 have g3 := kc.b0 g3
 have g4 := kc.b0 g4
 have X3 := X3.kp0 kc
 have hOq := hOq.kp kc sI
 have X5 := X5.kp0 kc
 have hRr := hOr_
 have rh := hRr.ltB
 refine zS ?_
 refine Za ?_
 intro b7 wa ea hua
 refine Za ?_
 intro b8 wb eb hub
 have la := hua.lt
 have nab : b7 ≠ b8 := oM
 have ka : Kp [] w8 wb := (hua.new oM).trans (hub.new oM)
 refine Zs (b := b7) (cs := [.slice rad (parL (Ja4 x.txt)).length rcap]) rfl (hub.kept nab hua.blk) lR rfl (by simp [Value.oneCell']) ?_
 intro wc huc
 refine Zs (b := b8) (cs := [I (parF (Ja4 x.txt)).1, I (parF (Ja4 x.txt)).2]) rfl (huc.kept nab.symm hub.blk) lR rfl (by simp [Value.oneCell']) ?_
 intro w9 hud
 have kd : Kp [] w8 w9 := (ka.since (huc.kp [b7] (.inl sI)) (by simp; omega)).since (hud.kp [b8] (.inl sI)) (by simp; omega)
 have g7 : Blk w9 b7 [.slice rad (parL (Ja4 x.txt)).length rcap] 24 := hud.kept nab huc.blk
 have g8 : Blk w9 b8 [I (parF (Ja4 x.txt)).1, I (parF (Ja4 x.txt)).2] 38 := hud.blk
 have yc := kc.size
 have yd := kd.size
 have l7 := g7.lt
 have k09 := (k07.trans kc).trans kd
 have g1 := kd.b0 g1
 have g3 := kd.b0 g3
 have g4 := kd.b0 g4
 have X3 := X3.kp0 kd
 have hOq := hOq.kp kd sI
 have X5 := X5.kp0 kd
 have X7 : Qc0 w9 w7.heap.size w9.heap.size b7 (parL (Ja4 x.txt)) := ⟨_, _, g7, hRr.kp kd sI, oM, l7, rh.imp id fun h c hc => ⟨rn c hc, by have := h c hc; omega⟩⟩
 clear hua hub huc hud ka kc kd la nab hRr hOr_ g7 yc yd
 refine zS ?_
 refine Zm (vs := [I (parF (Ja4 x.txt)).1, I (parF (Ja4 x.txt)).2]) rfl g4.cs ?_
 refine Zm (vs := [I (parF (Ja4 x.txt)).1, I (parF (Ja4 x.txt)).2]) rfl g8.cs ?_
 refine Qm7 [I (parF (Ja4 x.txt)).1, I (parF (Ja4 x.txt)).2] [I (parF (Ja4 x.txt)).1, I (parF (Ja4 x.txt)).2] rfl rfl rfl kR kR rfl rfl rfl rfl ?_
 rw [eqI2]
 clear g4 g8
 have Y3 := X3
 have Y7 := X7
 refine zS ?_
 obtain ⟨aa, ca, ga, ra, _⟩ := Y3
 obtain ⟨ab, cb, gb, rb, _⟩ := Y7
 refine Zm (vs := [.slice aa (parL (Ja4 x.txt)).length ca]) rfl ga.cs ?_
 refine Zm (vs := [.slice ab (parL (Ja4 x.txt)).length cb]) rfl gb.cs ?_
 refine Zc (Jk3 ra rb) ?_
 rw [decide_eq_true (rfl : parL (Ja4 x.txt) = parL (Ja4 x.txt))]
 clear ga ra gb rb
 rintro v w10 ⟨rfl, kc⟩
 have k010 := k09.trans kc
 have z10 := kc.size
 have g1 := kc.b0 g1
 have g3 := kc.b0 g3
 have X3 := X3.kp0 kc
 have hOq := hOq.kp kc sI
 have X5 := X5.kp0 kc
 have X7 := X7.kp0 kc
 clear kc
 have Y5 := X5
 have Y7 := X7
 refine zS ?_
 obtain ⟨aa, ca, ga, ra, _⟩ := Y5
 obtain ⟨ab, cb, gb, rb, _⟩ := Y7
 refine Zm (vs := [.slice aa (parL (Ja4 x.txt)).length ca]) rfl ga.cs ?_
 refine Zm (vs := [.slice ab (parL (Ja4 x.txt)).length cb]) rfl gb.cs ?_
 refine Zc (Jk3 ra rb) ?_
 rw [decide_eq_true (rfl : parL (Ja4 x.txt) = parL (Ja4 x.txt))]
 clear ga ra gb rb
 rintro v w11 ⟨rfl, kc⟩
 have k011 := k010.trans kc
 have z11 := kc.size
 have g1 := kc.b0 g1
 have g3 := kc.b0 g3
 have X3 := X3.kp0 kc
 have hOq := hOq.kp kc sI
 have X5 := X5.kp0 kc
 have X7 := X7.kp0 kc
 clear kc
 refine zS ?_
 refine Zm (vs := [.slice x.qad x.l.length x.qcap]) rfl (g1.sub 1 _ rfl) ?_
 refine Zc (lent_ret ((hx.kp k011).rows)) ?_
 rintro v w12 ⟨gad, gcap, rfl, hOg, kc, gn⟩
 have g1 := kc.b0 g1
 have g3 := kc.b0 g3
 have X3 := X3.kp0 kc
 have hOq := hOq.kp kc sI
 have X5 := X5.kp0 kc
 have X7 := X7.kp0 kc
 have gh := hOg.lt
 refine zS ?_
 refine Za ?_
 intro b9 wa ea hua
 have ka : Kp [] w12 wa := hua.new oM
 refine Zs (b := b9) (cs := [.slice gad x.l.length gcap]) rfl hua.blk lR rfl (by simp [Value.oneCell']) ?_
 intro w13 hub
 have kd : Kp [] w12 w13 := ka.since (hub.kp [b9] (.inl sI)) (by simp; omega)
 have g1 := kd.b0 g1
 have g3 := kd.b0 g3
 have X3 := X3.kp0 kd
 have hOq := hOq.kp kd sI
 have X5 := X5.kp0 kd
 have X7 := X7.kp0 kd
 have g9 : Blk w13 b9 [.slice gad x.l.length gcap] 24 := hub.blk
 have hOg := hOg.kp kd sI
 have z12 := kc.size
 have z13 := kd.size
 have l9 := g9.lt
 have k013 := (k011.trans kc).trans kd
 have z11 := k011.size
 have n9 : w11.heap.size ≤ b9 := oM
 clear hua hub ka kc kd
 refine zS ?_
 refine Zm (vs := [.slice gad x.l.length gcap]) rfl g9.cs ?_
 refine Zc (Check_ret (hA.kp k013 sI) (OwnS.rowsP (m := Jg4 70) (by rw [Jg8]; exact hOg) hLx.len hLx.name hLx.num)) ?_
 rintro v w14 ⟨rfl, kc⟩
 have k014 := k013.trans kc
 have z14 := kc.size
 have g1 := kc.b0 g1
 have g3 := kc.b0 g3
 have X3 := X3.kp0 kc
 have hOq := hOq.kp kc sI
 have X5 := X5.kp0 kc
 have X7 := X7.kp0 kc
 have g9 := kc.b0 g9
 have hOg := hOg.kp kc sI
 clear kc
 refine zS ?_
 refine Zm (vs := [.slice x.qad x.l.length x.qcap]) rfl (g1.sub 1 _ rfl) ?_
 refine Zc (Qg5 ((hx.kp k014).rows)) ?_
 rintro v w15 ⟨rfl, kc⟩
 have k015 := k014.trans kc
 have z15 := kc.size
 have g1 := kc.b0 g1
 have g3 := kc.b0 g3
 have X3 := X3.kp0 kc
 have hOq := hOq.kp kc sI
 have X5 := X5.kp0 kc
 have X7 := X7.kp0 kc
 have g9 := kc.b0 g9
 have hOg := hOg.kp kc sI
 clear kc
 refine zS ?_
 refine Zm (vs := [.slice gad x.l.length gcap]) rfl g9.cs ?_
 refine Zc (Qi5 (hA.kp k015 sI) (hP.kp k015 sI) (OwnS.rowsP (m := Jg4 70) (by rw [Jg8]; exact hOg) hLx.len hLx.name hLx.num)) ?_
 rintro v w16 ⟨rfl, kc⟩
 have k016 := k015.trans kc
 have z16 := kc.size
 have g1 := kc.b0 g1
 have g3 := kc.b0 g3
 have X3 := X3.kp0 kc
 have hOq := hOq.kp kc sI
 have X5 := X5.kp0 kc
 have X7 := X7.kp0 kc
 have g9 := kc.b0 g9
 have hOg := hOg.kp kc sI
 clear kc
 refine zS ?_
 refine Zm (vs := [.slice x.qad x.l.length x.qcap]) rfl (g1.sub 1 _ rfl) ?_
 refine Zc (Qj3 (hP.kp k016 sI) ((hx.kp k016).rows)) ?_
 rintro v w17 ⟨rfl, kc⟩
 have k017 := k016.trans kc
 have z17 := kc.size
 have g1 := kc.b0 g1
 have g3 := kc.b0 g3
 have X3 := X3.kp0 kc
 have hOq := hOq.kp kc sI
 have X5 := X5.kp0 kc
 have X7 := X7.kp0 kc
 have g9 := kc.b0 g9
 have hOg := hOg.kp kc sI
 clear kc
 refine zS ?_
 refine Zm (vs := [.slice gad x.l.length gcap]) rfl g9.cs ?_
 refine zS ?_
 refine Zl rfl g1 (v := S x.fr) ?_
 refine zS ?_
 refine Zl rfl g1 (v := S x.tt) ?_
 refine Zc (Qo1 (hA.kp k017 sI) (OwnS.rowsP (m := Jg4 70) (by rw [Jg8]; exact hOg) hLx.len hLx.name hLx.num) x.fr x.tt oM oM) ?_
 rintro v w18 ⟨hv, kc⟩
 obtain ⟨uad, ucap, rfl, hOu, un⟩ := hv.row
 clear hv
 have g1 := kc.b0 g1
 have g3 := kc.b0 g3
 have X3 := X3.kp0 kc
 have hOq := hOq.kp kc sI
 have X5 := X5.kp0 kc
 have X7 := X7.kp0 kc
 have g9 := kc.b0 g9
 have hOg := hOg.kp kc sI
 have uh := hOu.lt
 refine zS ?_
 refine Za ?_
 intro b18 wa ea hua
 have ka : Kp [] w18 wa := hua.new oM
 refine Zs (b := b18) (cs := [.slice uad (renL (renM x.l x.fr x.tt)).length ucap]) rfl hua.blk lR rfl (by simp [Value.oneCell']) ?_
 intro w19 hub
 have kd : Kp [] w18 w19 := ka.since (hub.kp [b18] (.inl sI)) (by simp; omega)
 have g1 := kd.b0 g1
 have g3 := kd.b0 g3
 have X3 := X3.kp0 kd
 have hOq := hOq.kp kd sI
 have X5 := X5.kp0 kd
 have X7 := X7.kp0 kd
 have g9 := kd.b0 g9
 have hOg := hOg.kp kd sI
 have g18 : Blk w19 b18 [.slice uad (renL (renM x.l x.fr x.tt)).length ucap] 24 := hub.blk
 have hOu := hOu.kp kd sI
 have z18 := kc.size
 have z19 := kd.size
 have l18 := g18.lt
 have k019 := (k017.trans kc).trans kd
 have X18 : Qc0 w19 w17.heap.size w19.heap.size b18 (renL (renM x.l x.fr x.tt)) := ⟨_, _, g18, hOu.rowsL hLr, oM, l18, .inr fun c hc => ⟨un c hc, by have := uh c hc; omega⟩⟩
 clear hua hub ka kc kd
 refine zS ?_
 refine Zm (vs := [.slice gad x.l.length gcap]) rfl g9.cs ?_
 refine zS ?_
 refine Zl rfl g1 (v := S x.fr) ?_
 refine zS ?_
 refine Zl rfl g1 (v := S x.tt) ?_
 refine Zc (Qo1 (hA.kp k019 sI) (OwnS.rowsP (m := Jg4 70) (by rw [Jg8]; exact hOg) hLx.len hLx.name hLx.num) x.fr x.tt oM oM) ?_
 rintro v w20 ⟨hv, kc⟩
 obtain ⟨vad, vcap, rfl, hOv, vn⟩ := hv.row
 clear hv
 have g1 := kc.b0 g1
 have g3 := kc.b0 g3
 have X3 := X3.kp0 kc
 have hOq := hOq.kp kc sI
 have X5 := X5.kp0 kc
 have X7 := X7.kp0 kc
 have g9 := kc.b0 g9
 have hOg := hOg.kp kc sI
 have X18 := X18.kp0 kc
 have hOu := hOu.kp kc sI
 have g18 := kc.b0 g18
 have vh := hOv.lt
 refine zS ?_
 refine Za ?_
 intro b20 wa ea hua
 have ka : Kp [] w20 wa := hua.new oM
 refine Zs (b := b20) (cs := [.slice vad (renL (renM x.l x.fr x.tt)).length vcap]) rfl hua.blk lR rfl (by simp [Value.oneCell']) ?_
 intro w21 hub
 have kd : Kp [] w20 w21 := ka.since (hub.kp [b20] (.inl sI)) (by simp; omega)
 have g1 := kd.b0 g1
 have g3 := kd.b0 g3
 have X3 := X3.kp0 kd
 have hOq := hOq.kp kd sI
 have X5 := X5.kp0 kd
 have X7 := X7.kp0 kd
 have g9 := kd.b0 g9
 have hOg := hOg.kp kd sI
 have X18 := X18.kp0 kd
 have hOu := hOu.kp kd sI
 have g18 := kd.b0 g18
 have g20 : Blk w21 b20 [.slice vad (renL (renM x.l x.fr x.tt)).length vcap] 24 := hub.blk
 have hOv := hOv.kp kd sI
 have z20 := kc.size
 have z21 := kd.size
 have l20 := g20.lt
 have k021 := (k019.trans kc).trans kd
 have X20 : Qc0 w21 w19.heap.size w21.heap.size b20 (renL (renM x.l x.fr x.tt)) := ⟨_, _, g20, hOv.rowsL hLr, oM, l20, .inr fun c hc => ⟨vn c hc, by have := vh c hc; omega⟩⟩
 clear hua hub ka kc kd
 clear hOv g20
 refine zS ?_
 refine Zm (vs := [.slice x.qad x.l.length x.qcap]) rfl (g1.sub 1 _ rfl) ?_
 refine zS ?_
 refine Zl rfl g1 (v := S x.fr) ?_
 refine zS ?_
 refine Zl rfl g1 (v := S x.tt) ?_
 refine Zc (Rename30_ret ((hx.kp k021).rows) x.fr x.tt oM oM) ?_
 rintro v w22 ⟨hv, kc⟩
 obtain ⟨wad, wcap, rfl, hOw, wn⟩ := hv.row
 clear hv
 have g1 := kc.b0 g1
 have g3 := kc.b0 g3
 have X3 := X3.kp0 kc
 have hOq := hOq.kp kc sI
 have X5 := X5.kp0 kc
 have X7 := X7.kp0 kc
 have g9 := kc.b0 g9
 have hOg := hOg.kp kc sI
 have X18 := X18.kp0 kc
 have hOu := hOu.kp kc sI
 have g18 := kc.b0 g18
 have X20 := X20.kp0 kc
 have wh := hOw.lt
 refine zS ?_
 refine Za ?_
 intro b22 wa ea hua
 have ka : Kp [] w22 wa := hua.new oM
 refine Zs (b := b22) (cs := [.slice wad (renL (renM x.l x.fr x.tt)).length wcap]) rfl hua.blk lR rfl (by simp [Value.oneCell']) ?_
 intro w23 hub
 have kd : Kp [] w22 w23 := ka.since (hub.kp [b22] (.inl sI)) (by simp; omega)
 have g1 := kd.b0 g1
 have g3 := kd.b0 g3
 have X3 := X3.kp0 kd
 have hOq := hOq.kp kd sI
 have X5 := X5.kp0 kd
 have X7 := X7.kp0 kd
 have g9 := kd.b0 g9
 have hOg := hOg.kp kd sI
 have X18 := X18.kp0 kd
 have hOu := hOu.kp kd sI
 have g18 := kd.b0 g18
 have X20 := X20.kp0 kd
 have g22 : Blk w23 b22 [.slice wad (renL (renM x.l x.fr x.tt)).length wcap] 24 := hub.blk
 have hOw := hOw.kp kd sI
 have z22 := kc.size
 have z23 := kd.size
 have l22 := g22.lt
 have k023 := (k021.trans kc).trans kd
 have X22 : Qc0 w23 w21.heap.size w23.heap.size b22 (renL (renM x.l x.fr x.tt)) := ⟨_, _, g22, hOw.rowsL hLr, oM, l22, .inr fun c hc => ⟨wn c hc, by have := wh c hc; omega⟩⟩
 clear hua hub ka kc kd
 clear hOw g22
 generalize Js2 x.l = ck
 obtain ⟨ck1, ck2⟩ := ck
 generalize Ju8 x.l = pv
 obtain ⟨pv1, pv2⟩ := pv
 dsimp only
 refine zS ?_
 rw [show decide (ck1 = ck1) = true from decide_eq_true rfl]
 refine zS ?_
 refine Zc (Jn7 _) ?_
 rintro v _ ⟨rfl, rfl⟩
 refine zS ?_
 rw [show decide (ck2 = ck2) = true from decide_eq_true rfl]
 refine zS ?_
 rw [show decide (pv1 = pv1) = true from decide_eq_true rfl]
 refine zS ?_
 refine Zc (Jn7 _) ?_
 rintro v _ ⟨rfl, rfl⟩
 refine zS ?_
 rw [show decide (pv2 = pv2) = true from decide_eq_true rfl]
 refine zS ?_
 refine Zc (Jn7 _) ?_
 rintro v _ ⟨rfl, rfl⟩
 refine zS ?_
 rw [show decide (renE (renM x.l x.fr x.tt) = renE (renM x.l x.fr x.tt)) = true from decide_eq_true rfl]
 have Y18 := X18
 have Y22 := X22
 refine zS ?_
 obtain ⟨aa, ca, ga, ra, _⟩ := Y18
 obtain ⟨ab, cb, gb, rb, _⟩ := Y22
 refine Zm (vs := [.slice aa (renL (renM x.l x.fr x.tt)).length ca]) rfl ga.cs ?_
 refine Zm (vs := [.slice ab (renL (renM x.l x.fr x.tt)).length cb]) rfl gb.cs ?_
 refine Zc (Jk3 ra rb) ?_
 rw [decide_eq_true (rfl : renL (renM x.l x.fr x.tt) = renL (renM x.l x.fr x.tt))]
 clear ga ra gb rb
 rintro v w24 ⟨rfl, kc⟩
 have k024 := k023.trans kc
 have z24 := kc.size
 have g1 := kc.b0 g1
 have g3 := kc.b0 g3
 have X3 := X3.kp0 kc
 have hOq := hOq.kp kc sI
 have X5 := X5.kp0 kc
 have X7 := X7.kp0 kc
 have g9 := kc.b0 g9
 have hOg := hOg.kp kc sI
 have X18 := X18.kp0 kc
 have hOu := hOu.kp kc sI
 have g18 := kc.b0 g18
 have X20 := X20.kp0 kc
 have X22 := X22.kp0 kc
 clear kc
 have Y20 := X20
 have Y22 := X22
 refine zS ?_
 obtain ⟨aa, ca, ga, ra, _⟩ := Y20
 obtain ⟨ab, cb, gb, rb, _⟩ := Y22
 refine Zm (vs := [.slice aa (renL (renM x.l x.fr x.tt)).length ca]) rfl ga.cs ?_
 refine Zm (vs := [.slice ab (renL (renM x.l x.fr x.tt)).length cb]) rfl gb.cs ?_
 refine Zc (Jk3 ra rb) ?_
 rw [decide_eq_true (rfl : renL (renM x.l x.fr x.tt) = renL (renM x.l x.fr x.tt))]
 clear ga ra gb rb
 rintro v w25 ⟨rfl, kc⟩
 have k025 := k024.trans kc
 have z25 := kc.size
 have g1 := kc.b0 g1
 have g3 := kc.b0 g3
 have X3 := X3.kp0 kc
 have hOq := hOq.kp kc sI
 have X5 := X5.kp0 kc
 have X7 := X7.kp0 kc
 have g9 := kc.b0 g9
 have hOg := hOg.kp kc sI
 have X18 := X18.kp0 kc
 have hOu := hOu.kp kc sI
 have g18 := kc.b0 g18
 have X20 := X20.kp0 kc
 have X22 := X22.kp0 kc
 clear kc
 refine zS ?_
 refine Zm (vs := [.slice gad x.l.length gcap]) rfl g9.cs ?_
 refine zS ?_
 refine Zm (vs := [.slice x.qad x.l.length x.qcap]) rfl (g1.sub 1 _ rfl) ?_
 refine Zc (Qh9 ((hx.kp k025).rows) hOg) ?_
 rintro v w26 ⟨rfl, kc⟩
 have k026 := k025.trans kc
 have g1 := kc.b0 g1
 have g3 := kc.b0 g3
 have X3 := X3.kp0 kc
 have hOq := hOq.kp kc sI
 have X5 := X5.kp0 kc
 have X7 := X7.kp0 kc
 have g9 := kc.b0 g9
 have hOg := hOg.kp kc sI
 have X18 := X18.kp0 kc
 have hOu := hOu.kp kc sI
 have g18 := kc.b0 g18
 have X20 := X20.kp0 kc
 have X22 := X22.kp0 kc
 clear kc
 have zz := k013.size
 refine zS ?_
 refine Zm (vs := [.slice qad (parL (Ja4 x.txt)).length qcap]) rfl g3.cs ?_
 refine Zc (spoil_ret (-5) rfl hLp.len hOq) ?_
 rintro v w27 ⟨rfl, kc⟩
 have qlo : ∀ b ∈ Ja1 qad, w3.heap.size ≤ b ∧ b < w5.heap.size := fun b hb => ⟨qn b hb, by have := qh b hb; omega⟩
 have k027 := k026.since kc (fun b hb => by have := qlo b hb; omega)
 have g1 := kc.blk (fun hb => by have := qlo _ hb; omega) g1
 have g9 := kc.blk (fun hb => by have := qlo _ hb; omega) g9
 have g18 := kc.blk (fun hb => by have := qlo _ hb; have : w17.heap.size ≤ b18 := (by obtain ⟨_, _, _, _, h, _⟩ := X18; exact h); omega) g18
 have hOg := hOg.kp kc (fun b hb hb2 => by have := qlo _ hb2; have := gn b hb; omega)
 have hOu := hOu.kp kc (fun b hb hb2 => by have := qlo _ hb2; have := un b hb; omega)
 have X5 := X5.kp kc (fun b hb => by have := qlo _ hb; omega)
 have X7 := X7.kp kc (fun b hb => by have := qlo _ hb; omega)
 have X20 := X20.kp kc (fun b hb => by have := qlo _ hb; omega)
 have X22 := X22.kp kc (fun b hb => by have := qlo _ hb; omega)
 clear kc X3 X18 g3 hOq
 refine zS ?_
 refine Zm (vs := [.slice uad (renL (renM x.l x.fr x.tt)).length ucap]) rfl g18.cs ?_
 refine Zc (spoil_ret (-6) rfl hLr.len hOu) ?_
 rintro v w28 ⟨rfl, kc⟩
 have ulo : ∀ b ∈ Ja1 uad, w17.heap.size ≤ b ∧ b < w19.heap.size := fun b hb => ⟨un b hb, by have := uh b hb; omega⟩
 have k028 := k027.since kc (fun b hb => by have := ulo b hb; omega)
 have g1 := kc.blk (fun hb => by have := ulo _ hb; omega) g1
 have g9 := kc.blk (fun hb => by have := ulo _ hb; omega) g9
 have hOg := hOg.kp kc (fun b hb hb2 => by have := ulo _ hb2; have := gh b hb; omega)
 have X5 := X5.kp kc (fun b hb => by have := ulo _ hb; omega)
 have X7 := X7.kp kc (fun b hb => by have := ulo _ hb; omega)
 have X20 := X20.kp kc (fun b hb => by have := ulo _ hb; omega)
 have X22 := X22.kp kc (fun b hb => by have := ulo _ hb; omega)
 clear kc g18 hOu
 have Y5 := X5
 have Y7 := X7
 refine zS ?_
 obtain ⟨aa, ca, ga, ra, _⟩ := Y5
 obtain ⟨ab, cb, gb, rb, _⟩ := Y7
 refine Zm (vs := [.slice aa (parL (Ja4 x.txt)).length ca]) rfl ga.cs ?_
 refine Zm (vs := [.slice ab (parL (Ja4 x.txt)).length cb]) rfl gb.cs ?_
 refine Zc (Jk3 ra rb) ?_
 rw [decide_eq_true (rfl : parL (Ja4 x.txt) = parL (Ja4 x.txt))]
 clear ga ra gb rb
 rintro v w29 ⟨rfl, kc⟩
 have k029 := k028.trans kc
 have z29 := kc.size
 have g1 := kc.b0 g1
 have g9 := kc.b0 g9
 have hOg := hOg.kp kc sI
 have X5 := X5.kp0 kc
 have X7 := X7.kp0 kc
 have X20 := X20.kp0 kc
 have X22 := X22.kp0 kc
 clear kc
 have Y20 := X20
 have Y22 := X22
 refine zS ?_
 obtain ⟨aa, ca, ga, ra, _⟩ := Y20
 obtain ⟨ab, cb, gb, rb, _⟩ := Y22
 refine Zm (vs := [.slice aa (renL (renM x.l x.fr x.tt)).length ca]) rfl ga.cs ?_
 refine Zm (vs := [.slice ab (renL (renM x.l x.fr x.tt)).length cb]) rfl gb.cs ?_
 refine Zc (Jk3 ra rb) ?_
 rw [decide_eq_true (rfl : renL (renM x.l x.fr x.tt) = renL (renM x.l x.fr x.tt))]
 clear ga ra gb rb
 rintro v w30 ⟨rfl, kc⟩
 have k030 := k029.trans kc
 have z30 := kc.size
 have g1 := kc.b0 g1
 have g9 := kc.b0 g9
 have hOg := hOg.kp kc sI
 have X5 := X5.kp0 kc
 have X7 := X7.kp0 kc
 have X20 := X20.kp0 kc
 have X22 := X22.kp0 kc
 clear kc
 refine zS ?_
 refine Zm (vs := [.slice gad x.l.length gcap]) rfl g9.cs ?_
 refine zS ?_
 refine Zm (vs := [.slice x.qad x.l.length x.qcap]) rfl (g1.sub 1 _ rfl) ?_
 refine Zc (Qh9 ((hx.kp k030).rows) hOg) ?_
 rintro v w31 ⟨rfl, kc⟩
 have k031 := k030.trans kc
 have g1 := kc.b0 g1
 have g9 := kc.b0 g9
 have hOg := hOg.kp kc sI
 have X5 := X5.kp0 kc
 have X7 := X7.kp0 kc
 have X20 := X20.kp0 kc
 have X22 := X22.kp0 kc
 clear kc
 refine zS ?_
 refine Zm (vs := x.C) rfl g1.cs ?_
 refine Zm (vs := [.slice gad x.l.length gcap]) rfl g9.cs ?_
 refine Zc (asks_ret (hA.kp k031 sI) (hx.kp k031) hOg) ?_
 rintro v w32 ⟨rfl, kc⟩
 have k032 := k031.trans kc
 have g1 := kc.b0 g1
 have g9 := kc.b0 g9
 have hOg := hOg.kp kc sI
 clear kc X5 X7 X20 X22 qlo ulo
 have gh12 : ∀ b ∈ Ja1 gad, w11.heap.size ≤ b ∧ b < w12.heap.size := fun b hb => ⟨gn b hb, gh b hb⟩
 have n19 : b1 ∉ Ja1 gad := fun hb => by have := gh12 _ hb; omega
 have n99 : b9 ∉ Ja1 gad := fun hb => by have := gh12 _ hb; omega
 refine zS ?_
 refine Jb4 (α := Nat × List QN) [1, 9, 24] (fun y => [ptr b1, ptr b9, I y.1]) (fun y W => y.1 ≤ x.l.length ∧ y.2.length = x.l.length ∧ LOk y.2 ∧ (∀ z ∈ y.2, -9223372036854775808 ≤ z.num) ∧ OwnS W 81 4 gad (x.l.length + 70) gcap ((y.2 ++ Jg4 70).flatMap qC) ∧ Kp (Ja1 gad) w32 W) (fun y => x.l.length - y.1) (0, x.l) rfl ⟨Nat.zero_le _, rfl, hLx, hx.low, hOg, Kp.refl _ _⟩ ?_
 rintro ⟨i, m⟩ e W ⟨hi, hml, hLm, hlo, hO, kW⟩
 dsimp only at hi hml hLm hlo hO ⊢
 have g9' : Blk W b9 [.slice gad x.l.length gcap] 24 := kW.blk n99 g9
 have hcapm := hO.capm
 have hcap := hO.le_cap
 have hRg : Rows W gad gcap m := OwnS.rowsP (m := Jg4 70) (by rw [Jg8, hml]; exact hO) hLm.len hLm.name hLm.num
 refine zL g9' ?_
 refine r_if rfl (fun hc => ?_) (fun hc => ?_)
 ·have hi2 : i < m.length := oM
  obtain ⟨q, hq⟩ : ∃ q, m[i]? = some q := ⟨_, List.getElem?_eq_getElem hi2⟩
  have hqm : (m ++ Jg4 70)[i]? = some q := by rw [List.getElem?_append_left hi2]; exact hq
  have hll : (m ++ Jg4 70).length = x.l.length + 70 := by rw [List.length_append, Jg8, hml]
  obtain ⟨b, L, rfl, hL, hLl, hcell, hset⟩ := OwnS.rec (l := m ++ Jg4 70) (f := qC) (m := 4) (by rw [hll]; exact hO) (fun _ => rfl) oM (i := i) (by rw [hll]; omega)
  obtain ⟨b', off, he, hlt, hc4⟩ := hRg.cellN hq
  obtain ⟨rfl, rfl⟩ : b = b' ∧ 0 = off := by simpa using he
  have hqn := hLm.num q (List.mem_of_getElem? hq)
  have hql := hlo q (List.mem_of_getElem? hq)
  refine zL g9' ?_
  refine Zo (v := I q.op) rfl (by rw [Ja2]; exact hc4 0 _ rfl) ?_
  refine zS ?_
  refine Ja5 _ _ rfl rfl rfl (fun h1 => ?_) (fun h1 => ?_)
  ·have h1 : q.op = 1 := of_decide_eq_true h1
   refine zL g9' ?_
   refine Zo (v := I q.num) rfl (by rw [Ja2]; exact hc4 2 _ rfl) ?_
   refine zS ?_
   refine r_if rfl (fun h2 => ?_) (fun h2 => ?_)
   ·have h2 : q.num < 100 := h2
    have hb : bump q = { q with num := q.num + 1 } := if_pos ⟨h1, h2⟩
    refine zL g9' ?_
    refine Zo (v := I q.num) rfl (by rw [Ja2]; exact hc4 2 _ rfl) ?_
    refine zS ?_
    refine Zt (b := b) (off := 0 + ((i : Int)).toNat * 4 + 2) (v := I (q.num + 1)) rfl hL (by rw [Ja2]; omega) ?_
    intro w33 hu
    rw [Ja2, Nat.zero_add] at hu
    have ho2 := hset (bump q) w33 (by
     have e2 : Jg0 L (i * 4) (qC (bump q)) = L.set (i * 4 + 2) (I (q.num + 1)) := by
      rw [hb]
      exact Jj4 L (cs := qC q) (j := 2) (v := I (q.num + 1)) (fun j' v' h => hcell q hqm j' v' h) (by show i * 4 + 4 ≤ _; omega) (by show 2 < 4; omega)
     rw [e2]; exact hu)
    rw [hll, List.set_append_left _ _ hi2] at ho2
    have ku : Kp (Ja1 (some ⟨b, 0, none⟩)) W w33 := hu.kp _ (.inl (by simp [Ja1]))
    refine zS ?_
    exact ⟨(i + 1, m.set i (bump q)), rfl, ⟨by dsimp only; omega, by rw [List.length_set]; exact hml, hLm.set hq, fun z hz => by
     rcases List.mem_or_eq_of_mem_set hz with hz | rfl
     ·exact hlo z hz
     ·rw [hb]; show _ ≤ q.num + 1; omega, ho2, kW.trans ku⟩, by dsimp only; omega⟩
   ·have h2 : ¬ q.num < 100 := h2
    refine zS ?_
    exact ⟨(i + 1, m), rfl, ⟨by dsimp only; omega, hml, hLm, hlo, hO, kW⟩, by dsimp only; omega⟩
  ·have h1 : ¬ q.op = 1 := of_decide_eq_false h1
   refine zS ?_
   exact ⟨(i + 1, m), rfl, ⟨by dsimp only; omega, hml, hLm, hlo, hO, kW⟩, by dsimp only; omega⟩
 ·refine zS ?_
  have hk : Kp [] w W := k032.since kW (fun b hb => by have := gh12 b hb; have := k011.size; omega)
  have g1 := kW.blk n19 g1
  have g9 := g9'
  clear g9' hO
  refine zS ?_
  refine Zm (vs := [.slice gad x.l.length gcap]) rfl g9.cs ?_
  rw [← hml]
  refine Zc (lent_ret hRg) ?_
  rintro v w34 ⟨nad, ncap, rfl, hOn, kc, nn⟩
  have k034 := hk.trans kc
  have g1 := kc.b0 g1
  have g9 := kc.b0 g9
  have hRg := hRg.kp kc sI
  have hRn : Rows w34 nad ncap m := OwnS.rowsP (m := Jg4 70) (by rw [Jg8]; exact hOn) hLm.len hLm.name hLm.num
  have l9 := g9.lt
  refine zS ?_
  refine Za ?_
  intro b25 wa ea hua
  have ka : Kp [] w34 wa := hua.new oM
  refine Zs (b := b25) (cs := [.slice nad m.length ncap]) rfl hua.blk lR rfl (by simp [Value.oneCell', repC]) ?_
  intro w35 hub
  have kd : Kp [] w34 w35 := ka.since (hub.kp [b25] (.inl sI)) (by simp; omega)
  have g25 : Blk w35 b25 ([.slice nad m.length ncap]) 24 := hub.blk
  have g1 := kd.b0 g1
  have g9 := kd.b0 g9
  have hRg := hRg.kp kd sI
  have hRn := hRn.kp kd sI
  have k035 := k034.trans kd
  rw [← hml] at g9
  clear hua hub ka kc kd hOn
  refine zS ?_
  refine Zm (vs := [.slice gad m.length gcap]) rfl g9.cs ?_
  refine Zc (Qi5 (hA.kp k035 sI) (hP.kp k035 sI) hRg) ?_
  rintro v w36 ⟨rfl, kc⟩
  have k036 := k035.trans kc
  have g1 := kc.b0 g1
  have g9 := kc.b0 g9
  have g25 := kc.b0 g25
  have hRg := hRg.kp kc sI
  have hRn := hRn.kp kc sI
  clear kc
  refine zS ?_
  refine Zm (vs := [.slice nad m.length ncap]) rfl g25.cs ?_
  refine Zc (Qj3 (hP.kp k036 sI) hRn) ?_
  rintro v w37 ⟨rfl, kc⟩
  have k037 := k036.trans kc
  have g1 := kc.b0 g1
  have g9 := kc.b0 g9
  have g25 := kc.b0 g25
  have hRg := hRg.kp kc sI
  have hRn := hRn.kp kc sI
  clear kc
  generalize Ju8 m = pv
  obtain ⟨pw1, pw2⟩ := pv
  dsimp only
  have hx7 := hx.kp k037
  refine zS ?_
  refine Zm (vs := [.slice gad m.length gcap]) rfl g9.cs ?_
  refine zS ?_
  refine Zm (vs := shC x.s x.pad x.pcap) rfl (g1.sub 2 _ rfl) ?_
  refine zS ?_
  refine Zl rfl g1 (v := .slice x.ead x.E.length x.ecap) ?_
  refine zS ?_
  refine Zl rfl g1 (v := I x.fuel) ?_
  refine Zc (Ask_ret (s := x.s) (pcap := x.pcap) (ecap := x.ecap) (fuel := x.fuel) (hA.kp k037 sI) hRg hx7.pa hx7.pal hx7.ev hx7.evl) ?_
  rintro v w38 ⟨rfl, kc⟩
  have k038 := k037.trans kc
  have g1 := kc.b0 g1
  have g25 := kc.b0 g25
  have hRn := hRn.kp kc sI
  clear kc hx7 g9 hRg
  have hr2 : ∀ W, Kp [] w38 W → Ret Tryz.prog 35 [qV nad m.length ncap, .agg ⟨shC x.s x.pad x.pcap⟩, .slice x.ead x.E.length x.ecap, I x.fuel] W (fun v w' => v = .tuple #[.agg ⟨repC (askM m x.s x.E x.fuel).1⟩, I (askM m x.s x.E x.fuel).2] ∧ Kp [] W w') := fun W hW => by
   have hx8 := hx.kp (k038.trans hW)
   exact Qh4 (hRn.kp hW sI) hx8.pa hx8.pal hx8.ev hx8.evl
  generalize askM m x.s x.E x.fuel = r at hr2 ⊢
  obtain ⟨r, er⟩ := r
  dsimp only at hr2 ⊢
  refine zS ?_
  refine Za ?_
  intro b26 wa ea hua
  have ka : Kp [] w38 wa := hua.new oM
  refine Zs (b := b26) (cs := repC r) rfl hua.blk lR rfl (by simp [Value.oneCell', repC]) ?_
  intro w39 hub
  have kd : Kp [] w38 w39 := ka.since (hub.kp [b26] (.inl sI)) (by simp; omega)
  have g26 : Blk w39 b26 (repC r) 45 := hub.blk
  have g1 := kd.b0 g1
  have g25 := kd.b0 g25
  have hq := hr2 w39 kd
  have k039 := k038.trans kd
  clear hua hub ka kd
  refine zS ?_
  refine Zm (vs := [.slice nad m.length ncap]) rfl g25.cs ?_
  refine zS ?_
  refine Zm (vs := shC x.s x.pad x.pcap) rfl (g1.sub 2 _ rfl) ?_
  refine zS ?_
  refine Zl rfl g1 (v := .slice x.ead x.E.length x.ecap) ?_
  refine zS ?_
  refine Zl rfl g1 (v := I x.fuel) ?_
  refine Zc hq ?_
  rintro v w40 ⟨rfl, kc⟩
  have k040 := k039.trans kc
  have g26 := kc.b0 g26
  have l26 := g26.lt
  refine zS ?_
  refine Za ?_
  intro b28 wa ea hua
  have ka : Kp [] w40 wa := hua.new oM
  refine Zs (b := b28) (cs := repC r) rfl hua.blk lR rfl (by simp [Value.oneCell', repC]) ?_
  intro w41 hub
  have kd : Kp [] w40 w41 := ka.since (hub.kp [b28] (.inl sI)) (by simp; omega)
  have g28 : Blk w41 b28 (repC r) 45 := hub.blk
  have g26 := kd.b0 g26
  have k041 := k040.trans kd
  have eqr : Jr6 (repC r) (repC r) = true := by rw [Qi1]; simp
  refine zS ?_
  rw [show decide (pw1 = pw1) = true from decide_eq_true rfl]
  refine zS ?_
  refine Zc (Jn7 _) ?_
  rintro v _ ⟨rfl, rfl⟩
  refine zS ?_
  rw [show decide (pw2 = pw2) = true from decide_eq_true rfl]
  refine zS ?_
  refine Zm (vs := repC r) rfl g26.cs ?_
  refine Zm (vs := repC r) rfl g28.cs ?_
  refine o_eqX (repC r) (repC r) rfl rfl rfl kR kR rfl rfl rfl rfl ?_
  rw [eqr]
  refine zS ?_
  refine Zc (Jn7 _) ?_
  rintro v _ ⟨rfl, rfl⟩
  refine zS ?_
  exact ⟨_, rfl, sI, k041⟩
theorem queryExact_walk {x : AG} {u : Nat} (hA : AscW w) (hP : PowQ w) (hx : ∀ B, u ≤ B → B ≤ 1048576 → AG.Ok w x) (hu : u ≤ 1048576) : Calls Tryz.prog 9 #[.agg ⟨x.C⟩] w (fun e w' => e = .returned (.bool true) ∧ RowKit.Below w.heap.size w w') := (Qk4 hA hP (hx 1048576 hu lR)).calls
end
end Go.Vc
