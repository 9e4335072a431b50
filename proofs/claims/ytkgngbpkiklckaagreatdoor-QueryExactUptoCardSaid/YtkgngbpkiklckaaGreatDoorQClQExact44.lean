/- Parts of a proof. -/
import Derived.Test.YtkgngbpkiklckaaGreatDoorQClQExact43
set_option maxHeartbeats 12800000
namespace Go.Vc
open Go Go.Proofs
set_option maxRecDepth 20000
section
variable {w : World}
theorem eqI2 (a b : Int) : Jr6 [I a, I b] [I a, I b] = true := by simp [Jr6, eqVal]
theorem eqEv (a : Ev) : Jr6 (evC a) (evC a) = true := by simp [Jr6, eqVal, evC]
theorem evC_one {l : List Ev} : ∀ v ∈ evsC l, v.oneCell' = true := fun v hv => by
 obtain ⟨x, _, hx⟩ := List.mem_flatMap.1 hv
 simp [evC] at hx
 rcases hx with rfl | rfl | rfl <;> rfl
theorem mapI_one {l : List Int} : ∀ v ∈ l.map I, v.oneCell' = true := fun v hv => by
 obtain ⟨x, _, rfl⟩ := List.mem_map.1 hv; rfl
theorem asks_ret {x : AG} {lad : Option Addr} {lcap : Nat} (hA : AscW w) (hx : x.Ok w) (hO : OwnS w 81 4 lad (x.l.length + 70) lcap ((x.l ++ Jg4 70).flatMap qC)) :
  Ret Tryz.prog 34 [.agg ⟨x.C⟩, .agg ⟨[.slice lad x.l.length lcap]⟩] w (fun v w' => v = .bool true ∧ Kp [] w w') := by
 have hel := Jt5 x.E
 have hEl := hx.evl
 have hPl := hx.pal
 refine Ze Tryz.call34 Tryz.func34 ?_
 refine zS ?_
 refine Zx ?_
 intro b2 w1 e2 hu1
 refine Zx ?_
 intro b3 w2 e3 hu2
 have k2 : Kp [] w w2 := (hu1.new oM).trans (hu2.new oM)
 have g2 : Blk w2 b2 x.C 30 := (hu2.new oM).b0 hu1.blk
 have g3 : Blk w2 b3 [.slice lad x.l.length lcap] 24 := hu2.blk
 clear hu1 hu2
 have l2 := g2.lt
 have l3 := g3.lt
 have y2 := k2.size
 refine zS ?_
 refine Jf0 rfl rfl rfl rfl ?_
 intro bE w3 ebE hu3
 have k3 : Kp [] w w3 := k2.trans (hu3.new oM)
 have hE3 : OwnS w3 86 3 (some ⟨bE, 0, none⟩) 0 0 [] := ⟨rfl, rfl, rfl, lR, by simp [maxLen], [], hu3.blk, rfl⟩
 have g2 := (hu3.new oM).b0 g2
 have g3 := (hu3.new oM).b0 g3
 have nE : w2.heap.size ≤ bE := oM
 have y3 := (hu3.new oM).size
 clear hu3
 refine zL g2 ?_
 refine Jg7 (k := 0) (evsC x.E) rfl rfl hE3 (hx.ev.kp k3 sI) rfl rfl rfl dE hel evC_one (by simp only [maxLen]; omega) oM rfl rfl ?_
 intro ad4 cap4 w4 ho4 k4 hn4
 rw [Nat.zero_add x.E.length] at ho4 ⊢
 rw [List.nil_append] at ho4
 have g2 := k4.blk (by simp [Ja1]; omega) g2
 have g3 := k4.blk (by simp [Ja1]; omega) g3
 have n4 : ∀ b, b ∈ Ja1 ad4 → w2.heap.size ≤ b := fun b hb => by
  rcases hn4 b hb with h | h
  ·simp [Ja1] at h; omega
  ·omega
 have k04 : Kp [] w w4 := k3.since k4 (fun b hb => by simp [Ja1] at hb; have := k2.size; omega)
 have y34 := k4.size
 clear hn4 hE3 k4
 refine zS ?_
 refine Zb (evC ⟨0, 0, -77⟩) ?_
 refine Zn (evC ⟨0, 0, -77⟩) rfl rfl rfl kR ?_
 intro bm w5 ebm hu5
 have k5 : Kp [] w4 w5 := hu5.new oM
 have g2 := k5.b0 g2
 have g3 := k5.b0 g3
 refine Jg7 (k := x.E.length) (m := 1) (evC ⟨0, 0, -77⟩) rfl rfl (ho4.kp k5 sI) (Ja7.blk hu5.blk) rfl rfl rfl dE rfl (fun v hv => evC_one (l := [⟨0, 0, -77⟩]) v (by simpa [evsC] using hv)) (by simp only [maxLen]; omega) oM rfl rfl ?_
 intro ead ecap w6 ho6 k6 hn6
 have g2 := k6.blk (fun hb => by have := n4 _ hb; omega) g2
 have g3 := k6.blk (fun hb => by have := n4 _ hb; omega) g3
 have k06 : Kp [] w w6 := (k04.trans k5).since k6 (fun b hb => by have := n4 b hb; have := k2.size; omega)
 have y4 := k04.size
 have y26 : w2.heap.size ≤ w6.heap.size := by have := k5.size; have := k6.size; omega
 have n6 : ∀ b, b ∈ Ja1 ead → w2.heap.size ≤ b := fun b hb => by
  rcases hn6 b hb with h | h
  ·exact n4 b h
  ·have := k5.size; omega
 clear hn6 k6 hu5 ho4 k5
 refine zS ?_
 refine Zm (vs := shC x.s x.pad x.pcap) rfl (g2.sub 2 _ rfl) ?_
 refine Za ?_
 intro b6 w7 e6 hu7
 have k7 : Kp [] w6 w7 := hu7.new oM
 have g2 := k7.b0 g2
 have g3 := k7.b0 g3
 have z26 : b2 ≠ b6 := oM
 have z36 : b3 ≠ b6 := oM
 have l6 : b6 < w7.heap.size := hu7.lt
 refine Zs (b := b6) (cs := shC x.s x.pad x.pcap) rfl hu7.blk lR rfl (by simp [Value.oneCell', shC]) ?_
 intro w8 hu8
 have k68 : Kp [] w6 w8 := k7.since (hu8.kp [b6] (.inl sI)) (by simp; omega)
 have ho8 := ho6.kp k68 sI
 have g2 := hu8.kept z26 g2
 have g3 := hu8.kept z36 g3
 have g6 : Blk w8 b6 (shC x.s x.pad x.pcap) 27 := hu8.blk
 have k08 := k06.trans k68
 have n6b : w6.heap.size ≤ b6 := oM
 clear hu7 hu8 k7
 refine zS ?_
 refine Jf0 rfl rfl rfl rfl ?_
 intro bP w9 ebP hu9
 have k9 : Kp [] w8 w9 := hu9.new oM
 have hP9 : OwnS w9 3 1 (some ⟨bP, 0, none⟩) 0 0 [] := ⟨rfl, rfl, rfl, lR, by simp [maxLen], [], hu9.blk, rfl⟩
 have g2 := k9.b0 g2
 have g3 := k9.b0 g3
 have g6 := k9.b0 g6
 have l6 := g6.lt
 have q8 : b2 < w8.heap.size ∧ b3 < w8.heap.size ∧ b6 < w8.heap.size := by
  have := k68.size
  have := k06.size
  have a : Blk w8 b6 (shC x.s x.pad x.pcap) 27 := by assumption
  have := a.lt
  refine ⟨?_, ?_, this⟩ <;> omega
 clear hu9
 refine zL g2 ?_
 refine Jg7 (k := 0) (x.s.pa.map I) rfl rfl hP9 (hx.pa.kp (k08.trans k9) sI) rfl rfl rfl dE sI mapI_one (by simp only [maxLen]; omega) oM rfl rfl ?_
 intro pad pcap w10 hp10 k10 hn10
 rw [Nat.zero_add x.s.pa.length] at hp10 ⊢
 rw [List.nil_append] at hp10
 have g2 := k10.blk (by simp [Ja1]; omega) g2
 have g3 := k10.blk (by simp [Ja1]; omega) g3
 have g6 := k10.blk (by simp [Ja1]; omega) g6
 have k810 : Kp [] w8 w10 := k9.since k10 (by simp [Ja1]; omega)
 have np : ∀ b, b ∈ Ja1 pad → w8.heap.size ≤ b := fun b hb => by
  rcases hn10 b hb with h | h
  ·simp [Ja1] at h; omega
  ·have := k9.size; omega
 clear hn10 hP9 k10 k9
 refine zS ?_
 refine Zt (b := b6) (off := 4) (v := .slice pad x.s.pa.length pcap) rfl g6 (by simp [shC]) ?_
 intro w11 hu11
 have k11 : Kp [b6] w10 w11 := hu11.kp _ (.inl sI)
 have g2 := hu11.kept z26 g2
 have g3 := hu11.kept z36 g3
 have g6 : Blk w11 b6 (shC x.s pad pcap) 27 := hu11.blk
 have hev : OwnS w11 86 3 ead (x.E.length + 1) ecap (evsC x.E ++ evC ⟨0, 0, -77⟩) := (ho8.kp k810 sI).kp k11 (fun b hb => by have := ho6.lt b hb; simp; omega)
 have hpa : OwnS w11 3 1 pad x.s.pa.length pcap (x.s.pa.map I) := hp10.kp k11 (fun b hb => by have := np b hb; simp; omega)
 have k011 : Kp [] w w11 := ((k08.trans k810).since k11 (by have := k06.size; simp; omega))
 have hO := hO.kp k011 sI
 have hx := hx.kp k011
 have hA := hA.kp k011 sI
 have hec := hev.le_cap
 clear hu11 k11 hp10 ho8 ho6 k810 k68 k06 k04 k3 k2 np n6 n4
 clear k08
 have hRl : Rows w11 lad lcap x.l := OwnS.rowsP (m := Jg4 70) (by rw [Jg8]; exact hO) hx.rows.len hx.rows.name hx.rows.num
 have hevr : Ja7 w11 ead (evsC x.E) := by
  have h := hev.readN
  cases ead with
  | none => exact (List.append_eq_nil_iff.1 h).1
  | some a => intro i v hv; exact h i v (by rw [List.getElem?_append_left (List.getElem?_eq_some_iff.1 hv).1]; exact hv)
 have hpar := hpa.readN
 have m2 := g2.lt
 have m3 := g3.lt
 have m6 := g6.lt
 have hev1 := hev.end_ sI
 rw [hel] at hev1
 have hpc := hpa.le_cap
 have hecm := hev.capm
 have hpcm := hpa.capm
 generalize hr : askM x.l x.s x.E x.fuel = r
 obtain ⟨r, er⟩ := r
 refine zS ?_
 refine Ja9 ?_
 refine Jd8 (α := Nat) [2, 3, 5, 6, 7, 8] (fun b => [ptr b2, ptr b3, .slice ead (x.E.length + 1) ecap, ptr b6, ptr b, I er]) (fun b W => Kp [] w11 W ∧ Blk W b (repC r) 45 ∧ w11.heap.size ≤ b) ?_ ?_
 ·refine Qj6 (fun w' => Kp [] w11 w') 16 Ja0 kR ?_
  have kk := (Sm.drew w11).kp []
  generalize ({ w11 with drawn := w11.drawn + 1 } : World) = wd at kk ⊢
  refine Ji9 [0, 1, 2, 3, 4, 5, 6, 7, 8] 7 kR kR kR kk ?_
  try dsimp only [List.map_cons, List.map_nil]
  refine zX ?_
  refine Zz (vs := [.slice lad x.l.length lcap]) rfl rfl (fun w' h' j v hv => by rw [Nat.zero_add]; exact (h'.b0 g3).cell hv) ?_
  refine Zz (vs := shC x.s pad pcap) rfl rfl (fun w' h' j v hv => by rw [Nat.zero_add]; exact (h'.b0 g6).cell hv) ?_
  refine zX ?_
  refine Zy (v := .slice x.ead x.E.length x.ecap) rfl rfl (fun w' h' => (h'.b0 g2).cell rfl) ?_
  refine zX ?_
  refine Zy (v := I x.fuel) rfl rfl (fun w' h' => (h'.b0 g2).cell rfl) ?_
  refine zX ?_
  have hq := fun {W : World} (hk : Kp [] wd W) => Ask_ret (s := x.s) (pcap := pcap) (ecap := ecap) (fuel := x.fuel) (hA.kp (kk.trans hk) sI) (hRl.kp (kk.trans hk) sI) (hpar.kp (kk.trans hk) sI) hPl (hevr.kp (kk.trans hk) sI) hEl
  rw [hr] at hq
  have yd := kk.size
  refine t_with (fun e w' => ∃ b, [2, 3, 5, 6, 7, 43, 44].map e = [ptr b2, ptr b3, .slice ead (x.E.length + 1) ecap, ptr b6, ptr b, .agg ⟨repC r⟩, I er] ∧ Kp [] wd w' ∧ Blk w' b (repC rep0) 45 ∧ wd.heap.size ≤ b) 2 [0, 1, 2, 3, 4, 5, 6, 7, 8, 9, 10, 11, 12, 13] ?_ (fun hleaf => ?_)
  ·rintro e wz ⟨b, he', kz, gb, hb⟩
   rw [← Jq9 he']
   refine Je4 14 kR rfl ?_
   refine Zs (b := b) (cs := repC r) rfl gb lR rfl (by simp [Value.oneCell', repC]) ?_
   intro we hue
   have k1e : Kp [] w11 we := (kk.trans kz).since (hue.kp [b] (.inl sI)) (by simp; omega)
   refine Ja6 ⟨.inr k1e, ?_⟩
   refine Je4 15 kR rfl ?_
   refine zO ?_
   exact ⟨.inl kR, Qi6 kR ⟨b, rfl, k1e, hue.blk, oM⟩⟩
  ·refine Jz9 9 13 kR rfl rfl ?_ ?_
   ·refine Zc (hq (Kp.refl _ _)) ?_
    rintro v wa ⟨rfl, ka⟩
    refine Ja6 ⟨.inr (kk.trans ka), ?_⟩
    refine Ji9 [10, 11, 12] 3 kR kR kR (kk.trans ka) ?_
    try dsimp only [List.map_cons, List.map_nil]
    refine zX ?_
    refine Je4 13 kR rfl ?_
    refine Za ?_
    intro bz wz ez huz
    have kz := ka.trans (huz.new oM)
    have := ka.size
    refine Ja6 ⟨.inr (kk.trans kz), ?_⟩
    exact Jh7 kR (hleaf _ _ ⟨bz, rfl, kz, huz.blk, oM⟩)
   ·refine Za ?_
    intro bz wz ez huz
    have kz := huz.new oM
    refine Ja6 ⟨.inr (kk.trans kz), ?_⟩
    refine Je4 9 kR rfl ?_
    refine Zc (hq kz) ?_
    rintro v wa ⟨rfl, ka⟩
    refine Ja6 ⟨.inr (kk.trans (kz.trans ka)), ?_⟩
    refine Ji9 [10, 11, 12] 2 kR kR kR (kk.trans (kz.trans ka)) ?_
    try dsimp only [List.map_cons, List.map_nil]
    refine zX ?_
    exact Jh7 kR (hleaf _ _ ⟨bz, rfl, kz.trans ka, ka.b0 huz.blk, oM⟩)
 rintro b7 e4 w12 ⟨k12, g7, n7⟩
 have k012 := k011.trans k12
 have g2 := k12.b0 g2
 have g3 := k12.b0 g3
 have g6 := k12.b0 g6
 have hx12 := hx.kp k12
 refine zS ?_
 refine Zm (vs := [.slice x.qad x.l.length x.qcap]) rfl (g2.sub 1 _ rfl) ?_
 refine zS ?_
 refine Zm (vs := shC x.s x.pad x.pcap) rfl (g2.sub 2 _ rfl) ?_
 refine zS ?_
 refine Zl rfl g2 (v := .slice x.ead x.E.length x.ecap) ?_
 refine zS ?_
 refine Zl rfl g2 (v := I x.fuel) ?_
 have hq := Qh4 (s := x.s) (pcap := x.pcap) (ecap := x.ecap) (fuel := x.fuel) hx12.rows hx12.pa hx12.pal hx12.ev hx12.evl
 rw [hr] at hq
 refine Zc hq ?_
 clear hq hx12
 rintro v w13 ⟨rfl, k13⟩
 have g2 := k13.b0 g2
 have g3 := k13.b0 g3
 have g6 := k13.b0 g6
 have g7 := k13.b0 g7
 refine zS ?_
 refine Za ?_
 intro b9 w14 e14 hu14
 have k14 : Kp [] w13 w14 := hu14.new oM
 have g2 := k14.b0 g2
 have g3 := k14.b0 g3
 have g6 := k14.b0 g6
 have g7 := k14.b0 g7
 refine Zs (b := b9) (cs := repC r) rfl hu14.blk lR rfl (by simp [Value.oneCell', repC]) ?_
 intro w15 hu15
 have hlt := k13.size
 have hlt2 := k12.size
 have k1115 : Kp [] w11 w15 := (k12.trans (k13.trans k14)).since (hu15.kp [b9] (.inl sI)) (by simp; omega)
 have m7 := g7.lt
 have g9 : Blk w15 b9 (repC r) 45 := hu15.blk
 have g2 := hu15.kept oM g2
 have g3 := hu15.kept oM g3
 have g6 := hu15.kept oM g6
 have g7 := hu15.kept (by have : b7 < w13.heap.size := (by assumption : Blk w13 b7 (repC r) 45).lt; omega) g7
 clear hu14 hu15 k14 hlt hlt2 k12 k13 k012
 have eqr : Jr6 (repC r) (repC r) = true := by rw [Qi1]; simp
 refine zS ?_
 refine Zm (vs := repC r) rfl g7.cs ?_
 refine Zm (vs := repC r) rfl g9.cs ?_
 refine Qm7 (repC r) (repC r) rfl rfl rfl kR kR rfl rfl rfl rfl ?_
 rw [eqr]
 refine zS ?_
 refine Zc (Jn7 _) ?_
 rintro v w16 ⟨rfl, rfl⟩
 refine zS ?_
 rw [show decide (er = er) = true from decide_eq_true rfl]
 refine zS ?_
 refine Zm (vs := [.slice lad x.l.length lcap]) rfl g3.cs ?_
 refine zS ?_
 refine Zm (vs := [.slice x.qad x.l.length x.qcap]) rfl (g2.sub 1 _ rfl) ?_
 refine Zc (Qh9 ((hx.kp k1115).rows) (hO.kp k1115 sI)) ?_
 rintro v w17 ⟨rfl, k17⟩
 have k1117 := k1115.trans k17
 have g2 := k17.b0 g2
 have g6 := k17.b0 g6
 clear g3 g7 g9 k1115 k17 eqr
 refine zS ?_
 generalize hr : Jv0 x.txt x.s x.E x.fuel = tr
 obtain ⟨tr, tc, ti⟩ := tr
 have htx := hx.txt
 refine Ja9 ?_
 refine Jd8 (α := Nat × Nat) [2, 5, 6, 11, 12] (fun y => [ptr b2, .slice ead (x.E.length + 1) ecap, ptr b6, ptr y.1, ptr y.2]) (fun y W => Kp [] w17 W ∧ Blk W y.1 (repC tr) 45 ∧ Blk W y.2 [I tc, I ti] 38 ∧ y.1 ≠ y.2) ?_ ?_
 ·refine Qj6 (fun w' => Kp [] w17 w') 18 Ja0 kR ?_
  have kk := (Sm.drew w17).kp []
  generalize ({ w17 with drawn := w17.drawn + 1 } : World) = wd at kk ⊢
  refine Ji9 [0, 1, 2, 3, 4, 5, 6, 7, 8, 9] 8 kR kR kR kk ?_
  try dsimp only [List.map_cons, List.map_nil]
  refine zX ?_
  refine Zy (v := S x.txt) rfl rfl (fun w' h' => (h'.b0 g2).cell rfl) ?_
  refine Zz (vs := shC x.s pad pcap) rfl rfl (fun w' h' j v hv => by rw [Nat.zero_add]; exact (h'.b0 g6).cell hv) ?_
  refine zX ?_
  refine Zy (v := .slice x.ead x.E.length x.ecap) rfl rfl (fun w' h' => (h'.b0 g2).cell rfl) ?_
  refine zX ?_
  refine Zy (v := I x.fuel) rfl rfl (fun w' h' => (h'.b0 g2).cell rfl) ?_
  refine zX ?_
  have hq := fun {W : World} (hk : Kp [] wd W) => Text_ret (s := x.s) (E := x.E) (pcap := pcap) (ecap := ecap) (fuel := x.fuel) (hA.kp (k1117.trans (kk.trans hk)) sI) x.txt oM (hpar.kp (k1117.trans (kk.trans hk)) sI) hPl (hevr.kp (k1117.trans (kk.trans hk)) sI) hEl
  rw [hr] at hq
  have yd := kk.size
  refine t_with (fun e w' => ∃ y : Nat × Nat, [2, 5, 6, 11, 12, 85, 86].map e = [ptr b2, .slice ead (x.E.length + 1) ecap, ptr b6, ptr y.1, ptr y.2, .agg ⟨repC tr⟩, .agg ⟨[I tc, I ti]⟩] ∧ Kp [] wd w' ∧ Blk w' y.1 (repC rep0) 45 ∧ Blk w' y.2 [I 0, I 0] 38 ∧ wd.heap.size ≤ y.1 ∧ wd.heap.size ≤ y.2 ∧ y.1 ≠ y.2) 2 [0, 1, 2, 3, 4, 5, 6, 7, 8, 9, 10, 11, 12, 13, 14, 15] ?_ (fun hleaf => ?_)
  ·rintro e wz ⟨⟨bx, by_⟩, he', kz, gx, gy, hx1, hy1, hxy⟩
   dsimp only at gx gy hx1 hy1 hxy
   rw [← Jq9 he']
   refine Je4 16 kR rfl ?_
   refine Zs (b := bx) (cs := repC tr) rfl gx lR rfl (by simp [Value.oneCell', repC]) ?_
   intro we hue
   have k1e : Kp [] w17 we := (kk.trans kz).since (hue.kp [bx] (.inl sI)) (by simp; omega)
   refine Ja6 ⟨.inr k1e, ?_⟩
   refine Je4 17 kR rfl ?_
   refine Zs (b := by_) (cs := [I tc, I ti]) rfl (hue.kept hxy.symm gy) lR rfl (by simp [Value.oneCell']) ?_
   intro wf huf
   refine Ja6 ⟨.inl kR, Qi6 kR ?_⟩
   exact ⟨(bx, by_), rfl, k1e.since (huf.kp [by_] (.inl sI)) (by simp; omega), huf.kept hxy hue.blk, huf.blk, hxy⟩
  ·refine t_three 10 14 15 kR rfl rfl rfl ?_ ?_ ?_
   ·refine Zc (hq (Kp.refl [] wd)) ?_
    rintro v wa ⟨rfl, ka⟩
    have kc := (Kp.refl [] wd).trans ka
    have yc := ka.size
    refine Ja6 ⟨.inr (kk.trans kc), ?_⟩
    refine Ji9 [11, 12, 13] 4 kR kR kR (kk.trans kc) ?_
    try dsimp only [List.map_cons, List.map_nil]
    refine zX ?_
    refine Jz9 14 15 kR rfl rfl ?_ ?_
    ·refine Za ?_
     intro bx wx ex hux
     have kx := kc.trans (hux.new oM)
     have lx := hux.lt
     have yx := kc.size
     refine Ja6 ⟨.inr (kk.trans kx), ?_⟩
     refine Je4 15 kR rfl ?_
     refine Za ?_
     intro by_ wy ey huy
     have ky := kx.trans (huy.new oM)
     have ly := huy.lt
     have yy := kx.size
     refine Ja6 ⟨.inr (kk.trans ky), ?_⟩
     exact Jh7 kR (hleaf _ _ ⟨(bx, by_), rfl, ky, (huy.new oM).b0 (hux.blk), huy.blk, oM, oM, by dsimp only; omega⟩)
    ·refine Za ?_
     intro by_ wy ey huy
     have ky := kc.trans (huy.new oM)
     have ly := huy.lt
     have yy := kc.size
     refine Ja6 ⟨.inr (kk.trans ky), ?_⟩
     refine Je4 14 kR rfl ?_
     refine Za ?_
     intro bx wx ex hux
     have kx := ky.trans (hux.new oM)
     have lx := hux.lt
     have yx := ky.size
     refine Ja6 ⟨.inr (kk.trans kx), ?_⟩
     exact Jh7 kR (hleaf _ _ ⟨(bx, by_), rfl, kx, hux.blk, (hux.new oM).b0 (huy.blk), oM, oM, by dsimp only; omega⟩)
   ·refine Za ?_
    intro bx wx ex hux
    have kx := (Kp.refl [] wd).trans (hux.new oM)
    have lx := hux.lt
    have yx := (Kp.refl [] wd).size
    refine Ja6 ⟨.inr (kk.trans kx), ?_⟩
    refine Jz9 10 15 kR rfl rfl ?_ ?_
    ·refine Zc (hq kx) ?_
     rintro v wa ⟨rfl, ka⟩
     have kc := kx.trans ka
     have yc := ka.size
     refine Ja6 ⟨.inr (kk.trans kc), ?_⟩
     refine Ji9 [11, 12, 13] 3 kR kR kR (kk.trans kc) ?_
     try dsimp only [List.map_cons, List.map_nil]
     refine zX ?_
     refine Je4 15 kR rfl ?_
     refine Za ?_
     intro by_ wy ey huy
     have ky := kc.trans (huy.new oM)
     have ly := huy.lt
     have yy := kc.size
     refine Ja6 ⟨.inr (kk.trans ky), ?_⟩
     exact Jh7 kR (hleaf _ _ ⟨(bx, by_), rfl, ky, (huy.new oM).b0 (ka.b0 (hux.blk)), huy.blk, oM, oM, by dsimp only; omega⟩)
    ·refine Za ?_
     intro by_ wy ey huy
     have ky := kx.trans (huy.new oM)
     have ly := huy.lt
     have yy := kx.size
     refine Ja6 ⟨.inr (kk.trans ky), ?_⟩
     refine Je4 10 kR rfl ?_
     refine Zc (hq ky) ?_
     rintro v wa ⟨rfl, ka⟩
     have kc := ky.trans ka
     have yc := ka.size
     refine Ja6 ⟨.inr (kk.trans kc), ?_⟩
     refine Ji9 [11, 12, 13] 2 kR kR kR (kk.trans kc) ?_
     try dsimp only [List.map_cons, List.map_nil]
     refine zX ?_
     exact Jh7 kR (hleaf _ _ ⟨(bx, by_), rfl, kc, ka.b0 ((huy.new oM).b0 (hux.blk)), ka.b0 (huy.blk), oM, oM, by dsimp only; omega⟩)
   ·refine Za ?_
    intro by_ wy ey huy
    have ky := (Kp.refl [] wd).trans (huy.new oM)
    have ly := huy.lt
    have yy := (Kp.refl [] wd).size
    refine Ja6 ⟨.inr (kk.trans ky), ?_⟩
    refine Jz9 10 14 kR rfl rfl ?_ ?_
    ·refine Zc (hq ky) ?_
     rintro v wa ⟨rfl, ka⟩
     have kc := ky.trans ka
     have yc := ka.size
     refine Ja6 ⟨.inr (kk.trans kc), ?_⟩
     refine Ji9 [11, 12, 13] 3 kR kR kR (kk.trans kc) ?_
     try dsimp only [List.map_cons, List.map_nil]
     refine zX ?_
     refine Je4 14 kR rfl ?_
     refine Za ?_
     intro bx wx ex hux
     have kx := kc.trans (hux.new oM)
     have lx := hux.lt
     have yx := kc.size
     refine Ja6 ⟨.inr (kk.trans kx), ?_⟩
     exact Jh7 kR (hleaf _ _ ⟨(bx, by_), rfl, kx, hux.blk, (hux.new oM).b0 (ka.b0 (huy.blk)), oM, oM, by dsimp only; omega⟩)
    ·refine Za ?_
     intro bx wx ex hux
     have kx := ky.trans (hux.new oM)
     have lx := hux.lt
     have yx := ky.size
     refine Ja6 ⟨.inr (kk.trans kx), ?_⟩
     refine Je4 10 kR rfl ?_
     refine Zc (hq kx) ?_
     rintro v wa ⟨rfl, ka⟩
     have kc := kx.trans ka
     have yc := ka.size
     refine Ja6 ⟨.inr (kk.trans kc), ?_⟩
     refine Ji9 [11, 12, 13] 2 kR kR kR (kk.trans kc) ?_
     try dsimp only [List.map_cons, List.map_nil]
     refine zX ?_
     exact Jh7 kR (hleaf _ _ ⟨(bx, by_), rfl, kc, ka.b0 (hux.blk), ka.b0 ((hux.new oM).b0 (huy.blk)), oM, oM, by dsimp only; omega⟩)
 rintro ⟨b11, b12⟩ e5 w18 ⟨k18, g11, g12, n1112⟩
 dsimp only at g11 g12 n1112
 have k1118 := k1117.trans k18
 have g2 := k18.b0 g2
 have g6 := k18.b0 g6
 have hx18 := hx.kp k1118
 refine zS ?_
 refine Zl rfl g2 (v := S x.txt) ?_
 refine zS ?_
 refine Zm (vs := shC x.s x.pad x.pcap) rfl (g2.sub 2 _ rfl) ?_
 refine zS ?_
 refine Zl rfl g2 (v := .slice x.ead x.E.length x.ecap) ?_
 refine zS ?_
 refine Zl rfl g2 (v := I x.fuel) ?_
 have hq := Text30_ret (s := x.s) (E := x.E) (pcap := x.pcap) (ecap := x.ecap) (fuel := x.fuel) x.txt oM hx18.pa hx18.pal hx18.ev hx18.evl
 rw [hr] at hq
 refine Zc hq ?_
 clear hq hx18
 rintro v w19 ⟨rfl, k19⟩
 have g2 := k19.b0 g2
 have g6 := k19.b0 g6
 have g11 := k19.b0 g11
 have g12 := k19.b0 g12
 have m11 := g11.lt
 have m12 := g12.lt
 refine zS ?_
 refine Za ?_
 intro b13 w20 e20 hu20
 refine Za ?_
 intro b14 w21 e21 hu21
 have l20 := hu20.lt
 have n1314 : b13 ≠ b14 := oM
 have k1921 : Kp [] w19 w21 := (hu20.new oM).trans (hu21.new oM)
 refine Zs (b := b13) (cs := repC tr) rfl (hu21.kept n1314 hu20.blk) lR rfl (by simp [Value.oneCell', repC]) ?_
 intro w22 hu22
 refine Zs (b := b14) (cs := [I tc, I ti]) rfl (hu22.kept n1314.symm hu21.blk) lR rfl (by simp [Value.oneCell']) ?_
 intro w23 hu23
 have k1923 : Kp [] w19 w23 := (k1921.since (hu22.kp [b13] (.inl sI)) (by simp; omega)).since (hu23.kp [b14] (.inl sI)) (by simp; omega)
 have g13 : Blk w23 b13 (repC tr) 45 := hu23.kept n1314 hu22.blk
 have g14 : Blk w23 b14 [I tc, I ti] 38 := hu23.blk
 have k1123 : Kp [] w11 w23 := (k1118.trans k19).trans k1923
 have g2 := k1923.b0 g2
 have g6 := k1923.b0 g6
 have g11 := k1923.b0 g11
 have g12 := k1923.b0 g12
 clear hu20 hu21 hu22 hu23 k1921 k1923 k19 k18 k1118 k1117
 have eqr : Jr6 (repC tr) (repC tr) = true := by rw [Qi1]; simp
 refine zS ?_
 refine Zm (vs := repC tr) rfl g11.cs ?_
 refine Zm (vs := repC tr) rfl g13.cs ?_
 refine Qm7 (repC tr) (repC tr) rfl rfl rfl kR kR rfl rfl rfl rfl ?_
 rw [eqr]
 refine zS ?_
 refine Zm (vs := [I tc, I ti]) rfl g12.cs ?_
 refine Zm (vs := [I tc, I ti]) rfl g14.cs ?_
 refine Qm7 [I tc, I ti] [I tc, I ti] rfl rfl rfl kR kR rfl rfl rfl rfl ?_
 rw [eqI2]
 obtain ⟨be, rfl, hbe, hcell⟩ := hev1
 have hat : ∀ j v, (evC ⟨0, 0, -77⟩)[j]? = some v → w23.cell? ⟨be, x.E.length * 3 + j, none⟩ = some v := fun j v hv => by
  rw [← hcell j v hv]
  exact World.cell?_of_block (k1123.at_ be hbe sI)
 refine zL g2 ?_
 refine Zm (vs := evC ⟨0, 0, -77⟩) rfl (fun j v hv => by rw [Ja2, Nat.zero_add]; exact hat j v hv) ?_
 refine Zb (evC ⟨0, 0, -77⟩) ?_
 refine Qm7 (evC ⟨0, 0, -77⟩) (evC ⟨0, 0, -77⟩) rfl rfl rfl kR kR rfl rfl rfl rfl ?_
 rw [eqEv]
 refine zS ?_
 clear g11 g12 g13 g14 hat
 refine Jb4 (α := Nat) [2, 5, 6, 15] (fun i => [ptr b2, .slice (some ⟨be, 0, none⟩) (x.E.length + 1) ecap, ptr b6, I i]) (fun i W => i ≤ x.E.length ∧ Kp [] w23 W) (fun i => x.E.length - i) 0 rfl ⟨Nat.zero_le _, Kp.refl _ _⟩ ?_
 rintro i e W ⟨hi, kW⟩
 have g2 := kW.b0 g2
 refine zL g2 ?_
 refine r_if rfl (fun hc => ?_) (fun hc => ?_)
 ·have hi2 : i < x.E.length := oM
  obtain ⟨y, hy⟩ : ∃ y, x.E[i]? = some y := ⟨_, List.getElem?_eq_getElem hi2⟩
  obtain ⟨b0, o0, h0, lt0, cell0⟩ := hx.ev.at_ (by rw [hel]; omega)
  obtain ⟨b1, o1, h1, lt1, cell1⟩ := hevr.at_ (by rw [hel]; omega)
  obtain ⟨rfl, rfl⟩ : be = b1 ∧ 0 = o1 := by simpa using h1
  have kk := k1123.trans kW
  have at0 : ∀ w', Kp [] W w' → ∀ j v, (evC y)[j]? = some v → w'.cell? ⟨b0, o0 + i * 3 + j, none⟩ = some v := fun w' h' j v hv => by
   rw [Nat.add_assoc, ← cell0 _ v (Jq0 hy j v hv)]
   exact World.cell?_of_block ((kk.trans h').at_ b0 lt0 sI)
  have at1 : ∀ w', Kp [] W w' → ∀ j v, (evC y)[j]? = some v → w'.cell? ⟨be, i * 3 + j, none⟩ = some v := fun w' h' j v hv => by
   have := cell1 _ v (Jq0 hy j v hv)
   rw [Nat.zero_add] at this
   rw [← this]
   exact World.cell?_of_block ((kk.trans h').at_ be lt1 sI)
  have g2 : Blk W b2 [S x.txt, .slice x.qad x.l.length x.qcap, I x.s.th, I x.s.va, I x.s.vo, I x.s.lo, .slice x.pad x.s.pa.length x.pcap, .slice (some ⟨b0, o0, none⟩) x.E.length x.ecap, I x.fuel, S x.fr, S x.tt] 30 := by rw [← h0]; exact g2
  refine zS ?_
  refine Ja9 ?_
  refine Jc9 Ja0 kR ?_
  refine zN g2 ?_
  refine Zw (vs := evC y) rfl (fun w' h' j v hv => by rw [Ja2, Nat.zero_add]; exact at1 w' h' j v hv) ?_
  refine zN g2 ?_
  refine Zw (vs := evC y) rfl (fun w' h' j v hv => by rw [Ja2]; exact at0 w' h' j v hv) ?_
  refine q_neqX (evC y) (evC y) rfl rfl rfl kR kR rfl rfl rfl rfl ?_
  rw [eqEv]
  refine zQ ?_
  intro w' hs
  refine zS ?_
  exact ⟨i + 1, rfl, ⟨oM, kW.trans hs⟩, oM⟩
 ·refine zS ?_
  have k1124 := k1123.trans kW
  have g6 := kW.b0 g6
  refine Jb4 (α := Nat) [2, 6, 16] (fun i => [ptr b2, ptr b6, I i]) (fun i V => i ≤ x.s.pa.length ∧ Kp [] W V) (fun i => x.s.pa.length - i) 0 rfl ⟨Nat.zero_le _, Kp.refl _ _⟩ ?_
  rintro i e V ⟨hi, kV⟩
  have g6 := kV.b0 g6
  have g2 := kV.b0 g2
  refine zL g6 ?_
  refine r_if rfl (fun hc => ?_) (fun hc => ?_)
  ·have hi2 : i < x.s.pa.length := oM
   obtain ⟨y, hy⟩ : ∃ y, x.s.pa[i]? = some y := ⟨_, List.getElem?_eq_getElem hi2⟩
   have hy2 : (x.s.pa.map I)[i]? = some (I y) := by rw [List.getElem?_map, hy]; rfl
   obtain ⟨b0, o0, h0, lt0, cell0⟩ := hx.pa.at_ (by rw [List.length_map]; omega)
   obtain ⟨b1, o1, rfl, lt1, cell1⟩ := hpar.at_ (by rw [List.length_map]; omega)
   have kk := k1124.trans kV
   have at0 : ∀ w', Kp [] V w' → w'.cell? ⟨b0, o0 + i, none⟩ = some (I y) := fun w' h' => by
    rw [← cell0 _ _ hy2]
    exact World.cell?_of_block ((kk.trans h').at_ b0 lt0 sI)
   have at1 : ∀ w', Kp [] V w' → w'.cell? ⟨b1, o1 + i, none⟩ = some (I y) := fun w' h' => by
    rw [← cell1 _ _ hy2]
    exact World.cell?_of_block ((kk.trans h').at_ b1 lt1 sI)
   have g2 : Blk V b2 [S x.txt, .slice x.qad x.l.length x.qcap, I x.s.th, I x.s.va, I x.s.vo, I x.s.lo, .slice (some ⟨b0, o0, none⟩) x.s.pa.length x.pcap, .slice x.ead x.E.length x.ecap, I x.fuel, S x.fr, S x.tt] 30 := by rw [← h0]; exact g2
   refine zS ?_
   refine Ja9 ?_
   refine Jc9 Ja0 kR ?_
   refine zN g6 ?_
   refine Zq (v := I y) rfl (fun w' h' => by rw [Ja2]; exact at1 w' h') ?_
   refine zN g2 ?_
   refine Zq (v := I y) rfl (fun w' h' => by rw [Ja2]; exact at0 w' h') ?_
   refine zQ ?_
   intro w' hs
   refine r_no rfl sI ?_
   refine zS ?_
   exact ⟨i + 1, rfl, ⟨oM, kV.trans hs⟩, oM⟩
  ·refine zS ?_
   exact ⟨_, rfl, rfl, (k011.trans k1124).trans kV⟩
end
end Go.Vc
