/- Query: QueryFuel. -/
import Derived.Test.YtkgngbpkiklckaaGreatDoorQClQFuel45
namespace Go.Vc
open Go Go.Proofs
set_option maxRecDepth 20000
variable {w : World}
theorem AG.Ok.kp {w' : World} {x : AG} (h : x.Ok w) (hk : Kp [] w w') : x.Ok w' := ⟨h.rows.kp hk (by simp), h.txt, h.fr, h.tt, h.pa.kp hk (by simp), h.pal, h.ev.kp hk (by simp), h.evl, h.evc, h.fuel⟩
theorem AskX_ret {x : AG} (hA : AscW w) (hx : x.Ok w) (fuel : Int) : Ret Tryz.prog 17 [.agg ⟨[.slice x.qad x.l.length x.qcap]⟩, .agg ⟨[I x.s.th, I x.s.va, I x.s.vo, I x.s.lo, .slice x.pad x.s.pa.length x.pcap]⟩, .slice x.ead x.E.length x.ecap, I fuel] w (fun v w' => v = .tuple #[.agg ⟨repC (askM x.l x.s x.E fuel).1⟩, I (askM x.l x.s x.E fuel).2] ∧ Kp [] w w') :=
  Ask_ret hA hx.rows hx.pa hx.pal hx.ev hx.evl
set_option maxHeartbeats 12800000 in
theorem QueryFuel_ret {x : AG} {more : Int} (hA : AscW w) (hP : PowQ w) (hx : x.Ok w) : Ret Tryz.prog 4 [.agg ⟨x.C⟩, I more] w (fun v w' => v = .bool true ∧ Kp [] w w') := by
  refine enter Tryz.call4 Tryz.func4 rfl rfl rfl rfl ?_
  (repeat first|refine zA ?_|refine zg ?_)
  refine o_box rfl rfl rfl ?_
  intro b2 w1 e1 hu1
  have k1 : Kp [] w w1 := hu1.kp [] (.inr (by omega))
  have g2 : Blk w1 b2 x.C 30 := hu1.blk
  clear hu1
  (repeat first|refine zA ?_|refine zB ?_|refine zg ?_|refine zo rfl rfl trivial ?_|refine zn ?_)
  refine o_call (works_ret (hA.kp k1 (by simp)) (hP.kp k1 (by simp))) rfl rfl rfl ?_
  rintro v w2 ⟨rfl, k2⟩
  have k02 := k1.trans k2
  have g2 := k2.blk (by simp) g2
  (repeat first|refine zo rfl rfl trivial ?_|refine zU rfl rfl rfl ?_)
  refine o_loadA (vs := x.C) rfl (fun j v hv => by rw [Nat.zero_add]; exact g2.cell hv) rfl rfl rfl rfl rfl rfl ?_
  refine o_call few_ret rfl rfl rfl ?_
  rintro v w3 ⟨rfl, k3⟩
  have k03 := k02.trans k3
  have g2 := k3.blk (by simp) g2
  generalize (decide (x.fuel ≤ 300000) || decide (67108864 < x.fuel)) = fw
  cases fw with
  | false =>
    (repeat first|refine zA ?_|refine zg ?_|refine zo rfl rfl trivial ?_|refine zn ?_|refine zt rfl ?_)
    refine o_call (works_ret (hA.kp k03 (by simp)) (hP.kp k03 (by simp))) rfl rfl rfl ?_
    rintro v w4 ⟨rfl, k4⟩
    (repeat first|refine zo rfl rfl trivial ?_|refine zn ?_|refine zr ?_)
    exact ⟨_, rfl, rfl, k03.trans k4⟩
  | true =>
  (repeat first|refine zA ?_|refine zg ?_|refine zo rfl rfl trivial ?_|refine zn ?_|refine zk ?_|refine zf rfl ?_)
  refine o_loadA (vs := [.slice x.qad x.l.length x.qcap]) rfl (g2.sub 1 _ rfl) rfl rfl rfl rfl rfl rfl ?_
  (repeat refine zo rfl rfl trivial ?_)
  refine o_loadA (vs := [I x.s.th, I x.s.va, I x.s.vo, I x.s.lo, .slice x.pad x.s.pa.length x.pcap]) rfl (g2.sub 2 _ rfl) rfl rfl rfl rfl rfl rfl ?_
  (repeat refine zo rfl rfl trivial ?_)
  refine o_load rfl g2 (v := .slice x.ead x.E.length x.ecap) rfl rfl rfl rfl rfl ?_
  (repeat refine zo rfl rfl trivial ?_)
  refine o_load rfl g2 (v := I x.fuel) rfl rfl rfl rfl rfl ?_
  refine o_call (AskX_ret (hA.kp k03 (by simp)) (hx.kp k03) x.fuel) rfl rfl rfl ?_
  rintro v w4 ⟨rfl, k4⟩
  have k04 := k03.trans k4
  have g2 := k4.blk (by simp) g2
  have hl := fuel_law x.l x.s x.E x.fuel more
  generalize hr : askM x.l x.s x.E x.fuel = r at hl ⊢
  obtain ⟨r, er⟩ := r
  dsimp only at hl ⊢
  (repeat refine zo rfl rfl trivial ?_)
  refine o_alloc rfl rfl rfl rfl ?_
  intro b5 w5 e5 hu5
  have z5 : b2 ≠ b5 := by have := g2.lt; omega
  have g2 := (hu5.kp [] (.inr (by omega))).blk (by simp) g2
  refine o_storeA (b := b5) (cs := repC r) rfl hu5.blk (Nat.le_refl _) rfl (by simp [Value.oneCell', repC]) rfl rfl rfl rfl ?_
  intro w6 hu6
  have k46 : Kp [] w4 w6 := (hu5.kp [] (.inr (by omega))).since (hu6.kp [b5] (.inl (by simp))) (by simp; omega)
  have g5 : Blk w6 b5 (repC r) 45 := hu6.blk
  have g2 := hu6.kept z5 g2
  have k06 := k04.trans k46
  clear hu5 hu6
  (repeat first|refine zA ?_|refine zB ?_|refine zg ?_|refine zo rfl rfl trivial ?_|refine zn ?_)
  refine o_call (num30_ret _) rfl rfl rfl ?_
  rintro v w7 ⟨rfl, rfl⟩
  by_cases he : er = 0
  rotate_left
  · obtain rfl := hl.1 he
    refine o_pureB true rfl (by simp [he]) rfl rfl ?_
    (repeat first|refine zA ?_|refine zg ?_|refine zn ?_|refine zt rfl ?_)
    refine o_loadA (vs := repC rep0) rfl (fun j v hv => by rw [Nat.zero_add]; exact g5.cell hv) rfl rfl rfl rfl rfl rfl ?_
    refine o_build (repC rep0) rfl rfl rfl rfl rfl rfl rfl ?_
    refine o_eqX (repC rep0) (repC rep0) rfl rfl rfl (by kernel_rfl) (by kernel_rfl) (by kernel_rfl) (by kernel_rfl) rfl rfl ?_
    (repeat first|refine zo rfl rfl trivial ?_|refine zn ?_|refine zr ?_)
    exact ⟨_, rfl, rfl, k06⟩
  obtain ⟨s1, s2, tr, nu, st, hb, hc, hd⟩ := hl.2 he
  subst he
  refine o_pureB false rfl (by simp) rfl rfl ?_
  repeat first | refine zn ?_ | refine zf rfl ?_ | refine zk ?_
  refine r_seq ?_
  refine r_cut (α := Unit) [1, 2, 5, 6] (fun _ => [I more, ptr b2, ptr b5, I 0]) (fun _ W => W = w7) ?_ ?_
  · (repeat first|refine zA ?_|refine zg ?_|refine zo rfl rfl trivial ?_)
    refine o_load rfl g5 (v := I r.steps) rfl rfl rfl rfl rfl ?_
    refine o_pureB false rfl (decide_eq_false (by omega)) rfl rfl ?_
    (repeat first|refine zo rfl rfl trivial ?_|refine zU rfl rfl rfl ?_)
    refine o_load rfl g5 (v := I r.steps) rfl rfl rfl rfl rfl ?_
    (repeat refine zo rfl rfl trivial ?_)
    refine o_load rfl g2 (v := I x.fuel) rfl rfl rfl rfl rfl ?_
    refine o_pureB false rfl (decide_eq_false (by omega)) rfl rfl ?_
    (repeat first|refine zo rfl rfl trivial ?_|refine zU rfl rfl rfl ?_)
    refine o_load rfl g5 (v := I r.sort) rfl rfl rfl rfl rfl ?_
    by_cases c2 : r.sort = 2
    · have hn := tr c2
      refine o_pureB true rfl (decide_eq_true c2) rfl rfl ?_
      (repeat first|refine zo rfl rfl trivial ?_|refine zT rfl rfl rfl ?_)
      refine o_load rfl g5 (v := I r.num) rfl rfl rfl rfl rfl ?_
      refine o_pureB false rfl (by simp [hn]) rfl rfl ?_
      (repeat first|refine zo rfl rfl trivial ?_|refine zU rfl rfl rfl ?_)
      refine o_load rfl g5 (v := I r.sort) rfl rfl rfl rfl rfl ?_
      refine o_pureB false rfl (decide_eq_false (by omega)) rfl rfl ?_
      (repeat first|refine zo rfl rfl trivial ?_|refine zn ?_|refine zk ?_|refine zU rfl rfl rfl ?_|refine zf rfl ?_)
      exact ⟨(), rfl, rfl⟩
    · refine o_pureB false rfl (decide_eq_false c2) rfl rfl ?_
      (repeat first|refine zo rfl rfl trivial ?_|refine zU rfl rfl rfl ?_)
      refine o_load rfl g5 (v := I r.sort) rfl rfl rfl rfl rfl ?_
      by_cases c1 : r.sort = 1
      · have hn := nu c1
        refine o_pureB true rfl (decide_eq_true c1) rfl rfl ?_
        (repeat first|refine zo rfl rfl trivial ?_|refine zT rfl rfl rfl ?_)
        refine o_load rfl g5 (v := .bool r.truth) rfl rfl rfl rfl rfl ?_
        rw [hn]
        (repeat first|refine zo rfl rfl trivial ?_|refine zn ?_|refine zk ?_|refine zf rfl ?_)
        exact ⟨(), rfl, rfl⟩
      · refine o_pureB false rfl (decide_eq_false c1) rfl rfl ?_
        (repeat first|refine zo rfl rfl trivial ?_|refine zn ?_|refine zk ?_|refine zU rfl rfl rfl ?_|refine zf rfl ?_)
        exact ⟨(), rfl, rfl⟩
  rintro _ e7 w8 rfl
  clear hl
  -- with just so much
  (repeat first|refine zA ?_|refine zg ?_|refine zo rfl rfl trivial ?_)
  refine o_loadA (vs := [.slice x.qad x.l.length x.qcap]) rfl (g2.sub 1 _ rfl) rfl rfl rfl rfl rfl rfl ?_
  (repeat refine zo rfl rfl trivial ?_)
  refine o_loadA (vs := [I x.s.th, I x.s.va, I x.s.vo, I x.s.lo, .slice x.pad x.s.pa.length x.pcap]) rfl (g2.sub 2 _ rfl) rfl rfl rfl rfl rfl rfl ?_
  (repeat refine zo rfl rfl trivial ?_)
  refine o_load rfl g2 (v := .slice x.ead x.E.length x.ecap) rfl rfl rfl rfl rfl ?_
  (repeat refine zo rfl rfl trivial ?_)
  refine o_load rfl g5 (v := I r.steps) rfl rfl rfl rfl rfl ?_
  refine o_call (AskX_ret (hA.kp k06 (by simp)) (hx.kp k06) r.steps) rfl rfl rfl ?_
  rw [hb]
  rintro v w9 ⟨rfl, k9⟩
  have k09 := k06.trans k9
  have g2 := k9.blk (by simp) g2
  have g5 := k9.blk (by simp) g5
  (repeat refine zo rfl rfl trivial ?_)
  refine o_alloc rfl rfl rfl rfl ?_
  intro b7 w10 e10 hu10
  have z2 : b2 ≠ b7 := by have := g2.lt; omega
  have z5 : b5 ≠ b7 := by have := g5.lt; omega
  have g2 := (hu10.kp [] (.inr (by omega))).blk (by simp) g2
  have g5 := (hu10.kp [] (.inr (by omega))).blk (by simp) g5
  refine o_storeA (b := b7) (cs := repC r) rfl hu10.blk (Nat.le_refl _) rfl (by simp [Value.oneCell', repC]) rfl rfl rfl rfl ?_
  intro w11 hu11
  have k911 : Kp [] w9 w11 := (hu10.kp [] (.inr (by omega))).since (hu11.kp [b7] (.inl (by simp))) (by simp; omega)
  have g7 : Blk w11 b7 (repC r) 45 := hu11.blk
  have g2 := hu11.kept z2 g2
  have g5 := hu11.kept z5 g5
  have k011 := k09.trans k911
  clear hu10 hu11
  -- with one less
  (repeat first|refine zA ?_|refine zg ?_|refine zo rfl rfl trivial ?_|refine zn ?_)
  refine o_loadA (vs := [.slice x.qad x.l.length x.qcap]) rfl (g2.sub 1 _ rfl) rfl rfl rfl rfl rfl rfl ?_
  (repeat refine zo rfl rfl trivial ?_)
  refine o_loadA (vs := [I x.s.th, I x.s.va, I x.s.vo, I x.s.lo, .slice x.pad x.s.pa.length x.pcap]) rfl (g2.sub 2 _ rfl) rfl rfl rfl rfl rfl rfl ?_
  (repeat refine zo rfl rfl trivial ?_)
  refine o_load rfl g2 (v := .slice x.ead x.E.length x.ecap) rfl rfl rfl rfl rfl ?_
  (repeat refine zo rfl rfl trivial ?_)
  refine o_load rfl g5 (v := I r.steps) rfl rfl rfl rfl rfl ?_
  (repeat refine zo rfl rfl (by first|exact trivial|(simp only[AllP];omega)) ?_)
  refine o_call (AskX_ret (hA.kp k011 (by simp)) (hx.kp k011) (r.steps - 1)) rfl rfl rfl ?_
  rw [hc]
  rintro v w12 ⟨rfl, k12⟩
  have k012 := k011.trans k12
  have g2 := k12.blk (by simp) g2
  have g5 := k12.blk (by simp) g5
  have g7 := k12.blk (by simp) g7
  (repeat refine zo rfl rfl trivial ?_)
  refine o_alloc rfl rfl rfl rfl ?_
  intro b9 w13 e13 hu13
  have z2 : b2 ≠ b9 := by have := g2.lt; omega
  have z5 : b5 ≠ b9 := by have := g5.lt; omega
  have z7 : b7 ≠ b9 := by have := g7.lt; omega
  have g2 := (hu13.kp [] (.inr (by omega))).blk (by simp) g2
  have g5 := (hu13.kp [] (.inr (by omega))).blk (by simp) g5
  have g7 := (hu13.kp [] (.inr (by omega))).blk (by simp) g7
  refine o_storeA (b := b9) (cs := repC rep0) rfl hu13.blk (Nat.le_refl _) rfl (by simp [Value.oneCell', repC]) rfl rfl rfl rfl ?_
  intro w14 hu14
  have k1214 : Kp [] w12 w14 := (hu13.kp [] (.inr (by omega))).since (hu14.kp [b9] (.inl (by simp))) (by simp; omega)
  have g9 : Blk w14 b9 (repC rep0) 45 := hu14.blk
  have g2 := hu14.kept z2 g2
  have g5 := hu14.kept z5 g5
  have g7 := hu14.kept z7 g7
  have k014 := k012.trans k1214
  clear hu13 hu14
  -- with more
  (repeat first|refine zA ?_|refine zg ?_|refine zo rfl rfl trivial ?_|refine zn ?_)
  refine o_loadA (vs := [.slice x.qad x.l.length x.qcap]) rfl (g2.sub 1 _ rfl) rfl rfl rfl rfl rfl rfl ?_
  (repeat refine zo rfl rfl trivial ?_)
  refine o_loadA (vs := [I x.s.th, I x.s.va, I x.s.vo, I x.s.lo, .slice x.pad x.s.pa.length x.pcap]) rfl (g2.sub 2 _ rfl) rfl rfl rfl rfl rfl rfl ?_
  (repeat refine zo rfl rfl trivial ?_)
  refine o_load rfl g2 (v := .slice x.ead x.E.length x.ecap) rfl rfl rfl rfl rfl ?_
  (repeat refine zo rfl rfl trivial ?_)
  refine o_load rfl g2 (v := I x.fuel) rfl rfl rfl rfl rfl ?_
  (repeat refine zo rfl rfl trivial ?_)
  refine o_call (AskX_ret (hA.kp k014 (by simp)) (hx.kp k014) (min (max x.fuel more) 67108864)) rfl rfl rfl ?_
  rw [hd]
  rintro v w15 ⟨rfl, k15⟩
  have k015 := k014.trans k15
  have g5 := k15.blk (by simp) g5
  have g7 := k15.blk (by simp) g7
  have g9 := k15.blk (by simp) g9
  (repeat refine zo rfl rfl trivial ?_)
  refine o_alloc rfl rfl rfl rfl ?_
  intro b11 w16 e16 hu16
  have z5 : b5 ≠ b11 := by have := g5.lt; omega
  have z7 : b7 ≠ b11 := by have := g7.lt; omega
  have z9 : b9 ≠ b11 := by have := g9.lt; omega
  have g5 := (hu16.kp [] (.inr (by omega))).blk (by simp) g5
  have g7 := (hu16.kp [] (.inr (by omega))).blk (by simp) g7
  have g9 := (hu16.kp [] (.inr (by omega))).blk (by simp) g9
  refine o_storeA (b := b11) (cs := repC r) rfl hu16.blk (Nat.le_refl _) rfl (by simp [Value.oneCell', repC]) rfl rfl rfl rfl ?_
  intro w17 hu17
  have k1517 : Kp [] w15 w17 := (hu16.kp [] (.inr (by omega))).since (hu17.kp [b11] (.inl (by simp))) (by simp; omega)
  have g11 : Blk w17 b11 (repC r) 45 := hu17.blk
  have g5 := hu17.kept z5 g5
  have g7 := hu17.kept z7 g7
  have g9 := hu17.kept z9 g9
  have k017 := k015.trans k1517
  clear hu16 hu17
  have eqr : eqMix (repC r) (repC r) = true := by rw [eqMix_rep]; simp
  (repeat first|refine zA ?_|refine zg ?_|refine zo rfl rfl trivial ?_|refine zn ?_)
  refine o_call (num30_ret _) rfl rfl rfl ?_
  rintro v w18 ⟨rfl, rfl⟩
  (repeat first|refine zo rfl rfl trivial ?_|refine zT rfl rfl rfl ?_)
  refine o_loadA (vs := repC r) rfl (fun j v hv => by rw [Nat.zero_add]; exact g7.cell hv) rfl rfl rfl rfl rfl rfl ?_
  refine o_loadA (vs := repC r) rfl (fun j v hv => by rw [Nat.zero_add]; exact g5.cell hv) rfl rfl rfl rfl rfl rfl ?_
  refine o_eqX (repC r) (repC r) rfl rfl rfl (by kernel_rfl) (by kernel_rfl) rfl rfl rfl rfl ?_
  rw [eqr]
  (repeat first|refine zo rfl rfl trivial ?_|refine zT rfl rfl rfl ?_)
  refine o_call (num30_ret _) rfl rfl rfl ?_
  rintro v w19 ⟨rfl, rfl⟩
  (repeat first|refine zo rfl rfl trivial ?_|refine zT rfl rfl rfl ?_)
  refine o_loadA (vs := repC rep0) rfl (fun j v hv => by rw [Nat.zero_add]; exact g9.cell hv) rfl rfl rfl rfl rfl rfl ?_
  refine o_build (repC rep0) rfl rfl rfl rfl rfl rfl rfl ?_
  refine o_eqX (repC rep0) (repC rep0) rfl rfl rfl (by kernel_rfl) (by kernel_rfl) (by kernel_rfl) (by kernel_rfl) rfl rfl ?_
  (repeat first|refine zo rfl rfl trivial ?_|refine zT rfl rfl rfl ?_)
  refine o_call (num30_ret _) rfl rfl rfl ?_
  rintro v w20 ⟨rfl, rfl⟩
  (repeat first|refine zo rfl rfl trivial ?_|refine zT rfl rfl rfl ?_)
  refine o_loadA (vs := repC r) rfl (fun j v hv => by rw [Nat.zero_add]; exact g11.cell hv) rfl rfl rfl rfl rfl rfl ?_
  refine o_loadA (vs := repC r) rfl (fun j v hv => by rw [Nat.zero_add]; exact g5.cell hv) rfl rfl rfl rfl rfl rfl ?_
  refine o_eqX (repC r) (repC r) rfl rfl rfl (by kernel_rfl) (by kernel_rfl) rfl rfl rfl rfl ?_
  rw [eqr]
  (repeat first|refine zo rfl rfl trivial ?_|refine zn ?_|refine zr ?_)
  exact ⟨_, rfl, rfl, k017⟩
theorem queryFuel_walk {x : AG} {more : Int} {u : Nat} (hA : AscW w) (hP : PowQ w) (hx : ∀ B, u ≤ B → B ≤ 1048576 → AG.Ok w x) (hu : u ≤ 1048576) : Calls Tryz.prog 4 #[.agg ⟨x.C⟩, .int .i64 more] w (fun e w' => e = .returned (.bool true) ∧ RowKit.Below w.heap.size w w') := (QueryFuel_ret hA hP (hx 1048576 hu (Nat.le_refl _))).calls
end Go.Vc
