/- Query: QueryAlike (printed by tool/mkQy47.py out of Qy47.head and Qy47.tail). -/
import Derived.Test.YtkgngbpkiklckaaGreatDoorQClQAlike44
namespace Go.Vc
open Go Go.Proofs
set_option maxRecDepth 20000
variable {w : World}
set_option maxHeartbeats 12800000 in
theorem QueryAlike_ret {x : AG} {name : List UInt8} (hA : AscW w) (hP : PowQ w) (hx : x.Ok w) (h5 : x.l.length * 5 ≤ 1048576) (hname : name.length ≤ 1048576) : Ret Tryz.prog 5 [.agg ⟨x.C⟩, S name] w (fun v w' => v = .bool true ∧ Kp [] w w') := by
  refine enter Tryz.call5 Tryz.func5 rfl rfl rfl rfl ?_
  (repeat first|refine zA ?_|refine zg ?_)
  refine o_box rfl rfl rfl ?_
  intro b2 w1 e1 hu1
  have k1 : Kp [] w w1 := hu1.kp [] (.inr (by omega))
  have g2 : Blk w1 b2 x.C 30 := hu1.blk
  clear hu1
  (repeat first|refine zA ?_|refine zB ?_|refine zg ?_|refine zo rfl rfl trivial ?_|refine zn ?_)
  refine o_call (works_ret (hA.kp k1 (by simp)) (hP.kp k1 (by simp))) rfl rfl rfl ?_
  rintro v w2 ⟨rfl, k2⟩
  have k0 := k1.trans k2
  have g2 := k2.blk (by simp) g2
  (repeat first|refine zo rfl rfl trivial ?_|refine zU rfl rfl rfl ?_)
  refine o_load rfl g2 (v := I x.fuel) rfl rfl rfl rfl rfl ?_
  by_cases c1 : (20000 : Int) < x.fuel
  · refine o_pureB true rfl (decide_eq_true c1) rfl rfl ?_
    (repeat first|refine zA ?_|refine zg ?_|refine zo rfl rfl trivial ?_|refine zn ?_|refine zT rfl rfl rfl ?_|refine zt rfl ?_)
    refine o_call (works_ret (hA.kp k0 (by simp)) (hP.kp k0 (by simp))) rfl rfl rfl ?_
    rintro v w3 ⟨rfl, k3⟩
    (repeat first|refine zo rfl rfl trivial ?_|refine zn ?_|refine zr ?_)
    exact ⟨_, rfl, rfl, k0.trans k3⟩
  refine o_pureB false rfl (decide_eq_false c1) rfl rfl ?_
  (repeat first|refine zo rfl rfl trivial ?_|refine zU rfl rfl rfl ?_)
  refine o_call (Name30_ret name hname) rfl rfl rfl ?_
  rintro v w3 ⟨⟨nb, rfl⟩, k3⟩
  have k0 := k0.trans k3
  have g2 := k3.blk (by simp) g2
  cases nb with
  | false =>
    (repeat first|refine zA ?_|refine zg ?_|refine zo rfl rfl trivial ?_|refine zn ?_|refine zT rfl rfl rfl ?_|refine zt rfl ?_)
    refine o_call (works_ret (hA.kp k0 (by simp)) (hP.kp k0 (by simp))) rfl rfl rfl ?_
    rintro v w4 ⟨rfl, k4⟩
    (repeat first|refine zo rfl rfl trivial ?_|refine zn ?_|refine zr ?_)
    exact ⟨_, rfl, rfl, k0.trans k4⟩
  | true =>
  (repeat first|refine zo rfl rfl trivial ?_|refine zU rfl rfl rfl ?_)
  refine o_load rfl g2 (v := .slice x.ead x.E.length x.ecap) rfl rfl rfl rfl rfl ?_
  (repeat first|refine zo rfl rfl trivial ?_|refine zn ?_)
  refine r_if rfl (fun c2 => ?_) (fun c2 => ?_)
  · (repeat first|refine zA ?_|refine zg ?_)
    refine o_call (works_ret (hA.kp k0 (by simp)) (hP.kp k0 (by simp))) rfl rfl rfl ?_
    rintro v w4 ⟨rfl, k4⟩
    (repeat first|refine zo rfl rfl trivial ?_|refine zn ?_|refine zr ?_)
    exact ⟨_, rfl, rfl, k0.trans k4⟩
  -- over any
  (repeat first|refine zA ?_|refine zg ?_|refine zo rfl rfl trivial ?_|refine zk ?_)
  refine o_loadA (vs := [.slice x.qad x.l.length x.qcap]) rfl (g2.sub 1 _ rfl) rfl rfl rfl rfl rfl rfl ?_
  refine o_buildSliceN [kqV ⟨x.qad, x.qcap, x.l⟩] rfl rfl rfl (by kernel_rfl) rfl rfl rfl rfl ?_
  intro bs w4 hbs hu4
  have k4 : Kp [] w3 w4 := hu4.kp [] (.inr (by omega))
  have hK : ReadS w4 (some ⟨bs, 0, none⟩) (([⟨x.qad, x.qcap, x.l⟩] : List KQ).map kqV) := ReadS.blk hu4.blk
  have k0 := k0.trans k4
  have g2 := k4.blk (by simp) g2
  clear hu4
  refine o_call (over_ret (ks := [⟨x.qad, x.qcap, x.l⟩]) 22 0 name hK (fun k hk => by
    rw [List.mem_singleton.1 hk]; exact (hx.kp k0).rows.read) (by simp; omega) (by simp)) rfl rfl rfl ?_
  rw [show ([⟨x.qad, x.qcap, x.l⟩] : List KQ).flatMap (·.l) = x.l by simp]
  rintro v w5 ⟨fad, fcap, rfl, hOf, k5, _⟩
  have k0 := k0.trans k5
  have g2 := k5.blk (by simp) g2
  have hRf : Rows w5 fad fcap (overR 22 0 name x.l) := rows_own hOf (by simp [overR]; omega) (over_nm (by omega) hx.rows.name) (over_nu (by decide) hx.rows.num)
  clear hOf hK
  refine o_alloc rfl rfl rfl rfl ?_
  intro b5 w6 e6 hu6
  have z2 : b2 ≠ b5 := by have := g2.lt; omega
  have g2 := (hu6.kp [] (.inr (by omega))).blk (by simp) g2
  refine o_storeA (b := b5) (cs := [.slice fad (overR 22 0 name x.l).length fcap]) rfl hu6.blk (Nat.le_refl _) rfl (by simp [Value.oneCell']) rfl rfl rfl rfl ?_
  intro w7 hu7
  have k57 : Kp [] w5 w7 := (hu6.kp [] (.inr (by omega))).since (hu7.kp [b5] (.inl (by simp))) (by simp; omega)
  have g5 : Blk w7 b5 [.slice fad (overR 22 0 name x.l).length fcap] 24 := hu7.blk
  have g2 := hu7.kept z2 g2
  have k0 := k0.trans k57
  have hRf := hRf.kp k57 (by simp)
  clear hu6 hu7
  (repeat first|refine zA ?_|refine zg ?_|refine zn ?_)
  refine o_loadA (vs := [.slice fad (overR 22 0 name x.l).length fcap]) rfl (fun j v hv => by rw [Nat.zero_add]; exact g5.cell hv) rfl rfl rfl rfl rfl rfl ?_
  (repeat refine zo rfl rfl trivial ?_)
  refine o_loadA (vs := [I x.s.th, I x.s.va, I x.s.vo, I x.s.lo, .slice x.pad x.s.pa.length x.pcap]) rfl (g2.sub 2 _ rfl) rfl rfl rfl rfl rfl rfl ?_
  (repeat refine zo rfl rfl trivial ?_)
  refine o_load rfl g2 (v := .slice x.ead x.E.length x.ecap) rfl rfl rfl rfl rfl ?_
  (repeat refine zo rfl rfl trivial ?_)
  refine o_load rfl g2 (v := I x.fuel) rfl rfl rfl rfl rfl ?_
  have hx7 := hx.kp k0
  refine o_call (Ask_ret (s := x.s) (pcap := x.pcap) (ecap := x.ecap) (fuel := x.fuel) (hA.kp k0 (by simp)) hRf hx7.pa hx7.pal hx7.ev hx7.evl) rfl rfl rfl ?_
  have hz := ask_zero (l := overR 22 0 name x.l) (s := x.s) (E := x.E) (f := x.fuel)
  generalize askM (overR 22 0 name x.l) x.s x.E x.fuel = r at hz ⊢
  obtain ⟨r, er⟩ := r
  dsimp only at hz ⊢
  rintro v w8 ⟨rfl, k8⟩
  have k0 := k0.trans k8
  have g2 := k8.blk (by simp) g2
  have g5 := k8.blk (by simp) g5
  have hRf := hRf.kp k8 (by simp)
  (repeat refine zo rfl rfl trivial ?_)
  refine o_alloc rfl rfl rfl rfl ?_
  intro b6 w9 e9 hu9
  have z2 : b2 ≠ b6 := by have := g2.lt; omega
  have z5 : b5 ≠ b6 := by have := g5.lt; omega
  have g2 := (hu9.kp [] (.inr (by omega))).blk (by simp) g2
  have g5 := (hu9.kp [] (.inr (by omega))).blk (by simp) g5
  refine o_storeA (b := b6) (cs := repC r) rfl hu9.blk (Nat.le_refl _) rfl (by simp [Value.oneCell', repC]) rfl rfl rfl rfl ?_
  intro w10 hu10
  have k810 : Kp [] w8 w10 := (hu9.kp [] (.inr (by omega))).since (hu10.kp [b6] (.inl (by simp))) (by simp; omega)
  have g6 : Blk w10 b6 (repC r) 45 := hu10.blk
  have g2 := hu10.kept z2 g2
  have g5 := hu10.kept z5 g5
  have k0 := k0.trans k810
  have hRf := hRf.kp k810 (by simp)
  clear hu9 hu10
  (repeat first|refine zA ?_|refine zB ?_|refine zg ?_|refine zo rfl rfl trivial ?_|refine zn ?_)
  refine o_call (num30_ret _) rfl rfl rfl ?_
  rintro v w11 ⟨rfl, rfl⟩
  by_cases he : er = 0
  rotate_left
  · refine o_pureB true rfl (by simp [he]) rfl rfl ?_
    (repeat first|refine zA ?_|refine zg ?_|refine zo rfl rfl trivial ?_|refine zn ?_|refine zr ?_|refine zT rfl rfl rfl ?_|refine zt rfl ?_)
    exact ⟨_, rfl, rfl, k0⟩
  refine o_pureB false rfl (by simp [he]) rfl rfl ?_
  (repeat first|refine zo rfl rfl trivial ?_|refine zU rfl rfl rfl ?_)
  refine o_load rfl g6 (v := I r.sort) rfl rfl rfl rfl rfl ?_
  (repeat first|refine zo rfl rfl trivial ?_|refine zn ?_)
  refine r_ifn rfl (fun _ => ?_) (fun _ => ?_)
  · (repeat first|refine zA ?_|refine zg ?_|refine zo rfl rfl trivial ?_|refine zn ?_|refine zr ?_)
    exact ⟨_, rfl, rfl, k0⟩
  obtain ⟨tf, hlk, hord, htr⟩ := hz he
  obtain ⟨q, rfl, hql, hF⟩ := free_ok hx.rows.num (by
    have e : overR 22 0 name x.l = ⟨22, 1 + x.l.length, 0, name⟩ :: x.l := rfl
    rw [← e]; exact hlk)
  have hone := htr rfl
  obtain ⟨one, four, h1, height⟩ := alike hF hord
  rw [← h1] at hone
  clear htr hz hlk h1
  (repeat first|refine zA ?_|refine zg ?_|refine zk ?_)
  -- the number 0
  refine o_call (over_ret (ks := []) (kad := none) (kcap := 0) 1 0 [] (show ReadS _ none [] from rfl) (by simp) (by simp) (by simp)) rfl rfl rfl ?_
  rw [show ([] : List KQ).flatMap (·.l) = [] from rfl]
  rintro v w12 ⟨zad, zcap, rfl, hOz, k12, _⟩
  have k0 := k0.trans k12
  have g2 := k12.blk (by simp) g2
  have g5 := k12.blk (by simp) g5
  have g6 := k12.blk (by simp) g6
  have hRf := hRf.kp k12 (by simp)
  have hRz : Rows w12 zad zcap (overR 1 0 [] []) := rows_own hOz (by simp [overR]) (over_nm (by simp) (by simp)) (over_nu (by decide) (by simp))
  clear hOz
  refine o_alloc rfl rfl rfl rfl ?_
  intro b8 w13 e13 hu13
  have z2 : b2 ≠ b8 := by have := g2.lt; omega
  have z5 : b5 ≠ b8 := by have := g5.lt; omega
  have z6 : b6 ≠ b8 := by have := g6.lt; omega
  have g2 := (hu13.kp [] (.inr (by omega))).blk (by simp) g2
  have g5 := (hu13.kp [] (.inr (by omega))).blk (by simp) g5
  have g6 := (hu13.kp [] (.inr (by omega))).blk (by simp) g6
  refine o_storeA (b := b8) (cs := [.slice zad (overR 1 0 [] []).length zcap]) rfl hu13.blk (Nat.le_refl _) rfl (by simp [Value.oneCell']) rfl rfl rfl rfl ?_
  intro w14 hu14
  have k1214 : Kp [] w12 w14 := (hu13.kp [] (.inr (by omega))).since (hu14.kp [b8] (.inl (by simp))) (by simp; omega)
  have g8 : Blk w14 b8 [.slice zad (overR 1 0 [] []).length zcap] 24 := hu14.blk
  have g2 := hu14.kept z2 g2
  have g5 := hu14.kept z5 g5
  have g6 := hu14.kept z6 g6
  have k0 := k0.trans k1214
  have f8 : Held w14 b8 zeroQ.rows := ⟨zad, zcap, g8, hRz.kp k1214 (by simp)⟩
  have f5 : Held w14 b5 (freeQ name q).rows := ⟨fad, fcap, by rw [freeQ, rows_n1, ← hql]; exact g5, by rw [freeQ, rows_n1, ← hql]; exact hRf.kp k1214 (by simp)⟩
  have hRx : Rows w14 x.qad x.qcap q.rows := by rw [← hql]; exact (hx.kp k0).rows
  have hq5 : q.rows.length * 5 ≤ 1048576 := by rw [← hql]; exact h5
  clear hu13 hu14 g5 g8 hRf hRz k1214 z2 z5 z6
  -- region 8
  repeat first | refine o_pure1 rfl rfl rfl ?_ | refine zn ?_
  refine r_seq ?_
  refine r_cut (α := Nat) [1, 2, 5, 6, 8, 9] (fun y => [S name, ptr b2, ptr b5, ptr b6, ptr b8, ptr y]) (fun y W => Kp [] w14 W ∧ Held W y (countQ name q).rows) ?_ ?_
  · skip
    obtain ⟨a8, c8, y8, r8⟩ := f8
    refine r_any (fun w' => Kp [] w14 w') 10 follows_mixed (by kernel_rfl) ?_
    have kk := (Sm.drew w14).kp []
    generalize ({ w14 with drawn := w14.drawn + 1 } : World) = wd at kk ⊢
    refine t_seg [0, 1, 2, 5] 6 (by kernel_rfl) (by kernel_rfl) (by kernel_rfl) kk ?_
    try dsimp only [List.map_cons, List.map_nil]
    (repeat refine xo rfl rfl trivial ?_)
    refine x_loadA (vs := [.slice x.qad q.rows.length x.qcap]) rfl rfl (fun w' h' => by have := (h'.blk (by simp) g2).sub 1 [.slice x.qad x.l.length x.qcap] rfl; rwa [hql] at this) rfl rfl rfl rfl rfl rfl ?_
    refine x_loadA (vs := [.slice a8 zeroQ.rows.length c8]) rfl rfl (fun w' h' j v hv => by rw [Nat.zero_add]; exact (h'.blk (by simp) y8).cell hv) rfl rfl rfl rfl rfl rfl ?_
    (repeat refine xn ?_)
    refine t_dagL (fuel := 1) [(3, kidsS [q.rows]), (4, treeS (QT.n1 24 0 name q).rows), (6, kidsS [(QT.n1 24 0 name q).rows, zeroQ.rows]), (7, treeS (countQ name q).rows), (8, blkS wd.heap.size [.slice none 0 0] 24)] [3, 4, 6, 7, 8] [1, 2, 5, 6, 8, 66, 68, 71] [S name, ptr b2, ptr b5, ptr b6, ptr b8, S name, .agg ⟨[.slice x.qad q.rows.length x.qcap]⟩, .agg ⟨[.slice a8 zeroQ.rows.length c8]⟩] 9 (by kernel_rfl) (fun w' h => kk.trans h) rfl ?_ ?_
    · refine d_cons (d_op rfl fun e1 w1 hk hb hj => ?_) (d_cons (d_op rfl fun e1 w1 hk hb hj => ?_) (d_cons (d_op rfl fun e1 w1 hk hb hj => ?_) (d_cons (d_op rfl fun e1 w1 hk hb hj => ?_) (d_cons (d_op rfl fun e1 w1 hk hb hj => ?_) (d_nil)))))
      · have hk := kk.trans hk
        rw [← over_eq hb]
        refine o_buildSliceN [kqV ⟨x.qad, x.qcap, q.rows⟩] rfl rfl rfl (by kernel_rfl) rfl rfl rfl rfl ?_
        intro bs ws hbs hus
        exact o_nil ⟨hus.kp [] (.inr (by omega)), _, rfl, KidsA.one hus.blk ((hRx.kp hk (by simp)).kp (hus.kp [] (.inr (by omega))) (by simp))⟩
      · have h3 : KidsA w1 (e1 69) [q.rows] := hj 3 rfl
        rw [← over_eq hb]
        refine o_call (over_n1 24 name q h3 hname (by omega)) rfl rfl rfl ?_
        rintro v wa ⟨hT, ka⟩
        exact o_nil ⟨ka, _, rfl, hT⟩
      · have ht : TreeA w1 (e1 70) (QT.n1 24 0 name q).rows := hj 4 rfl
        have hk := kk.trans hk
        obtain ⟨at_, ct, ht, rt⟩ := ht
        rw [← over_eq hb, ← over_eq (ss := [70]) (show [70].map e1 = [_] from congrArg (fun a => [a]) ht)]
        refine o_buildSliceN [kqV ⟨at_, ct, (QT.n1 24 0 name q).rows⟩, kqV ⟨a8, c8, zeroQ.rows⟩] rfl rfl rfl (by kernel_rfl) rfl rfl rfl rfl ?_
        intro bs ws hbs hus
        have ks := hus.kp [] (.inr (by omega))
        exact o_nil ⟨ks, _, rfl, KidsA.two hus.blk (rt.kp ks (by simp)) ((r8.kp hk (by simp)).kp ks (by simp))⟩
      · have h3 : KidsA w1 (e1 72) [(QT.n1 24 0 name q).rows, zeroQ.rows] := hj 6 rfl
        rw [← over_eq hb]
        refine o_call (over_n2 16 (QT.n1 24 0 name q) zeroQ h3 (by rw [len10, len1]; omega)) rfl rfl rfl ?_
        rintro v wa ⟨hT, ka⟩
        exact o_nil ⟨ka, _, rfl, hT⟩
      · have hsz := hk.size
        rw [← over_eq hb]
        refine o_alloc rfl rfl rfl rfl ?_
        intro bz wz ez huz
        exact o_nil ⟨huz.kp [] (.inr (by omega)), _, rfl, bz, rfl, huz.blk, by omega⟩
    · intro e1 w1 hk hb hj
      have hk1 := kk.trans hk
      have ht : TreeA w1 (e1 73) (countQ name q).rows := hj 7 (by omega)
      have ha : BlkF wd.heap.size w1 (e1 9) [.slice none 0 0] 24 := hj 8 (by omega)
      obtain ⟨at_, ct, ht, rt⟩ := ht
      obtain ⟨bz, ha, gz, lz⟩ := ha
      have lz2 := kk.size
      rw [← over_eq hb, ← over_eq (ss := [73, 9]) (show [73, 9].map e1 = [_, _] from congr (congrArg (fun a b => [a, b]) ht) ha)]
      refine t_one 9 (by kernel_rfl) rfl ?_
      refine o_storeA (b := bz) (cs := [.slice at_ (countQ name q).rows.length ct]) rfl gz (Nat.le_refl _) rfl (by simp [Value.oneCell']) rfl rfl rfl rfl ?_
      intro we hue
      have kz : Kp [bz] w1 we := hue.kp [bz] (.inl (by simp))
      refine o_nil ⟨.inl (by kernel_rfl), t_end (by kernel_rfl) ⟨bz, rfl, hk1.since kz (by simp; omega), at_, ct, hue.blk, rt.kp kz (rt.apart gz (by rw [len2]; omega))⟩⟩
  rintro b9 e w28 ⟨kr, f9⟩
  have k0 := k0.trans kr
  have g2 := kr.blk (by simp) g2
  have g6 := kr.blk (by simp) g6
  have f5 := f5.kp kr
  have f8 := f8.kp kr
  have hRx := hRx.kp kr (by simp)
  clear kr
  -- region 9
  repeat first | refine o_pure1 rfl rfl rfl ?_ | refine zn ?_
  refine r_seq ?_
  refine r_cut (α := Nat) [1, 2, 5, 6, 8, 9, 10] (fun y => [S name, ptr b2, ptr b5, ptr b6, ptr b8, ptr b9, ptr y]) (fun y W => Kp [] w28 W ∧ Held W y (leastQ name q).rows) ?_ ?_
  · skip
    obtain ⟨a8, c8, y8, r8⟩ := f8
    refine r_any (fun w' => Kp [] w28 w') 10 follows_mixed (by kernel_rfl) ?_
    have kk := (Sm.drew w28).kp []
    generalize ({ w28 with drawn := w28.drawn + 1 } : World) = wd at kk ⊢
    refine t_seg [0, 1, 2, 5] 6 (by kernel_rfl) (by kernel_rfl) (by kernel_rfl) kk ?_
    try dsimp only [List.map_cons, List.map_nil]
    (repeat refine xo rfl rfl trivial ?_)
    refine x_loadA (vs := [.slice x.qad q.rows.length x.qcap]) rfl rfl (fun w' h' => by have := (h'.blk (by simp) g2).sub 1 [.slice x.qad x.l.length x.qcap] rfl; rwa [hql] at this) rfl rfl rfl rfl rfl rfl ?_
    refine x_loadA (vs := [.slice a8 zeroQ.rows.length c8]) rfl rfl (fun w' h' j v hv => by rw [Nat.zero_add]; exact (h'.blk (by simp) y8).cell hv) rfl rfl rfl rfl rfl rfl ?_
    (repeat refine xn ?_)
    refine t_dagL (fuel := 1) [(3, kidsS [q.rows]), (4, treeS (QT.n1 25 0 name q).rows), (6, kidsS [(QT.n1 25 0 name q).rows, zeroQ.rows]), (7, treeS (leastQ name q).rows), (8, blkS wd.heap.size [.slice none 0 0] 24)] [3, 4, 6, 7, 8] [1, 2, 5, 6, 8, 9, 74, 76, 79] [S name, ptr b2, ptr b5, ptr b6, ptr b8, ptr b9, S name, .agg ⟨[.slice x.qad q.rows.length x.qcap]⟩, .agg ⟨[.slice a8 zeroQ.rows.length c8]⟩] 9 (by kernel_rfl) (fun w' h => kk.trans h) rfl ?_ ?_
    · refine d_cons (d_op rfl fun e1 w1 hk hb hj => ?_) (d_cons (d_op rfl fun e1 w1 hk hb hj => ?_) (d_cons (d_op rfl fun e1 w1 hk hb hj => ?_) (d_cons (d_op rfl fun e1 w1 hk hb hj => ?_) (d_cons (d_op rfl fun e1 w1 hk hb hj => ?_) (d_nil)))))
      · have hk := kk.trans hk
        rw [← over_eq hb]
        refine o_buildSliceN [kqV ⟨x.qad, x.qcap, q.rows⟩] rfl rfl rfl (by kernel_rfl) rfl rfl rfl rfl ?_
        intro bs ws hbs hus
        exact o_nil ⟨hus.kp [] (.inr (by omega)), _, rfl, KidsA.one hus.blk ((hRx.kp hk (by simp)).kp (hus.kp [] (.inr (by omega))) (by simp))⟩
      · have h3 : KidsA w1 (e1 77) [q.rows] := hj 3 rfl
        rw [← over_eq hb]
        refine o_call (over_n1 25 name q h3 hname (by omega)) rfl rfl rfl ?_
        rintro v wa ⟨hT, ka⟩
        exact o_nil ⟨ka, _, rfl, hT⟩
      · have ht : TreeA w1 (e1 78) (QT.n1 25 0 name q).rows := hj 4 rfl
        have hk := kk.trans hk
        obtain ⟨at_, ct, ht, rt⟩ := ht
        rw [← over_eq hb, ← over_eq (ss := [78]) (show [78].map e1 = [_] from congrArg (fun a => [a]) ht)]
        refine o_buildSliceN [kqV ⟨at_, ct, (QT.n1 25 0 name q).rows⟩, kqV ⟨a8, c8, zeroQ.rows⟩] rfl rfl rfl (by kernel_rfl) rfl rfl rfl rfl ?_
        intro bs ws hbs hus
        have ks := hus.kp [] (.inr (by omega))
        exact o_nil ⟨ks, _, rfl, KidsA.two hus.blk (rt.kp ks (by simp)) ((r8.kp hk (by simp)).kp ks (by simp))⟩
      · have h3 : KidsA w1 (e1 80) [(QT.n1 25 0 name q).rows, zeroQ.rows] := hj 6 rfl
        rw [← over_eq hb]
        refine o_call (over_n2 15 (QT.n1 25 0 name q) zeroQ h3 (by rw [len11, len1]; omega)) rfl rfl rfl ?_
        rintro v wa ⟨hT, ka⟩
        exact o_nil ⟨ka, _, rfl, hT⟩
      · have hsz := hk.size
        rw [← over_eq hb]
        refine o_alloc rfl rfl rfl rfl ?_
        intro bz wz ez huz
        exact o_nil ⟨huz.kp [] (.inr (by omega)), _, rfl, bz, rfl, huz.blk, by omega⟩
    · intro e1 w1 hk hb hj
      have hk1 := kk.trans hk
      have ht : TreeA w1 (e1 81) (leastQ name q).rows := hj 7 (by omega)
      have ha : BlkF wd.heap.size w1 (e1 10) [.slice none 0 0] 24 := hj 8 (by omega)
      obtain ⟨at_, ct, ht, rt⟩ := ht
      obtain ⟨bz, ha, gz, lz⟩ := ha
      have lz2 := kk.size
      rw [← over_eq hb, ← over_eq (ss := [81, 10]) (show [81, 10].map e1 = [_, _] from congr (congrArg (fun a b => [a, b]) ht) ha)]
      refine t_one 9 (by kernel_rfl) rfl ?_
      refine o_storeA (b := bz) (cs := [.slice at_ (leastQ name q).rows.length ct]) rfl gz (Nat.le_refl _) rfl (by simp [Value.oneCell']) rfl rfl rfl rfl ?_
      intro we hue
      have kz : Kp [bz] w1 we := hue.kp [bz] (.inl (by simp))
      refine o_nil ⟨.inl (by kernel_rfl), t_end (by kernel_rfl) ⟨bz, rfl, hk1.since kz (by simp; omega), at_, ct, hue.blk, rt.kp kz (rt.apart gz (by rw [len3]; omega))⟩⟩
  rintro b10 e w29 ⟨kr, f10⟩
  have k0 := k0.trans kr
  have g2 := kr.blk (by simp) g2
  have g6 := kr.blk (by simp) g6
  have f5 := f5.kp kr
  have f8 := f8.kp kr
  have f9 := f9.kp kr
  have hRx := hRx.kp kr (by simp)
  clear kr
  -- region 10
  repeat first | refine o_pure1 rfl rfl rfl ?_ | refine zn ?_
  refine r_seq ?_
  refine r_cut (α := Nat) [1, 2, 5, 6, 8, 9, 10, 11] (fun y => [S name, ptr b2, ptr b5, ptr b6, ptr b8, ptr b9, ptr b10, ptr y]) (fun y W => Kp [] w29 W ∧ Held W y (mostQ name q).rows) ?_ ?_
  · skip
    obtain ⟨a8, c8, y8, r8⟩ := f8
    refine r_any (fun w' => Kp [] w29 w') 10 follows_mixed (by kernel_rfl) ?_
    have kk := (Sm.drew w29).kp []
    generalize ({ w29 with drawn := w29.drawn + 1 } : World) = wd at kk ⊢
    refine t_seg [0, 1, 2, 5] 6 (by kernel_rfl) (by kernel_rfl) (by kernel_rfl) kk ?_
    try dsimp only [List.map_cons, List.map_nil]
    (repeat refine xo rfl rfl trivial ?_)
    refine x_loadA (vs := [.slice x.qad q.rows.length x.qcap]) rfl rfl (fun w' h' => by have := (h'.blk (by simp) g2).sub 1 [.slice x.qad x.l.length x.qcap] rfl; rwa [hql] at this) rfl rfl rfl rfl rfl rfl ?_
    refine x_loadA (vs := [.slice a8 zeroQ.rows.length c8]) rfl rfl (fun w' h' j v hv => by rw [Nat.zero_add]; exact (h'.blk (by simp) y8).cell hv) rfl rfl rfl rfl rfl rfl ?_
    (repeat refine xn ?_)
    refine t_dagL (fuel := 1) [(3, kidsS [q.rows]), (4, treeS (QT.n1 26 0 name q).rows), (6, kidsS [(QT.n1 26 0 name q).rows, zeroQ.rows]), (7, treeS (mostQ name q).rows), (8, blkS wd.heap.size [.slice none 0 0] 24)] [3, 4, 6, 7, 8] [1, 2, 5, 6, 8, 9, 10, 82, 84, 87] [S name, ptr b2, ptr b5, ptr b6, ptr b8, ptr b9, ptr b10, S name, .agg ⟨[.slice x.qad q.rows.length x.qcap]⟩, .agg ⟨[.slice a8 zeroQ.rows.length c8]⟩] 9 (by kernel_rfl) (fun w' h => kk.trans h) rfl ?_ ?_
    · refine d_cons (d_op rfl fun e1 w1 hk hb hj => ?_) (d_cons (d_op rfl fun e1 w1 hk hb hj => ?_) (d_cons (d_op rfl fun e1 w1 hk hb hj => ?_) (d_cons (d_op rfl fun e1 w1 hk hb hj => ?_) (d_cons (d_op rfl fun e1 w1 hk hb hj => ?_) (d_nil)))))
      · have hk := kk.trans hk
        rw [← over_eq hb]
        refine o_buildSliceN [kqV ⟨x.qad, x.qcap, q.rows⟩] rfl rfl rfl (by kernel_rfl) rfl rfl rfl rfl ?_
        intro bs ws hbs hus
        exact o_nil ⟨hus.kp [] (.inr (by omega)), _, rfl, KidsA.one hus.blk ((hRx.kp hk (by simp)).kp (hus.kp [] (.inr (by omega))) (by simp))⟩
      · have h3 : KidsA w1 (e1 85) [q.rows] := hj 3 rfl
        rw [← over_eq hb]
        refine o_call (over_n1 26 name q h3 hname (by omega)) rfl rfl rfl ?_
        rintro v wa ⟨hT, ka⟩
        exact o_nil ⟨ka, _, rfl, hT⟩
      · have ht : TreeA w1 (e1 86) (QT.n1 26 0 name q).rows := hj 4 rfl
        have hk := kk.trans hk
        obtain ⟨at_, ct, ht, rt⟩ := ht
        rw [← over_eq hb, ← over_eq (ss := [86]) (show [86].map e1 = [_] from congrArg (fun a => [a]) ht)]
        refine o_buildSliceN [kqV ⟨at_, ct, (QT.n1 26 0 name q).rows⟩, kqV ⟨a8, c8, zeroQ.rows⟩] rfl rfl rfl (by kernel_rfl) rfl rfl rfl rfl ?_
        intro bs ws hbs hus
        have ks := hus.kp [] (.inr (by omega))
        exact o_nil ⟨ks, _, rfl, KidsA.two hus.blk (rt.kp ks (by simp)) ((r8.kp hk (by simp)).kp ks (by simp))⟩
      · have h3 : KidsA w1 (e1 88) [(QT.n1 26 0 name q).rows, zeroQ.rows] := hj 6 rfl
        rw [← over_eq hb]
        refine o_call (over_n2 15 (QT.n1 26 0 name q) zeroQ h3 (by rw [len12, len1]; omega)) rfl rfl rfl ?_
        rintro v wa ⟨hT, ka⟩
        exact o_nil ⟨ka, _, rfl, hT⟩
      · have hsz := hk.size
        rw [← over_eq hb]
        refine o_alloc rfl rfl rfl rfl ?_
        intro bz wz ez huz
        exact o_nil ⟨huz.kp [] (.inr (by omega)), _, rfl, bz, rfl, huz.blk, by omega⟩
    · intro e1 w1 hk hb hj
      have hk1 := kk.trans hk
      have ht : TreeA w1 (e1 89) (mostQ name q).rows := hj 7 (by omega)
      have ha : BlkF wd.heap.size w1 (e1 11) [.slice none 0 0] 24 := hj 8 (by omega)
      obtain ⟨at_, ct, ht, rt⟩ := ht
      obtain ⟨bz, ha, gz, lz⟩ := ha
      have lz2 := kk.size
      rw [← over_eq hb, ← over_eq (ss := [89, 11]) (show [89, 11].map e1 = [_, _] from congr (congrArg (fun a b => [a, b]) ht) ha)]
      refine t_one 9 (by kernel_rfl) rfl ?_
      refine o_storeA (b := bz) (cs := [.slice at_ (mostQ name q).rows.length ct]) rfl gz (Nat.le_refl _) rfl (by simp [Value.oneCell']) rfl rfl rfl rfl ?_
      intro we hue
      have kz : Kp [bz] w1 we := hue.kp [bz] (.inl (by simp))
      refine o_nil ⟨.inl (by kernel_rfl), t_end (by kernel_rfl) ⟨bz, rfl, hk1.since kz (by simp; omega), at_, ct, hue.blk, rt.kp kz (rt.apart gz (by rw [len4]; omega))⟩⟩
  rintro b11 e w30 ⟨kr, f11⟩
  have k0 := k0.trans kr
  have g2 := kr.blk (by simp) g2
  have g6 := kr.blk (by simp) g6
  have f5 := f5.kp kr
  have f8 := f8.kp kr
  have f9 := f9.kp kr
  have f10 := f10.kp kr
  have hRx := hRx.kp kr (by simp)
  clear kr
  -- region 11
  repeat first | refine o_pure1 rfl rfl rfl ?_ | refine zn ?_
  refine r_seq ?_
  refine r_cut (α := Nat) [1, 2, 5, 6, 8, 9, 10, 11, 12] (fun y => [S name, ptr b2, ptr b5, ptr b6, ptr b8, ptr b9, ptr b10, ptr b11, ptr y]) (fun y W => Kp [] w30 W ∧ Held W y (refQ name q).rows) ?_ ?_
  · skip
    (repeat first|refine zg ?_|refine zo rfl rfl trivial ?_)
    refine o_loadA (vs := [.slice x.qad q.rows.length x.qcap]) rfl (by have := g2.sub 1 [.slice x.qad x.l.length x.qcap] rfl; rwa [hql] at this) rfl rfl rfl rfl rfl rfl ?_
    refine o_buildSliceN [kqV ⟨x.qad, x.qcap, q.rows⟩] rfl rfl rfl (by kernel_rfl) rfl rfl rfl rfl ?_
    intro bs1 ws1 hbs1 hus1
    have ks1 := hus1.kp [] (.inr (by omega))
    refine o_call (over_n1 17 [] q (KidsA.one hus1.blk (hRx.kp ks1 (by simp))) (by simp) (by omega)) rfl rfl rfl ?_
    rintro v wt1 ⟨⟨at1, ct1, rfl, rt1⟩, kt1⟩
    have kt1 := ks1.trans kt1
    refine o_buildSliceN [kqV ⟨at1, ct1, (notQ q).rows⟩] rfl rfl rfl (by kernel_rfl) rfl rfl rfl rfl ?_
    intro bs2 ws2 hbs2 hus2
    have ks2 := hus2.kp [] (.inr (by omega))
    refine o_call (over_n1 23 name (notQ q) (KidsA.one hus2.blk (rt1.kp ks2 (by simp))) hname (by rw [len5]; omega)) rfl rfl rfl ?_
    rintro v wt2 ⟨⟨at2, ct2, rfl, rt2⟩, kt2⟩
    have kt2 := kt1.trans (ks2.trans kt2)
    refine o_buildSliceN [kqV ⟨at2, ct2, (QT.n1 23 0 name (notQ q)).rows⟩] rfl rfl rfl (by kernel_rfl) rfl rfl rfl rfl ?_
    intro bs3 ws3 hbs3 hus3
    have ks3 := hus3.kp [] (.inr (by omega))
    refine o_call (over_n1 17 [] (QT.n1 23 0 name (notQ q)) (KidsA.one hus3.blk (rt2.kp ks3 (by simp))) (by simp) (by rw [len6]; omega)) rfl rfl rfl ?_
    rintro v wt3 ⟨⟨at3, ct3, rfl, rt3⟩, kt3⟩
    have kt3 := kt2.trans (ks3.trans kt3)
    refine o_alloc rfl rfl rfl rfl ?_
    intro bz wz ez huz
    refine o_storeA (b := bz) (cs := [.slice at3 (refQ name q).rows.length ct3]) rfl huz.blk (Nat.le_refl _) rfl (by simp [Value.oneCell']) rfl rfl rfl rfl ?_
    intro we hue
    have kz : Kp [] wt3 we := (huz.kp [] (.inr (by omega))).since (hue.kp [bz] (.inl (by simp))) (by simp; omega)
    (repeat refine zn ?_)
    exact ⟨bz, rfl, kt3.trans kz, at3, ct3, hue.blk, rt3.kp kz (by simp)⟩
  rintro b12 e w31 ⟨kr, f12⟩
  have k0 := k0.trans kr
  have g2 := kr.blk (by simp) g2
  have g6 := kr.blk (by simp) g6
  have f5 := f5.kp kr
  have f8 := f8.kp kr
  have f9 := f9.kp kr
  have f10 := f10.kp kr
  have f11 := f11.kp kr
  have hRx := hRx.kp kr (by simp)
  clear kr
  -- region 12
  repeat first | refine o_pure1 rfl rfl rfl ?_ | refine zn ?_
  refine r_seq ?_
  refine r_cut (α := Nat) [1, 2, 5, 6, 8, 9, 10, 11, 12, 13] (fun y => [S name, ptr b2, ptr b5, ptr b6, ptr b8, ptr b9, ptr b10, ptr b11, ptr b12, ptr y]) (fun y W => Kp [] w31 W ∧ Held W y (everyQ name q).rows) ?_ ?_
  · skip
    (repeat first|refine zg ?_|refine zo rfl rfl trivial ?_)
    refine o_loadA (vs := [.slice x.qad q.rows.length x.qcap]) rfl (by have := g2.sub 1 [.slice x.qad x.l.length x.qcap] rfl; rwa [hql] at this) rfl rfl rfl rfl rfl rfl ?_
    refine o_buildSliceN [kqV ⟨x.qad, x.qcap, q.rows⟩] rfl rfl rfl (by kernel_rfl) rfl rfl rfl rfl ?_
    intro bs1 ws1 hbs1 hus1
    have ks1 := hus1.kp [] (.inr (by omega))
    refine o_call (over_n1 23 name q (KidsA.one hus1.blk (hRx.kp ks1 (by simp))) hname (by omega)) rfl rfl rfl ?_
    rintro v wt1 ⟨⟨at1, ct1, rfl, rt1⟩, kt1⟩
    have kt1 := ks1.trans kt1
    refine o_alloc rfl rfl rfl rfl ?_
    intro bz wz ez huz
    refine o_storeA (b := bz) (cs := [.slice at1 (everyQ name q).rows.length ct1]) rfl huz.blk (Nat.le_refl _) rfl (by simp [Value.oneCell']) rfl rfl rfl rfl ?_
    intro we hue
    have kz : Kp [] wt1 we := (huz.kp [] (.inr (by omega))).since (hue.kp [bz] (.inl (by simp))) (by simp; omega)
    (repeat refine zn ?_)
    exact ⟨bz, rfl, kt1.trans kz, at1, ct1, hue.blk, rt1.kp kz (by simp)⟩
  rintro b13 e w32 ⟨kr, f13⟩
  have k0 := k0.trans kr
  have g2 := kr.blk (by simp) g2
  have g6 := kr.blk (by simp) g6
  have f5 := f5.kp kr
  have f8 := f8.kp kr
  have f9 := f9.kp kr
  have f10 := f10.kp kr
  have f11 := f11.kp kr
  have f12 := f12.kp kr
  have hRx := hRx.kp kr (by simp)
  clear kr
  -- region 13
  repeat first | refine o_pure1 rfl rfl rfl ?_ | refine zn ?_
  refine r_seq ?_
  refine r_cut (α := Nat) [1, 2, 5, 6, 8, 9, 10, 11, 12, 13, 14] (fun y => [S name, ptr b2, ptr b5, ptr b6, ptr b8, ptr b9, ptr b10, ptr b11, ptr b12, ptr b13, ptr y]) (fun y W => Kp [] w32 W ∧ Held W y (totalQ name q).rows) ?_ ?_
  · skip
    (repeat first|refine zg ?_|refine zo rfl rfl trivial ?_)
    refine o_loadA (vs := [.slice x.qad q.rows.length x.qcap]) rfl (by have := g2.sub 1 [.slice x.qad x.l.length x.qcap] rfl; rwa [hql] at this) rfl rfl rfl rfl rfl rfl ?_
    refine o_buildSliceN [kqV ⟨x.qad, x.qcap, q.rows⟩] rfl rfl rfl (by kernel_rfl) rfl rfl rfl rfl ?_
    intro bs1 ws1 hbs1 hus1
    have ks1 := hus1.kp [] (.inr (by omega))
    refine o_call (over_n1 24 name q (KidsA.one hus1.blk (hRx.kp ks1 (by simp))) hname (by omega)) rfl rfl rfl ?_
    rintro v wt1 ⟨⟨at1, ct1, rfl, rt1⟩, kt1⟩
    have kt1 := ks1.trans kt1
    refine o_call (over_n0 3 KidsA.nil) rfl rfl rfl ?_
    rintro v wt2 ⟨⟨at2, ct2, rfl, rt2⟩, kt2⟩
    refine o_buildSliceN [kqV ⟨at1, ct1, (QT.n1 24 0 name q).rows⟩, kqV ⟨at2, ct2, (QT.n0 3 0 []).rows⟩] rfl rfl rfl (by kernel_rfl) rfl rfl rfl rfl ?_
    intro bs3 ws3 hbs3 hus3
    have ks3 := hus3.kp [] (.inr (by omega))
    refine o_call (over_n2 13 (QT.n1 24 0 name q) (QT.n0 3 0 []) (KidsA.two hus3.blk ((rt1.kp kt2 (by simp)).kp ks3 (by simp)) (rt2.kp ks3 (by simp))) (by rw [len10, len13]; omega)) rfl rfl rfl ?_
    rintro v wt3 ⟨⟨at3, ct3, rfl, rt3⟩, kt3⟩
    have kt3 := ((kt1.trans kt2).trans ks3).trans kt3
    refine o_alloc rfl rfl rfl rfl ?_
    intro bz wz ez huz
    refine o_storeA (b := bz) (cs := [.slice at3 (totalQ name q).rows.length ct3]) rfl huz.blk (Nat.le_refl _) rfl (by simp [Value.oneCell']) rfl rfl rfl rfl ?_
    intro we hue
    have kz : Kp [] wt3 we := (huz.kp [] (.inr (by omega))).since (hue.kp [bz] (.inl (by simp))) (by simp; omega)
    (repeat refine zn ?_)
    exact ⟨bz, rfl, kt3.trans kz, at3, ct3, hue.blk, rt3.kp kz (by simp)⟩
  rintro b14 e w33 ⟨kr, f14⟩
  have k0 := k0.trans kr
  have g2 := kr.blk (by simp) g2
  have g6 := kr.blk (by simp) g6
  have f5 := f5.kp kr
  have f8 := f8.kp kr
  have f9 := f9.kp kr
  have f10 := f10.kp kr
  have f11 := f11.kp kr
  have f12 := f12.kp kr
  have f13 := f13.kp kr
  have hRx := hRx.kp kr (by simp)
  clear kr
  -- region 14
  repeat first | refine o_pure1 rfl rfl rfl ?_ | refine zn ?_
  refine r_seq ?_
  refine r_cut (α := Nat) [1, 2, 5, 6, 8, 9, 10, 11, 12, 13, 14, 15] (fun y => [S name, ptr b2, ptr b5, ptr b6, ptr b8, ptr b9, ptr b10, ptr b11, ptr b12, ptr b13, ptr b14, ptr y]) (fun y W => Kp [] w33 W ∧ Held W y (QT.n2 18 0 [] (freeQ name q) (everyQ name q)).rows) ?_ ?_
  · skip
    obtain ⟨a5, c5, y5, r5⟩ := f5
    obtain ⟨a13, c13, y13, r13⟩ := f13
    (repeat refine zg ?_)
    refine o_loadA (vs := [.slice a5 (freeQ name q).rows.length c5]) rfl (fun j v hv => by rw [Nat.zero_add]; exact y5.cell hv) rfl rfl rfl rfl rfl rfl ?_
    refine o_loadA (vs := [.slice a13 (everyQ name q).rows.length c13]) rfl (fun j v hv => by rw [Nat.zero_add]; exact y13.cell hv) rfl rfl rfl rfl rfl rfl ?_
    refine o_buildSliceN [kqV ⟨a5, c5, (freeQ name q).rows⟩, kqV ⟨a13, c13, (everyQ name q).rows⟩] rfl rfl rfl (by kernel_rfl) rfl rfl rfl rfl ?_
    intro bs3 ws3 hbs3 hus3
    have ks3 := hus3.kp [] (.inr (by omega))
    refine o_call (over_n2 18 (freeQ name q) (everyQ name q) (KidsA.two hus3.blk (r5.kp ks3 (by simp)) (r13.kp ks3 (by simp))) (by rw [len0, len8]; omega)) rfl rfl rfl ?_
    rintro v wt3 ⟨⟨at3, ct3, rfl, rt3⟩, kt3⟩
    have kt3 := ks3.trans kt3
    refine o_alloc rfl rfl rfl rfl ?_
    intro bz wz ez huz
    refine o_storeA (b := bz) (cs := [.slice at3 (QT.n2 18 0 [] (freeQ name q) (everyQ name q)).rows.length ct3]) rfl huz.blk (Nat.le_refl _) rfl (by simp [Value.oneCell']) rfl rfl rfl rfl ?_
    intro we hue
    have kz : Kp [] wt3 we := (huz.kp [] (.inr (by omega))).since (hue.kp [bz] (.inl (by simp))) (by simp; omega)
    (repeat refine zn ?_)
    exact ⟨bz, rfl, kt3.trans kz, at3, ct3, hue.blk, rt3.kp kz (by simp)⟩
  rintro b15 e w34 ⟨kr, f15⟩
  have k0 := k0.trans kr
  have g2 := kr.blk (by simp) g2
  have g6 := kr.blk (by simp) g6
  have f5 := f5.kp kr
  have f8 := f8.kp kr
  have f9 := f9.kp kr
  have f10 := f10.kp kr
  have f11 := f11.kp kr
  have f12 := f12.kp kr
  have f13 := f13.kp kr
  have f14 := f14.kp kr
  have hRx := hRx.kp kr (by simp)
  clear kr
  -- region 15
  repeat first | refine o_pure1 rfl rfl rfl ?_ | refine zn ?_
  refine r_seq ?_
  refine r_cut (α := Nat) [1, 2, 5, 6, 8, 9, 10, 11, 12, 13, 14, 15, 16] (fun y => [S name, ptr b2, ptr b5, ptr b6, ptr b8, ptr b9, ptr b10, ptr b11, ptr b12, ptr b13, ptr b14, ptr b15, ptr y]) (fun y W => Kp [] w34 W ∧ Held W y (neitherQ name q).rows) ?_ ?_
  · skip
    obtain ⟨a5, c5, y5, r5⟩ := f5
    obtain ⟨a13, c13, y13, r13⟩ := f13
    refine r_any (fun w' => Kp [] w34 w') 10 follows_mixed (by kernel_rfl) ?_
    have kk := (Sm.drew w34).kp []
    generalize ({ w34 with drawn := w34.drawn + 1 } : World) = wd at kk ⊢
    refine t_seg [0, 3] 8 (by kernel_rfl) (by kernel_rfl) (by kernel_rfl) kk ?_
    try dsimp only [List.map_cons, List.map_nil]
    refine x_loadA (vs := [.slice a5 (freeQ name q).rows.length c5]) rfl rfl (fun w' h' j v hv => by rw [Nat.zero_add]; exact (h'.blk (by simp) y5).cell hv) rfl rfl rfl rfl rfl rfl ?_
    refine x_loadA (vs := [.slice a13 (everyQ name q).rows.length c13]) rfl rfl (fun w' h' j v hv => by rw [Nat.zero_add]; exact (h'.blk (by simp) y13).cell hv) rfl rfl rfl rfl rfl rfl ?_
    (repeat refine xn ?_)
    refine t_dagL (fuel := 1) [(1, kidsS [(freeQ name q).rows]), (2, treeS (notQ (freeQ name q)).rows), (4, kidsS [(everyQ name q).rows]), (5, treeS (notQ (everyQ name q)).rows), (6, kidsS [(notQ (freeQ name q)).rows, (notQ (everyQ name q)).rows]), (7, treeS (neitherQ name q).rows), (8, blkS wd.heap.size [.slice none 0 0] 24)] [1, 2, 4, 5, 6, 7, 8] [1, 2, 5, 6, 8, 9, 10, 11, 12, 13, 14, 15, 116, 119] [S name, ptr b2, ptr b5, ptr b6, ptr b8, ptr b9, ptr b10, ptr b11, ptr b12, ptr b13, ptr b14, ptr b15, .agg ⟨[.slice a5 (freeQ name q).rows.length c5]⟩, .agg ⟨[.slice a13 (everyQ name q).rows.length c13]⟩] 9 (by kernel_rfl) (fun w' h => kk.trans h) rfl ?_ ?_
    · refine d_cons (d_op rfl fun e1 w1 hk hb hj => ?_) (d_cons (d_op rfl fun e1 w1 hk hb hj => ?_) (d_cons (d_op rfl fun e1 w1 hk hb hj => ?_) (d_cons (d_op rfl fun e1 w1 hk hb hj => ?_) (d_cons (d_op rfl fun e1 w1 hk hb hj => ?_) (d_cons (d_op rfl fun e1 w1 hk hb hj => ?_) (d_cons (d_op rfl fun e1 w1 hk hb hj => ?_) (d_nil)))))))
      · have hk := kk.trans hk
        rw [← over_eq hb]
        refine o_buildSliceN [kqV ⟨a5, c5, (freeQ name q).rows⟩] rfl rfl rfl (by kernel_rfl) rfl rfl rfl rfl ?_
        intro bs ws hbs hus
        exact o_nil ⟨hus.kp [] (.inr (by omega)), _, rfl, KidsA.one hus.blk ((r5.kp hk (by simp)).kp (hus.kp [] (.inr (by omega))) (by simp))⟩
      · have h3 : KidsA w1 (e1 117) [(freeQ name q).rows] := hj 1 rfl
        rw [← over_eq hb]
        refine o_call (over_n1 17 [] (freeQ name q) h3 (by simp) (by rw [len0]; omega)) rfl rfl rfl ?_
        rintro v wa ⟨hT, ka⟩
        exact o_nil ⟨ka, _, rfl, hT⟩
      · have hk := kk.trans hk
        rw [← over_eq hb]
        refine o_buildSliceN [kqV ⟨a13, c13, (everyQ name q).rows⟩] rfl rfl rfl (by kernel_rfl) rfl rfl rfl rfl ?_
        intro bs ws hbs hus
        exact o_nil ⟨hus.kp [] (.inr (by omega)), _, rfl, KidsA.one hus.blk ((r13.kp hk (by simp)).kp (hus.kp [] (.inr (by omega))) (by simp))⟩
      · have h3 : KidsA w1 (e1 120) [(everyQ name q).rows] := hj 4 rfl
        rw [← over_eq hb]
        refine o_call (over_n1 17 [] (everyQ name q) h3 (by simp) (by rw [len8]; omega)) rfl rfl rfl ?_
        rintro v wa ⟨hT, ka⟩
        exact o_nil ⟨ka, _, rfl, hT⟩
      · have ht : TreeA w1 (e1 118) (notQ (freeQ name q)).rows := hj 2 rfl
        have hu : TreeA w1 (e1 121) (notQ (everyQ name q)).rows := hj 5 rfl
        obtain ⟨at_, ct, ht, rt⟩ := ht
        obtain ⟨au, cu, hu, ru⟩ := hu
        rw [← over_eq hb, ← over_eq (ss := [118, 121]) (show [118, 121].map e1 = [_, _] from congr (congrArg (fun a b => [a, b]) ht) hu)]
        refine o_buildSliceN [kqV ⟨at_, ct, (notQ (freeQ name q)).rows⟩, kqV ⟨au, cu, (notQ (everyQ name q)).rows⟩] rfl rfl rfl (by kernel_rfl) rfl rfl rfl rfl ?_
        intro bs ws hbs hus
        have ks := hus.kp [] (.inr (by omega))
        exact o_nil ⟨ks, _, rfl, KidsA.two hus.blk (rt.kp ks (by simp)) (ru.kp ks (by simp))⟩
      · have h3 : KidsA w1 (e1 122) [(notQ (freeQ name q)).rows, (notQ (everyQ name q)).rows] := hj 6 rfl
        rw [← over_eq hb]
        refine o_call (over_n2 19 (notQ (freeQ name q)) (notQ (everyQ name q)) h3 (by rw [len15, len16]; omega)) rfl rfl rfl ?_
        rintro v wa ⟨hT, ka⟩
        exact o_nil ⟨ka, _, rfl, hT⟩
      · have hsz := hk.size
        rw [← over_eq hb]
        refine o_alloc rfl rfl rfl rfl ?_
        intro bz wz ez huz
        exact o_nil ⟨huz.kp [] (.inr (by omega)), _, rfl, bz, rfl, huz.blk, by omega⟩
    · intro e1 w1 hk hb hj
      have hk1 := kk.trans hk
      have ht : TreeA w1 (e1 123) (neitherQ name q).rows := hj 7 (by omega)
      have ha : BlkF wd.heap.size w1 (e1 16) [.slice none 0 0] 24 := hj 8 (by omega)
      obtain ⟨at_, ct, ht, rt⟩ := ht
      obtain ⟨bz, ha, gz, lz⟩ := ha
      have lz2 := kk.size
      rw [← over_eq hb, ← over_eq (ss := [123, 16]) (show [123, 16].map e1 = [_, _] from congr (congrArg (fun a b => [a, b]) ht) ha)]
      refine t_one 9 (by kernel_rfl) rfl ?_
      refine o_storeA (b := bz) (cs := [.slice at_ (neitherQ name q).rows.length ct]) rfl gz (Nat.le_refl _) rfl (by simp [Value.oneCell']) rfl rfl rfl rfl ?_
      intro we hue
      have kz : Kp [bz] w1 we := hue.kp [bz] (.inl (by simp))
      refine o_nil ⟨.inl (by kernel_rfl), t_end (by kernel_rfl) ⟨bz, rfl, hk1.since kz (by simp; omega), at_, ct, hue.blk, rt.kp kz (rt.apart gz (by rw [len18]; omega))⟩⟩
  rintro b16 e w35 ⟨kr, f16⟩
  have k0 := k0.trans kr
  have g2 := kr.blk (by simp) g2
  have g6 := kr.blk (by simp) g6
  have f5 := f5.kp kr
  have f8 := f8.kp kr
  have f9 := f9.kp kr
  have f10 := f10.kp kr
  have f11 := f11.kp kr
  have f12 := f12.kp kr
  have f13 := f13.kp kr
  have f14 := f14.kp kr
  have f15 := f15.kp kr
  have hRx := hRx.kp kr (by simp)
  clear kr
  -- region 16
  repeat first | refine o_pure1 rfl rfl rfl ?_ | refine zn ?_
  refine r_seq ?_
  refine r_cut (α := Value) [2, 6, 17] (fun y => [ptr b2, ptr b6, y]) (fun y W => Kp [] w35 W ∧ KidsA W y ((eightQ name q).map (·.rows))) ?_ ?_
  · skip
    obtain ⟨a9, c9, y9, r9⟩ := f9
    obtain ⟨a10, c10, y10, r10⟩ := f10
    obtain ⟨a11, c11, y11, r11⟩ := f11
    obtain ⟨a12, c12, y12, r12⟩ := f12
    obtain ⟨a13, c13, y13, r13⟩ := f13
    obtain ⟨a14, c14, y14, r14⟩ := f14
    obtain ⟨a15, c15, y15, r15⟩ := f15
    obtain ⟨a16, c16, y16, r16⟩ := f16
    refine r_any (fun w' => Kp [] w35 w') 12 follows_mixed (by kernel_rfl) ?_
    have kk := (Sm.drew w35).kp []
    generalize ({ w35 with drawn := w35.drawn + 1 } : World) = wd at kk ⊢
    refine t_seg [0, 1, 2, 3, 4, 5, 6, 9] 4 (by kernel_rfl) (by kernel_rfl) (by kernel_rfl) kk ?_
    try dsimp only [List.map_cons, List.map_nil]
    refine x_loadA (vs := [.slice a9 (countQ name q).rows.length c9]) rfl rfl (fun w' h' j v hv => by rw [Nat.zero_add]; exact (h'.blk (by simp) y9).cell hv) rfl rfl rfl rfl rfl rfl ?_
    refine x_loadA (vs := [.slice a10 (leastQ name q).rows.length c10]) rfl rfl (fun w' h' j v hv => by rw [Nat.zero_add]; exact (h'.blk (by simp) y10).cell hv) rfl rfl rfl rfl rfl rfl ?_
    refine x_loadA (vs := [.slice a11 (mostQ name q).rows.length c11]) rfl rfl (fun w' h' j v hv => by rw [Nat.zero_add]; exact (h'.blk (by simp) y11).cell hv) rfl rfl rfl rfl rfl rfl ?_
    refine x_loadA (vs := [.slice a12 (refQ name q).rows.length c12]) rfl rfl (fun w' h' j v hv => by rw [Nat.zero_add]; exact (h'.blk (by simp) y12).cell hv) rfl rfl rfl rfl rfl rfl ?_
    refine x_loadA (vs := [.slice a13 (everyQ name q).rows.length c13]) rfl rfl (fun w' h' j v hv => by rw [Nat.zero_add]; exact (h'.blk (by simp) y13).cell hv) rfl rfl rfl rfl rfl rfl ?_
    refine x_loadA (vs := [.slice a14 (totalQ name q).rows.length c14]) rfl rfl (fun w' h' j v hv => by rw [Nat.zero_add]; exact (h'.blk (by simp) y14).cell hv) rfl rfl rfl rfl rfl rfl ?_
    refine x_loadA (vs := [.slice a15 (QT.n2 18 0 [] (freeQ name q) (everyQ name q)).rows.length c15]) rfl rfl (fun w' h' j v hv => by rw [Nat.zero_add]; exact (h'.blk (by simp) y15).cell hv) rfl rfl rfl rfl rfl rfl ?_
    refine x_loadA (vs := [.slice a16 (neitherQ name q).rows.length c16]) rfl rfl (fun w' h' j v hv => by rw [Nat.zero_add]; exact (h'.blk (by simp) y16).cell hv) rfl rfl rfl rfl rfl rfl ?_
    (repeat refine xn ?_)
    refine t_dagL (fuel := 1) [(7, kidsS [(QT.n2 18 0 [] (freeQ name q) (everyQ name q)).rows]), (8, treeS (bothQ name q).rows), (10, kidsS ((eightQ name q).map (·.rows)))] [7, 8, 10] [2, 6, 124, 125, 126, 127, 128, 129, 130, 133] [ptr b2, ptr b6, .agg ⟨[.slice a9 (countQ name q).rows.length c9]⟩, .agg ⟨[.slice a10 (leastQ name q).rows.length c10]⟩, .agg ⟨[.slice a11 (mostQ name q).rows.length c11]⟩, .agg ⟨[.slice a12 (refQ name q).rows.length c12]⟩, .agg ⟨[.slice a13 (everyQ name q).rows.length c13]⟩, .agg ⟨[.slice a14 (totalQ name q).rows.length c14]⟩, .agg ⟨[.slice a15 (QT.n2 18 0 [] (freeQ name q) (everyQ name q)).rows.length c15]⟩, .agg ⟨[.slice a16 (neitherQ name q).rows.length c16]⟩] 11 (by kernel_rfl) (fun w' h => kk.trans h) rfl ?_ ?_
    · refine d_cons (d_op rfl fun e1 w1 hk hb hj => ?_) (d_cons (d_op rfl fun e1 w1 hk hb hj => ?_) (d_cons (d_op rfl fun e1 w1 hk hb hj => ?_) (d_nil)))
      · have hk := kk.trans hk
        rw [← over_eq hb]
        refine o_buildSliceN [kqV ⟨a15, c15, (QT.n2 18 0 [] (freeQ name q) (everyQ name q)).rows⟩] rfl rfl rfl (by kernel_rfl) rfl rfl rfl rfl ?_
        intro bs ws hbs hus
        exact o_nil ⟨hus.kp [] (.inr (by omega)), _, rfl, KidsA.one hus.blk ((r15.kp hk (by simp)).kp (hus.kp [] (.inr (by omega))) (by simp))⟩
      · have h3 : KidsA w1 (e1 131) [(QT.n2 18 0 [] (freeQ name q) (everyQ name q)).rows] := hj 7 rfl
        rw [← over_eq hb]
        refine o_call (over_n1 17 [] (QT.n2 18 0 [] (freeQ name q) (everyQ name q)) h3 (by simp) (by rw [len14]; omega)) rfl rfl rfl ?_
        rintro v wa ⟨hT, ka⟩
        exact o_nil ⟨ka, _, rfl, hT⟩
      · have ht : TreeA w1 (e1 132) (bothQ name q).rows := hj 8 rfl
        have hk := kk.trans hk
        obtain ⟨at_, ct, ht, rt⟩ := ht
        rw [← over_eq hb, ← over_eq (ss := [132]) (show [132].map e1 = [_] from congrArg (fun a => [a]) ht)]
        refine o_buildSliceN [kqV ⟨a9, c9, (countQ name q).rows⟩, kqV ⟨a10, c10, (leastQ name q).rows⟩, kqV ⟨a11, c11, (mostQ name q).rows⟩, kqV ⟨a12, c12, (refQ name q).rows⟩, kqV ⟨a13, c13, (everyQ name q).rows⟩, kqV ⟨a14, c14, (totalQ name q).rows⟩, kqV ⟨at_, ct, (bothQ name q).rows⟩, kqV ⟨a16, c16, (neitherQ name q).rows⟩] rfl rfl rfl (by kernel_rfl) rfl rfl rfl rfl ?_
        intro bs ws hbs hus
        have ks := hus.kp [] (.inr (by omega))
        have hk := hk.trans ks
        refine o_nil ⟨ks, _, rfl, KidsA.blk (ks := ([⟨a9, c9, (countQ name q).rows⟩, ⟨a10, c10, (leastQ name q).rows⟩, ⟨a11, c11, (mostQ name q).rows⟩, ⟨a12, c12, (refQ name q).rows⟩, ⟨a13, c13, (everyQ name q).rows⟩, ⟨a14, c14, (totalQ name q).rows⟩, ⟨at_, ct, (bothQ name q).rows⟩, ⟨a16, c16, (neitherQ name q).rows⟩] : List KQ)) hus.blk fun k hm => ?_⟩
        simp only [List.mem_cons, List.not_mem_nil, or_false] at hm
        rcases hm with rfl | rfl | rfl | rfl | rfl | rfl | rfl | rfl
        · exact r9.kp hk (by simp)
        · exact r10.kp hk (by simp)
        · exact r11.kp hk (by simp)
        · exact r12.kp hk (by simp)
        · exact r13.kp hk (by simp)
        · exact r14.kp hk (by simp)
        · exact rt.kp ks (by simp)
        · exact r16.kp hk (by simp)
    · intro e1 w1 hk hb hj
      have hk1 := kk.trans hk
      have ht : KidsA w1 (e1 134) ((eightQ name q).map (·.rows)) := hj 10 (by omega)
      obtain ⟨ks, kad, kcap, hv, hK, hR, hl⟩ := ht
      rw [← over_eq hb, ← over_eq (ss := [134]) (show [134].map e1 = [_] from congrArg (fun a => [a]) hv)]
      refine t_one 11 (by kernel_rfl) rfl ?_
      (repeat first|refine zo rfl rfl trivial ?_|refine zn ?_)
      exact ⟨.inl (by kernel_rfl), t_end (by kernel_rfl) ⟨_, rfl, hk1, ks, kad, kcap, rfl, hK, hR, hl⟩⟩
  rintro v8 e w36 ⟨kr, hv8⟩
  have k0 := k0.trans kr
  have g2 := kr.blk (by simp) g2
  have g6 := kr.blk (by simp) g6
  clear kr
  obtain ⟨ks, kad, kcap, rfl, hK, hR, hks⟩ := hv8
  have hkl : ks.length = 8 := by have := congrArg List.length hks; simpa [eightQ] using this
  obtain ⟨kb, koff, rfl, hkb, hcell⟩ := hK.at_ (by simp; omega)
  -- the answers
  (repeat first|refine zA ?_|refine zB ?_|refine zg ?_|refine zo rfl rfl trivial ?_|refine zn ?_|refine zb ?_)
  refine r_loop (α := Nat × Option Addr × Nat) [2, 6, 17, 18, 19] (fun y => [ptr b2, ptr b6, .slice (some ⟨kb, koff, none⟩) ks.length kcap, .slice y.2.1 y.1 y.2.2, I y.1]) (fun y W => y.1 ≤ 8 ∧ Kp [] w36 W ∧ (∀ b, b ∈ blkOf y.2.1 → w36.heap.size ≤ b) ∧ OwnS W 3 1 y.2.1 y.1 y.2.2 (([one, one, one, one, four, four, !(one && four), !(one && four)].take y.1).map fun b => I (trI b))) (fun y => 8 - y.1) (0, none, 0) rfl ⟨by omega, Kp.refl _ _, by simp [blkOf], ownS_nil _ _ _⟩ ?_
  · rintro ⟨i, iad, icap⟩ e W ⟨hi, kW, hnew, ho⟩
    dsimp only at hi ho hnew ⊢
    (repeat first|refine zA ?_|refine zB ?_|refine zg ?_|refine zo rfl rfl trivial ?_|refine zn ?_)
    refine r_if rfl (fun hc => ?_) (fun hc => ?_)
    · have hi8 : i < 8 := by omega
      obtain ⟨k, hkx⟩ : ∃ k, ks[i]? = some k := ⟨_, List.getElem?_eq_getElem (by omega)⟩
      obtain ⟨T, hT, hTk⟩ : ∃ T, (eightQ name q)[i]? = some T ∧ T.rows = k.l := by
        have h1 : (ks.map (·.l))[i]? = some k.l := by rw [List.getElem?_map, hkx]; rfl
        rw [hks, List.getElem?_map] at h1
        cases hT : (eightQ name q)[i]? with
        | none => rw [hT] at h1; cases h1
        | some T => rw [hT] at h1; exact ⟨T, rfl, Option.some.inj h1⟩
      have hRk := (hR k (List.mem_of_getElem? hkx))
      have hcell2 := hcell i (kqV k) (by rw [List.getElem?_map, hkx]; rfl)
      have hdich := height i T hT
      rw [hTk] at hdich
      (repeat first|refine zC ?_|refine zb ?_|refine zk ?_)
      refine r_seq ?_
      refine r_any (fun w' => Kp [] W w') 7 follows_mixed (by kernel_rfl) ?_
      have kk := (Sm.drew W).kp []
      generalize ({ W with drawn := W.drawn + 1 } : World) = wd at kk ⊢
      refine t_seg [0, 1, 2, 3, 4] 2 (by kernel_rfl) (by kernel_rfl) (by kernel_rfl) kk ?_
      try dsimp only [List.map_cons, List.map_nil]
      (repeat refine xo rfl rfl (by first|exact trivial|(simp only[AllP];omega)) ?_)
      refine x_loadA (vs := [kqV k]) rfl rfl (fun w' h' j v hv => ?_) rfl rfl rfl rfl rfl rfl ?_
      · have hj : j = 0 := by
          rcases j with _ | j
          · rfl
          · simp at hv
        subst hj
        cases hv
        rw [Nat.add_zero, ← hcell2]
        exact World.cell?_of_block ((kW.trans h').at_ kb hkb (by simp))
      refine x_loadA (vs := x.C) rfl rfl (fun w' h' j v hv => by rw [Nat.zero_add]; exact (h'.blk (by simp) (kW.blk (by simp) g2)).cell hv) rfl rfl rfl rfl rfl rfl ?_
      (repeat refine xn ?_)
      refine t_one 5 (by kernel_rfl) rfl ?_
      have kd := kW.trans kk
      refine o_call (truthX_ret (l := k.l) (hA.kp (k0.trans kd) (by simp)) (hRk.kp kd (by simp)) (hx.kp (k0.trans kd))) rfl rfl rfl ?_
      rintro v w3 ⟨rfl, k3⟩
      have kd3 := kk.trans k3
      refine o_nil ⟨.inr kd3, ?_⟩
      refine t_one 6 (by kernel_rfl) rfl ?_
      (repeat first|refine zo rfl rfl trivial ?_|refine zn ?_)
      refine ⟨.inl (by kernel_rfl), t_end (by kernel_rfl) ?_⟩
      by_cases h2 : truthM k.l x.s x.E = 2
      · rw [h2]
        (repeat first|refine zA ?_|refine zB ?_|refine zg ?_|refine zo rfl rfl trivial ?_|refine zn ?_|refine zr ?_|refine zt rfl ?_)
        exact ⟨_, rfl, rfl, (k0.trans kW).trans kd3⟩
      have h3 := hdich.resolve_left h2
      (repeat first|refine zA ?_|refine zB ?_|refine zg ?_|refine zo rfl rfl trivial ?_|refine zn ?_)
      refine r_no rfl (decide_eq_false h2) ?_
      (repeat first|refine zg ?_|refine zo rfl rfl trivial ?_|refine zk ?_)
      refine o_buildSlice [I (truthM k.l x.s x.E)] rfl (by simp [Value.oneCell']) rfl (by decide) (by decide) rfl rfl rfl rfl rfl ?_
      intro b4 w4 hb4 hu4
      have k4 : Kp [] w3 w4 := hu4.kp [] (.inr (by omega))
      have k34 := kd3.trans k4
      refine o_append1 rfl rfl (ho.kp k34 (by simp)) hu4.blk rfl rfl rfl rfl (by simp only [maxLen]; omega) (by omega) rfl rfl ?_
      intro ad5 cap5 w5 ho5 k5 hn5
      have hsz := (kW.trans k34).size
      (repeat first|refine zg ?_|refine zo rfl rfl (by first|exact trivial|(simp only[AllP];omega)) ?_|refine zn ?_)
      refine ⟨(i + 1, ad5, cap5), rfl, ⟨by dsimp only; omega, (kW.trans k34).since k5 hnew, fun b hb => ?_, ?_⟩, by dsimp only; omega⟩
      · rcases hn5 b hb with h | h
        · exact hnew b h
        · omega
      · dsimp only
        have e1 : ([one, one, one, one, four, four, !(one && four), !(one && four)].take (i + 1)).map (fun b => I (trI b)) = ([one, one, one, one, four, four, !(one && four), !(one && four)].take i).map (fun b => I (trI b)) ++ [I (truthM k.l x.s x.E)] := by
          rw [h3, List.take_add_one, List.map_append]
          congr 1
          rw [List.getD_eq_getElem?_getD]
          obtain ⟨c, hc⟩ : ∃ c, ([one, one, one, one, four, four, !(one && four), !(one && four)] : List Bool)[i]? = some c := ⟨_, List.getElem?_eq_getElem (by simpa using hi8)⟩
          rw [hc]; rfl
        rw [e1]; exact ho5
    · obtain rfl : i = 8 := by omega
      have k0 := k0.trans kW
      have g6 := kW.blk (by simp) g6
      obtain ⟨_, ho⟩ := ho
      cases iad with
      | none => exact absurd ho.1 (by omega)
      | some iad =>
        obtain ⟨bo, oo, sp⟩ := iad
        obtain ⟨h1, h2, h3, h4, junk, g9, _⟩ := ho
        dsimp only at h1 h2 g9
        subst h1
        subst h2
        (repeat first|refine zA ?_|refine zB ?_|refine zg ?_|refine zo rfl rfl trivial ?_|refine zn ?_|refine ze rfl ?_)
        refine o_load rfl g6 (v := .bool r.truth) rfl rfl rfl rfl rfl ?_
        rw [hone]
        cases one
        all_goals cases four
        · have g9 : Blk W bo ([I 0, I 0, I 0, I 0, I 0, I 0, I 1, I 1] ++ junk) 3 := g9
          (repeat first|refine zn ?_|refine zk ?_|refine zf rfl ?_)
          refine r_seq ?_
          refine r_quietS follows_mixed (by kernel_rfl) ?_
          (repeat first|refine yo rfl rfl (by first|exact trivial|(simp only[AllP];omega)) ?_|refine yn ?_|refine q_know _ _ (some true) rfl rfl rfl ?_|refine q_load rfl (fun _ hs => (Sm.blk hs g9).cell rfl) rfl rfl rfl rfl ?_)
          intro w' hs
          (repeat refine zr ?_)
          exact ⟨_, rfl, rfl, k0.trans (hs.kp [])⟩
        · have g9 : Blk W bo ([I 0, I 0, I 0, I 0, I 1, I 1, I 1, I 1] ++ junk) 3 := g9
          (repeat first|refine zn ?_|refine zk ?_|refine zf rfl ?_)
          refine r_seq ?_
          refine r_quietS follows_mixed (by kernel_rfl) ?_
          (repeat first|refine yo rfl rfl (by first|exact trivial|(simp only[AllP];omega)) ?_|refine yn ?_|refine q_know _ _ (some true) rfl rfl rfl ?_|refine q_load rfl (fun _ hs => (Sm.blk hs g9).cell rfl) rfl rfl rfl rfl ?_)
          intro w' hs
          (repeat refine zr ?_)
          exact ⟨_, rfl, rfl, k0.trans (hs.kp [])⟩
        · have g9 : Blk W bo ([I 1, I 1, I 1, I 1, I 0, I 0, I 1, I 1] ++ junk) 3 := g9
          (repeat first|refine zg ?_|refine zo rfl rfl trivial ?_|refine zn ?_|refine zt rfl ?_)
          refine r_seq ?_
          refine r_quietS follows_mixed (by kernel_rfl) ?_
          (repeat first|refine yo rfl rfl (by first|exact trivial|(simp only[AllP];omega)) ?_|refine yn ?_|refine q_know _ _ (some true) rfl rfl rfl ?_|refine q_load rfl (fun _ hs => (Sm.blk hs g9).cell rfl) rfl rfl rfl rfl ?_)
          intro w' hs
          (repeat refine zr ?_)
          exact ⟨_, rfl, rfl, k0.trans (hs.kp [])⟩
        · have g9 : Blk W bo ([I 1, I 1, I 1, I 1, I 1, I 1, I 0, I 0] ++ junk) 3 := g9
          (repeat first|refine zg ?_|refine zo rfl rfl trivial ?_|refine zn ?_|refine zt rfl ?_)
          refine r_seq ?_
          refine r_quietS follows_mixed (by kernel_rfl) ?_
          (repeat first|refine yo rfl rfl (by first|exact trivial|(simp only[AllP];omega)) ?_|refine yn ?_|refine q_know _ _ (some true) rfl rfl rfl ?_|refine q_load rfl (fun _ hs => (Sm.blk hs g9).cell rfl) rfl rfl rfl rfl ?_)
          intro w' hs
          (repeat refine zr ?_)
          exact ⟨_, rfl, rfl, k0.trans (hs.kp [])⟩
theorem queryAlike_walk {x : AG} {a : ByteArray} {u : Nat} (hA : AscW w) (hP : PowQ w) (hx : ∀ B, u ≤ B → B ≤ 1048576 → AG.Ok w x ∧ x.l.length * 5 ≤ 1048576) (hu : u ≤ 1048576) (hn : a.data.toList.length ≤ 1048576) : Calls Tryz.prog 5 #[.agg ⟨x.C⟩, .string a] w (fun e w' => e = .returned (.bool true) ∧ RowKit.Below w.heap.size w w') :=
  (QueryAlike_ret (name := a.data.toList) hA hP (hx 1048576 hu (Nat.le_refl _)).1 (hx 1048576 hu (Nat.le_refl _)).2 hn).calls
end Go.Vc
