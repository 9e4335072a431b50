/- abreastref20: Happens, New. -/
import Derived.Test.YtkgngbpkiklckaaGreatDoorQClQRaces46
import Derived.Test.YtkgngbpkiklckaaGreatDoorQClQRaces44
import Derived.Test.YtkgngbpkiklckaaGreatDoorQClQRaces12
namespace Go.Vc
open Go Go.Proofs
set_option maxRecDepth 10000
variable {w : World}
section
variable {g : RrG} {E : List Ev} {R : List Int}
end
set_option maxHeartbeats 12800000 in
theorem r20New_ret {s : Shp} {l : List Ev} {pad ead : Option Addr} {cap ecap : Nat} (hr : ReadS w pad (s.pa.map I)) (hpl : s.pa.length ≤ 1048576) (he : ReadS w ead (evsC l)) (hl : l.length ≤ 1048576) :
    Ret Tryz.prog 21 [.agg ⟨shC s pad cap⟩, .slice ead l.length ecap] w (fun v w' =>
      (∃ e, badO s l e ∧ v = .tuple #[.pointer none, I e] ∧ Kp [] w w') ∨
      (shapeB s = true ∧ l.length ≤ 2048 ∧ okTo s l l.length ∧ ∃ g, v = .tuple #[ptr g.p, I 0] ∧ RrAt w' g l (rnds s l l.length) ∧ Kp [] w w' ∧ RrFar w.heap.size w' g l (rnds s l l.length))) := by
  have hel := evsC_len l
  refine enter Tryz.call21 Tryz.func21 rfl rfl rfl rfl ?_
  (repeat first|refine zA ?_|refine zg ?_)
  refine o_box rfl rfl rfl ?_
  intro bx w1 hbx hu1
  have hB1 : Blk w1 bx (shC s pad cap) 27 := hu1.blk
  have k1 : Kp [] w w1 := hu1.kp [] (.inr (by omega))
  (repeat first|refine zA ?_|refine zB ?_|refine zg ?_|refine zo rfl rfl trivial ?_|refine zn ?_)
  refine o_loadA (vs := shC s pad cap) rfl (fun j v hv => ?_) rfl rfl rfl rfl rfl rfl ?_
  · rw [Nat.zero_add]; exact hB1.cell hv
  refine o_call (rShape_ret (hr.kp k1 (by simp)) hpl) rfl rfl rfl ?_
  rintro v w1' ⟨rfl, k1'⟩
  have hB1' := k1'.blk (by simp) hB1
  have k01 := k1.trans k1'
  cases hs : shapeB s with
  | false =>
    simp only [Bool.false_eq_true, if_false]
    (repeat first|refine zA ?_|refine zg ?_|refine zo rfl rfl trivial ?_|refine zn ?_|refine zr ?_|refine zt rfl ?_)
    exact ⟨_, rfl, .inl ⟨5, .inl ⟨rfl, hs⟩, rfl, k01⟩⟩
  | true =>
  simp only [if_true]
  (repeat first|refine zA ?_|refine zB ?_|refine zg ?_|refine zo rfl rfl trivial ?_|refine zn ?_|refine zk ?_|refine zf rfl ?_)
  refine r_if rfl (fun hlong => ?_) (fun hlong => ?_)
  · (repeat first|refine zA ?_|refine zg ?_|refine zo rfl rfl trivial ?_|refine zn ?_|refine zr ?_)
    exact ⟨_, rfl, .inl ⟨3, .inr (.inl ⟨rfl, hs, by omega⟩), rfl, k01⟩⟩
  have hn : l.length ≤ 2048 := by omega
  (repeat first|refine zA ?_|refine zg ?_|refine zk ?_)
  refine o_loadA (vs := shC s pad cap) rfl (fun j v hv => ?_) rfl rfl rfl rfl rfl rfl ?_
  · rw [Nat.zero_add]; exact hB1'.cell hv
  refine o_call (rNew_ret (hr.kp k01 (by simp)) hpl) rfl rfl rfl ?_
  rintro v w2 (⟨hs2, _⟩ | ⟨_, gc, rfl, hck2, k2, hn2⟩)
  · rw [hs] at hs2; cases hs2
  have k02 := k01.trans k2
  (repeat first|refine zA ?_|refine zg ?_|refine zo rfl rfl trivial ?_|refine zn ?_)
  refine o_build [.slice none 0 0, .slice none 0 0, .slice none 0 0] rfl rfl rfl rfl rfl rfl rfl ?_
  refine o_box rfl rfl rfl ?_
  intro op w4 hop hu4
  have k4 : Kp [] w2 w4 := hu4.kp [] (.inr (by omega))
  have hO4 : Blk w4 op [.slice none 0 0, .slice none 0 0, .slice none 0 0] 128 := hu4.blk
  have k04 := k02.trans k4
  have hckF : ∀ b, b ∈ gc.F → b < w2.heap.size := hck2.toRM.lt
  have z2 := k02.size
  have z4 := hO4.lt
  have hck4 := hck2.kp0 k4
  (repeat first|refine zA ?_|refine zB ?_|refine zg ?_|refine zo rfl rfl trivial ?_|refine zn ?_|refine zb ?_)
  refine r_loop (α := Nat) [1, 6, 8, 9] (fun i => [.slice ead l.length ecap, ptr gc.p, ptr op, I i])
    (fun i wc => i ≤ l.length ∧ okTo s l i ∧ RAt wc gc s (runC s l i) ∧ Kp [] w wc ∧ w4.heap.size ≤ wc.heap.size ∧ ∃ xad xcap rad rcap, Blk wc op [.slice xad i xcap, .slice rad i rcap, .slice none 0 0] 128 ∧ OwnS wc 86 3 xad i xcap (evsC (l.take i)) ∧ OwnS wc 3 1 rad i rcap ((rnds s l i).map I) ∧ (∀ b, b ∈ blkOf xad → w4.heap.size ≤ b ∧ b ∉ blkOf rad) ∧ ∀ b, b ∈ blkOf rad → w4.heap.size ≤ b)
    (fun i => l.length - i) 0 rfl ⟨by omega, fun j x hj => by omega, hck4, k04, Nat.le_refl _, none, 0, none, 0, hO4, ownS_nil _ _ _, ownS_nil _ _ _, by simp [blkOf], by simp [blkOf]⟩ ?_
  rintro i e wc ⟨hi, hok, hck, kc, hzc, xad, xcap, rad, rcap, hO, hX, hR, hXn, hRn⟩
  (repeat first|refine zA ?_|refine zB ?_|refine zg ?_|refine zo rfl rfl trivial ?_|refine zn ?_)
  refine r_if rfl (fun hc => ?_) (fun hc => ?_)
  · have hlt : i < l.length := by omega
    obtain ⟨x, hx⟩ : ∃ x, l[i]? = some x := ⟨_, List.getElem?_eq_getElem hlt⟩
    obtain ⟨b0, off0, rfl, hb0, hcell⟩ := he.at_ (by rw [hel]; omega)
    have hwc := hO.lt
    (repeat first|refine zA ?_|refine zC ?_|refine zg ?_|refine zo rfl rfl (by first|exact trivial|(simp only[AllP];omega)) ?_|refine zb ?_|refine zk ?_)
    refine o_loadA (b := b0) (off := off0 + i * 3) (vs := evC x) rfl (fun j v hv => ?_) rfl rfl rfl rfl rfl rfl ?_
    · rw [Nat.add_assoc, ← hcell _ _ (evsC_get hx j v hv)]
      exact World.cell?_of_block (kc.at_ b0 hb0 (by simp))
    refine o_alloc rfl rfl rfl rfl ?_
    intro be w5 hbe hu5
    refine o_storeA (cs := evC x) rfl hu5.blk (Nat.le_refl _) rfl (by simp [Value.oneCell']) rfl rfl rfl rfl ?_
    intro w6 hu6
    have k6 : Kp [] wc w6 := (hu5.kp [] (.inr (by omega))).since (hu6.kp [be] (.inl (by simp))) (by simp; omega)
    have hBe : Blk w6 be (evC x) 86 := hu6.blk
    have hbe6 := hBe.lt
    have hck6 := hck.kp0 k6
    have hO6 := k6.blk (by simp) hO
    (repeat first|refine zA ?_|refine zB ?_|refine zg ?_|refine zo rfl rfl trivial ?_|refine zn ?_)
    refine o_loadA (vs := evC x) rfl (fun j v hv => by rw [Nat.zero_add]; exact hBe.cell hv) rfl rfl rfl rfl rfl rfl ?_
    refine o_call (rCan_ret hck6 x) rfl rfl rfl ?_
    rintro v w7 ⟨rfl, k7⟩
    have hBe7 := k7.blk (by simp) hBe
    have hck7 := hck6.kp0 k7
    (repeat refine zo rfl rfl trivial ?_)
    have hn7 := runC_n (s := s) (l := l) i hi
    cases hcan : canB s (runC s l i) x with
    | false =>
      (repeat first|refine zA ?_|refine zB ?_|refine zg ?_|refine zo rfl rfl trivial ?_|refine zn ?_|refine zk ?_|refine zU rfl rfl rfl ?_|refine zf rfl ?_)
      refine o_loadA (vs := evC x) rfl (fun j v hv => by rw [Nat.zero_add]; exact hBe7.cell hv) rfl rfl rfl rfl rfl rfl ?_
      refine o_call (rCan_ret hck7 x) rfl rfl rfl ?_
      rintro v w8 ⟨rfl, k8⟩
      have hBe8 := k8.blk (by simp) hBe7
      have hck8 := hck7.kp0 k8
      rw [hcan]
      (repeat first|refine zA ?_|refine zB ?_|refine zg ?_|refine zo rfl rfl trivial ?_|refine zn ?_|refine zk ?_|refine zU rfl rfl rfl ?_|refine zf rfl ?_)
      refine o_loadA (vs := evC x) rfl (fun j v hv => by rw [Nat.zero_add]; exact hBe8.cell hv) rfl rfl rfl rfl rfl rfl ?_
      refine o_call (rNext_ret hck8 x (by omega)) rfl rfl rfl ?_
      rintro v w9 (⟨hcan2, _⟩ | ⟨_, rfl, k9⟩)
      · rw [hcan] at hcan2; cases hcan2
      (repeat first|refine zA ?_|refine zg ?_|refine zo rfl rfl trivial ?_|refine zn ?_|refine zr ?_|refine zt rfl ?_)
      refine ⟨_, rfl, .inl ⟨6, .inr (.inr ⟨rfl, hs, hn, fun hall => ?_⟩), rfl, (((kc.trans k6).trans k7).trans k8).trans k9⟩⟩
      have := hall i x hlt hx
      rw [hcan] at this; cases this
    | true =>
    (repeat first|refine zo rfl rfl trivial ?_|refine zT rfl rfl rfl ?_)
    refine o_load (b := be) (off := 0) (v := I x.k) rfl hBe7 rfl rfl rfl rfl rfl ?_
    (repeat first|refine zo rfl rfl trivial ?_|refine zn ?_)
    refine r_cut (α := Int) [1, 6, 8, 9, 10, 11] (fun r => [.slice (some ⟨b0, off0, none⟩) l.length ecap, ptr gc.p, ptr op, I i, ptr be, I r]) (fun r w' => r = (if x.k = 9 then (opIn (runC s l i) x.o).1 else 0) ∧ Kp [] w7 w') ?_ ?_
    · refine r_if rfl (fun h9 => ?_) (fun h9 => ?_)
      · (repeat first|refine zA ?_|refine zg ?_|refine zo rfl rfl trivial ?_)
        refine o_load (b := be) (off := 2) (v := I x.o) rfl hBe7 rfl rfl rfl rfl rfl ?_
        refine o_call (rRound_ret hck7 x.o) rfl rfl rfl ?_
        rintro v w8 ⟨rfl, k8⟩
        (repeat refine zo rfl rfl trivial ?_)
        refine o_alloc rfl rfl rfl rfl ?_
        intro bo w9 hbo hu9
        refine o_storeA (cs := opC2 (opIn (runC s l i) x.o)) rfl hu9.blk (Nat.le_refl _) rfl (by simp [Value.oneCell']) rfl rfl rfl rfl ?_
        intro w10 hu10
        have k10 : Kp [] w8 w10 := (hu9.kp [] (.inr (by omega))).since (hu10.kp [bo] (.inl (by simp))) (by simp; omega)
        have hBo : Blk w10 bo (opC2 (opIn (runC s l i) x.o)) 131 := hu10.blk
        (repeat first|refine zg ?_|refine zo rfl rfl trivial ?_|refine zn ?_)
        refine o_load (b := bo) (off := 0) (v := I (opIn (runC s l i) x.o).1) rfl hBo rfl rfl rfl rfl rfl ?_
        (repeat first|refine zo rfl rfl trivial ?_|refine zn ?_)
        exact ⟨_, rfl, by rw [if_pos h9], k8.trans k10⟩
      · (repeat refine zk ?_)
        exact ⟨0, rfl, by rw [if_neg h9], Kp.refl _ _⟩
    rintro r e w8 ⟨hr8, k8⟩
    have hBe8 := k8.blk (by simp) hBe7
    have hck8 := hck7.kp0 k8
    (repeat first|refine zA ?_|refine zB ?_|refine zg ?_|refine zo rfl rfl trivial ?_)
    refine o_loadA (vs := evC x) rfl (fun j v hv => by rw [Nat.zero_add]; exact hBe8.cell hv) rfl rfl rfl rfl rfl rfl ?_
    refine o_call (rCan_ret hck8 x) rfl rfl rfl ?_
    rintro v w9 ⟨rfl, k9⟩
    have hBe9 := k9.blk (by simp) hBe8
    have hck9 := hck8.kp0 k9
    rw [hcan]
    (repeat first|refine zo rfl rfl trivial ?_|refine zT rfl rfl rfl ?_)
    refine o_load (b := be) (off := 0) (v := I x.k) rfl hBe9 rfl rfl rfl rfl rfl ?_
    (repeat first|refine zo rfl rfl trivial ?_|refine zn ?_)
    refine r_cut (α := Int) [1, 6, 8, 9, 10, 11] (fun r => [.slice (some ⟨b0, off0, none⟩) l.length ecap, ptr gc.p, ptr op, I i, ptr be, I r]) (fun r w' => r = rnd (runC s l i) x ∧ Kp [] w9 w') ?_ ?_
    · refine r_if rfl (fun h10 => ?_) (fun h10 => ?_)
      · (repeat first|refine zA ?_|refine zg ?_|refine zo rfl rfl trivial ?_)
        refine o_load (b := be) (off := 1) (v := I x.t) rfl hBe9 rfl rfl rfl rfl rfl ?_
        refine o_call (rStand_ret hck9 x.t) rfl rfl rfl ?_
        rintro v w10 ⟨rfl, k10⟩
        (repeat refine zo rfl rfl trivial ?_)
        refine o_alloc rfl rfl rfl rfl ?_
        intro bo w11 hbo hu11
        refine o_storeA (cs := stdC (st (runC s l i) x.t)) rfl hu11.blk (Nat.le_refl _) rfl (by simp [Value.oneCell']) rfl rfl rfl rfl ?_
        intro w12 hu12
        have k12 : Kp [] w10 w12 := (hu11.kp [] (.inr (by omega))).since (hu12.kp [bo] (.inl (by simp))) (by simp; omega)
        have hBo : Blk w12 bo (stdC (st (runC s l i) x.t)) 136 := hu12.blk
        (repeat first|refine zg ?_|refine zo rfl rfl trivial ?_|refine zn ?_)
        refine o_load (b := bo) (off := 2) (v := I (st (runC s l i) x.t).ro) rfl hBo rfl rfl rfl rfl rfl ?_
        (repeat first|refine zo rfl rfl trivial ?_|refine zn ?_)
        exact ⟨_, rfl, by unfold rnd; rw [if_pos h10], k10.trans k12⟩
      · (repeat refine zk ?_)
        exact ⟨r, rfl, by unfold rnd; rw [if_neg h10]; exact hr8, Kp.refl _ _⟩
    rintro r2 e w10 ⟨rfl, k10⟩
    have hBe10 := k10.blk (by simp) hBe9
    have hck10 := hck9.kp0 k10
    have k610 := ((k7.trans k8).trans k9).trans k10
    (repeat first|refine zA ?_|refine zB ?_|refine zg ?_|refine zo rfl rfl trivial ?_)
    refine o_loadA (vs := evC x) rfl (fun j v hv => by rw [Nat.zero_add]; exact hBe10.cell hv) rfl rfl rfl rfl rfl rfl ?_
    refine o_call (rNext_ret hck10 x (by omega)) rfl rfl rfl ?_
    rintro v w12 (⟨_, rfl, hck12, k12⟩ | ⟨hcan2, _⟩)
    rotate_left
    · rw [hcan] at hcan2; cases hcan2
    have k12 : Kp gc.F w10 w12 := k12.mono (fun b hb => RG.W_F hb)
    have hopF : op ∉ gc.F := fun hb => by have := hckF op hb; omega
    have hbeF : be ∉ gc.F := fun hb => by have := hckF be hb; omega
    have hO12 := k12.blk hopF (k610.blk (by simp) hO6)
    have hBe12 := k12.blk hbeF hBe10
    have hcn : ∀ b, b ∈ gc.F → w.heap.size ≤ b := fun b hb => by have := hn2 b hb; have := k01.size; omega
    have k12w : Kp [] w w12 := ((kc.trans k6).trans k610).since k12 hcn
    have hX12 : OwnS w12 86 3 xad i xcap (evsC (l.take i)) := ((hX.kp k6 (by simp)).kp k610 (by simp)).kp k12 (fun b hb hb2 => by have := (hXn b hb).1; have := hckF b hb2; omega)
    have hR12 : OwnS w12 3 1 rad i rcap ((rnds s l i).map I) := ((hR.kp k6 (by simp)).kp k610 (by simp)).kp k12 (fun b hb hb2 => by have := hRn b hb; have := hckF b hb2; omega)
    have z12 : w4.heap.size ≤ w12.heap.size := by have := k6.size; have := k610.size; have := k12.size; omega
    (repeat first|refine zo rfl rfl trivial ?_|refine zn ?_|refine zk ?_|refine zf rfl ?_)
    refine r_seq ?_
    refine r_cut (α := Option Addr × Nat) [1, 6, 8, 9, 10, 11] (fun _ => [.slice (some ⟨b0, off0, none⟩) l.length ecap, ptr gc.p, ptr op, I i, ptr be, I (rnd (runC s l i) x)]) (fun y w' => Blk w' op [.slice y.1 (i + 1) y.2, .slice rad i rcap, .slice none 0 0] 128 ∧ OwnS w' 86 3 y.1 (i + 1) y.2 (evsC (l.take (i + 1))) ∧ Kp (op :: blkOf xad) w12 w' ∧ ∀ b, b ∈ blkOf y.1 → b ∈ blkOf xad ∨ w12.heap.size ≤ b) ?_ ?_
    · refine r_mix (fun w' => Kp (blkOf xad) w12 w') [(0, false), (1, false), (2, false), (3, false), (4, false), (5, false), (6, true), (7, true), (8, false), (9, false), (10, true)] follows_mixed (by kernel_rfl) (by kernel_rfl) (by kernel_rfl) ((Sm.drew w12).kp _) ?_
      have kd := (Sm.drew w12).kp (blkOf xad)
      have kd0 := (Sm.drew w12).kp []
      generalize ({ w12 with drawn := w12.drawn + 1 } : World) = wd at kd kd0 ⊢
      have hopx : op ∉ blkOf xad := fun hb => by have := (hXn _ hb).1; omega
      have hbex : be ∉ blkOf xad := fun hb => by have := hX.lt be hb; omega
      (repeat refine xo rfl rfl trivial ?_)
      refine x_load (v := .slice xad i xcap) rfl rfl (fun w' h' => (h'.blk hopx hO12).cell rfl) rfl rfl rfl rfl ?_
      refine x_loadA (vs := evC x) rfl rfl (fun w' h' j v hv => by rw [Nat.zero_add]; exact (h'.blk hbex hBe12).cell hv) rfl rfl rfl rfl rfl rfl ?_
      refine x_act rfl ?_
      refine o_buildSliceN (evC x) rfl rfl rfl (by kernel_rfl) rfl rfl rfl rfl ?_
      intro b13 w13 hb13 hu13
      have k13 : Kp [] wd w13 := hu13.kp [] (.inr (by omega))
      have kd13 := kd.trans (k13.mono (by simp))
      refine o_nil ⟨.inr kd13, ?_⟩
      refine x_act rfl ?_
      refine o_append (evC x) rfl rfl ((hX12.kp kd0 (by simp)).kp k13 (by simp)) (fun j v hv => by rw [addr_lit, Nat.zero_add]; exact hu13.blk.cell hv) rfl rfl rfl (by omega) rfl (by omega) (by simp [Value.oneCell']) (by simp only [maxLen]; omega) (by omega) rfl rfl ?_
      intro ad14 cap14 w14 ho14 k14 hn14
      refine o_nil ⟨.inr (kd13.trans k14), ?_⟩
      (repeat refine xo rfl rfl trivial ?_)
      refine x_act rfl ?_
      have hO14 := (kd13.trans k14).blk hopx hO12
      refine o_store (b := op) (off := 0) (v := .slice ad14 (i + 1) cap14) (c := none) rfl hO14 (by simp) rfl rfl rfl rfl rfl rfl ?_
      intro w15 hu15
      refine o_nil ⟨.inl (by kernel_rfl), ?_⟩
      (repeat refine xn ?_)
      have hadn : ∀ b, b ∈ blkOf ad14 → b ∈ blkOf xad ∨ w12.heap.size ≤ b := fun b hb => by
        rcases hn14 b hb with q | q
        · exact .inl q
        · right; have := kd.size; have := k13.size; omega
      have hopa : op ∉ blkOf ad14 := fun hb => by
        rcases hadn op hb with q | q
        · exact hopx q
        · omega
      have htk : l.take (i + 1) = l.take i ++ [x] := by rw [List.take_add_one, hx]; rfl
      refine ⟨(ad14, cap14), rfl, hu15.blk, ?_, ?_, hadn⟩
      · have e1 : evsC (l.take (i + 1)) = evsC (l.take i) ++ evC x := by rw [htk]; unfold evsC; rw [List.flatMap_append]; simp
        rw [e1]
        exact ho14.upd hu15 hopa
      · exact ((kd13.trans k14).mono (fun b hb => by simp [hb])).trans (hu15.kp _ (.inl (by simp)))
    rintro ⟨xad2, xcap2⟩ e w15 ⟨hO15, hX15, k15, hx15⟩
    dsimp only at hO15 hX15 hx15
    have hXn2 : ∀ b, b ∈ blkOf xad2 → w4.heap.size ≤ b ∧ b ∉ blkOf rad := fun b hb => by
      rcases hx15 b hb with q | q
      · exact hXn b q
      · exact ⟨by omega, fun hb2 => by have := hR12.lt b hb2; omega⟩
    have hR15 : OwnS w15 3 1 rad i rcap ((rnds s l i).map I) := hR12.kp k15 (fun b hb hb2 => by
      rcases List.mem_cons.1 hb2 with rfl | q
      · have := hRn _ hb; omega
      · exact (hXn b q).2 hb)
    have hck15 := hck12.kp k15 (fun b hb hb2 => by
      rcases List.mem_cons.1 hb2 with rfl | q
      · exact hopF hb
      · have := (hXn b q).1; have := hckF b hb; omega)
    have kw15 : Kp [] w w15 := k12w.since k15 (fun b hb => by
      have := kc.size
      rcases List.mem_cons.1 hb with rfl | q
      · omega
      · have := (hXn b q).1; have := k04.size; omega)
    (repeat first|refine zg ?_|refine zo rfl rfl trivial ?_)
    refine o_load (v := .slice rad i rcap) rfl hO15 rfl rfl rfl rfl rfl ?_
    (repeat refine zo rfl rfl trivial ?_)
    refine o_buildSlice [I (rnd (runC s l i) x)] rfl (by simp [Value.oneCell']) rfl (by decide) (by decide) rfl rfl rfl rfl rfl ?_
    intro b16 w16 hb16 hu16
    have k16 : Kp [] w15 w16 := hu16.kp [] (.inr (by omega))
    refine o_append1 rfl rfl (hR15.kp k16 (by simp)) hu16.blk rfl rfl rfl rfl (by simp only [maxLen]; omega) (by omega) rfl rfl ?_
    intro ad17 cap17 w17 ho17 k17 hn17
    have hO17 := k17.blk (fun hb => by have := hRn op hb; omega) (k16.blk (by simp) hO15)
    (repeat refine zo rfl rfl trivial ?_)
    refine o_store (b := op) (off := 1) (v := .slice ad17 (i + 1) cap17) (c := none) rfl hO17 (by simp) rfl rfl rfl rfl rfl rfl ?_
    intro w18 hu18
    have k18 : Kp [op] w17 w18 := hu18.kp _ (.inl (by simp))
    have z15 := k15.size
    have z16 := k16.size
    have hn17' : ∀ b, b ∈ blkOf ad17 → w4.heap.size ≤ b := fun b hb => by
      rcases hn17 b hb with q | q
      · exact hRn b q
      · omega
    (repeat first|refine zg ?_|refine zo rfl rfl (by first|exact trivial|(simp only[AllP];omega)) ?_|refine zn ?_)
    refine ⟨i + 1, rfl, ⟨by omega, fun j y hj hy => ?_, ?_, ?_, ?_, xad2, xcap2, ad17, cap17, hu18.blk, ?_, ?_, fun b hb => ⟨(hXn2 b hb).1, fun hb2 => ?_⟩, hn17'⟩, by omega⟩
    · by_cases hji : j = i
      · subst hji; rw [hx] at hy; cases hy; exact hcan
      · exact hok j y (by omega) hy
    · rw [runC_succ hx]
      exact ((hck15.kp0 k16).kp k17 (fun b hb hb2 => by have := hckF b hb; have := hRn b hb2; omega)).kp k18 (fun b hb hb2 => by simp at hb2; subst hb2; exact hopF hb)
    · exact ((kw15.trans k16).since k17 (fun b hb => by have := hRn b hb; have := k04.size; omega)).since k18 (fun b hb => by simp at hb; omega)
    · have := k17.size; have := k18.size; omega
    · exact ((hX15.kp k16 (by simp)).kp k17 (fun b hb => (hXn2 b hb).2)).kp k18 (fun b hb hb2 => by simp at hb2; have := (hXn2 b hb).1; omega)
    · rw [rnds_succ hx, List.map_append]
      exact ho17.kp k18 (fun b hb hb2 => by simp at hb2; have := hn17' b hb; omega)
    · rcases hn17 b hb2 with q | q
      · exact (hXn2 b hb).2 q
      · have := hX15.lt b hb; omega
  · have hin : i = l.length := by omega
    subst hin
    rw [List.take_length] at hX
    have hB : RrB wc ⟨op, xad, xcap, rad, rcap, .slice none 0 0⟩ l (rnds s l l.length) := ⟨by rw [rnds_len]; exact hO, hX.readN, hR.read, rnds_len _ _ _, hn⟩
    have hwc := hO.lt
    (repeat first|refine zA ?_|refine zg ?_|refine zo rfl rfl trivial ?_|refine ze rfl ?_)
    refine o_call (rclose_ret hB (fun b hb => ?_) (fun hb => ?_)) rfl rfl rfl ?_
    · simp only [List.mem_cons, List.mem_append] at hb
      rcases hb with rfl | hb | hb
      · exact hwc
      · exact hX.lt b hb
      · exact hR.lt b hb
    · rcases List.mem_append.1 hb with hb | hb
      · have := (hXn _ hb).1; dsimp only at this; omega
      · have := hRn _ hb; dsimp only at this; omega
    rintro v w5 ⟨rfl, bv, h5, k5, h6⟩
    (repeat first|refine zA ?_|refine zg ?_|refine zo rfl rfl trivial ?_|refine zn ?_|refine zr ?_)
    refine ⟨_, rfl, .inr ⟨trivial, hn, hok, _, rfl, h5, kc.since k5 (fun b hb => by simp at hb; omega), h5.toRrB, fun b hb => ?_, ?_⟩⟩
    · have := k04.size
      simp only [List.mem_cons, List.mem_append] at hb
      rcases hb with q | hb | hb
      · omega
      · have := (hXn b hb).1; omega
      · have := hRn b hb; omega
    · obtain ⟨bb, rb, e1, e2, e3, e4⟩ := h6
      have := kc.size
      exact ⟨bb, rb, e1, e2, by omega, fun k hk => by have := e4 k hk; omega⟩
end Go.Vc
/- abreastref20: Past, Chain. -/
namespace Go.Vc
open Go Go.Proofs
set_option maxRecDepth 10000
variable {w : World}
def il (f : Nat → Int) (n : Nat) : List Value := (List.range n).map fun i => I (f i)
def upI (f : Nat → Int) (k : Nat) (b : Int) (i : Nat) : Int := if i = k then b else f i
def Val (L : Nat → Nat → Prop) (j k : Nat) (x : Int) : Prop := (∃ n, Di L j k n ∧ x = (n : Int)) ∨ ((∀ n, ¬ Di L j k n) ∧ x = 1073741824)
def Part (L : Nat → Nat → Prop) (j k x : Nat) (y : Int) : Prop := (∀ m n, m < x → L k m → Di L j m n → y ≤ (n : Int) + 1) ∧ (y = 1073741824 ∨ ∃ m n, m < x ∧ L k m ∧ Di L j m n ∧ y = (n : Int) + 1)
section
variable {L : Nat → Nat → Prop} {j : Nat}
theorem Part.val {k : Nat} {y : Int} (h : Part L j k (j + 1) y) (hL : ∀ a b, L a b → a < b) (hk : k < j) (hj : j ≤ 4096) : Val L j k y := by
  have hle : ∀ {a n : Nat}, Di L j a n → a + n ≤ j := fun h => h.1.le hL
  have hbelow : ∀ d, Di L j k d → ∃ d' m, d = d' + 1 ∧ L k m ∧ Di L j m d' := fun d hd => by
    cases d with
    | zero => have := hd.1; cases this; omega
    | succ d' => obtain ⟨m, h1, h2⟩ := hd.next; exact ⟨d', m, rfl, h1, h2⟩
  rcases h.2 with hy | ⟨m, n, h1, h2, h3, h4⟩
  · refine .inr ⟨fun d hd => ?_, hy⟩
    obtain ⟨d', m, rfl, hm1, hm2⟩ := hbelow d hd
    have q := hle hm2
    have := h.1 m d' (by omega) hm1 hm2
    omega
  · refine .inl ⟨n + 1, ⟨.succ h2 h3.1, fun d hd hp => ?_⟩, by omega⟩
    obtain ⟨d2, hd2, hdi⟩ := hp.di
    obtain ⟨d', m', rfl, hm1, hm2⟩ := hbelow d2 hdi
    have q := hle hm2
    have := h.1 m' d' (by omega) hm1 hm2
    omega
theorem Part.skip {k x : Nat} {y : Int} (h : Part L j k x y) (hn : ∀ n, L k x → Di L j x n → y ≤ (n : Int) + 1) : Part L j k (x + 1) y := by
  refine ⟨fun m n h1 h2 h3 => ?_, ?_⟩
  · by_cases q : m = x
    · subst q; exact hn n h2 h3
    · exact h.1 m n (by omega) h2 h3
  · rcases h.2 with hy | ⟨m, n, h1, h2, h3, h4⟩
    · exact .inl hy
    · exact .inr ⟨m, n, by omega, h2, h3, h4⟩
theorem Part.take {k x n : Nat} {y : Int} (h : Part L j k x y) (hl : L k x) (hd : Di L j x n) (hlt : (n : Int) + 1 < y) : Part L j k (x + 1) ((n : Int) + 1) := by
  refine ⟨fun m n' h1 h2 h3 => ?_, .inr ⟨x, n, by omega, hl, hd, rfl⟩⟩
  by_cases q : m = x
  · subst q; have := hd.uniq h3; omega
  · have := h.1 m n' (by omega) h2 h3; omega
end
section
variable {g : RrG} {E : List Ev} {R : List Int}
end
end Go.Vc
/- order: an order or none; both answers as one. -/
namespace Go.Vc
open Go Go.Proofs
set_option maxRecDepth 10000
variable {w : World}
def OaV (w : World) (v : Value) (E : List Ev) (R : List Int) : Prop := (v = .pointer none ∧ E = [] ∧ R = []) ∨ ∃ g, v = ptr g.p ∧ OrAt w g E R
def RaV (w : World) (v : Value) (E : List Ev) (R : List Int) : Prop := (v = .pointer none ∧ E = [] ∧ R = []) ∨ ∃ g, v = ptr g.p ∧ RrAt w g E R
theorem OaV.kp0 {w' : World} {v : Value} {E : List Ev} {R : List Int} (h : OaV w v E R) (hk : Kp [] w w') : OaV w' v E R := by
  rcases h with h | ⟨g, h1, h2⟩
  · exact .inl h
  · exact .inr ⟨g, h1, h2.kp0 hk⟩
theorem RaV.kp0 {w' : World} {v : Value} {E : List Ev} {R : List Int} (h : RaV w v E R) (hk : Kp [] w w') : RaV w' v E R := by
  rcases h with h | ⟨g, h1, h2⟩
  · exact .inl h
  · exact .inr ⟨g, h1, h2.kp0 hk⟩
def ChainV (E : List Ev) (R : List Int) (i j : Int) (l : List Nat) : Prop := (befI E R i j = false ∧ l = []) ∨ (befI E R i j = true ∧ ChainR (lk E R) j.toNat i.toNat l)
theorem ChainV.uniq {E : List Ev} {R : List Int} {i j : Int} {l l' : List Nat} (h : ChainV E R i j l) (g : ChainV E R i j l') : l = l' := by
  rcases h with ⟨h1, rfl⟩ | ⟨h1, h2⟩
  · rcases g with ⟨_, rfl⟩ | ⟨g1, _⟩
    · rfl
    · rw [h1] at g1; cases g1
  · rcases g with ⟨g1, _⟩ | ⟨_, g2⟩
    · rw [h1] at g1; cases g1
    · exact h2.uniq g2
section
variable {v0 : Value} {E : List Ev} {R : List Int}
end
end Go.Vc
/- order: Races, gone, Pair. -/
namespace Go.Vc
open Go Go.Proofs
set_option maxRecDepth 10000
variable {w : World}
def prsC (l : List P3) : List Value := l.flatMap pairC
theorem prsC_len (l : List P3) : (prsC l).length = l.length * 3 := flC_len (f := pairC) (m := 3) (fun _ => rfl) l
theorem prsC_snoc (l : List P3) (x : P3) : prsC (l ++ [x]) = prsC l ++ pairC x := by simp [prsC]
/-- a list in the making, kept in a box; its blocks lie behind B0 -/
structure AccI (w W : World) (B0 b5 : Nat) (ST T : TypeId) (sz : Nat) (n : Nat) (xs : List Value) : Prop where
  hdr : ∃ ad cap, Blk W b5 [.slice ad n cap] ST ∧ OwnS W T sz ad n cap xs ∧ ∀ b, b ∈ blkOf ad → B0 ≤ b
  fresh : w.heap.size ≤ b5
  lt : b5 < B0
  kp : Kp [] w W
section
variable {W W' : World} {B0 b5 n sz : Nat} {ST T : TypeId} {xs : List Value}
theorem AccI.kp0 (h : AccI w W B0 b5 ST T sz n xs) (hk : Kp [] W W') : AccI w W' B0 b5 ST T sz n xs := by
  obtain ⟨ad, cap, h1, h2, h3⟩ := h.hdr
  exact ⟨⟨ad, cap, hk.blk (by simp) h1, h2.kp hk (by simp), h3⟩, h.fresh, h.lt, h.kp.trans hk⟩
/-- one more: behind the append and the store -/
theorem AccI.push {W1 W2 W3 : World} {ad ad' : Option Addr} {cap cap' m : Nat} {ys : List Value} (h : AccI w W B0 b5 ST T sz n xs) (hB : Blk W b5 [.slice ad n cap] ST) (hB0 : B0 ≤ W.heap.size) (k1 : Kp [] W W1) (ho : OwnS W2 T sz ad' m cap' ys) (k2 : Kp (blkOf ad) W1 W2) (hn : ∀ b, b ∈ blkOf ad' → b ∈ blkOf ad ∨ W1.heap.size ≤ b)
    (hu : Upd W2 b5 (.cells ⟨[.slice ad' m cap']⟩ ST (0, 0)) W3) : AccI w W3 B0 b5 ST T sz m ys ∧ Kp (b5 :: blkOf ad) W W3 := by
  obtain ⟨ad0, cap0, h1, h2, h3⟩ := h.hdr
  have e1 : Value.slice ad n cap = Value.slice ad0 n cap0 := by
    have := h1.symm.trans hB
    simp at this
    simp [this.1, this.2]
  simp only [Value.slice.injEq] at e1
  obtain ⟨rfl, -, rfl⟩ := e1
  have hlt := h.lt
  have s1 := k1.size
  have hn' : ∀ b, b ∈ blkOf ad' → B0 ≤ b := fun b hb => by
    rcases hn b hb with q | q
    · exact h3 b q
    · omega
  have kk : Kp (b5 :: blkOf ad) W W3 := ((k1.mono (by simp)).trans (k2.mono (fun b hb => by simp [hb]))).trans (hu.kp _ (.inl (by simp)))
  refine ⟨⟨⟨ad', cap', hu.blk, ho.upd hu (fun hm => by have := hn' _ hm; omega), hn'⟩, h.fresh, h.lt, ?_⟩, kk⟩
  exact h.kp.since kk (fun b hb => by
    rcases List.mem_cons.1 hb with rfl | hb
    · exact h.fresh
    · have := h3 b hb; have := h.fresh; omega)
end
/-- the races on a variable -/
def onV (v : Int) (l : List P3) : List P3 := l.filter fun x => decide (x.1 = v)
theorem racesJ_le (E : List Ev) (R : List Int) (j i : Nat) : (racesJ E R j i).length ≤ i := by
  unfold racesJ
  exact Nat.le_trans (List.length_filterMap_le _ _) (by simp)
theorem racesN_le (E : List Ev) (R : List Int) : ∀ n, (racesN E R n).length ≤ n * n
  | 0 => by simp [racesN]
  | n + 1 => by
    rw [racesN_succ, List.length_append]
    have h1 := racesN_le E R n
    have h2 := racesJ_le E R n n
    have : (n + 1) * (n + 1) = n * n + 2 * n + 1 := by rw [Nat.add_mul, Nat.mul_add]; omega
    omega
theorem racesN_small {E : List Ev} (R : List Int) (h : E.length ≤ 2048) : (racesN E R E.length).length ≤ 4194304 := by
  have := racesN_le E R E.length
  have h2 : E.length * E.length ≤ 2048 * 2048 := Nat.mul_le_mul h h
  omega
section
variable {p : Option Addr} {F : List Nat} {E : List Ev} {R : List Int}
/-- what gone keeps -/
def gonP (m : Int) (l : List P3) : List P3 := if 0 ≤ m then l.take m.toNat else l
/-! ### Pair -/
noncomputable def pairP (E : List Ev) (R : List Int) (v : Int) : Option P3 := bestGo (fun x => decide (x.1 = v)) none (racesN E R E.length)
end
end Go.Vc
/- order: what a beginning of a list says; the races' variables: plain laws. -/
namespace Go.Vc
open Go Go.Proofs
section
variable {E : List Ev} {R : List Int}
theorem racesJ_mem {j i : Nat} {x : P3} : x ∈ racesJ E R j i ↔ ∃ a, a < i ∧ raceI E R a j = true ∧ x = ((evA E j).o, a, j) := by
  unfold racesJ
  rw [List.mem_filterMap]
  constructor
  · rintro ⟨a, ha, h⟩
    split at h
    · rename_i hr
      exact ⟨a, by simpa using ha, hr, by simpa using h.symm⟩
    · cases h
  · rintro ⟨a, ha, hr, rfl⟩
    exact ⟨a, by simpa using ha, by rw [if_pos hr]⟩
theorem racesN_mem {n : Nat} {x : P3} : x ∈ racesN E R n ↔ ∃ j a, j < n ∧ a < j ∧ raceI E R a j = true ∧ x = ((evA E j).o, a, j) := by
  unfold racesN
  rw [List.mem_flatMap]
  constructor
  · rintro ⟨j, hj, h⟩
    obtain ⟨a, h1, h2, h3⟩ := racesJ_mem.1 h
    exact ⟨j, a, by simpa using hj, h1, h2, h3⟩
  · rintro ⟨j, a, hj, h1, h2, h3⟩
    exact ⟨j, by simpa using hj, racesJ_mem.2 ⟨a, h1, h2, h3⟩⟩
end
section
variable {s : Shp} {l : List Ev} {n : Nat}
variable (hn : n ≤ l.length)
include hn
end
section
variable {E : List Ev} {R : List Int} {n : Nat}
end
end Go.Vc
/- order: Flags: which variables are raced upon. -/
namespace Go.Vc
open Go Go.Proofs
set_option maxRecDepth 10000
variable {w : World}
/-- a flag: its variable, where -/
abbrev F2 := Int × Int
abbrev flgC (x : F2) : List Value := [I x.1, I x.2]
def flgsC (l : List F2) : List Value := l.flatMap flgC
end Go.Vc
/- order: flags sorted: the plain law. -/
namespace Go.Vc
open Go Go.Proofs
/-- the flags as the races tell them -/
def flgGo (n : Int) : List F2 → List P3 → List F2
  | acc, [] => acc
  | acc, x :: r => if n ≤ (x.2.2 : Int) then acc else flgGo n (if acc.any (fun y => decide (y.1 = x.1)) then acc else acc ++ [(x.1, (x.2.2 : Int))]) r
def insF (x : F2) : List F2 → List F2
  | [] => [x]
  | y :: r => if x.1 < y.1 then x :: y :: r else y :: insF x r
/-- .. kept sorted -/
def refGo (n : Int) : List F2 → List P3 → List F2
  | acc, [] => acc
  | acc, x :: r => if n ≤ (x.2.2 : Int) then acc else refGo n (if acc.any (fun y => decide (y.1 = x.1)) then acc else insF (x.1, (x.2.2 : Int)) acc) r
noncomputable def flagsV (E : List Ev) (R : List Int) (n : Int) : List F2 := refGo n [] (racesN E R E.length)
end Go.Vc
/- order: OrderStrict: the plain law. -/
namespace Go.Vc
open Go Go.Proofs
/-- in the order of the telling -/
def Lx (a b : P3) : Prop := a.2.2 < b.2.2 ∨ (a.2.2 = b.2.2 ∧ a.2.1 < b.2.1)
section
variable {E : List Ev} {R : List Int}
theorem racesJ_sorted (j : Nat) : ∀ i, (racesJ E R j i).Pairwise Lx
  | 0 => List.Pairwise.nil
  | i + 1 => by
    rw [racesJ_succ, List.pairwise_append]
    refine ⟨racesJ_sorted j i, ?_, ?_⟩
    · split <;> simp
    · intro a ha b hb
      obtain ⟨a', h1, _, rfl⟩ := racesJ_mem.1 ha
      split at hb
      · simp at hb; subst hb
        exact .inr ⟨rfl, h1⟩
      · simp at hb
theorem racesN_sorted : ∀ n, (racesN E R n).Pairwise Lx
  | 0 => List.Pairwise.nil
  | n + 1 => by
    rw [racesN_succ, List.pairwise_append]
    refine ⟨racesN_sorted n, racesJ_sorted n n, ?_⟩
    intro a ha b hb
    obtain ⟨j, _, hj, _, _, rfl⟩ := racesN_mem.1 ha
    obtain ⟨_, _, _, rfl⟩ := racesJ_mem.1 hb
    exact .inl hj
end
/-! ### First and Pair -/
/-! ### Flags -/
section
variable {E : List Ev} {R : List Int}
end
end Go.Vc
/- order: Flags, over the sort. -/
namespace Go.Vc
open Go Go.Proofs
set_option maxRecDepth 10000
variable {w : World}
section
variable {p : Option Addr} {F : List Nat} {E : List Ev} {R : List Int}
end
end Go.Vc
/- order: flags of a beginning; lists that are the same. -/
namespace Go.Vc
open Go Go.Proofs
set_option maxRecDepth 10000
variable {w : World}
theorem prsC_get {l : List P3} {i : Nat} {x : P3} (hx : l[i]? = some x) {j : Nat} {v : Value} (hv : (pairC x)[j]? = some v) : (prsC l)[i * 3 + j]? = some v := flC_get (f := pairC) (m := 3) (fun _ => rfl) hx hv
end Go.Vc
