/- (*lockset.Keeper).Copy: the walk. -/
import Derived.Test.YtkgjibhbhddckaaDoorQClKPlays41
import Derived.Test.YtkgjibhbhddckaaDoorQClKPlays15
namespace Go.Vc
open Go Go.Proofs
set_option maxRecDepth 10000
variable {w : World}
section
variable {g : KG} {s : Shp} {c : Ck}
/-- what the first region lays: a checker, a map, a row -/
structure Cp3 (w w' : World) (g : KG) (s : Shp) (c : Ck) (ck : CkG) (mh : Nat) (vad : Option Addr) (vcap : Nat) : Prop where
  kp : Kp [] w w'
  at_ : CkAt w' ck s c
  pad : ck.pad = g.ck.pad
  cn : ∀ b, b ∈ ck.F → b ∈ blkOf g.ck.pad ∨ w.heap.size ≤ b
  mp : MapI w' mh (fun _ => none)
  mn : w.heap.size ≤ mh
  vs : OwnS w' 91 6 vad g.vars.length vcap (varsC g.vars)
  vn : ∀ b, b ∈ blkOf vad → w.heap.size ≤ b
  d1 : mh ∉ ck.F
  d2 : mh ∉ blkOf vad
  d3 : ∀ b, b ∈ ck.F → b ∉ blkOf vad
theorem vars_le (h : KAt w g s c) : g.vars.length ≤ 4096 := by have := h.nv; have := h.ck.ok.sh.2.1; omega
set_option maxHeartbeats 12800000 in
theorem kCopy_ret (h : KAt w g s c) : Ret Tryd.prog 23 [ptr g.kp] w (fun v w' => ∃ g', v = ptr g'.kp ∧ KCp w g s c w' g') := by
  have hvl := vars_le h
  obtain ⟨es, clock, hes, hfn⟩ := h.mh
  refine enter Tryd.call23 Tryd.func23 rfl rfl rfl rfl ?_
  (repeat first|refine zA ?_|refine zB ?_|refine zg ?_|refine zo rfl rfl trivial ?_|refine zn ?_)
  refine o_call (kthere_ret h) rfl rfl rfl ?_
  rintro v wx ⟨rfl, rfl⟩
  (repeat first|refine zo rfl rfl trivial ?_|refine zn ?_|refine zk ?_|refine zf rfl ?_)
  refine r_seq ?_
  refine r_cut (α := KG) [0, 3] (fun gg => [ptr g.kp, ptr gg.kp]) (fun gg w' => PC wx w' g gg s c ∧ gg.vars = [] ∧ gg.H = fun _ => none) ?_ ?_
  · refine r_any (fun w' => Kp [] wx w') 14 follows_mixed (by kernel_rfl) ?_
    have kd := (Sm.drew wx).kp []
    generalize ({ wx with drawn := wx.drawn + 1 } : World) = wd at kd ⊢
    have hd := h.kp0 kd
    have zd := kd.size
    have padOld : ∀ b, b ∈ blkOf g.ck.pad → b < wx.heap.size := fun b hb => PC.padOld h hb
    have hrd := hd.vs.readN
    refine t_seg [0, 1, 2, 3, 6, 7, 8, 9] 6 (by kernel_rfl) (by kernel_rfl) (by kernel_rfl) kd ?_
    try dsimp only [List.map_cons, List.map_nil]
    (repeat refine xo rfl rfl trivial ?_)
    refine x_load (v := ptr g.ck.p) rfl rfl (fun w' h' => (h.kp0 h').hdr.cell rfl) rfl rfl rfl rfl ?_
    (repeat refine xo rfl rfl trivial ?_)
    refine x_load (v := .slice g.vad g.vars.length g.vcap) rfl rfl (fun w' h' => (h.kp0 h').hdr.cell rfl) rfl rfl rfl rfl ?_
    (repeat refine xn ?_)
    refine t_with (fun e w' => ∃ ck mh vad vcap, [0, 15, 16, 21].map e = [ptr g.kp, ptr ck.p, .map (some mh), .slice vad g.vars.length vcap] ∧ Cp3 wx w' g s c ck mh vad vcap) 3 [0, 1, 2, 3, 6, 7, 8, 9, 4, 5, 10] ?_ (fun hleaf => ?_)
    · rintro e wz ⟨ck, mh, vad, vcap, he', hz⟩
      rw [← over_eq he']
      refine t_one 11 (by kernel_rfl) rfl ?_
      refine o_build [ptr ck.p, .map (some mh), .slice vad g.vars.length vcap] rfl rfl rfl rfl rfl rfl rfl ?_
      refine o_nil ⟨.inr hz.kp, ?_⟩
      refine t_one 12 (by kernel_rfl) rfl ?_
      refine o_box rfl rfl rfl ?_
      intro kb w5 hkb hu5
      have k5 : Kp [] wz w5 := hu5.kp [] (.inr (by omega))
      refine o_nil ⟨.inr (hz.kp.trans k5), ?_⟩
      refine t_one 13 (by kernel_rfl) rfl ?_
      (repeat first|refine zo rfl rfl trivial ?_|refine zn ?_)
      refine ⟨.inl (by kernel_rfl), ?_⟩
      refine t_end (by kernel_rfl) ?_
      have zz := hz.kp.size
      have lck := hz.at_.toCkM.lt
      have lmh := hz.mp.lt
      have lvs := hz.vs.lt
      have hvd : (blkOf vad).Nodup := by cases vad <;> simp [blkOf]
      have hDc : ∀ i b, b ∈ (⟨kb, ck, mh, vad, vcap, fun _ => none, []⟩ : KG).D i → i = .core ∧ (b = kb ∨ b = mh ∨ b ∈ ck.F ∨ b ∈ blkOf vad) := by
        intro i b hb
        cases i with
        | core => simp only [KG.D, KG.core, List.mem_cons, List.mem_append] at hb; exact ⟨rfl, hb⟩
        | held u => simp [KG.D, oF] at hb
        | keep v => simp [KG.D] at hb
        | cand v => simp [KG.D] at hb
      refine ⟨⟨kb, ck, mh, vad, vcap, fun _ => none, []⟩, rfl, ⟨hz.kp.trans k5, hu5.blk, hz.at_.kp0 k5, hz.pad, hz.mp.kp k5 (by simp), ?_, by simp, fun t => OgOk.none, fun v x hv => by simp at hv, fun v x hv => by simp at hv, ?_, fun i j b hij hb hb2 => ?_, fun i b hb => ?_, fun t y hy => (by cases hy), rfl⟩, rfl, rfl⟩
      · simp only [List.nil_append, List.length_nil, List.drop_zero]; exact hz.vs.kp k5 (by simp)
      · show (kb :: mh :: (ck.F ++ blkOf vad)).Nodup
        simp only [List.nodup_cons, List.mem_cons, List.mem_append, not_or, List.nodup_append]
        exact ⟨⟨by omega, fun hb => by have := lck _ hb; omega, fun hb => by have := lvs _ hb; omega⟩, ⟨hz.d1, hz.d2⟩, hz.at_.nd, hvd, fun a ha b hb e => hz.d3 a ha (e ▸ hb)⟩
      · exact hij ((hDc i b hb).1.trans (hDc j b hb2).1.symm)
      · obtain ⟨q, r⟩ := hDc i b hb
        rcases r with r | r | r | r
        · exact .inr (by omega)
        · exact .inr (by have := hz.mn; omega)
        · rcases hz.cn b r with r | r
          · exact .inl ⟨q, r⟩
          · exact .inr r
        · exact .inr (hz.vn b r)
    refine t_two 4 5 (by kernel_rfl) rfl rfl ?_ ?_
    · refine o_call (fCopy_ret hd.ck) rfl rfl rfl ?_
      rintro v w1 ⟨ck, rfl, hc1⟩
      have z1 := hc1.kp.size
      refine o_nil ⟨.inr (kd.trans hc1.kp), ?_⟩
      refine t_two 5 10 (by kernel_rfl) rfl rfl ?_ ?_
      · refine o_makeMapI rfl rfl ?_
        intro mh w2 hmh k2 _ hm2
        refine o_nil ⟨.inr (kd.trans (hc1.kp.trans k2)), ?_⟩
        refine t_one 10 (by kernel_rfl) rfl ?_
        refine o_call (CloneV_ret (hrd.kp (hc1.kp.trans k2) (by simp)) (by omega)) rfl rfl rfl ?_
        rintro v w3 ⟨vad, vcap, rfl, hv3, k3, hn3⟩
        have z2 := k2.size
        have z3 := hm2.lt
        refine o_nil ⟨.inr (kd.trans (hc1.kp.trans (k2.trans k3))), ?_⟩
        have lck := hc1.at_.toCkM.lt
        exact t_same (by kernel_rfl) (hleaf _ _ ⟨ck, mh, vad, vcap, rfl, kd.trans (hc1.kp.trans (k2.trans k3)), hc1.at_.kp0 (k2.trans k3), hc1.pad, fun b hb => (by rcases hc1.new b hb with q | q; exact .inl q; exact .inr (by omega)), hm2.kp k3 (by simp), by omega, hv3, fun b hb => by have := hn3 b hb; omega, fun hb => by have := lck _ hb; omega, fun hb => by have := hn3 _ hb; omega, fun b hb hb2 => by have := lck _ hb; have := hn3 _ hb2; omega⟩)
      · refine o_call (CloneV_ret (hrd.kp hc1.kp (by simp)) (by omega)) rfl rfl rfl ?_
        rintro v w2 ⟨vad, vcap, rfl, hv2, k2, hn2⟩
        refine o_nil ⟨.inr (kd.trans (hc1.kp.trans k2)), ?_⟩
        refine t_one 5 (by kernel_rfl) rfl ?_
        refine o_makeMapI rfl rfl ?_
        intro mh w3 hmh k3 _ hm3
        have z2 := k2.size
        have lv2 := hv2.lt
        refine o_nil ⟨.inr (kd.trans (hc1.kp.trans (k2.trans k3))), ?_⟩
        have lck := hc1.at_.toCkM.lt
        exact t_same (by kernel_rfl) (hleaf _ _ ⟨ck, mh, vad, vcap, rfl, kd.trans (hc1.kp.trans (k2.trans k3)), hc1.at_.kp0 (k2.trans k3), hc1.pad, fun b hb => (by rcases hc1.new b hb with q | q; exact .inl q; exact .inr (by omega)), hm3, by omega, hv2.kp k3 (by simp), fun b hb => by have := hn2 b hb; omega, fun hb => by have := lck _ hb; omega, fun hb => by have := lv2 _ hb; omega, fun b hb hb2 => by have := lck _ hb; have := hn2 _ hb2; omega⟩)
    · refine o_makeMapI rfl rfl ?_
      intro mh w1 hmh k1 _ hm1
      have z1 := k1.size
      have l1 := hm1.lt
      refine o_nil ⟨.inr (kd.trans k1), ?_⟩
      refine t_one 4 (by kernel_rfl) rfl ?_
      refine o_call (fCopy_ret (hd.kp0 k1).ck) rfl rfl rfl ?_
      rintro v w2 ⟨ck, rfl, hc2⟩
      have z2 := hc2.kp.size
      refine o_nil ⟨.inr (kd.trans (k1.trans hc2.kp)), ?_⟩
      refine t_one 10 (by kernel_rfl) rfl ?_
      refine o_call (CloneV_ret (hrd.kp (k1.trans hc2.kp) (by simp)) (by omega)) rfl rfl rfl ?_
      rintro v w3 ⟨vad, vcap, rfl, hv3, k3, hn3⟩
      refine o_nil ⟨.inr (kd.trans (k1.trans (hc2.kp.trans k3))), ?_⟩
      have lck := hc2.at_.toCkM.lt
      exact t_same (by kernel_rfl) (hleaf _ _ ⟨ck, mh, vad, vcap, rfl, kd.trans (k1.trans (hc2.kp.trans k3)), hc2.at_.kp0 k3, hc2.pad, fun b hb => (by rcases hc2.new b hb with q | q; exact .inl q; exact .inr (by omega)), (hm1.kp hc2.kp (by simp)).kp k3 (by simp), by omega, hv3, fun b hb => by have := hn3 b hb; omega, fun hb => by
        rcases hc2.new _ hb with q | q
        · have := padOld _ q; omega
        · omega, fun hb => by have := hn3 _ hb; omega, fun b hb hb2 => by have := lck _ hb; have := hn3 _ hb2; omega⟩)
  rintro gg0 e w3 ⟨hP0, hv0, hH0⟩
  have h3 := h.kp0 hP0.kw
  have hes3 : w3.heap[g.mh]? = some (.map es clock) := by rw [hP0.kw.at_ g.mh h.mh.lt (by simp)]; exact hes
  (repeat first|refine zA ?_|refine zB ?_|refine zg ?_|refine zo rfl rfl trivial ?_)
  refine o_load (v := .map (some g.mh)) rfl h3.hdr rfl rfl rfl rfl rfl ?_
  refine o_range rfl rfl hes3 rfl rfl ?_
  intro r w4 hr k4 hi4
  have hlt0 := hP0.lt
  have hP4 := hP0.kp0 h k4
  (repeat first|refine zn ?_|refine zb ?_)
  refine r_loop (α := (Int → Option SG) × Array Nat) [3, 28] (fun _ => [ptr gg0.kp, ptr r]) (fun x W => PC wx W g { gg0 with H := x.1 } s c ∧ ItM W r g.mh clock x.2 ∧ (∀ i b, b ∈ ({ gg0 with H := x.1 } : KG).D i → b ≠ r) ∧ ∀ y ∈ es.toList, x.2.contains y.born = true → ∃ t, y.key = I t ∧ (x.1 t).isSome = true) (fun x => (leftOf es x.2).size) (gg0.H, #[]) rfl ⟨hP4, hi4, fun i b hb => by have := hlt0 i b hb; omega, by simp⟩ ?_
  rintro ⟨H1, seen⟩ e W ⟨hP, hI, hr1, hS⟩
  dsimp only at hP hI hr1 hS
  have hesW : W.heap[g.mh]? = some (.map es clock) := by rw [hP.kw.at_ g.mh h.mh.lt (by simp)]; exact hes
  have hrw : wx.heap.size ≤ r := by have := hP0.kw.size; omega
  (repeat first|refine zA ?_|refine zg ?_)
  refine o_next rfl hI hesW hfn.old rfl rfl (fun h0 => ?_) (fun y hy W1 k1 hI1 => ?_)
  · (repeat first|refine zA ?_|refine zB ?_|refine zD ?_|refine zg ?_|refine zo rfl rfl trivial ?_|refine zn ?_|refine ze rfl ?_|refine zf rfl ?_)
    have hall := all_seen es seen h0
    have hH : ∀ t x, g.H t = some x → (H1 t).isSome = true := fun t x ht => by
      have hv : mapH g.H t = some (ptr x.p) := by simp [mapH, ht]
      obtain ⟨y, hy, hk, _⟩ := (hfn.val t _).1 hv
      obtain ⟨t', hk', hs⟩ := hS y hy (hall y hy)
      rw [hk] at hk'
      have e : t = t' := by simpa using hk'
      rw [e]; exact hs
    refine o_load (v := .slice gg0.vad g.vars.length gg0.vcap) rfl hP.hdr rfl rfl rfl rfl rfl ?_
    (repeat first|refine zo rfl rfl trivial ?_|refine zn ?_|refine zb ?_)
    refine r_loop (α := List VarG) [3, 45, 46] (fun l => [ptr gg0.kp, I g.vars.length, I l.length]) (fun l W => PC wx W g { gg0 with H := H1, vars := l } s c) (fun l => g.vars.length - l.length) [] rfl (by rw [← hv0]; exact hP) ?_
    rintro l e W2 hP2
    have hPl : l.length ≤ g.vars.length := hP2.nv
    (repeat first|refine zA ?_|refine zD ?_|refine zg ?_|refine zo rfl rfl trivial ?_|refine zn ?_)
    refine r_if rfl (fun hc => ?_) (fun hc => ?_)
    · have hlt : l.length < g.vars.length := by omega
      obtain ⟨x, hx⟩ : ∃ x, g.vars[l.length]? = some x := ⟨_, List.getElem?_eq_getElem hlt⟩
      have hdr2 := hP2.hdr
      have hvs2 := hP2.vs
      dsimp only at hdr2 hvs2
      cases hvad : gg0.vad with
      | none => rw [hvad] at hvs2; obtain ⟨q, _⟩ := hvs2.2; omega
      | some ad =>
        obtain ⟨vb, off, spot⟩ := ad
        rw [hvad] at hvs2 hdr2
        obtain ⟨q1, q2, q3, q4, junk, hB, q6⟩ := hvs2.2
        dsimp only at q1 q2 hB
        subst q1 q2
        have hxl : (l ++ g.vars.drop l.length)[l.length]? = some x := by
          rw [List.getElem?_append_right (Nat.le_refl _), Nat.sub_self, List.getElem?_drop]; simpa using hx
        have hLl : (varsC (l ++ g.vars.drop l.length)).length = g.vars.length * 6 := by rw [varsC_len, List.length_append, List.length_drop]; congr 1; omega
        generalize hLe : varsC (l ++ g.vars.drop l.length) ++ junk = L at hB
        have hL2 : L[l.length * 6 + 2]? = some (oV x.kp) := by
          rw [← hLe, List.getElem?_append_left (by omega), varsC_get hxl 2 (by omega)]; rfl
        have hL3 : L[l.length * 6 + 3]? = some (oV x.ca) := by
          rw [← hLe, List.getElem?_append_left (by omega), varsC_get hxl 3 (by omega)]; rfl
        have hLlen : l.length * 6 + 6 ≤ L.length := by rw [← hLe, List.length_append]; omega
        have h2 := h.kp0 hP2.kw
        have hxkp := h2.keep l.length x hx
        have hxca := h2.cand l.length x hx
        (repeat first|refine zA ?_|refine zC ?_|refine zg ?_|refine zo rfl rfl trivial ?_|refine zn ?_|refine zb ?_|refine zk ?_)
        refine o_load (v := .slice (some ⟨vb, 0, none⟩) g.vars.length gg0.vcap) rfl hdr2 rfl rfl rfl rfl rfl ?_
        (repeat first|refine zo rfl rfl (by first|exact trivial|(simp only[AllP];omega)) ?_|refine zn ?_)
        refine r_cut (α := VarG) [3, 45, 46] (fun _ => [ptr gg0.kp, I g.vars.length, I l.length]) (fun y W3 => PC wx W3 g { gg0 with H := H1, vars := l ++ [y] } s c) ?_ ?_
        · refine r_any (fun _ => True) 18 follows_mixed (by kernel_rfl) ?_
          have kd := (Sm.drew W2).kp []
          generalize ({ W2 with drawn := W2.drawn + 1 } : World) = wd at kd ⊢
          have zd := kd.size
          have hPd := hP2.kp0 h kd
          have hBd := kd.blk (by simp) hB
          have tabd : TabW wd := h.tab.kp hPd.kw (by simp)
          have hkd := hxkp.kp kd (by simp)
          have hcd := hxca.kp kd (by simp)
          refine t_seg [0, 1, 2, 3, 4, 7, 8, 9] 10 (by kernel_rfl) (by kernel_rfl) (by kernel_rfl) trivial ?_
          try dsimp only [List.map_cons, List.map_nil]
          (repeat first|refine xo rfl rfl trivial ?_|refine xn ?_)
          refine t_with (fun e w' => ∃ o1, [3, 45, 46, 55, 56, 61, 65].map e = [ptr gg0.kp, I g.vars.length, I l.length, .pointer (some ⟨vb, l.length * 6, none⟩), .pointer (some ⟨vb, l.length * 6, none⟩), oV o1, oV x.ca] ∧ OgOk w' o1 ∧ o1.map SG.l = x.kp.map SG.l ∧ Kp [] wd w' ∧ ∀ b, b ∈ oF o1 → wd.heap.size ≤ b) 7 [0, 1, 2, 3, 4, 7, 8, 9, 5, 6, 10] ?_ (fun hleaf => ?_)
          · rintro e wz ⟨o1, he', ho1, hl1, kz, hn1⟩
            rw [← over_eq he']
            have hBz := kz.blk (by simp) hBd
            refine t_one 11 (by kernel_rfl) rfl ?_
            refine o_call (sCopyO (tabd.kp kz (by simp)) (hcd.kp kz (by simp))) rfl rfl rfl ?_
            rintro v w5 ⟨o2, rfl, ho2, hl2, k5, hn2⟩
            refine o_nil ⟨.inr trivial, ?_⟩
            refine t_one 12 (by kernel_rfl) rfl ?_
            (repeat first|refine zo rfl rfl trivial ?_|refine zn ?_)
            refine ⟨.inr trivial, ?_⟩
            refine t_one 13 (by kernel_rfl) rfl ?_
            (repeat first|refine zo rfl rfl trivial ?_|refine zn ?_)
            refine ⟨.inr trivial, ?_⟩
            have hB5 := k5.blk (by simp) hBz
            refine t_one 14 (by kernel_rfl) rfl ?_
            refine o_store (b := vb) (off := l.length * 6 + 2) (v := oV o1) (c := none) rfl hB5 (by omega) rfl rfl rfl rfl rfl rfl ?_
            intro w6 hu6
            refine o_nil ⟨.inr trivial, ?_⟩
            refine t_one 15 (by kernel_rfl) rfl ?_
            (repeat first|refine zo rfl rfl trivial ?_|refine zn ?_)
            refine ⟨.inr trivial, ?_⟩
            refine t_one 16 (by kernel_rfl) rfl ?_
            (repeat first|refine zo rfl rfl trivial ?_|refine zn ?_)
            refine ⟨.inr trivial, ?_⟩
            refine t_one 17 (by kernel_rfl) rfl ?_
            refine o_store (b := vb) (off := l.length * 6 + 3) (v := oV o2) (c := none) rfl hu6.blk (by rw [List.length_set]; omega) rfl rfl rfl rfl rfl rfl ?_
            intro w7 hu7
            refine o_nil ⟨.inl (by kernel_rfl), ?_⟩
            refine t_end (by kernel_rfl) ?_
            have k67 : Kp [vb] w5 w7 := (hu6.kp _ (.inl (by simp))).trans (hu7.kp _ (.inl (by simp)))
            have z5 := k5.size
            refine ⟨{ x with kp := o1, ca := o2 }, rfl, hPd.addV h hx kz ho1 hn1 hl1 k5 ho2 hn2 hl2 (by dsimp only; rw [hvad]; exact k67) ?_⟩
            dsimp only
            rw [hvad]
            have hdrop : g.vars.drop l.length = x :: g.vars.drop (l.length + 1) := by
              rw [List.drop_eq_getElem_cons hlt]
              congr 1
              exact Option.some.inj ((List.getElem?_eq_getElem hlt).symm.trans hx)
            have eset : ∀ y : VarG, (l ++ g.vars.drop l.length).set l.length y = l ++ y :: g.vars.drop (l.length + 1) := fun y => by
              rw [hdrop, List.set_append_right _ _ (Nat.le_refl _), Nat.sub_self]; rfl
            have s1 : varsC (l ++ ({ x with kp := o1 } : VarG) :: g.vars.drop (l.length + 1)) = (varsC (l ++ g.vars.drop l.length)).set (l.length * 6 + 2) (oV o1) := by
              rw [← eset]; exact varsC_set hxl (by omega) rfl
            have hx1 : (l ++ ({ x with kp := o1 } : VarG) :: g.vars.drop (l.length + 1))[l.length]? = some { x with kp := o1 } := by
              rw [List.getElem?_append_right (Nat.le_refl _), Nat.sub_self]; rfl
            have s2 : varsC (l ++ ({ x with kp := o1, ca := o2 } : VarG) :: g.vars.drop (l.length + 1)) = (varsC (l ++ ({ x with kp := o1 } : VarG) :: g.vars.drop (l.length + 1))).set (l.length * 6 + 3) (oV o2) := by
              have := varsC_set (x' := { x with kp := o1, ca := o2 }) (j := 3) (v := oV o2) hx1 (by omega) rfl
              rw [List.set_append_right _ _ (Nat.le_refl _), Nat.sub_self] at this
              exact this
            have el : (varsC (l ++ ({ x with kp := o1, ca := o2 } : VarG) :: g.vars.drop (l.length + 1))).length = g.vars.length * 6 := by
              rw [s2, s1, List.length_set, List.length_set, hLl]
            refine ⟨el, rfl, rfl, q3, q4, junk, ?_, by rw [List.length_append, el]; rw [List.length_append, hLl] at q6; exact q6⟩
            have := hu7.blk
            rw [← hLe, List.set_append_left _ _ (by omega), List.set_append_left _ _ (by rw [List.length_set]; omega), ← s1, ← s2] at this
            exact this
          refine t_two 5 10 (by kernel_rfl) rfl rfl ?_ ?_
          · refine o_load (b := vb) (off := l.length * 6 + 2) (v := oV x.kp) (by show Value.pointer (some ⟨vb, 0 + l.length * 6 + 2, none⟩) = _; rw [Nat.zero_add]) hBd hL2 rfl rfl rfl rfl ?_
            refine o_nil ⟨.inr trivial, ?_⟩
            refine t_two 6 10 (by kernel_rfl) rfl rfl ?_ ?_
            · refine o_call (sCopyO tabd hkd) rfl rfl rfl ?_
              rintro v w5 ⟨o1, rfl, ho1, hl1, k5, hn1⟩
              refine o_nil ⟨.inr trivial, ?_⟩
              refine t_one 10 (by kernel_rfl) rfl ?_
              refine o_load (b := vb) (off := l.length * 6 + 3) (v := oV x.ca) (by show Value.pointer (some ⟨vb, 0 + l.length * 6 + 3, none⟩) = _; rw [Nat.zero_add]) (k5.blk (by simp) hBd) hL3 rfl rfl rfl rfl ?_
              refine o_nil ⟨.inr trivial, ?_⟩
              exact t_same (by kernel_rfl) (hleaf _ _ ⟨o1, by rw [← Nat.zero_add (l.length * 6)]; rfl, ho1, hl1, k5, hn1⟩)
            · refine o_load (b := vb) (off := l.length * 6 + 3) (v := oV x.ca) (by show Value.pointer (some ⟨vb, 0 + l.length * 6 + 3, none⟩) = _; rw [Nat.zero_add]) hBd hL3 rfl rfl rfl rfl ?_
              refine o_nil ⟨.inr trivial, ?_⟩
              refine t_one 6 (by kernel_rfl) rfl ?_
              refine o_call (sCopyO tabd hkd) rfl rfl rfl ?_
              rintro v w5 ⟨o1, rfl, ho1, hl1, k5, hn1⟩
              refine o_nil ⟨.inr trivial, ?_⟩
              exact t_same (by kernel_rfl) (hleaf _ _ ⟨o1, by rw [← Nat.zero_add (l.length * 6)]; rfl, ho1, hl1, k5, hn1⟩)
          · refine o_load (b := vb) (off := l.length * 6 + 3) (v := oV x.ca) (by show Value.pointer (some ⟨vb, 0 + l.length * 6 + 3, none⟩) = _; rw [Nat.zero_add]) hBd hL3 rfl rfl rfl rfl ?_
            refine o_nil ⟨.inr trivial, ?_⟩
            refine t_one 5 (by kernel_rfl) rfl ?_
            refine o_load (b := vb) (off := l.length * 6 + 2) (v := oV x.kp) (by show Value.pointer (some ⟨vb, 0 + l.length * 6 + 2, none⟩) = _; rw [Nat.zero_add]) hBd hL2 rfl rfl rfl rfl ?_
            refine o_nil ⟨.inr trivial, ?_⟩
            refine t_one 6 (by kernel_rfl) rfl ?_
            refine o_call (sCopyO tabd hkd) rfl rfl rfl ?_
            rintro v w5 ⟨o1, rfl, ho1, hl1, k5, hn1⟩
            refine o_nil ⟨.inr trivial, ?_⟩
            exact t_same (by kernel_rfl) (hleaf _ _ ⟨o1, by rw [← Nat.zero_add (l.length * 6)]; rfl, ho1, hl1, k5, hn1⟩)
        rintro y e W3 hP3
        (repeat first|refine zg ?_|refine zo rfl rfl (by first|exact trivial|(simp only[AllP];omega)) ?_|refine zn ?_)
        refine ⟨l ++ [y], by rw [List.length_append]; rfl, by rw [← hvad]; exact hP3, by rw [List.length_append, List.length_singleton]; omega⟩
    · (repeat first|refine zA ?_|refine zg ?_|refine zo rfl rfl trivial ?_|refine zn ?_|refine ze rfl ?_|refine zr ?_)
      refine ⟨_, rfl, { gg0 with H := H1, vars := l }, rfl, hP2.done h hH (by show l.length = _; omega)⟩
  · have hyl := (mem_left hy).1
    obtain ⟨t, hk⟩ := hfn.key y hyl
    have hv : mapH g.H t = some y.val := (hfn.val t _).2 ⟨y, hyl, hk, rfl⟩
    obtain ⟨x, hx, hxv⟩ : ∃ x, g.H t = some x ∧ y.val = ptr x.p := by
      unfold mapH at hv
      cases hx : g.H t with
      | none => rw [hx] at hv; cases hv
      | some x => rw [hx] at hv; exact ⟨x, rfl, (Option.some.inj hv).symm⟩
    have hP1 := hP.kp h k1 (fun i b hb hb2 => hr1 i b hb (by simpa using hb2)) (fun b hb => by simp at hb; omega)
    have hes1 : W1.heap[g.mh]? = some (.map es clock) := by rw [hP1.kw.at_ g.mh h.mh.lt (by simp)]; exact hes
    rw [hk, hxv]
    (repeat first|refine zA ?_|refine zD ?_|refine zg ?_|refine zo rfl rfl trivial ?_|refine zn ?_|refine zb ?_|refine zk ?_|refine zt rfl ?_)
    refine o_entry rfl hI1 hes1 hyl hfn.born rfl rfl ?_
    rw [hk, hxv]
    (repeat first|refine zo rfl rfl trivial ?_|refine zn ?_)
    refine r_mix (fun w' => Kp [] W1 w') [(0, false), (1, false), (2, false), (3, false), (4, false), (5, false), (6, true), (7, true)] follows_mixed (by kernel_rfl) (by kernel_rfl) (by kernel_rfl) ((Sm.drew W1).kp _) ?_
    have kd := (Sm.drew W1).kp []
    generalize ({ W1 with drawn := W1.drawn + 1 } : World) = wd at kd ⊢
    have hPd := hP1.kp0 h kd
    have zd := kd.size
    (repeat refine xo rfl rfl trivial ?_)
    refine x_load (v := .map (some gg0.mh)) rfl rfl (fun w' h' => (h'.blk (by simp) hP1.hdr).cell rfl) rfl rfl rfl rfl ?_
    (repeat refine xo rfl rfl trivial ?_)
    refine x_act rfl ?_
    refine o_call (sCopy (h.tab.kp hPd.kw (by simp)) (((h.kp0 hPd.kw).held t) x hx)) rfl rfl rfl ?_
    rintro v w5 ⟨x', rfl, hx5, hxl, k5, hn5⟩
    refine o_nil ⟨.inr (kd.trans k5), ?_⟩
    refine x_act rfl ?_
    refine o_mapSet (v := ptr x'.p) rfl rfl rfl ((hPd.kp0 h k5).mh) rfl rfl rfl rfl ?_
    intro w6 hu6
    refine o_nil ⟨.inl (by kernel_rfl), ?_⟩
    (repeat refine xn ?_)
    have em : mapH (upT H1 t (some x')) = upF (mapH H1) t (some (ptr x'.p)) := by
      funext u; unfold mapH upT upF
      by_cases hu : u = t
      · rw [if_pos hu, if_pos hu]; rfl
      · rw [if_neg hu, if_neg hu]
    have k6 : Kp [gg0.mh] w5 w6 := hu6.kp [gg0.mh] (.inl (by simp))
    have hP6 := hPd.addH h k5 hx5 hn5 k6 (by rw [em]; exact hu6.at_) hx hxl
    have hmr : gg0.mh ≠ r := hr1 .core _ (by simp [KG.D, KG.core])
    have hrl := hI.lt
    have z1 := k1.size
    refine ⟨(upT H1 t (some x'), seen.push y.born), rfl, ⟨hP6, (hI1.kp (kd.trans k5) (by simp)).kp k6 (by simp; omega), fun i b hb e => ?_, fun z hz hzs => ?_⟩, left_shrinks es seen y hy⟩
    · rw [e] at hb
      by_cases hi : i = .held t
      · subst hi
        have hb : r ∈ x'.F := by simpa [KG.D, upT, oF] using hb
        have := hn5 _ hb; omega
      · refine hr1 i r ?_ rfl
        cases i with
        | core => exact hb
        | keep v => exact hb
        | cand v => exact hb
        | held u =>
          have hu : u ≠ t := fun e => hi (by rw [e])
          simpa only [KG.D, upT, if_neg hu] using hb
    · rw [contains_push] at hzs
      by_cases q : z.key = I t
      · exact ⟨t, q, by simp [upT]⟩
      · have q2 : seen.contains z.born = true := by
          rw [Bool.or_eq_true] at hzs
          rcases hzs with q3 | q3
          · exact q3
          · exfalso
            have e := born_inj hfn.born hz hyl (by simpa using q3)
            rw [e] at q; exact q hk
        obtain ⟨u, h1, h2⟩ := hS z hz q2
        refine ⟨u, h1, ?_⟩
        have hu : u ≠ t := fun e => q (by rw [h1, e])
        simp only [upT, if_neg hu]; exact h2
end
end Go.Vc
