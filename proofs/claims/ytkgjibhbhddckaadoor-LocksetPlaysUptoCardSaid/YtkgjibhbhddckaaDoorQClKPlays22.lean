/- lockset: access, walked. -/
import Derived.Test.YtkgjibhbhddckaaDoorQClKPlays21
namespace Go.Vc
open Go Go.Proofs
set_option maxRecDepth 10000
variable {w : World}
section
variable {g : KG} {s : Shp} {c : Ck} {i : Nat} {x : VarG}
theorem KAt.var (h : KAt w (gv g i x) s c) (hi : i < g.vars.length) {vb : Nat} (hvad : g.vad = some ⟨vb, 0, none⟩) : ∃ L, Blk w vb L 91 ∧ (∀ j, j < 6 → L[i * 6 + j]? = (varC x)[j]?) ∧ i * 6 + 6 ≤ L.length ∧ (∃ junk, L = varsC (g.vars.set i x) ++ junk) := by
  obtain ⟨vb', L, h1, h2, h3, h4, h5⟩ := h.var_ hi
  rw [hvad] at h1
  cases h1
  exact ⟨L, h2, h3, h4, h5⟩
theorem KAt.apartH (h : KAt w (gv g i x) s c) (hi : i < g.vars.length) {t : Int} {hx : SG} (hH : g.H t = some hx) : SgOk w hx ∧ (∀ b, b ∈ oF x.kp → b ∉ hx.F) ∧ ∀ b, b ∈ oF x.ca → b ∉ hx.F := by
  have e : (gv g i x).D (.held t) = hx.F := by
    show oF (g.H t) = hx.F
    rw [hH]; rfl
  exact ⟨h.held t hx hH, fun b hb hb2 => h.sep (.keep i) (.held t) b (by simp) (by rw [gv_keep hi]; exact hb) (by rw [e]; exact hb2), fun b hb hb2 => h.sep (.cand i) (.held t) b (by simp) (by rw [gv_cand hi]; exact hb) (by rw [e]; exact hb2)⟩
/-- a plain cell of a variable is stored -/
theorem KAt.sc {w2 : World} {x' : VarG} {j vb : Nat} {v : Value} {L : List Value} (h : KAt w (gv g i x) s c) (hi : i < g.vars.length) (hvad : g.vad = some ⟨vb, 0, none⟩) (hL : Blk w vb L 91) (hLj : ∃ junk, L = varsC (g.vars.set i x) ++ junk)
    (hu : Upd w vb (.cells ⟨L.set (i * 6 + j) v⟩ 91 (0, 0)) w2) (hj : j < 6) (hc : varC x' = (varC x).set j v) (e1 : x'.kp = x.kp) (e2 : x'.ca = x.ca) : KAt w2 (gv g i x') s c ∧ KTo w (gv g i x) w2 (gv g i x') := by
  have hxv : (gv g i x).vars[i]? = some x := by simp [gv, hi]
  refine h.cell hi (Kp.refl _ _) hvad hL hLj hu hj hc (by rw [e1]; exact h.keep i x hxv) (by rw [e2]; exact h.cand i x hxv) (fun b hb => .inl (by rw [← e1]; exact hb)) (fun b hb => .inl (by rw [← e2]; exact hb)) (fun b hb hb2 => ?_)
  rw [e1] at hb; rw [e2] at hb2
  exact h.sep (.keep i) (.cand i) b (by simp) (by rw [gv_keep hi]; exact hb) (by rw [gv_cand hi]; exact hb2)
set_option maxHeartbeats 6400000 in
theorem access_ret (h : KAt w (gv g i x) s c) (hi : i < g.vars.length) (hi2 : i ≤ 4096) {vb : Nat} (hvad : g.vad = some ⟨vb, 0, none⟩) (e0 : Ev) {t : Int} {hx : SG} (hH : g.H t = some hx) (hvo : VOk (varM x)) (a : Int) :
    Ret Tryd.prog 37 [.pointer (some ⟨vb, i * 6, none⟩), .agg ⟨evC e0⟩, ptr hx.p, I a] w (fun v w' => v = .tuple #[] ∧ ∃ x', KAt w' (gv g i x') s c ∧ KTo w (gv g i x) w' (gv g i x') ∧ varM x' = accL (varM x) e0 hx.l a) := by
  refine enter Tryd.call37 Tryd.func37 rfl rfl rfl rfl ?_
  (repeat first|refine zA ?_|refine zg ?_)
  refine o_box rfl rfl rfl ?_
  intro bx w1 hbx hu1
  have hB1 : Blk w1 bx (evC e0) 35 := hu1.blk
  have k1 : Kp [] w w1 := hu1.kp [] (.inr (by omega))
  have h1 := h.kp0 k1
  have hbD : ∀ b, (gv g i x).In b → b < w.heap.size := fun b ⟨j, hb⟩ => h.lt j b hb
  have t1 : KTo w1 (gv g i x) w1 (gv g i x) := KTo.refl _ _
  have hnb : ¬ (gv g i x).In bx := fun hb => by have := hbD bx hb; omega
  have hBk : ∀ {w' : World} {g' : KG}, KTo w1 (gv g i x) w' g' → Blk w' bx (evC e0) 35 := fun t => by
    have := t.kq.at_ bx hu1.lt hnb
    unfold Blk at hB1 ⊢
    rw [this]; exact hB1
  refine o_nil ?_
  refine r_seq ?_
  refine r_cut (α := SG) [0, 2, 3, 5] (fun _ => [.pointer (some ⟨vb, i * 6, none⟩), ptr hx.p, I a, ptr bx]) (fun xk w' => KAt w' (gv g i { x with kp := some xk }) s c ∧ KTo w1 (gv g i x) w' (gv g i { x with kp := some xk }) ∧ xk.l = (x.kp.map SG.l).getD hx.l) ?_ ?_
  · obtain ⟨L, hL, hg, hlen, hj⟩ := h1.var hi hvad
    (repeat first|refine zA ?_|refine zg ?_|refine zo rfl rfl trivial ?_)
    refine o_load (b := vb) (off := i * 6 + 2) (v := oV x.kp) rfl hL (hg 2 (by omega)) rfl rfl rfl rfl ?_
    cases hk : x.kp with
    | some y =>
      simp only [Option.map_some]
      (repeat first|refine zo rfl rfl trivial ?_|refine zn ?_|refine zk ?_|refine zf rfl ?_)
      refine ⟨y, rfl, ?_, ?_, by simp⟩
      · have : { x with kp := some y } = x := by cases x; simp at hk; simp [hk]
        rw [this]; exact h1
      · have : { x with kp := some y } = x := by cases x; simp at hk; simp [hk]
        rw [this]; exact t1
    | none =>
      simp only [Option.map_none]
      (repeat first|refine zg ?_|refine zo rfl rfl trivial ?_|refine zn ?_|refine zt rfl ?_)
      obtain ⟨hxo, _, _⟩ := h1.apartH hi hH
      refine o_call (sCopy h1.tab hxo) rfl rfl rfl ?_
      rintro v w2 ⟨y, rfl, hy, hyl, k2, hyn⟩
      have hL2 := k2.blk (by simp) hL
      (repeat refine zo rfl rfl trivial ?_)
      refine o_store (b := vb) (off := i * 6 + 2) (v := ptr y.p) (c := none) rfl hL2 (by omega) rfl rfl rfl rfl rfl rfl ?_
      intro w3 hu3
      (repeat refine zn ?_)
      have hxv : (gv g i x).vars[i]? = some x := by simp [gv, hi]
      obtain ⟨h3, t3⟩ := h1.cell hi k2 hvad hL hj hu3 (x' := { x with kp := some y }) (by omega) rfl (fun z hz => by cases hz; exact hy) ((h1.cand i x hxv).kp k2 (by simp)) (fun b hb => .inr (hyn b hb)) (fun b hb => .inl hb) (fun b hb hb2 => by
        have := hyn b hb; have := h1.lt (.cand i) b (by rw [gv_cand hi]; exact hb2); omega)
      exact ⟨y, rfl, h3, t1.trans t3, by rw [hyl]; rfl⟩
  rintro y0 e w3 ⟨h3, t3, hy0⟩
  -- Keep
  obtain ⟨L3, hL3, hg3, hlen3, hj3⟩ := h3.var hi hvad
  (repeat first|refine zA ?_|refine zg ?_|refine zo rfl rfl trivial ?_)
  refine o_load (b := vb) (off := i * 6 + 2) (v := ptr y0.p) rfl hL3 (hg3 2 (by omega)) rfl rfl rfl rfl ?_
  (repeat refine zo rfl rfl trivial ?_)
  obtain ⟨hxo3, hap3, _⟩ := h3.apartH hi hH
  have hy0ok : SgOk w3 y0 := h3.keep i { x with kp := some y0 } (by simp [gv, hi]) y0 rfl
  refine o_call (sKeep hy0ok hxo3 hap3) rfl rfl rfl ?_
  rintro v w4 ⟨rfl, y, hy⟩
  obtain ⟨h4, t34⟩ := h3.keepTo hi (y := y0) rfl hy
  have t4 := t3.trans t34
  have hB4 := hBk t4
  have hyl : y.l = inter ((x.kp.map SG.l).getD hx.l) hx.l := by rw [hy.l, hy0]; rfl
  have hm4 : varM { x with kp := some y } = { varM x with kp := some (inter ((varM x).kp.getD hx.l) hx.l) } := by
    simp [varM, hyl]
  have eacc : accL (varM x) e0 hx.l a = (if (varM { x with kp := some y }).ph = 0 then { varM { x with kp := some y } with ph := 1, th := e0.t }
    else if (varM { x with kp := some y }).ph = 1 then (if (varM { x with kp := some y }).th = e0.t then varM { x with kp := some y } else sharedL { varM { x with kp := some y } with ca := some hx.l, ph := 2, th := 0 } e0 hx.l a)
    else sharedL (varM { x with kp := some y }) e0 hx.l a) := by rw [hm4]; rfl
  have hvo4 : VOk (varM { x with kp := some y }) := hvo
  rw [eacc]
  clear eacc hm4 hvo
  generalize ({ x with kp := some y } : VarG) = x4 at h4 t4 hvo4 ⊢
  have hxv4 : (gv g i x4).vars[i]? = some x4 := by simp [gv, hi]
  refine o_nil ?_
  refine r_block ?_
  refine r_seq ?_
  refine r_cut (α := VarG) [0, 2, 3, 5] (fun _ => [.pointer (some ⟨vb, i * 6, none⟩), ptr hx.p, I a, ptr bx]) (fun x5 w' => KAt w' (gv g i x5) s c ∧ KTo w1 (gv g i x) w' (gv g i x5) ∧ x5.ca.isSome = true ∧ (if (varM x4).ph = 0 then { varM x4 with ph := 1, th := e0.t }
    else if (varM x4).ph = 1 then (if (varM x4).th = e0.t then varM x4 else sharedL { varM x4 with ca := some hx.l, ph := 2, th := 0 } e0 hx.l a)
    else sharedL (varM x4) e0 hx.l a) = sharedL (varM x5) e0 hx.l a) ?_ ?_
  · obtain ⟨L4, hL4, hg4, hlen4, hj4⟩ := h4.var hi hvad
    (repeat first|refine zC ?_|refine zb ?_)
    refine r_seq ?_
    (repeat first|refine zA ?_|refine zB ?_|refine zg ?_|refine zo rfl rfl trivial ?_)
    refine o_load (b := vb) (off := i * 6) (v := I x4.ph) rfl hL4 (hg4 0 (by omega)) rfl rfl rfl rfl ?_
    (repeat first|refine zo rfl rfl trivial ?_|refine zn ?_)
    refine r_if (p := x4.ph = 0) rfl (fun hp0 => ?_) (fun hp0 => ?_)
    · (repeat refine ze rfl ?_)
      refine r_seq ?_
      refine r_mix (fun w' => Blk w' bx (evC e0) 35) [(0, false), (1, false), (2, false), (3, false), (4, false), (5, false), (6, true), (7, false), (8, false), (9, true)] follows_mixed (by kernel_rfl) (by kernel_rfl) (by kernel_rfl) ((Sm.drew w4).blk hB4) ?_
      have h4d := h4.sm (Sm.drew w4)
      have t4d := t4.trans (KTo.of0 ((Sm.drew w4).kp []))
      have hLd := (Sm.drew w4).blk hL4
      generalize ({ w4 with drawn := w4.drawn + 1 } : World) = w5 at h4d t4d hLd ⊢
      (repeat refine xo rfl rfl trivial ?_)
      refine x_load (v := I e0.t) rfl rfl (fun w' h' => h'.cell rfl) rfl rfl rfl rfl ?_
      (repeat refine xo rfl rfl trivial ?_)
      refine x_act rfl ?_
      refine o_store (b := vb) (off := i * 6) (v := I 1) (c := none) rfl hLd (by omega) rfl rfl rfl rfl rfl rfl ?_
      intro w6 hu6
      obtain ⟨h6, t6⟩ := h4d.sc hi hvad hLd hj4 (j := 0) hu6 (x' := { x4 with ph := 1 }) (by omega) rfl rfl rfl
      refine o_nil ⟨.inr (hBk (t4d.trans t6)), ?_⟩
      (repeat refine xo rfl rfl trivial ?_)
      refine x_act rfl ?_
      obtain ⟨L6, hL6, hg6, hlen6, hj6⟩ := h6.var hi hvad
      refine o_store (b := vb) (off := i * 6 + 1) (v := I e0.t) (c := none) rfl hL6 (by omega) rfl rfl rfl rfl rfl rfl ?_
      intro w7 hu7
      obtain ⟨h7, t7⟩ := h6.sc hi hvad hL6 hj6 (j := 1) hu7 (x' := { x4 with ph := 1, th := e0.t }) (by omega) rfl rfl rfl
      refine o_nil ⟨.inl (by kernel_rfl), ?_⟩
      (repeat refine xn ?_)
      (repeat refine ze rfl ?_)
      exact ⟨_, rfl, rfl, _, h7, (KTo.of0 k1).trans ((t4d.trans t6).trans t7), by rw [if_pos (show (varM x4).ph = 0 from hp0)]; rfl⟩
    (repeat refine zk ?_)
    have hph : (varM x4).ph = x4.ph := rfl
    refine r_seq ?_
    refine r_seq ?_
    refine r_quietS follows_mixed (by kernel_rfl) ?_
    (repeat refine yo rfl rfl trivial ?_)
    refine q_load (b := vb) (off := i * 6) (v := I x4.ph) rfl (fun w hs => (hs.blk hL4).cell (hg4 0 (by omega))) rfl rfl rfl rfl ?_
    (repeat refine yo rfl rfl trivial ?_)
    by_cases hp1 : x4.ph = 1
    · refine q_is true 5 true rfl rfl rfl (by simp [hp1]) ?_
      (repeat refine yo rfl rfl trivial ?_)
      refine q_load (b := vb) (off := i * 6 + 1) (v := I x4.th) rfl (fun w hs => (hs.blk hL4).cell (hg4 1 (by omega))) rfl rfl rfl rfl ?_
      (repeat refine yo rfl rfl trivial ?_)
      refine q_load (v := I e0.t) rfl (fun w hs => (hs.blk hB4).cell rfl) rfl rfl rfl rfl ?_
      (repeat first|refine yo rfl rfl trivial ?_|refine yn ?_)
      intro w5 hs5
      have h5 := h4.sm hs5
      have t5 := t4.trans (KTo.of0 (hs5.kp []))
      have hL5 := hs5.blk hL4
      refine r_if (p := x4.th = e0.t) rfl (fun hth => ?_) (fun hth => ?_)
      · (repeat refine ze rfl ?_)
        exact ⟨_, rfl, rfl, _, h5, (KTo.of0 k1).trans t5, by rw [if_neg (by rw [hph]; exact hp0), if_pos (by rw [hph]; exact hp1), if_pos (show (varM x4).th = e0.t from hth)]⟩
      · (repeat first|refine zA ?_|refine zg ?_|refine zo rfl rfl trivial ?_|refine zk ?_)
        refine o_load (b := vb) (off := i * 6) (v := I x4.ph) rfl hL5 (hg4 0 (by omega)) rfl rfl rfl rfl ?_
        (repeat first|refine zo rfl rfl trivial ?_|refine zn ?_)
        refine r_yes rfl (by simp [hp1]) ?_
        (repeat first|refine zA ?_|refine zg ?_|refine zo rfl rfl trivial ?_|refine ze rfl ?_)
        obtain ⟨hxo5, _, _⟩ := h5.apartH hi hH
        refine o_call (sCopy h5.tab hxo5) rfl rfl rfl ?_
        rintro v w6 ⟨z, rfl, hz, hzl, k6, hzn⟩
        have hL6 := k6.blk (by simp) hL5
        (repeat refine zo rfl rfl trivial ?_)
        refine o_store (b := vb) (off := i * 6 + 3) (v := ptr z.p) (c := none) rfl hL6 (by omega) rfl rfl rfl rfl rfl rfl ?_
        intro w7 hu7
        obtain ⟨h7, t7⟩ := h5.cell hi k6 hvad hL5 hj4 hu7 (x' := { x4 with ca := some z }) (by omega) rfl ((h5.keep i x4 hxv4).kp k6 (by simp)) (fun q hq => by cases hq; exact hz) (fun b hb => .inl hb) (fun b hb => .inr (hzn b hb)) (fun b hb hb2 => by
          have := hzn b hb2; have := h5.lt (.keep i) b (by rw [gv_keep hi]; exact hb); omega)
        (repeat first|refine zg ?_|refine zo rfl rfl trivial ?_|refine zn ?_)
        obtain ⟨L7, hL7, hg7, hlen7, hj7⟩ := h7.var hi hvad
        refine o_store (b := vb) (off := i * 6) (v := I 2) (c := none) rfl hL7 (by omega) rfl rfl rfl rfl rfl rfl ?_
        intro w8 hu8
        obtain ⟨h8, t8⟩ := h7.sc hi hvad hL7 hj7 (j := 0) hu8 (x' := { x4 with ca := some z, ph := 2 }) (by omega) rfl rfl rfl
        (repeat refine zo rfl rfl trivial ?_)
        obtain ⟨L8, hL8, hg8, hlen8, hj8⟩ := h8.var hi hvad
        refine o_store (b := vb) (off := i * 6 + 1) (v := I 0) (c := none) rfl hL8 (by omega) rfl rfl rfl rfl rfl rfl ?_
        intro w9 hu9
        obtain ⟨h9, t9⟩ := h8.sc hi hvad hL8 hj8 (j := 1) hu9 (x' := { x4 with ca := some z, ph := 2, th := 0 }) (by omega) rfl rfl rfl
        (repeat refine zn ?_)
        exact ⟨_, rfl, h9, ((t5.trans t7).trans t8).trans t9, rfl, by rw [if_neg (by rw [hph]; exact hp0), if_pos (by rw [hph]; exact hp1), if_neg (show ¬ (varM x4).th = e0.t from hth)]; simp [varM, hzl]⟩
    · refine q_is false 5 true rfl rfl rfl (by simp [hp1]) ?_
      (repeat first|refine yo rfl rfl trivial ?_|refine yn ?_)
      intro w5 hs5
      have h5 := h4.sm hs5
      have t5 := t4.trans (KTo.of0 (hs5.kp []))
      have hL5 := hs5.blk hL4
      (repeat first|refine zA ?_|refine zg ?_|refine zo rfl rfl trivial ?_|refine zk ?_|refine zf rfl ?_)
      refine o_load (b := vb) (off := i * 6) (v := I x4.ph) rfl hL5 (hg4 0 (by omega)) rfl rfl rfl rfl ?_
      (repeat first|refine zo rfl rfl trivial ?_|refine zn ?_)
      refine r_no rfl (by simp [hp1]) ?_
      (repeat first|refine ze rfl ?_|refine zk ?_)
      have hca : x4.ca.isSome = true := by
        have hv4 : x4.ph = 0 ∨ x4.ph = 1 ∨ ((x4.ph = 2 ∨ x4.ph = 3) ∧ (x4.ca.map SG.l).isSome = true) := hvo4
        rcases hv4 with q | q | ⟨_, q⟩
        · exact absurd q hp0
        · exact absurd q hp1
        · simpa using q
      exact ⟨x4, rfl, h5, t5, hca, by rw [if_neg (by rw [hph]; exact hp0), if_neg (by rw [hph]; exact hp1)]⟩
  rintro x5 e w5 ⟨h5, t5, hca5, heq5⟩
  rw [heq5]
  obtain ⟨z, hz⟩ := Option.isSome_iff_exists.1 hca5
  obtain ⟨L5, hL5, hg5, hlen5, hj5⟩ := h5.var hi hvad
  have hxv5 : (gv g i x5).vars[i]? = some x5 := by simp [gv, hi]
  (repeat first|refine zA ?_|refine zB ?_|refine zg ?_|refine zo rfl rfl trivial ?_)
  refine o_load (b := vb) (off := i * 6 + 3) (v := ptr z.p) rfl hL5 (by rw [hg5 3 (by omega)]; simp [varC, hz]) rfl rfl rfl rfl ?_
  (repeat refine zo rfl rfl trivial ?_)
  obtain ⟨hxo5, _, hap5⟩ := h5.apartH hi hH
  refine o_call (sKeep (h5.cand i x5 hxv5 z hz) hxo5 (fun b hb => hap5 b (by rw [hz]; exact hb))) rfl rfl rfl ?_
  rintro v w6 ⟨rfl, z6, hz6⟩
  obtain ⟨h6, t56⟩ := h5.candTo hi hz hz6
  have t6 := t5.trans t56
  have hB6 := hBk t6
  have hm6 : sharedL (varM x5) e0 hx.l a = warnL { varM { x5 with ca := some z6 } with ph := if e0.k = 2 then 3 else x5.ph } a := by
    unfold sharedL
    congr 1
    simp only [varM, hz, Option.map_some, hz6.l]
    rfl
  rw [hm6]
  refine o_nil ?_
  refine r_seq ?_
  refine r_cut (α := VarG) [0, 2, 3, 5] (fun _ => [.pointer (some ⟨vb, i * 6, none⟩), ptr hx.p, I a, ptr bx]) (fun x7 w' => KAt w' (gv g i x7) s c ∧ KTo w1 (gv g i x) w' (gv g i x7) ∧ x7 = { x5 with ca := some z6, ph := if e0.k = 2 then 3 else x5.ph }) ?_ ?_
  · (repeat first|refine zA ?_|refine zg ?_|refine zo rfl rfl trivial ?_)
    refine o_load (v := I e0.k) rfl hB6 rfl rfl rfl rfl rfl ?_
    (repeat first|refine zo rfl rfl trivial ?_|refine zn ?_)
    refine r_if (p := e0.k = 2) rfl (fun hk2 => ?_) (fun hk2 => ?_)
    · (repeat first|refine zg ?_|refine zo rfl rfl trivial ?_)
      obtain ⟨L6, hL6, hg6, hlen6, hj6⟩ := h6.var hi hvad
      refine o_store (b := vb) (off := i * 6) (v := I 3) (c := none) rfl hL6 (by omega) rfl rfl rfl rfl rfl rfl ?_
      intro w7 hu7
      obtain ⟨h7, t7⟩ := h6.sc hi hvad hL6 hj6 (j := 0) hu7 (x' := { x5 with ca := some z6, ph := 3 }) (by omega) rfl rfl rfl
      (repeat refine zn ?_)
      exact ⟨_, rfl, h7, t6.trans t7, by rw [if_pos hk2]⟩
    · (repeat refine zk ?_)
      exact ⟨_, rfl, h6, t6, by rw [if_neg hk2]⟩
  rintro x7 e w7 ⟨h7, t7, hx7⟩
  have hca7 : x7.ca = some z6 := by rw [hx7]
  have e7 : ({ varM { x5 with ca := some z6 } with ph := if e0.k = 2 then 3 else x5.ph } : LV) = varM x7 := by rw [hx7]; rfl
  rw [e7]
  clear hx7 e7
  obtain ⟨L7, hL7, hg7, hlen7, hj7⟩ := h7.var hi hvad
  have hxv7 : (gv g i x7).vars[i]? = some x7 := by simp [gv, hi]
  have hz7 : SgOk w7 z6 := h7.cand i x7 hxv7 z6 hca7
  have hcl : ((varM x7).ca.getD []).length = z6.l.length := by simp [varM, hca7]
  (repeat first|refine zA ?_|refine zg ?_|refine zo rfl rfl trivial ?_)
  refine o_load (b := vb) (off := i * 6) (v := I x7.ph) rfl hL7 (hg7 0 (by omega)) rfl rfl rfl rfl ?_
  (repeat refine zo rfl rfl trivial ?_)
  by_cases hp3 : x7.ph = 3
  rotate_left
  · refine o_is false 5 true rfl rfl rfl (by simp [hp3]) ?_
    (repeat first|refine zo rfl rfl trivial ?_|refine zn ?_|refine ze rfl ?_|refine zk ?_|refine zU rfl rfl rfl ?_|refine zf rfl ?_)
    exact ⟨_, rfl, rfl, x7, h7, (KTo.of0 k1).trans t7, by unfold warnL; rw [if_neg (fun q => hp3 q.1)]⟩
  refine o_is true 5 true rfl rfl rfl (by simp [hp3]) ?_
  (repeat refine zo rfl rfl trivial ?_)
  refine o_load (b := vb) (off := i * 6 + 3) (v := ptr z6.p) rfl hL7 (by rw [hg7 3 (by omega)]; simp [varC, hca7]) rfl rfl rfl rfl ?_
  refine o_call (sLen hz7) rfl rfl rfl ?_
  rintro v wx ⟨rfl, rfl⟩
  (repeat refine zo rfl rfl trivial ?_)
  by_cases hl0 : z6.l.length = 0
  rotate_left
  · refine o_is false 13 true rfl rfl rfl (decide_eq_false (by omega)) ?_
    (repeat first|refine zo rfl rfl trivial ?_|refine zn ?_|refine ze rfl ?_|refine zk ?_|refine zf rfl ?_)
    exact ⟨_, rfl, rfl, x7, h7, (KTo.of0 k1).trans t7, by unfold warnL; rw [if_neg (fun q => hl0 (by rw [← hcl]; exact q.2.1))]⟩
  refine o_is true 13 true rfl rfl rfl (by rw [hl0]; rfl) ?_
  (repeat refine zo rfl rfl trivial ?_)
  refine o_load (b := vb) (off := i * 6 + 4) (v := .bool x7.wa) rfl hL7 (hg7 4 (by omega)) rfl rfl rfl rfl ?_
  (repeat first|refine zo rfl rfl trivial ?_|refine zn ?_)
  cases hwa : x7.wa with
  | true =>
    refine r_no rfl rfl ?_
    (repeat first|refine ze rfl ?_|refine zk ?_)
    exact ⟨_, rfl, rfl, x7, h7, (KTo.of0 k1).trans t7, by unfold warnL; rw [if_neg (fun q => by have := q.2.2; rw [show (varM x7).wa = x7.wa from rfl, hwa] at this; cases this)]⟩
  | false =>
    refine r_yes rfl rfl ?_
    (repeat first|refine zg ?_|refine zo rfl rfl trivial ?_)
    refine o_store (b := vb) (off := i * 6 + 4) (v := .bool true) (c := none) rfl hL7 (by omega) rfl rfl rfl rfl rfl rfl ?_
    intro w8 hu8
    obtain ⟨h8, t8⟩ := h7.sc hi hvad hL7 hj7 (j := 4) hu8 (x' := { x7 with wa := true }) (by omega) rfl rfl rfl
    (repeat refine zo rfl rfl trivial ?_)
    obtain ⟨L8, hL8, hg8, hlen8, hj8⟩ := h8.var hi hvad
    refine o_store (b := vb) (off := i * 6 + 5) (v := I a) (c := none) rfl hL8 (by omega) rfl rfl rfl rfl rfl rfl ?_
    intro w9 hu9
    obtain ⟨h9, t9⟩ := h8.sc hi hvad hL8 hj8 (j := 5) hu9 (x' := { x7 with wa := true, at_ := a }) (by omega) rfl rfl rfl
    (repeat first|refine zn ?_|refine ze rfl ?_)
    exact ⟨_, rfl, rfl, _, h9, (KTo.of0 k1).trans ((t7.trans t8).trans t9), by unfold warnL; rw [if_pos ⟨hp3, by rw [hcl]; exact hl0, hwa⟩]; rfl⟩
end
end Go.Vc
