/- lockset: Event. -/
import Derived.Test.YtkgjibhbhddckaaDoorQClKPlays22
namespace Go.Vc
open Go Go.Proofs
set_option maxRecDepth 10000
variable {w : World}
def eventH (H : Int → List Nat) (e : Ev) (t : Int) : List Nat :=
  if e.k = 5 then (if t = e.t then withL (H t) e.o.toNat else H t)
  else if e.k = 6 then (if t = e.t then (H t).filter (fun y => decide (y ≠ e.o.toNat)) else H t)
  else H t
def eventV (V : List LV) (h : List Nat) (e : Ev) (n : Int) : List LV :=
  if e.k = 1 ∨ e.k = 2 then (match V[e.o.toNat]? with
    | some v => V.set e.o.toNat (accL v e h n)
    | none => V)
  else V
section
variable {g : KG} {s : Shp} {c : Ck}
theorem KAt.setCk {w' : World} {c' : Ck} (h : KAt w g s c) (hc : CkAt w' g.ck s c') (hk0 : Kp g.ck.W w w') : KAt w' g s c' ∧ KTo w g w' g := by
  have hk : Kp g.ck.F w w' := hk0.mono (fun b hb => CkG.W_F hb)
  have hcore : ∀ b, b ∈ g.ck.F → b ∈ g.D .core := fun b hb => by
    simp only [KG.D, KG.core, List.mem_cons, List.mem_append]
    exact .inr (.inr (.inl hb))
  have nin : ∀ i, i ≠ .core → ∀ b, b ∈ g.D i → b ∉ g.ck.F := fun i hi b hb hb2 => h.sep i .core b hi hb (hcore b hb2)
  have hnd := h.nd
  simp only [KG.core, List.nodup_cons, List.mem_cons, List.mem_append, not_or, List.nodup_append] at hnd
  refine ⟨⟨hk.blk hnd.1.2.1 h.hdr, hc, h.mh.kp hk hnd.2.1.1, h.vs.kp hk (fun b hb hb2 => hnd.2.2.2.2 b hb2 b hb rfl), h.nv, fun t => (h.held t).kp hk (fun b hb => nin (.held t) (by simp) b hb), fun v x hx => (h.keep v x hx).kp hk (fun b hb => nin (.keep v) (by simp) b (by simp only [KG.D, hx]; exact hb)), fun v x hx => (h.cand v x hx).kp hk (fun b hb => nin (.cand v) (by simp) b (by simp only [KG.D, hx]; exact hb)), h.nd, h.sep, h.tab.kp hk (fun hb => h.far (hcore _ hb)), h.far⟩, ⟨hk.kq (fun b hb => ⟨.core, hcore b hb⟩), fun b hb => .inl hb, rfl, hk0.kq (fun b hb => ⟨⟨.core, hcore b (CkG.W_F hb)⟩, CkG.W_pad h.ck.nd hb⟩), rfl⟩⟩
/-- a held set has turned where it is -/
theorem KAt.heldTo {w' : World} {t : Int} {y y' : SG} {l : List Nat} (h : KAt w g s c) (hy : g.H t = some y) (ht : SgTo w y w' y' l) : KAt w' { g with H := upT g.H t (some y') } s c ∧ KTo w g w' { g with H := upT g.H t (some y') } := by
  have ey : oF (g.H t) = y.F := by rw [hy]; rfl
  have hk : Kp (g.mh :: oF (g.H t)) w w' := ht.kp.mono (fun b hb => by rw [ey]; simp [hb])
  have hn : ∀ b, b ∈ y'.F → b ∈ oF (g.H t) ∨ w.heap.size ≤ b := fun b hb => by rw [ey]; exact ht.new b hb
  have em : mapH (upT g.H t (some y')) = mapH g.H := by
    funext u; unfold mapH upT
    by_cases hu : u = t
    · rw [if_pos hu, hu, hy]; simp [ht.p]
    · rw [if_neg hu]
  refine ⟨h.setH ht.ok hk hn ?_, KTo.setH h hk hn⟩
  rw [em]
  exact h.mh.kp ht.kp (fun hb => h.sep .core (.held t) g.mh (by simp) (by simp [KG.D, KG.core]) (by show g.mh ∈ oF (g.H t); rw [ey]; exact hb))
theorem can_read {x : Ev} (hc : canB s c x = true) (hk : x.k = 1 ∨ x.k = 2) : 0 ≤ x.o ∧ x.o < s.va := by
  unfold canB at hc
  by_cases h2 : (st c x.t).ph = 2
  · rw [if_pos h2] at hc
    rcases hk with hk | hk <;> rw [hk] at hc <;> simp at hc
  · rw [if_neg h2] at hc
    by_cases h1 : (st c x.t).ph ≠ 1
    · rw [if_pos h1] at hc; simp at hc
    · rw [if_neg h1] at hc
      by_cases h0 : x.o < 0
      · rw [if_pos h0] at hc; simp at hc
      · rw [if_neg h0] at hc
        rcases hk with hk | hk <;> rw [hk] at hc <;> simp at hc <;> omega
set_option maxHeartbeats 6400000 in
theorem kEvent_ret (h : KAt w g s c) (hn : c.n ≤ 4611686018427387904) (hvo : ∀ x ∈ g.vars, VOk (varM x)) (e0 : Ev) :
    Ret Tryd.prog 9 [ptr g.kp, .agg ⟨evC e0⟩] w (fun v w' => (canB s c e0 = true ∧ v = I 0 ∧ ∃ g', KAt w' g' s (nextC s c e0) ∧ KTo w g w' g' ∧ (∀ t, oL (g'.H t) = eventH (fun t => oL (g.H t)) e0 t) ∧ g'.vars.map varM = eventV (g.vars.map varM) (oL (g.H e0.t)) e0 c.n) ∨ (canB s c e0 = false ∧ v = I 6 ∧ Kp [] w w')) := by
  refine enter Tryd.call9 Tryd.func9 rfl rfl rfl rfl ?_
  (repeat first|refine zA ?_|refine zg ?_)
  refine o_box rfl rfl rfl ?_
  intro bx w1 hbx hu1
  have hB1 : Blk w1 bx (evC e0) 35 := hu1.blk
  have k1 : Kp [] w w1 := hu1.kp [] (.inr (by omega))
  have h1 := h.kp0 k1
  have hbx1 := hu1.lt
  have hnb : ¬ g.In bx := fun ⟨j, hb⟩ => by have := h.lt j bx hb; omega
  have hBk : ∀ {w' : World} {g' : KG}, KTo w1 g w' g' → Blk w' bx (evC e0) 35 := fun t => by
    have := t.kq.at_ bx hbx1 hnb
    unfold Blk at hB1 ⊢
    rw [this]; exact hB1
  (repeat first|refine zA ?_|refine zB ?_|refine zg ?_|refine zo rfl rfl trivial ?_|refine zn ?_)
  refine o_call (kthere_ret h1) rfl rfl rfl ?_
  rintro v wx ⟨rfl, rfl⟩
  (repeat first|refine zA ?_|refine zg ?_|refine zo rfl rfl trivial ?_|refine zn ?_|refine zk ?_|refine zf rfl ?_)
  refine o_load (v := ptr g.ck.p) rfl h1.hdr rfl rfl rfl rfl rfl ?_
  refine o_call (fLen_ret h1.ck) rfl rfl rfl ?_
  rintro v w2 ⟨rfl, rfl⟩
  (repeat first|refine zo rfl rfl trivial ?_|refine zn ?_)
  refine r_seq ?_
  refine r_seq ?_
  refine r_mix (fun w' => Blk w' g.kp (kgC g) 73 ∧ Blk w' bx (evC e0) 35) [(0, false), (1, false), (2, false), (3, false), (4, false), (5, true), (6, false)] follows_mixed (by kernel_rfl) (by kernel_rfl) (by kernel_rfl) ⟨(Sm.drew w2).blk h1.hdr, (Sm.drew w2).blk hB1⟩ ?_
  have h2d := h1.sm (Sm.drew w2)
  have t2d : KTo w2 g _ g := KTo.of0 ((Sm.drew w2).kp [])
  have hB2 := (Sm.drew w2).blk hB1
  have k2d := (Sm.drew w2).kp []
  generalize ({ w2 with drawn := w2.drawn + 1 } : World) = wd at h2d t2d hB2 k2d ⊢
  (repeat refine xo rfl rfl trivial ?_)
  refine x_load (v := ptr g.ck.p) rfl rfl (fun w' h' => h'.1.cell rfl) rfl rfl rfl rfl ?_
  refine x_loadA (vs := evC e0) rfl rfl (fun w' h' j v hv => by rw [Nat.zero_add]; exact h'.2.cell hv) rfl rfl rfl rfl rfl rfl ?_
  refine x_act rfl ?_
  refine o_call (fNext_ret h2d.ck e0 hn) rfl rfl rfl ?_
  rintro v w3 (⟨hc, rfl, hck3, k3⟩ | ⟨hc, rfl, k3⟩)
  rotate_left
  · have h3 := h2d.kp0 k3
    refine o_nil ⟨.inr ⟨h3.hdr, k3.blk (by simp) hB2⟩, ?_⟩
    (repeat first|refine xo rfl rfl trivial ?_|refine xn ?_)
    (repeat first|refine zA ?_|refine zg ?_|refine zo rfl rfl trivial ?_|refine zn ?_|refine zr ?_|refine zt rfl ?_)
    exact ⟨_, rfl, .inr ⟨hc, rfl, (k1.trans k2d).trans k3⟩⟩
  obtain ⟨h3, t3'⟩ := h2d.setCk hck3 k3
  have t3 := t2d.trans t3'
  have hB3 := hBk t3
  refine o_nil ⟨.inr ⟨h3.hdr, hB3⟩, ?_⟩
  (repeat first|refine xo rfl rfl trivial ?_|refine xn ?_)
  (repeat first|refine zA ?_|refine zB ?_|refine zg ?_|refine zo rfl rfl trivial ?_|refine zk ?_|refine zf rfl ?_)
  refine o_load (v := I e0.k) rfl hB3 rfl rfl rfl rfl rfl ?_
  (repeat first|refine zA ?_|refine zg ?_|refine zo rfl rfl trivial ?_|refine zn ?_|refine zb ?_)
  refine r_if (p := e0.k = 5) rfl (fun hk => ?_) (fun hk5 => ?_)
  · refine r_mix (fun w' => Blk w' bx (evC e0) 35) [(0, false), (1, false), (2, false), (4, false), (5, false), (3, true), (6, true)] follows_mixed (by kernel_rfl) (by kernel_rfl) (by kernel_rfl) ((Sm.drew w3).blk hB3) ?_
    have h3d := h3.sm (Sm.drew w3)
    have t3d := t3.trans (KTo.of0 ((Sm.drew w3).kp []))
    generalize ({ w3 with drawn := w3.drawn + 1 } : World) = w4 at h3d t3d ⊢
    (repeat refine xo rfl rfl trivial ?_)
    refine x_load (v := I e0.t) rfl rfl (fun w' h' => h'.cell rfl) rfl rfl rfl rfl ?_
    (repeat refine xo rfl rfl trivial ?_)
    refine x_load (v := I e0.o) rfl rfl (fun w' h' => h'.cell rfl) rfl rfl rfl rfl ?_
    refine x_act rfl ?_
    refine o_call (kHolds_ret h3d e0.t) rfl rfl rfl ?_
    rintro v w5 ⟨y, rfl, hyl, h5, t5⟩
    refine o_nil ⟨.inr (hBk (t3d.trans t5)), ?_⟩
    refine x_act rfl ?_
    have hyt : ({ g with H := upT g.H e0.t (some y) } : KG).H e0.t = some y := by simp [upT]
    obtain ⟨q1, q2, _⟩ := can_lock hc hk
    have hlo := h3.ck.ok.sh.2.2.2.1
    have hko : I e0.o = I ((e0.o.toNat : Nat) : Int) := by congr 1; omega
    rw [hko]
    refine o_call (sPut h5.tab (h5.held e0.t y hyt) (by omega)) rfl rfl rfl ?_
    rintro v w6 ⟨rfl, y', hy'⟩
    obtain ⟨h6, t6⟩ := h5.heldTo hyt hy'
    refine o_nil ⟨.inl (by kernel_rfl), ?_⟩
    (repeat refine xn ?_)
    (repeat first|refine zA ?_|refine zg ?_|refine zo rfl rfl trivial ?_|refine zn ?_|refine zr ?_)
    have eH : upT (upT g.H e0.t (some y)) e0.t (some y') = upT g.H e0.t (some y') := by
      funext u; unfold upT
      by_cases hu : u = e0.t
      · rw [if_pos hu, if_pos hu]
      · rw [if_neg hu, if_neg hu, if_neg hu]
    refine ⟨_, rfl, .inl ⟨hc, rfl, { g with H := upT g.H e0.t (some y') }, ?_, ?_, fun u => ?_, ?_⟩⟩
    · rw [← eH]; exact h6
    · rw [← eH]; exact (KTo.of0 k1).trans ((t3d.trans t5).trans t6)
    · unfold eventH
      simp only [if_pos hk]
      by_cases hu : u = e0.t
      · subst hu
        simp only [upT, if_true]
        show y'.l = _
        rw [hy'.l, hyl]
      · simp only [upT, if_neg hu]
    · unfold eventV
      rw [if_neg (by omega)]
  (repeat first|refine zA ?_|refine zg ?_|refine zo rfl rfl trivial ?_|refine zn ?_)
  refine r_if (p := e0.k = 6) rfl (fun hk => ?_) (fun hk6 => ?_)
  · refine r_mix (fun w' => Blk w' bx (evC e0) 35) [(0, false), (1, false), (2, false), (4, false), (5, false), (3, true), (6, true)] follows_mixed (by kernel_rfl) (by kernel_rfl) (by kernel_rfl) ((Sm.drew w3).blk hB3) ?_
    have h3d := h3.sm (Sm.drew w3)
    have t3d := t3.trans (KTo.of0 ((Sm.drew w3).kp []))
    generalize ({ w3 with drawn := w3.drawn + 1 } : World) = w4 at h3d t3d ⊢
    (repeat refine xo rfl rfl trivial ?_)
    refine x_load (v := I e0.t) rfl rfl (fun w' h' => h'.cell rfl) rfl rfl rfl rfl ?_
    (repeat refine xo rfl rfl trivial ?_)
    refine x_load (v := I e0.o) rfl rfl (fun w' h' => h'.cell rfl) rfl rfl rfl rfl ?_
    refine x_act rfl ?_
    refine o_call (kHolds_ret h3d e0.t) rfl rfl rfl ?_
    rintro v w5 ⟨y, rfl, hyl, h5, t5⟩
    refine o_nil ⟨.inr (hBk (t3d.trans t5)), ?_⟩
    refine x_act rfl ?_
    have hyt : ({ g with H := upT g.H e0.t (some y) } : KG).H e0.t = some y := by simp [upT]
    obtain ⟨q1, q2, _⟩ := can_unlock hc hk
    have hlo := h3.ck.ok.sh.2.2.2.1
    have hko : I e0.o = I ((e0.o.toNat : Nat) : Int) := by congr 1; omega
    rw [hko]
    refine o_call (sDel (h5.held e0.t y hyt) (by omega)) rfl rfl rfl ?_
    rintro v w6 ⟨rfl, y', hy'⟩
    obtain ⟨h6, t6⟩ := h5.heldTo hyt hy'
    refine o_nil ⟨.inl (by kernel_rfl), ?_⟩
    (repeat refine xn ?_)
    (repeat first|refine zA ?_|refine zg ?_|refine zo rfl rfl trivial ?_|refine zn ?_|refine zr ?_)
    have eH : upT (upT g.H e0.t (some y)) e0.t (some y') = upT g.H e0.t (some y') := by
      funext u; unfold upT
      by_cases hu : u = e0.t
      · rw [if_pos hu, if_pos hu]
      · rw [if_neg hu, if_neg hu, if_neg hu]
    refine ⟨_, rfl, .inl ⟨hc, rfl, { g with H := upT g.H e0.t (some y') }, ?_, ?_, fun u => ?_, ?_⟩⟩
    · rw [← eH]; exact h6
    · rw [← eH]; exact (KTo.of0 k1).trans ((t3d.trans t5).trans t6)
    · unfold eventH
      simp only [if_neg hk5, if_pos hk]
      by_cases hu : u = e0.t
      · subst hu
        simp only [upT, if_true]
        show y'.l = _
        rw [hy'.l, hyl]
      · simp only [upT, if_neg hu]
    · unfold eventV
      rw [if_neg (by omega)]
  (repeat first|refine zA ?_|refine zB ?_|refine zg ?_|refine zo rfl rfl trivial ?_|refine zn ?_)
  by_cases hrw : e0.k = 1 ∨ e0.k = 2
  rotate_left
  · have q1 : e0.k ≠ 1 := fun q => hrw (.inl q)
    have q2 : e0.k ≠ 2 := fun q => hrw (.inr q)
    refine r_no rfl (by simp [q1]) ?_
    (repeat first|refine zg ?_|refine zo rfl rfl trivial ?_|refine zn ?_)
    refine r_no rfl (by simp [q2]) ?_
    (repeat first|refine zA ?_|refine zg ?_|refine zo rfl rfl trivial ?_|refine zn ?_|refine zr ?_|refine zk ?_)
    refine ⟨_, rfl, .inl ⟨hc, rfl, g, h3, (KTo.of0 k1).trans t3, fun u => ?_, ?_⟩⟩
    · unfold eventH; rw [if_neg hk5, if_neg hk6]
    · unfold eventV; rw [if_neg hrw]
  · obtain ⟨o1, o2⟩ := can_read hc hrw
    have hnv := h3.nv
    have hva := h3.ck.ok.sh.2.1
    have hi : e0.o.toNat < g.vars.length := by omega
    obtain ⟨x, hx⟩ : ∃ x, g.vars[e0.o.toNat]? = some x := ⟨_, List.getElem?_eq_getElem hi⟩
    have eg : gv g e0.o.toNat x = g := gv_same hx
    obtain ⟨vb, L, hvad, _, _, _, _⟩ := KAt.var_ (g := g) (x := x) (by rw [eg]; exact h3) hi
    have hh3 := h3.hdr
    rw [show kgC g = [ptr g.ck.p, .map (some g.mh), .slice (some ⟨vb, 0, none⟩) g.vars.length g.vcap] by rw [kgC, hvad]] at hh3
    have hko : I e0.o = I ((e0.o.toNat : Nat) : Int) := by congr 1; omega
    refine r_cut (α := Unit) [0, 3, 5, 41] (fun _ => [ptr g.kp, ptr bx, I c.n, .bool true]) (fun _ w' => w' = w3) ?_ ?_
    · by_cases q1 : e0.k = 1
      · refine r_yes rfl (by simp [q1]) ?_
        (repeat refine zk ?_)
        exact ⟨(), (by show [ptr g.kp, ptr bx, I c.n, Value.bool (decide (e0.k = 1))] = _; rw [decide_eq_true q1]), rfl⟩
      · refine r_no rfl (by simp [q1]) ?_
        have q2 : e0.k = 2 := by omega
        (repeat first|refine zg ?_|refine zo rfl rfl trivial ?_|refine zn ?_)
        exact ⟨(), (by show [ptr g.kp, ptr bx, I c.n, Value.bool (decide (e0.k = 2))] = _; rw [decide_eq_true q2]), rfl⟩
    rintro ⟨⟩ e w3' rfl
    refine r_cond_t rfl ?_
    refine r_mix (fun w' => Blk w' g.kp [ptr g.ck.p, .map (some g.mh), .slice (some ⟨vb, 0, none⟩) g.vars.length g.vcap] 73 ∧ Blk w' bx (evC e0) 35) [(0, false), (1, false), (2, false), (3, false), (4, false), (5, false), (6, false), (7, false), (8, false), (9, false), (10, false), (12, false), (11, true), (13, true)] follows_mixed (by kernel_rfl) (by kernel_rfl) (by kernel_rfl) ⟨(Sm.drew w3').blk hh3, (Sm.drew w3').blk hB3⟩ ?_
    have h3d := h3.sm (Sm.drew w3')
    have t3d := t3.trans (KTo.of0 ((Sm.drew w3').kp []))
    generalize ({ w3' with drawn := w3'.drawn + 1 } : World) = w4 at h3d t3d ⊢
    (repeat refine xo rfl rfl trivial ?_)
    refine x_load (v := .slice (some ⟨vb, 0, none⟩) g.vars.length g.vcap) rfl rfl (fun w' h' => h'.1.cell rfl) rfl rfl rfl rfl ?_
    (repeat refine xo rfl rfl trivial ?_)
    refine x_load (v := I e0.o) rfl rfl (fun w' h' => h'.2.cell rfl) rfl rfl rfl rfl ?_
    (repeat refine xo rfl rfl (by first|exact trivial|(simp only[AllP];omega)) ?_)
    refine x_loadA (vs := evC e0) rfl rfl (fun w' h' j v hv => by rw [Nat.zero_add]; exact h'.2.cell hv) rfl rfl rfl rfl rfl rfl ?_
    (repeat refine xo rfl rfl trivial ?_)
    refine x_load (v := I e0.t) rfl rfl (fun w' h' => h'.2.cell rfl) rfl rfl rfl rfl ?_
    (repeat refine xo rfl rfl trivial ?_)
    refine x_act rfl ?_
    refine o_call (kHolds_ret h3d e0.t) rfl rfl rfl ?_
    rintro v w5 ⟨y, rfl, hyl, h5, t5⟩
    refine o_nil ⟨.inr ⟨?_, hBk (t3d.trans t5)⟩, ?_⟩
    · have := h5.hdr
      rw [show kgC { g with H := upT g.H e0.t (some y) } = [ptr g.ck.p, .map (some g.mh), .slice (some ⟨vb, 0, none⟩) g.vars.length g.vcap] by rw [kgC, hvad]] at this
      exact this
    refine x_act rfl ?_
    have eg5 : gv { g with H := upT g.H e0.t (some y) } e0.o.toNat x = { g with H := upT g.H e0.t (some y) } := gv_same hx
    have hzz : Value.pointer (some ⟨vb, 0 + e0.o.toNat * 6, none⟩) = .pointer (some ⟨vb, e0.o.toNat * 6, none⟩) := by rw [Nat.zero_add]
    refine o_call (access_ret (g := { g with H := upT g.H e0.t (some y) }) (x := x) (by rw [eg5]; exact h5) hi (by omega) hvad e0 (t := e0.t) (hx := y) (by simp [upT]) (hvo x (List.mem_of_getElem? hx)) (c.n : Int)) ?_ rfl rfl ?_
    · rw [← hzz]; rfl
    rintro v w6 ⟨rfl, x', h6, t6, hx'⟩
    rw [eg5] at t6
    refine o_nil ⟨.inl (by kernel_rfl), ?_⟩
    (repeat refine xn ?_)
    (repeat first|refine zA ?_|refine zg ?_|refine zo rfl rfl trivial ?_|refine zn ?_|refine zr ?_)
    refine ⟨_, rfl, .inl ⟨hc, rfl, _, h6, (KTo.of0 k1).trans ((t3d.trans t5).trans t6), fun u => ?_, ?_⟩⟩
    · unfold eventH
      rw [if_neg hk5, if_neg hk6]
      show oL (upT g.H e0.t (some y) u) = _
      by_cases hu : u = e0.t
      · subst hu
        simp only [upT, if_true]
        exact hyl
      · simp only [upT, if_neg hu]
    · unfold eventV
      rw [if_pos hrw]
      have hm : (g.vars.map varM)[e0.o.toNat]? = some (varM x) := by rw [List.getElem?_map, hx]; rfl
      rw [hm]
      show (g.vars.set e0.o.toNat x').map varM = _
      rw [List.map_set, hx', hyl]
end
end Go.Vc
