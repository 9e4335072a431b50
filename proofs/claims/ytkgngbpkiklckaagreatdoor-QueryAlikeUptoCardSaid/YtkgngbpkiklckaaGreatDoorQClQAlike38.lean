/- Query: a node made ready. -/
import Derived.Test.YtkgngbpkiklckaaGreatDoorQClQAlike37
namespace Go.Vc
open Go Go.Proofs
set_option maxRecDepth 10000
variable {g : MG} {W : World} {f : List UInt8 → Option Int} {s : Nat}
theorem good_shape {t : QT} {k : Nat} (hg : goodT t) (hk : t.op = k) : (kidsO k = 0 → ∃ num name, t = .n0 k num name) ∧ (kidsO k = 1 → ∃ num name a, t = .n1 k num name a) ∧ (kidsO k = 2 → ∃ num name a b, t = .n2 k num name a b) := by
  obtain ⟨k', hk', _, _, hl⟩ := good_op hg
  obtain rfl : k' = k := by omega
  rw [← hl]
  cases t with
  | n0 op num name => exact ⟨fun _ => ⟨num, name, by rw [show op = k' from hk]⟩, fun h => by simp [QT.kids] at h, fun h => by simp [QT.kids] at h⟩
  | n1 op num name a => exact ⟨fun h => by simp [QT.kids] at h, fun _ => ⟨num, name, a, by rw [show op = k' from hk]⟩, fun h => by simp [QT.kids] at h⟩
  | n2 op num name a b => exact ⟨fun h => by simp [QT.kids] at h, fun h => by simp [QT.kids] at h, fun _ => ⟨num, name, a, b, by rw [show op = k' from hk]⟩⟩
/-- a function's value that answers so, whatever becomes of the machine's blocks and of blocks between hT and lo -/
def AsksL (g : MG) (hT lo : Nat) (ans : Ans) (w0 : World) (v : Value) : Prop :=
  ∃ fn first caps, v = .func (.func fn) first caps ∧ ∀ S' W f s, (∀ b ∈ S', b ∈ g.F ∨ (hT ≤ b ∧ b < lo)) → Kp S' w0 W → MAt W g f s → s ≤ g.fuel → RetP Tryz.prog fn (first.toList ++ caps.toList) W (AskR g (ans (sg f)) W f s) (AskE g (ans (sg f)) W s)
theorem AsksL.kp {hT lo : Nat} {ans : Ans} {w0 w1 : World} {v : Value} {F : List Nat} (h : AsksL g hT lo ans w0 v) (hk : Kp F w0 w1) (hF : ∀ b ∈ F, b ∈ g.F ∨ (hT ≤ b ∧ b < lo)) : AsksL g hT lo ans w1 v := by
  obtain ⟨fn, first, caps, hv, h⟩ := h
  refine ⟨fn, first, caps, hv, fun S' W f s hS hk2 => h (F ++ S') W f s (fun b hb => ?_) ((hk.mono (by simp +contextual)).trans (hk2.mono (by simp +contextual)))⟩
  rcases List.mem_append.1 hb with hb | hb
  · exact hF b hb
  · exact hS b hb
theorem AsksL.lo {hT lo lo' : Nat} {ans : Ans} {w0 : World} {v : Value} (h : AsksL g hT lo ans w0 v) (hl : lo' ≤ lo) : AsksL g hT lo' ans w0 v := by
  obtain ⟨fn, first, caps, hv, h⟩ := h
  exact ⟨fn, first, caps, hv, fun S' W f s hS => h S' W f s (fun b hb => (hS b hb).imp id (fun ⟨h1, h2⟩ => ⟨h1, by omega⟩))⟩
theorem AsksL.c {hT lo : Nat} {ans : Ans} {w0 : World} {v : Value} (h : AsksL g hT lo ans w0 v) : AsksC g ans w0 v := by
  obtain ⟨fn, first, caps, hv, h⟩ := h
  exact ⟨fn, first, caps, hv, fun W f s hk => h g.F W f s (fun b hb => .inl hb) hk⟩
/-- one step, then the rest -/
theorem ready1_ok (h : MAt W g f s) (hg : g.Ok) (hs : s ≤ g.fuel) {bm bd : Nat} {vd : Value} {a : Ans} (hm : Blk W bm [ptr g.p] 111) (hd : Blk W bd [vd] 201) (om : bm ∉ g.F) (od : bd ∉ g.F) (hA : AsksC g a W vd) :
    RetP Tryz.prog 138 [ptr bm, ptr bd] W (AskR g ((a (sg f)).1, 1 + (a (sg f)).2) W f s) (AskE g ((a (sg f)).1, 1 + (a (sg f)).2) W s) := by
  obtain ⟨fn, first, caps, rfl, hA⟩ := hA
  have hF := hg.fu
  have hH := h.hdr
  refine enterP Tryz.call138 Tryz.func138 rfl rfl rfl rfl ?_
  (repeat first|refine zA ?_|refine zB ?_|refine zg ?_|refine zo rfl rfl trivial ?_|refine zn ?_|refine o_load rfl hm rfl rfl rfl rfl rfl ?_)
  (repeat first|refine zo rfl rfl (by first|exact trivial|(simp only[AllP];omega)) ?_|refine o_load rfl hH rfl rfl rfl rfl rfl ?_)
  refine o_store (b := g.p) (off := 2) (v := I ((s : Int) + 1)) rfl hH (by simp) rfl rfl rfl rfl rfl rfl ?_
  intro w1 hu1
  have k1 : Kp g.F W w1 := hu1.kp _ (.inl (by simp [MG.F]))
  have h1 : MAt w1 g f (s + 1) := by
    refine ⟨hu1.blk, h.map.kp (hu1.kp [g.p] (.inl (by simp))) (by simpa using hg.ne.symm), h.ord.kp (hu1.kp [g.p] (.inl (by simp))) (fun b hb => ?_)⟩
    have := hg.op b hb
    simp only [MG.F, List.mem_cons, List.not_mem_nil, or_false, not_or] at this
    simpa using this.1
  have hm1 := k1.blk om hm
  have hd1 := k1.blk od hd
  have hH1 := h1.hdr
  clear hu1
  (repeat refine zn ?_)
  refine r_seq ?_
  refine r_bool [0, 1] [ptr bm, ptr bd] 18 (decide (g.fuel < s + 1)) (fun w' => Sm w1 w') ?_ ?_
  · refine r_quietS follows_mixed (by kernel_rfl) ?_
    (repeat first|refine yo rfl rfl trivial ?_|refine q_load rfl (fun _ hs => (Sm.blk hs hm1).cell rfl) rfl rfl rfl rfl ?_)
    (repeat refine q_load rfl (fun _ hs => (Sm.blk hs hH1).cell rfl) rfl rfl rfl rfl ?_)
    (repeat first|refine yo rfl rfl trivial ?_|refine q_load rfl (fun _ hs => (Sm.blk hs hm1).cell rfl) rfl rfl rfl rfl ?_)
    (repeat first|refine yo rfl rfl trivial ?_|refine yn ?_|refine q_load rfl (fun _ hs => (Sm.blk hs hH1).cell rfl) rfl rfl rfl rfl ?_)
    intro w' hs'
    refine ⟨rfl, ⟨_, rfl, ?_⟩, hs'⟩
    rw [decide_eq_decide]; omega
  rintro e2 w2 s2
  have h2 := h1.kp0 (s2.kp [])
  have k2 := k1.trans (s2.kp _)
  refine r_if rfl (fun hc => ?_) (fun hc => ?_)
  · (repeat refine zg ?_)
    refine o_build [] rfl rfl rfl rfl rfl rfl rfl ?_
    refine o_iface rfl rfl rfl rfl rfl ?_
    refine o_panic rfl rfl ?_
    exact ⟨by dsimp only; omega, rfl, k2, f, s + 1, h2⟩
  · have hd2 := s2.blk hd1
    (repeat first|refine zA ?_|refine zg ?_|refine zk ?_|refine o_load rfl hd2 rfl rfl rfl rfl rfl ?_)
    refine o_callvP (first := first) (cap := caps) (hA w2 f (s + 1) k2 h2 (by omega)) rfl (by simp) rfl rfl (fun v w' hE => askE_of k2 hE (c := 1) rfl (Nat.le_refl _)) ?_
    rintro v w3 ⟨rfl, j1, j2, j3⟩
    (repeat first|refine zo rfl rfl trivial ?_|refine zn ?_|refine zr ?_)
    exact ⟨_, rfl, rfl, by dsimp only; omega, by dsimp only; rw [← Nat.add_assoc]; exact j2, k2.trans j3⟩
end Go.Vc
/- Query: work. -/
namespace Go.Vc
open Go Go.Proofs
set_option maxRecDepth 10000
variable {g : MG} {W : World} {f : List UInt8 → Option Int} {s : Nat}
noncomputable abbrev QO (g : MG) : QW := qwO g.E g.R
theorem bind_ret {w : World} {p q : Nat} {vk : Value} (hvk : ∃ fn first caps, vk = .func (.func fn) first caps) : Ret Tryz.prog 165 [ptr p, ptr q, vk] w (fun v w' => ∃ bm bt bk, v = .func (.func 186) #[] #[ptr bm, ptr bt, ptr bk] ∧ Blk w' bm [ptr p] 111 ∧ Blk w' bt [ptr q] 87 ∧ Blk w' bk [vk] 201 ∧ w.heap.size ≤ bm ∧ w.heap.size ≤ bt ∧ w.heap.size ≤ bk ∧ Kp [] w w') := by
  obtain ⟨fn, first, caps, rfl⟩ := hvk
  refine enter Tryz.call165 Tryz.func165 rfl rfl rfl rfl ?_
  (repeat first|refine zA ?_|refine zg ?_)
  refine o_box rfl rfl rfl ?_
  intro b3 w1 e3 hu1
  refine o_box rfl rfl rfl ?_
  intro b4 w2 e4 hu2
  refine o_box rfl rfl rfl ?_
  intro b5 w3 e5 hu3
  have l1 := hu1.lt
  have l2 := hu2.lt
  have k1 : Kp [] w w1 := hu1.kp [] (.inr (by omega))
  have k2 : Kp [] w1 w2 := hu2.kp [] (.inr (by omega))
  have k3 : Kp [] w2 w3 := hu3.kp [] (.inr (by omega))
  have y1 := k1.size
  have y2 := k2.size
  (repeat first|refine zA ?_|refine zg ?_|refine zo rfl rfl trivial ?_|refine zn ?_|refine zr ?_)
  exact ⟨_, rfl, b3, b4, b5, rfl, (k2.trans k3).blk (by simp) hu1.blk, k3.blk (by simp) hu2.blk, hu3.blk, by omega, by omega, by omega, (k1.trans k2).trans k3⟩
theorem evd_one {Q : QW} {op num : Int} {name : List UInt8} {a : QT} {σ : List UInt8 → Int} (h : ¬ 22 ≤ op) : evd Q (.n1 op num name a) σ = (oneV Q op (evq Q a σ).1, (evq Q a σ).2) := by simp [evd, h]
theorem evd_two {Q : QW} {op num : Int} {name : List UInt8} {a b : QT} {σ : List UInt8 → Int} (h1 : op ≠ 18) (h2 : op ≠ 19) : evd Q (.n2 op num name a b) σ = (pairV Q op (evq Q a σ).1 (evq Q b σ).1, (evq Q a σ).2 + (evq Q b σ).2) := by simp [evd, h1, h2]
set_option maxHeartbeats 25600000 in
theorem work_ret {t : QT} (hg : goodT t) {wT w : World} {l0 q lo kcap : Nat} {kad : Option Addr} {vs : List Value} (hT : TreeAt shQ l0 wT t q) (kT : Kp [] wT w) (hF : ∀ b ∈ g.F, wT.heap.size ≤ b ∧ b < lo) (hlo : lo ≤ w.heap.size) (hM : MAt w g f s) (hok : g.Ok)
    (hR : ReadS w kad vs) (hvl : vs.length = t.kids.length) (hkad : ∀ b ∈ blkOf kad, lo ≤ b) (hv : ∀ (i : Nat) v k, vs[i]? = some v → t.kids[i]? = some k → AsksL g wT.heap.size lo (evq (QO g) k) w v) :
    Ret Tryz.prog 137 [ptr g.p, ptr q, .slice kad t.kids.length kcap] w (fun v w' => AsksL g wT.heap.size lo (evd (QO g) t) w' v ∧ Kp [] w w') := by
  obtain ⟨k, hk, hk1, hk2, hkl⟩ := good_op hg
  obtain ⟨gs0, gs1, gs2⟩ := good_shape hg hk
  obtain ⟨bad, bcap, ks, hks, hB, _, _, _⟩ := hT.view
  rw [hk] at hB
  have hql := hB.lt
  have hBw := kT.blk (by simp) hB
  have hH := hM.hdr
  have yT := kT.size
  refine enter Tryz.call137 Tryz.func137 rfl rfl rfl rfl ?_
  (repeat first|refine zA ?_|refine zg ?_)
  refine o_box rfl rfl rfl ?_
  intro b3 w1 e3 hu1
  refine o_box rfl rfl rfl ?_
  intro b4 w2 e4 hu2
  refine o_box rfl rfl rfl ?_
  intro b5 w3 e5 hu3
  have l1 := hu1.lt
  have l2 := hu2.lt
  have l3 := hu3.lt
  have k1 : Kp [] w w1 := hu1.kp [] (.inr (by omega))
  have k2 : Kp [] w1 w2 := hu2.kp [] (.inr (by omega))
  have k3 : Kp [] w2 w3 := hu3.kp [] (.inr (by omega))
  have y1 := k1.size
  have y2 := k2.size
  have h3 : Blk w3 b3 [ptr g.p] 111 := (k2.trans k3).blk (by simp) hu1.blk
  have h4 : Blk w3 b4 [ptr q] 87 := k3.blk (by simp) hu2.blk
  have h5 : Blk w3 b5 [.slice kad t.kids.length kcap] 246 := hu3.blk
  have k03 : Kp [] w w3 := (k1.trans k2).trans k3
  clear hu1 hu2 hu3
  have hB3 := k03.blk (by simp) hBw
  (repeat first|refine zA ?_|refine zg ?_|refine zo rfl rfl trivial ?_|refine zn ?_|refine o_load rfl h4 rfl rfl rfl rfl rfl ?_)
  (repeat refine o_load rfl hB3 rfl rfl rfl rfl rfl ?_)
  refine o_alloc rfl rfl rfl rfl ?_
  intro b7 w4 e7 hu4
  refine o_store (b := b7) (off := 0) (v := I k) rfl hu4.blk (by decide) rfl rfl rfl rfl rfl rfl ?_
  intro w5 hu5
  have l4 := hu4.lt
  have k35 : Kp [] w3 w5 := (hu4.kp [] (.inr (by omega))).since (hu5.kp [b7] (.inl (by simp))) (by simp; omega)
  have h7 : Blk w5 b7 [I k] 51 := hu5.blk
  have k05 := k03.trans k35
  have h35 := k35.blk (by simp) h3
  have h45 := k35.blk (by simp) h4
  have h55 := k35.blk (by simp) h5
  have hB5 := k35.blk (by simp) hB3
  have hM5 := hM.kp0 k05
  have y3 := k03.size
  clear hu4 hu5
  have boxlo : lo ≤ b3 ∧ lo ≤ b4 ∧ lo ≤ b5 ∧ lo ≤ b7 := by omega
  obtain ⟨z3, z4, z5, z7⟩ := boxlo
  -- what stands in the worlds to come
  have fut : ∀ {S' : List Nat} {W : World}, (∀ b ∈ S', b ∈ g.F ∨ (wT.heap.size ≤ b ∧ b < lo)) → Kp S' w5 W →
      Blk W b3 [ptr g.p] 111 ∧ Blk W b4 [ptr q] 87 ∧ Blk W b7 [I k] 51 ∧ TreeAt shQ l0 W t q ∧ KBox g W b5 (t.kids.map fun k => evq (QO g) k) := by
    intro S' W hS kS
    have out : ∀ {b : Nat}, lo ≤ b → b ∉ S' := fun hb hbS => by
      rcases hS _ hbS with h | h
      · have := (hF _ h).2; omega
      · omega
    have outF : ∀ {b : Nat}, lo ≤ b → b ∉ g.F := fun hb hbF => by have := (hF _ hbF).2; omega
    refine ⟨kS.blk (out z3) h35, kS.blk (out z4) h45, kS.blk (out z7) h7, hT.kp ((kT.trans k05).since kS (fun b hb => ?_)) (by simp), ⟨⟨kad, kcap, vs, ?_, (hR.kp k05 (by simp)).kp kS (fun b hb => out (hkad b hb)), fun b hb => outF (hkad b hb), by rw [hvl, List.length_map], fun i v a hi ha => ?_⟩, outF z5⟩⟩
    · rcases hS b hb with h | h
      · exact (hF b h).1
      · exact h.1
    · rw [List.length_map]; exact kS.blk (out z5) h55
    · rw [List.getElem?_map] at ha
      cases hx : t.kids[i]? with
      | none => rw [hx] at ha; cases ha
      | some c =>
        rw [hx] at ha
        cases ha
        exact (((hv i v c hi hx).kp k05 (by simp)).kp kS hS).c
  have outF : ∀ {b : Nat}, lo ≤ b → b ∉ g.F := fun hb hbF => by have := (hF _ hbF).2; omega
  have qF : q ∉ g.F := fun hb => by have := (hF _ hb).1; omega
  (repeat first|refine zA ?_|refine zg ?_|refine zo rfl rfl trivial ?_|refine zn ?_|refine zb ?_|refine o_load rfl h7 rfl rfl rfl rfl rfl ?_)
  refine r_if rfl (fun c => ?_) (fun c => ?_)
  · -- a number
    obtain rfl : k = 1 := by omega
    obtain ⟨num, name, rfl⟩ := gs0 rfl
    (repeat first|refine zA ?_|refine zg ?_|refine zo rfl rfl trivial ?_|refine zn ?_|refine zr ?_)
    refine ⟨_, rfl, ⟨_, #[], #[ptr b4], rfl, fun S' W f s hS kS hMW hs => ?_⟩, k05⟩
    obtain ⟨_, j4, _, jT, _⟩ := fut hS kS
    exact work1_ok hMW hs j4 jT
  (repeat first|refine zA ?_|refine zg ?_|refine zo rfl rfl trivial ?_|refine zn ?_|refine o_load rfl h7 rfl rfl rfl rfl rfl ?_)
  refine r_if rfl (fun c => ?_) (fun c => ?_)
  · obtain rfl : k = 2 := by omega
    obtain ⟨num, name, rfl⟩ := gs0 rfl
    (repeat first|refine zA ?_|refine zg ?_|refine zo rfl rfl trivial ?_|refine zn ?_|refine zr ?_)
    refine ⟨_, rfl, ⟨_, #[], #[ptr b3, ptr b4], rfl, fun S' W f s hS kS hMW hs => ?_⟩, k05⟩
    obtain ⟨j3, j4, _, jT, _⟩ := fut hS kS
    exact work2_ok hMW hs j3 j4 jT
  (repeat first|refine zA ?_|refine zg ?_|refine zo rfl rfl trivial ?_|refine zn ?_|refine o_load rfl h7 rfl rfl rfl rfl rfl ?_)
  refine r_if rfl (fun c => ?_) (fun c => ?_)
  · obtain rfl : k = 3 := by omega
    obtain ⟨num, name, rfl⟩ := gs0 rfl
    have hH5 := hM5.hdr
    (repeat first|refine zA ?_|refine zg ?_|refine zo rfl rfl trivial ?_|refine o_load rfl h35 rfl rfl rfl rfl rfl ?_)
    (repeat first|refine zo rfl rfl trivial ?_|refine zn ?_|refine zr ?_|refine o_load rfl hH5 rfl rfl rfl rfl rfl ?_)
    refine ⟨_, rfl, ⟨_, #[ptr g.og.p], #[], rfl, fun S' W f s hS kS hMW hs => ?_⟩, k05⟩
    refine ((oLen_ret hMW.ord.toOrB).p).mono ?_ (fun _ _ h => h)
    rintro v w' ⟨rfl, rfl⟩
    exact ⟨rfl, hs, hMW, Kp.refl _ _⟩
  (repeat first|refine zA ?_|refine zg ?_|refine zo rfl rfl trivial ?_|refine o_load rfl h45 rfl rfl rfl rfl rfl ?_)
  refine o_load (v := .bool (bindsO k)) rfl hB5 rfl rfl rfl rfl rfl ?_
  (repeat first|refine zo rfl rfl trivial ?_|refine zn ?_)
  refine r_cond rfl (fun hbi => ?_) (fun hbi => ?_)
  · -- what binds
    have hb22 : 22 ≤ k ∧ k ≤ 26 := by simpa [bindsO] using hbi
    have hk1' : kidsO k = 1 := by
      have : k = 22 ∨ k = 23 ∨ k = 24 ∨ k = 25 ∨ k = 26 := by omega
      rcases this with rfl | rfl | rfl | rfl | rfl <;> rfl
    obtain ⟨num, name, a, rfl⟩ := gs1 hk1'
    obtain ⟨v0, hv0⟩ : ∃ v0, vs[0]? = some v0 := ⟨_, List.getElem?_eq_getElem (by rw [hvl]; exact Nat.one_pos)⟩
    have hA0 := (hv 0 v0 a hv0 rfl)
    obtain ⟨fn, first, caps, rfl, hA0'⟩ := hA0
    obtain ⟨b0, off, rfl, hb0l, hc0⟩ := hR.at_ (by rw [hvl]; exact Nat.one_pos)
    have hcell : ∀ w', Kp [] w w' → w'.cell? ⟨b0, off + 0, none⟩ = some (.func (.func fn) first caps) := fun w' hk' => by
      rw [← hc0 0 _ hv0]; exact World.cell?_of_block (hk'.at_ b0 hb0l (by simp))
    refine r_seq ?_
    refine r_cut (α := Value) [6] (fun v => [v]) (fun v w' => AsksL g wT.heap.size lo (evd (QO g) (.n1 k num name a)) w' v ∧ Kp [] w w') ?_ ?_
    · refine r_mix (fun w' => Kp [] w5 w') [(0, false), (1, false), (2, false), (3, false), (4, false), (5, true), (6, false)] follows_mixed (by kernel_rfl) (by kernel_rfl) (by kernel_rfl) ((Sm.drew w5).kp []) ?_
      have sd := (Sm.drew w5).kp []
      generalize ({ w5 with drawn := w5.drawn + 1 } : World) = wd at sd ⊢
      refine x_load rfl rfl (fun w' h' => (h'.blk (by simp) h35).cell rfl) rfl rfl rfl rfl ?_
      refine x_load rfl rfl (fun w' h' => (h'.blk (by simp) h45).cell rfl) rfl rfl rfl rfl ?_
      refine x_load (v := .slice (some ⟨b0, off, none⟩) 1 kcap) rfl rfl (fun w' h' => (h'.blk (by simp) h55).cell rfl) rfl rfl rfl rfl ?_
      refine xo rfl rfl (by simp only [AllP]; omega) ?_
      refine x_load (v := .func (.func fn) first caps) rfl rfl (fun w' h' => hcell w' (k05.trans h')) rfl rfl rfl rfl ?_
      refine x_act rfl ?_
      refine o_call (bind_ret ⟨fn, first, caps, rfl⟩) rfl rfl rfl ?_
      rintro v w6 ⟨bm, bt, bk, rfl, jm, jt, jk, gm, gt, gk, k6⟩
      have yd := sd.size
      have k56 := sd.trans k6
      have y5 := k05.size
      refine o_nil ⟨.inr k56, ?_⟩
      (repeat first|refine xo rfl rfl trivial ?_|refine xn ?_)
      refine ⟨_, rfl, ⟨_, #[], #[ptr bm, ptr bt, ptr bk], rfl, fun S' W f s hS kS hMW hs => ?_⟩, k05.trans k56⟩
      have out : ∀ {b : Nat}, lo ≤ b → b ∉ S' := fun hb hbS => by
        rcases hS _ hbS with h | h
        · have := (hF _ h).2; omega
        · omega
      have hqW : Blk W q _ 121 := ((kT.trans k05).trans k56).since kS (fun b hb => by
        rcases hS b hb with h | h
        · exact (hF b h).1
        · exact h.1) |>.blk (by simp) hB
      have hz : evd (QO g) (.n1 k num name a) (sg f) = bindA g k name (evq (QO g) a) (sg f) := by
        have h22 : (22 : Int) ≤ k := by omega
        simp [evd, bindA, h22]
      rw [hz]
      refine binds_ok (q := q) hMW hok hs (Kp.refl _ _) (kS.blk (out (by omega)) jm) (kS.blk (out (by omega)) jt) (kS.blk (out (by omega)) jk) hqW rfl rfl hb22 ?_ ((((hv 0 _ a hv0 rfl).kp (k05.trans k56) (by simp)).kp kS hS).c)
      simp only [List.mem_cons, List.not_mem_nil, or_false, forall_eq_or_imp, forall_eq]
      exact ⟨outF (by omega), outF (by omega), outF (by omega), qF⟩
    rintro v e6 w6 ⟨⟨fn', first', caps', rfl, hA6⟩, k6⟩
    (repeat refine zr ?_)
    exact ⟨_, rfl, ⟨fn', first', caps', rfl, hA6⟩, k6⟩
  have hnb : ¬ 22 ≤ k := by
    intro h
    simp only [bindsO, Bool.and_eq_false_iff, decide_eq_false_iff_not] at hbi
    omega
  have hnbI : ¬ (22 : Int) ≤ k := by omega
  (repeat first|refine zA ?_|refine zg ?_|refine zo rfl rfl trivial ?_|refine zn ?_|refine o_load rfl h7 rfl rfl rfl rfl rfl ?_)
  refine r_if rfl (fun c => ?_) (fun c => ?_)
  · obtain rfl : k = 4 := by omega
    obtain ⟨num, name, a, rfl⟩ := gs1 rfl
    (repeat first|refine zA ?_|refine zg ?_|refine zo rfl rfl trivial ?_|refine zn ?_|refine zr ?_)
    refine ⟨_, rfl, ⟨_, #[], #[ptr b5], rfl, fun S' W f s hS kS hMW hs => ?_⟩, k05⟩
    obtain ⟨_, _, _, _, jK⟩ := fut hS kS
    rw [evd_one hnbI]
    exact work3_ok jK (Kp.refl _ _) hMW hs
  (repeat first|refine zA ?_|refine zg ?_|refine zo rfl rfl trivial ?_|refine zn ?_|refine o_load rfl h7 rfl rfl rfl rfl rfl ?_)
  refine r_if rfl (fun c => ?_) (fun c => ?_)
  · obtain rfl : k = 17 := by omega
    obtain ⟨num, name, a, rfl⟩ := gs1 rfl
    (repeat first|refine zA ?_|refine zg ?_|refine zo rfl rfl trivial ?_|refine zn ?_|refine zr ?_)
    refine ⟨_, rfl, ⟨_, #[], #[ptr b5], rfl, fun S' W f s hS kS hMW hs => ?_⟩, k05⟩
    obtain ⟨_, _, _, _, jK⟩ := fut hS kS
    rw [evd_one hnbI]
    exact work4_ok jK (Kp.refl _ _) hMW hs
  (repeat first|refine zA ?_|refine zg ?_|refine zo rfl rfl trivial ?_|refine zn ?_|refine o_load rfl h7 rfl rfl rfl rfl rfl ?_)
  refine r_if rfl (fun c => ?_) (fun c => ?_)
  · obtain rfl : k = 18 := by omega
    obtain ⟨num, name, a, b, rfl⟩ := gs2 rfl
    (repeat first|refine zA ?_|refine zg ?_|refine zo rfl rfl trivial ?_|refine zn ?_|refine zr ?_)
    refine ⟨_, rfl, ⟨_, #[], #[ptr b5], rfl, fun S' W f s hS kS hMW hs => ?_⟩, k05⟩
    obtain ⟨_, _, _, _, jK⟩ := fut hS kS
    exact work5_ok jK (Kp.refl _ _) hMW hs
  (repeat first|refine zA ?_|refine zg ?_|refine zo rfl rfl trivial ?_|refine zn ?_|refine o_load rfl h7 rfl rfl rfl rfl rfl ?_)
  refine r_if rfl (fun c => ?_) (fun c => ?_)
  · obtain rfl : k = 19 := by omega
    obtain ⟨num, name, a, b, rfl⟩ := gs2 rfl
    (repeat first|refine zA ?_|refine zg ?_|refine zo rfl rfl trivial ?_|refine zn ?_|refine zr ?_)
    refine ⟨_, rfl, ⟨_, #[], #[ptr b5], rfl, fun S' W f s hS kS hMW hs => ?_⟩, k05⟩
    obtain ⟨_, _, _, _, jK⟩ := fut hS kS
    exact work6_ok jK (Kp.refl _ _) hMW hs
  (repeat first|refine zA ?_|refine zg ?_|refine zo rfl rfl trivial ?_|refine zn ?_|refine o_load rfl h55 rfl rfl rfl rfl rfl ?_)
  refine r_if rfl (fun c1 => ?_) (fun c1 => ?_)
  · have hk1' : kidsO k = 1 := by omega
    obtain ⟨num, name, a, rfl⟩ := gs1 hk1'
    (repeat first|refine zA ?_|refine zg ?_|refine zo rfl rfl trivial ?_|refine zn ?_|refine zr ?_)
    refine ⟨_, rfl, ⟨_, #[], #[ptr b3, ptr b7, ptr b5], rfl, fun S' W f s hS kS hMW hs => ?_⟩, k05⟩
    obtain ⟨j3, _, j7, _, jK⟩ := fut hS kS
    rw [evd_one hnbI]
    have e : oneV (QO g) k (evq (QO g) a (sg f)).1 = partQ g.E k (evq (QO g) a (sg f)).1 := by
      unfold oneV; rw [if_neg (by omega), if_neg (by omega)]; rfl
    rw [e]
    exact work7_ok jK (Kp.refl _ _) hMW hs j3 (outF z3) j7 (outF z7)
  · have hk2' : kidsO k = 2 := by
      have := kidsO_le k
      have h0 : kidsO k ≠ 0 := by
        intro h0
        rcases kids_cases hk1 hk2 with ⟨_, h⟩ | ⟨h, _⟩ | ⟨h, _⟩ <;> omega
      omega
    obtain ⟨num, name, a, b, rfl⟩ := gs2 hk2'
    (repeat first|refine zA ?_|refine zg ?_|refine zo rfl rfl trivial ?_|refine zn ?_|refine zr ?_)
    refine ⟨_, rfl, ⟨_, #[], #[ptr b5, ptr b3, ptr b7], rfl, fun S' W f s hS kS hMW hs => ?_⟩, k05⟩
    obtain ⟨j3, _, j7, _, jK⟩ := fut hS kS
    rw [evd_two (by omega) (by omega)]
    exact work8_ok jK (Kp.refl _ _) hMW hs j3 (outF z3) j7 (outF z7)
end Go.Vc
/- Query: ready, run. -/
namespace Go.Vc
open Go Go.Proofs
set_option maxRecDepth 10000
variable {g : MG}
set_option maxHeartbeats 12800000 in
theorem ready_ret : ∀ t : QT, goodT t → ∀ {wT w : World} {l0 q s : Nat} {f : List UInt8 → Option Int}, TreeAt shQ l0 wT t q → Kp [] wT w → (∀ b ∈ g.F, wT.heap.size ≤ b) → MAt w g f s → g.Ok →
    Ret Tryz.prog 95 [ptr g.p, ptr q] w (fun v w' => AsksL g wT.heap.size w.heap.size (evq (QO g) t) w' v ∧ Kp [] w w') := by
  intro t
  induction t using QT.ind with
  | h t ih =>
  intro hg wT w l0 q s f hT kT hFT hM hok
  obtain ⟨bad, bcap, ks, hks, hB, hR, hK, _⟩ := hT.view
  have hBw := kT.blk (by simp) hB
  have hkl : ks.length ≤ 2 := by rw [← List.length_map (f := fun x : Nat × QT => x.2), hks]; exact t.kids_len
  have hkl' : ks.length = t.kids.length := by rw [← hks, List.length_map]
  have yT := kT.size
  have hF : ∀ b ∈ g.F, wT.heap.size ≤ b ∧ b < w.heap.size := fun b hb => ⟨hFT b hb, by
    simp only [MG.F, List.mem_cons, List.not_mem_nil, or_false] at hb
    rcases hb with rfl | rfl
    · exact hM.hdr.lt
    · exact hM.map.lt⟩
  refine enter Tryz.call95 Tryz.func95 rfl rfl rfl rfl ?_
  (repeat first|refine zA ?_|refine zg ?_)
  refine o_box rfl rfl rfl ?_
  intro b2 w1 e2 hu1
  have k1 : Kp [] w w1 := hu1.kp [] (.inr (by omega))
  have h21 : Blk w1 b2 [ptr g.p] 111 := hu1.blk
  have l1 := h21.lt
  have hB1 := k1.blk (by simp) hBw
  clear hu1
  (repeat first|refine zA ?_|refine zB ?_|refine zg ?_|refine zo rfl rfl trivial ?_|refine zn ?_)
  refine o_load (v := .slice bad ks.length bcap) rfl hB1 rfl rfl rfl rfl rfl ?_
  (repeat first|refine zo rfl rfl trivial ?_|refine zn ?_|refine zb ?_)
  refine r_loop (α := List Value × Option Addr × Nat) [1, 2, 5, 12, 13, 14] (fun x => [ptr q, ptr b2, .slice x.2.1 x.1.length x.2.2, .slice bad ks.length bcap, I ks.length, I x.1.length])
    (fun x W => x.1.length ≤ ks.length ∧ Kp [] w1 W ∧ OwnS W 201 1 x.2.1 x.1.length x.2.2 x.1 ∧ (∀ b ∈ blkOf x.2.1, w1.heap.size ≤ b) ∧
      ∀ (i : Nat) v k, x.1[i]? = some v → t.kids[i]? = some k → ∃ Wi loi Fi, AsksL g wT.heap.size loi (evq (QO g) k) Wi v ∧ w.heap.size ≤ loi ∧ Kp Fi Wi W ∧ (∀ b ∈ Fi, wT.heap.size ≤ b ∧ b < loi) ∧ ∀ b ∈ blkOf x.2.1, b < loi ∨ Wi.heap.size ≤ b)
    (fun x => ks.length - x.1.length) ([], none, 0) rfl ⟨by simp, Kp.refl _ _, ownS_nil _ _ _, by simp [blkOf], by simp⟩ ?_
  rintro ⟨vs, kad, kcap⟩ e3 W ⟨hvl, kW, hO, hkad, hvs⟩
  dsimp only at hvl hO hkad hvs ⊢
  have k0W := k1.trans kW
  (repeat first|refine zA ?_|refine zD ?_|refine zg ?_|refine zo rfl rfl trivial ?_|refine zn ?_)
  refine r_if rfl (fun hc => ?_) (fun hc => ?_)
  · have hi2 : vs.length < ks.length := by omega
    obtain ⟨x, hx⟩ : ∃ x, ks[vs.length]? = some x := ⟨_, List.getElem?_eq_getElem hi2⟩
    obtain ⟨b0, off, rfl, _, hcell⟩ := (hR.kp (kT.trans k0W) (by simp)).at_ (by simp; omega)
    have hxm := List.mem_of_getElem? hx
    have hxk : t.kids[vs.length]? = some x.2 := by rw [← hks, List.getElem?_map, hx]; rfl
    have hxm' := List.mem_of_getElem? hxk
    have h2W := kW.blk (by simp) h21
    (repeat first|refine zA ?_|refine zC ?_|refine zg ?_|refine zo rfl rfl (by first|exact trivial|(simp only[AllP];omega)) ?_|refine zb ?_|refine zk ?_)
    refine o_loadc (v := ptr x.1) rfl (by rw [toNat_nat]; exact hcell _ _ (by rw [List.getElem?_map, hx]; rfl)) rfl rfl rfl rfl ?_
    (repeat first|refine zg ?_|refine zo rfl rfl trivial ?_|refine zn ?_|refine o_load rfl h2W rfl rfl rfl rfl rfl ?_)
    refine o_call (ih x.2 hxm' (good_kids hg _ hxm') (hK x hxm) (kT.trans k0W) hFT (hM.kp0 k0W) hok) rfl rfl rfl ?_
    rintro v W1 ⟨hA, kg⟩
    obtain ⟨fn, first, caps, rfl, hA'⟩ := hA
    have hA : AsksL g wT.heap.size W.heap.size (evq (QO g) x.2) W1 (.func (.func fn) first caps) := ⟨fn, first, caps, rfl, hA'⟩
    have ysW := kW.size
    have ysg := kg.size
    refine o_buildSlice [.func (.func fn) first caps] rfl (by simp [Value.oneCell']) rfl (by decide) (by decide) rfl rfl rfl rfl rfl ?_
    intro bb W2 hbb hu2
    have kg2 : Kp [] W1 W2 := hu2.kp [] (.inr (by omega))
    have ysg2 := kg2.size
    refine o_append1 rfl rfl ((hO.kp kg (by simp)).kp kg2 (by simp)) hu2.blk rfl rfl rfl rfl (by simp only [maxLen]; omega) (by omega) rfl rfl ?_
    intro kad' kcap' W3 hO3 k23 hn3
    have k13 : Kp (blkOf kad) W1 W3 := (kg2.mono (by simp)).trans k23
    have hkad' : ∀ b ∈ blkOf kad', w1.heap.size ≤ b := fun c hc => by
      rcases hn3 c hc with h | h
      · exact hkad c h
      · omega
    (repeat first|refine zg ?_|refine zo rfl rfl (by first|exact trivial|(simp only[AllP];omega)) ?_|refine zn ?_)
    have hlen1 : (vs ++ [Value.func (.func fn) first caps]).length = vs.length + 1 := by simp
    refine ⟨(vs ++ [.func (.func fn) first caps], kad', kcap'), by dsimp only; rw [hlen1]; rfl, ⟨by dsimp only; omega, (kW.trans kg).since k13 hkad, by dsimp only; rw [hlen1]; exact hO3, hkad', fun i v k hi hk => ?_⟩, by dsimp only; omega⟩
    dsimp only at hi ⊢
    by_cases hlt : i < vs.length
    · rw [List.getElem?_append_left hlt] at hi
      obtain ⟨Wi, loi, Fi, g1, g2, g3, g4, g5⟩ := hvs i v k hi hk
      have hs3 := g3.size
      refine ⟨Wi, loi, Fi ++ (blkOf kad).filter (· < loi), g1, g2, ?_, fun c hc => ?_, fun c hc => ?_⟩
      · have e1 : Kp (Fi ++ (blkOf kad).filter (· < loi)) Wi W1 := (g3.mono (by simp +contextual)).trans (kg.mono (by simp))
        refine e1.after k13 (fun c hc => ?_)
        rcases g5 c hc with h' | h'
        · left; simp [hc, h']
        · exact .inr h'
      · simp only [List.mem_append, List.mem_filter, decide_eq_true_eq] at hc
        rcases hc with h | ⟨h1, h2⟩
        · exact g4 c h
        · exact ⟨by have := hkad c h1; omega, h2⟩
      · rcases hn3 c hc with h | h
        · exact g5 c h
        · right; omega
    · have hie : i = vs.length := by
        have := (List.getElem?_eq_some_iff.1 hi).1
        rw [hlen1] at this; omega
      subst hie
      rw [List.getElem?_append_right (Nat.le_refl _)] at hi
      simp at hi
      subst hi
      rw [hxk] at hk
      cases hk
      refine ⟨W1, W.heap.size, blkOf kad, hA, by omega, k13, fun c hc => ⟨by have := hkad c hc; omega, hO.lt c hc⟩, fun c hc => ?_⟩
      rcases hn3 c hc with h | h
      · exact .inl (hO.lt c h)
      · right; omega
  · have hve : vs.length = ks.length := by omega
    have h2W := kW.blk (by simp) h21
    have ysW := k0W.size
    (repeat first|refine zA ?_|refine zg ?_|refine zo rfl rfl trivial ?_|refine ze rfl ?_|refine o_load rfl h2W rfl rfl rfl rfl rfl ?_)
    rw [hve, hkl']
    refine o_call (work_ret hg (lo := w.heap.size) hT (kT.trans k0W) hF ysW (hM.kp0 k0W) hok hO.read (by omega) (fun b hb => by have := hkad b hb; omega) (fun i v k hi hk => ?_)) rfl rfl rfl ?_
    · obtain ⟨Wi, loi, Fi, g1, g2, g3, g4, _⟩ := hvs i v k hi hk
      exact (g1.kp g3 (fun b hb => .inr (g4 b hb))).lo g2
    rintro v W1 ⟨hA, kg⟩
    obtain ⟨fn, first, caps, rfl, hA'⟩ := hA
    have hA : AsksL g wT.heap.size w.heap.size (evd (QO g) t) W1 (.func (.func fn) first caps) := ⟨fn, first, caps, rfl, hA'⟩
    have ysg := kg.size
    refine o_alloc rfl rfl rfl rfl ?_
    intro b8 W2 e8 hu2
    have l8 := hu2.lt
    have k12 : Kp [] W1 W2 := hu2.kp [] (.inr (by omega))
    refine o_store (b := b8) (off := 0) (v := .func (.func fn) first caps) rfl hu2.blk (by decide) rfl rfl rfl rfl rfl rfl ?_
    intro W3 hu3
    have k13 : Kp [] W1 W3 := k12.since (hu3.kp [b8] (.inl (by simp))) (by simp; omega)
    have h83 : Blk W3 b8 [.func (.func fn) first caps] 201 := hu3.blk
    have h23 := (kg.trans k13).blk (by simp) h2W
    have k03 := (k0W.trans kg).trans k13
    clear hu2 hu3
    (repeat first|refine zA ?_|refine zg ?_|refine zo rfl rfl trivial ?_|refine zn ?_|refine zr ?_)
    refine ⟨_, rfl, ⟨_, #[], #[ptr b2, ptr b8], rfl, fun S' W f s hS kS hMW hs => ?_⟩, k03⟩
    have out : ∀ {b : Nat}, w.heap.size ≤ b → b ∉ S' := fun hb hbS => by
      rcases hS _ hbS with h | h
      · have := (hF _ h).2; omega
      · omega
    have outF : ∀ {b : Nat}, w.heap.size ≤ b → b ∉ g.F := fun hb hbF => by have := (hF _ hbF).2; omega
    rw [evq_evd]
    exact ready1_ok hMW hok hs (kS.blk (out (by omega)) h23) (kS.blk (out (by omega)) h83) (outF (by omega)) (outF (by omega)) ((hA.kp k13 (by simp)).kp kS hS).c
end Go.Vc
