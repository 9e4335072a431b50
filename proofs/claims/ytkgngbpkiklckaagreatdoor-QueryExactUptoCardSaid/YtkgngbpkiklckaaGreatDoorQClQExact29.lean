/- Parts of a proof. -/
import Derived.Test.YtkgngbpkiklckaaGreatDoorQClQExact28
set_option maxHeartbeats 12800000
namespace Go.Vc
open Go Go.Proofs
set_option maxRecDepth 20000
section
variable {g : MG} {W : World} {f : List UInt8 → Option Int} {s : Nat}
theorem good_shape {t : QT} {k : Nat} (hg : Jd2 t) (hk : t.op = k) : (Jc7 k = 0 → ∃ num name, t = .n0 k num name) ∧ (Jc7 k = 1 → ∃ num name a, t = .n1 k num name a) ∧ (Jc7 k = 2 → ∃ num name a b, t = .n2 k num name a b) := by
 obtain ⟨k', hk', _, _, hl⟩ := Qe4 hg
 obtain rfl : k' = k := oM
 rw [← hl]
 cases t with
 | n0 op num name => exact ⟨fun _ => ⟨num, name, by rw [show op = k' from hk]⟩, fun h => by simp [QT.kids] at h, fun h => by simp [QT.kids] at h⟩
 | n1 op num name a => exact ⟨fun h => by simp [QT.kids] at h, fun _ => ⟨num, name, a, by rw [show op = k' from hk]⟩, fun h => by simp [QT.kids] at h⟩
 | n2 op num name a b => exact ⟨fun h => by simp [QT.kids] at h, fun h => by simp [QT.kids] at h, fun _ => ⟨num, name, a, b, by rw [show op = k' from hk]⟩⟩
def Jv8 (g : MG) (hT lo : Nat) (ans : Ans) (w0 : World) (v : Value) : Prop :=
 ∃ fn first caps, v = .func (.func fn) first caps ∧ ∀ S' W f s, (∀ b ∈ S', b ∈ g.F ∨ (hT ≤ b ∧ b < lo)) → Kp S' w0 W → MAt W g f s → s ≤ g.fuel → RetP Tryz.prog fn (first.toList ++ caps.toList) W (AskR g (ans (sg f)) W f s) (AskE g (ans (sg f)) W s)
theorem Jv8.kp {hT lo : Nat} {ans : Ans} {w0 w1 : World} {v : Value} {F : List Nat} (h : Jv8 g hT lo ans w0 v) (hk : Kp F w0 w1) (hF : ∀ b ∈ F, b ∈ g.F ∨ (hT ≤ b ∧ b < lo)) : Jv8 g hT lo ans w1 v := by
 obtain ⟨fn, first, caps, hv, h⟩ := h
 refine ⟨fn, first, caps, hv, fun S' W f s hS hk2 => h (F ++ S') W f s (fun b hb => ?_) ((hk.mono (by simp +contextual)).trans (hk2.mono (by simp +contextual)))⟩
 rcases List.mem_append.1 hb with hb | hb
 ·exact hF b hb
 ·exact hS b hb
theorem Jv8.lo {hT lo lo' : Nat} {ans : Ans} {w0 : World} {v : Value} (h : Jv8 g hT lo ans w0 v) (hl : lo' ≤ lo) : Jv8 g hT lo' ans w0 v := by
 obtain ⟨fn, first, caps, hv, h⟩ := h
 exact ⟨fn, first, caps, hv, fun S' W f s hS => h S' W f s (fun b hb => (hS b hb).imp id (fun ⟨h1, h2⟩ => ⟨h1, oM⟩))⟩
theorem Jv8.c {hT lo : Nat} {ans : Ans} {w0 : World} {v : Value} (h : Jv8 g hT lo ans w0 v) : AsksC g ans w0 v := by
 obtain ⟨fn, first, caps, hv, h⟩ := h
 exact ⟨fn, first, caps, hv, fun W f s hk => h g.F W f s (fun b hb => .inl hb) hk⟩
theorem ready1_ok (h : MAt W g f s) (hg : g.Ok) (hs : s ≤ g.fuel) {bm bd : Nat} {vd : Value} {a : Ans} (hm : Blk W bm [ptr g.p] 111) (hd : Blk W bd [vd] 201) (om : bm ∉ g.F) (od : bd ∉ g.F) (hA : AsksC g a W vd) :
  RetP Tryz.prog 138 [ptr bm, ptr bd] W (AskR g ((a (sg f)).1, 1 + (a (sg f)).2) W f s) (AskE g ((a (sg f)).1, 1 + (a (sg f)).2) W s) := by
 obtain ⟨fn, first, caps, rfl, hA⟩ := hA
 have hF := hg.fu
 have hH := h.hdr
 refine Zp Tryz.call138 Tryz.func138 ?_
 refine zL hm ?_
 refine zL hH ?_
 refine Zt (b := g.p) (off := 2) (v := I ((s : Int) + 1)) rfl hH sI ?_
 intro w1 hu1
 have k1 : Kp g.F W w1 := hu1.kp _ (.inl (by simp [MG.F]))
 have h1 : MAt w1 g f (s + 1) := by
  refine ⟨hu1.blk, h.map.kp (hu1.kp [g.p] (.inl sI)) (by simpa using hg.ne.symm), h.ord.kp (hu1.kp [g.p] (.inl sI)) (fun b hb => ?_)⟩
  have := hg.op b hb
  simp only [MG.F, List.mem_cons, List.not_mem_nil, or_false, not_or] at this
  simpa using this.1
 have hm1 := k1.blk om hm
 have hd1 := k1.blk od hd
 have hH1 := h1.hdr
 clear hu1
 refine zS ?_
 refine Ja9 ?_
 refine Jr3 [0, 1] [ptr bm, ptr bd] 18 (decide (g.fuel < s + 1)) (fun w' => Sm w1 w') ?_ ?_
 ·refine Jd1 Ja0 kR ?_
  refine zM hm1 ?_
  refine zM hH1 ?_
  refine zM hm1 ?_
  refine zM hH1 ?_
  intro w' hs'
  refine ⟨rfl, ⟨_, rfl, ?_⟩, hs'⟩
  rw [decide_eq_decide]; omega
 rintro e2 w2 s2
 have h2 := h1.kp0 (s2.kp [])
 have k2 := k1.trans (s2.kp _)
 refine r_if rfl (fun hc => ?_) (fun hc => ?_)
 ·refine zS ?_
  refine Zb [] ?_
  refine o_iface rfl rfl rfl rfl rfl ?_
  refine o_panic rfl rfl ?_
  exact ⟨by dsimp only; omega, rfl, k2, f, s + 1, h2⟩
 ·have hd2 := s2.blk hd1
  refine zL hd2 ?_
  refine Jh0 (first := first) (cap := caps) (hA w2 f (s + 1) k2 h2 oM) rfl sI rfl rfl (fun v w' hE => Jo3 k2 hE (c := 1) rfl lR) ?_
  rintro v w3 ⟨rfl, j1, j2, j3⟩
  refine zS ?_
  exact ⟨_, rfl, rfl, by dsimp only; omega, by dsimp only; rw [← Nat.add_assoc]; exact j2, k2.trans j3⟩
end
section
variable {g : MG} {W : World} {f : List UInt8 → Option Int} {s : Nat}
noncomputable abbrev QO (g : MG) : QW := qwO g.E g.R
theorem bind_ret {w : World} {p q : Nat} {vk : Value} (hvk : ∃ fn first caps, vk = .func (.func fn) first caps) : Ret Tryz.prog 165 [ptr p, ptr q, vk] w (fun v w' => ∃ bm bt bk, v = .func (.func 186) #[] #[ptr bm, ptr bt, ptr bk] ∧ Blk w' bm [ptr p] 111 ∧ Blk w' bt [ptr q] 87 ∧ Blk w' bk [vk] 201 ∧ w.heap.size ≤ bm ∧ w.heap.size ≤ bt ∧ w.heap.size ≤ bk ∧ Kp [] w w') := by
 obtain ⟨fn, first, caps, rfl⟩ := hvk
 refine Ze Tryz.call165 Tryz.func165 ?_
 refine zS ?_
 refine Zx ?_
 intro b3 w1 e3 hu1
 refine Zx ?_
 intro b4 w2 e4 hu2
 refine Zx ?_
 intro b5 w3 e5 hu3
 have l1 := hu1.lt
 have l2 := hu2.lt
 have k1 : Kp [] w w1 := hu1.new oM
 have k2 : Kp [] w1 w2 := hu2.new oM
 have k3 : Kp [] w2 w3 := hu3.new oM
 have y1 := k1.size
 have y2 := k2.size
 refine zS ?_
 exact ⟨_, rfl, b3, b4, b5, rfl, (k2.trans k3).b0 hu1.blk, k3.b0 hu2.blk, hu3.blk, oM, oM, oM, (k1.trans k2).trans k3⟩
theorem evd_one {Q : QW} {op num : Int} {name : List UInt8} {a : QT} {σ : List UInt8 → Int} (h : ¬ 22 ≤ op) : evd Q (.n1 op num name a) σ = (oneV Q op (evq Q a σ).1, (evq Q a σ).2) := by simp [evd, h]
theorem evd_two {Q : QW} {op num : Int} {name : List UInt8} {a b : QT} {σ : List UInt8 → Int} (h1 : op ≠ 18) (h2 : op ≠ 19) : evd Q (.n2 op num name a b) σ = (Qj5 Q op (evq Q a σ).1 (evq Q b σ).1, (evq Q a σ).2 + (evq Q b σ).2) := by simp [evd, h1, h2]
theorem work_ret {t : QT} (hg : Jd2 t) {wT w : World} {l0 q lo kcap : Nat} {kad : Option Addr} {vs : List Value} (hT : Jc3 shQ l0 wT t q) (kT : Kp [] wT w) (hF : ∀ b ∈ g.F, wT.heap.size ≤ b ∧ b < lo) (hlo : lo ≤ w.heap.size) (hM : MAt w g f s) (hok : g.Ok)
  (hR : Ja7 w kad vs) (hvl : vs.length = t.kids.length) (hkad : ∀ b ∈ Ja1 kad, lo ≤ b) (hv : ∀ (i : Nat) v k, vs[i]? = some v → t.kids[i]? = some k → Jv8 g wT.heap.size lo (evq (QO g) k) w v) :
  Ret Tryz.prog 137 [ptr g.p, ptr q, .slice kad t.kids.length kcap] w (fun v w' => Jv8 g wT.heap.size lo (evd (QO g) t) w' v ∧ Kp [] w w') := by
 obtain ⟨k, hk, hk1, hk2, hkl⟩ := Qe4 hg
 obtain ⟨gs0, gs1, gs2⟩ := good_shape hg hk
 obtain ⟨bad, bcap, ks, hks, hB, _, _, _⟩ := hT.view
 rw [hk] at hB
 have hql := hB.lt
 have hBw := kT.b0 hB
 have hH := hM.hdr
 have yT := kT.size
 refine Ze Tryz.call137 Tryz.func137 ?_
 refine zS ?_
 refine Zx ?_
 intro b3 w1 e3 hu1
 refine Zx ?_
 intro b4 w2 e4 hu2
 refine Zx ?_
 intro b5 w3 e5 hu3
 have l1 := hu1.lt
 have l2 := hu2.lt
 have l3 := hu3.lt
 have k1 : Kp [] w w1 := hu1.new oM
 have k2 : Kp [] w1 w2 := hu2.new oM
 have k3 : Kp [] w2 w3 := hu3.new oM
 have y1 := k1.size
 have y2 := k2.size
 have h3 : Blk w3 b3 [ptr g.p] 111 := (k2.trans k3).b0 hu1.blk
 have h4 : Blk w3 b4 [ptr q] 87 := k3.b0 hu2.blk
 have h5 : Blk w3 b5 [.slice kad t.kids.length kcap] 246 := hu3.blk
 have k03 : Kp [] w w3 := (k1.trans k2).trans k3
 clear hu1 hu2 hu3
 have hB3 := k03.b0 hBw
 refine zL h4 ?_
 refine zL hB3 ?_
 refine Za ?_
 intro b7 w4 e7 hu4
 refine Zt (b := b7) (off := 0) (v := I k) rfl hu4.blk dE ?_
 intro w5 hu5
 have l4 := hu4.lt
 have k35 : Kp [] w3 w5 := (hu4.new oM).since (hu5.kp [b7] (.inl sI)) (by simp; omega)
 have h7 : Blk w5 b7 [I k] 51 := hu5.blk
 have k05 := k03.trans k35
 have h35 := k35.b0 h3
 have h45 := k35.b0 h4
 have h55 := k35.b0 h5
 have hB5 := k35.b0 hB3
 have hM5 := hM.kp0 k05
 have y3 := k03.size
 clear hu4 hu5
 have boxlo : lo ≤ b3 ∧ lo ≤ b4 ∧ lo ≤ b5 ∧ lo ≤ b7 := oM
 obtain ⟨z3, z4, z5, z7⟩ := boxlo
 have fut : ∀ {S' : List Nat} {W : World}, (∀ b ∈ S', b ∈ g.F ∨ (wT.heap.size ≤ b ∧ b < lo)) → Kp S' w5 W →
   Blk W b3 [ptr g.p] 111 ∧ Blk W b4 [ptr q] 87 ∧ Blk W b7 [I k] 51 ∧ Jc3 shQ l0 W t q ∧ KBox g W b5 (t.kids.map fun k => evq (QO g) k) := by
  intro S' W hS kS
  have out : ∀ {b : Nat}, lo ≤ b → b ∉ S' := fun hb hbS => by
   rcases hS _ hbS with h | h
   ·have := (hF _ h).2; omega
   ·omega
  have outF : ∀ {b : Nat}, lo ≤ b → b ∉ g.F := fun hb hbF => by have := (hF _ hbF).2; omega
  refine ⟨kS.blk (out z3) h35, kS.blk (out z4) h45, kS.blk (out z7) h7, hT.kp ((kT.trans k05).since kS (fun b hb => ?_)) sI, ⟨⟨kad, kcap, vs, ?_, (hR.kp k05 sI).kp kS (fun b hb => out (hkad b hb)), fun b hb => outF (hkad b hb), by rw [hvl, List.length_map], fun i v a hi ha => ?_⟩, outF z5⟩⟩
  ·rcases hS b hb with h | h
   ·exact (hF b h).1
   ·exact h.1
  ·rw [List.length_map]; exact kS.blk (out z5) h55
  ·rw [List.getElem?_map] at ha
   cases hx : t.kids[i]? with
   | none => rw [hx] at ha; cases ha
   | some c =>
    rw [hx] at ha
    cases ha
    exact (((hv i v c hi hx).kp k05 sI).kp kS hS).c
 have outF : ∀ {b : Nat}, lo ≤ b → b ∉ g.F := fun hb hbF => by have := (hF _ hbF).2; omega
 have qF : q ∉ g.F := fun hb => by have := (hF _ hb).1; omega
 refine zL h7 ?_
 refine r_if rfl (fun c => ?_) (fun c => ?_)
 ·-- a number
  obtain rfl : k = 1 := oM
  obtain ⟨num, name, rfl⟩ := gs0 rfl
  refine zS ?_
  refine ⟨_, rfl, ⟨_, #[], #[ptr b4], rfl, fun S' W f s hS kS hMW hs => ?_⟩, k05⟩
  obtain ⟨_, j4, _, jT, _⟩ := fut hS kS
  exact work1_ok hMW hs j4 jT
 refine zL h7 ?_
 refine r_if rfl (fun c => ?_) (fun c => ?_)
 ·obtain rfl : k = 2 := oM
  obtain ⟨num, name, rfl⟩ := gs0 rfl
  refine zS ?_
  refine ⟨_, rfl, ⟨_, #[], #[ptr b3, ptr b4], rfl, fun S' W f s hS kS hMW hs => ?_⟩, k05⟩
  obtain ⟨j3, j4, _, jT, _⟩ := fut hS kS
  exact work2_ok hMW hs j3 j4 jT
 refine zL h7 ?_
 refine r_if rfl (fun c => ?_) (fun c => ?_)
 ·obtain rfl : k = 3 := oM
  obtain ⟨num, name, rfl⟩ := gs0 rfl
  have hH5 := hM5.hdr
  refine zL h35 ?_
  refine zL hH5 ?_
  refine ⟨_, rfl, ⟨_, #[ptr g.og.p], #[], rfl, fun S' W f s hS kS hMW hs => ?_⟩, k05⟩
  refine ((Jy9 hMW.ord.toOrB).p).mono ?_ (fun _ _ h => h)
  rintro v w' ⟨rfl, rfl⟩
  exact ⟨rfl, hs, hMW, Kp.refl _ _⟩
 refine zL h45 ?_
 refine Zl (v := .bool (Jb6 k)) rfl hB5 ?_
 refine zS ?_
 refine Je1 rfl (fun hbi => ?_) (fun hbi => ?_)
 ·-- what binds
  have hb22 : 22 ≤ k ∧ k ≤ 26 := by simpa [Jb6] using hbi
  have hk1' : Jc7 k = 1 := by
   have : k = 22 ∨ k = 23 ∨ k = 24 ∨ k = 25 ∨ k = 26 := oM
   rcases this with rfl | rfl | rfl | rfl | rfl <;> rfl
  obtain ⟨num, name, a, rfl⟩ := gs1 hk1'
  obtain ⟨v0, hv0⟩ : ∃ v0, vs[0]? = some v0 := ⟨_, List.getElem?_eq_getElem (by rw [hvl]; exact Nat.one_pos)⟩
  have hA0 := (hv 0 v0 a hv0 rfl)
  obtain ⟨fn, first, caps, rfl, hA0'⟩ := hA0
  obtain ⟨b0, off, rfl, hb0l, hc0⟩ := hR.at_ (by rw [hvl]; exact Nat.one_pos)
  have hcell : ∀ w', Kp [] w w' → w'.cell? ⟨b0, off + 0, none⟩ = some (.func (.func fn) first caps) := fun w' hk' => by
   rw [← hc0 0 _ hv0]; exact World.cell?_of_block (hk'.at_ b0 hb0l sI)
  refine Ja9 ?_
  refine Jd8 (α := Value) [6] (fun v => [v]) (fun v w' => Jv8 g wT.heap.size lo (evd (QO g) (.n1 k num name a)) w' v ∧ Kp [] w w') ?_ ?_
  ·refine Jo6 (fun w' => Kp [] w5 w') [(0, false), (1, false), (2, false), (3, false), (4, false), (5, true), (6, false)] Ja0 kR kR kR ((Sm.drew w5).kp []) ?_
   have sd := (Sm.drew w5).kp []
   generalize ({ w5 with drawn := w5.drawn + 1 } : World) = wd at sd ⊢
   refine Zy rfl rfl (fun w' h' => (h'.b0 h35).cell rfl) ?_
   refine Zy rfl rfl (fun w' h' => (h'.b0 h45).cell rfl) ?_
   refine Zy (v := .slice (some ⟨b0, off, none⟩) 1 kcap) rfl rfl (fun w' h' => (h'.b0 h55).cell rfl) ?_
   refine xo rfl rfl (by simp only [AllP]; omega) ?_
   refine Zy (v := .func (.func fn) first caps) rfl rfl (fun w' h' => hcell w' (k05.trans h')) ?_
   refine Jh2 rfl ?_
   refine Zc (bind_ret ⟨fn, first, caps, rfl⟩) ?_
   rintro v w6 ⟨bm, bt, bk, rfl, jm, jt, jk, gm, gt, gk, k6⟩
   have yd := sd.size
   have k56 := sd.trans k6
   have y5 := k05.size
   refine Ja6 ⟨.inr k56, ?_⟩
   refine zX ?_
   refine ⟨_, rfl, ⟨_, #[], #[ptr bm, ptr bt, ptr bk], rfl, fun S' W f s hS kS hMW hs => ?_⟩, k05.trans k56⟩
   have out : ∀ {b : Nat}, lo ≤ b → b ∉ S' := fun hb hbS => by
    rcases hS _ hbS with h | h
    ·have := (hF _ h).2; omega
    ·omega
   have hqW : Blk W q _ 121 := ((kT.trans k05).trans k56).since kS (fun b hb => by
    rcases hS b hb with h | h
    ·exact (hF b h).1
    ·exact h.1) |>.b0 hB
   have hz : evd (QO g) (.n1 k num name a) (sg f) = bindA g k name (evq (QO g) a) (sg f) := by
    have h22 : (22 : Int) ≤ k := oM
    simp [evd, bindA, h22]
   rw [hz]
   refine binds_ok (q := q) hMW hok hs (Kp.refl _ _) (kS.blk (out oM) jm) (kS.blk (out oM) jt) (kS.blk (out oM) jk) hqW rfl rfl hb22 ?_ ((((hv 0 _ a hv0 rfl).kp (k05.trans k56) sI).kp kS hS).c)
   simp only [List.mem_cons, List.not_mem_nil, or_false, forall_eq_or_imp, forall_eq]
   exact ⟨outF oM, outF oM, outF oM, qF⟩
  rintro v e6 w6 ⟨⟨fn', first', caps', rfl, hA6⟩, k6⟩
  refine zS ?_
  exact ⟨_, rfl, ⟨fn', first', caps', rfl, hA6⟩, k6⟩
 have hnb : ¬ 22 ≤ k := by
  intro h
  simp only [Jb6, Bool.and_eq_false_iff, decide_eq_false_iff_not] at hbi
  omega
 have hnbI : ¬ (22 : Int) ≤ k := oM
 refine zL h7 ?_
 refine r_if rfl (fun c => ?_) (fun c => ?_)
 ·obtain rfl : k = 4 := oM
  obtain ⟨num, name, a, rfl⟩ := gs1 rfl
  refine zS ?_
  refine ⟨_, rfl, ⟨_, #[], #[ptr b5], rfl, fun S' W f s hS kS hMW hs => ?_⟩, k05⟩
  obtain ⟨_, _, _, _, jK⟩ := fut hS kS
  rw [evd_one hnbI]
  exact work3_ok jK (Kp.refl _ _) hMW hs
 refine zL h7 ?_
 refine r_if rfl (fun c => ?_) (fun c => ?_)
 ·obtain rfl : k = 17 := oM
  obtain ⟨num, name, a, rfl⟩ := gs1 rfl
  refine zS ?_
  refine ⟨_, rfl, ⟨_, #[], #[ptr b5], rfl, fun S' W f s hS kS hMW hs => ?_⟩, k05⟩
  obtain ⟨_, _, _, _, jK⟩ := fut hS kS
  rw [evd_one hnbI]
  exact work4_ok jK (Kp.refl _ _) hMW hs
 refine zL h7 ?_
 refine r_if rfl (fun c => ?_) (fun c => ?_)
 ·obtain rfl : k = 18 := oM
  obtain ⟨num, name, a, b, rfl⟩ := gs2 rfl
  refine zS ?_
  refine ⟨_, rfl, ⟨_, #[], #[ptr b5], rfl, fun S' W f s hS kS hMW hs => ?_⟩, k05⟩
  obtain ⟨_, _, _, _, jK⟩ := fut hS kS
  exact work5_ok jK (Kp.refl _ _) hMW hs
 refine zL h7 ?_
 refine r_if rfl (fun c => ?_) (fun c => ?_)
 ·obtain rfl : k = 19 := oM
  obtain ⟨num, name, a, b, rfl⟩ := gs2 rfl
  refine zS ?_
  refine ⟨_, rfl, ⟨_, #[], #[ptr b5], rfl, fun S' W f s hS kS hMW hs => ?_⟩, k05⟩
  obtain ⟨_, _, _, _, jK⟩ := fut hS kS
  exact work6_ok jK (Kp.refl _ _) hMW hs
 refine zL h55 ?_
 refine r_if rfl (fun c1 => ?_) (fun c1 => ?_)
 ·have hk1' : Jc7 k = 1 := oM
  obtain ⟨num, name, a, rfl⟩ := gs1 hk1'
  refine zS ?_
  refine ⟨_, rfl, ⟨_, #[], #[ptr b3, ptr b7, ptr b5], rfl, fun S' W f s hS kS hMW hs => ?_⟩, k05⟩
  obtain ⟨j3, _, j7, _, jK⟩ := fut hS kS
  rw [evd_one hnbI]
  have e : oneV (QO g) k (evq (QO g) a (sg f)).1 = partQ g.E k (evq (QO g) a (sg f)).1 := by
   unfold oneV; rw [if_neg oM, if_neg oM]; rfl
  rw [e]
  exact work7_ok jK (Kp.refl _ _) hMW hs j3 (outF z3) j7 (outF z7)
 ·have hk2' : Jc7 k = 2 := by
   have := Jk7 k
   have h0 : Jc7 k ≠ 0 := by
    intro h0
    rcases Qo3 hk1 hk2 with ⟨_, h⟩ | ⟨h, _⟩ | ⟨h, _⟩ <;> omega
   omega
  obtain ⟨num, name, a, b, rfl⟩ := gs2 hk2'
  refine zS ?_
  refine ⟨_, rfl, ⟨_, #[], #[ptr b5, ptr b3, ptr b7], rfl, fun S' W f s hS kS hMW hs => ?_⟩, k05⟩
  obtain ⟨j3, _, j7, _, jK⟩ := fut hS kS
  rw [evd_two oM oM]
  exact work8_ok jK (Kp.refl _ _) hMW hs j3 (outF z3) j7 (outF z7)
end
section
variable {g : MG}
theorem ready_ret : ∀ t : QT, Jd2 t → ∀ {wT w : World} {l0 q s : Nat} {f : List UInt8 → Option Int}, Jc3 shQ l0 wT t q → Kp [] wT w → (∀ b ∈ g.F, wT.heap.size ≤ b) → MAt w g f s → g.Ok →
  Ret Tryz.prog 95 [ptr g.p, ptr q] w (fun v w' => Jv8 g wT.heap.size w.heap.size (evq (QO g) t) w' v ∧ Kp [] w w') := by
 intro t
 induction t using QT.ind with
 | h t ih =>
 intro hg wT w l0 q s f hT kT hFT hM hok
 obtain ⟨bad, bcap, ks, hks, hB, hR, hK, _⟩ := hT.view
 have hBw := kT.b0 hB
 have hkl : ks.length ≤ 2 := by rw [← List.length_map (f := fun x : Nat × QT => x.2), hks]; exact t.kids_len
 have hkl' : ks.length = t.kids.length := by rw [← hks, List.length_map]
 have yT := kT.size
 have hF : ∀ b ∈ g.F, wT.heap.size ≤ b ∧ b < w.heap.size := fun b hb => ⟨hFT b hb, by
  simp only [MG.F, List.mem_cons, List.not_mem_nil, or_false] at hb
  rcases hb with rfl | rfl
  ·exact hM.hdr.lt
  ·exact hM.map.lt⟩
 refine Ze Tryz.call95 Tryz.func95 ?_
 refine zS ?_
 refine Zx ?_
 intro b2 w1 e2 hu1
 have k1 : Kp [] w w1 := hu1.new oM
 have h21 : Blk w1 b2 [ptr g.p] 111 := hu1.blk
 have l1 := h21.lt
 have hB1 := k1.b0 hBw
 clear hu1
 refine zS ?_
 refine Zl (v := .slice bad ks.length bcap) rfl hB1 ?_
 refine zS ?_
 refine Jb4 (α := List Value × Option Addr × Nat) [1, 2, 5, 12, 13, 14] (fun x => [ptr q, ptr b2, .slice x.2.1 x.1.length x.2.2, .slice bad ks.length bcap, I ks.length, I x.1.length])
  (fun x W => x.1.length ≤ ks.length ∧ Kp [] w1 W ∧ OwnS W 201 1 x.2.1 x.1.length x.2.2 x.1 ∧ (∀ b ∈ Ja1 x.2.1, w1.heap.size ≤ b) ∧
   ∀ (i : Nat) v k, x.1[i]? = some v → t.kids[i]? = some k → ∃ Wi loi Fi, Jv8 g wT.heap.size loi (evq (QO g) k) Wi v ∧ w.heap.size ≤ loi ∧ Kp Fi Wi W ∧ (∀ b ∈ Fi, wT.heap.size ≤ b ∧ b < loi) ∧ ∀ b ∈ Ja1 x.2.1, b < loi ∨ Wi.heap.size ≤ b)
  (fun x => ks.length - x.1.length) ([], none, 0) rfl ⟨sI, Kp.refl _ _, Jd6 _ _ _, by simp [Ja1], sI⟩ ?_
 rintro ⟨vs, kad, kcap⟩ e3 W ⟨hvl, kW, hO, hkad, hvs⟩
 dsimp only at hvl hO hkad hvs ⊢
 have k0W := k1.trans kW
 refine zS ?_
 refine r_if rfl (fun hc => ?_) (fun hc => ?_)
 ·have hi2 : vs.length < ks.length := oM
  obtain ⟨x, hx⟩ : ∃ x, ks[vs.length]? = some x := ⟨_, List.getElem?_eq_getElem hi2⟩
  obtain ⟨b0, off, rfl, _, hcell⟩ := (hR.kp (kT.trans k0W) sI).at_ (by simp; omega)
  have hxm := List.mem_of_getElem? hx
  have hxk : t.kids[vs.length]? = some x.2 := by rw [← hks, List.getElem?_map, hx]; rfl
  have hxm' := List.mem_of_getElem? hxk
  have h2W := kW.b0 h21
  refine zS ?_
  refine Zo (v := ptr x.1) rfl (by rw [Ja2]; exact hcell _ _ (by rw [List.getElem?_map, hx]; rfl)) ?_
  refine zL h2W ?_
  refine Zc (ih x.2 hxm' (good_kids hg _ hxm') (hK x hxm) (kT.trans k0W) hFT (hM.kp0 k0W) hok) ?_
  rintro v W1 ⟨hA, kg⟩
  obtain ⟨fn, first, caps, rfl, hA'⟩ := hA
  have hA : Jv8 g wT.heap.size W.heap.size (evq (QO g) x.2) W1 (.func (.func fn) first caps) := ⟨fn, first, caps, rfl, hA'⟩
  have ysW := kW.size
  have ysg := kg.size
  refine zS ?_
  refine Zu [.func (.func fn) first caps] rfl (by simp [Value.oneCell']) rfl dE dE ?_
  intro bb W2 hbb hu2
  have kg2 : Kp [] W1 W2 := hu2.new oM
  have ysg2 := kg2.size
  refine Jh3 rfl rfl ((hO.kp kg sI).kp kg2 sI) hu2.blk rfl rfl rfl rfl (by simp only [maxLen]; omega) oM rfl rfl ?_
  intro kad' kcap' W3 hO3 k23 hn3
  have k13 : Kp (Ja1 kad) W1 W3 := (kg2.mono sI).trans k23
  have hkad' : ∀ b ∈ Ja1 kad', w1.heap.size ≤ b := fun c hc => by
   rcases hn3 c hc with h | h
   ·exact hkad c h
   ·omega
  refine zS ?_
  have hlen1 : (vs ++ [Value.func (.func fn) first caps]).length = vs.length + 1 := sI
  refine ⟨(vs ++ [.func (.func fn) first caps], kad', kcap'), by dsimp only; rw [hlen1]; rfl, ⟨by dsimp only; omega, (kW.trans kg).since k13 hkad, by dsimp only; rw [hlen1]; exact hO3, hkad', fun i v k hi hk => ?_⟩, by dsimp only; omega⟩
  dsimp only at hi ⊢
  by_cases hlt : i < vs.length
  ·rw [List.getElem?_append_left hlt] at hi
   obtain ⟨Wi, loi, Fi, g1, g2, g3, g4, g5⟩ := hvs i v k hi hk
   have hs3 := g3.size
   refine ⟨Wi, loi, Fi ++ (Ja1 kad).filter (· < loi), g1, g2, ?_, fun c hc => ?_, fun c hc => ?_⟩
   ·have e1 : Kp (Fi ++ (Ja1 kad).filter (· < loi)) Wi W1 := (g3.mono (by simp +contextual)).trans (kg.mono sI)
    refine e1.after k13 (fun c hc => ?_)
    rcases g5 c hc with h' | h'
    ·left; simp [hc, h']
    ·exact .inr h'
   ·simp only [List.mem_append, List.mem_filter, decide_eq_true_eq] at hc
    rcases hc with h | ⟨h1, h2⟩
    ·exact g4 c h
    ·exact ⟨by have := hkad c h1; omega, h2⟩
   ·rcases hn3 c hc with h | h
    ·exact g5 c h
    ·right; omega
  ·have hie : i = vs.length := by
    have := (List.getElem?_eq_some_iff.1 hi).1
    rw [hlen1] at this; omega
   subst hie
   rw [List.getElem?_append_right lR] at hi
   simp at hi
   subst hi
   rw [hxk] at hk
   cases hk
   refine ⟨W1, W.heap.size, Ja1 kad, hA, oM, k13, fun c hc => ⟨by have := hkad c hc; omega, hO.lt c hc⟩, fun c hc => ?_⟩
   rcases hn3 c hc with h | h
   ·exact .inl (hO.lt c h)
   ·right; omega
 ·have hve : vs.length = ks.length := oM
  have h2W := kW.b0 h21
  have ysW := k0W.size
  refine zL h2W ?_
  rw [hve, hkl']
  refine Zc (work_ret hg (lo := w.heap.size) hT (kT.trans k0W) hF ysW (hM.kp0 k0W) hok hO.read oM (fun b hb => by have := hkad b hb; omega) (fun i v k hi hk => ?_)) ?_
  ·obtain ⟨Wi, loi, Fi, g1, g2, g3, g4, _⟩ := hvs i v k hi hk
   exact (g1.kp g3 (fun b hb => .inr (g4 b hb))).lo g2
  rintro v W1 ⟨hA, kg⟩
  obtain ⟨fn, first, caps, rfl, hA'⟩ := hA
  have hA : Jv8 g wT.heap.size w.heap.size (evd (QO g) t) W1 (.func (.func fn) first caps) := ⟨fn, first, caps, rfl, hA'⟩
  have ysg := kg.size
  refine zS ?_
  refine Za ?_
  intro b8 W2 e8 hu2
  have l8 := hu2.lt
  have k12 : Kp [] W1 W2 := hu2.new oM
  refine Zt (b := b8) (off := 0) (v := .func (.func fn) first caps) rfl hu2.blk dE ?_
  intro W3 hu3
  have k13 : Kp [] W1 W3 := k12.since (hu3.kp [b8] (.inl sI)) (by simp; omega)
  have h83 : Blk W3 b8 [.func (.func fn) first caps] 201 := hu3.blk
  have h23 := (kg.trans k13).b0 h2W
  have k03 := (k0W.trans kg).trans k13
  clear hu2 hu3
  refine zS ?_
  refine ⟨_, rfl, ⟨_, #[], #[ptr b2, ptr b8], rfl, fun S' W f s hS kS hMW hs => ?_⟩, k03⟩
  have out : ∀ {b : Nat}, w.heap.size ≤ b → b ∉ S' := fun hb hbS => by
   rcases hS _ hbS with h | h
   ·have := (hF _ h).2; omega
   ·omega
  have outF : ∀ {b : Nat}, w.heap.size ≤ b → b ∉ g.F := fun hb hbF => by have := (hF _ hbF).2; omega
  rw [evq_evd]
  exact ready1_ok hMW hok hs (kS.blk (out oM) h23) (kS.blk (out oM) h83) (outF oM) (outF oM) ((hA.kp k13 sI).kp kS hS).c
end
section
variable {w : World} {g : MG}
theorem run_load1 {P : Program} {b : Nat} {v : Value} {T t : TypeId} {d : TypeDesc} (hb : Blk w b [v] T) (hu : P.underlying t = some d) (ha : aggD d = false) : (loadVar t ⟨b, 0, none⟩).run P w = .ok v w := by
 have hc : w.cell? ⟨b, 0, none⟩ = some v := hb.cell (off := 0) rfl
 simp [loadVar, Jn4 hu ha, hc]
theorem runD_ret (q f : Nat) : DRet Tryz.prog 94 [ptr q, ptr f] .returning w (fun u' w' => u' = .returning ∧ w' = w) := by
 refine enterS none Tryz.call94 Tryz.func94 rfl rfl rfl rfl rfl rfl ?_
 refine zS ?_
 refine o_neqNN rfl rfl rfl rfl ?_
 refine zS ?_
 exact rfl
theorem runD_pan {q f : Nat} {cq cf : List Value} (hq : Blk w q cq 3) (hlq : cq.length = 1) (hf : Blk w f cf 4) (hlf : cf.length = 1) (hqf : q ≠ f) :
  DRet Tryz.prog 94 [ptr q, ptr f] (.panicking [{ v := tiredV, recovered := false }]) w (fun u' w' => u' = .panicking [{ v := tiredV, recovered := true }] ∧ Blk w' q [I 0] 3 ∧ Blk w' f [.bool false] 4 ∧ Kp [q, f] w w') := by
 have hql := hq.lt
 have hfl := hf.lt
 obtain ⟨x, rfl⟩ := List.length_eq_one_iff.1 hlq
 obtain ⟨y, rfl⟩ := List.length_eq_one_iff.1 hlf
 refine enterS (some tiredV) Tryz.call94 Tryz.func94 rfl rfl rfl rfl rfl rfl ?_
 refine zS ?_
 refine Qj4 (v := .agg ⟨[]⟩) rfl rfl rfl rfl rfl rfl ?_
 refine zS ?_
 refine Za ?_
 intro b w2 hb hu2
 refine Zs (b := b) (cs := []) rfl hu2.blk lR rfl sI ?_
 intro w3 hu3
 have k3 : Kp [] w w3 := (hu2.new oM).since (hu3.kp [b] (.inl sI)) (by simp; omega)
 have hq3 := k3.b0 hq
 have hf3 := k3.b0 hf
 refine zS ?_
 refine Zt (b := q) (off := 0) (v := I 0) rfl hq3 sI ?_
 intro w4 hu4
 refine Zt (b := f) (off := 0) (v := .bool false) rfl (hu4.kept hqf.symm hf3) sI ?_
 intro w5 hu5
 refine zS ?_
 exact ⟨hu5.kept hqf hu4.blk, hu5.blk, ((k3.mono sI).trans (hu4.kp _ (.inl sI))).trans (hu5.kp _ (.inl sI))⟩
theorem run_ret {t : QT} (hg : Jd2 t) {wT : World} {l0 tq : Nat} (hT : Jc3 shQ l0 wT t tq) (kT : Kp [] wT w) (hFT : ∀ b ∈ g.F, wT.heap.size ≤ b) (hM : MAt w g (fun _ => none) 0) (hok : g.Ok) :
  Ret Tryz.prog 47 [ptr g.p, ptr tq] w (fun v w' => (((evq (QO g) t fun _ => 0).2 ≤ g.fuel ∧ v = .tuple #[I (evq (QO g) t fun _ => 0).1, .bool true] ∧ MAt w' g (fun _ => none) (evq (QO g) t fun _ => 0).2) ∨ (g.fuel < (evq (QO g) t fun _ => 0).2 ∧ v = .tuple #[I 0, .bool false])) ∧ Kp g.F w w') := by
 have hsg : sg (fun _ => none) = fun _ => 0 := rfl
 have hplt := hM.hdr.lt
 have hmlt := hM.map.lt
 generalize hans : evq (QO g) t (fun _ => 0) = ans
 refine RetP.ret (E := fun _ _ => False) ?_ (fun _ _ h => h)
 refine enterD Tryz.call47 Tryz.func47 rfl rfl rfl ?_
 refine t_seq (R := fun _ _ => False) (pan := fun _ _ => False) ?_ (fun _ _ _ _ h => h.elim) (fun _ _ _ _ h => h.elim)
 refine zS ?_
 refine Za ?_
 intro q w1 hq hu1
 refine Za ?_
 intro f w2 hf hu2
 have s1 := hu1.size
 have s1' := hu1.lt
 have s2 := hu2.lt
 have k1 : Kp [] w w1 := hu1.new oM
 have k2 : Kp [] w w2 := k1.trans (hu2.new oM)
 have hqf : q ≠ f := oM
 have hBq : Blk w2 q [I 0] 3 := hu2.kept hqf hu1.blk
 have hBf : Blk w2 f [.bool false] 4 := hu2.blk
 clear hu1 hu2
 have hqF : q ∉ g.F := by simp [MG.F]; omega
 have hfF : f ∉ g.F := by simp [MG.F]; omega
 have hM2 := hM.kp0 k2
 refine zS ?_
 refine t_seqD ?_
 refine Ju5 rfl rfl ?_
 refine oq_defer rfl rfl ?_
 refine oq_nil ?_
 have resE : ∀ {e : Env} {w' : World} {n : Int} {b : Bool}, e 4 = ptr q → e 5 = ptr f → Blk w' q [I n] 3 → Blk w' f [.bool b] 4 → resC Tryz.prog e w' [.cell 4 3, .cell 5 4] [I n, .bool b] := fun h1 h2 h3 h4 =>
  ⟨⟨_, h1, run_load1 h3 rfl rfl⟩, ⟨_, h2, run_load1 h4 rfl rfl⟩, trivial⟩
 refine t_then (Jx6 ?_)
 refine Ju5 rfl rfl ?_
 refine Ju5 rfl rfl ?_
 refine Jy8 ((ready_ret t hg hT (kT.trans k2) hFT hM2 hok).p (E := fun _ _ => False)) rfl rfl (fun _ _ _ _ h => h.elim) ?_
 rintro v w3 ⟨⟨fn, first, caps, rfl, hA⟩, k3⟩
 have hM3 := hM2.kp0 k3
 have hcall := hA [] w3 (fun _ => none) 0 sI (Kp.refl _ _) hM3 (Nat.zero_le _)
 rw [hsg, hans] at hcall
 refine oq_callvP (first := first) (cap := caps) hcall rfl sI rfl (fun a v w' hfit hE => ?_) ?_
 ·obtain ⟨j1, rfl, j3, _⟩ := hE
  refine body_pan hfit.defers (Jt2 (cap := [ptr q, ptr f]) (by intro h; cases h) ((runD_pan (j3.blk hqF (k3.b0 hBq)) rfl (j3.blk hfF (k3.b0 hBf)) rfl hqf).mono ?_))
  rintro u' w'' ⟨rfl, b1, b2, b3⟩
  refine Jt3 rfl hfit (resE rfl rfl b1 b2) ⟨.inr ⟨oM, rfl⟩, (((k2.trans k3).mono sI).trans j3).after b3 (fun b hb => .inr ?_)⟩
  simp only [List.mem_cons, List.not_mem_nil, or_false] at hb
  omega
 rintro v w4 ⟨rfl, j1, j2, j3⟩
 have hBq4 := j3.blk hqF (k3.b0 hBq)
 have hBf4 := j3.blk hfF (k3.b0 hBf)
 refine oq_ops (K := fun e w' => e 4 = ptr q ∧ e 5 = ptr f ∧ Blk w' q [I ans.1] 3 ∧ Blk w' f [.bool true] 4 ∧ Kp [q, f] w4 w') ?_ ?_
 ·refine Zt (b := q) (off := 0) (v := I ans.1) rfl hBq4 sI ?_
  intro w5 hu5
  refine Zt (b := f) (off := 0) (v := .bool true) rfl (hu5.kept hqf.symm hBf4) sI ?_
  intro w6 hu6
  refine Ja6 ?_
  exact ⟨rfl, rfl, hu6.kept hqf hu5.blk, hu6.blk, (hu5.kp _ (.inl sI)).trans (hu6.kp _ (.inl sI))⟩
 ·rintro a e w5 hfit ⟨h4, h5, b1, b2, k5⟩
  refine wpIn_ret ?_
  refine Qe0 hfit (Jt2 (cap := [ptr q, ptr f]) (by intro h; cases h) ((runD_ret q f).mono ?_))
  rintro u' w6 ⟨rfl, rfl⟩
  have hlt4 : ∀ b ∈ g.og.F, b ∉ [q, f] := fun b hb hbq => by
   have hx := hM.ord.fl b hb
   simp only [List.mem_cons, List.not_mem_nil, or_false] at hbq
   omega
  refine Jt3 rfl hfit (resE h4 h5 b1 b2) ⟨.inl ⟨oM, rfl, ?_⟩, (((k2.trans k3).mono sI).trans j3).after k5 (fun b hb => .inr ?_)⟩
  ·rw [Nat.zero_add] at j2
   refine j2.kp k5 ?_ ?_
   ·intro b hb
    simp only [List.mem_cons, List.not_mem_nil, or_false] at hb
    rcases hb with rfl | rfl
    ·exact hqF
    ·exact hfF
   ·exact fun b hb hbo => hlt4 b hbo hb
  ·simp only [List.mem_cons, List.not_mem_nil, or_false] at hb
   omega
end
end Go.Vc
