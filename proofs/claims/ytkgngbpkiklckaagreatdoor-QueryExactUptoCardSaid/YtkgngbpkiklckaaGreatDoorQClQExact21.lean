/- Parts of a proof. -/
import Derived.Test.YtkgngbpkiklckaaGreatDoorQClQExact18
set_option maxHeartbeats 12800000
namespace Go.Vc
open Go Go.Proofs
set_option maxRecDepth 20000
section
variable {w : World}
theorem Qn7 {s : Shp} {c : Ck} {x : Ev} (h : CkOk s c) (hc : canB s c x = true) : 0 ≤ x.t ∧ x.t < s.th := by
 unfold canB at hc
 cases hT : c.T x.t with
 | some y => exact (h.T _ _ hT).1
 | none =>
  have e : st c x.t = ⟨0, 0, 0⟩ := by unfold st; rw [hT]; rfl
  rw [e] at hc
  simp at hc
theorem can_op {s : Shp} {c : Ck} {x : Ev} (hc : canB s c x = true) (hk : x.k = 9) : 0 ≤ x.o ∧ x.o < c.op.length := by
 unfold canB at hc
 rw [hk] at hc
 by_cases h2 : (st c x.t).ph = 2
 ·rw [if_pos h2] at hc; simp at hc
 ·rw [if_neg h2] at hc
  by_cases h1 : (st c x.t).ph ≠ 1
  ·rw [if_pos h1] at hc; simp at hc
  ·rw [if_neg h1] at hc
   by_cases h0 : x.o < 0
   ·rw [if_pos h0] at hc; simp at hc
   ·rw [if_neg h0] at hc
    simp at hc
    omega
theorem can_lock {s : Shp} {c : Ck} {x : Ev} (hc : canB s c x = true) (hk : x.k = 5) : 0 ≤ x.o ∧ x.o < s.lo ∧ c.O x.o = none := by
 unfold canB at hc
 rw [hk] at hc
 by_cases h2 : (st c x.t).ph = 2
 ·rw [if_pos h2] at hc; simp at hc
 ·rw [if_neg h2] at hc
  by_cases h1 : (st c x.t).ph ≠ 1
  ·rw [if_pos h1] at hc; simp at hc
  ·rw [if_neg h1] at hc
   by_cases h0 : x.o < 0
   ·rw [if_pos h0] at hc; simp at hc
   ·rw [if_neg h0] at hc
    simp at hc
    exact ⟨oM, hc.2, hc.1⟩
theorem Ql5 {s : Shp} {c : Ck} {x : Ev} (hc : canB s c x = true) (hk : x.k = 6) : 0 ≤ x.o ∧ x.o < s.lo ∧ c.O x.o = some x.t := by
 unfold canB at hc
 rw [hk] at hc
 by_cases h2 : (st c x.t).ph = 2
 ·rw [if_pos h2] at hc; simp at hc
 ·rw [if_neg h2] at hc
  by_cases h1 : (st c x.t).ph ≠ 1
  ·rw [if_pos h1] at hc; simp at hc
  ·rw [if_neg h1] at hc
   by_cases h0 : x.o < 0
   ·rw [if_pos h0] at hc; simp at hc
   ·rw [if_neg h0] at hc
    simp at hc
    exact ⟨oM, hc.2, hc.1⟩
theorem can_fork {s : Shp} {c : Ck} {x : Ev} (hc : canB s c x = true) (hk : x.k = 7) : 0 ≤ x.o ∧ x.o < s.th := by
 unfold canB at hc
 rw [hk] at hc
 by_cases h2 : (st c x.t).ph = 2
 ·rw [if_pos h2] at hc; simp at hc
 ·rw [if_neg h2] at hc
  by_cases h1 : (st c x.t).ph ≠ 1
  ·rw [if_pos h1] at hc; simp at hc
  ·rw [if_neg h1] at hc
   by_cases h0 : x.o < 0
   ·rw [if_pos h0] at hc; simp at hc
   ·rw [if_neg h0] at hc
    simp at hc
    omega
theorem opAt_rng {s : Shp} {c : Ck} (h : CkOk s c) (i : Int) : (0 ≤ (opAt c i).1 ∧ (opAt c i).1 ≤ c.n) ∧ (0 ≤ (opAt c i).2 ∧ (opAt c i).2 ≤ c.n) := by
 unfold opAt
 cases hx : c.op[i.toNat]? with
 | none => simp
 | some y => exact h.rng y (List.mem_of_getElem? hx)
theorem Jj2 {α : Type} {f : Int → Option α} {k : Int} {v : Option α} {t : Int} {x : α} (h : upT f k v t = some x) : (t = k ∧ v = some x) ∨ (t ≠ k ∧ f t = some x) := by
 unfold upT at h
 by_cases e : t = k
 ·rw [if_pos e] at h; exact .inl ⟨e, h⟩
 ·rw [if_neg e] at h; exact .inr ⟨e, h⟩
theorem nextC_n (s : Shp) (c : Ck) (x : Ev) : (Jl2 s c x).n = c.n + 1 := by
 unfold Jl2; split <;> (try rfl); split <;> (try rfl); split <;> (try rfl); split <;> (try rfl); split <;> (try rfl); split <;> rfl
theorem next_ok {s : Shp} {c : Ck} {x : Ev} (h : CkOk s c) (hc : canB s c x = true) : CkOk s (Jl2 s c x) := by
 have ht := Qn7 h hc
 have hrn : ∀ y ∈ c.op, (0 ≤ y.1 ∧ y.1 ≤ ((c.n + 1 : Nat) : Int)) ∧ (0 ≤ y.2 ∧ y.2 ≤ ((c.n + 1 : Nat) : Int)) := fun y hy => by have := h.rng y hy; omega
 unfold Jl2
 by_cases h5 : x.k = 5
 ·rw [if_pos h5]
  refine ⟨h.sh, h.T, fun l t hl => ?_, h.op, hrn⟩
  obtain ⟨q1, q2, _⟩ := can_lock hc h5
  rcases Jj2 hl with ⟨rfl, e⟩ | ⟨_, e⟩
  ·cases e; exact ⟨⟨q1, q2⟩, ht.1⟩
  ·exact h.O l t e
 rw [if_neg h5]
 by_cases h6 : x.k = 6
 ·rw [if_pos h6]
  refine ⟨h.sh, h.T, fun l t hl => ?_, h.op, hrn⟩
  rcases Jj2 hl with ⟨rfl, e⟩ | ⟨_, e⟩
  ·cases e
  ·exact h.O l t e
 rw [if_neg h6]
 by_cases h7 : x.k = 7
 ·rw [if_pos h7]
  refine ⟨h.sh, fun t y hy => ?_, h.O, h.op, hrn⟩
  rcases Jj2 hy with ⟨rfl, e⟩ | ⟨_, e⟩
  ·cases e; exact ⟨can_fork hc h7, fun h => by simp at h⟩
  ·exact h.T t y e
 rw [if_neg h7]
 by_cases h9 : x.k = 9
 ·rw [if_pos h9]
  have ho := can_op hc h9
  refine ⟨h.sh, fun t y hy => ?_, h.O, by simpa using h.op, fun y hy => ?_⟩
  ·dsimp only
   rw [List.length_set]
   rcases Jj2 hy with ⟨rfl, e⟩ | ⟨_, e⟩
   ·cases e; exact ⟨ht, fun _ => ho⟩
   ·exact h.T t y e
  ·rcases List.mem_or_eq_of_mem_set hy with hy | rfl
   ·exact hrn y hy
   ·have := opAt_rng h x.o
    unfold Jy5
    dsimp only
    split <;> dsimp only <;> omega
 rw [if_neg h9]
 by_cases h10 : x.k = 10
 ·rw [if_pos h10]
  refine ⟨h.sh, fun t y hy => ?_, h.O, h.op, hrn⟩
  rcases Jj2 hy with ⟨rfl, e⟩ | ⟨_, e⟩
  ·cases e; exact ⟨ht, fun h => by simp at h⟩
  ·exact h.T t y e
 rw [if_neg h10]
 by_cases h11 : x.k = 11
 ·rw [if_pos h11]
  refine ⟨h.sh, fun t y hy => ?_, h.O, h.op, hrn⟩
  rcases Jj2 hy with ⟨rfl, e⟩ | ⟨_, e⟩
  ·cases e; exact ⟨ht, fun h => by simp at h⟩
  ·exact h.T t y e
 rw [if_neg h11]
 exact ⟨h.sh, h.T, h.O, h.op, hrn⟩
section
variable {g : CkG} {s : Shp} {c : Ck}
theorem CkG.ne (h : g.F.Nodup) : g.p ≠ g.m1 ∧ g.p ≠ g.m2 ∧ g.m1 ≠ g.m2 ∧ (∀ b, b ∈ Ja1 g.pad → b ≠ g.p ∧ b ≠ g.m1 ∧ b ≠ g.m2) ∧ (∀ b, b ∈ Ja1 g.oad → b ≠ g.p ∧ b ≠ g.m1 ∧ b ≠ g.m2 ∧ b ∉ Ja1 g.pad) := by
 simp only [CkG.F, List.nodup_cons, List.mem_cons, List.mem_append, not_or, List.nodup_append] at h
 obtain ⟨⟨h1, h2, h3, h4⟩, ⟨h5, h6, h7⟩, ⟨h8, h9⟩, _, _, h10⟩ := h
 refine ⟨h1, h2, h5, fun b hb => ⟨?_, ?_, ?_⟩, fun b hb => ⟨?_, ?_, ?_, fun hb2 => h10 b hb2 b hb rfl⟩⟩ <;> rintro rfl
 ·exact h3 hb
 ·exact h6 hb
 ·exact h8 hb
 ·exact h4 hb
 ·exact h7 hb
 ·exact h9 hb
def CkG.W (g : CkG) : List Nat := g.p :: g.m1 :: g.m2 :: Ja1 g.oad
theorem CkG.W_F {b : Nat} (hb : b ∈ g.W) : b ∈ g.F := by
 simp only [CkG.W, CkG.F, List.mem_cons, List.mem_append] at hb ⊢
 rcases hb with h | h | h | h
 ·exact .inl h
 ·exact .inr (.inl h)
 ·exact .inr (.inr (.inl h))
 ·exact .inr (.inr (.inr (.inr h)))
theorem CkM.setN {w' : World} (h : CkM w g s c) {n : Nat} (hu : Upd w g.p (.cells ⟨ckC g s { c with n := n }⟩ 237 (0, 0)) w') : CkM w' g s { c with n := n } ∧ Kp g.W w w' := by
 obtain ⟨n1, n2, n3, n4, n5⟩ := CkG.ne h.nd
 have k : Kp [g.p] w w' := hu.kp _ (.inl sI)
 refine ⟨⟨hu.blk, h.mt.kp k (by simpa using fun e => n1 e.symm), h.mo.kp k (by simpa using fun e => n2 e.symm), h.pa.kp k (fun b hb => by simpa using (n4 b hb).1), h.op.kp k (fun b hb => by simpa using (n5 b hb).1), h.nd⟩, k.mono (fun b hb => ?_)⟩
 simp at hb; subst hb; simp [CkG.W]
theorem CkM.setT {w' : World} (h : CkM w g s c) {k : Int} {y : Std} (hu : MUpd w g.m1 (upF (mapT c.T) k (some (stdV y))) w') : CkM w' g s { c with T := upT c.T k (some y) } ∧ Kp g.W w w' := by
 obtain ⟨n1, n2, n3, n4, n5⟩ := CkG.ne h.nd
 have kk : Kp [g.m1] w w' := hu.kp _ (.inl sI)
 refine ⟨⟨kk.blk (by simpa using n1) h.hdr, ?_, h.mo.kp kk (by simpa using fun e => n3 e.symm), h.pa.kp kk (fun b hb => by simpa using (n4 b hb).2.1), h.op.kp kk (fun b hb => by simpa using (n5 b hb).2.1), h.nd⟩, kk.mono (fun b hb => ?_)⟩
 ·have e : mapT (upT c.T k (some y)) = upF (mapT c.T) k (some (stdV y)) := by
   funext z; unfold mapT upT upF
   by_cases hz : z = k
   ·rw [if_pos hz, if_pos hz]; rfl
   ·rw [if_neg hz, if_neg hz]
  dsimp only
  rw [e]; exact hu.at_
 ·simp at hb; subst hb; simp [CkG.W]
theorem CkM.setO {w' : World} (h : CkM w g s c) {k : Int} {y : Option Int} (hu : MUpd w g.m2 (upF (mapO c.O) k (y.map I)) w') : CkM w' g s { c with O := upT c.O k y } ∧ Kp g.W w w' := by
 obtain ⟨n1, n2, n3, n4, n5⟩ := CkG.ne h.nd
 have kk : Kp [g.m2] w w' := hu.kp _ (.inl sI)
 refine ⟨⟨kk.blk (by simpa using n2) h.hdr, h.mt.kp kk (by simpa using n3), ?_, h.pa.kp kk (fun b hb => by simpa using (n4 b hb).2.2), h.op.kp kk (fun b hb => by simpa using (n5 b hb).2.2.1), h.nd⟩, kk.mono (fun b hb => ?_)⟩
 ·have e : mapO (upT c.O k y) = upF (mapO c.O) k (y.map I) := by
   funext z; unfold mapO upT upF
   by_cases hz : z = k
   ·rw [if_pos hz, if_pos hz]
   ·rw [if_neg hz, if_neg hz]
  dsimp only
  rw [e]; exact hu.at_
 ·simp at hb; subst hb; simp [CkG.W]
theorem CkM.setOp {w' : World} (h : CkM w g s c) {b : Nat} {junk : List Value} {op' : List (Int × Int)} (hoad : g.oad = some ⟨b, 0, none⟩) (hb : Blk w b (opsC c.op ++ junk) 131) (hl : op'.length = c.op.length) (hu : Upd w b (.cells ⟨opsC op' ++ junk⟩ 131 (0, 0)) w') :
  CkM w' g s { c with op := op' } ∧ Kp g.W w w' := by
 obtain ⟨n1, n2, n3, n4, n5⟩ := CkG.ne h.nd
 have hbo : b ∈ Ja1 g.oad := by rw [hoad]; simp [Ja1]
 obtain ⟨m1, m2, m3, m4⟩ := n5 b hbo
 have kk : Kp [b] w w' := hu.kp _ (.inl sI)
 have ho := h.op
 rw [hoad] at ho
 obtain ⟨h1, _, _, h3, h4, junk0, h5, h6⟩ := ho
 have ej : junk0 = junk := by
  have := hb
  unfold Blk at h5 this
  rw [this] at h5
  simpa using h5.symm
 subst ej
 refine ⟨⟨?_, h.mt.kp kk (by simpa using fun e => m2 e.symm), h.mo.kp kk (by simpa using fun e => m3 e.symm), h.pa.kp kk (fun b' hb' => by
  simp only [List.mem_singleton]; rintro rfl; exact m4 hb'), ?_, h.nd⟩, kk.mono (fun b' hb' => ?_)⟩
 ·have := kk.blk (by simpa using fun e => m1 e.symm) h.hdr
  simpa [ckC, hl] using this
 ·dsimp only
  rw [hoad]
  refine ⟨by rw [Jo2], rfl, rfl, oM, h4, junk0, hu.blk, ?_⟩
  have e1 := Jo2 op'
  have e2 := Jo2 c.op
  rw [List.length_append] at h6 ⊢
  omega
 ·simp at hb'; subst hb'; simp [CkG.W, hbo]
theorem opsC_set : ∀ {l : List (Int × Int)} {i : Nat} {x : Int × Int}, i < l.length → opsC (l.set i x) = ((opsC l).set (i * 2) (I x.1)).set (i * 2 + 1) (I x.2)
 | [], i, x, h => by simp at h
 | y :: r, 0, x, h => by simp [opsC, opC2]
 | y :: r, i + 1, x, h => by
  have ih := opsC_set (l := r) (i := i) (x := x) (by simpa using h)
  have e1 : ∀ z t, opsC (z :: t) = I z.1 :: I z.2 :: opsC t := fun z t => by simp [opsC, opC2]
  have e2 : (i + 1) * 2 = i * 2 + 2 := oM
  rw [List.set_cons_succ, e1, e1, ih, e2]
  rfl
theorem fNext_ret (h : CkAt w g s c) (x : Ev) (hn : c.n ≤ 4611686018427387904) : Ret Tryz.prog 89 [ptr g.p, .agg ⟨evC x⟩] w (fun v w' => (canB s c x = true ∧ v = I 0 ∧ CkAt w' g s (Jl2 s c x) ∧ Kp g.W w w') ∨ (canB s c x = false ∧ v = I 6 ∧ Kp [] w w')) := by
 refine Ze Tryz.call89 Tryz.func89 ?_
 refine zS ?_
 refine Zx ?_
 intro bx w1 hbx hu1
 have hB1 : Blk w1 bx (evC x) 86 := hu1.blk
 have k1 : Kp [] w w1 := hu1.new oM
 have h1 := h.kp0 k1
 refine zS ?_
 refine Zc (Js6 h1) ?_
 rintro v wx ⟨rfl, rfl⟩
 refine zS ?_
 refine Zm (vs := evC x) rfl (fun j v hv => ?_) ?_
 ·rw [Nat.zero_add]; exact hB1.cell hv
 refine zS ?_
 refine Zc (Can_ret h1 x) ?_
 rintro v w2 ⟨rfl, k2⟩
 have h2 := h1.kp0 k2
 have hB2 := k2.b0 hB1
 have k02 := k1.trans k2
 refine zS ?_
 cases hc : canB s c x with
 | false =>
  refine Jf7 rfl rfl ?_
  refine zS ?_
  exact ⟨_, rfl, .inr ⟨rfl, rfl, k02⟩⟩
 | true =>
  refine r_no rfl rfl ?_
  refine zS ?_
  refine Zl (v := I c.n) rfl h2.hdr ?_
  refine zS ?_
  refine Zt (v := I ((c.n : Int) + 1)) (c := none) rfl h2.hdr sI ?_
  intro w3 hu3
  have e3 : (ckC g s c).set 8 (I ((c.n : Int) + 1)) = ckC g s { c with n := c.n + 1 } := by simp [ckC]
  rw [e3] at hu3
  obtain ⟨h3, k3⟩ := h2.toCkM.setN hu3
  have hbF : bx ∉ g.W := fun hb => by have := h.toCkM.lt bx (CkG.W_F hb); omega
  have hB3 := k3.blk hbF hB2
  have hok := next_ok h.ok hc
  have k03 : Kp g.W w w3 := (k02.mono sI).trans k3
  refine zS ?_
  refine Zl (v := I x.k) rfl hB3 ?_
  refine zS ?_
  refine r_if (p := x.k = 5) rfl (fun hk5 => ?_) (fun hk5 => ?_)
  ·refine Jo6 (fun w' => Kp [] w3 w') [(0, false), (1, false), (2, false), (3, false), (4, false), (5, false), (6, false), (7, false), (8, true)] Ja0 kR kR kR ((Sm.drew w3).kp []) ?_
   have kd := (Sm.drew w3).kp []
   generalize ({ w3 with drawn := w3.drawn + 1 } : World) = w4 at kd ⊢
   refine zX ?_
   refine Zy (v := .map (some g.m2)) rfl rfl (fun w' h' => (h'.b0 h3.hdr).cell rfl) ?_
   refine zX ?_
   refine Zy (v := I x.o) rfl rfl (fun w' h' => (h'.b0 hB3).cell rfl) ?_
   refine zX ?_
   refine Zy (v := I x.t) rfl rfl (fun w' h' => (h'.b0 hB3).cell rfl) ?_
   refine zX ?_
   refine Jh2 rfl ?_
   have h4 := h3.kp kd sI
   refine Jx9 rfl rfl rfl h4.mo rfl rfl rfl rfl ?_
   intro w5 hu5
   obtain ⟨h5, k5⟩ := h4.setO (k := x.o) (y := some x.t) hu5
   refine Ja6 ⟨.inl kR, ?_⟩
   refine zX ?_
   refine zS ?_
   refine ⟨_, rfl, .inl ⟨rfl, rfl, ⟨?_, hok⟩, (k03.trans (kd.mono sI)).trans k5⟩⟩
   unfold Jl2
   simp only [if_pos hk5, if_true, if_false]
   exact h5
  refine zS ?_
  refine r_if (p := x.k = 6) rfl (fun hk6 => ?_) (fun hk6 => ?_)
  ·refine Jo6 (fun w' => Kp [] w3 w') [(0, false), (1, false), (2, false), (3, false), (4, false), (5, false), (6, true)] Ja0 kR kR kR ((Sm.drew w3).kp []) ?_
   have kd := (Sm.drew w3).kp []
   generalize ({ w3 with drawn := w3.drawn + 1 } : World) = w4 at kd ⊢
   refine zX ?_
   refine Zy (v := .map (some g.m2)) rfl rfl (fun w' h' => (h'.b0 h3.hdr).cell rfl) ?_
   refine zX ?_
   refine Zy (v := I x.o) rfl rfl (fun w' h' => (h'.b0 hB3).cell rfl) ?_
   refine zX ?_
   refine Jh2 rfl ?_
   have h4 := h3.kp kd sI
   refine o_delete rfl rfl h4.mo rfl rfl rfl rfl ?_
   intro w5 hu5
   obtain ⟨h5, k5⟩ := h4.setO (k := x.o) (y := none) hu5
   refine Ja6 ⟨.inl kR, ?_⟩
   refine zX ?_
   refine zS ?_
   refine ⟨_, rfl, .inl ⟨rfl, rfl, ⟨?_, hok⟩, (k03.trans (kd.mono sI)).trans k5⟩⟩
   unfold Jl2
   simp only [if_neg hk5, if_pos hk6, if_true, if_false]
   exact h5
  refine zS ?_
  refine r_if (p := x.k = 7) rfl (fun hk7 => ?_) (fun hk7 => ?_)
  ·refine Jo6 (fun w' => Kp [] w3 w') [(0, false), (1, false), (2, false), (3, false), (4, false), (5, false), (6, false), (7, true)] Ja0 kR kR kR ((Sm.drew w3).kp []) ?_
   have kd := (Sm.drew w3).kp []
   generalize ({ w3 with drawn := w3.drawn + 1 } : World) = w4 at kd ⊢
   refine zX ?_
   refine Zy (v := .map (some g.m1)) rfl rfl (fun w' h' => (h'.b0 h3.hdr).cell rfl) ?_
   refine zX ?_
   refine Zy (v := I x.o) rfl rfl (fun w' h' => (h'.b0 hB3).cell rfl) ?_
   refine zX ?_
   refine Zv [I 1, I 0, I 0] rfl ?_
   refine zX ?_
   refine Jh2 rfl ?_
   have h4 := h3.kp kd sI
   refine Jx9 (v := stdV ⟨1, 0, 0⟩) rfl rfl rfl h4.mt rfl rfl rfl rfl ?_
   intro w5 hu5
   obtain ⟨h5, k5⟩ := h4.setT (k := x.o) (y := ⟨1, 0, 0⟩) hu5
   refine Ja6 ⟨.inl kR, ?_⟩
   refine zX ?_
   refine zS ?_
   refine ⟨_, rfl, .inl ⟨rfl, rfl, ⟨?_, hok⟩, (k03.trans (kd.mono sI)).trans k5⟩⟩
   unfold Jl2
   simp only [if_neg hk5, if_neg hk6, if_pos hk7, if_true, if_false]
   exact h5
  refine zS ?_
  refine r_if (p := x.k = 9) rfl (fun hk9 => ?_) (fun hk9 => ?_)
  ·refine zS ?_
   have ho := can_op hc hk9
   obtain ⟨ob, L, hoad, hobF, hL, ⟨junk, hLj⟩, hL1, hL2⟩ := h3.open_ (i := x.o.toNat) (by dsimp only; omega)
   have e1 : ((x.o.toNat : Nat) : Int) = x.o := oM
   have e2 : opAt { c with n := c.n + 1 } ((x.o.toNat : Nat) : Int) = opAt c x.o := by rw [e1]; rfl
   rw [e2] at hL1 hL2
   have hh := h3.hdr
   rw [show ckC g s { c with n := c.n + 1 } = [I s.th, I s.va, I s.vo, I s.lo, .slice g.pad s.pa.length g.pcap, .map (some g.m1), .map (some g.m2), .slice (some ⟨ob, 0, none⟩) c.op.length g.ocap, I ((c.n + 1 : Nat) : Int)] by rw [ckC, hoad]] at hh
   refine Ja9 ?_
   refine Jd1 Ja0 kR ?_
   refine zQ ?_
   refine Zq (v := .slice (some ⟨ob, 0, none⟩) c.op.length g.ocap) rfl (fun w hs => (hs.blk hh).cell rfl) ?_
   refine zQ ?_
   refine Zq (v := I x.o) rfl (fun w hs => (hs.blk hB3).cell rfl) ?_
   refine zQ ?_
   intro w3' hs3
   have h3' : CkM w3' g s { c with n := c.n + 1 } := h3.kp (hs3.kp []) sI
   have hB3' := hs3.blk hB3
   have hL' := hs3.blk hL
   have k03' := k03.trans (hs3.kp _)
   have e3 : (0 : Nat) + x.o.toNat * 2 = x.o.toNat * 2 := oM
   rw [e3]
   refine Ja9 ?_
   refine Jd8 (α := Unit) [0, 3, 4, 5] (fun _ => [ptr g.p, ptr bx, I 0, .pointer (some ⟨ob, x.o.toNat * 2, none⟩)]) (fun _ w' => CkM w' g s { c with T := upT c.T x.t (some ⟨2, x.o, (opAt c x.o).1⟩), n := c.n + 1 } ∧ Kp g.W w3' w' ∧ Blk w' ob L 131) ?_ ?_
   ·refine Jo6 (fun w' => Kp [] w3' w') [(0, false), (1, false), (2, false), (3, false), (4, false), (5, false), (6, false), (7, false), (8, false), (9, false), (10, false), (11, false), (12, false), (13, true)] Ja0 kR kR kR ((Sm.drew w3').kp []) ?_
    have kd := (Sm.drew w3').kp []
    generalize ({ w3' with drawn := w3'.drawn + 1 } : World) = w4 at kd ⊢
    refine zX ?_
    refine Zy (v := .map (some g.m1)) rfl rfl (fun w' h' => (h'.b0 h3'.hdr).cell rfl) ?_
    refine zX ?_
    refine Zy (v := I x.t) rfl rfl (fun w' h' => (h'.b0 hB3').cell rfl) ?_
    refine zX ?_
    refine Zy (v := I x.o) rfl rfl (fun w' h' => (h'.b0 hB3').cell rfl) ?_
    refine zX ?_
    refine Zy (v := I (opAt c x.o).1) rfl rfl (fun w' h' => (h'.b0 hL').cell hL1) ?_
    refine zX ?_
    refine Zv [I 2, I x.o, I (opAt c x.o).1] rfl ?_
    refine zX ?_
    refine Jh2 rfl ?_
    have h4 := h3'.kp kd sI
    refine Jx9 (v := stdV ⟨2, x.o, (opAt c x.o).1⟩) rfl rfl rfl h4.mt rfl rfl rfl rfl ?_
    intro w5 hu5
    obtain ⟨h5, k5⟩ := h4.setT (k := x.t) (y := ⟨2, x.o, (opAt c x.o).1⟩) hu5
    refine Ja6 ⟨.inl kR, ?_⟩
    refine zX ?_
    have n5 := (CkG.ne h.nd).2.2.2.2 ob (by rw [hoad]; simp [Ja1])
    have hLw5 : Blk w5 ob L 131 := (hu5.kp [g.m1] (.inl sI)).blk (by simpa using n5.2.1) (kd.b0 hL')
    exact ⟨(), rfl, h5, (kd.mono sI).trans k5, hLw5⟩
   rintro ⟨⟩ e w5 ⟨h5, k5, hL5⟩
   have hB5 := k5.blk hbF hB3'
   have hri := opAt_rng h.ok x.o
   have hLlen : x.o.toNat * 2 + 1 < L.length := by have := (List.getElem?_eq_some_iff.1 hL2).1; exact this
   refine zS ?_
   refine Jf4 (b := ob) (off := x.o.toNat * 2 + 1) (v := I (opAt c x.o).2) rfl hL5 hL2 rfl rfl rfl rfl ?_
   refine zS ?_
   refine Zt (b := ob) (off := x.o.toNat * 2 + 1) (v := I ((opAt c x.o).2 + 1)) (c := none) rfl hL5 hLlen ?_
   intro w6 hu6
   have hx : c.op[x.o.toNat]? = some (opAt c x.o) := by
    unfold opAt
    rw [List.getElem?_eq_getElem oM]; rfl
   obtain ⟨gx1, gx2⟩ := opsC_get hx
   have hol := Jo2 c.op
   have es : ∀ y : Int, L.set (x.o.toNat * 2 + 1) (I y) = opsC (c.op.set x.o.toNat ((opAt c x.o).1, y)) ++ junk := by
    intro y
    rw [hLj, List.set_append_left _ _ (by dsimp only; omega), opsC_set oM]
    dsimp only
    congr 1
    have : (opsC c.op).set (x.o.toNat * 2) (I (opAt c x.o).1) = opsC c.op := by
     apply List.ext_getElem?
     intro i
     rw [List.getElem?_set]
     by_cases hi : x.o.toNat * 2 = i
     ·subst hi; rw [if_pos rfl, if_pos oM]; exact gx1.symm
     ·rw [if_neg hi]
    rw [this]
   rw [es] at hu6
   obtain ⟨h6, k6⟩ := h5.setOp hoad (by rw [hLj] at hL5; exact hL5) sI hu6
   have hB6 := k6.blk hbF hB5
   have hL6 := hu6.blk
   have hpl : x.o.toNat < s.pa.length := by have := h.ok.op; omega
   obtain ⟨pb, po, hpe, hpb, hpc⟩ := h6.pa.read.at_ (by simp; omega)
   obtain ⟨pz, hpz⟩ : ∃ z, s.pa[x.o.toNat]? = some z := ⟨_, List.getElem?_eq_getElem hpl⟩
   have hpcell := hpc x.o.toNat (I pz) (by rw [List.getElem?_map, hpz]; rfl)
   have hh6 := h6.hdr
   rw [show ckC g s { c with T := upT c.T x.t (some ⟨2, x.o, (opAt c x.o).1⟩), op := c.op.set x.o.toNat ((opAt c x.o).1, (opAt c x.o).2 + 1), n := c.n + 1 } = [I s.th, I s.va, I s.vo, I s.lo, .slice (some ⟨pb, po, none⟩) s.pa.length g.pcap, .map (some g.m1), .map (some g.m2), .slice g.oad (c.op.set x.o.toNat ((opAt c x.o).1, (opAt c x.o).2 + 1)).length g.ocap, I ((c.n + 1 : Nat) : Int)] by rw [ckC, hpe]] at hh6
   have hL62 : (opsC (c.op.set x.o.toNat ((opAt c x.o).1, (opAt c x.o).2 + 1)) ++ junk)[x.o.toNat * 2 + 1]? = some (I ((opAt c x.o).2 + 1)) := by
    rw [← es, List.getElem?_set_self hLlen]
   refine zS ?_
   refine Ja9 ?_
   refine Jd1 Ja0 kR ?_
   refine zQ ?_
   refine Zq (b := ob) (off := x.o.toNat * 2 + 1) (v := I ((opAt c x.o).2 + 1)) rfl (fun w hs => (hs.blk hL6).cell hL62) ?_
   refine zQ ?_
   refine Zq (v := .slice (some ⟨pb, po, none⟩) s.pa.length g.pcap) rfl (fun w hs => (hs.blk hh6).cell rfl) ?_
   refine zQ ?_
   refine Zq (v := I x.o) rfl (fun w hs => (hs.blk hB6).cell rfl) ?_
   refine zQ ?_
   refine Zq (b := pb) (off := po + x.o.toNat) (v := I pz) rfl (fun w hs => by rw [← hpcell]; exact World.cell?_of_block (by rw [hs.heap])) ?_
   refine zQ ?_
   intro w7 hs7
   have h7 := h6.kp (hs7.kp []) sI
   have hL7 := hs7.blk hL6
   have k07 := ((k03'.trans k5).trans k6).trans (hs7.kp _)
   have hpa : (s.pa[x.o.toNat]?).getD 0 = pz := by rw [hpz]; rfl
   have hlen2 : (opsC (c.op.set x.o.toNat ((opAt c x.o).1, (opAt c x.o).2 + 1)) ++ junk).length = L.length := by rw [← es]; simp
   refine r_if (p := (opAt c x.o).2 + 1 = pz) rfl (fun hq => ?_) (fun hq => ?_)
   ·refine zS ?_
    refine Jf4 (b := ob) (off := x.o.toNat * 2) (v := I (opAt c x.o).1) rfl hL7 (by rw [← es, List.getElem?_set_ne oM]; exact hL1) rfl rfl rfl rfl ?_
    refine zS ?_
    refine Zb [I ((opAt c x.o).1 + 1), I 0] ?_
    refine zS ?_
    refine Zs (b := ob) (off := x.o.toNat * 2) (cs := [I ((opAt c x.o).1 + 1), I 0]) rfl hL7 (by rw [hlen2]; simp; omega) rfl (by simp [Value.oneCell']) ?_
    intro w8 hu8
    refine zS ?_
    have e8 : Jg0 (opsC (c.op.set x.o.toNat ((opAt c x.o).1, (opAt c x.o).2 + 1)) ++ junk) (x.o.toNat * 2) [I ((opAt c x.o).1 + 1), I 0] = opsC ((c.op.set x.o.toNat ((opAt c x.o).1, (opAt c x.o).2 + 1)).set x.o.toNat ((opAt c x.o).1 + 1, 0)) ++ junk := by
     have hl3 := Jo2 (c.op.set x.o.toNat ((opAt c x.o).1, (opAt c x.o).2 + 1))
     rw [List.length_set] at hl3
     simp only [Jg0]
     rw [List.set_append_left _ _ oM, List.set_append_left _ _ (by rw [List.length_set]; omega), opsC_set (l := c.op.set x.o.toNat ((opAt c x.o).1, (opAt c x.o).2 + 1)) (by rw [List.length_set]; omega)]
    rw [e8] at hu8
    obtain ⟨h8, k8⟩ := h7.setOp hoad hL7 sI hu8
    refine ⟨_, rfl, .inl ⟨rfl, rfl, ⟨?_, hok⟩, k07.trans k8⟩⟩
    unfold Jl2
    simp only [if_neg hk5, if_neg hk6, if_neg hk7, if_pos hk9, if_true]
    have ea : Jy5 s c x.o = ((opAt c x.o).1 + 1, 0) := by unfold Jy5; rw [hpa, if_pos hq]
    rw [ea]
    simpa using h8
   ·refine zS ?_
    refine ⟨_, rfl, .inl ⟨rfl, rfl, ⟨?_, hok⟩, k07⟩⟩
    unfold Jl2
    simp only [if_neg hk5, if_neg hk6, if_neg hk7, if_pos hk9, if_true]
    have ea : Jy5 s c x.o = ((opAt c x.o).1, (opAt c x.o).2 + 1) := by unfold Jy5; rw [hpa, if_neg hq]
    rw [ea]
    exact h7
  refine zS ?_
  refine r_if (p := x.k = 10) rfl (fun hk10 => ?_) (fun hk10 => ?_)
  ·refine Jo6 (fun w' => Kp [] w3 w') [(0, false), (1, false), (2, false), (3, false), (4, false), (5, false), (6, false), (7, true)] Ja0 kR kR kR ((Sm.drew w3).kp []) ?_
   have kd := (Sm.drew w3).kp []
   generalize ({ w3 with drawn := w3.drawn + 1 } : World) = w4 at kd ⊢
   refine zX ?_
   refine Zy (v := .map (some g.m1)) rfl rfl (fun w' h' => (h'.b0 h3.hdr).cell rfl) ?_
   refine zX ?_
   refine Zy (v := I x.t) rfl rfl (fun w' h' => (h'.b0 hB3).cell rfl) ?_
   refine zX ?_
   refine Zv [I 1, I 0, I 0] rfl ?_
   refine zX ?_
   refine Jh2 rfl ?_
   have h4 := h3.kp kd sI
   refine Jx9 (v := stdV ⟨1, 0, 0⟩) rfl rfl rfl h4.mt rfl rfl rfl rfl ?_
   intro w5 hu5
   obtain ⟨h5, k5⟩ := h4.setT (k := x.t) (y := ⟨1, 0, 0⟩) hu5
   refine Ja6 ⟨.inl kR, ?_⟩
   refine zX ?_
   refine zS ?_
   refine ⟨_, rfl, .inl ⟨rfl, rfl, ⟨?_, hok⟩, (k03.trans (kd.mono sI)).trans k5⟩⟩
   unfold Jl2
   simp only [if_neg hk5, if_neg hk6, if_neg hk7, if_neg hk9, if_pos hk10, if_true, if_false]
   exact h5
  refine zS ?_
  refine r_if (p := x.k = 11) rfl (fun hk11 => ?_) (fun hk11 => ?_)
  ·refine Jo6 (fun w' => Kp [] w3 w') [(0, false), (1, false), (2, false), (3, false), (4, false), (5, false), (6, false), (7, true)] Ja0 kR kR kR ((Sm.drew w3).kp []) ?_
   have kd := (Sm.drew w3).kp []
   generalize ({ w3 with drawn := w3.drawn + 1 } : World) = w4 at kd ⊢
   refine zX ?_
   refine Zy (v := .map (some g.m1)) rfl rfl (fun w' h' => (h'.b0 h3.hdr).cell rfl) ?_
   refine zX ?_
   refine Zy (v := I x.t) rfl rfl (fun w' h' => (h'.b0 hB3).cell rfl) ?_
   refine zX ?_
   refine Zv [I 3, I 0, I 0] rfl ?_
   refine zX ?_
   refine Jh2 rfl ?_
   have h4 := h3.kp kd sI
   refine Jx9 (v := stdV ⟨3, 0, 0⟩) rfl rfl rfl h4.mt rfl rfl rfl rfl ?_
   intro w5 hu5
   obtain ⟨h5, k5⟩ := h4.setT (k := x.t) (y := ⟨3, 0, 0⟩) hu5
   refine Ja6 ⟨.inl kR, ?_⟩
   refine zX ?_
   refine zS ?_
   refine ⟨_, rfl, .inl ⟨rfl, rfl, ⟨?_, hok⟩, (k03.trans (kd.mono sI)).trans k5⟩⟩
   unfold Jl2
   simp only [if_neg hk5, if_neg hk6, if_neg hk7, if_neg hk9, if_neg hk10, if_pos hk11, if_true, if_false]
   exact h5
  refine zS ?_
  refine ⟨_, rfl, .inl ⟨rfl, rfl, ⟨?_, hok⟩, k03⟩⟩
  unfold Jl2
  simp only [if_neg hk5, if_neg hk6, if_neg hk7, if_neg hk9, if_neg hk10, if_neg hk11]
  exact h3
end
end
end Go.Vc
