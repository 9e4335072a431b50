/- Parts of a proof. -/
import Derived.Test.YtkgngbpkiklckaaGreatDoorQClQExact23
set_option maxHeartbeats 12800000
namespace Go.Vc
open Go Go.Proofs
set_option maxRecDepth 20000
section
variable {w : World}
section
variable {g : RG} {s : Shp} {c : Ck}
theorem Upd.sm {w1 w2 : World} {b : Nat} {o : Obj} (hs : Sm w w1) (h : Upd w1 b o w2) : Upd w b o w2 :=
 ⟨h.os.trans hs.os, h.tape.trans hs.tape, h.output.trans hs.output, h.at_, fun k hk => by rw [h.other k hk, hs.heap], by rw [← hs.heap]; exact h.size, by rw [← hs.heap]; exact h.size'⟩
theorem Kp.sinceS {S Q : List Nat} {w0 w w' : World} (h0 : Kp S w0 w) (h : Kp Q w w') (hs : ∀ b, b ∈ Q → b ∈ S ∨ w0.heap.size ≤ b) : Kp S w0 w' :=
 ⟨h.os.trans h0.os, h.tape.trans h0.tape, h.output.trans h0.output, Nat.le_trans h0.size h.size, fun k hk hS => (h.at_ k (Nat.lt_of_lt_of_le hk h0.size) (fun hm => by
  rcases hs k hm with q | q
  ·exact hS q
  ·omega)).trans (h0.at_ k hk hS)⟩
theorem can_unborn {x : Ev} (hc : canB s c x = true) (hk : x.k = 7) : (st c x.o).ph = 0 := by
 unfold canB at hc
 rw [hk] at hc
 by_cases h2 : (st c x.t).ph = 2
 ·rw [if_pos h2] at hc; simp at hc
 ·rw [if_neg h2] at hc
  by_cases h1 : (st c x.t).ph ≠ 1
  ·rw [if_pos h1] at hc; simp at hc
  ·rw [if_neg h1] at hc
   by_cases h0 : x.o < 0
   ·rw [if_pos h0] at hc; simp at hc
   ·rw [if_neg h0] at hc
    simp at hc
    exact hc.1
theorem st_unborn (h : ∀ t x, c.T t = some x → x.ph ≠ 0) {t : Int} (hp : (st c t).ph = 0) : st c t = ⟨0, 0, 0⟩ := by
 unfold st at hp ⊢
 cases hT : c.T t with
 | none => rfl
 | some x => rw [hT] at hp; exact absurd hp (h t x hT)
theorem next_nz {x : Ev} (h : ∀ t x, c.T t = some x → x.ph ≠ 0) : ∀ t y, (Jl2 s c x).T t = some y → y.ph ≠ 0 := by
 have key : ∀ (k : Int) (z : Std), z.ph ≠ 0 → ∀ t y, upT c.T k (some z) t = some y → y.ph ≠ 0 := fun k z hz t y hy => by
  rcases Jj2 hy with ⟨_, e⟩ | ⟨_, e⟩
  ·cases e; exact hz
  ·exact h t y e
 unfold Jl2
 split
 ·exact h
 split
 ·exact h
 split
 ·exact key _ _ sI
 split
 ·exact key _ _ sI
 split
 ·exact key _ _ sI
 split
 ·exact key _ _ sI
 ·exact h
theorem thL_set {t : Int} {y : Std} (h0 : 0 ≤ t) : thL s { c with T := upT c.T t (some y) } = (thL s c).set t.toNat y := by
 apply List.ext_getElem?
 intro i
 by_cases hi : i < s.th.toNat
 ·have e1 : ∀ c : Ck, (thL s c)[i]? = some (st c i) := fun c => by have := thL_get (s := s) (c := c) (t := i) oM oM; simpa using this
  rw [e1, List.getElem?_set]
  by_cases hti : t.toNat = i
  ·rw [if_pos hti, if_pos (by rw [Ju9]; omega)]
   have : ((i : Nat) : Int) = t := oM
   simp [st, upT, this]
  ·rw [if_neg hti, e1]
   have : ((i : Nat) : Int) ≠ t := oM
   simp [st, upT, this]
 ·rw [List.getElem?_eq_none (by rw [Ju9]; omega), List.getElem?_eq_none (by rw [List.length_set, Ju9]; omega)]
theorem loL_set {l : Int} {y : Option Int} (h0 : 0 ≤ l) : loL s { c with O := upT c.O l y } = (loL s c).set l.toNat (y.getD (-1)) := by
 apply List.ext_getElem?
 intro i
 by_cases hi : i < s.lo.toNat
 ·have e1 : ∀ c : Ck, (loL s c)[i]? = some ((c.O i).getD (-1)) := fun c => by have := loL_get (s := s) (c := c) (l := i) oM oM; simpa using this
  rw [e1, List.getElem?_set]
  by_cases hti : l.toNat = i
  ·rw [if_pos hti, if_pos (by rw [Qa6]; omega)]
   dsimp only [upT]; rw [if_pos oM]
  ·rw [if_neg hti, e1]
   dsimp only [upT]; rw [if_neg oM]
 ·rw [List.getElem?_eq_none (by rw [Qa6]; omega), List.getElem?_eq_none (by rw [List.length_set, Qa6]; omega)]
theorem RG.ne (h : g.F.Nodup) : (∀ b, b ∈ Ja1 g.pad → b ≠ g.p) ∧ (∀ b, b ∈ Ja1 g.tad → b ≠ g.p ∧ b ∉ Ja1 g.pad) ∧ (∀ b, b ∈ Ja1 g.wad → b ≠ g.p ∧ b ∉ Ja1 g.pad ∧ b ∉ Ja1 g.tad) ∧ (∀ b, b ∈ Ja1 g.oad → b ≠ g.p ∧ b ∉ Ja1 g.pad ∧ b ∉ Ja1 g.tad ∧ b ∉ Ja1 g.wad) := by
 simp only [RG.F, List.nodup_cons, List.mem_append, not_or, List.nodup_append] at h
 obtain ⟨⟨h1, h2, h3, h4⟩, _, ⟨_, ⟨_, _, h7⟩, h8⟩, h9⟩ := h
 refine ⟨fun b hb e => h1 (e ▸ hb), fun b hb => ⟨fun e => h2 (e ▸ hb), fun hb2 => h9 b hb2 b (.inl hb) rfl⟩, fun b hb => ⟨fun e => h3 (e ▸ hb), fun hb2 => h9 b hb2 b (.inr (.inl hb)) rfl, fun hb2 => h8 b hb2 b (.inl hb) rfl⟩, fun b hb => ⟨fun e => h4 (e ▸ hb), fun hb2 => h9 b hb2 b (.inr (.inr hb)) rfl, fun hb2 => h8 b hb2 b (.inr hb) rfl, fun hb2 => h7 b hb2 b hb rfl⟩⟩
def RG.W (g : RG) : List Nat := g.p :: (Ja1 g.tad ++ (Ja1 g.wad ++ Ja1 g.oad))
theorem RG.W_F {b : Nat} (hb : b ∈ g.W) : b ∈ g.F := by
 simp only [RG.W, RG.F, List.mem_cons, List.mem_append] at hb ⊢
 rcases hb with h | h
 ·exact .inl h
 ·exact .inr (.inr h)
theorem RM.setN {w' : World} (h : RM w g s c) {n : Nat} (hu : Upd w g.p (.cells ⟨rgC g s { c with n := n }⟩ 210 (0, 0)) w') : RM w' g s { c with n := n } ∧ Kp g.W w w' := by
 obtain ⟨n1, n2, n3, n4⟩ := RG.ne h.nd
 have k : Kp [g.p] w w' := hu.kp _ (.inl sI)
 refine ⟨⟨hu.blk, h.pa.kp k (fun b hb => by simpa using n1 b hb), h.th.kp k (fun b hb => by simpa using (n2 b hb).1), h.lo.kp k (fun b hb => by simpa using (n3 b hb).1), h.op.kp k (fun b hb => by simpa using (n4 b hb).1), h.nd⟩, k.mono (fun b hb => ?_)⟩
 simp at hb; subst hb; simp [RG.W]
theorem RM.setT {w' : World} {b : Nat} {o : Obj} {t : Int} {y : Std} (h : RM w g s c) (h0 : 0 ≤ t) (hb : g.tad = some ⟨b, 0, none⟩) (hu : Upd w b o w') (ho : OwnS w' 136 3 g.tad s.th.toNat g.tcap (((thL s c).set t.toNat y).flatMap stdC)) : RM w' g s { c with T := upT c.T t (some y) } ∧ Kp g.W w w' := by
 obtain ⟨n1, n2, n3, n4⟩ := RG.ne h.nd
 have hbt : b ∈ Ja1 g.tad := by rw [hb]; simp [Ja1]
 have k : Kp [b] w w' := hu.kp _ (.inl sI)
 obtain ⟨m1, m2⟩ := n2 b hbt
 refine ⟨⟨k.blk (by simpa using fun e => m1 e.symm) h.hdr, h.pa.kp k (fun b' hb' hb2 => by simp at hb2; subst hb2; exact m2 hb'), by rw [thL_set h0]; exact ho, h.lo.kp k (fun b' hb' hb2 => by simp at hb2; subst hb2; exact (n3 _ hb').2.2 hbt), h.op.kp k (fun b' hb' hb2 => by simp at hb2; subst hb2; exact (n4 _ hb').2.2.1 hbt), h.nd⟩, k.mono (fun b' hb' => ?_)⟩
 simp at hb'; subst hb'; simp [RG.W, hbt]
theorem RM.setO {w' : World} {b : Nat} {o : Obj} {l : Int} {y : Option Int} (h : RM w g s c) (h0 : 0 ≤ l) (hb : g.wad = some ⟨b, 0, none⟩) (hu : Upd w b o w') (ho : OwnS w' 3 1 g.wad s.lo.toNat g.wcap (((loL s c).set l.toNat (y.getD (-1))).map I)) : RM w' g s { c with O := upT c.O l y } ∧ Kp g.W w w' := by
 obtain ⟨n1, n2, n3, n4⟩ := RG.ne h.nd
 have hbt : b ∈ Ja1 g.wad := by rw [hb]; simp [Ja1]
 have k : Kp [b] w w' := hu.kp _ (.inl sI)
 obtain ⟨m1, m2, m3⟩ := n3 b hbt
 refine ⟨⟨k.blk (by simpa using fun e => m1 e.symm) h.hdr, h.pa.kp k (fun b' hb' hb2 => by simp at hb2; subst hb2; exact m2 hb'), h.th.kp k (fun b' hb' hb2 => by simp at hb2; subst hb2; exact m3 hb'), by rw [loL_set h0]; exact ho, h.op.kp k (fun b' hb' hb2 => by simp at hb2; subst hb2; exact (n4 _ hb').2.2.2 hbt), h.nd⟩, k.mono (fun b' hb' => ?_)⟩
 simp at hb'; subst hb'; simp [RG.W, hbt]
theorem RM.setP {w' : World} {b : Nat} {o : Obj} {i : Nat} {y : Int × Int} (h : RM w g s c) (hb : g.oad = some ⟨b, 0, none⟩) (hu : Upd w b o w') (ho : OwnS w' 131 2 g.oad c.op.length g.ocap ((c.op.set i y).flatMap opC2)) : RM w' g s { c with op := c.op.set i y } ∧ Kp g.W w w' := by
 obtain ⟨n1, n2, n3, n4⟩ := RG.ne h.nd
 have hbt : b ∈ Ja1 g.oad := by rw [hb]; simp [Ja1]
 have k : Kp [b] w w' := hu.kp _ (.inl sI)
 obtain ⟨m1, m2, m3, m4⟩ := n4 b hbt
 refine ⟨⟨?_, h.pa.kp k (fun b' hb' hb2 => by simp at hb2; subst hb2; exact m2 hb'), h.th.kp k (fun b' hb' hb2 => by simp at hb2; subst hb2; exact m3 hb'), h.lo.kp k (fun b' hb' hb2 => by simp at hb2; subst hb2; exact m4 hb'), by simpa using ho, h.nd⟩, k.mono (fun b' hb' => ?_)⟩
 ·have := k.blk (by simpa using fun e => m1 e.symm) h.hdr
  simpa [rgC] using this
 ·simp at hb'; subst hb'; simp [RG.W, hbt]
theorem rNext_ret (h : RAt w g s c) (x : Ev) (hn : c.n ≤ 4611686018427387904) : Ret Tryz.prog 54 [ptr g.p, .agg ⟨evC x⟩] w (fun v w' => (canB s c x = true ∧ v = I 0 ∧ RAt w' g s (Jl2 s c x) ∧ Kp g.W w w') ∨ (canB s c x = false ∧ v = I 6 ∧ Kp [] w w')) := by
 have hth := h.ok.sh.1
 have hlo := h.ok.sh.2.2.2.1
 have hop := h.ok.op
 have hpa := h.ok.sh.2.2.2.2.1
 refine Ze Tryz.call54 Tryz.func54 ?_
 refine zS ?_
 refine Zx ?_
 intro bx w1 hbx hu1
 have hB1 : Blk w1 bx (evC x) 86 := hu1.blk
 have k1 : Kp [] w w1 := hu1.new oM
 have h1 := h.kp0 k1
 refine zS ?_
 refine Zm (vs := evC x) rfl (fun j v hv => ?_) ?_
 ·rw [Nat.zero_add]; exact hB1.cell hv
 refine zS ?_
 refine Zc (Qd4 h1 x) ?_
 rintro v w2 ⟨rfl, k2⟩
 have h2 := h1.kp0 k2
 have hB2 := k2.b0 hB1
 have k02 := k1.trans k2
 refine zS ?_
 cases hc : canB s c x with
 | false =>
  refine Jf7 rfl rfl ?_
  refine zS ?_
  exact ⟨_, rfl, .inr ⟨rfl, rfl, k02⟩⟩
 | true =>
 refine r_no rfl rfl ?_
 refine zS ?_
 refine Zl (v := I c.n) rfl h2.hdr ?_
 refine zS ?_
 refine Zt (v := I ((c.n : Int) + 1)) (c := none) rfl h2.hdr sI ?_
 intro w3 hu3
 have e3 : (rgC g s c).set 8 (I ((c.n : Int) + 1)) = rgC g s { c with n := c.n + 1 } := by simp [rgC]
 rw [e3] at hu3
 obtain ⟨h3, k3⟩ := h2.toRM.setN hu3
 have hbF : bx ∉ g.W := fun hb => by have := h.toRM.lt bx (RG.W_F hb); omega
 have hB3 := k3.blk hbF hB2
 have hok := next_ok h.ok hc
 have hnz : ∀ t y, (Jl2 s c x).T t = some y → y.ph ≠ 0 := next_nz h.nz
 have ht := Qn7 h.ok hc
 have k03 : Kp g.W w w3 := (k02.mono sI).trans k3
 have hh := h3.hdr
 refine zS ?_
 refine Zl (v := I x.k) rfl hB3 ?_
 refine zS ?_
 refine r_if (p := x.k = 5) rfl (fun hk5 => ?_) (fun hk5 => ?_)
 ·have hin : 0 ≤ x.o ∧ x.o < s.lo := ⟨(can_lock hc hk5).1, (can_lock hc hk5).2.1⟩
  obtain ⟨ob, OL, hoa, hOL, hOlen, hOget, hOset⟩ := h3.lok hin.1 hin.2
  refine Je9 Ja0 rfl kR kR ?_
  dsimp only [List.dropLast]
  refine zQ ?_
  refine Zq (v := .slice (some ⟨ob, 0, none⟩) s.lo.toNat g.wcap) rfl (fun w hs => (hs.blk hh).cell (by rw [rgC, hoa]; rfl)) ?_
  refine zQ ?_
  refine Zq (v := I x.o) rfl (fun w hs => (hs.blk hB3).cell rfl) ?_
  refine zQ ?_
  refine Zq (v := I x.t) rfl (fun w hs => (hs.blk hB3).cell rfl) ?_
  refine zQ ?_
  intro w4 hs4
  refine Zt (b := ob) (off := x.o.toNat) (v := I x.t) (c := none) (by show Value.pointer (some ⟨ob, 0 + x.o.toNat, none⟩) = _; rw [Nat.zero_add]) (hs4.blk hOL) hOlen ?_
  intro w5 hu5
  have h4 := h3.kp (hs4.kp []) sI
  have hu5' : Upd w3 ob (.cells ⟨OL.set x.o.toNat (I x.t)⟩ 3 (0, 0)) w5 := Upd.sm hs4 hu5
  obtain ⟨h5, k5⟩ := h3.setO (l := x.o) (y := some x.t) hin.1 hoa hu5' (hOset _ _ hu5')
  refine zS ?_
  refine ⟨_, rfl, .inl ⟨rfl, rfl, ⟨?_, hok, hnz⟩, k03.trans k5⟩⟩
  unfold Jl2
  simp only [if_pos hk5, if_true, if_false]
  exact h5
 refine zS ?_
 refine r_if (p := x.k = 6) rfl (fun hk6 => ?_) (fun hk6 => ?_)
 ·have hin : 0 ≤ x.o ∧ x.o < s.lo := ⟨(Ql5 hc hk6).1, (Ql5 hc hk6).2.1⟩
  obtain ⟨ob, OL, hoa, hOL, hOlen, hOget, hOset⟩ := h3.lok hin.1 hin.2
  refine Je9 Ja0 rfl kR kR ?_
  dsimp only [List.dropLast]
  refine zQ ?_
  refine Zq (v := .slice (some ⟨ob, 0, none⟩) s.lo.toNat g.wcap) rfl (fun w hs => (hs.blk hh).cell (by rw [rgC, hoa]; rfl)) ?_
  refine zQ ?_
  refine Zq (v := I x.o) rfl (fun w hs => (hs.blk hB3).cell rfl) ?_
  refine zQ ?_
  intro w4 hs4
  refine Zt (b := ob) (off := x.o.toNat) (v := I (-1)) (c := none) (by show Value.pointer (some ⟨ob, 0 + x.o.toNat, none⟩) = _; rw [Nat.zero_add]) (hs4.blk hOL) hOlen ?_
  intro w5 hu5
  have h4 := h3.kp (hs4.kp []) sI
  have hu5' : Upd w3 ob (.cells ⟨OL.set x.o.toNat (I (-1))⟩ 3 (0, 0)) w5 := Upd.sm hs4 hu5
  obtain ⟨h5, k5⟩ := h3.setO (l := x.o) (y := none) hin.1 hoa hu5' (hOset _ _ hu5')
  refine zS ?_
  refine ⟨_, rfl, .inl ⟨rfl, rfl, ⟨?_, hok, hnz⟩, k03.trans k5⟩⟩
  unfold Jl2
  simp only [if_neg hk5, if_pos hk6, if_true, if_false]
  exact h5
 refine zS ?_
 refine r_if (p := x.k = 7) rfl (fun hk7 => ?_) (fun hk7 => ?_)
 ·have hin := can_fork hc hk7
  have hz : st c x.o = ⟨0, 0, 0⟩ := st_unborn h.nz (can_unborn hc hk7)
  obtain ⟨ob, OL, hoa, hOL, hOlen, hOget, hOset⟩ := h3.thr hin.1 hin.2
  refine Je9 Ja0 rfl kR kR ?_
  dsimp only [List.dropLast]
  refine zQ ?_
  refine Zq (v := .slice (some ⟨ob, 0, none⟩) s.th.toNat g.tcap) rfl (fun w hs => (hs.blk hh).cell (by rw [rgC, hoa]; rfl)) ?_
  refine zQ ?_
  refine Zq (v := I x.o) rfl (fun w hs => (hs.blk hB3).cell rfl) ?_
  refine zQ ?_
  intro w4 hs4
  refine Zt (b := ob) (off := x.o.toNat * 3) (v := I 1) (c := none) (by show Value.pointer (some ⟨ob, 0 + x.o.toNat * 3, none⟩) = _; rw [Nat.zero_add]) (hs4.blk hOL) oM ?_
  intro w5 hu5
  have hz' : st { c with n := c.n + 1 } x.o = ⟨0, 0, 0⟩ := hz
  rw [hz'] at hOget
  have ec := Jj4 OL (o := x.o.toNat * 3) (j := 0) (cs := stdC ⟨0, 0, 0⟩) (v := I 1) hOget (by simpa using hOlen) sI
  have ec2 : Jg0 OL (x.o.toNat * 3) (stdC ⟨1, 0, 0⟩) = OL.set (x.o.toNat * 3) (I 1) := ec
  rw [← ec2] at hu5
  have hu5' := Upd.sm hs4 hu5
  obtain ⟨h5, k5⟩ := h3.setT (t := x.o) (y := ⟨1, 0, 0⟩) hin.1 hoa hu5' (hOset _ _ hu5')
  refine zS ?_
  refine ⟨_, rfl, .inl ⟨rfl, rfl, ⟨?_, hok, hnz⟩, k03.trans k5⟩⟩
  unfold Jl2
  simp only [if_neg hk5, if_neg hk6, if_pos hk7, if_true, if_false]
  exact h5
 refine zS ?_
 refine r_if (p := x.k = 9) rfl (fun hk9 => ?_) (fun hk9 => ?_)
 ·have hin := can_op hc hk9
  obtain ⟨ob, OL, hoa, hOL, hOlen, hOget, hOset⟩ := h3.opn hin.1 hin.2
  have eop : opAt { c with n := c.n + 1 } x.o = opAt c x.o := rfl
  rw [eop] at hOget
  refine Ja9 ?_
  refine Jd8 (α := Nat) [0, 3, 6] (fun bo => [ptr g.p, ptr bx, ptr bo]) (fun bo w' => Kp [] w3 w' ∧ Blk w' bo (opC2 (opAt c x.o)) 131 ∧ w3.heap.size ≤ bo) ?_ ?_
  ·refine Jo6 (fun w' => Kp [] w3 w') [(0, false), (1, false), (2, false), (3, false), (4, false), (5, false), (6, false), (7, false), (8, true), (9, true)] Ja0 kR kR kR ((Sm.drew w3).kp []) ?_
   have kd := (Sm.drew w3).kp []
   generalize ({ w3 with drawn := w3.drawn + 1 } : World) = wd at kd ⊢
   refine zX ?_
   refine Zy (v := .slice (some ⟨ob, 0, none⟩) c.op.length g.ocap) rfl rfl (fun w' h' => (h'.b0 hh).cell (by rw [rgC, hoa]; rfl)) ?_
   refine zX ?_
   refine Zy (v := I x.o) rfl rfl (fun w' h' => (h'.b0 hB3).cell rfl) ?_
   refine zX ?_
   refine Zz (vs := opC2 (opAt c x.o)) rfl rfl (fun w' h' j v hv => by rw [Nat.zero_add]; exact (h'.b0 hOL).cell (hOget j v hv)) ?_
   refine zX ?_
   refine Jh2 rfl ?_
   refine Za ?_
   intro bo w4 hbo hu4
   have k4 := kd.trans (hu4.new oM)
   refine Ja6 ⟨.inr k4, ?_⟩
   refine zX ?_
   refine Jh2 rfl ?_
   refine Zs (cs := opC2 (opAt c x.o)) rfl hu4.blk lR rfl (by simp [Value.oneCell']) ?_
   intro w5 hu5
   have z2 := kd.size
   have k5 : Kp [] w3 w5 := k4.since (hu5.kp [bo] (.inl sI)) (by simp; omega)
   refine Ja6 ⟨.inl kR, ?_⟩
   refine zX ?_
   exact ⟨bo, rfl, k5, hu5.blk, oM⟩
  rintro bo e w4 ⟨k4, hBo, hbo⟩
  have hF : ∀ b, b ∈ g.F → b < w3.heap.size := h3.lt
  have hboF : bo ∉ g.W := fun hb => by have := hF bo (RG.W_F hb); omega
  have hboG : bo ∉ g.F := fun hb => by have := hF bo hb; omega
  have hbxlt := hB3.lt
  have h4 := h3.kp k4 sI
  have hB4 := k4.b0 hB3
  have hh4 := h4.hdr
  obtain ⟨tb, TL, hta, hTL, hTlen, hTget, hTset⟩ := h4.thr ht.1 ht.2
  refine zS ?_
  refine Ja9 ?_
  refine Je9 Ja0 rfl kR kR ?_
  dsimp only [List.dropLast]
  refine zQ ?_
  refine Zq (v := .slice (some ⟨tb, 0, none⟩) s.th.toNat g.tcap) rfl (fun w hs => (hs.blk hh4).cell (by rw [rgC, hta]; rfl)) ?_
  refine zQ ?_
  refine Zq (v := I x.t) rfl (fun w hs => (hs.blk hB4).cell rfl) ?_
  refine zQ ?_
  refine Zq (v := I x.o) rfl (fun w hs => (hs.blk hB4).cell rfl) ?_
  refine zQ ?_
  refine Zq (v := I (opAt c x.o).1) rfl (fun w hs => (hs.blk hBo).cell rfl) ?_
  refine zQ ?_
  refine q_build [I 2, I x.o, I (opAt c x.o).1] rfl rfl rfl rfl rfl rfl rfl ?_
  refine zQ ?_
  intro w5 hs5
  refine Zs (b := tb) (off := x.t.toNat * 3) (cs := stdC ⟨2, x.o, (opAt c x.o).1⟩) (by show Value.pointer (some ⟨tb, 0 + x.t.toNat * 3, none⟩) = _; rw [Nat.zero_add]) (hs5.blk hTL) (by simpa using hTlen) rfl (by simp [Value.oneCell']) ?_
  intro w6 hu6
  have hu6' := Upd.sm hs5 hu6
  obtain ⟨h6, k6⟩ := h4.setT (t := x.t) (y := ⟨2, x.o, (opAt c x.o).1⟩) ht.1 hta hu6' (hTset _ _ hu6')
  have hB6 := k6.blk hbF hB4
  have hBo6 := k6.blk hboF hBo
  refine zS ?_
  refine Zl (b := bo) (off := 1) (v := I (opAt c x.o).2) rfl hBo6 ?_
  have hrg := opAt_rng h.ok x.o
  refine zS ?_
  refine Zt (b := bo) (off := 1) (v := I ((opAt c x.o).2 + 1)) (c := none) rfl hBo6 sI ?_
  intro w7 hu7
  have k7 : Kp [bo] w6 w7 := hu7.kp _ (.inl sI)
  have hBo7 : Blk w7 bo [I (opAt c x.o).1, I ((opAt c x.o).2 + 1)] 131 := hu7.blk
  have h7 := h6.kp k7 (fun b hb hb2 => by simp at hb2; subst hb2; exact hboG hb)
  have hB7 := k7.blk (by simp; omega) hB6
  have hh7 := h7.hdr
  have hpl : x.o.toNat < s.pa.length := oM
  obtain ⟨pb, po, hpe, hpb, hpc⟩ := h7.pa.read.at_ (by simp; omega)
  obtain ⟨pz, hpz⟩ : ∃ z, s.pa[x.o.toNat]? = some z := ⟨_, List.getElem?_eq_getElem hpl⟩
  have hpcell := hpc x.o.toNat (I pz) (by rw [List.getElem?_map, hpz]; rfl)
  have hpa0 : (s.pa[x.o.toNat]?).getD 0 = pz := by rw [hpz]; rfl
  refine zS ?_
  refine Ja9 ?_
  refine Jd8 (α := Int × Int) [0, 3, 6] (fun _ => [ptr g.p, ptr bx, ptr bo]) (fun y w' => y = Jy5 s c x.o ∧ Kp [bo] w7 w' ∧ Blk w' bo (opC2 y) 131) ?_ ?_
  ·refine Ja9 ?_
   refine Jd1 Ja0 kR ?_
   refine zQ ?_
   refine Zq (v := I ((opAt c x.o).2 + 1)) rfl (fun w hs => (hs.blk hBo7).cell rfl) ?_
   refine zQ ?_
   refine Zq (v := .slice (some ⟨pb, po, none⟩) s.pa.length g.pcap) rfl (fun w hs => (hs.blk hh7).cell (by rw [rgC, hpe]; rfl)) ?_
   refine zQ ?_
   refine Zq (v := I x.o) rfl (fun w hs => (hs.blk hB7).cell rfl) ?_
   refine zQ ?_
   refine Zq (b := pb) (off := po + x.o.toNat) (v := I pz) rfl (fun w hs => by rw [← hpcell]; exact World.cell?_of_block (by rw [hs.heap])) ?_
   refine zQ ?_
   intro w8 hs8
   refine r_if (p := (opAt c x.o).2 + 1 = pz) rfl (fun hq => ?_) (fun hq => ?_)
   ·refine zS ?_
    refine Zl (b := bo) (off := 0) (v := I (opAt c x.o).1) rfl (hs8.blk hBo7) ?_
    refine zS ?_
    refine Zb [I ((opAt c x.o).1 + 1), I 0] ?_
    refine Zs (b := bo) (off := 0) (cs := [I ((opAt c x.o).1 + 1), I 0]) rfl (hs8.blk hBo7) sI rfl (by simp [Value.oneCell']) ?_
    intro w9 hu9
    refine zS ?_
    refine ⟨((opAt c x.o).1 + 1, 0), rfl, ?_, (hs8.kp _).trans (hu9.kp _ (.inl sI)), hu9.blk⟩
    unfold Jy5; rw [hpa0, if_pos hq]
   ·refine zS ?_
    refine ⟨((opAt c x.o).1, (opAt c x.o).2 + 1), rfl, ?_, hs8.kp _, hs8.blk hBo7⟩
    unfold Jy5; rw [hpa0, if_neg hq]
  rintro y e w9 ⟨hy, k9, hBo9⟩
  have h9 := h7.kp k9 (fun b hb hb2 => by simp at hb2; subst hb2; exact hboG hb)
  have hB9 := k9.blk (by simp; omega) hB7
  have hh9 := h9.hdr
  obtain ⟨ob2, OL2, hoa2, hOL2, hOlen2, hOget2, hOset2⟩ := h9.opn (i := x.o) hin.1 hin.2
  refine zS ?_
  refine Je9 Ja0 rfl kR kR ?_
  dsimp only [List.dropLast]
  refine zQ ?_
  refine Zq (v := .slice (some ⟨ob2, 0, none⟩) c.op.length g.ocap) rfl (fun w hs => (hs.blk hh9).cell (by rw [rgC, hoa2]; rfl)) ?_
  refine zQ ?_
  refine Zq (v := I x.o) rfl (fun w hs => (hs.blk hB9).cell rfl) ?_
  refine zQ ?_
  refine Zw (vs := opC2 y) rfl (fun w hs j v hv => by rw [Nat.zero_add]; exact (hs.blk hBo9).cell hv) ?_
  refine zQ ?_
  intro w10 hs10
  refine Zs (b := ob2) (off := x.o.toNat * 2) (cs := opC2 y) (by show Value.pointer (some ⟨ob2, 0 + x.o.toNat * 2, none⟩) = _; rw [Nat.zero_add]) (hs10.blk hOL2) (by simpa using hOlen2) rfl (by simp [Value.oneCell']) ?_
  intro w11 hu11
  have hu11' := Upd.sm hs10 hu11
  obtain ⟨h11, k11⟩ := h9.setP hoa2 hu11' (hOset2 _ _ hu11')
  have kall : Kp g.W w3 w11 := by
   have q1 : Kp g.W w3 w6 := (k4.mono sI).trans k6
   have q2 : Kp [bo] w6 w9 := k7.trans k9
   exact (q1.sinceS q2 (fun b hb => by simp at hb; subst hb; exact .inr hbo)).trans k11
  refine zS ?_
  refine ⟨_, rfl, .inl ⟨rfl, rfl, ⟨?_, hok, hnz⟩, k03.trans kall⟩⟩
  unfold Jl2
  simp only [if_neg hk5, if_neg hk6, if_neg hk7, if_pos hk9, if_true, if_false]
  rw [← hy]
  exact h11
 refine zS ?_
 refine r_if (p := x.k = 10) rfl (fun hk10 => ?_) (fun hk10 => ?_)
 ·obtain ⟨ob, OL, hoa, hOL, hOlen, hOget, hOset⟩ := h3.thr ht.1 ht.2
  refine Je9 Ja0 rfl kR kR ?_
  dsimp only [List.dropLast]
  refine zQ ?_
  refine Zq (v := .slice (some ⟨ob, 0, none⟩) s.th.toNat g.tcap) rfl (fun w hs => (hs.blk hh).cell (by rw [rgC, hoa]; rfl)) ?_
  refine zQ ?_
  refine Zq (v := I x.t) rfl (fun w hs => (hs.blk hB3).cell rfl) ?_
  refine zQ ?_
  refine q_build [I 1, I 0, I 0] rfl rfl rfl rfl rfl rfl rfl ?_
  refine zQ ?_
  intro w4 hs4
  refine Zs (b := ob) (off := x.t.toNat * 3) (cs := stdC ⟨1, 0, 0⟩) (by show Value.pointer (some ⟨ob, 0 + x.t.toNat * 3, none⟩) = _; rw [Nat.zero_add]) (hs4.blk hOL) (by simpa using hOlen) rfl (by simp [Value.oneCell']) ?_
  intro w5 hu5
  have hu5' := Upd.sm hs4 hu5
  obtain ⟨h5, k5⟩ := h3.setT (t := x.t) (y := ⟨1, 0, 0⟩) ht.1 hoa hu5' (hOset _ _ hu5')
  refine zS ?_
  refine ⟨_, rfl, .inl ⟨rfl, rfl, ⟨?_, hok, hnz⟩, k03.trans k5⟩⟩
  unfold Jl2
  simp only [if_neg hk5, if_neg hk6, if_neg hk7, if_neg hk9, if_pos hk10, if_true, if_false]
  exact h5
 refine zS ?_
 refine r_if (p := x.k = 11) rfl (fun hk11 => ?_) (fun hk11 => ?_)
 ·obtain ⟨ob, OL, hoa, hOL, hOlen, hOget, hOset⟩ := h3.thr ht.1 ht.2
  refine Je9 Ja0 rfl kR kR ?_
  dsimp only [List.dropLast]
  refine zQ ?_
  refine Zq (v := .slice (some ⟨ob, 0, none⟩) s.th.toNat g.tcap) rfl (fun w hs => (hs.blk hh).cell (by rw [rgC, hoa]; rfl)) ?_
  refine zQ ?_
  refine Zq (v := I x.t) rfl (fun w hs => (hs.blk hB3).cell rfl) ?_
  refine zQ ?_
  refine q_build [I 3, I 0, I 0] rfl rfl rfl rfl rfl rfl rfl ?_
  refine zQ ?_
  intro w4 hs4
  refine Zs (b := ob) (off := x.t.toNat * 3) (cs := stdC ⟨3, 0, 0⟩) (by show Value.pointer (some ⟨ob, 0 + x.t.toNat * 3, none⟩) = _; rw [Nat.zero_add]) (hs4.blk hOL) (by simpa using hOlen) rfl (by simp [Value.oneCell']) ?_
  intro w5 hu5
  have hu5' := Upd.sm hs4 hu5
  obtain ⟨h5, k5⟩ := h3.setT (t := x.t) (y := ⟨3, 0, 0⟩) ht.1 hoa hu5' (hOset _ _ hu5')
  refine zS ?_
  refine ⟨_, rfl, .inl ⟨rfl, rfl, ⟨?_, hok, hnz⟩, k03.trans k5⟩⟩
  unfold Jl2
  simp only [if_neg hk5, if_neg hk6, if_neg hk7, if_neg hk9, if_neg hk10, if_pos hk11, if_true, if_false]
  exact h5
 refine zS ?_
 refine ⟨_, rfl, .inl ⟨rfl, rfl, ⟨?_, hok, hnz⟩, k03⟩⟩
 unfold Jl2
 simp only [if_neg hk5, if_neg hk6, if_neg hk7, if_neg hk9, if_neg hk10, if_neg hk11]
 exact h3
end
end
section
variable {w : World}
def RG.D (g : RG) : Nat → List Nat
 | 0 => [g.p]
 | 1 => Ja1 g.pad
 | 2 => Ja1 g.tad
 | 3 => Ja1 g.wad
 | 4 => Ja1 g.oad
 | _ => []
def SepD (D : Nat → List Nat) : Prop := ∀ i j b, i ≠ j → b ∈ D i → b ∉ D j
theorem SepD.upd {D D' : Nat → List Nat} {N : Nat} (h : SepD D) (lt : ∀ i b, b ∈ D i → b < N) (k : Nat) (h' : ∀ i, i ≠ k → D' i = D i) (hk : ∀ b, b ∈ D' k → b ∈ D k ∨ N ≤ b) : SepD D' := by
 intro i j b hij hb hb2
 by_cases hi : i = k
 ·subst hi
  rw [h' j (fun e => hij e.symm)] at hb2
  rcases hk b hb with q | q
  ·exact h i j b hij q hb2
  ·have := lt j b hb2; omega
 ·rw [h' i hi] at hb
  by_cases hj : j = k
  ·subst hj
   rcases hk b hb2 with q | q
   ·exact h i j b hij hb q
   ·have := lt i b hb; omega
  ·rw [h' j hj] at hb2
   exact h i j b hij hb hb2
theorem Jx1 (ad : Option Addr) : (Ja1 ad).Nodup := by cases ad <;> simp [Ja1]
theorem Qi0 {a b : List Nat} (ha : a.Nodup) (hb : b.Nodup) (h : ∀ x, x ∈ a → x ∉ b) : (a ++ b).Nodup := by
 rw [List.nodup_append]
 exact ⟨ha, hb, fun x hx y hy e => h x hx (e ▸ hy)⟩
theorem RG.nd_of {g : RG} (h : SepD g.D) : g.F.Nodup := by
 have n1 : ∀ x, x ∈ Ja1 g.wad → x ∉ Ja1 g.oad := fun x => h 3 4 x sI
 have n2 : ∀ x, x ∈ Ja1 g.tad → x ∉ Ja1 g.wad ++ Ja1 g.oad := fun x hx hx2 => by
  rcases List.mem_append.1 hx2 with q | q
  ·exact h 2 3 x sI hx q
  ·exact h 2 4 x sI hx q
 have n3 : ∀ x, x ∈ Ja1 g.pad → x ∉ Ja1 g.tad ++ (Ja1 g.wad ++ Ja1 g.oad) := fun x hx hx2 => by
  rcases List.mem_append.1 hx2 with q | q
  ·exact h 1 2 x sI hx q
  rcases List.mem_append.1 q with q | q
  ·exact h 1 3 x sI hx q
  ·exact h 1 4 x sI hx q
 unfold RG.F
 rw [List.nodup_cons]
 refine ⟨fun hm => ?_, Qi0 (Jx1 _) (Qi0 (Jx1 _) (Qi0 (Jx1 _) (Jx1 _) n1) n2) n3⟩
 have hp : g.p ∈ g.D 0 := by simp [RG.D]
 rcases List.mem_append.1 hm with q | q
 ·exact h 0 1 _ sI hp q
 rcases List.mem_append.1 q with q | q
 ·exact h 0 2 _ sI hp q
 rcases List.mem_append.1 q with q | q
 ·exact h 0 3 _ sI hp q
 ·exact h 0 4 _ sI hp q
structure PN (w0 w : World) (g : RG) (s : Shp) (np no : Nat) (nt : List Std) (nw : Nat) : Prop where
 hdr : Blk w g.p [I s.th, I s.va, I s.vo, I s.lo, .slice g.pad np g.pcap, .slice g.tad nt.length g.tcap, .slice g.wad nw g.wcap, .slice g.oad no g.ocap, I 0] 210
 pa : OwnS w 3 1 g.pad np g.pcap ((s.pa.take np).map I)
 th : OwnS w 136 3 g.tad nt.length g.tcap (nt.flatMap stdC)
 lo : OwnS w 3 1 g.wad nw g.wcap ((List.replicate nw (-1 : Int)).map I)
 op : OwnS w 131 2 g.oad no g.ocap ((List.replicate no ((0, 0) : Int × Int)).flatMap opC2)
 sep : SepD g.D
 new : ∀ i b, b ∈ g.D i → w0.heap.size ≤ b
 kk : Kp [] w0 w
section
variable {w0 : World} {g : RG} {s : Shp} {np no nw : Nat} {nt : List Std}
theorem PN.lt (h : PN w0 w g s np no nt nw) : ∀ i b, b ∈ g.D i → b < w.heap.size := by
 intro i b hb
 match i with
 | 0 => simp [RG.D] at hb; subst hb; exact h.hdr.lt
 | 1 => exact h.pa.lt b hb
 | 2 => exact h.th.lt b hb
 | 3 => exact h.lo.lt b hb
 | 4 => exact h.op.lt b hb
 | n + 5 => simp [RG.D] at hb
theorem PN.kp0 {w' : World} (h : PN w0 w g s np no nt nw) (hk : Kp [] w w') : PN w0 w' g s np no nt nw :=
 ⟨hk.b0 h.hdr, h.pa.kp hk sI, h.th.kp hk sI, h.lo.kp hk sI, h.op.kp hk sI, h.sep, h.new, h.kk.trans hk⟩
theorem PN.pne (h : PN w0 w g s np no nt nw) {i : Nat} (hi : i ≠ 0) : g.p ∉ g.D i := h.sep 0 i g.p hi.symm (by simp [RG.D])
theorem PN.parts {w1 w2 : World} {L : List Value} {k : Nat} (h : PN w0 w g s np no nt nw) (hk0 : k ≠ 0) (k1 : Kp (g.D k) w w1) (hu : Upd w1 g.p (.cells ⟨L⟩ 210 (0, 0)) w2) : Kp [] w0 w2 := by
 have h2 : Kp (g.D k ++ [g.p]) w w2 := (k1.mono (fun b hb => by simp [hb])).trans (hu.kp _ (.inl sI))
 refine h.kk.since h2 (fun b hb => ?_)
 rcases List.mem_append.1 hb with q | q
 ·exact h.new k b q
 ·simp at q; subst q; exact h.new 0 _ (by simp [RG.D])
theorem PN.pushP {ad' : Option Addr} {cap' : Nat} {w1 w2 : World} (h : PN w0 w g s np no nt nw) (ho : OwnS w1 3 1 ad' (np + 1) cap' ((s.pa.take (np + 1)).map I)) (k1 : Kp (Ja1 g.pad) w w1) (hn : ∀ b, b ∈ Ja1 ad' → b ∈ Ja1 g.pad ∨ w.heap.size ≤ b) (hu : Upd w1 g.p (.cells ⟨[I s.th, I s.va, I s.vo, I s.lo, .slice ad' (np + 1) cap', .slice g.tad nt.length g.tcap, .slice g.wad nw g.wcap, .slice g.oad no g.ocap, I 0]⟩ 210 (0, 0)) w2) : PN w0 w2 { g with pad := ad', pcap := cap' } s (np + 1) no nt nw := by
 have hkp : Kp (g.D 1 ++ [g.p]) w w2 := ((show Kp (g.D 1) w w1 from k1).mono (fun b hb => by simp [hb])).trans (hu.kp _ (.inl sI))
 have hpl := h.hdr.lt
 have hpn : g.p ∉ Ja1 ad' := fun hb => by
  rcases hn _ hb with q | q
  ·exact h.pne (i := 1) sI q
  ·omega
 refine ⟨hu.blk, ho.upd hu hpn, (h.th.kp hkp (fun b hb hb2 => by
  rcases List.mem_append.1 hb2 with q | q
  ·exact h.sep 2 1 b sI hb q
  ·simp at q; subst q; exact h.pne (i := 2) sI hb)), (h.lo.kp hkp (fun b hb hb2 => by
  rcases List.mem_append.1 hb2 with q | q
  ·exact h.sep 3 1 b sI hb q
  ·simp at q; subst q; exact h.pne (i := 3) sI hb)), (h.op.kp hkp (fun b hb hb2 => by
  rcases List.mem_append.1 hb2 with q | q
  ·exact h.sep 4 1 b sI hb q
  ·simp at q; subst q; exact h.pne (i := 4) sI hb)), h.sep.upd h.lt 1 (fun i hi => ?_) hn, fun i b hb => ?_, h.parts (k := 1) sI k1 hu⟩
 ·match i, hi with
  | 0, _ => rfl
  | 1, hi => first | rfl | exact absurd rfl hi
  | 2, hi => first | rfl | exact absurd rfl hi
  | 3, hi => first | rfl | exact absurd rfl hi
  | 4, hi => first | rfl | exact absurd rfl hi
  | n + 5, _ => rfl
 ·by_cases hi : i = 1
  ·subst hi
   rcases hn b hb with q | q
   ·exact h.new 1 b q
   ·have := h.kk.size; omega
  ·refine h.new i b ?_
   match i, hi with
   | 0, _ => exact hb
   | 1, hi => first | exact absurd rfl hi | exact hb
   | 2, hi => first | exact absurd rfl hi | exact hb
   | 3, hi => first | exact absurd rfl hi | exact hb
   | 4, hi => first | exact absurd rfl hi | exact hb
   | n + 5, _ => exact hb
theorem PN.pushT {y : Std} {ad' : Option Addr} {cap' : Nat} {w1 w2 : World} (h : PN w0 w g s np no nt nw) (ho : OwnS w1 136 3 ad' (nt.length + 1) cap' ((nt ++ [y]).flatMap stdC)) (k1 : Kp (Ja1 g.tad) w w1) (hn : ∀ b, b ∈ Ja1 ad' → b ∈ Ja1 g.tad ∨ w.heap.size ≤ b) (hu : Upd w1 g.p (.cells ⟨[I s.th, I s.va, I s.vo, I s.lo, .slice g.pad np g.pcap, .slice ad' (nt.length + 1) cap', .slice g.wad nw g.wcap, .slice g.oad no g.ocap, I 0]⟩ 210 (0, 0)) w2) : PN w0 w2 { g with tad := ad', tcap := cap' } s np no (nt ++ [y]) nw := by
 have el : (nt ++ [y]).length = nt.length + 1 := sI
 have hkp : Kp (g.D 2 ++ [g.p]) w w2 := ((show Kp (g.D 2) w w1 from k1).mono (fun b hb => by simp [hb])).trans (hu.kp _ (.inl sI))
 have hpl := h.hdr.lt
 have hpn : g.p ∉ Ja1 ad' := fun hb => by
  rcases hn _ hb with q | q
  ·exact h.pne (i := 2) sI q
  ·omega
 refine ⟨by rw [el]; exact hu.blk, (h.pa.kp hkp (fun b hb hb2 => by
  rcases List.mem_append.1 hb2 with q | q
  ·exact h.sep 1 2 b sI hb q
  ·simp at q; subst q; exact h.pne (i := 1) sI hb)), by rw [el]; exact ho.upd hu hpn, (h.lo.kp hkp (fun b hb hb2 => by
  rcases List.mem_append.1 hb2 with q | q
  ·exact h.sep 3 2 b sI hb q
  ·simp at q; subst q; exact h.pne (i := 3) sI hb)), (h.op.kp hkp (fun b hb hb2 => by
  rcases List.mem_append.1 hb2 with q | q
  ·exact h.sep 4 2 b sI hb q
  ·simp at q; subst q; exact h.pne (i := 4) sI hb)), h.sep.upd h.lt 2 (fun i hi => ?_) hn, fun i b hb => ?_, h.parts (k := 2) sI k1 hu⟩
 ·match i, hi with
  | 0, _ => rfl
  | 1, hi => first | rfl | exact absurd rfl hi
  | 2, hi => first | rfl | exact absurd rfl hi
  | 3, hi => first | rfl | exact absurd rfl hi
  | 4, hi => first | rfl | exact absurd rfl hi
  | n + 5, _ => rfl
 ·by_cases hi : i = 2
  ·subst hi
   rcases hn b hb with q | q
   ·exact h.new 2 b q
   ·have := h.kk.size; omega
  ·refine h.new i b ?_
   match i, hi with
   | 0, _ => exact hb
   | 1, hi => first | exact absurd rfl hi | exact hb
   | 2, hi => first | exact absurd rfl hi | exact hb
   | 3, hi => first | exact absurd rfl hi | exact hb
   | 4, hi => first | exact absurd rfl hi | exact hb
   | n + 5, _ => exact hb
theorem PN.pushW {ad' : Option Addr} {cap' : Nat} {w1 w2 : World} (h : PN w0 w g s np no nt nw) (ho : OwnS w1 3 1 ad' (nw + 1) cap' ((List.replicate (nw + 1) (-1 : Int)).map I)) (k1 : Kp (Ja1 g.wad) w w1) (hn : ∀ b, b ∈ Ja1 ad' → b ∈ Ja1 g.wad ∨ w.heap.size ≤ b) (hu : Upd w1 g.p (.cells ⟨[I s.th, I s.va, I s.vo, I s.lo, .slice g.pad np g.pcap, .slice g.tad nt.length g.tcap, .slice ad' (nw + 1) cap', .slice g.oad no g.ocap, I 0]⟩ 210 (0, 0)) w2) : PN w0 w2 { g with wad := ad', wcap := cap' } s np no nt (nw + 1) := by
 have hkp : Kp (g.D 3 ++ [g.p]) w w2 := ((show Kp (g.D 3) w w1 from k1).mono (fun b hb => by simp [hb])).trans (hu.kp _ (.inl sI))
 have hpl := h.hdr.lt
 have hpn : g.p ∉ Ja1 ad' := fun hb => by
  rcases hn _ hb with q | q
  ·exact h.pne (i := 3) sI q
  ·omega
 refine ⟨hu.blk, (h.pa.kp hkp (fun b hb hb2 => by
  rcases List.mem_append.1 hb2 with q | q
  ·exact h.sep 1 3 b sI hb q
  ·simp at q; subst q; exact h.pne (i := 1) sI hb)), (h.th.kp hkp (fun b hb hb2 => by
  rcases List.mem_append.1 hb2 with q | q
  ·exact h.sep 2 3 b sI hb q
  ·simp at q; subst q; exact h.pne (i := 2) sI hb)), ho.upd hu hpn, (h.op.kp hkp (fun b hb hb2 => by
  rcases List.mem_append.1 hb2 with q | q
  ·exact h.sep 4 3 b sI hb q
  ·simp at q; subst q; exact h.pne (i := 4) sI hb)), h.sep.upd h.lt 3 (fun i hi => ?_) hn, fun i b hb => ?_, h.parts (k := 3) sI k1 hu⟩
 ·match i, hi with
  | 0, _ => rfl
  | 1, hi => first | rfl | exact absurd rfl hi
  | 2, hi => first | rfl | exact absurd rfl hi
  | 3, hi => first | rfl | exact absurd rfl hi
  | 4, hi => first | rfl | exact absurd rfl hi
  | n + 5, _ => rfl
 ·by_cases hi : i = 3
  ·subst hi
   rcases hn b hb with q | q
   ·exact h.new 3 b q
   ·have := h.kk.size; omega
  ·refine h.new i b ?_
   match i, hi with
   | 0, _ => exact hb
   | 1, hi => first | exact absurd rfl hi | exact hb
   | 2, hi => first | exact absurd rfl hi | exact hb
   | 3, hi => first | exact absurd rfl hi | exact hb
   | 4, hi => first | exact absurd rfl hi | exact hb
   | n + 5, _ => exact hb
theorem PN.pushO {ad' : Option Addr} {cap' : Nat} {w1 w2 : World} (h : PN w0 w g s np no nt nw) (ho : OwnS w1 131 2 ad' (no + 1) cap' ((List.replicate (no + 1) ((0, 0) : Int × Int)).flatMap opC2)) (k1 : Kp (Ja1 g.oad) w w1) (hn : ∀ b, b ∈ Ja1 ad' → b ∈ Ja1 g.oad ∨ w.heap.size ≤ b) (hu : Upd w1 g.p (.cells ⟨[I s.th, I s.va, I s.vo, I s.lo, .slice g.pad np g.pcap, .slice g.tad nt.length g.tcap, .slice g.wad nw g.wcap, .slice ad' (no + 1) cap', I 0]⟩ 210 (0, 0)) w2) : PN w0 w2 { g with oad := ad', ocap := cap' } s np (no + 1) nt nw := by
 have hkp : Kp (g.D 4 ++ [g.p]) w w2 := ((show Kp (g.D 4) w w1 from k1).mono (fun b hb => by simp [hb])).trans (hu.kp _ (.inl sI))
 have hpl := h.hdr.lt
 have hpn : g.p ∉ Ja1 ad' := fun hb => by
  rcases hn _ hb with q | q
  ·exact h.pne (i := 4) sI q
  ·omega
 refine ⟨hu.blk, (h.pa.kp hkp (fun b hb hb2 => by
  rcases List.mem_append.1 hb2 with q | q
  ·exact h.sep 1 4 b sI hb q
  ·simp at q; subst q; exact h.pne (i := 1) sI hb)), (h.th.kp hkp (fun b hb hb2 => by
  rcases List.mem_append.1 hb2 with q | q
  ·exact h.sep 2 4 b sI hb q
  ·simp at q; subst q; exact h.pne (i := 2) sI hb)), (h.lo.kp hkp (fun b hb hb2 => by
  rcases List.mem_append.1 hb2 with q | q
  ·exact h.sep 3 4 b sI hb q
  ·simp at q; subst q; exact h.pne (i := 3) sI hb)), ho.upd hu hpn, h.sep.upd h.lt 4 (fun i hi => ?_) hn, fun i b hb => ?_, h.parts (k := 4) sI k1 hu⟩
 ·match i, hi with
  | 0, _ => rfl
  | 1, hi => first | rfl | exact absurd rfl hi
  | 2, hi => first | rfl | exact absurd rfl hi
  | 3, hi => first | rfl | exact absurd rfl hi
  | 4, hi => first | rfl | exact absurd rfl hi
  | n + 5, _ => rfl
 ·by_cases hi : i = 4
  ·subst hi
   rcases hn b hb with q | q
   ·exact h.new 4 b q
   ·have := h.kk.size; omega
  ·refine h.new i b ?_
   match i, hi with
   | 0, _ => exact hb
   | 1, hi => first | exact absurd rfl hi | exact hb
   | 2, hi => first | exact absurd rfl hi | exact hb
   | 3, hi => first | exact absurd rfl hi | exact hb
   | 4, hi => first | exact absurd rfl hi | exact hb
   | n + 5, _ => exact hb
theorem PN.setT {w2 : World} {b : Nat} {o : Obj} {nt' : List Std} (h : PN w0 w g s np no nt nw) (hl : nt'.length = nt.length) (hb : g.tad = some ⟨b, 0, none⟩) (hu : Upd w b o w2) (ho : OwnS w2 136 3 g.tad nt'.length g.tcap (nt'.flatMap stdC)) : PN w0 w2 g s np no nt' nw := by
 have hbt : b ∈ g.D 2 := by show b ∈ Ja1 g.tad; rw [hb]; simp [Ja1]
 have k : Kp [b] w w2 := hu.kp _ (.inl sI)
 have sp : ∀ i, i ≠ 2 → ∀ c, c ∈ g.D i → c ∉ [b] := fun i hi c hc hc2 => by simp at hc2; subst hc2; exact h.sep i 2 _ hi hc hbt
 exact ⟨by rw [hl]; exact k.blk (sp 0 sI _ (by simp [RG.D])) h.hdr, h.pa.kp k (sp 1 sI), ho, h.lo.kp k (sp 3 sI), h.op.kp k (sp 4 sI), h.sep, h.new, h.kk.since k (fun c hc => by simp at hc; subst hc; exact h.new 2 _ hbt)⟩
end
end
end Go.Vc
