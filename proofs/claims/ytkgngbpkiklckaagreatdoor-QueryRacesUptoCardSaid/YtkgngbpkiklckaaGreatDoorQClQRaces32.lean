/- abreastref19: Next (by tool/mkFr3.py). -/
import Derived.Test.YtkgngbpkiklckaaGreatDoorQClQRaces31
namespace Go.Vc
open Go Go.Proofs
set_option maxRecDepth 10000
variable {w : World}
section
variable {g : RG} {s : Shp} {c : Ck}
theorem Upd.sm {w1 w2 : World} {b : Nat} {o : Obj} (hs : Sm w w1) (h : Upd w1 b o w2) : Upd w b o w2 :=
  ⟨h.os.trans hs.os, h.tape.trans hs.tape, h.output.trans hs.output, h.at_, fun k hk => by rw [h.other k hk, hs.heap], by rw [← hs.heap]; exact h.size, by rw [← hs.heap]; exact h.size'⟩
theorem Kp.sinceS {S Q : List Nat} {w0 w w' : World} (h0 : Kp S w0 w) (h : Kp Q w w') (hs : ∀ b, b ∈ Q → b ∈ S ∨ w0.heap.size ≤ b) : Kp S w0 w' :=
  ⟨h.os.trans h0.os, h.tape.trans h0.tape, h.output.trans h0.output, Nat.le_trans h0.size h.size, fun k hk hS => (h.at_ k (Nat.lt_of_lt_of_le hk h0.size) (fun hm => by
    rcases hs k hm with q | q
    · exact hS q
    · omega)).trans (h0.at_ k hk hS)⟩
theorem can_unborn {x : Ev} (hc : canB s c x = true) (hk : x.k = 7) : (st c x.o).ph = 0 := by
  unfold canB at hc
  rw [hk] at hc
  by_cases h2 : (st c x.t).ph = 2
  · rw [if_pos h2] at hc; simp at hc
  · rw [if_neg h2] at hc
    by_cases h1 : (st c x.t).ph ≠ 1
    · rw [if_pos h1] at hc; simp at hc
    · rw [if_neg h1] at hc
      by_cases h0 : x.o < 0
      · rw [if_pos h0] at hc; simp at hc
      · rw [if_neg h0] at hc
        simp at hc
        exact hc.1
theorem st_unborn (h : ∀ t x, c.T t = some x → x.ph ≠ 0) {t : Int} (hp : (st c t).ph = 0) : st c t = ⟨0, 0, 0⟩ := by
  unfold st at hp ⊢
  cases hT : c.T t with
  | none => rfl
  | some x => rw [hT] at hp; exact absurd hp (h t x hT)
theorem next_nz {x : Ev} (h : ∀ t x, c.T t = some x → x.ph ≠ 0) : ∀ t y, (nextC s c x).T t = some y → y.ph ≠ 0 := by
  have key : ∀ (k : Int) (z : Std), z.ph ≠ 0 → ∀ t y, upT c.T k (some z) t = some y → y.ph ≠ 0 := fun k z hz t y hy => by
    rcases upT_cases hy with ⟨_, e⟩ | ⟨_, e⟩
    · cases e; exact hz
    · exact h t y e
  unfold nextC
  split
  · exact h
  split
  · exact h
  split
  · exact key _ _ (by simp)
  split
  · exact key _ _ (by simp)
  split
  · exact key _ _ (by simp)
  split
  · exact key _ _ (by simp)
  · exact h
theorem thL_set {t : Int} {y : Std} (h0 : 0 ≤ t) : thL s { c with T := upT c.T t (some y) } = (thL s c).set t.toNat y := by
  apply List.ext_getElem?
  intro i
  by_cases hi : i < s.th.toNat
  · have e1 : ∀ c : Ck, (thL s c)[i]? = some (st c i) := fun c => by have := thL_get (s := s) (c := c) (t := i) (by omega) (by omega); simpa using this
    rw [e1, List.getElem?_set]
    by_cases hti : t.toNat = i
    · rw [if_pos hti, if_pos (by rw [thL_len]; omega)]
      have : ((i : Nat) : Int) = t := by omega
      simp [st, upT, this]
    · rw [if_neg hti, e1]
      have : ((i : Nat) : Int) ≠ t := by omega
      simp [st, upT, this]
  · rw [List.getElem?_eq_none (by rw [thL_len]; omega), List.getElem?_eq_none (by rw [List.length_set, thL_len]; omega)]
theorem loL_set {l : Int} {y : Option Int} (h0 : 0 ≤ l) : loL s { c with O := upT c.O l y } = (loL s c).set l.toNat (y.getD (-1)) := by
  apply List.ext_getElem?
  intro i
  by_cases hi : i < s.lo.toNat
  · have e1 : ∀ c : Ck, (loL s c)[i]? = some ((c.O i).getD (-1)) := fun c => by have := loL_get (s := s) (c := c) (l := i) (by omega) (by omega); simpa using this
    rw [e1, List.getElem?_set]
    by_cases hti : l.toNat = i
    · rw [if_pos hti, if_pos (by rw [loL_len]; omega)]
      dsimp only [upT]; rw [if_pos (by omega)]
    · rw [if_neg hti, e1]
      dsimp only [upT]; rw [if_neg (by omega)]
  · rw [List.getElem?_eq_none (by rw [loL_len]; omega), List.getElem?_eq_none (by rw [List.length_set, loL_len]; omega)]
theorem RG.ne (h : g.F.Nodup) : (∀ b, b ∈ blkOf g.pad → b ≠ g.p) ∧ (∀ b, b ∈ blkOf g.tad → b ≠ g.p ∧ b ∉ blkOf g.pad) ∧ (∀ b, b ∈ blkOf g.wad → b ≠ g.p ∧ b ∉ blkOf g.pad ∧ b ∉ blkOf g.tad) ∧ (∀ b, b ∈ blkOf g.oad → b ≠ g.p ∧ b ∉ blkOf g.pad ∧ b ∉ blkOf g.tad ∧ b ∉ blkOf g.wad) := by
  simp only [RG.F, List.nodup_cons, List.mem_append, not_or, List.nodup_append] at h
  obtain ⟨⟨h1, h2, h3, h4⟩, _, ⟨_, ⟨_, _, h7⟩, h8⟩, h9⟩ := h
  refine ⟨fun b hb e => h1 (e ▸ hb), fun b hb => ⟨fun e => h2 (e ▸ hb), fun hb2 => h9 b hb2 b (.inl hb) rfl⟩, fun b hb => ⟨fun e => h3 (e ▸ hb), fun hb2 => h9 b hb2 b (.inr (.inl hb)) rfl, fun hb2 => h8 b hb2 b (.inl hb) rfl⟩, fun b hb => ⟨fun e => h4 (e ▸ hb), fun hb2 => h9 b hb2 b (.inr (.inr hb)) rfl, fun hb2 => h8 b hb2 b (.inr hb) rfl, fun hb2 => h7 b hb2 b hb rfl⟩⟩
/-- what a step writes to: all but the shape's parties -/
def RG.W (g : RG) : List Nat := g.p :: (blkOf g.tad ++ (blkOf g.wad ++ blkOf g.oad))
theorem RG.W_F {b : Nat} (hb : b ∈ g.W) : b ∈ g.F := by
  simp only [RG.W, RG.F, List.mem_cons, List.mem_append] at hb ⊢
  rcases hb with h | h
  · exact .inl h
  · exact .inr (.inr h)
theorem RM.setN {w' : World} (h : RM w g s c) {n : Nat} (hu : Upd w g.p (.cells ⟨rgC g s { c with n := n }⟩ 210 (0, 0)) w') : RM w' g s { c with n := n } ∧ Kp g.W w w' := by
  obtain ⟨n1, n2, n3, n4⟩ := RG.ne h.nd
  have k : Kp [g.p] w w' := hu.kp _ (.inl (by simp))
  refine ⟨⟨hu.blk, h.pa.kp k (fun b hb => by simpa using n1 b hb), h.th.kp k (fun b hb => by simpa using (n2 b hb).1), h.lo.kp k (fun b hb => by simpa using (n3 b hb).1), h.op.kp k (fun b hb => by simpa using (n4 b hb).1), h.nd⟩, k.mono (fun b hb => ?_)⟩
  simp at hb; subst hb; simp [RG.W]
theorem RM.setT {w' : World} {b : Nat} {o : Obj} {t : Int} {y : Std} (h : RM w g s c) (h0 : 0 ≤ t) (hb : g.tad = some ⟨b, 0, none⟩) (hu : Upd w b o w') (ho : OwnS w' 136 3 g.tad s.th.toNat g.tcap (((thL s c).set t.toNat y).flatMap stdC)) : RM w' g s { c with T := upT c.T t (some y) } ∧ Kp g.W w w' := by
  obtain ⟨n1, n2, n3, n4⟩ := RG.ne h.nd
  have hbt : b ∈ blkOf g.tad := by rw [hb]; simp [blkOf]
  have k : Kp [b] w w' := hu.kp _ (.inl (by simp))
  obtain ⟨m1, m2⟩ := n2 b hbt
  refine ⟨⟨k.blk (by simpa using fun e => m1 e.symm) h.hdr, h.pa.kp k (fun b' hb' hb2 => by simp at hb2; subst hb2; exact m2 hb'), by rw [thL_set h0]; exact ho, h.lo.kp k (fun b' hb' hb2 => by simp at hb2; subst hb2; exact (n3 _ hb').2.2 hbt), h.op.kp k (fun b' hb' hb2 => by simp at hb2; subst hb2; exact (n4 _ hb').2.2.1 hbt), h.nd⟩, k.mono (fun b' hb' => ?_)⟩
  simp at hb'; subst hb'; simp [RG.W, hbt]
theorem RM.setO {w' : World} {b : Nat} {o : Obj} {l : Int} {y : Option Int} (h : RM w g s c) (h0 : 0 ≤ l) (hb : g.wad = some ⟨b, 0, none⟩) (hu : Upd w b o w') (ho : OwnS w' 3 1 g.wad s.lo.toNat g.wcap (((loL s c).set l.toNat (y.getD (-1))).map I)) : RM w' g s { c with O := upT c.O l y } ∧ Kp g.W w w' := by
  obtain ⟨n1, n2, n3, n4⟩ := RG.ne h.nd
  have hbt : b ∈ blkOf g.wad := by rw [hb]; simp [blkOf]
  have k : Kp [b] w w' := hu.kp _ (.inl (by simp))
  obtain ⟨m1, m2, m3⟩ := n3 b hbt
  refine ⟨⟨k.blk (by simpa using fun e => m1 e.symm) h.hdr, h.pa.kp k (fun b' hb' hb2 => by simp at hb2; subst hb2; exact m2 hb'), h.th.kp k (fun b' hb' hb2 => by simp at hb2; subst hb2; exact m3 hb'), by rw [loL_set h0]; exact ho, h.op.kp k (fun b' hb' hb2 => by simp at hb2; subst hb2; exact (n4 _ hb').2.2.2 hbt), h.nd⟩, k.mono (fun b' hb' => ?_)⟩
  simp at hb'; subst hb'; simp [RG.W, hbt]
theorem RM.setP {w' : World} {b : Nat} {o : Obj} {i : Nat} {y : Int × Int} (h : RM w g s c) (hb : g.oad = some ⟨b, 0, none⟩) (hu : Upd w b o w') (ho : OwnS w' 131 2 g.oad c.op.length g.ocap ((c.op.set i y).flatMap opC2)) : RM w' g s { c with op := c.op.set i y } ∧ Kp g.W w w' := by
  obtain ⟨n1, n2, n3, n4⟩ := RG.ne h.nd
  have hbt : b ∈ blkOf g.oad := by rw [hb]; simp [blkOf]
  have k : Kp [b] w w' := hu.kp _ (.inl (by simp))
  obtain ⟨m1, m2, m3, m4⟩ := n4 b hbt
  refine ⟨⟨?_, h.pa.kp k (fun b' hb' hb2 => by simp at hb2; subst hb2; exact m2 hb'), h.th.kp k (fun b' hb' hb2 => by simp at hb2; subst hb2; exact m3 hb'), h.lo.kp k (fun b' hb' hb2 => by simp at hb2; subst hb2; exact m4 hb'), by simpa using ho, h.nd⟩, k.mono (fun b' hb' => ?_)⟩
  · have := k.blk (by simpa using fun e => m1 e.symm) h.hdr
    simpa [rgC] using this
  · simp at hb'; subst hb'; simp [RG.W, hbt]
set_option maxHeartbeats 6400000 in
theorem rNext_ret (h : RAt w g s c) (x : Ev) (hn : c.n ≤ 4611686018427387904) : Ret Tryz.prog 54 [ptr g.p, .agg ⟨evC x⟩] w (fun v w' => (canB s c x = true ∧ v = I 0 ∧ RAt w' g s (nextC s c x) ∧ Kp g.W w w') ∨ (canB s c x = false ∧ v = I 6 ∧ Kp [] w w')) := by
  have hth := h.ok.sh.1
  have hlo := h.ok.sh.2.2.2.1
  have hop := h.ok.op
  have hpa := h.ok.sh.2.2.2.2.1
  refine enter Tryz.call54 Tryz.func54 rfl rfl rfl rfl ?_
  (repeat first|refine zA ?_|refine zg ?_)
  refine o_box rfl rfl rfl ?_
  intro bx w1 hbx hu1
  have hB1 : Blk w1 bx (evC x) 86 := hu1.blk
  have k1 : Kp [] w w1 := hu1.kp [] (.inr (by omega))
  have h1 := h.kp0 k1
  (repeat first|refine zA ?_|refine zB ?_|refine zg ?_|refine zo rfl rfl trivial ?_|refine zn ?_|refine zk ?_|refine zf rfl ?_)
  refine o_loadA (vs := evC x) rfl (fun j v hv => ?_) rfl rfl rfl rfl rfl rfl ?_
  · rw [Nat.zero_add]; exact hB1.cell hv
  refine o_call (rCan_ret h1 x) rfl rfl rfl ?_
  rintro v w2 ⟨rfl, k2⟩
  have h2 := h1.kp0 k2
  have hB2 := k2.blk (by simp) hB1
  have k02 := k1.trans k2
  (repeat first|refine zA ?_|refine zB ?_|refine zg ?_|refine zo rfl rfl trivial ?_|refine zn ?_)
  cases hc : canB s c x with
  | false =>
    refine r_yes rfl rfl ?_
    (repeat first|refine zA ?_|refine zg ?_|refine zo rfl rfl trivial ?_|refine zn ?_|refine zr ?_)
    exact ⟨_, rfl, .inr ⟨rfl, rfl, k02⟩⟩
  | true =>
  refine r_no rfl rfl ?_
  (repeat first|refine zA ?_|refine zg ?_|refine zo rfl rfl trivial ?_|refine zk ?_)
  refine o_load (v := I c.n) rfl h2.hdr rfl rfl rfl rfl rfl ?_
  (repeat refine zo rfl rfl (by first|exact trivial|(simp only[AllP];omega)) ?_)
  refine o_store (v := I ((c.n : Int) + 1)) (c := none) rfl h2.hdr (by simp) rfl rfl rfl rfl rfl rfl ?_
  intro w3 hu3
  have e3 : (rgC g s c).set 8 (I ((c.n : Int) + 1)) = rgC g s { c with n := c.n + 1 } := by simp [rgC]
  rw [e3] at hu3
  obtain ⟨h3, k3⟩ := h2.toRM.setN hu3
  have hbF : bx ∉ g.W := fun hb => by have := h.toRM.lt bx (RG.W_F hb); omega
  have hB3 := k3.blk hbF hB2
  have hok := next_ok h.ok hc
  have hnz : ∀ t y, (nextC s c x).T t = some y → y.ph ≠ 0 := next_nz h.nz
  have ht := can_thread h.ok hc
  have k03 : Kp g.W w w3 := (k02.mono (by simp)).trans k3
  have hh := h3.hdr
  (repeat first|refine zA ?_|refine zB ?_|refine zg ?_|refine zo rfl rfl trivial ?_|refine zn ?_)
  refine o_load (v := I x.k) rfl hB3 rfl rfl rfl rfl rfl ?_
  (repeat first|refine zA ?_|refine zg ?_|refine zo rfl rfl trivial ?_|refine zn ?_|refine zb ?_)
  refine r_if (p := x.k = 5) rfl (fun hk5 => ?_) (fun hk5 => ?_)
  · have hin : 0 ≤ x.o ∧ x.o < s.lo := ⟨(can_lock hc hk5).1, (can_lock hc hk5).2.1⟩
    obtain ⟨ob, OL, hoa, hOL, hOlen, hOget, hOset⟩ := h3.lok hin.1 hin.2
    refine r_lastL follows_mixed rfl (by kernel_rfl) (by kernel_rfl) ?_
    dsimp only [List.dropLast]
    (repeat refine yo rfl rfl trivial ?_)
    refine q_load (v := .slice (some ⟨ob, 0, none⟩) s.lo.toNat g.wcap) rfl (fun w hs => (hs.blk hh).cell (by rw [rgC, hoa]; rfl)) rfl rfl rfl rfl ?_
    (repeat refine yo rfl rfl trivial ?_)
    refine q_load (v := I x.o) rfl (fun w hs => (hs.blk hB3).cell rfl) rfl rfl rfl rfl ?_
    (repeat refine yo rfl rfl trivial ?_)
    refine q_load (v := I x.t) rfl (fun w hs => (hs.blk hB3).cell rfl) rfl rfl rfl rfl ?_
    (repeat first|refine yo rfl rfl (by first|exact trivial|(simp only[AllP];omega)) ?_|refine yn ?_)
    intro w4 hs4
    refine o_store (b := ob) (off := x.o.toNat) (v := I x.t) (c := none) (by show Value.pointer (some ⟨ob, 0 + x.o.toNat, none⟩) = _; rw [Nat.zero_add]) (hs4.blk hOL) hOlen rfl rfl rfl rfl rfl rfl ?_
    intro w5 hu5
    have h4 := h3.kp (hs4.kp []) (by simp)
    have hu5' : Upd w3 ob (.cells ⟨OL.set x.o.toNat (I x.t)⟩ 3 (0, 0)) w5 := Upd.sm hs4 hu5
    obtain ⟨h5, k5⟩ := h3.setO (l := x.o) (y := some x.t) hin.1 hoa hu5' (hOset _ _ hu5')
    (repeat first|refine zA ?_|refine zg ?_|refine zo rfl rfl trivial ?_|refine zn ?_|refine zr ?_)
    refine ⟨_, rfl, .inl ⟨rfl, rfl, ⟨?_, hok, hnz⟩, k03.trans k5⟩⟩
    unfold nextC
    simp only [if_pos hk5, if_true, if_false]
    exact h5
  (repeat first|refine zA ?_|refine zg ?_|refine zo rfl rfl trivial ?_|refine zn ?_)
  refine r_if (p := x.k = 6) rfl (fun hk6 => ?_) (fun hk6 => ?_)
  · have hin : 0 ≤ x.o ∧ x.o < s.lo := ⟨(can_unlock hc hk6).1, (can_unlock hc hk6).2.1⟩
    obtain ⟨ob, OL, hoa, hOL, hOlen, hOget, hOset⟩ := h3.lok hin.1 hin.2
    refine r_lastL follows_mixed rfl (by kernel_rfl) (by kernel_rfl) ?_
    dsimp only [List.dropLast]
    (repeat refine yo rfl rfl trivial ?_)
    refine q_load (v := .slice (some ⟨ob, 0, none⟩) s.lo.toNat g.wcap) rfl (fun w hs => (hs.blk hh).cell (by rw [rgC, hoa]; rfl)) rfl rfl rfl rfl ?_
    (repeat refine yo rfl rfl trivial ?_)
    refine q_load (v := I x.o) rfl (fun w hs => (hs.blk hB3).cell rfl) rfl rfl rfl rfl ?_
    (repeat first|refine yo rfl rfl (by first|exact trivial|(simp only[AllP];omega)) ?_|refine yn ?_)
    intro w4 hs4
    refine o_store (b := ob) (off := x.o.toNat) (v := I (-1)) (c := none) (by show Value.pointer (some ⟨ob, 0 + x.o.toNat, none⟩) = _; rw [Nat.zero_add]) (hs4.blk hOL) hOlen rfl rfl rfl rfl rfl rfl ?_
    intro w5 hu5
    have h4 := h3.kp (hs4.kp []) (by simp)
    have hu5' : Upd w3 ob (.cells ⟨OL.set x.o.toNat (I (-1))⟩ 3 (0, 0)) w5 := Upd.sm hs4 hu5
    obtain ⟨h5, k5⟩ := h3.setO (l := x.o) (y := none) hin.1 hoa hu5' (hOset _ _ hu5')
    (repeat first|refine zA ?_|refine zg ?_|refine zo rfl rfl trivial ?_|refine zn ?_|refine zr ?_)
    refine ⟨_, rfl, .inl ⟨rfl, rfl, ⟨?_, hok, hnz⟩, k03.trans k5⟩⟩
    unfold nextC
    simp only [if_neg hk5, if_pos hk6, if_true, if_false]
    exact h5
  (repeat first|refine zA ?_|refine zg ?_|refine zo rfl rfl trivial ?_|refine zn ?_)
  refine r_if (p := x.k = 7) rfl (fun hk7 => ?_) (fun hk7 => ?_)
  · have hin := can_fork hc hk7
    have hz : st c x.o = ⟨0, 0, 0⟩ := st_unborn h.nz (can_unborn hc hk7)
    obtain ⟨ob, OL, hoa, hOL, hOlen, hOget, hOset⟩ := h3.thr hin.1 hin.2
    refine r_lastL follows_mixed rfl (by kernel_rfl) (by kernel_rfl) ?_
    dsimp only [List.dropLast]
    (repeat refine yo rfl rfl trivial ?_)
    refine q_load (v := .slice (some ⟨ob, 0, none⟩) s.th.toNat g.tcap) rfl (fun w hs => (hs.blk hh).cell (by rw [rgC, hoa]; rfl)) rfl rfl rfl rfl ?_
    (repeat refine yo rfl rfl trivial ?_)
    refine q_load (v := I x.o) rfl (fun w hs => (hs.blk hB3).cell rfl) rfl rfl rfl rfl ?_
    (repeat first|refine yo rfl rfl (by first|exact trivial|(simp only[AllP];omega)) ?_|refine yn ?_)
    intro w4 hs4
    refine o_store (b := ob) (off := x.o.toNat * 3) (v := I 1) (c := none) (by show Value.pointer (some ⟨ob, 0 + x.o.toNat * 3, none⟩) = _; rw [Nat.zero_add]) (hs4.blk hOL) (by omega) rfl rfl rfl rfl rfl rfl ?_
    intro w5 hu5
    have hz' : st { c with n := c.n + 1 } x.o = ⟨0, 0, 0⟩ := hz
    rw [hz'] at hOget
    have ec := set_many_cell OL (o := x.o.toNat * 3) (j := 0) (cs := stdC ⟨0, 0, 0⟩) (v := I 1) hOget (by simpa using hOlen) (by simp)
    have ec2 : setMany OL (x.o.toNat * 3) (stdC ⟨1, 0, 0⟩) = OL.set (x.o.toNat * 3) (I 1) := ec
    rw [← ec2] at hu5
    have hu5' := Upd.sm hs4 hu5
    obtain ⟨h5, k5⟩ := h3.setT (t := x.o) (y := ⟨1, 0, 0⟩) hin.1 hoa hu5' (hOset _ _ hu5')
    (repeat first|refine zA ?_|refine zg ?_|refine zo rfl rfl trivial ?_|refine zn ?_|refine zr ?_)
    refine ⟨_, rfl, .inl ⟨rfl, rfl, ⟨?_, hok, hnz⟩, k03.trans k5⟩⟩
    unfold nextC
    simp only [if_neg hk5, if_neg hk6, if_pos hk7, if_true, if_false]
    exact h5
  (repeat first|refine zA ?_|refine zg ?_|refine zo rfl rfl trivial ?_|refine zn ?_)
  refine r_if (p := x.k = 9) rfl (fun hk9 => ?_) (fun hk9 => ?_)
  · have hin := can_op hc hk9
    obtain ⟨ob, OL, hoa, hOL, hOlen, hOget, hOset⟩ := h3.opn hin.1 hin.2
    have eop : opAt { c with n := c.n + 1 } x.o = opAt c x.o := rfl
    rw [eop] at hOget
    refine r_seq ?_
    refine r_cut (α := Nat) [0, 3, 6] (fun bo => [ptr g.p, ptr bx, ptr bo]) (fun bo w' => Kp [] w3 w' ∧ Blk w' bo (opC2 (opAt c x.o)) 131 ∧ w3.heap.size ≤ bo) ?_ ?_
    · refine r_mix (fun w' => Kp [] w3 w') [(0, false), (1, false), (2, false), (3, false), (4, false), (5, false), (6, false), (7, false), (8, true), (9, true)] follows_mixed (by kernel_rfl) (by kernel_rfl) (by kernel_rfl) ((Sm.drew w3).kp []) ?_
      have kd := (Sm.drew w3).kp []
      generalize ({ w3 with drawn := w3.drawn + 1 } : World) = wd at kd ⊢
      (repeat refine xo rfl rfl trivial ?_)
      refine x_load (v := .slice (some ⟨ob, 0, none⟩) c.op.length g.ocap) rfl rfl (fun w' h' => (h'.blk (by simp) hh).cell (by rw [rgC, hoa]; rfl)) rfl rfl rfl rfl ?_
      (repeat refine xo rfl rfl trivial ?_)
      refine x_load (v := I x.o) rfl rfl (fun w' h' => (h'.blk (by simp) hB3).cell rfl) rfl rfl rfl rfl ?_
      (repeat refine xo rfl rfl (by first|exact trivial|(simp only[AllP];omega)) ?_)
      refine x_loadA (vs := opC2 (opAt c x.o)) rfl rfl (fun w' h' j v hv => by rw [Nat.zero_add]; exact (h'.blk (by simp) hOL).cell (hOget j v hv)) rfl rfl rfl rfl rfl rfl ?_
      refine x_act rfl ?_
      refine o_alloc rfl rfl rfl rfl ?_
      intro bo w4 hbo hu4
      have k4 := kd.trans (hu4.kp [] (.inr (by omega)))
      refine o_nil ⟨.inr k4, ?_⟩
      refine x_act rfl ?_
      refine o_storeA (cs := opC2 (opAt c x.o)) rfl hu4.blk (Nat.le_refl _) rfl (by simp [Value.oneCell']) rfl rfl rfl rfl ?_
      intro w5 hu5
      have z2 := kd.size
      have k5 : Kp [] w3 w5 := k4.since (hu5.kp [bo] (.inl (by simp))) (by simp; omega)
      refine o_nil ⟨.inl (by kernel_rfl), ?_⟩
      (repeat refine xn ?_)
      exact ⟨bo, rfl, k5, hu5.blk, by omega⟩
    rintro bo e w4 ⟨k4, hBo, hbo⟩
    have hF : ∀ b, b ∈ g.F → b < w3.heap.size := h3.lt
    have hboF : bo ∉ g.W := fun hb => by have := hF bo (RG.W_F hb); omega
    have hboG : bo ∉ g.F := fun hb => by have := hF bo hb; omega
    have hbxlt := hB3.lt
    have h4 := h3.kp k4 (by simp)
    have hB4 := k4.blk (by simp) hB3
    have hh4 := h4.hdr
    obtain ⟨tb, TL, hta, hTL, hTlen, hTget, hTset⟩ := h4.thr ht.1 ht.2
    refine r_seq ?_
    refine r_lastL follows_mixed rfl (by kernel_rfl) (by kernel_rfl) ?_
    dsimp only [List.dropLast]
    (repeat refine yo rfl rfl trivial ?_)
    refine q_load (v := .slice (some ⟨tb, 0, none⟩) s.th.toNat g.tcap) rfl (fun w hs => (hs.blk hh4).cell (by rw [rgC, hta]; rfl)) rfl rfl rfl rfl ?_
    (repeat refine yo rfl rfl trivial ?_)
    refine q_load (v := I x.t) rfl (fun w hs => (hs.blk hB4).cell rfl) rfl rfl rfl rfl ?_
    (repeat refine yo rfl rfl trivial ?_)
    refine q_load (v := I x.o) rfl (fun w hs => (hs.blk hB4).cell rfl) rfl rfl rfl rfl ?_
    (repeat refine yo rfl rfl trivial ?_)
    refine q_load (v := I (opAt c x.o).1) rfl (fun w hs => (hs.blk hBo).cell rfl) rfl rfl rfl rfl ?_
    refine q_build [I 2, I x.o, I (opAt c x.o).1] rfl rfl rfl rfl rfl rfl rfl ?_
    (repeat first|refine yo rfl rfl (by first|exact trivial|(simp only[AllP];omega)) ?_|refine yn ?_)
    intro w5 hs5
    refine o_storeA (b := tb) (off := x.t.toNat * 3) (cs := stdC ⟨2, x.o, (opAt c x.o).1⟩) (by show Value.pointer (some ⟨tb, 0 + x.t.toNat * 3, none⟩) = _; rw [Nat.zero_add]) (hs5.blk hTL) (by simpa using hTlen) rfl (by simp [Value.oneCell']) rfl rfl rfl rfl ?_
    intro w6 hu6
    have hu6' := Upd.sm hs5 hu6
    obtain ⟨h6, k6⟩ := h4.setT (t := x.t) (y := ⟨2, x.o, (opAt c x.o).1⟩) ht.1 hta hu6' (hTset _ _ hu6')
    have hB6 := k6.blk hbF hB4
    have hBo6 := k6.blk hboF hBo
    (repeat first|refine zA ?_|refine zg ?_|refine zo rfl rfl trivial ?_|refine zn ?_)
    refine o_load (b := bo) (off := 1) (v := I (opAt c x.o).2) rfl hBo6 rfl rfl rfl rfl rfl ?_
    have hrg := opAt_rng h.ok x.o
    (repeat refine zo rfl rfl (by first|exact trivial|(simp only[AllP];omega)) ?_)
    refine o_store (b := bo) (off := 1) (v := I ((opAt c x.o).2 + 1)) (c := none) rfl hBo6 (by simp) rfl rfl rfl rfl rfl rfl ?_
    intro w7 hu7
    have k7 : Kp [bo] w6 w7 := hu7.kp _ (.inl (by simp))
    have hBo7 : Blk w7 bo [I (opAt c x.o).1, I ((opAt c x.o).2 + 1)] 131 := hu7.blk
    have h7 := h6.kp k7 (fun b hb hb2 => by simp at hb2; subst hb2; exact hboG hb)
    have hB7 := k7.blk (by simp; omega) hB6
    have hh7 := h7.hdr
    have hpl : x.o.toNat < s.pa.length := by omega
    obtain ⟨pb, po, hpe, hpb, hpc⟩ := h7.pa.read.at_ (by simp; omega)
    obtain ⟨pz, hpz⟩ : ∃ z, s.pa[x.o.toNat]? = some z := ⟨_, List.getElem?_eq_getElem hpl⟩
    have hpcell := hpc x.o.toNat (I pz) (by rw [List.getElem?_map, hpz]; rfl)
    have hpa0 : (s.pa[x.o.toNat]?).getD 0 = pz := by rw [hpz]; rfl
    (repeat refine zn ?_)
    refine r_seq ?_
    refine r_cut (α := Int × Int) [0, 3, 6] (fun _ => [ptr g.p, ptr bx, ptr bo]) (fun y w' => y = arrive s c x.o ∧ Kp [bo] w7 w' ∧ Blk w' bo (opC2 y) 131) ?_ ?_
    · refine r_seq ?_
      refine r_quietS follows_mixed (by kernel_rfl) ?_
      (repeat refine yo rfl rfl trivial ?_)
      refine q_load (v := I ((opAt c x.o).2 + 1)) rfl (fun w hs => (hs.blk hBo7).cell rfl) rfl rfl rfl rfl ?_
      (repeat refine yo rfl rfl trivial ?_)
      refine q_load (v := .slice (some ⟨pb, po, none⟩) s.pa.length g.pcap) rfl (fun w hs => (hs.blk hh7).cell (by rw [rgC, hpe]; rfl)) rfl rfl rfl rfl ?_
      (repeat refine yo rfl rfl trivial ?_)
      refine q_load (v := I x.o) rfl (fun w hs => (hs.blk hB7).cell rfl) rfl rfl rfl rfl ?_
      (repeat refine yo rfl rfl (by first|exact trivial|(simp only[AllP];omega)) ?_)
      refine q_load (b := pb) (off := po + x.o.toNat) (v := I pz) rfl (fun w hs => by rw [← hpcell]; exact World.cell?_of_block (by rw [hs.heap])) rfl rfl rfl rfl ?_
      (repeat first|refine yo rfl rfl trivial ?_|refine yn ?_)
      intro w8 hs8
      refine r_if (p := (opAt c x.o).2 + 1 = pz) rfl (fun hq => ?_) (fun hq => ?_)
      · (repeat first|refine zg ?_|refine zo rfl rfl trivial ?_)
        refine o_load (b := bo) (off := 0) (v := I (opAt c x.o).1) rfl (hs8.blk hBo7) rfl rfl rfl rfl rfl ?_
        (repeat refine zo rfl rfl (by first|exact trivial|(simp only[AllP];omega)) ?_)
        refine o_build [I ((opAt c x.o).1 + 1), I 0] rfl rfl rfl rfl rfl rfl rfl ?_
        refine o_storeA (b := bo) (off := 0) (cs := [I ((opAt c x.o).1 + 1), I 0]) rfl (hs8.blk hBo7) (by simp) rfl (by simp [Value.oneCell']) rfl rfl rfl rfl ?_
        intro w9 hu9
        (repeat refine zn ?_)
        refine ⟨((opAt c x.o).1 + 1, 0), rfl, ?_, (hs8.kp _).trans (hu9.kp _ (.inl (by simp))), hu9.blk⟩
        unfold arrive; rw [hpa0, if_pos hq]
      · (repeat refine zk ?_)
        refine ⟨((opAt c x.o).1, (opAt c x.o).2 + 1), rfl, ?_, hs8.kp _, hs8.blk hBo7⟩
        unfold arrive; rw [hpa0, if_neg hq]
    rintro y e w9 ⟨hy, k9, hBo9⟩
    have h9 := h7.kp k9 (fun b hb hb2 => by simp at hb2; subst hb2; exact hboG hb)
    have hB9 := k9.blk (by simp; omega) hB7
    have hh9 := h9.hdr
    obtain ⟨ob2, OL2, hoa2, hOL2, hOlen2, hOget2, hOset2⟩ := h9.opn (i := x.o) hin.1 hin.2
    refine r_lastL follows_mixed rfl (by kernel_rfl) (by kernel_rfl) ?_
    dsimp only [List.dropLast]
    (repeat refine yo rfl rfl trivial ?_)
    refine q_load (v := .slice (some ⟨ob2, 0, none⟩) c.op.length g.ocap) rfl (fun w hs => (hs.blk hh9).cell (by rw [rgC, hoa2]; rfl)) rfl rfl rfl rfl ?_
    (repeat refine yo rfl rfl trivial ?_)
    refine q_load (v := I x.o) rfl (fun w hs => (hs.blk hB9).cell rfl) rfl rfl rfl rfl ?_
    refine q_loadA (vs := opC2 y) rfl (fun w hs j v hv => by rw [Nat.zero_add]; exact (hs.blk hBo9).cell hv) rfl rfl rfl rfl rfl rfl ?_
    (repeat first|refine yo rfl rfl (by first|exact trivial|(simp only[AllP];omega)) ?_|refine yn ?_)
    intro w10 hs10
    refine o_storeA (b := ob2) (off := x.o.toNat * 2) (cs := opC2 y) (by show Value.pointer (some ⟨ob2, 0 + x.o.toNat * 2, none⟩) = _; rw [Nat.zero_add]) (hs10.blk hOL2) (by simpa using hOlen2) rfl (by simp [Value.oneCell']) rfl rfl rfl rfl ?_
    intro w11 hu11
    have hu11' := Upd.sm hs10 hu11
    obtain ⟨h11, k11⟩ := h9.setP hoa2 hu11' (hOset2 _ _ hu11')
    have kall : Kp g.W w3 w11 := by
      have q1 : Kp g.W w3 w6 := (k4.mono (by simp)).trans k6
      have q2 : Kp [bo] w6 w9 := k7.trans k9
      exact (q1.sinceS q2 (fun b hb => by simp at hb; subst hb; exact .inr hbo)).trans k11
    (repeat first|refine zA ?_|refine zg ?_|refine zo rfl rfl trivial ?_|refine zn ?_|refine zr ?_)
    refine ⟨_, rfl, .inl ⟨rfl, rfl, ⟨?_, hok, hnz⟩, k03.trans kall⟩⟩
    unfold nextC
    simp only [if_neg hk5, if_neg hk6, if_neg hk7, if_pos hk9, if_true, if_false]
    rw [← hy]
    exact h11
  (repeat first|refine zA ?_|refine zg ?_|refine zo rfl rfl trivial ?_|refine zn ?_)
  refine r_if (p := x.k = 10) rfl (fun hk10 => ?_) (fun hk10 => ?_)
  · obtain ⟨ob, OL, hoa, hOL, hOlen, hOget, hOset⟩ := h3.thr ht.1 ht.2
    refine r_lastL follows_mixed rfl (by kernel_rfl) (by kernel_rfl) ?_
    dsimp only [List.dropLast]
    (repeat refine yo rfl rfl trivial ?_)
    refine q_load (v := .slice (some ⟨ob, 0, none⟩) s.th.toNat g.tcap) rfl (fun w hs => (hs.blk hh).cell (by rw [rgC, hoa]; rfl)) rfl rfl rfl rfl ?_
    (repeat refine yo rfl rfl trivial ?_)
    refine q_load (v := I x.t) rfl (fun w hs => (hs.blk hB3).cell rfl) rfl rfl rfl rfl ?_
    refine q_build [I 1, I 0, I 0] rfl rfl rfl rfl rfl rfl rfl ?_
    (repeat first|refine yo rfl rfl (by first|exact trivial|(simp only[AllP];omega)) ?_|refine yn ?_)
    intro w4 hs4
    refine o_storeA (b := ob) (off := x.t.toNat * 3) (cs := stdC ⟨1, 0, 0⟩) (by show Value.pointer (some ⟨ob, 0 + x.t.toNat * 3, none⟩) = _; rw [Nat.zero_add]) (hs4.blk hOL) (by simpa using hOlen) rfl (by simp [Value.oneCell']) rfl rfl rfl rfl ?_
    intro w5 hu5
    have hu5' := Upd.sm hs4 hu5
    obtain ⟨h5, k5⟩ := h3.setT (t := x.t) (y := ⟨1, 0, 0⟩) ht.1 hoa hu5' (hOset _ _ hu5')
    (repeat first|refine zA ?_|refine zg ?_|refine zo rfl rfl trivial ?_|refine zn ?_|refine zr ?_)
    refine ⟨_, rfl, .inl ⟨rfl, rfl, ⟨?_, hok, hnz⟩, k03.trans k5⟩⟩
    unfold nextC
    simp only [if_neg hk5, if_neg hk6, if_neg hk7, if_neg hk9, if_pos hk10, if_true, if_false]
    exact h5
  (repeat first|refine zA ?_|refine zg ?_|refine zo rfl rfl trivial ?_|refine zn ?_)
  refine r_if (p := x.k = 11) rfl (fun hk11 => ?_) (fun hk11 => ?_)
  · obtain ⟨ob, OL, hoa, hOL, hOlen, hOget, hOset⟩ := h3.thr ht.1 ht.2
    refine r_lastL follows_mixed rfl (by kernel_rfl) (by kernel_rfl) ?_
    dsimp only [List.dropLast]
    (repeat refine yo rfl rfl trivial ?_)
    refine q_load (v := .slice (some ⟨ob, 0, none⟩) s.th.toNat g.tcap) rfl (fun w hs => (hs.blk hh).cell (by rw [rgC, hoa]; rfl)) rfl rfl rfl rfl ?_
    (repeat refine yo rfl rfl trivial ?_)
    refine q_load (v := I x.t) rfl (fun w hs => (hs.blk hB3).cell rfl) rfl rfl rfl rfl ?_
    refine q_build [I 3, I 0, I 0] rfl rfl rfl rfl rfl rfl rfl ?_
    (repeat first|refine yo rfl rfl (by first|exact trivial|(simp only[AllP];omega)) ?_|refine yn ?_)
    intro w4 hs4
    refine o_storeA (b := ob) (off := x.t.toNat * 3) (cs := stdC ⟨3, 0, 0⟩) (by show Value.pointer (some ⟨ob, 0 + x.t.toNat * 3, none⟩) = _; rw [Nat.zero_add]) (hs4.blk hOL) (by simpa using hOlen) rfl (by simp [Value.oneCell']) rfl rfl rfl rfl ?_
    intro w5 hu5
    have hu5' := Upd.sm hs4 hu5
    obtain ⟨h5, k5⟩ := h3.setT (t := x.t) (y := ⟨3, 0, 0⟩) ht.1 hoa hu5' (hOset _ _ hu5')
    (repeat first|refine zA ?_|refine zg ?_|refine zo rfl rfl trivial ?_|refine zn ?_|refine zr ?_)
    refine ⟨_, rfl, .inl ⟨rfl, rfl, ⟨?_, hok, hnz⟩, k03.trans k5⟩⟩
    unfold nextC
    simp only [if_neg hk5, if_neg hk6, if_neg hk7, if_neg hk9, if_neg hk10, if_pos hk11, if_true, if_false]
    exact h5
  (repeat first|refine zA ?_|refine zg ?_|refine zo rfl rfl trivial ?_|refine zn ?_|refine zr ?_|refine zk ?_)
  refine ⟨_, rfl, .inl ⟨rfl, rfl, ⟨?_, hok, hnz⟩, k03⟩⟩
  unfold nextC
  simp only [if_neg hk5, if_neg hk6, if_neg hk7, if_neg hk9, if_neg hk10, if_neg hk11]
  exact h3
end
end Go.Vc
