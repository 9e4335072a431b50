/- abreastref19: Can. -/
import Derived.Test.YtkgngbpkiklckaaGreatDoorQClQRaces30
namespace Go.Vc
open Go Go.Proofs
set_option maxRecDepth 10000
variable {w : World}
section
variable {g : RG} {s : Shp} {c : Ck}
theorem st_out (h : CkOk s c) {t : Int} (ht : ¬ (0 ≤ t ∧ t < s.th)) : st c t = ⟨0, 0, 0⟩ := by
  have : c.T t = none := by
    cases hT : c.T t with
    | none => rfl
    | some x => exact absurd (h.T t x hT).1 ht
  unfold st; rw [this]; rfl
theorem own_none (h : CkOk s c) {l : Int} : (c.O l).getD (-1) = -1 ↔ c.O l = none := by
  cases hO : c.O l with
  | none => simp
  | some x => have := (h.O l x hO).2; simp; omega
theorem own_some (h : CkOk s c) {l t : Int} (ht : 0 ≤ t) : (c.O l).getD (-1) = t ↔ c.O l = some t := by
  cases hO : c.O l with
  | none => simp; omega
  | some x => simp
theorem can_wait {x : Ev} (h : (st c x.t).ph = 2) : canB s c x = (decide (x.k = 10) && (decide (x.o = (st c x.t).ba) && fullB c x.t)) := by
  unfold canB
  rw [if_pos h]
  by_cases h1 : x.k = 10
  · by_cases h2 : x.o = (st c x.t).ba
    · simp [h1, h2]
    · simp [h1, h2]
  · simp [h1]
theorem can_off {x : Ev} (h2 : (st c x.t).ph ≠ 2) (h1 : (st c x.t).ph ≠ 1) : canB s c x = false := by
  unfold canB
  rw [if_neg h2, if_pos h1]
theorem can_run {x : Ev} (h1 : (st c x.t).ph = 1) : canB s c x = (decide (0 ≤ x.o) && (
    if x.k = 2 then decide (x.o < s.va)
    else if x.k = 1 then decide (x.o < s.va)
    else if x.k = 4 then decide (x.o < s.vo)
    else if x.k = 3 then decide (x.o < s.vo)
    else if x.k = 6 then (if c.O x.o = some x.t then decide (x.o < s.lo) else false)
    else if x.k = 5 then (if c.O x.o = none then decide (x.o < s.lo) else false)
    else if x.k = 7 then (if (st c x.o).ph = 0 then decide (x.o < s.th) else false)
    else if x.k = 8 then (if (st c x.o).ph = 3 then decide (x.o < s.th) else false)
    else if x.k = 9 then decide (x.o < c.op.length)
    else if x.k = 11 then decide (x.o < 1)
    else false)) := by
  unfold canB
  rw [if_neg (by omega), if_neg (by omega)]
  by_cases h0 : x.o < 0
  · rw [if_pos h0, decide_eq_false (show ¬ 0 ≤ x.o by omega), Bool.false_and]
  · rw [if_neg h0, decide_eq_true (show 0 ≤ x.o by omega), Bool.true_and]
set_option maxHeartbeats 6400000 in
theorem rCan_ret (h : RAt w g s c) (x : Ev) : Ret Tryz.prog 51 [ptr g.p, .agg ⟨evC x⟩] w (fun v w' => v = .bool (canB s c x) ∧ Kp [] w w') := by
  have hth := h.ok.sh.1
  have hlo := h.ok.sh.2.2.2.1
  have hop := h.ok.op
  have hpa := h.ok.sh.2.2.2.2.1
  refine enter Tryz.call51 Tryz.func51 rfl rfl rfl rfl ?_
  (repeat first|refine zA ?_|refine zg ?_)
  refine o_box rfl rfl rfl ?_
  intro bx w1 hbx hu1
  have hB1 : Blk w1 bx (evC x) 86 := hu1.blk
  have k1 : Kp [] w w1 := hu1.kp [] (.inr (by omega))
  have h1 := h.kp0 k1
  (repeat first|refine zo rfl rfl trivial ?_|refine zn ?_)
  refine r_seq ?_
  refine r_seq ?_
  refine r_quietS follows_mixed (by kernel_rfl) ?_
  (repeat first|refine yo rfl rfl trivial ?_|refine q_know _ _ (some false) rfl rfl rfl ?_)
  refine q_load (v := I x.t) rfl (fun w hs => (hs.blk hB1).cell rfl) rfl rfl rfl rfl ?_
  (repeat refine yo rfl rfl trivial ?_)
  refine q_load (v := .slice g.tad s.th.toNat g.tcap) rfl (fun w hs => (hs.blk h1.hdr).cell rfl) rfl rfl rfl rfl ?_
  (repeat refine yo rfl rfl trivial ?_)
  refine q_call _ (below_q x.t s.th.toNat) Tryz.call99 rfl rfl rfl ?_
  (repeat first|refine yo rfl rfl trivial ?_|refine yn ?_)
  intro w2 hs2
  have h2 := h1.sm hs2
  have hB2 := hs2.blk hB1
  have k2 := k1.trans (hs2.kp [])
  by_cases ht : 0 ≤ x.t ∧ x.t < s.th
  rotate_left
  · refine r_yes rfl (by simp; omega) ?_
    (repeat first|refine zA ?_|refine zg ?_|refine zo rfl rfl trivial ?_|refine zn ?_|refine zr ?_)
    refine ⟨_, rfl, ?_, k2⟩
    have := st_out h.ok ht
    rw [can_off (by rw [this]; simp) (by rw [this]; simp)]
  refine r_no rfl (by simp; omega) ?_
  obtain ⟨tb, TL, hta, hTL, hTlen, hTget, _⟩ := h2.thr ht.1 ht.2
  have hh := h2.hdr
  (repeat refine zk ?_)
  refine r_seq ?_
  refine r_cut (α := Nat) [0, 3, 5] (fun bt => [ptr g.p, ptr bx, ptr bt]) (fun bt w' => Kp [] w2 w' ∧ Blk w' bt (stdC (st c x.t)) 136) ?_ ?_
  · refine r_mix (fun w' => Kp [] w2 w') [(0, false), (1, false), (2, false), (3, false), (4, false), (5, false), (6, false), (7, false), (8, true), (9, true)] follows_mixed (by kernel_rfl) (by kernel_rfl) (by kernel_rfl) ((Sm.drew w2).kp []) ?_
    have kd := (Sm.drew w2).kp []
    generalize ({ w2 with drawn := w2.drawn + 1 } : World) = wd at kd ⊢
    (repeat refine xo rfl rfl trivial ?_)
    refine x_load (v := .slice (some ⟨tb, 0, none⟩) s.th.toNat g.tcap) rfl rfl (fun w' h' => (h'.blk (by simp) hh).cell (by rw [rgC, hta]; rfl)) rfl rfl rfl rfl ?_
    (repeat refine xo rfl rfl trivial ?_)
    refine x_load (v := I x.t) rfl rfl (fun w' h' => (h'.blk (by simp) hB2).cell rfl) rfl rfl rfl rfl ?_
    (repeat refine xo rfl rfl (by first|exact trivial|(simp only[AllP];omega)) ?_)
    refine x_loadA (vs := stdC (st c x.t)) rfl rfl (fun w' h' j v hv => by rw [Nat.zero_add]; exact (h'.blk (by simp) hTL).cell (hTget j v hv)) rfl rfl rfl rfl rfl rfl ?_
    refine x_act rfl ?_
    refine o_alloc rfl rfl rfl rfl ?_
    intro bt w3 hbt hu3
    have k3 := kd.trans (hu3.kp [] (.inr (by omega)))
    refine o_nil ⟨.inr k3, ?_⟩
    refine x_act rfl ?_
    refine o_storeA (cs := stdC (st c x.t)) rfl hu3.blk (Nat.le_refl _) rfl (by simp [Value.oneCell']) rfl rfl rfl rfl ?_
    intro w4 hu4
    have z2 := kd.size
    have k4 : Kp [] w2 w4 := k3.since (hu4.kp [bt] (.inl (by simp))) (by simp; omega)
    refine o_nil ⟨.inl (by kernel_rfl), ?_⟩
    (repeat refine xn ?_)
    exact ⟨bt, rfl, k4, hu4.blk⟩
  rintro bt e w3 ⟨k23, hBt⟩
  have h3 := h2.kp0 k23
  have hB3 := k23.blk (by simp) hB2
  have k3 := k2.trans k23
  have hh3 := h3.hdr
  (repeat first|refine zA ?_|refine zB ?_|refine zg ?_|refine zo rfl rfl trivial ?_)
  refine o_load (v := I (st c x.t).ph) rfl hBt rfl rfl rfl rfl rfl ?_
  (repeat first|refine zo rfl rfl trivial ?_|refine zn ?_)
  refine r_if (p := (st c x.t).ph = 2) rfl (fun hp2 => ?_) (fun hp2 => ?_)
  · (repeat first|refine zA ?_|refine zg ?_|refine zo rfl rfl trivial ?_)
    refine o_load (v := I x.k) rfl hB3 rfl rfl rfl rfl rfl ?_
    (repeat refine zo rfl rfl trivial ?_)
    by_cases hk : x.k = 10
    · refine o_is true 3 true rfl rfl rfl (by simp [hk]) ?_
      (repeat refine zo rfl rfl trivial ?_)
      refine o_load (v := I x.o) rfl hB3 rfl rfl rfl rfl rfl ?_
      (repeat refine zo rfl rfl trivial ?_)
      refine o_load (v := I (st c x.t).ba) rfl hBt rfl rfl rfl rfl rfl ?_
      (repeat refine zo rfl rfl trivial ?_)
      by_cases ho : x.o = (st c x.t).ba
      · refine o_is true 10 true rfl rfl rfl (by simp [ho]) ?_
        (repeat refine zo rfl rfl trivial ?_)
        refine o_load (v := I x.t) rfl hB3 rfl rfl rfl rfl rfl ?_
        refine o_call (rFull_ret h3 x.t) rfl rfl rfl ?_
        rintro v w5 ⟨rfl, k5⟩
        (repeat first|refine zo rfl rfl trivial ?_|refine zn ?_|refine zr ?_)
        exact ⟨_, rfl, by rw [can_wait hp2]; simp [hk, ho], k3.trans k5⟩
      · refine o_is false 10 true rfl rfl rfl (by simp [ho]) ?_
        (repeat first|refine zo rfl rfl trivial ?_|refine zn ?_|refine zr ?_)
        exact ⟨_, rfl, by rw [can_wait hp2]; simp [ho], k3⟩
    · refine o_is false 3 true rfl rfl rfl (by simp [hk]) ?_
      (repeat first|refine zo rfl rfl trivial ?_|refine zn ?_|refine zr ?_|refine zU rfl rfl rfl ?_)
      exact ⟨_, rfl, by rw [can_wait hp2]; simp [hk], k3⟩
  (repeat first|refine zA ?_|refine zB ?_|refine zg ?_|refine zo rfl rfl trivial ?_|refine zk ?_)
  refine o_load (v := I (st c x.t).ph) rfl hBt rfl rfl rfl rfl rfl ?_
  (repeat first|refine zo rfl rfl trivial ?_|refine zn ?_)
  by_cases hp1 : (st c x.t).ph = 1
  rotate_left
  · refine r_yes rfl (by simp [hp1]) ?_
    (repeat first|refine zA ?_|refine zg ?_|refine zo rfl rfl trivial ?_|refine zn ?_|refine zr ?_)
    exact ⟨_, rfl, by rw [can_off hp2 hp1], k3⟩
  refine r_no rfl (by simp [hp1]) ?_
  have e0 := can_run (s := s) hp1
  (repeat first|refine zA ?_|refine zB ?_|refine zg ?_|refine zo rfl rfl trivial ?_|refine zk ?_)
  refine o_load (v := I x.k) rfl hB3 rfl rfl rfl rfl rfl ?_
  (repeat first|refine zA ?_|refine zB ?_|refine zg ?_|refine zo rfl rfl trivial ?_|refine zn ?_|refine zb ?_)
  -- LEAVES
  have lf : ∀ {n : Int} {p : Prop} [Decidable p], ¬ (0 ≤ x.o ∧ x.o < n) → (decide (0 ≤ x.o) && (if p then decide (x.o < n) else false)) = false := fun hn => by
    split
    · by_cases h0 : 0 ≤ x.o
      · rw [decide_eq_false (show ¬ x.o < _ by omega), Bool.and_false]
      · rw [decide_eq_false h0, Bool.false_and]
    · rw [Bool.and_false]
  have lt : ∀ {n : Int} {p : Prop} [Decidable p], (0 ≤ x.o ∧ x.o < n) → (decide (0 ≤ x.o) && (if p then decide (x.o < n) else false)) = decide p := fun hn => by
    rw [decide_eq_true hn.1, Bool.true_and]
    split
    · rename_i hp; rw [decide_eq_true hn.2, decide_eq_true hp]
    · rename_i hp; rw [decide_eq_false hp]
  by_cases hk1 : x.k = 1
  · refine r_yes rfl (by simp [hk1]) ?_
    (repeat refine zk ?_)
    refine r_yes rfl (by simp [hk1]) ?_
    refine r_seq ?_
    refine r_quietS follows_mixed (by kernel_rfl) ?_
    (repeat refine yo rfl rfl trivial ?_)
    refine q_load (v := I x.o) rfl (fun w hs => (hs.blk hB3).cell rfl) rfl rfl rfl rfl ?_
    (repeat refine yo rfl rfl trivial ?_)
    refine q_load (v := I s.va) rfl (fun w hs => (hs.blk hh3).cell rfl) rfl rfl rfl rfl ?_
    refine q_call _ (below_q x.o s.va) Tryz.call99 rfl rfl rfl ?_
    (repeat first|refine yo rfl rfl trivial ?_|refine yn ?_)
    intro w4 hs4
    (repeat refine zr ?_)
    exact ⟨_, rfl, by rw [e0]; simp [hk1], k3.trans (hs4.kp [])⟩
  refine r_no rfl (by simp [hk1]) ?_
  (repeat first|refine zg ?_|refine zo rfl rfl trivial ?_|refine zn ?_)
  by_cases hk2 : x.k = 2
  · refine r_yes rfl (by simp [hk2]) ?_
    refine r_seq ?_
    refine r_quietS follows_mixed (by kernel_rfl) ?_
    (repeat refine yo rfl rfl trivial ?_)
    refine q_load (v := I x.o) rfl (fun w hs => (hs.blk hB3).cell rfl) rfl rfl rfl rfl ?_
    (repeat refine yo rfl rfl trivial ?_)
    refine q_load (v := I s.va) rfl (fun w hs => (hs.blk hh3).cell rfl) rfl rfl rfl rfl ?_
    refine q_call _ (below_q x.o s.va) Tryz.call99 rfl rfl rfl ?_
    (repeat first|refine yo rfl rfl trivial ?_|refine yn ?_)
    intro w4 hs4
    (repeat refine zr ?_)
    exact ⟨_, rfl, by rw [e0]; simp [hk2], k3.trans (hs4.kp [])⟩
  refine r_no rfl (by simp [hk2]) ?_
  (repeat first|refine zA ?_|refine zB ?_|refine zg ?_|refine zo rfl rfl trivial ?_|refine zn ?_)
  by_cases hk3 : x.k = 3
  · refine r_yes rfl (by simp [hk3]) ?_
    (repeat refine zk ?_)
    refine r_yes rfl (by simp [hk3]) ?_
    refine r_seq ?_
    refine r_quietS follows_mixed (by kernel_rfl) ?_
    (repeat refine yo rfl rfl trivial ?_)
    refine q_load (v := I x.o) rfl (fun w hs => (hs.blk hB3).cell rfl) rfl rfl rfl rfl ?_
    (repeat refine yo rfl rfl trivial ?_)
    refine q_load (v := I s.vo) rfl (fun w hs => (hs.blk hh3).cell rfl) rfl rfl rfl rfl ?_
    refine q_call _ (below_q x.o s.vo) Tryz.call99 rfl rfl rfl ?_
    (repeat first|refine yo rfl rfl trivial ?_|refine yn ?_)
    intro w4 hs4
    (repeat refine zr ?_)
    exact ⟨_, rfl, by rw [e0]; simp [hk3], k3.trans (hs4.kp [])⟩
  refine r_no rfl (by simp [hk3]) ?_
  (repeat first|refine zg ?_|refine zo rfl rfl trivial ?_|refine zn ?_)
  by_cases hk4 : x.k = 4
  · refine r_yes rfl (by simp [hk4]) ?_
    refine r_seq ?_
    refine r_quietS follows_mixed (by kernel_rfl) ?_
    (repeat refine yo rfl rfl trivial ?_)
    refine q_load (v := I x.o) rfl (fun w hs => (hs.blk hB3).cell rfl) rfl rfl rfl rfl ?_
    (repeat refine yo rfl rfl trivial ?_)
    refine q_load (v := I s.vo) rfl (fun w hs => (hs.blk hh3).cell rfl) rfl rfl rfl rfl ?_
    refine q_call _ (below_q x.o s.vo) Tryz.call99 rfl rfl rfl ?_
    (repeat first|refine yo rfl rfl trivial ?_|refine yn ?_)
    intro w4 hs4
    (repeat refine zr ?_)
    exact ⟨_, rfl, by rw [e0]; simp [hk4], k3.trans (hs4.kp [])⟩
  refine r_no rfl (by simp [hk4]) ?_
  (repeat first|refine zA ?_|refine zg ?_|refine zo rfl rfl trivial ?_|refine zn ?_)
  by_cases hk5 : x.k = 5
  · refine r_yes rfl (by simp [hk5]) ?_
    refine r_seq ?_
    refine r_quietS follows_mixed (by kernel_rfl) ?_
    (repeat refine yo rfl rfl trivial ?_)
    refine q_load (v := I x.o) rfl (fun w hs => (hs.blk hB3).cell rfl) rfl rfl rfl rfl ?_
    (repeat refine yo rfl rfl trivial ?_)
    refine q_load (v := .slice g.wad s.lo.toNat g.wcap) rfl (fun w hs => (hs.blk hh3).cell rfl) rfl rfl rfl rfl ?_
    (repeat refine yo rfl rfl trivial ?_)
    refine q_call _ (below_q x.o s.lo.toNat) Tryz.call99 rfl rfl rfl ?_
    (repeat refine yo rfl rfl trivial ?_)
    by_cases hin : 0 ≤ x.o ∧ x.o < s.lo
    rotate_left
    · refine q_is false 8 true rfl rfl rfl (by simp; omega) ?_
      (repeat first|refine yo rfl rfl trivial ?_|refine yn ?_)
      intro w4 hs4
      (repeat refine zr ?_)
      exact ⟨_, rfl, by rw [e0]; simp only [hk5, if_true, if_false, reduceIte, Int.reduceEq]; rw [lf hin], k3.trans (hs4.kp [])⟩
    obtain ⟨ob, OL, hoa, hOL, hOlen, hOget, _⟩ := h3.lok hin.1 hin.2
    refine q_is true 8 true rfl rfl rfl (by simp; omega) ?_
    (repeat refine yo rfl rfl trivial ?_)
    refine q_load (v := .slice (some ⟨ob, 0, none⟩) s.lo.toNat g.wcap) rfl (fun w hs => (hs.blk hh3).cell (by rw [rgC, hoa]; rfl)) rfl rfl rfl rfl ?_
    (repeat refine yo rfl rfl trivial ?_)
    refine q_load (v := I x.o) rfl (fun w hs => (hs.blk hB3).cell rfl) rfl rfl rfl rfl ?_
    (repeat refine yo rfl rfl (by first|exact trivial|(simp only[AllP];omega)) ?_)
    refine q_load (b := ob) (off := x.o.toNat) (v := I ((c.O x.o).getD (-1))) (by show Value.pointer (some ⟨ob, 0 + x.o.toNat, none⟩) = _; rw [Nat.zero_add]) (fun w hs => (hs.blk hOL).cell hOget) rfl rfl rfl rfl ?_
    (repeat first|refine yo rfl rfl trivial ?_|refine yn ?_)
    intro w4 hs4
    (repeat refine zr ?_)
    exact ⟨_, rfl, by rw [e0]; simp only [hk5, if_true, if_false, reduceIte, Int.reduceEq]; rw [lt hin]; simp only [own_none h.ok], k3.trans (hs4.kp [])⟩
  refine r_no rfl (by simp [hk5]) ?_
  (repeat first|refine zA ?_|refine zg ?_|refine zo rfl rfl trivial ?_|refine zn ?_)
  by_cases hk6 : x.k = 6
  · refine r_yes rfl (by simp [hk6]) ?_
    refine r_seq ?_
    refine r_quietS follows_mixed (by kernel_rfl) ?_
    (repeat refine yo rfl rfl trivial ?_)
    refine q_load (v := I x.o) rfl (fun w hs => (hs.blk hB3).cell rfl) rfl rfl rfl rfl ?_
    (repeat refine yo rfl rfl trivial ?_)
    refine q_load (v := .slice g.wad s.lo.toNat g.wcap) rfl (fun w hs => (hs.blk hh3).cell rfl) rfl rfl rfl rfl ?_
    (repeat refine yo rfl rfl trivial ?_)
    refine q_call _ (below_q x.o s.lo.toNat) Tryz.call99 rfl rfl rfl ?_
    (repeat refine yo rfl rfl trivial ?_)
    by_cases hin : 0 ≤ x.o ∧ x.o < s.lo
    rotate_left
    · refine q_is false 8 true rfl rfl rfl (by simp; omega) ?_
      (repeat first|refine yo rfl rfl trivial ?_|refine yn ?_)
      intro w4 hs4
      (repeat refine zr ?_)
      exact ⟨_, rfl, by rw [e0]; simp only [hk6, if_true, if_false, reduceIte, Int.reduceEq]; rw [lf hin], k3.trans (hs4.kp [])⟩
    obtain ⟨ob, OL, hoa, hOL, hOlen, hOget, _⟩ := h3.lok hin.1 hin.2
    refine q_is true 8 true rfl rfl rfl (by simp; omega) ?_
    (repeat refine yo rfl rfl trivial ?_)
    refine q_load (v := .slice (some ⟨ob, 0, none⟩) s.lo.toNat g.wcap) rfl (fun w hs => (hs.blk hh3).cell (by rw [rgC, hoa]; rfl)) rfl rfl rfl rfl ?_
    (repeat refine yo rfl rfl trivial ?_)
    refine q_load (v := I x.o) rfl (fun w hs => (hs.blk hB3).cell rfl) rfl rfl rfl rfl ?_
    (repeat refine yo rfl rfl (by first|exact trivial|(simp only[AllP];omega)) ?_)
    refine q_load (b := ob) (off := x.o.toNat) (v := I ((c.O x.o).getD (-1))) (by show Value.pointer (some ⟨ob, 0 + x.o.toNat, none⟩) = _; rw [Nat.zero_add]) (fun w hs => (hs.blk hOL).cell hOget) rfl rfl rfl rfl ?_
    (repeat refine yo rfl rfl trivial ?_)
    refine q_load (v := I x.t) rfl (fun w hs => (hs.blk hB3).cell rfl) rfl rfl rfl rfl ?_
    (repeat first|refine yo rfl rfl trivial ?_|refine yn ?_)
    intro w4 hs4
    (repeat refine zr ?_)
    exact ⟨_, rfl, by rw [e0]; simp only [hk6, if_true, if_false, reduceIte, Int.reduceEq]; rw [lt hin]; simp only [own_some h.ok ht.1], k3.trans (hs4.kp [])⟩
  refine r_no rfl (by simp [hk6]) ?_
  (repeat first|refine zA ?_|refine zg ?_|refine zo rfl rfl trivial ?_|refine zn ?_)
  by_cases hk7 : x.k = 7
  · refine r_yes rfl (by simp [hk7]) ?_
    refine r_seq ?_
    refine r_quietS follows_mixed (by kernel_rfl) ?_
    (repeat refine yo rfl rfl trivial ?_)
    refine q_load (v := I x.o) rfl (fun w hs => (hs.blk hB3).cell rfl) rfl rfl rfl rfl ?_
    (repeat refine yo rfl rfl trivial ?_)
    refine q_load (v := .slice g.tad s.th.toNat g.tcap) rfl (fun w hs => (hs.blk hh3).cell rfl) rfl rfl rfl rfl ?_
    (repeat refine yo rfl rfl trivial ?_)
    refine q_call _ (below_q x.o s.th.toNat) Tryz.call99 rfl rfl rfl ?_
    (repeat refine yo rfl rfl trivial ?_)
    by_cases hin : 0 ≤ x.o ∧ x.o < s.th
    rotate_left
    · refine q_is false 8 true rfl rfl rfl (by simp; omega) ?_
      (repeat first|refine yo rfl rfl trivial ?_|refine yn ?_)
      intro w4 hs4
      (repeat refine zr ?_)
      exact ⟨_, rfl, by rw [e0]; simp only [hk7, if_true, if_false, reduceIte, Int.reduceEq]; rw [lf hin], k3.trans (hs4.kp [])⟩
    obtain ⟨ob, OL, hoa, hOL, hOlen, hOget, _⟩ := h3.thr hin.1 hin.2
    refine q_is true 8 true rfl rfl rfl (by simp; omega) ?_
    (repeat refine yo rfl rfl trivial ?_)
    refine q_load (v := .slice (some ⟨ob, 0, none⟩) s.th.toNat g.tcap) rfl (fun w hs => (hs.blk hh3).cell (by rw [rgC, hoa]; rfl)) rfl rfl rfl rfl ?_
    (repeat refine yo rfl rfl trivial ?_)
    refine q_load (v := I x.o) rfl (fun w hs => (hs.blk hB3).cell rfl) rfl rfl rfl rfl ?_
    (repeat refine yo rfl rfl (by first|exact trivial|(simp only[AllP];omega)) ?_)
    refine q_load (b := ob) (off := x.o.toNat * 3) (v := I (st c x.o).ph) (by show Value.pointer (some ⟨ob, 0 + x.o.toNat * 3, none⟩) = _; rw [Nat.zero_add]) (fun w hs => (hs.blk hOL).cell (hOget 0 _ rfl)) rfl rfl rfl rfl ?_
    (repeat first|refine yo rfl rfl trivial ?_|refine yn ?_)
    intro w4 hs4
    (repeat refine zr ?_)
    exact ⟨_, rfl, by rw [e0]; simp only [hk7, if_true, if_false, reduceIte, Int.reduceEq]; rw [lt hin], k3.trans (hs4.kp [])⟩
  refine r_no rfl (by simp [hk7]) ?_
  (repeat first|refine zA ?_|refine zg ?_|refine zo rfl rfl trivial ?_|refine zn ?_)
  by_cases hk8 : x.k = 8
  · refine r_yes rfl (by simp [hk8]) ?_
    refine r_seq ?_
    refine r_quietS follows_mixed (by kernel_rfl) ?_
    (repeat refine yo rfl rfl trivial ?_)
    refine q_load (v := I x.o) rfl (fun w hs => (hs.blk hB3).cell rfl) rfl rfl rfl rfl ?_
    (repeat refine yo rfl rfl trivial ?_)
    refine q_load (v := .slice g.tad s.th.toNat g.tcap) rfl (fun w hs => (hs.blk hh3).cell rfl) rfl rfl rfl rfl ?_
    (repeat refine yo rfl rfl trivial ?_)
    refine q_call _ (below_q x.o s.th.toNat) Tryz.call99 rfl rfl rfl ?_
    (repeat refine yo rfl rfl trivial ?_)
    by_cases hin : 0 ≤ x.o ∧ x.o < s.th
    rotate_left
    · refine q_is false 8 true rfl rfl rfl (by simp; omega) ?_
      (repeat first|refine yo rfl rfl trivial ?_|refine yn ?_)
      intro w4 hs4
      (repeat refine zr ?_)
      exact ⟨_, rfl, by rw [e0]; simp only [hk8, if_true, if_false, reduceIte, Int.reduceEq]; rw [lf hin], k3.trans (hs4.kp [])⟩
    obtain ⟨ob, OL, hoa, hOL, hOlen, hOget, _⟩ := h3.thr hin.1 hin.2
    refine q_is true 8 true rfl rfl rfl (by simp; omega) ?_
    (repeat refine yo rfl rfl trivial ?_)
    refine q_load (v := .slice (some ⟨ob, 0, none⟩) s.th.toNat g.tcap) rfl (fun w hs => (hs.blk hh3).cell (by rw [rgC, hoa]; rfl)) rfl rfl rfl rfl ?_
    (repeat refine yo rfl rfl trivial ?_)
    refine q_load (v := I x.o) rfl (fun w hs => (hs.blk hB3).cell rfl) rfl rfl rfl rfl ?_
    (repeat refine yo rfl rfl (by first|exact trivial|(simp only[AllP];omega)) ?_)
    refine q_load (b := ob) (off := x.o.toNat * 3) (v := I (st c x.o).ph) (by show Value.pointer (some ⟨ob, 0 + x.o.toNat * 3, none⟩) = _; rw [Nat.zero_add]) (fun w hs => (hs.blk hOL).cell (hOget 0 _ rfl)) rfl rfl rfl rfl ?_
    (repeat first|refine yo rfl rfl trivial ?_|refine yn ?_)
    intro w4 hs4
    (repeat refine zr ?_)
    exact ⟨_, rfl, by rw [e0]; simp only [hk8, if_true, if_false, reduceIte, Int.reduceEq]; rw [lt hin], k3.trans (hs4.kp [])⟩
  refine r_no rfl (by simp [hk8]) ?_
  (repeat first|refine zA ?_|refine zg ?_|refine zo rfl rfl trivial ?_|refine zn ?_)
  by_cases hk9 : x.k = 9
  · refine r_yes rfl (by simp [hk9]) ?_
    refine r_seq ?_
    refine r_quietS follows_mixed (by kernel_rfl) ?_
    (repeat refine yo rfl rfl trivial ?_)
    refine q_load (v := I x.o) rfl (fun w hs => (hs.blk hB3).cell rfl) rfl rfl rfl rfl ?_
    (repeat refine yo rfl rfl trivial ?_)
    refine q_load (v := .slice g.oad c.op.length g.ocap) rfl (fun w hs => (hs.blk hh3).cell rfl) rfl rfl rfl rfl ?_
    (repeat refine yo rfl rfl trivial ?_)
    refine q_call _ (below_q x.o c.op.length) Tryz.call99 rfl rfl rfl ?_
    (repeat first|refine yo rfl rfl trivial ?_|refine yn ?_)
    intro w4 hs4
    (repeat refine zr ?_)
    exact ⟨_, rfl, by rw [e0]; simp [hk9], k3.trans (hs4.kp [])⟩
  refine r_no rfl (by simp [hk9]) ?_
  (repeat first|refine zA ?_|refine zg ?_|refine zo rfl rfl trivial ?_|refine zn ?_)
  by_cases hk11 : x.k = 11
  · refine r_yes rfl (by simp [hk11]) ?_
    (repeat first|refine zA ?_|refine zg ?_|refine zo rfl rfl trivial ?_)
    refine o_load (v := I x.o) rfl hB3 rfl rfl rfl rfl rfl ?_
    (repeat first|refine zo rfl rfl trivial ?_|refine zn ?_|refine zr ?_)
    refine ⟨_, rfl, ?_, k3⟩
    rw [e0]
    simp [hk11]
    by_cases h0 : x.o = 0
    · simp [h0]
    · rw [decide_eq_false h0]
      by_cases h1 : 0 ≤ x.o
      · rw [decide_eq_true h1, decide_eq_false (show ¬ x.o < 1 by omega)]; rfl
      · rw [decide_eq_false h1]; rfl
  refine r_no rfl (by simp [hk11]) ?_
  (repeat first|refine zA ?_|refine zg ?_|refine zo rfl rfl trivial ?_|refine zn ?_|refine zr ?_|refine zk ?_)
  exact ⟨_, rfl, by rw [e0]; simp [hk1, hk2, hk3, hk4, hk5, hk6, hk7, hk8, hk9, hk11], k3⟩
  -- END
end
end Go.Vc
