/- abreastref20: an order in memory; Len, is, Why (by tool/mkRr1.py). -/
import Derived.Test.YtkgngbpkiklckaaGreatDoorQClQRaces44
namespace Go.Vc
open Go Go.Proofs
set_option maxRecDepth 10000
variable {w : World}
structure RrG where
  p : Nat
  ead : Option Addr
  ecap : Nat
  rad : Option Addr
  rcap : Nat
  bv : Value
structure RrB (w : World) (g : RrG) (E : List Ev) (R : List Int) : Prop where
  hdr : Blk w g.p [.slice g.ead E.length g.ecap, .slice g.rad R.length g.rcap, g.bv] 128
  ev : ReadS w g.ead (evsC E)
  ro : ReadS w g.rad (R.map I)
  lr : R.length = E.length
  small : E.length ≤ 2048
theorem RrB.kp {w' : World} {S : List Nat} {g : RrG} {E : List Ev} {R : List Int} (h : RrB w g E R) (hk : Kp S w w') (hS : ∀ b, b ∈ g.p :: (blkOf g.ead ++ blkOf g.rad) → b ∉ S) : RrB w' g E R :=
  ⟨hk.blk (hS _ (by simp)) h.hdr, h.ev.kp hk (fun b hb => hS b (by simp [hb])), h.ro.kp hk (fun b hb => hS b (by simp [hb])), h.lr, h.small⟩
theorem RrB.kp0 {w' : World} {g : RrG} {E : List Ev} {R : List Int} (h : RrB w g E R) (hk : Kp [] w w') : RrB w' g E R := h.kp hk (by simp)
theorem RrB.sm {w' : World} {g : RrG} {E : List Ev} {R : List Int} (h : RrB w g E R) (hk : Sm w w') : RrB w' g E R := h.kp0 (hk.kp [])
def whyEv2 (a b : Ev) (x y : Int) : Int :=
  if a.t = b.t then 1
  else if (a.k = 6 ∧ b.k = 5) ∧ a.o = b.o then 2
  else if (a.k = 4 ∧ b.k = 3) ∧ a.o = b.o then 3
  else if a.k = 7 ∧ a.o = b.t then 4
  else if b.k = 8 ∧ b.o = a.t then 5
  else if ((a.k = 9 ∧ b.k = 10) ∧ a.o = b.o) ∧ x = y then 6
  else 0
theorem whyEv2_eq (a b : Ev) (x y : Int) : whyEv2 a b x y = whyEv a b x y := by
  unfold whyEv whyEv2
  repeat' split
  all_goals first | rfl | (exfalso; omega)
section
variable {g : RrG} {E : List Ev} {R : List Int}
theorem RrB.evat (h : RrB w g E R) {i : Int} (h0 : 0 ≤ i) (h1 : i < E.length) : ∃ b off, g.ead = some ⟨b, off, none⟩ ∧ ∀ w', Kp [] w w' → ∀ j v, (evC (evA E i.toNat))[j]? = some v → w'.cell? ⟨b, off + i.toNat * 3 + j, none⟩ = some v := by
  obtain ⟨b, off, he, hb, hcell⟩ := h.ev.at_ (by rw [evsC_len]; omega)
  refine ⟨b, off, he, fun w' hk j v hv => ?_⟩
  have hx : E[i.toNat]? = some (evA E i.toNat) := by unfold evA; rw [List.getElem?_eq_getElem (by omega)]; rfl
  rw [Nat.add_assoc, ← hcell _ _ (evsC_get hx j v hv)]
  exact World.cell?_of_block (hk.at_ b hb (by simp))
theorem RrB.roat (h : RrB w g E R) {i : Int} (h0 : 0 ≤ i) (h1 : i < E.length) : ∃ b off, g.rad = some ⟨b, off, none⟩ ∧ ∀ w', Kp [] w w' → w'.cell? ⟨b, off + i.toNat, none⟩ = some (I (roA R i.toNat)) := by
  have := h.lr
  obtain ⟨b, off, he, hb, hcell⟩ := h.ro.at_ (by simp; omega)
  refine ⟨b, off, he, fun w' hk => ?_⟩
  rw [← hcell i.toNat (I (roA R i.toNat)) (by rw [List.getElem?_map]; unfold roA; rw [List.getElem?_eq_getElem (by omega)]; rfl)]
  exact World.cell?_of_block (hk.at_ b hb (by simp))
theorem rLen_ret (h : RrB w g E R) : Ret Tryz.prog 57 [ptr g.p] w (fun v w' => v = I E.length ∧ w' = w) := by
  refine enter Tryz.call57 Tryz.func57 rfl rfl rfl rfl ?_
  (repeat first|refine zA ?_|refine zB ?_|refine zg ?_|refine zo rfl rfl trivial ?_|refine zn ?_|refine zk ?_|refine zf rfl ?_)
  refine o_load rfl h.hdr rfl rfl rfl rfl rfl ?_
  (repeat first|refine zo rfl rfl trivial ?_|refine zn ?_|refine zr ?_)
  exact ⟨_, rfl, rfl, rfl⟩
theorem rLen_nil : Ret Tryz.prog 57 [.pointer none] w (fun v w' => v = I 0 ∧ w' = w) := by
  refine enter Tryz.call57 Tryz.func57 rfl rfl rfl rfl ?_
  (repeat first|refine zA ?_|refine zB ?_|refine zg ?_|refine zo rfl rfl trivial ?_|refine zn ?_|refine zr ?_|refine zt rfl ?_)
  exact ⟨_, rfl, rfl, rfl⟩
theorem rIs_ret (h : RrB w g E R) (i : Int) : Ret Tryz.prog 102 [ptr g.p, I i] w (fun v w' => v = .bool (decide (0 ≤ i ∧ i < E.length)) ∧ w' = w) := by
  refine enter Tryz.call102 Tryz.func102 rfl rfl rfl rfl ?_
  (repeat first|refine zA ?_|refine zg ?_|refine zo rfl rfl trivial ?_|refine zn ?_)
  by_cases h0 : 0 ≤ i
  · refine o_is true 2 true rfl rfl rfl (decide_eq_true h0) ?_
    (repeat refine zo rfl rfl trivial ?_)
    refine o_call (rLen_ret h) rfl rfl rfl ?_
    rintro v w1 ⟨rfl, rfl⟩
    (repeat first|refine zo rfl rfl trivial ?_|refine zn ?_|refine zr ?_)
    exact ⟨_, rfl, by simp [h0], rfl⟩
  · refine o_is false 2 true rfl rfl rfl (decide_eq_false h0) ?_
    (repeat first|refine zo rfl rfl trivial ?_|refine zn ?_|refine zr ?_)
    exact ⟨_, rfl, by simp [h0], rfl⟩
set_option maxHeartbeats 6400000 in
theorem rWhy_ret (h : RrB w g E R) (i j : Int) : Ret Tryz.prog 101 [ptr g.p, I i, I j] w (fun v w' => v = I (whyI E R i j) ∧ Kp [] w w') := by
  have hsm := h.small
  refine enter Tryz.call101 Tryz.func101 rfl rfl rfl rfl ?_
  (repeat first|refine zA ?_|refine zB ?_|refine zg ?_|refine zo rfl rfl trivial ?_|refine zn ?_)
  refine o_call (rIs_ret h i) rfl rfl rfl ?_
  rintro v w1 ⟨rfl, rfl⟩
  (repeat refine zo rfl rfl trivial ?_)
  by_cases hi : 0 ≤ i ∧ i < E.length
  rotate_left
  · refine o_is true 4 false rfl rfl rfl (by rw [decide_eq_false hi]; rfl) ?_
    (repeat first|refine zA ?_|refine zg ?_|refine zo rfl rfl trivial ?_|refine zn ?_|refine zr ?_|refine zT rfl rfl rfl ?_|refine zt rfl ?_)
    exact ⟨_, rfl, by rw [whyI_out (by omega)], Kp.refl _ _⟩
  refine o_is false 4 false rfl rfl rfl (by rw [decide_eq_true hi]; rfl) ?_
  (repeat refine zo rfl rfl trivial ?_)
  refine o_call (rIs_ret h j) rfl rfl rfl ?_
  rintro v w1 ⟨rfl, rfl⟩
  (repeat refine zo rfl rfl trivial ?_)
  by_cases hj : 0 ≤ j ∧ j < E.length
  rotate_left
  · refine o_is true 10 false rfl rfl rfl (by rw [decide_eq_false hj]; rfl) ?_
    (repeat first|refine zA ?_|refine zg ?_|refine zo rfl rfl trivial ?_|refine zn ?_|refine zr ?_|refine zt rfl ?_)
    exact ⟨_, rfl, by rw [whyI_out (by omega)], Kp.refl _ _⟩
  refine o_is false 10 false rfl rfl rfl (by rw [decide_eq_true hj]; rfl) ?_
  (repeat first|refine zo rfl rfl trivial ?_|refine zn ?_)
  refine r_if rfl (fun hij => ?_) (fun hij => ?_)
  · (repeat first|refine zA ?_|refine zg ?_|refine zo rfl rfl trivial ?_|refine zn ?_|refine zr ?_)
    exact ⟨_, rfl, by rw [whyI_out (by omega)], Kp.refl _ _⟩
  have hres : whyI E R i j = whyEv2 (evA E i.toNat) (evA E j.toNat) (roA R i.toNat) (roA R j.toNat) := by rw [whyEv2_eq]; exact whyI_in ⟨hi.1, by omega, hj.2⟩
  rw [hres]
  obtain ⟨eb, eo, hea, hei⟩ := h.evat hi.1 hi.2
  obtain ⟨eb2, eo2, hea2, hej⟩ := h.evat hj.1 hj.2
  obtain ⟨rb, ro, hra, hri⟩ := h.roat hi.1 hi.2
  obtain ⟨rb2, ro2, hra2, hrj⟩ := h.roat hj.1 hj.2
  generalize evA E i.toNat = a at hei ⊢
  generalize evA E j.toNat = b at hej ⊢
  generalize roA R i.toNat = x at hri ⊢
  generalize roA R j.toNat = y at hrj ⊢
  rw [hra] at hra2
  cases hra2
  rw [hea] at hea2
  cases hea2
  have hh := h.hdr
  rw [hra, hea] at hh
  (repeat first|refine zA ?_|refine zg ?_|refine zo rfl rfl trivial ?_|refine zk ?_)
  refine o_load (v := .slice (some ⟨eb, eo, none⟩) E.length g.ecap) rfl hh rfl rfl rfl rfl rfl ?_
  (repeat refine zo rfl rfl (by first|exact trivial|(simp only[AllP];omega)) ?_)
  refine o_loadA (b := eb) (off := eo + i.toNat * 3) (vs := evC a) rfl (hei _ (Kp.refl _ _)) rfl rfl rfl rfl rfl rfl ?_
  refine o_alloc rfl rfl rfl rfl ?_
  intro ba w2 hba hu2
  refine o_storeA (cs := evC a) rfl hu2.blk (Nat.le_refl _) rfl (by simp [Value.oneCell']) rfl rfl rfl rfl ?_
  intro w3 hu3
  have k3 : Kp [] w1 w3 := (hu2.kp [] (.inr (by omega))).since (hu3.kp [ba] (.inl (by simp))) (by simp; omega)
  have hA3 : Blk w3 ba (evC a) 86 := hu3.blk
  (repeat first|refine zA ?_|refine zg ?_|refine zo rfl rfl trivial ?_|refine zn ?_)
  refine o_load (v := .slice (some ⟨eb, eo, none⟩) E.length g.ecap) rfl (k3.blk (by simp) hh) rfl rfl rfl rfl rfl ?_
  (repeat refine zo rfl rfl (by first|exact trivial|(simp only[AllP];omega)) ?_)
  refine o_loadA (b := eb) (off := eo + j.toNat * 3) (vs := evC b) rfl (hej _ k3) rfl rfl rfl rfl rfl rfl ?_
  refine o_alloc rfl rfl rfl rfl ?_
  intro bb w4 hbb hu4
  refine o_storeA (cs := evC b) rfl hu4.blk (Nat.le_refl _) rfl (by simp [Value.oneCell']) rfl rfl rfl rfl ?_
  intro w6 hu6
  have k6 : Kp [] w3 w6 := (hu4.kp [] (.inr (by omega))).since (hu6.kp [bb] (.inl (by simp))) (by simp; omega)
  have hB : Blk w6 bb (evC b) 86 := hu6.blk
  have hA := k6.blk (by simp) hA3
  have kk : Kp [] w1 w6 := k3.trans k6
  have hh6 := kk.blk (by simp) hh
  (repeat first|refine zA ?_|refine zC ?_|refine zg ?_|refine zo rfl rfl trivial ?_|refine zn ?_|refine zb ?_)
  refine o_load (b := ba) (off := 1) (v := I a.t) rfl hA rfl rfl rfl rfl rfl ?_
  (repeat refine zo rfl rfl trivial ?_)
  refine o_load (b := bb) (off := 1) (v := I b.t) rfl hB rfl rfl rfl rfl rfl ?_
  (repeat first|refine zo rfl rfl trivial ?_|refine zn ?_)
  refine r_if rfl (fun c1 => ?_) (fun c1 => ?_)
  · (repeat first|refine zA ?_|refine zg ?_|refine zo rfl rfl trivial ?_|refine zn ?_|refine zr ?_)
    exact ⟨_, rfl, by unfold whyEv2; rw [if_pos c1], kk⟩
  (repeat first|refine zA ?_|refine zg ?_|refine zo rfl rfl trivial ?_)
  refine o_bool [0, 1, 2, 7, 8] [ptr g.p, I i, I j, ptr ba, ptr bb] 44 (decide ((a.k = 6 ∧ b.k = 5) ∧ a.o = b.o)) (fun w' => w' = w6) ?_ ?_
  · refine o_load (b := ba) (off := 0) (v := I a.k) rfl hA rfl rfl rfl rfl rfl ?_
    (repeat refine zo rfl rfl trivial ?_)
    by_cases q0 : a.k = 6
    rotate_left
    · refine o_is false 3 true rfl rfl rfl (by simp [q0]) ?_
      (repeat first|refine zo rfl rfl trivial ?_|refine zn ?_|refine zU rfl rfl rfl ?_)
      exact ⟨rfl, ⟨_, rfl, by simp [q0]⟩, rfl⟩
    refine o_is true 3 true rfl rfl rfl (by simp [q0]) ?_
    (repeat refine zo rfl rfl trivial ?_)
    refine o_load (b := bb) (off := 0) (v := I b.k) rfl hB rfl rfl rfl rfl rfl ?_
    (repeat refine zo rfl rfl trivial ?_)
    by_cases q1 : b.k = 5
    rotate_left
    · refine o_is false 8 true rfl rfl rfl (by simp [q0, q1]) ?_
      (repeat first|refine zo rfl rfl trivial ?_|refine zn ?_)
      exact ⟨rfl, ⟨_, rfl, by simp [q0, q1]⟩, rfl⟩
    refine o_is true 8 true rfl rfl rfl (by simp [q0, q1]) ?_
    (repeat refine zo rfl rfl trivial ?_)
    refine o_load (b := ba) (off := 2) (v := I a.o) rfl hA rfl rfl rfl rfl rfl ?_
    (repeat refine zo rfl rfl trivial ?_)
    refine o_load (b := bb) (off := 2) (v := I b.o) rfl hB rfl rfl rfl rfl rfl ?_
    (repeat first|refine zo rfl rfl trivial ?_|refine zn ?_)
    exact ⟨rfl, ⟨_, rfl, by simp [q0, q1]⟩, rfl⟩
  rintro e w7 rfl
  refine r_if rfl (fun c2 => ?_) (fun c2 => ?_)
  · (repeat first|refine zA ?_|refine zg ?_|refine zo rfl rfl trivial ?_|refine zn ?_|refine zr ?_)
    exact ⟨_, rfl, by unfold whyEv2; rw [if_neg c1, if_pos c2], kk⟩
  (repeat first|refine zA ?_|refine zg ?_|refine zo rfl rfl trivial ?_)
  refine o_bool [0, 1, 2, 7, 8] [ptr g.p, I i, I j, ptr ba, ptr bb] 60 (decide ((a.k = 4 ∧ b.k = 3) ∧ a.o = b.o)) (fun w' => w' = w7) ?_ ?_
  · refine o_load (b := ba) (off := 0) (v := I a.k) rfl hA rfl rfl rfl rfl rfl ?_
    (repeat refine zo rfl rfl trivial ?_)
    by_cases q0 : a.k = 4
    rotate_left
    · refine o_is false 3 true rfl rfl rfl (by simp [q0]) ?_
      (repeat first|refine zo rfl rfl trivial ?_|refine zn ?_|refine zU rfl rfl rfl ?_)
      exact ⟨rfl, ⟨_, rfl, by simp [q0]⟩, rfl⟩
    refine o_is true 3 true rfl rfl rfl (by simp [q0]) ?_
    (repeat refine zo rfl rfl trivial ?_)
    refine o_load (b := bb) (off := 0) (v := I b.k) rfl hB rfl rfl rfl rfl rfl ?_
    (repeat refine zo rfl rfl trivial ?_)
    by_cases q1 : b.k = 3
    rotate_left
    · refine o_is false 8 true rfl rfl rfl (by simp [q0, q1]) ?_
      (repeat first|refine zo rfl rfl trivial ?_|refine zn ?_)
      exact ⟨rfl, ⟨_, rfl, by simp [q0, q1]⟩, rfl⟩
    refine o_is true 8 true rfl rfl rfl (by simp [q0, q1]) ?_
    (repeat refine zo rfl rfl trivial ?_)
    refine o_load (b := ba) (off := 2) (v := I a.o) rfl hA rfl rfl rfl rfl rfl ?_
    (repeat refine zo rfl rfl trivial ?_)
    refine o_load (b := bb) (off := 2) (v := I b.o) rfl hB rfl rfl rfl rfl rfl ?_
    (repeat first|refine zo rfl rfl trivial ?_|refine zn ?_)
    exact ⟨rfl, ⟨_, rfl, by simp [q0, q1]⟩, rfl⟩
  rintro e w7 rfl
  refine r_if rfl (fun c3 => ?_) (fun c3 => ?_)
  · (repeat first|refine zA ?_|refine zg ?_|refine zo rfl rfl trivial ?_|refine zn ?_|refine zr ?_)
    exact ⟨_, rfl, by unfold whyEv2; rw [if_neg c1, if_neg c2, if_pos c3], kk⟩
  (repeat first|refine zA ?_|refine zg ?_|refine zo rfl rfl trivial ?_)
  refine o_bool [0, 1, 2, 7, 8] [ptr g.p, I i, I j, ptr ba, ptr bb] 76 (decide (a.k = 7 ∧ a.o = b.t)) (fun w' => w' = w7) ?_ ?_
  · refine o_load (b := ba) (off := 0) (v := I a.k) rfl hA rfl rfl rfl rfl rfl ?_
    (repeat refine zo rfl rfl trivial ?_)
    by_cases q0 : a.k = 7
    rotate_left
    · refine o_is false 3 true rfl rfl rfl (by simp [q0]) ?_
      (repeat first|refine zo rfl rfl trivial ?_|refine zn ?_)
      exact ⟨rfl, ⟨_, rfl, by simp [q0]⟩, rfl⟩
    refine o_is true 3 true rfl rfl rfl (by simp [q0]) ?_
    (repeat refine zo rfl rfl trivial ?_)
    refine o_load (b := ba) (off := 2) (v := I a.o) rfl hA rfl rfl rfl rfl rfl ?_
    (repeat refine zo rfl rfl trivial ?_)
    refine o_load (b := bb) (off := 1) (v := I b.t) rfl hB rfl rfl rfl rfl rfl ?_
    (repeat first|refine zo rfl rfl trivial ?_|refine zn ?_)
    exact ⟨rfl, ⟨_, rfl, by simp [q0]⟩, rfl⟩
  rintro e w7 rfl
  refine r_if rfl (fun c4 => ?_) (fun c4 => ?_)
  · (repeat first|refine zA ?_|refine zg ?_|refine zo rfl rfl trivial ?_|refine zn ?_|refine zr ?_)
    exact ⟨_, rfl, by unfold whyEv2; rw [if_neg c1, if_neg c2, if_neg c3, if_pos c4], kk⟩
  (repeat first|refine zA ?_|refine zg ?_|refine zo rfl rfl trivial ?_)
  refine o_bool [0, 1, 2, 7, 8] [ptr g.p, I i, I j, ptr ba, ptr bb] 87 (decide (b.k = 8 ∧ b.o = a.t)) (fun w' => w' = w7) ?_ ?_
  · refine o_load (b := bb) (off := 0) (v := I b.k) rfl hB rfl rfl rfl rfl rfl ?_
    (repeat refine zo rfl rfl trivial ?_)
    by_cases q0 : b.k = 8
    rotate_left
    · refine o_is false 3 true rfl rfl rfl (by simp [q0]) ?_
      (repeat first|refine zo rfl rfl trivial ?_|refine zn ?_)
      exact ⟨rfl, ⟨_, rfl, by simp [q0]⟩, rfl⟩
    refine o_is true 3 true rfl rfl rfl (by simp [q0]) ?_
    (repeat refine zo rfl rfl trivial ?_)
    refine o_load (b := bb) (off := 2) (v := I b.o) rfl hB rfl rfl rfl rfl rfl ?_
    (repeat refine zo rfl rfl trivial ?_)
    refine o_load (b := ba) (off := 1) (v := I a.t) rfl hA rfl rfl rfl rfl rfl ?_
    (repeat first|refine zo rfl rfl trivial ?_|refine zn ?_)
    exact ⟨rfl, ⟨_, rfl, by simp [q0]⟩, rfl⟩
  rintro e w7 rfl
  refine r_if rfl (fun c5 => ?_) (fun c5 => ?_)
  · (repeat first|refine zA ?_|refine zg ?_|refine zo rfl rfl trivial ?_|refine zn ?_|refine zr ?_)
    exact ⟨_, rfl, by unfold whyEv2; rw [if_neg c1, if_neg c2, if_neg c3, if_neg c4, if_pos c5], kk⟩
  have hfin : whyEv2 a b x y = if ((a.k = 9 ∧ b.k = 10) ∧ a.o = b.o) ∧ x = y then 6 else 0 := by
    unfold whyEv2; rw [if_neg c1, if_neg c2, if_neg c3, if_neg c4, if_neg c5]
  rw [hfin]
  refine r_seq ?_
  refine r_cut (α := Unit) [0, 98] (fun _ => [ptr g.p, .bool (decide (((a.k = 9 ∧ b.k = 10) ∧ a.o = b.o) ∧ x = y))]) (fun _ w' => Kp [] w1 w') ?_ ?_
  · refine r_quietS follows_mixed (by kernel_rfl) ?_
    (repeat refine yo rfl rfl trivial ?_)
    refine q_load (b := ba) (off := 0) (v := I a.k) rfl (fun w hs => (hs.blk hA).cell rfl) rfl rfl rfl rfl ?_
    (repeat refine yo rfl rfl trivial ?_)
    by_cases q0 : a.k = 9
    rotate_left
    · refine q_is false 3 true rfl rfl rfl (by simp [q0]) ?_
      (repeat first|refine yo rfl rfl trivial ?_|refine yn ?_|refine q_know _ _ (some false) rfl rfl rfl ?_)
      intro w8 hs8
      exact ⟨(), by rw [show decide (((a.k = 9 ∧ b.k = 10) ∧ a.o = b.o) ∧ x = y) = false by simp [q0]]; rfl, kk.trans (hs8.kp [])⟩
    refine q_is true 3 true rfl rfl rfl (by simp [q0]) ?_
    (repeat refine yo rfl rfl trivial ?_)
    refine q_load (b := bb) (off := 0) (v := I b.k) rfl (fun w hs => (hs.blk hB).cell rfl) rfl rfl rfl rfl ?_
    (repeat refine yo rfl rfl trivial ?_)
    by_cases q1 : b.k = 10
    rotate_left
    · refine q_is false 8 true rfl rfl rfl (by simp [q1]) ?_
      (repeat first|refine yo rfl rfl trivial ?_|refine yn ?_|refine q_know _ _ (some false) rfl rfl rfl ?_)
      intro w8 hs8
      exact ⟨(), by rw [show decide (((a.k = 9 ∧ b.k = 10) ∧ a.o = b.o) ∧ x = y) = false by simp [q1]]; rfl, kk.trans (hs8.kp [])⟩
    refine q_is true 8 true rfl rfl rfl (by simp [q1]) ?_
    (repeat refine yo rfl rfl trivial ?_)
    refine q_load (b := ba) (off := 2) (v := I a.o) rfl (fun w hs => (hs.blk hA).cell rfl) rfl rfl rfl rfl ?_
    (repeat refine yo rfl rfl trivial ?_)
    refine q_load (b := bb) (off := 2) (v := I b.o) rfl (fun w hs => (hs.blk hB).cell rfl) rfl rfl rfl rfl ?_
    (repeat refine yo rfl rfl trivial ?_)
    by_cases q2 : a.o = b.o
    rotate_left
    · refine q_is false 15 true rfl rfl rfl (by simp [q2]) ?_
      (repeat first|refine yo rfl rfl trivial ?_|refine yn ?_)
      intro w8 hs8
      exact ⟨(), by rw [show decide (((a.k = 9 ∧ b.k = 10) ∧ a.o = b.o) ∧ x = y) = false by simp [q2]]; rfl, kk.trans (hs8.kp [])⟩
    refine q_is true 15 true rfl rfl rfl (by simp [q2]) ?_
    have hlr := h.lr
    (repeat refine yo rfl rfl trivial ?_)
    refine q_load (v := .slice (some ⟨rb, ro, none⟩) R.length g.rcap) rfl (fun w hs => (hs.blk hh6).cell rfl) rfl rfl rfl rfl ?_
    (repeat refine yo rfl rfl (by first|exact trivial|(simp only[AllP];omega)) ?_)
    refine q_load (b := rb) (off := ro + i.toNat) (v := I x) rfl (fun w hs => hri w (kk.trans (hs.kp []))) rfl rfl rfl rfl ?_
    (repeat refine yo rfl rfl trivial ?_)
    refine q_load (v := .slice (some ⟨rb, ro, none⟩) R.length g.rcap) rfl (fun w hs => (hs.blk hh6).cell rfl) rfl rfl rfl rfl ?_
    (repeat refine yo rfl rfl (by first|exact trivial|(simp only[AllP];omega)) ?_)
    refine q_load (b := rb) (off := ro + j.toNat) (v := I y) rfl (fun w hs => hrj w (kk.trans (hs.kp []))) rfl rfl rfl rfl ?_
    (repeat first|refine yo rfl rfl trivial ?_|refine yn ?_)
    intro w8 hs8
    exact ⟨(), by rw [show decide (((a.k = 9 ∧ b.k = 10) ∧ a.o = b.o) ∧ x = y) = decide (x = y) by simp [q0, q1, q2]]; rfl, kk.trans (hs8.kp [])⟩
  rintro _ e w9 k9
  refine r_if rfl (fun c6 => ?_) (fun c6 => ?_)
  · (repeat first|refine zA ?_|refine zg ?_|refine zo rfl rfl trivial ?_|refine zn ?_|refine zr ?_)
    exact ⟨_, rfl, by rw [if_pos c6], k9⟩
  · (repeat first|refine zA ?_|refine zg ?_|refine zo rfl rfl trivial ?_|refine zn ?_|refine zr ?_|refine zk ?_)
    exact ⟨_, rfl, by rw [if_neg c6], k9⟩
end
end Go.Vc
