/- order: the plain model; Len, Event, Why. -/
import Derived.Test.YtkgngbpkiklckaaGreatDoorQClQAlike25
import Derived.Test.YtkgngbpkiklckaaGreatDoorQClQAlike28
import Derived.Test.YtkgngbpkiklckaaGreatDoorQClQAlike31
namespace Go.Vc
open Go Go.Proofs
set_option maxRecDepth 10000
variable {w : World}
/-! ### The model -/
def evA (E : List Ev) (i : Nat) : Ev := (E[i]?).getD ⟨0, 0, 0⟩
def roA (R : List Int) (i : Nat) : Int := (R[i]?).getD 0
def whyEv (a b : Ev) (x y : Int) : Int :=
  if a.t = b.t then 1
  else if a.k = 7 ∧ a.o = b.t then 4
  else if b.k = 8 ∧ b.o = a.t then 5
  else if a.o ≠ b.o then 0
  else if a.k = 6 ∧ b.k = 5 then 2
  else if a.k = 4 ∧ b.k = 3 then 3
  else if a.k = 9 ∧ b.k = 10 then (if x = y then 6 else 0)
  else 0
def whyI (E : List Ev) (R : List Int) (i j : Int) : Int := if 0 ≤ i ∧ i < j ∧ j < E.length then whyEv (evA E i.toNat) (evA E j.toNat) (roA R i.toNat) (roA R j.toNat) else 0
def lk (E : List Ev) (R : List Int) (i j : Nat) : Prop := whyI E R i j ≠ 0
instance (E : List Ev) (R : List Int) (i j : Nat) : Decidable (lk E R i j) := inferInstanceAs (Decidable (_ ≠ _))
theorem lk_lt {E : List Ev} {R : List Int} {i j : Nat} (h : lk E R i j) : i < j ∧ j < E.length := by
  unfold lk whyI at h
  by_cases hc : 0 ≤ (i : Int) ∧ (i : Int) < j ∧ (j : Int) < E.length
  · omega
  · rw [if_neg hc] at h; exact absurd rfl h
theorem ch_lt {E : List Ev} {R : List Int} {i j : Nat} (h : Ch (lk E R) i j) : i < j ∧ j < E.length := by
  induction h with
  | one h => exact lk_lt h
  | more h _ ih => have := lk_lt h; omega
open Classical in
noncomputable def befI (E : List Ev) (R : List Int) (i j : Int) : Bool := decide (0 ≤ i ∧ 0 ≤ j ∧ Ch (lk E R) i.toNat j.toNat)
open Classical in
theorem befI_iff {E : List Ev} {R : List Int} {i j : Int} : befI E R i j = true ↔ (0 ≤ i ∧ 0 ≤ j ∧ Ch (lk E R) i.toNat j.toNat) := @decide_eq_true_iff _ _
theorem befI_lt {E : List Ev} {R : List Int} {i j : Int} (h : befI E R i j = true) : 0 ≤ i ∧ i < j ∧ j < E.length := by
  rw [befI_iff] at h
  have := ch_lt h.2.2
  omega
/-! ### In memory -/
structure OrG where
  p : Nat
  ead : Option Addr
  ecap : Nat
  rad : Option Addr
  rcap : Nat
  rp : Nat
  bs : List Nat
  M : List (List Nat)
  mad : Option Addr
  mcap : Nat
structure OrB (w : World) (g : OrG) (E : List Ev) (R : List Int) : Prop where
  hdr : Blk w g.p [.slice g.ead E.length g.ecap, .slice g.rad R.length g.rcap, ptr g.rp] 186
  ev : ReadS w g.ead (evsC E)
  ro : ReadS w g.rad (R.map I)
  lr : R.length = E.length
  small : E.length ≤ 2048
theorem OrB.kp {w' : World} {S : List Nat} {g : OrG} {E : List Ev} {R : List Int} (h : OrB w g E R) (hk : Kp S w w') (hS : ∀ b, b ∈ g.p :: (blkOf g.ead ++ blkOf g.rad) → b ∉ S) : OrB w' g E R :=
  ⟨hk.blk (hS _ (by simp)) h.hdr, h.ev.kp hk (fun b hb => hS b (by simp [hb])), h.ro.kp hk (fun b hb => hS b (by simp [hb])), h.lr, h.small⟩
theorem OrB.kp0 {w' : World} {g : OrG} {E : List Ev} {R : List Int} (h : OrB w g E R) (hk : Kp [] w w') : OrB w' g E R := h.kp hk (by simp)
theorem OrB.sm {w' : World} {g : OrG} {E : List Ev} {R : List Int} (h : OrB w g E R) (hk : Sm w w') : OrB w' g E R := h.kp0 (hk.kp [])
def evI (E : List Ev) (i : Int) : Ev := if 0 ≤ i ∧ i < E.length then evA E i.toNat else ⟨0, 0, 0⟩
section
variable {g : OrG} {E : List Ev} {R : List Int}
theorem OrB.evat (h : OrB w g E R) {i : Int} (h0 : 0 ≤ i) (h1 : i < E.length) : ∃ b off, g.ead = some ⟨b, off, none⟩ ∧ ∀ w', Kp [] w w' → ∀ j v, (evC (evA E i.toNat))[j]? = some v → w'.cell? ⟨b, off + i.toNat * 3 + j, none⟩ = some v := by
  obtain ⟨b, off, he, hb, hcell⟩ := h.ev.at_ (by rw [evsC_len]; omega)
  refine ⟨b, off, he, fun w' hk j v hv => ?_⟩
  have hx : E[i.toNat]? = some (evA E i.toNat) := by unfold evA; rw [List.getElem?_eq_getElem (by omega)]; rfl
  rw [Nat.add_assoc, ← hcell _ _ (evsC_get hx j v hv)]
  exact World.cell?_of_block (hk.at_ b hb (by simp))
theorem OrB.roat (h : OrB w g E R) {i : Int} (h0 : 0 ≤ i) (h1 : i < E.length) : ∃ b off, g.rad = some ⟨b, off, none⟩ ∧ ∀ w', Kp [] w w' → w'.cell? ⟨b, off + i.toNat, none⟩ = some (I (roA R i.toNat)) := by
  have := h.lr
  obtain ⟨b, off, he, hb, hcell⟩ := h.ro.at_ (by simp; omega)
  refine ⟨b, off, he, fun w' hk => ?_⟩
  rw [← hcell i.toNat (I (roA R i.toNat)) (by rw [List.getElem?_map]; unfold roA; rw [List.getElem?_eq_getElem (by omega)]; rfl)]
  exact World.cell?_of_block (hk.at_ b hb (by simp))
theorem oLen_ret (h : OrB w g E R) : Ret Tryz.prog 162 [ptr g.p] w (fun v w' => v = I E.length ∧ w' = w) := by
  refine enter Tryz.call162 Tryz.func162 rfl rfl rfl rfl ?_
  (repeat first|refine zA ?_|refine zB ?_|refine zg ?_|refine zo rfl rfl trivial ?_|refine zn ?_|refine zk ?_|refine zf rfl ?_)
  refine o_load rfl h.hdr rfl rfl rfl rfl rfl ?_
  (repeat first|refine zo rfl rfl trivial ?_|refine zn ?_|refine zr ?_)
  exact ⟨_, rfl, rfl, rfl⟩
theorem oEvent_ret (h : OrB w g E R) (i : Int) : Ret Tryz.prog 133 [ptr g.p, I i] w (fun v w' => v = .tuple #[.agg ⟨evC (evI E i)⟩, .bool (decide (0 ≤ i ∧ i < E.length))] ∧ Kp [] w w') := by
  refine enterC Tryz.call133 Tryz.func133 rfl rfl rfl rfl ?_
  (repeat first|refine zA ?_|refine zg ?_)
  refine o_alloc rfl rfl rfl rfl ?_
  intro bs w1 hbs hu1
  have k1 : Kp [] w w1 := hu1.kp [] (.inr (by omega))
  have h1 := h.kp0 k1
  (repeat first|refine zA ?_|refine zB ?_|refine zg ?_|refine zo rfl rfl trivial ?_|refine zn ?_)
  by_cases hin : 0 ≤ i ∧ i < E.length
  · obtain ⟨b, off, he, hcell⟩ := h1.evat hin.1 hin.2
    have hh := h1.hdr
    rw [he] at hh
    refine o_is false 2 false rfl rfl rfl (by simp; omega) ?_
    (repeat refine zo rfl rfl trivial ?_)
    refine o_call (oLen_ret h1) rfl rfl rfl ?_
    rintro v wx ⟨rfl, rfl⟩
    (repeat first|refine zo rfl rfl trivial ?_|refine zn ?_)
    refine r_no rfl (by simp; omega) ?_
    (repeat first|refine zA ?_|refine zg ?_|refine zo rfl rfl trivial ?_|refine zk ?_)
    refine o_load (v := .slice (some ⟨b, off, none⟩) E.length g.ecap) rfl hh rfl rfl rfl rfl rfl ?_
    (repeat refine zo rfl rfl (by first|exact trivial|(simp only[AllP];omega)) ?_)
    refine o_loadA (b := b) (off := off + i.toNat * 3) (vs := evC (evA E i.toNat)) rfl (hcell _ (Kp.refl _ _)) rfl rfl rfl rfl rfl rfl ?_
    refine o_storeA (cs := evC (evA E i.toNat)) rfl hu1.blk (Nat.le_refl _) rfl (by simp [Value.oneCell']) rfl rfl rfl rfl ?_
    intro w4 hu4
    have k4 : Kp [] w w4 := k1.since (hu4.kp [bs] (.inl (by simp))) (by simp; omega)
    have hB4 : Blk w4 bs (evC (evA E i.toNat)) 86 := hu4.blk
    (repeat first|refine zo rfl rfl trivial ?_|refine zn ?_|refine zr ?_)
    exact ⟨[.agg ⟨evC (evA E i.toNat)⟩, _], ⟨⟨_, rfl, run_loadB hB4 rfl rfl rfl rfl⟩, ⟨_, rfl⟩, trivial⟩, by unfold evI; rw [if_pos hin, decide_eq_true hin]; rfl, k4⟩
  · have fin : ∀ w4, Upd w1 bs (.cells ⟨evC ⟨0, 0, 0⟩⟩ 86 (0, 0)) w4 → Kp [] w w4 := fun w4 hu4 => k1.since (hu4.kp [bs] (.inl (by simp))) (by simp; omega)
    by_cases h0 : i < 0
    · refine o_is true 2 false rfl rfl rfl (by simp; omega) ?_
      (repeat first|refine zA ?_|refine zg ?_|refine zo rfl rfl trivial ?_|refine zn ?_|refine zt rfl ?_)
      refine o_build [I 0, I 0, I 0] rfl rfl rfl rfl rfl rfl rfl ?_
      refine o_storeA (cs := [I 0, I 0, I 0]) rfl hu1.blk (Nat.le_refl _) rfl (by simp [Value.oneCell']) rfl rfl rfl rfl ?_
      intro w4 hu4
      have hB4 : Blk w4 bs (evC ⟨0, 0, 0⟩) 86 := hu4.blk
      (repeat first|refine zo rfl rfl trivial ?_|refine zn ?_|refine zr ?_)
      exact ⟨[.agg ⟨evC ⟨0, 0, 0⟩⟩, _], ⟨⟨_, rfl, run_loadB hB4 rfl rfl rfl rfl⟩, ⟨_, rfl⟩, trivial⟩, by unfold evI; rw [if_neg hin, decide_eq_false hin]; rfl, fin w4 hu4⟩
    · refine o_is false 2 false rfl rfl rfl (by simp; omega) ?_
      (repeat refine zo rfl rfl trivial ?_)
      refine o_call (oLen_ret h1) rfl rfl rfl ?_
      rintro v wx ⟨rfl, rfl⟩
      (repeat first|refine zo rfl rfl trivial ?_|refine zn ?_)
      refine r_yes rfl (by simp; omega) ?_
      (repeat first|refine zA ?_|refine zg ?_)
      refine o_build [I 0, I 0, I 0] rfl rfl rfl rfl rfl rfl rfl ?_
      refine o_storeA (cs := [I 0, I 0, I 0]) rfl hu1.blk (Nat.le_refl _) rfl (by simp [Value.oneCell']) rfl rfl rfl rfl ?_
      intro w4 hu4
      have hB4 : Blk w4 bs (evC ⟨0, 0, 0⟩) 86 := hu4.blk
      (repeat first|refine zo rfl rfl trivial ?_|refine zn ?_|refine zr ?_)
      exact ⟨[.agg ⟨evC ⟨0, 0, 0⟩⟩, _], ⟨⟨_, rfl, run_loadB hB4 rfl rfl rfl rfl⟩, ⟨_, rfl⟩, trivial⟩, by unfold evI; rw [if_neg hin, decide_eq_false hin]; rfl, fin w4 hu4⟩
end
end Go.Vc
/- order: Why, Before, Aside. -/
namespace Go.Vc
open Go Go.Proofs
set_option maxRecDepth 10000
variable {w : World}
section
variable {g : OrG} {E : List Ev} {R : List Int}
theorem whyI_in {i j : Int} (h : 0 ≤ i ∧ i < j ∧ j < E.length) : whyI E R i j = whyEv (evA E i.toNat) (evA E j.toNat) (roA R i.toNat) (roA R j.toNat) := by unfold whyI; rw [if_pos h]
theorem whyI_out {i j : Int} (h : ¬ (0 ≤ i ∧ i < j ∧ j < E.length)) : whyI E R i j = 0 := by unfold whyI; rw [if_neg h]
theorem evI_in {i : Int} (h : 0 ≤ i ∧ i < E.length) : evI E i = evA E i.toNat := by unfold evI; rw [if_pos h]
set_option maxHeartbeats 6400000 in
theorem oWhy_ret (h : OrB w g E R) (i j : Int) : Ret Tryz.prog 91 [ptr g.p, I i, I j] w (fun v w' => v = I (whyI E R i j) ∧ Kp [] w w') := by
  have hsm := h.small
  refine enter Tryz.call91 Tryz.func91 rfl rfl rfl rfl ?_
  (repeat first|refine zA ?_|refine zg ?_|refine zo rfl rfl trivial ?_|refine zn ?_)
  refine o_call (oEvent_ret h i) rfl rfl rfl ?_
  rintro v w1 ⟨rfl, k1⟩
  have h1 := h.kp0 k1
  (repeat refine zo rfl rfl trivial ?_)
  refine o_alloc rfl rfl rfl rfl ?_
  intro ba w2 hba hu2
  refine o_storeA (cs := evC (evI E i)) rfl hu2.blk (Nat.le_refl _) rfl (by simp [Value.oneCell']) rfl rfl rfl rfl ?_
  intro w3 hu3
  have k3 : Kp [] w1 w3 := (hu2.kp [] (.inr (by omega))).since (hu3.kp [ba] (.inl (by simp))) (by simp; omega)
  have hA3 : Blk w3 ba (evC (evI E i)) 86 := hu3.blk
  have h3 := h1.kp0 k3
  (repeat first|refine zA ?_|refine zg ?_|refine zo rfl rfl trivial ?_|refine zn ?_)
  refine o_call (oEvent_ret h3 j) rfl rfl rfl ?_
  rintro v w4 ⟨rfl, k4⟩
  have h4 := h3.kp0 k4
  have hA4 := k4.blk (by simp) hA3
  (repeat refine zo rfl rfl trivial ?_)
  refine o_alloc rfl rfl rfl rfl ?_
  intro bb w5 hbb hu5
  refine o_storeA (cs := evC (evI E j)) rfl hu5.blk (Nat.le_refl _) rfl (by simp [Value.oneCell']) rfl rfl rfl rfl ?_
  intro w6 hu6
  have k6 : Kp [] w4 w6 := (hu5.kp [] (.inr (by omega))).since (hu6.kp [bb] (.inl (by simp))) (by simp; omega)
  have hB : Blk w6 bb (evC (evI E j)) 86 := hu6.blk
  have h6 := h4.kp0 k6
  have hA := k6.blk (by simp) hA4
  have kk : Kp [] w w6 := ((k1.trans k3).trans k4).trans k6
  (repeat first|refine zA ?_|refine zB ?_|refine zg ?_|refine zo rfl rfl trivial ?_|refine zn ?_)
  by_cases hi : 0 ≤ i ∧ i < E.length
  rotate_left
  · refine o_is true 2 false rfl rfl rfl (by simp; omega) ?_
    (repeat first|refine zA ?_|refine zg ?_|refine zo rfl rfl trivial ?_|refine zn ?_|refine zr ?_|refine zT rfl rfl rfl ?_|refine zt rfl ?_)
    exact ⟨_, rfl, by rw [whyI_out (by omega)], kk⟩
  refine o_is false 2 false rfl rfl rfl (by simp; omega) ?_
  (repeat refine zo rfl rfl trivial ?_)
  by_cases hj : 0 ≤ j ∧ j < E.length
  rotate_left
  · refine o_is true 6 false rfl rfl rfl (by simp; omega) ?_
    (repeat first|refine zA ?_|refine zg ?_|refine zo rfl rfl trivial ?_|refine zn ?_|refine zr ?_|refine zt rfl ?_)
    exact ⟨_, rfl, by rw [whyI_out (by omega)], kk⟩
  refine o_is false 6 false rfl rfl rfl (by simp; omega) ?_
  (repeat first|refine zo rfl rfl trivial ?_|refine zn ?_)
  refine r_if rfl (fun hij => ?_) (fun hij => ?_)
  · (repeat first|refine zA ?_|refine zg ?_|refine zo rfl rfl trivial ?_|refine zn ?_|refine zr ?_)
    exact ⟨_, rfl, by rw [whyI_out (by omega)], kk⟩
  rw [evI_in hi] at hA
  rw [evI_in hj] at hB
  have hres : whyI E R i j = whyEv (evA E i.toNat) (evA E j.toNat) (roA R i.toNat) (roA R j.toNat) := whyI_in ⟨hi.1, by omega, hj.2⟩
  rw [hres]
  obtain ⟨rb, ro, hra, hri⟩ := h6.roat hi.1 hi.2
  obtain ⟨rb2, ro2, hra2, hrj⟩ := h6.roat hj.1 hj.2
  generalize evA E i.toNat = a at hA ⊢
  generalize evA E j.toNat = b at hB ⊢
  generalize roA R i.toNat = x at hri ⊢
  generalize roA R j.toNat = y at hrj ⊢
  rw [hra] at hra2
  cases hra2
  have hh := h6.hdr
  rw [hra] at hh
  (repeat first|refine zA ?_|refine zB ?_|refine zg ?_|refine zo rfl rfl trivial ?_|refine zk ?_)
  refine o_load (b := ba) (off := 1) (v := I a.t) rfl hA rfl rfl rfl rfl rfl ?_
  (repeat refine zo rfl rfl trivial ?_)
  refine o_load (b := bb) (off := 1) (v := I b.t) rfl hB rfl rfl rfl rfl rfl ?_
  (repeat first|refine zo rfl rfl trivial ?_|refine zn ?_)
  refine r_if rfl (fun c1 => ?_) (fun c1 => ?_)
  · (repeat first|refine zA ?_|refine zg ?_|refine zo rfl rfl trivial ?_|refine zn ?_|refine zr ?_)
    exact ⟨_, rfl, by unfold whyEv; rw [if_pos c1], kk⟩
  (repeat first|refine zA ?_|refine zC ?_|refine zg ?_|refine zo rfl rfl trivial ?_|refine zb ?_|refine zk ?_)
  refine o_bool [0, 1, 2, 7, 9] [ptr g.p, I i, I j, ptr ba, ptr bb] 39 (decide (a.k = 7 ∧ a.o = b.t)) (fun w' => w' = w6) ?_ ?_
  · refine o_load (b := ba) (off := 0) (v := I a.k) rfl hA rfl rfl rfl rfl rfl ?_
    (repeat refine zo rfl rfl trivial ?_)
    by_cases q : a.k = 7
    · refine o_is true 3 true rfl rfl rfl (by simp [q]) ?_
      (repeat refine zo rfl rfl trivial ?_)
      refine o_load (b := ba) (off := 2) (v := I a.o) rfl hA rfl rfl rfl rfl rfl ?_
      (repeat refine zo rfl rfl trivial ?_)
      refine o_load (b := bb) (off := 1) (v := I b.t) rfl hB rfl rfl rfl rfl rfl ?_
      (repeat first|refine zo rfl rfl trivial ?_|refine zn ?_)
      exact ⟨rfl, ⟨_, rfl, by simp [q]⟩, rfl⟩
    · refine o_is false 3 true rfl rfl rfl (by simp [q]) ?_
      (repeat first|refine zo rfl rfl trivial ?_|refine zn ?_)
      exact ⟨rfl, ⟨_, rfl, by simp [q]⟩, rfl⟩
  rintro e w7 rfl
  refine r_if rfl (fun c2 => ?_) (fun c2 => ?_)
  · (repeat first|refine zA ?_|refine zg ?_|refine zo rfl rfl trivial ?_|refine zn ?_|refine zr ?_)
    exact ⟨_, rfl, by unfold whyEv; rw [if_neg c1, if_pos c2], kk⟩
  (repeat first|refine zA ?_|refine zg ?_|refine zo rfl rfl trivial ?_)
  refine o_bool [0, 1, 2, 7, 9] [ptr g.p, I i, I j, ptr ba, ptr bb] 50 (decide (b.k = 8 ∧ b.o = a.t)) (fun w' => w' = w7) ?_ ?_
  · refine o_load (b := bb) (off := 0) (v := I b.k) rfl hB rfl rfl rfl rfl rfl ?_
    (repeat refine zo rfl rfl trivial ?_)
    by_cases q : b.k = 8
    · refine o_is true 3 true rfl rfl rfl (by simp [q]) ?_
      (repeat refine zo rfl rfl trivial ?_)
      refine o_load (b := bb) (off := 2) (v := I b.o) rfl hB rfl rfl rfl rfl rfl ?_
      (repeat refine zo rfl rfl trivial ?_)
      refine o_load (b := ba) (off := 1) (v := I a.t) rfl hA rfl rfl rfl rfl rfl ?_
      (repeat first|refine zo rfl rfl trivial ?_|refine zn ?_)
      exact ⟨rfl, ⟨_, rfl, by simp [q]⟩, rfl⟩
    · refine o_is false 3 true rfl rfl rfl (by simp [q]) ?_
      (repeat first|refine zo rfl rfl trivial ?_|refine zn ?_)
      exact ⟨rfl, ⟨_, rfl, by simp [q]⟩, rfl⟩
  rintro e w8 rfl
  refine r_if rfl (fun c3 => ?_) (fun c3 => ?_)
  · (repeat first|refine zA ?_|refine zg ?_|refine zo rfl rfl trivial ?_|refine zn ?_|refine zr ?_)
    exact ⟨_, rfl, by unfold whyEv; rw [if_neg c1, if_neg c2, if_pos c3], kk⟩
  (repeat first|refine zA ?_|refine zg ?_|refine zo rfl rfl trivial ?_)
  refine o_load (b := ba) (off := 2) (v := I a.o) rfl hA rfl rfl rfl rfl rfl ?_
  (repeat refine zo rfl rfl trivial ?_)
  refine o_load (b := bb) (off := 2) (v := I b.o) rfl hB rfl rfl rfl rfl rfl ?_
  (repeat first|refine zo rfl rfl trivial ?_|refine zn ?_)
  by_cases c4 : a.o = b.o
  rotate_left
  · refine r_yes rfl (by simp [c4]) ?_
    (repeat first|refine zA ?_|refine zg ?_|refine zo rfl rfl trivial ?_|refine zn ?_|refine zr ?_)
    exact ⟨_, rfl, by unfold whyEv; rw [if_neg c1, if_neg c2, if_neg c3, if_pos c4], kk⟩
  refine r_no rfl (by simp [c4]) ?_
  have hw : whyEv a b x y = if a.k = 6 ∧ b.k = 5 then 2 else if a.k = 4 ∧ b.k = 3 then 3 else if a.k = 9 ∧ b.k = 10 then (if x = y then 6 else 0) else 0 := by
    unfold whyEv; rw [if_neg c1, if_neg c2, if_neg c3, if_neg (fun h => h c4)]
  rw [hw]
  (repeat first|refine zA ?_|refine zB ?_|refine zg ?_|refine zo rfl rfl trivial ?_|refine zk ?_)
  refine o_load (b := ba) (off := 0) (v := I a.k) rfl hA rfl rfl rfl rfl rfl ?_
  (repeat refine zo rfl rfl trivial ?_)
  refine o_load (b := bb) (off := 0) (v := I b.k) rfl hB rfl rfl rfl rfl rfl ?_
  refine o_buildA [I a.k, I b.k] rfl rfl rfl rfl rfl rfl rfl ?_
  (repeat first|refine zA ?_|refine zg ?_|refine zn ?_|refine zb ?_)
  refine o_buildA [I 6, I 5] rfl rfl rfl rfl rfl rfl rfl ?_
  refine o_eqA a.k b.k 6 5 rfl rfl rfl rfl rfl rfl (by kernel_rfl) rfl rfl ?_
  (repeat first|refine zo rfl rfl trivial ?_|refine zn ?_)
  have heq : ∀ p q : Int, eqInts [a.k, b.k] [p, q] = decide (a.k = p ∧ b.k = q) := fun p q => by
    rw [Bool.eq_iff_iff, eqInts_iff, decide_eq_true_eq]; simp
  rw [heq]
  refine r_if rfl (fun c5 => ?_) (fun c5 => ?_)
  · (repeat first|refine zA ?_|refine zg ?_|refine zo rfl rfl trivial ?_|refine zn ?_|refine zr ?_)
    exact ⟨_, rfl, by rw [if_pos c5], kk⟩
  (repeat first|refine zA ?_|refine zg ?_)
  refine o_buildA [I 4, I 3] rfl rfl rfl rfl rfl rfl rfl ?_
  refine o_eqA a.k b.k 4 3 rfl rfl rfl rfl rfl rfl (by kernel_rfl) rfl rfl ?_
  (repeat first|refine zo rfl rfl trivial ?_|refine zn ?_)
  rw [heq]
  refine r_if rfl (fun c6 => ?_) (fun c6 => ?_)
  · (repeat first|refine zA ?_|refine zg ?_|refine zo rfl rfl trivial ?_|refine zn ?_|refine zr ?_)
    exact ⟨_, rfl, by rw [if_neg c5, if_pos c6], kk⟩
  (repeat first|refine zA ?_|refine zg ?_)
  refine o_buildA [I 9, I 10] rfl rfl rfl rfl rfl rfl rfl ?_
  refine o_eqA a.k b.k 9 10 rfl rfl rfl rfl rfl rfl (by kernel_rfl) rfl rfl ?_
  (repeat first|refine zo rfl rfl trivial ?_|refine zn ?_)
  rw [heq]
  refine r_if rfl (fun c7 => ?_) (fun c7 => ?_)
  · refine r_seq ?_
    refine r_quietS follows_mixed (by kernel_rfl) ?_
    (repeat refine yo rfl rfl trivial ?_)
    refine q_load (v := .slice (some ⟨rb, ro, none⟩) R.length g.rcap) rfl (fun w hs => (hs.blk hh).cell rfl) rfl rfl rfl rfl ?_
    have hlr := h6.lr
    (repeat refine yo rfl rfl (by first|exact trivial|(simp only[AllP];omega)) ?_)
    refine q_load (b := rb) (off := ro + i.toNat) (v := I x) rfl (fun w hs => hri w (hs.kp [])) rfl rfl rfl rfl ?_
    (repeat refine yo rfl rfl trivial ?_)
    refine q_load (v := .slice (some ⟨rb, ro, none⟩) R.length g.rcap) rfl (fun w hs => (hs.blk hh).cell rfl) rfl rfl rfl rfl ?_
    (repeat refine yo rfl rfl (by first|exact trivial|(simp only[AllP];omega)) ?_)
    refine q_load (b := rb) (off := ro + j.toNat) (v := I y) rfl (fun w hs => hrj w (hs.kp [])) rfl rfl rfl rfl ?_
    (repeat first|refine yo rfl rfl trivial ?_|refine yn ?_)
    intro w9 hs9
    refine r_if rfl (fun c8 => ?_) (fun c8 => ?_)
    · (repeat first|refine zA ?_|refine zg ?_|refine zo rfl rfl trivial ?_|refine zn ?_|refine zr ?_)
      exact ⟨_, rfl, by rw [if_neg c5, if_neg c6, if_pos c7, if_pos c8], kk.trans (hs9.kp [])⟩
    · (repeat first|refine zA ?_|refine zg ?_|refine zo rfl rfl trivial ?_|refine zn ?_|refine zr ?_|refine zk ?_)
      exact ⟨_, rfl, by rw [if_neg c5, if_neg c6, if_pos c7, if_neg c8], kk.trans (hs9.kp [])⟩
  · (repeat first|refine zA ?_|refine zg ?_|refine zo rfl rfl trivial ?_|refine zn ?_|refine zr ?_|refine zk ?_)
    exact ⟨_, rfl, by rw [if_neg c5, if_neg c6, if_neg c7], kk⟩
end
end Go.Vc
/- order: an order in memory; Before, Aside, Past. -/
namespace Go.Vc
open Go Go.Proofs
set_option maxRecDepth 10000
variable {w : World}
def OrG.F (g : OrG) : List Nat := g.p :: (blkOf g.ead ++ (blkOf g.rad ++ relBlks g.rp g.mad g.bs))
structure OrAt (w : World) (g : OrG) (E : List Ev) (R : List Int) : Prop extends OrB w g E R where
  rel : ZAt w g.rp E.length g.bs g.M g.mad g.mcap
  bits : ∀ i j, bitM g.M i j = true ↔ Ch (lk E R) i j
  fl : ∀ b, b ∈ g.F → b < w.heap.size
theorem OrAt.kp {w' : World} {S : List Nat} {g : OrG} {E : List Ev} {R : List Int} (h : OrAt w g E R) (hk : Kp S w w') (hS : ∀ b, b ∈ g.F → b ∉ S) : OrAt w' g E R :=
  ⟨h.toOrB.kp hk (fun b hb => hS b (by
    simp only [OrG.F, List.mem_cons, List.mem_append] at hb ⊢
    rcases hb with rfl | hb | hb
    · exact .inl rfl
    · exact .inr (.inl hb)
    · exact .inr (.inr (.inl hb)))), h.rel.kp hk (fun b hb => hS b (by simp [OrG.F, hb])), h.bits, fun b hb => Nat.lt_of_lt_of_le (h.fl b hb) hk.size⟩
theorem OrAt.kp0 {w' : World} {g : OrG} {E : List Ev} {R : List Int} (h : OrAt w g E R) (hk : Kp [] w w') : OrAt w' g E R := h.kp hk (by simp)
theorem OrAt.sm {w' : World} {g : OrG} {E : List Ev} {R : List Int} (h : OrAt w g E R) (hk : Sm w w') : OrAt w' g E R := h.kp0 (hk.kp [])
section
variable {g : OrG} {E : List Ev} {R : List Int}
theorem befI_linked (h : OrAt w g E R) (i j : Int) : linkedB E.length g.M i j = befI E R i j := by
  rw [Bool.eq_iff_iff, befI_iff]
  unfold linkedB nodeB
  simp only [Bool.and_eq_true, decide_eq_true_eq, h.bits]
  constructor
  · rintro ⟨⟨⟨a, _⟩, b, _⟩, c⟩; exact ⟨a, b, c⟩
  · rintro ⟨a, b, c⟩
    have := ch_lt c
    exact ⟨⟨⟨a, by omega⟩, b, by omega⟩, c⟩
theorem oBefore_ret (h : OrAt w g E R) (i j : Int) : Ret Tryz.prog 188 [ptr g.p, I i, I j] w (fun v w' => v = .bool (befI E R i j) ∧ w' = w) := by
  have hsm := h.small
  refine enter Tryz.call188 Tryz.func188 rfl rfl rfl rfl ?_
  (repeat first|refine zA ?_|refine zg ?_|refine zo rfl rfl trivial ?_|refine zn ?_)
  refine o_call (oLen_ret h.toOrB) rfl rfl rfl ?_
  rintro v w1 ⟨rfl, rfl⟩
  (repeat refine zo rfl rfl trivial ?_)
  by_cases h0 : 0 < E.length
  · refine o_is true 3 true rfl rfl rfl (decide_eq_true (by omega)) ?_
    (repeat refine zo rfl rfl trivial ?_)
    refine o_load rfl h.hdr rfl rfl rfl rfl rfl ?_
    (repeat refine zo rfl rfl trivial ?_)
    refine o_call (zLinked_ret h.rel i j) rfl rfl rfl ?_
    rintro v w1 ⟨rfl, rfl⟩
    (repeat first|refine zo rfl rfl trivial ?_|refine zn ?_|refine zr ?_)
    exact ⟨_, rfl, by rw [befI_linked h], rfl⟩
  · refine o_is false 3 true rfl rfl rfl (decide_eq_false (by omega)) ?_
    (repeat first|refine zo rfl rfl trivial ?_|refine zn ?_|refine zr ?_)
    refine ⟨_, rfl, ?_, rfl⟩
    have : befI E R i j = false := by
      rw [Bool.eq_false_iff]
      intro hb
      have := befI_lt hb; omega
    rw [this]
noncomputable def asideB (E : List Ev) (R : List Int) (i j : Int) : Bool := decide (0 ≤ i ∧ i < E.length) && (decide (0 ≤ j ∧ j < E.length) && (decide (i ≠ j) && (!befI E R i j && !befI E R j i)))
theorem oAside_ret (h : OrAt w g E R) (i j : Int) : Ret Tryz.prog 199 [ptr g.p, I i, I j] w (fun v w' => v = .bool (asideB E R i j) ∧ Kp [] w w') := by
  refine enter Tryz.call199 Tryz.func199 rfl rfl rfl rfl ?_
  (repeat first|refine zA ?_|refine zg ?_|refine zo rfl rfl trivial ?_|refine zn ?_)
  refine o_call (oEvent_ret h.toOrB i) rfl rfl rfl ?_
  rintro v w1 ⟨rfl, k1⟩
  have h1 := h.kp0 k1
  (repeat refine zo rfl rfl trivial ?_)
  refine o_alloc rfl rfl rfl rfl ?_
  intro ba w2 hba hu2
  refine o_storeA (cs := evC (evI E i)) rfl hu2.blk (Nat.le_refl _) rfl (by simp [Value.oneCell']) rfl rfl rfl rfl ?_
  intro w3 hu3
  have k3 : Kp [] w1 w3 := (hu2.kp [] (.inr (by omega))).since (hu3.kp [ba] (.inl (by simp))) (by simp; omega)
  have h3 := h1.kp0 k3
  (repeat first|refine zA ?_|refine zg ?_|refine zo rfl rfl trivial ?_|refine zn ?_)
  refine o_call (oEvent_ret h3.toOrB j) rfl rfl rfl ?_
  rintro v w4 ⟨rfl, k4⟩
  have h4 := h3.kp0 k4
  (repeat refine zo rfl rfl trivial ?_)
  refine o_alloc rfl rfl rfl rfl ?_
  intro bb w5 hbb hu5
  refine o_storeA (cs := evC (evI E j)) rfl hu5.blk (Nat.le_refl _) rfl (by simp [Value.oneCell']) rfl rfl rfl rfl ?_
  intro w6 hu6
  have k6 : Kp [] w4 w6 := (hu5.kp [] (.inr (by omega))).since (hu6.kp [bb] (.inl (by simp))) (by simp; omega)
  have h6 := h4.kp0 k6
  have kk : Kp [] w w6 := ((k1.trans k3).trans k4).trans k6
  (repeat first|refine zA ?_|refine zg ?_|refine zo rfl rfl trivial ?_|refine zn ?_)
  unfold asideB
  by_cases hi : 0 ≤ i ∧ i < E.length
  rotate_left
  · rw [decide_eq_false hi]
    (repeat first|refine zo rfl rfl trivial ?_|refine zn ?_|refine zr ?_|refine zU rfl rfl rfl ?_)
    exact ⟨_, rfl, rfl, kk⟩
  rw [decide_eq_true hi]
  (repeat first|refine zo rfl rfl trivial ?_|refine zT rfl rfl rfl ?_)
  by_cases hj : 0 ≤ j ∧ j < E.length
  rotate_left
  · rw [decide_eq_false hj]
    (repeat first|refine zo rfl rfl trivial ?_|refine zn ?_|refine zr ?_|refine zU rfl rfl rfl ?_)
    exact ⟨_, rfl, rfl, kk⟩
  rw [decide_eq_true hj]
  (repeat first|refine zo rfl rfl trivial ?_|refine zT rfl rfl rfl ?_)
  by_cases hij : i = j
  · refine o_is false 9 true rfl rfl rfl (by simp [hij]) ?_
    (repeat first|refine zo rfl rfl trivial ?_|refine zn ?_|refine zr ?_|refine zU rfl rfl rfl ?_)
    exact ⟨_, rfl, by simp [hij], kk⟩
  refine o_is true 9 true rfl rfl rfl (by simp [hij]) ?_
  rw [decide_eq_true (show i ≠ j from hij)]
  (repeat refine zo rfl rfl trivial ?_)
  refine o_call (oBefore_ret h6 i j) rfl rfl rfl ?_
  rintro v w7 ⟨rfl, rfl⟩
  cases hb : befI E R i j with
  | true =>
    (repeat first|refine zo rfl rfl trivial ?_|refine zn ?_|refine zr ?_|refine zU rfl rfl rfl ?_)
    exact ⟨_, rfl, rfl, kk⟩
  | false =>
    (repeat first|refine zo rfl rfl trivial ?_|refine zT rfl rfl rfl ?_)
    refine o_call (oBefore_ret h6 j i) rfl rfl rfl ?_
    rintro v w7 ⟨rfl, rfl⟩
    (repeat first|refine zo rfl rfl trivial ?_|refine zn ?_|refine zr ?_)
    exact ⟨_, rfl, rfl, kk⟩
end
end Go.Vc
