/- order: the plain model; Len, Event, Why. -/
import Derived.Test.YtkgjibhbhddckaaQClStrict12
import Derived.Test.YtkgjibhbhddckaaQClStrict16
import Derived.Test.YtkgjibhbhddckaaQClStrict25
namespace Go.Vc
open Go Go.Proofs
set_option maxRecDepth 10000
variable {w : World}
/-! ### The model -/
def evA (E : List Ev) (i : Nat) : Ev := (E[i]?).getD ⟨0, 0, 0⟩
def roA (R : List Int) (i : Nat) : Int := (R[i]?).getD 0
def whyEv (a b : Ev) (x y : Int) : Int :=
  if a.t = b.t then 1
  else if a.k = 7 ∧ a.o = b.t then 4
  else if b.k = 8 ∧ b.o = a.t then 5
  else if a.o ≠ b.o then 0
  else if a.k = 6 ∧ b.k = 5 then 2
  else if a.k = 4 ∧ b.k = 3 then 3
  else if a.k = 9 ∧ b.k = 10 then (if x = y then 6 else 0)
  else 0
def whyI (E : List Ev) (R : List Int) (i j : Int) : Int := if 0 ≤ i ∧ i < j ∧ j < E.length then whyEv (evA E i.toNat) (evA E j.toNat) (roA R i.toNat) (roA R j.toNat) else 0
def lk (E : List Ev) (R : List Int) (i j : Nat) : Prop := whyI E R i j ≠ 0
instance (E : List Ev) (R : List Int) (i j : Nat) : Decidable (lk E R i j) := inferInstanceAs (Decidable (_ ≠ _))
theorem lk_lt {E : List Ev} {R : List Int} {i j : Nat} (h : lk E R i j) : i < j ∧ j < E.length := by
  unfold lk whyI at h
  by_cases hc : 0 ≤ (i : Int) ∧ (i : Int) < j ∧ (j : Int) < E.length
  · omega
  · rw [if_neg hc] at h; exact absurd rfl h
theorem ch_lt {E : List Ev} {R : List Int} {i j : Nat} (h : Ch (lk E R) i j) : i < j ∧ j < E.length := by
  induction h with
  | one h => exact lk_lt h
  | more h _ ih => have := lk_lt h; omega
open Classical in
noncomputable def befI (E : List Ev) (R : List Int) (i j : Int) : Bool := decide (0 ≤ i ∧ 0 ≤ j ∧ Ch (lk E R) i.toNat j.toNat)
open Classical in
theorem befI_iff {E : List Ev} {R : List Int} {i j : Int} : befI E R i j = true ↔ (0 ≤ i ∧ 0 ≤ j ∧ Ch (lk E R) i.toNat j.toNat) := @decide_eq_true_iff _ _
theorem befI_nat {E : List Ev} {R : List Int} {i j : Nat} : befI E R i j = true ↔ Ch (lk E R) i j := by
  rw [befI_iff, Int.toNat_natCast, Int.toNat_natCast]
  exact ⟨fun h => h.2.2, fun h => ⟨by omega, by omega, h⟩⟩
theorem befI_lt {E : List Ev} {R : List Int} {i j : Int} (h : befI E R i j = true) : 0 ≤ i ∧ i < j ∧ j < E.length := by
  rw [befI_iff] at h
  have := ch_lt h.2.2
  omega
/-! ### In memory -/
structure OrG where
  p : Nat
  ead : Option Addr
  ecap : Nat
  rad : Option Addr
  rcap : Nat
  rp : Nat
  bs : List Nat
  M : List (List Nat)
  mad : Option Addr
  mcap : Nat
structure OrB (w : World) (g : OrG) (E : List Ev) (R : List Int) : Prop where
  hdr : Blk w g.p [.slice g.ead E.length g.ecap, .slice g.rad R.length g.rcap, ptr g.rp] 84
  ev : ReadS w g.ead (evsC E)
  ro : ReadS w g.rad (R.map I)
  lr : R.length = E.length
  small : E.length ≤ 2048
theorem OrB.kp {w' : World} {S : List Nat} {g : OrG} {E : List Ev} {R : List Int} (h : OrB w g E R) (hk : Kp S w w') (hS : ∀ b, b ∈ g.p :: (blkOf g.ead ++ blkOf g.rad) → b ∉ S) : OrB w' g E R :=
  ⟨hk.blk (hS _ (by simp)) h.hdr, h.ev.kp hk (fun b hb => hS b (by simp [hb])), h.ro.kp hk (fun b hb => hS b (by simp [hb])), h.lr, h.small⟩
theorem OrB.kp0 {w' : World} {g : OrG} {E : List Ev} {R : List Int} (h : OrB w g E R) (hk : Kp [] w w') : OrB w' g E R := h.kp hk (by simp)
theorem OrB.sm {w' : World} {g : OrG} {E : List Ev} {R : List Int} (h : OrB w g E R) (hk : Sm w w') : OrB w' g E R := h.kp0 (hk.kp [])
def evI (E : List Ev) (i : Int) : Ev := if 0 ≤ i ∧ i < E.length then evA E i.toNat else ⟨0, 0, 0⟩
section
variable {g : OrG} {E : List Ev} {R : List Int}
theorem OrB.evat (h : OrB w g E R) {i : Int} (h0 : 0 ≤ i) (h1 : i < E.length) : ∃ b off, g.ead = some ⟨b, off, none⟩ ∧ ∀ w', Kp [] w w' → ∀ j v, (evC (evA E i.toNat))[j]? = some v → w'.cell? ⟨b, off + i.toNat * 3 + j, none⟩ = some v := by
  obtain ⟨b, off, he, hb, hcell⟩ := h.ev.at_ (by rw [evsC_len]; omega)
  refine ⟨b, off, he, fun w' hk j v hv => ?_⟩
  have hx : E[i.toNat]? = some (evA E i.toNat) := by unfold evA; rw [List.getElem?_eq_getElem (by omega)]; rfl
  rw [Nat.add_assoc, ← hcell _ _ (evsC_get hx j v hv)]
  exact World.cell?_of_block (hk.at_ b hb (by simp))
theorem OrB.roat (h : OrB w g E R) {i : Int} (h0 : 0 ≤ i) (h1 : i < E.length) : ∃ b off, g.rad = some ⟨b, off, none⟩ ∧ ∀ w', Kp [] w w' → w'.cell? ⟨b, off + i.toNat, none⟩ = some (I (roA R i.toNat)) := by
  have := h.lr
  obtain ⟨b, off, he, hb, hcell⟩ := h.ro.at_ (by simp; omega)
  refine ⟨b, off, he, fun w' hk => ?_⟩
  rw [← hcell i.toNat (I (roA R i.toNat)) (by rw [List.getElem?_map]; unfold roA; rw [List.getElem?_eq_getElem (by omega)]; rfl)]
  exact World.cell?_of_block (hk.at_ b hb (by simp))
theorem oLen_ret (h : OrB w g E R) : Ret Try.prog 18 [ptr g.p] w (fun v w' => v = I E.length ∧ w' = w) := by
  refine enter Try.call18 Try.func18 rfl rfl rfl rfl ?_
  (repeat first|refine zA ?_|refine zB ?_|refine zC ?_|refine zD ?_|refine zE ?_|refine zg ?_|refine zo rfl rfl (by first|exact trivial|(simp only[AllP];omega)|(simp(discharger:=omega)only[AllP,cA,cB];omega)|(simp only[AllP,cC,cD,cE,cF,cG];omega)) ?_|refine zn ?_|refine zb ?_|refine ze rfl ?_|refine zr ?_|refine zk ?_|refine zT rfl rfl rfl ?_|refine zU rfl rfl rfl ?_|refine zV rfl rfl rfl ?_|refine zf rfl ?_|refine zt rfl ?_)
  refine o_load rfl h.hdr rfl rfl rfl rfl rfl ?_
  (repeat first|refine zA ?_|refine zB ?_|refine zC ?_|refine zD ?_|refine zE ?_|refine zg ?_|refine zo rfl rfl (by first|exact trivial|(simp only[AllP];omega)|(simp(discharger:=omega)only[AllP,cA,cB];omega)|(simp only[AllP,cC,cD,cE,cF,cG];omega)) ?_|refine zn ?_|refine zb ?_|refine ze rfl ?_|refine zr ?_|refine zk ?_|refine zT rfl rfl rfl ?_|refine zU rfl rfl rfl ?_|refine zV rfl rfl rfl ?_|refine zf rfl ?_|refine zt rfl ?_)
  exact ⟨_, rfl, rfl, rfl⟩
theorem oLen_nil : Ret Try.prog 18 [.pointer none] w (fun v w' => v = I 0 ∧ w' = w) := by
  refine enter Try.call18 Try.func18 rfl rfl rfl rfl ?_
  (repeat first|refine zA ?_|refine zB ?_|refine zC ?_|refine zD ?_|refine zE ?_|refine zg ?_|refine zo rfl rfl (by first|exact trivial|(simp only[AllP];omega)|(simp(discharger:=omega)only[AllP,cA,cB];omega)|(simp only[AllP,cC,cD,cE,cF,cG];omega)) ?_|refine zn ?_|refine zb ?_|refine ze rfl ?_|refine zr ?_|refine zk ?_|refine zT rfl rfl rfl ?_|refine zU rfl rfl rfl ?_|refine zV rfl rfl rfl ?_|refine zf rfl ?_|refine zt rfl ?_)
  exact ⟨_, rfl, rfl, rfl⟩
theorem oEvent_ret (h : OrB w g E R) (i : Int) : Ret Try.prog 35 [ptr g.p, I i] w (fun v w' => v = .tuple #[.agg ⟨evC (evI E i)⟩, .bool (decide (0 ≤ i ∧ i < E.length))] ∧ Kp [] w w') := by
  refine enterC Try.call35 Try.func35 rfl rfl rfl rfl ?_
  (repeat first|refine zA ?_|refine zB ?_|refine zC ?_|refine zD ?_|refine zE ?_|refine zg ?_|refine zo rfl rfl (by first|exact trivial|(simp only[AllP];omega)|(simp(discharger:=omega)only[AllP,cA,cB];omega)|(simp only[AllP,cC,cD,cE,cF,cG];omega)) ?_|refine zn ?_|refine zb ?_|refine ze rfl ?_|refine zr ?_|refine zk ?_|refine zT rfl rfl rfl ?_|refine zU rfl rfl rfl ?_|refine zV rfl rfl rfl ?_|refine zf rfl ?_|refine zt rfl ?_)
  refine o_alloc rfl rfl rfl rfl ?_
  intro bs w1 hbs hu1
  have k1 : Kp [] w w1 := hu1.kp [] (.inr (by omega))
  have h1 := h.kp0 k1
  (repeat first|refine zA ?_|refine zB ?_|refine zC ?_|refine zD ?_|refine zE ?_|refine zg ?_|refine zo rfl rfl (by first|exact trivial|(simp only[AllP];omega)|(simp(discharger:=omega)only[AllP,cA,cB];omega)|(simp only[AllP,cC,cD,cE,cF,cG];omega)) ?_|refine zn ?_|refine zb ?_|refine ze rfl ?_|refine zr ?_|refine zk ?_|refine zT rfl rfl rfl ?_|refine zU rfl rfl rfl ?_|refine zV rfl rfl rfl ?_|refine zf rfl ?_|refine zt rfl ?_)
  by_cases hin : 0 ≤ i ∧ i < E.length
  · obtain ⟨b, off, he, hcell⟩ := h1.evat hin.1 hin.2
    have hh := h1.hdr
    rw [he] at hh
    refine o_is false 2 false rfl rfl rfl (by simp; omega) ?_
    (repeat first|refine zA ?_|refine zB ?_|refine zC ?_|refine zD ?_|refine zE ?_|refine zg ?_|refine zo rfl rfl (by first|exact trivial|(simp only[AllP];omega)|(simp(discharger:=omega)only[AllP,cA,cB];omega)|(simp only[AllP,cC,cD,cE,cF,cG];omega)) ?_|refine zn ?_|refine zb ?_|refine ze rfl ?_|refine zr ?_|refine zk ?_|refine zT rfl rfl rfl ?_|refine zU rfl rfl rfl ?_|refine zV rfl rfl rfl ?_|refine zf rfl ?_|refine zt rfl ?_)
    refine o_call (oLen_ret h1) rfl rfl rfl ?_
    rintro v wx ⟨rfl, rfl⟩
    (repeat first|refine zA ?_|refine zB ?_|refine zC ?_|refine zD ?_|refine zE ?_|refine zg ?_|refine zo rfl rfl (by first|exact trivial|(simp only[AllP];omega)|(simp(discharger:=omega)only[AllP,cA,cB];omega)|(simp only[AllP,cC,cD,cE,cF,cG];omega)) ?_|refine zn ?_|refine zb ?_|refine ze rfl ?_|refine zr ?_|refine zk ?_|refine zT rfl rfl rfl ?_|refine zU rfl rfl rfl ?_|refine zV rfl rfl rfl ?_|refine zf rfl ?_|refine zt rfl ?_)
    refine r_no rfl (by simp; omega) ?_
    (repeat first|refine zA ?_|refine zB ?_|refine zC ?_|refine zD ?_|refine zE ?_|refine zg ?_|refine zo rfl rfl (by first|exact trivial|(simp only[AllP];omega)|(simp(discharger:=omega)only[AllP,cA,cB];omega)|(simp only[AllP,cC,cD,cE,cF,cG];omega)) ?_|refine zn ?_|refine zb ?_|refine ze rfl ?_|refine zr ?_|refine zk ?_|refine zT rfl rfl rfl ?_|refine zU rfl rfl rfl ?_|refine zV rfl rfl rfl ?_|refine zf rfl ?_|refine zt rfl ?_)
    refine o_load (v := .slice (some ⟨b, off, none⟩) E.length g.ecap) rfl hh rfl rfl rfl rfl rfl ?_
    (repeat first|refine zA ?_|refine zB ?_|refine zC ?_|refine zD ?_|refine zE ?_|refine zg ?_|refine zo rfl rfl (by first|exact trivial|(simp only[AllP];omega)|(simp(discharger:=omega)only[AllP,cA,cB];omega)|(simp only[AllP,cC,cD,cE,cF,cG];omega)) ?_|refine zn ?_|refine zb ?_|refine ze rfl ?_|refine zr ?_|refine zk ?_|refine zT rfl rfl rfl ?_|refine zU rfl rfl rfl ?_|refine zV rfl rfl rfl ?_|refine zf rfl ?_|refine zt rfl ?_)
    refine o_loadA (b := b) (off := off + i.toNat * 3) (vs := evC (evA E i.toNat)) rfl (hcell _ (Kp.refl _ _)) rfl rfl rfl rfl rfl rfl ?_
    (repeat first|refine zA ?_|refine zB ?_|refine zC ?_|refine zD ?_|refine zE ?_|refine zg ?_|refine zo rfl rfl (by first|exact trivial|(simp only[AllP];omega)|(simp(discharger:=omega)only[AllP,cA,cB];omega)|(simp only[AllP,cC,cD,cE,cF,cG];omega)) ?_|refine zn ?_|refine zb ?_|refine ze rfl ?_|refine zr ?_|refine zk ?_|refine zT rfl rfl rfl ?_|refine zU rfl rfl rfl ?_|refine zV rfl rfl rfl ?_|refine zf rfl ?_|refine zt rfl ?_)
    refine o_storeA (cs := evC (evA E i.toNat)) rfl hu1.blk (Nat.le_refl _) rfl (by simp [Value.oneCell']) rfl rfl rfl rfl ?_
    intro w4 hu4
    have k4 : Kp [] w w4 := k1.since (hu4.kp [bs] (.inl (by simp))) (by simp; omega)
    have hB4 : Blk w4 bs (evC (evA E i.toNat)) 59 := hu4.blk
    (repeat first|refine zA ?_|refine zB ?_|refine zC ?_|refine zD ?_|refine zE ?_|refine zg ?_|refine zo rfl rfl (by first|exact trivial|(simp only[AllP];omega)|(simp(discharger:=omega)only[AllP,cA,cB];omega)|(simp only[AllP,cC,cD,cE,cF,cG];omega)) ?_|refine zn ?_|refine zb ?_|refine ze rfl ?_|refine zr ?_|refine zk ?_|refine zT rfl rfl rfl ?_|refine zU rfl rfl rfl ?_|refine zV rfl rfl rfl ?_|refine zf rfl ?_|refine zt rfl ?_)
    exact ⟨[.agg ⟨evC (evA E i.toNat)⟩, _], ⟨⟨_, rfl, run_loadB hB4 rfl rfl rfl rfl⟩, ⟨_, rfl⟩, trivial⟩, by unfold evI; rw [if_pos hin, decide_eq_true hin]; rfl, k4⟩
  · have fin : ∀ w4, Upd w1 bs (.cells ⟨evC ⟨0, 0, 0⟩⟩ 59 (0, 0)) w4 → Kp [] w w4 := fun w4 hu4 => k1.since (hu4.kp [bs] (.inl (by simp))) (by simp; omega)
    by_cases h0 : i < 0
    · refine o_is true 2 false rfl rfl rfl (by simp; omega) ?_
      (repeat first|refine zA ?_|refine zB ?_|refine zC ?_|refine zD ?_|refine zE ?_|refine zg ?_|refine zo rfl rfl (by first|exact trivial|(simp only[AllP];omega)|(simp(discharger:=omega)only[AllP,cA,cB];omega)|(simp only[AllP,cC,cD,cE,cF,cG];omega)) ?_|refine zn ?_|refine zb ?_|refine ze rfl ?_|refine zr ?_|refine zk ?_|refine zT rfl rfl rfl ?_|refine zU rfl rfl rfl ?_|refine zV rfl rfl rfl ?_|refine zf rfl ?_|refine zt rfl ?_)
      refine o_build [I 0, I 0, I 0] rfl rfl rfl rfl rfl rfl rfl ?_
      refine o_storeA (cs := [I 0, I 0, I 0]) rfl hu1.blk (Nat.le_refl _) rfl (by simp [Value.oneCell']) rfl rfl rfl rfl ?_
      intro w4 hu4
      have hB4 : Blk w4 bs (evC ⟨0, 0, 0⟩) 59 := hu4.blk
      (repeat first|refine zA ?_|refine zB ?_|refine zC ?_|refine zD ?_|refine zE ?_|refine zg ?_|refine zo rfl rfl (by first|exact trivial|(simp only[AllP];omega)|(simp(discharger:=omega)only[AllP,cA,cB];omega)|(simp only[AllP,cC,cD,cE,cF,cG];omega)) ?_|refine zn ?_|refine zb ?_|refine ze rfl ?_|refine zr ?_|refine zk ?_|refine zT rfl rfl rfl ?_|refine zU rfl rfl rfl ?_|refine zV rfl rfl rfl ?_|refine zf rfl ?_|refine zt rfl ?_)
      exact ⟨[.agg ⟨evC ⟨0, 0, 0⟩⟩, _], ⟨⟨_, rfl, run_loadB hB4 rfl rfl rfl rfl⟩, ⟨_, rfl⟩, trivial⟩, by unfold evI; rw [if_neg hin, decide_eq_false hin]; rfl, fin w4 hu4⟩
    · refine o_is false 2 false rfl rfl rfl (by simp; omega) ?_
      (repeat first|refine zA ?_|refine zB ?_|refine zC ?_|refine zD ?_|refine zE ?_|refine zg ?_|refine zo rfl rfl (by first|exact trivial|(simp only[AllP];omega)|(simp(discharger:=omega)only[AllP,cA,cB];omega)|(simp only[AllP,cC,cD,cE,cF,cG];omega)) ?_|refine zn ?_|refine zb ?_|refine ze rfl ?_|refine zr ?_|refine zk ?_|refine zT rfl rfl rfl ?_|refine zU rfl rfl rfl ?_|refine zV rfl rfl rfl ?_|refine zf rfl ?_|refine zt rfl ?_)
      refine o_call (oLen_ret h1) rfl rfl rfl ?_
      rintro v wx ⟨rfl, rfl⟩
      (repeat first|refine zA ?_|refine zB ?_|refine zC ?_|refine zD ?_|refine zE ?_|refine zg ?_|refine zo rfl rfl (by first|exact trivial|(simp only[AllP];omega)|(simp(discharger:=omega)only[AllP,cA,cB];omega)|(simp only[AllP,cC,cD,cE,cF,cG];omega)) ?_|refine zn ?_|refine zb ?_|refine ze rfl ?_|refine zr ?_|refine zk ?_|refine zT rfl rfl rfl ?_|refine zU rfl rfl rfl ?_|refine zV rfl rfl rfl ?_|refine zf rfl ?_|refine zt rfl ?_)
      refine r_yes rfl (by simp; omega) ?_
      (repeat first|refine zA ?_|refine zB ?_|refine zC ?_|refine zD ?_|refine zE ?_|refine zg ?_|refine zo rfl rfl (by first|exact trivial|(simp only[AllP];omega)|(simp(discharger:=omega)only[AllP,cA,cB];omega)|(simp only[AllP,cC,cD,cE,cF,cG];omega)) ?_|refine zn ?_|refine zb ?_|refine ze rfl ?_|refine zr ?_|refine zk ?_|refine zT rfl rfl rfl ?_|refine zU rfl rfl rfl ?_|refine zV rfl rfl rfl ?_|refine zf rfl ?_|refine zt rfl ?_)
      refine o_build [I 0, I 0, I 0] rfl rfl rfl rfl rfl rfl rfl ?_
      refine o_storeA (cs := [I 0, I 0, I 0]) rfl hu1.blk (Nat.le_refl _) rfl (by simp [Value.oneCell']) rfl rfl rfl rfl ?_
      intro w4 hu4
      have hB4 : Blk w4 bs (evC ⟨0, 0, 0⟩) 59 := hu4.blk
      (repeat first|refine zA ?_|refine zB ?_|refine zC ?_|refine zD ?_|refine zE ?_|refine zg ?_|refine zo rfl rfl (by first|exact trivial|(simp only[AllP];omega)|(simp(discharger:=omega)only[AllP,cA,cB];omega)|(simp only[AllP,cC,cD,cE,cF,cG];omega)) ?_|refine zn ?_|refine zb ?_|refine ze rfl ?_|refine zr ?_|refine zk ?_|refine zT rfl rfl rfl ?_|refine zU rfl rfl rfl ?_|refine zV rfl rfl rfl ?_|refine zf rfl ?_|refine zt rfl ?_)
      exact ⟨[.agg ⟨evC ⟨0, 0, 0⟩⟩, _], ⟨⟨_, rfl, run_loadB hB4 rfl rfl rfl rfl⟩, ⟨_, rfl⟩, trivial⟩, by unfold evI; rw [if_neg hin, decide_eq_false hin]; rfl, fin w4 hu4⟩
end
end Go.Vc
