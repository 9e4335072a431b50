/- order: OrderNil. -/
import Derived.Test.YtkgjibhbhddckaaQClONil42
import Derived.Shelf.SlSortCmp.NoneTotal
import Derived.Test.YtkgjibhbhddckaaProg
import Derived.WalkKit
import Derived.ProofKit
namespace Go.Vc
open Go Go.Proofs
set_option maxRecDepth 10000
variable {w : World}
theorem none20_ret (hS : SortF) {p : Option Addr} (h : AbsO w p) : Ret Try.prog 46 [.pointer p] w (fun v w' => v = .bool true ∧ Kp [] w w') := by
  refine enter Try.call46 Try.func46 rfl rfl rfl rfl ?_
  (repeat first|refine zA ?_|refine zB ?_|refine zC ?_|refine zD ?_|refine zE ?_|refine zg ?_|refine zo rfl rfl (by first|exact trivial|(simp only[AllP];omega)|(simp(discharger:=omega)only[AllP,cA,cB];omega)|(simp only[AllP,cC,cD,cE,cF,cG];omega)) ?_|refine zn ?_|refine zb ?_|refine ze rfl ?_|refine zr ?_|refine zk ?_|refine zT rfl rfl rfl ?_|refine zU rfl rfl rfl ?_|refine zV rfl rfl rfl ?_|refine zf rfl ?_|refine zt rfl ?_)
  refine o_call (aEvent_ret h 0) rfl rfl rfl ?_
  rintro v w1 ⟨rfl, k1⟩
  (repeat first|refine zA ?_|refine zB ?_|refine zC ?_|refine zD ?_|refine zE ?_|refine zg ?_|refine zo rfl rfl (by first|exact trivial|(simp only[AllP];omega)|(simp(discharger:=omega)only[AllP,cA,cB];omega)|(simp only[AllP,cC,cD,cE,cF,cG];omega)) ?_|refine zn ?_|refine zb ?_|refine ze rfl ?_|refine zr ?_|refine zk ?_|refine zT rfl rfl rfl ?_|refine zU rfl rfl rfl ?_|refine zV rfl rfl rfl ?_|refine zf rfl ?_|refine zt rfl ?_)
  refine o_alloc rfl rfl rfl rfl ?_
  intro ba w2 hba hu2
  refine o_storeA (cs := [I 0, I 0, I 0]) rfl hu2.blk (Nat.le_refl _) rfl (by simp [Value.oneCell']) rfl rfl rfl rfl ?_
  intro w3 hu3
  have k3 : Kp [] w1 w3 := (hu2.kp [] (.inr (by omega))).since (hu3.kp [ba] (.inl (by simp))) (by simp; omega)
  have hA : Blk w3 ba [I 0, I 0, I 0] 59 := hu3.blk
  have k03 := k1.trans k3
  have hX : ∀ W, Kp [] w W → OX W p (blkOf p) [] [] := fun W k => .inl ⟨h.kp0 k, rfl, rfl, rfl⟩
  (repeat first|refine zA ?_|refine zB ?_|refine zC ?_|refine zD ?_|refine zE ?_|refine zg ?_|refine zo rfl rfl (by first|exact trivial|(simp only[AllP];omega)|(simp(discharger:=omega)only[AllP,cA,cB];omega)|(simp only[AllP,cC,cD,cE,cF,cG];omega)) ?_|refine zn ?_|refine zb ?_|refine ze rfl ?_|refine zr ?_|refine zk ?_|refine zT rfl rfl rfl ?_|refine zU rfl rfl rfl ?_|refine zV rfl rfl rfl ?_|refine zf rfl ?_|refine zt rfl ?_)
  refine o_call (xPair_ret (hX _ k03) 0) rfl rfl rfl ?_
  rintro v w4 ⟨rfl, k4⟩
  have e1 : pairV [] [] 0 = none := rfl
  rw [e1]
  simp only [Option.getD_none, Option.isSome_none]
  (repeat first|refine zA ?_|refine zB ?_|refine zC ?_|refine zD ?_|refine zE ?_|refine zg ?_|refine zo rfl rfl (by first|exact trivial|(simp only[AllP];omega)|(simp(discharger:=omega)only[AllP,cA,cB];omega)|(simp only[AllP,cC,cD,cE,cF,cG];omega)) ?_|refine zn ?_|refine zb ?_|refine ze rfl ?_|refine zr ?_|refine zk ?_|refine zT rfl rfl rfl ?_|refine zU rfl rfl rfl ?_|refine zV rfl rfl rfl ?_|refine zf rfl ?_|refine zt rfl ?_)
  refine o_alloc rfl rfl rfl rfl ?_
  intro bb w5 hbb hu5
  refine o_storeA (cs := [I 0, I 0, I 0]) rfl hu5.blk (Nat.le_refl _) rfl (by simp [Value.oneCell']) rfl rfl rfl rfl ?_
  intro w6 hu6
  have k6 : Kp [] w4 w6 := (hu5.kp [] (.inr (by omega))).since (hu6.kp [bb] (.inl (by simp))) (by simp; omega)
  have hB : Blk w6 bb [I 0, I 0, I 0] 53 := hu6.blk
  have k46 := k4.trans k6
  have k06 := k03.trans k46
  (repeat first|refine zA ?_|refine zB ?_|refine zC ?_|refine zD ?_|refine zE ?_|refine zg ?_|refine zo rfl rfl (by first|exact trivial|(simp only[AllP];omega)|(simp(discharger:=omega)only[AllP,cA,cB];omega)|(simp only[AllP,cC,cD,cE,cF,cG];omega)) ?_|refine zn ?_|refine zb ?_|refine ze rfl ?_|refine zr ?_|refine zk ?_|refine zT rfl rfl rfl ?_|refine zU rfl rfl rfl ?_|refine zV rfl rfl rfl ?_|refine zf rfl ?_|refine zt rfl ?_)
  refine o_call (xFirst_ret (hX _ k06)) rfl rfl rfl ?_
  rintro v w7 ⟨rfl, k7⟩
  have e2 : firstV [] [] = none := rfl
  rw [e2]
  simp only [Option.getD_none, Option.isSome_none]
  (repeat first|refine zA ?_|refine zB ?_|refine zC ?_|refine zD ?_|refine zE ?_|refine zg ?_|refine zo rfl rfl (by first|exact trivial|(simp only[AllP];omega)|(simp(discharger:=omega)only[AllP,cA,cB];omega)|(simp only[AllP,cC,cD,cE,cF,cG];omega)) ?_|refine zn ?_|refine zb ?_|refine ze rfl ?_|refine zr ?_|refine zk ?_|refine zT rfl rfl rfl ?_|refine zU rfl rfl rfl ?_|refine zV rfl rfl rfl ?_|refine zf rfl ?_|refine zt rfl ?_)
  refine o_alloc rfl rfl rfl rfl ?_
  intro bc w8 hbc hu8
  refine o_storeA (cs := [I 0, I 0, I 0]) rfl hu8.blk (Nat.le_refl _) rfl (by simp [Value.oneCell']) rfl rfl rfl rfl ?_
  intro w9 hu9
  have k9 : Kp [] w7 w9 := (hu8.kp [] (.inr (by omega))).since (hu9.kp [bc] (.inl (by simp))) (by simp; omega)
  have hC : Blk w9 bc [I 0, I 0, I 0] 53 := hu9.blk
  have k79 := k7.trans k9
  have k09 := k06.trans k79
  have hB := k79.blk (by simp) hB
  have hA := k79.blk (by simp) (k46.blk (by simp) hA)
  (repeat first|refine zA ?_|refine zB ?_|refine zC ?_|refine zD ?_|refine zE ?_|refine zg ?_|refine zo rfl rfl (by first|exact trivial|(simp only[AllP];omega)|(simp(discharger:=omega)only[AllP,cA,cB];omega)|(simp only[AllP,cC,cD,cE,cF,cG];omega)) ?_|refine zn ?_|refine zb ?_|refine ze rfl ?_|refine zr ?_|refine zk ?_|refine zT rfl rfl rfl ?_|refine zU rfl rfl rfl ?_|refine zV rfl rfl rfl ?_|refine zf rfl ?_|refine zt rfl ?_)
  refine o_call (aLen_ret (h.kp0 k09)) rfl rfl rfl ?_
  rintro v w10 ⟨rfl, rfl⟩
  (repeat first|refine zA ?_|refine zB ?_|refine zC ?_|refine zD ?_|refine zE ?_|refine zg ?_|refine zo rfl rfl (by first|exact trivial|(simp only[AllP];omega)|(simp(discharger:=omega)only[AllP,cA,cB];omega)|(simp only[AllP,cC,cD,cE,cF,cG];omega)) ?_|refine zn ?_|refine zb ?_|refine ze rfl ?_|refine zr ?_|refine zk ?_|refine zT rfl rfl rfl ?_|refine zU rfl rfl rfl ?_|refine zV rfl rfl rfl ?_|refine zf rfl ?_|refine zt rfl ?_)
  refine o_loadA (vs := [I 0, I 0, I 0]) rfl (fun j v hv => by rw [Nat.zero_add]; exact hA.cell hv) rfl rfl rfl rfl rfl rfl ?_
  (repeat first|refine zA ?_|refine zB ?_|refine zC ?_|refine zD ?_|refine zE ?_|refine zg ?_|refine zo rfl rfl (by first|exact trivial|(simp only[AllP];omega)|(simp(discharger:=omega)only[AllP,cA,cB];omega)|(simp only[AllP,cC,cD,cE,cF,cG];omega)) ?_|refine zn ?_|refine zb ?_|refine ze rfl ?_|refine zr ?_|refine zk ?_|refine zT rfl rfl rfl ?_|refine zU rfl rfl rfl ?_|refine zV rfl rfl rfl ?_|refine zf rfl ?_|refine zt rfl ?_)
  refine o_build [I 0, I 0, I 0] rfl rfl rfl rfl rfl rfl rfl ?_
  refine o_eqS [0, 0, 0] [0, 0, 0] rfl rfl (by kernel_rfl) (by kernel_rfl) (by kernel_rfl) (by kernel_rfl) (by kernel_rfl) (by kernel_rfl) rfl rfl ?_
  rw [show eqInts [0, 0, 0] [0, 0, 0] = true by decide]
  (repeat first|refine zA ?_|refine zB ?_|refine zC ?_|refine zD ?_|refine zE ?_|refine zg ?_|refine zo rfl rfl (by first|exact trivial|(simp only[AllP];omega)|(simp(discharger:=omega)only[AllP,cA,cB];omega)|(simp only[AllP,cC,cD,cE,cF,cG];omega)) ?_|refine zn ?_|refine zb ?_|refine ze rfl ?_|refine zr ?_|refine zk ?_|refine zT rfl rfl rfl ?_|refine zU rfl rfl rfl ?_|refine zV rfl rfl rfl ?_|refine zf rfl ?_|refine zt rfl ?_)
  refine o_loadA (vs := [I 0, I 0, I 0]) rfl (fun j v hv => by rw [Nat.zero_add]; exact hB.cell hv) rfl rfl rfl rfl rfl rfl ?_
  (repeat first|refine zA ?_|refine zB ?_|refine zC ?_|refine zD ?_|refine zE ?_|refine zg ?_|refine zo rfl rfl (by first|exact trivial|(simp only[AllP];omega)|(simp(discharger:=omega)only[AllP,cA,cB];omega)|(simp only[AllP,cC,cD,cE,cF,cG];omega)) ?_|refine zn ?_|refine zb ?_|refine ze rfl ?_|refine zr ?_|refine zk ?_|refine zT rfl rfl rfl ?_|refine zU rfl rfl rfl ?_|refine zV rfl rfl rfl ?_|refine zf rfl ?_|refine zt rfl ?_)
  refine o_build [I 0, I 0, I 0] rfl rfl rfl rfl rfl rfl rfl ?_
  refine o_eqS [0, 0, 0] [0, 0, 0] rfl rfl (by kernel_rfl) (by kernel_rfl) (by kernel_rfl) (by kernel_rfl) (by kernel_rfl) (by kernel_rfl) rfl rfl ?_
  rw [show eqInts [0, 0, 0] [0, 0, 0] = true by decide]
  (repeat first|refine zA ?_|refine zB ?_|refine zC ?_|refine zD ?_|refine zE ?_|refine zg ?_|refine zo rfl rfl (by first|exact trivial|(simp only[AllP];omega)|(simp(discharger:=omega)only[AllP,cA,cB];omega)|(simp only[AllP,cC,cD,cE,cF,cG];omega)) ?_|refine zn ?_|refine zb ?_|refine ze rfl ?_|refine zr ?_|refine zk ?_|refine zT rfl rfl rfl ?_|refine zU rfl rfl rfl ?_|refine zV rfl rfl rfl ?_|refine zf rfl ?_|refine zt rfl ?_)
  refine o_loadA (vs := [I 0, I 0, I 0]) rfl (fun j v hv => by rw [Nat.zero_add]; exact hC.cell hv) rfl rfl rfl rfl rfl rfl ?_
  (repeat first|refine zA ?_|refine zB ?_|refine zC ?_|refine zD ?_|refine zE ?_|refine zg ?_|refine zo rfl rfl (by first|exact trivial|(simp only[AllP];omega)|(simp(discharger:=omega)only[AllP,cA,cB];omega)|(simp only[AllP,cC,cD,cE,cF,cG];omega)) ?_|refine zn ?_|refine zb ?_|refine ze rfl ?_|refine zr ?_|refine zk ?_|refine zT rfl rfl rfl ?_|refine zU rfl rfl rfl ?_|refine zV rfl rfl rfl ?_|refine zf rfl ?_|refine zt rfl ?_)
  refine o_build [I 0, I 0, I 0] rfl rfl rfl rfl rfl rfl rfl ?_
  refine o_eqS [0, 0, 0] [0, 0, 0] rfl rfl (by kernel_rfl) (by kernel_rfl) (by kernel_rfl) (by kernel_rfl) (by kernel_rfl) (by kernel_rfl) rfl rfl ?_
  rw [show eqInts [0, 0, 0] [0, 0, 0] = true by decide]
  (repeat first|refine zA ?_|refine zB ?_|refine zC ?_|refine zD ?_|refine zE ?_|refine zg ?_|refine zo rfl rfl (by first|exact trivial|(simp only[AllP];omega)|(simp(discharger:=omega)only[AllP,cA,cB];omega)|(simp only[AllP,cC,cD,cE,cF,cG];omega)) ?_|refine zn ?_|refine zb ?_|refine ze rfl ?_|refine zr ?_|refine zk ?_|refine zT rfl rfl rfl ?_|refine zU rfl rfl rfl ?_|refine zV rfl rfl rfl ?_|refine zf rfl ?_|refine zt rfl ?_)
  refine o_call (aWhy_ret (h.kp0 k09) 0 1) rfl rfl rfl ?_
  rintro v w11 ⟨rfl, k11⟩
  have k11 := k09.trans k11
  (repeat first|refine zA ?_|refine zB ?_|refine zC ?_|refine zD ?_|refine zE ?_|refine zg ?_|refine zo rfl rfl (by first|exact trivial|(simp only[AllP];omega)|(simp(discharger:=omega)only[AllP,cA,cB];omega)|(simp only[AllP,cC,cD,cE,cF,cG];omega)) ?_|refine zn ?_|refine zb ?_|refine ze rfl ?_|refine zr ?_|refine zk ?_|refine zT rfl rfl rfl ?_|refine zU rfl rfl rfl ?_|refine zV rfl rfl rfl ?_|refine zf rfl ?_|refine zt rfl ?_)
  refine o_call (aBefore_ret (h.kp0 k11) 0 1) rfl rfl rfl ?_
  rintro v w12 ⟨rfl, rfl⟩
  (repeat first|refine zA ?_|refine zB ?_|refine zC ?_|refine zD ?_|refine zE ?_|refine zg ?_|refine zo rfl rfl (by first|exact trivial|(simp only[AllP];omega)|(simp(discharger:=omega)only[AllP,cA,cB];omega)|(simp only[AllP,cC,cD,cE,cF,cG];omega)) ?_|refine zn ?_|refine zb ?_|refine ze rfl ?_|refine zr ?_|refine zk ?_|refine zT rfl rfl rfl ?_|refine zU rfl rfl rfl ?_|refine zV rfl rfl rfl ?_|refine zf rfl ?_|refine zt rfl ?_)
  refine o_call (aAside_ret (h.kp0 k11) 0 1) rfl rfl rfl ?_
  rintro v w13 ⟨rfl, k13⟩
  have k13 := k11.trans k13
  (repeat first|refine zA ?_|refine zB ?_|refine zC ?_|refine zD ?_|refine zE ?_|refine zg ?_|refine zo rfl rfl (by first|exact trivial|(simp only[AllP];omega)|(simp(discharger:=omega)only[AllP,cA,cB];omega)|(simp only[AllP,cC,cD,cE,cF,cG];omega)) ?_|refine zn ?_|refine zb ?_|refine ze rfl ?_|refine zr ?_|refine zk ?_|refine zT rfl rfl rfl ?_|refine zU rfl rfl rfl ?_|refine zV rfl rfl rfl ?_|refine zf rfl ?_|refine zt rfl ?_)
  refine o_buildSlice [I 0] rfl (by simp [Value.oneCell']) rfl (by decide) (by decide) rfl rfl rfl rfl rfl ?_
  intro b7 w14 hb7 hu14
  have k14 : Kp [] w w14 := k13.trans (hu14.kp [] (.inr (by omega)))
  refine o_call (aPast_ret (h.kp0 k14)) rfl rfl rfl ?_
  rintro v w15 ⟨rfl, k15⟩
  have k15 := k14.trans k15
  (repeat first|refine zA ?_|refine zB ?_|refine zC ?_|refine zD ?_|refine zE ?_|refine zg ?_|refine zo rfl rfl (by first|exact trivial|(simp only[AllP];omega)|(simp(discharger:=omega)only[AllP,cA,cB];omega)|(simp only[AllP,cC,cD,cE,cF,cG];omega)) ?_|refine zn ?_|refine zb ?_|refine ze rfl ?_|refine zr ?_|refine zk ?_|refine zT rfl rfl rfl ?_|refine zU rfl rfl rfl ?_|refine zV rfl rfl rfl ?_|refine zf rfl ?_|refine zt rfl ?_)
  refine o_call (aChain_ret (h.kp0 k15) 0 1) rfl rfl rfl ?_
  rintro v w16 ⟨rfl, rfl⟩
  (repeat first|refine zA ?_|refine zB ?_|refine zC ?_|refine zD ?_|refine zE ?_|refine zg ?_|refine zo rfl rfl (by first|exact trivial|(simp only[AllP];omega)|(simp(discharger:=omega)only[AllP,cA,cB];omega)|(simp only[AllP,cC,cD,cE,cF,cG];omega)) ?_|refine zn ?_|refine zb ?_|refine ze rfl ?_|refine zr ?_|refine zk ?_|refine zT rfl rfl rfl ?_|refine zU rfl rfl rfl ?_|refine zV rfl rfl rfl ?_|refine zf rfl ?_|refine zt rfl ?_)
  refine o_call (aAll_ret (h.kp0 k15)) rfl rfl rfl ?_
  rintro v w17 ⟨bx, hseq, k17, _⟩
  have k17 := k15.trans k17
  have hq := hseq.is
  obtain ⟨fi, lb, rfl, _⟩ := hq
  (repeat first|refine zA ?_|refine zB ?_|refine zC ?_|refine zD ?_|refine zE ?_|refine zg ?_|refine zo rfl rfl (by first|exact trivial|(simp only[AllP];omega)|(simp(discharger:=omega)only[AllP,cA,cB];omega)|(simp only[AllP,cC,cD,cE,cF,cG];omega)) ?_|refine zn ?_|refine zb ?_|refine ze rfl ?_|refine zr ?_|refine zk ?_|refine zT rfl rfl rfl ?_|refine zU rfl rfl rfl ?_|refine zV rfl rfl rfl ?_|refine zf rfl ?_|refine zt rfl ?_)
  refine o_call (gone20_ret hseq (by simp) (-1)) rfl rfl rfl ?_
  rintro v w18 ⟨ad, cap, rfl, _, k18, _⟩
  have k18 := k17.trans k18
  rw [show gonP (-1) [] = [] from rfl]
  (repeat first|refine zA ?_|refine zB ?_|refine zC ?_|refine zD ?_|refine zE ?_|refine zg ?_|refine zo rfl rfl (by first|exact trivial|(simp only[AllP];omega)|(simp(discharger:=omega)only[AllP,cA,cB];omega)|(simp only[AllP,cC,cD,cE,cF,cG];omega)) ?_|refine zn ?_|refine zb ?_|refine ze rfl ?_|refine zr ?_|refine zk ?_|refine zT rfl rfl rfl ?_|refine zU rfl rfl rfl ?_|refine zV rfl rfl rfl ?_|refine zf rfl ?_|refine zt rfl ?_)
  refine o_call (xRaces_ret (hX _ k18) 0) rfl rfl rfl ?_
  rintro v w19 ⟨ad2, cap2, rfl, _, k19, _⟩
  have k19 := k18.trans k19
  rw [show onV 0 (racesN [] [] ([] : List Ev).length) = [] from rfl]
  (repeat first|refine zA ?_|refine zB ?_|refine zC ?_|refine zD ?_|refine zE ?_|refine zg ?_|refine zo rfl rfl (by first|exact trivial|(simp only[AllP];omega)|(simp(discharger:=omega)only[AllP,cA,cB];omega)|(simp only[AllP,cC,cD,cE,cF,cG];omega)) ?_|refine zn ?_|refine zb ?_|refine ze rfl ?_|refine zr ?_|refine zk ?_|refine zT rfl rfl rfl ?_|refine zU rfl rfl rfl ?_|refine zV rfl rfl rfl ?_|refine zf rfl ?_|refine zt rfl ?_)
  refine o_call (xFlags_ret hS (hX _ k19) (by intro x hx; simp [racesN] at hx) 3) rfl rfl rfl ?_
  rintro v w20 ⟨ad3, cap3, rfl, _, k20, _⟩
  have k20 := k19.trans k20
  rw [show flagsV [] [] 3 = [] from rfl]
  (repeat first|refine zA ?_|refine zB ?_|refine zC ?_|refine zD ?_|refine zE ?_|refine zg ?_|refine zo rfl rfl (by first|exact trivial|(simp only[AllP];omega)|(simp(discharger:=omega)only[AllP,cA,cB];omega)|(simp only[AllP,cC,cD,cE,cF,cG];omega)) ?_|refine zn ?_|refine zb ?_|refine ze rfl ?_|refine zr ?_|refine zk ?_|refine zT rfl rfl rfl ?_|refine zU rfl rfl rfl ?_|refine zV rfl rfl rfl ?_|refine zf rfl ?_|refine zt rfl ?_)
  exact ⟨_, rfl, rfl, k20⟩
theorem orderNil_ret (hS : SortF) : Ret Try.prog 8 [] w (fun v w' => v = .bool true ∧ Kp [] w w') := by
  refine enter Try.call8 Try.func8 rfl rfl rfl rfl ?_
  (repeat first|refine zA ?_|refine zB ?_|refine zC ?_|refine zD ?_|refine zE ?_|refine zg ?_|refine zo rfl rfl (by first|exact trivial|(simp only[AllP];omega)|(simp(discharger:=omega)only[AllP,cA,cB];omega)|(simp only[AllP,cC,cD,cE,cF,cG];omega)) ?_|refine zn ?_|refine zb ?_|refine ze rfl ?_|refine zr ?_|refine zk ?_|refine zT rfl rfl rfl ?_|refine zU rfl rfl rfl ?_|refine zV rfl rfl rfl ?_|refine zf rfl ?_|refine zt rfl ?_)
  refine o_call (none20_ret hS (.inl rfl)) rfl rfl rfl ?_
  rintro v w1 ⟨rfl, k1⟩
  (repeat first|refine zA ?_|refine zB ?_|refine zC ?_|refine zD ?_|refine zE ?_|refine zg ?_|refine zo rfl rfl (by first|exact trivial|(simp only[AllP];omega)|(simp(discharger:=omega)only[AllP,cA,cB];omega)|(simp only[AllP,cC,cD,cE,cF,cG];omega)) ?_|refine zn ?_|refine zb ?_|refine ze rfl ?_|refine zr ?_|refine zk ?_|refine zT rfl rfl rfl ?_|refine zU rfl rfl rfl ?_|refine zV rfl rfl rfl ?_|refine zf rfl ?_|refine zt rfl ?_)
  refine o_build [.slice none 0 0, .slice none 0 0, .pointer none] rfl rfl rfl rfl rfl rfl rfl ?_
  (repeat first|refine zA ?_|refine zB ?_|refine zC ?_|refine zD ?_|refine zE ?_|refine zg ?_|refine zo rfl rfl (by first|exact trivial|(simp only[AllP];omega)|(simp(discharger:=omega)only[AllP,cA,cB];omega)|(simp only[AllP,cC,cD,cE,cF,cG];omega)) ?_|refine zn ?_|refine zb ?_|refine ze rfl ?_|refine zr ?_|refine zk ?_|refine zT rfl rfl rfl ?_|refine zU rfl rfl rfl ?_|refine zV rfl rfl rfl ?_|refine zf rfl ?_|refine zt rfl ?_)
  refine o_box rfl rfl rfl ?_
  intro b2 w2 hb2 hu2
  have k2 : Kp [] w w2 := k1.trans (hu2.kp [] (.inr (by omega)))
  (repeat first|refine zA ?_|refine zB ?_|refine zC ?_|refine zD ?_|refine zE ?_|refine zg ?_|refine zo rfl rfl (by first|exact trivial|(simp only[AllP];omega)|(simp(discharger:=omega)only[AllP,cA,cB];omega)|(simp only[AllP,cC,cD,cE,cF,cG];omega)) ?_|refine zn ?_|refine zb ?_|refine ze rfl ?_|refine zr ?_|refine zk ?_|refine zT rfl rfl rfl ?_|refine zU rfl rfl rfl ?_|refine zV rfl rfl rfl ?_|refine zf rfl ?_|refine zt rfl ?_)
  refine o_call (none20_ret hS (.inr ⟨b2, rfl, hu2.blk⟩)) rfl rfl rfl ?_
  rintro v w3 ⟨rfl, k3⟩
  (repeat first|refine zA ?_|refine zB ?_|refine zC ?_|refine zD ?_|refine zE ?_|refine zg ?_|refine zo rfl rfl (by first|exact trivial|(simp only[AllP];omega)|(simp(discharger:=omega)only[AllP,cA,cB];omega)|(simp only[AllP,cC,cD,cE,cF,cG];omega)) ?_|refine zn ?_|refine zb ?_|refine ze rfl ?_|refine zr ?_|refine zk ?_|refine zT rfl rfl rfl ?_|refine zU rfl rfl rfl ?_|refine zV rfl rfl rfl ?_|refine zf rfl ?_|refine zt rfl ?_)
  refine o_call lives20_ret rfl rfl rfl ?_
  rintro v w4 ⟨rfl, k4⟩
  (repeat first|refine zA ?_|refine zB ?_|refine zC ?_|refine zD ?_|refine zE ?_|refine zg ?_|refine zo rfl rfl (by first|exact trivial|(simp only[AllP];omega)|(simp(discharger:=omega)only[AllP,cA,cB];omega)|(simp only[AllP,cC,cD,cE,cF,cG];omega)) ?_|refine zn ?_|refine zb ?_|refine ze rfl ?_|refine zr ?_|refine zk ?_|refine zT rfl rfl rfl ?_|refine zU rfl rfl rfl ?_|refine zV rfl rfl rfl ?_|refine zf rfl ?_|refine zt rfl ?_)
  exact ⟨_, rfl, rfl, (k2.trans k3).trans k4⟩
end Go.Vc
/- slices.SortFunc at flags: the shelf's structure at this dump, in plain words (printed by the kit's lay-plain.mjs: see NOTES). -/
namespace Go.Proofs
open Go.Shelf
def Try.sortFlag_ren : Go.Shelf.Ren := ⟨fun | 6 => 67 | 15 => 91 | 14 => 90 | 28 => 104 | 29 => 105 | 20 => 96 | 21 => 97 | 22 => 98 | 23 => 99 | 24 => 100 | 25 => 101 | 26 => 102 | 27 => 103 | 46 => 106 | 47 => 107 | 48 => 108 | 49 => 109 | 50 => 110 | 57 => 111 | n => n, fun | 22 => 42 | 24 => 68 | 25 => 121 | 3 => 3 | 39 => 144 | 0 => 0 | 53 => 153 | 55 => 136 | 4 => 4 | 46 => 147 | 45 => 146 | 50 => 116 | 5 => 5 | 9 => 9 | 66 => 155 | 70 => 159 | 76 => 161 | 77 => 162 | n => n, fun | n => n⟩
theorem Try.sortFlag : Go.Proofs.SlLaysF0.n6 Try.prog Try.sortFlag_ren := {
  mixed := by kernel_rfl
  f6 := ⟨Try.f67.name, by decide, Try.func67.trans (congrArg some (by kernel_rfl))⟩
  f14 := ⟨Try.f90.name, by decide, Try.func90.trans (congrArg some (by kernel_rfl))⟩
  f15 := Try.func91.trans (congrArg some (by kernel_rfl))
  f20 := ⟨Try.f96.name, by decide, Try.func96.trans (congrArg some (by kernel_rfl))⟩
  f21 := ⟨Try.f97.name, by decide, Try.func97.trans (congrArg some (by kernel_rfl))⟩
  f22 := ⟨Try.f98.name, by decide, Try.func98.trans (congrArg some (by kernel_rfl))⟩
  f23 := ⟨Try.f99.name, by decide, Try.func99.trans (congrArg some (by kernel_rfl))⟩
  f24 := ⟨Try.f100.name, by decide, Try.func100.trans (congrArg some (by kernel_rfl))⟩
  f25 := ⟨Try.f101.name, by decide, Try.func101.trans (congrArg some (by kernel_rfl))⟩
  f26 := ⟨Try.f102.name, by decide, Try.func102.trans (congrArg some (by kernel_rfl))⟩
  f27 := ⟨Try.f103.name, by decide, Try.func103.trans (congrArg some (by kernel_rfl))⟩
  f28 := Try.func104.trans (congrArg some (by kernel_rfl))
  f29 := Try.func105.trans (congrArg some (by kernel_rfl))
  f46 := ⟨Try.f106.name, by decide, Try.func106.trans (congrArg some (by kernel_rfl))⟩
  f47 := Try.func107.trans (congrArg some (by kernel_rfl))
  f48 := Try.func108.trans (congrArg some (by kernel_rfl))
  f49 := ⟨Try.f109.name, by decide, Try.func109.trans (congrArg some (by kernel_rfl))⟩
  f50 := ⟨Try.f110.name, by decide, Try.func110.trans (congrArg some (by kernel_rfl))⟩
  f57 := ⟨Try.f111.name, by decide, Try.func111.trans (congrArg some (by kernel_rfl))⟩
  t0 := Try.underlying0
  a0 := Try.isAgg0
  z0 := Try.sizeOf0
  v0 := Try.zeroValue0
  t3 := Try.underlying3
  a3 := Try.isAgg3
  z3 := Try.sizeOf3
  v3 := Try.zeroValue3
  t4 := Try.underlying4
  a4 := Try.isAgg4
  z4 := Try.sizeOf4
  v4 := Try.zeroValue4
  t5 := Try.underlying5
  a5 := Try.isAgg5
  z5 := Try.sizeOf5
  v5 := Try.zeroValue5
  t9 := Try.underlying9
  a9 := Try.isAgg9
  z9 := Try.sizeOf9
  v9 := Try.zeroValue9
  t22 := Try.underlying42
  a22 := Try.isAgg42
  z22 := Try.sizeOf42
  v22 := Try.zeroValue42
  t25 := Try.underlying121
  a25 := Try.isAgg121
  z25 := Try.sizeOf121
  v25 := Try.zeroValue121
  t39 := Try.underlying144
  a39 := Try.isAgg144
  z39 := Try.sizeOf144
  v39 := Try.zeroValue144
  t45 := Try.underlying146
  a45 := Try.isAgg146
  z45 := Try.sizeOf146
  v45 := Try.zeroValue146
  t46 := Try.underlying147
  a46 := Try.isAgg147
  z46 := Try.sizeOf147
  v46 := Try.zeroValue147
  t50 := Try.underlying116
  a50 := Try.isAgg116
  z50 := Try.sizeOf116
  v50 := Try.zeroValue116
  t53 := Try.underlying153
  a53 := Try.isAgg153
  z53 := Try.sizeOf153
  v53 := Try.zeroValue153
  t55 := Try.underlying136
  a55 := Try.isAgg136
  z55 := Try.sizeOf136
  v55 := Try.zeroValue136
  t66 := Try.underlying155
  a66 := Try.isAgg155
  z66 := Try.sizeOf155
  v66 := Try.zeroValue155
  t70 := Try.underlying159
  a70 := Try.isAgg159
  z70 := Try.sizeOf159
  v70 := Try.zeroValue159
  t76 := Try.underlying161
  a76 := Try.isAgg161
  z76 := Try.sizeOf161
  v76 := Try.zeroValue161
  t77 := Try.underlying162
  a77 := Try.isAgg162
  z77 := Try.sizeOf162
  v77 := Try.zeroValue162 }
end Go.Proofs
/- order: the sort of flags, out of the shelf's contract. -/
namespace Go.Vc
open Go Go.Proofs Go.Shelf Go.RowKit Go.Lib Go.Sort
set_option maxRecDepth 10000
variable {w : World}
abbrev Fb := { x : F2 // 0 ≤ x.1 ∧ x.1 ≤ 1048576 }
instance : Inhabited Fb := ⟨⟨(0, 0), by decide⟩⟩
def encF (x : Fb) : List Value := flgC x.1
def cfF (x y : Fb) : Int := x.1.1 - y.1.1
theorem ltF (x y : Fb) : ltOf cfF x y = decide (x.1.1 < y.1.1) := by
  unfold ltOf cfF
  rw [decide_eq_decide]; omega
theorem swoF : SWO (ltOf cfF) where
  irrefl x := by rw [ltF]; simp
  trans x y z h1 h2 := by rw [ltF] at *; simp at *; omega
  ntrans x y z h1 h2 := by rw [ltF] at *; simp at *; omega
set_option maxHeartbeats 1000000 in
theorem closF (x y : Fb) (W : World) : Calls Try.prog 68 #[.agg #[.int .i64 x.1.1, .int .i64 x.1.2], .agg #[.int .i64 y.1.1, .int .i64 y.1.2]] W fun e w' => e = .returned (.int .i64 (cfF x y)) ∧ ∃ q os', w' = grow (W.drewN q) os' := by
  have hx := x.2
  have hy := y.2
  have e1 : IntKind.i64.wrap (x.1.1 - y.1.1) = x.1.1 - y.1.1 := by simp [IntKind.wrap, IntKind.bits, IntKind.signed]; omega
  unfold cfF
  go_enter Try.func68, Try.ntmps68
  go_wp2
  go_ret
  exact ⟨rfl, 0, _, by rw [alloc_eq_grow, alloc_eq_grow, grow_grow]; rfl⟩
theorem subF : ∀ (l : List F2), (∀ x ∈ l, 0 ≤ x.1 ∧ x.1 ≤ 1048576) → ∃ lb : List Fb, lb.map (·.1) = l
  | [], _ => ⟨[], rfl⟩
  | x :: r, h => by
    obtain ⟨lb, hlb⟩ := subF r (fun y hy => h y (by simp [hy]))
    exact ⟨⟨x, h x (by simp)⟩ :: lb, by simp [hlb]⟩
theorem flat_flags (lb : List Fb) : flatK encF 2 lb.toArray = ⟨flgsC (lb.map (·.1))⟩ := by
  apply ext_get!
  · simp [flgsC_len]
  · intro t ht
    rw [size_flatK] at ht
    rw [get_flatK _ _ _ _ ht]
    have hlt : t / 2 < lb.length := by simp at ht; omega
    have h1 : (flgsC (lb.map (·.1)))[t]? = (encF lb[t / 2])[t % 2]? := by
      unfold flgsC
      rw [flC_at (f := flgC) (m := 2) (fun _ => rfl) (by decide), List.getElem?_map, List.getElem?_eq_getElem hlt]; rfl
    have e1 : lb.toArray[t / 2]! = lb[t / 2] := by simp [hlt]
    rw [e1]
    have h3 : t % 2 < (encF lb[t / 2]).length := by have := Nat.mod_lt t (show 2 > 0 by decide); exact this
    have h2 : t < (flgsC (lb.map (·.1))).length := by rw [flgsC_len]; simp at ht ⊢; omega
    rw [List.getElem?_eq_getElem h3, List.getElem?_eq_getElem h2, Option.some.injEq] at h1
    simp [h2, h3, h1]
theorem put_world {b n : Nat} {xs junk : List Value} {T : TypeId} {F : Array Value} {os : Array Obj} (hB : Blk w b (xs ++ junk) T) (hs : F.size = xs.length) :
    Blk (grow (putRow id (Go.Sort.ahead w n) b 0 F) os) b (F.toList ++ junk) T ∧ Kp [b] w (grow (putRow id (Go.Sort.ahead w n) b 0 F) os) := by
  have hlt := hB.lt
  have hsz : (grow (putRow id (Go.Sort.ahead w n) b 0 F) os).heap.size = w.heap.size + os.size := by simp [grow, putRow, mapBlock, Go.Sort.ahead]
  have hat : ∀ k, k < w.heap.size → (grow (putRow id (Go.Sort.ahead w n) b 0 F) os).heap[k]? = (w.heap.modify b (onCells (putCells id 0 F)))[k]? := fun k hk => by
    show (w.heap.modify b (onCells (putCells id 0 F)) ++ os)[k]? = _
    rw [Array.getElem?_append_left (by simpa using hk)]
  refine ⟨?_, rfl, rfl, rfl, by omega, fun k hk hne => ?_⟩
  · unfold Blk at hB ⊢
    rw [hat b hlt, Array.getElem?_modify, if_pos rfl, hB]
    simp only [Option.map_some, onCells, Option.some.injEq, Obj.cells.injEq, and_true]
    apply Array.ext
    · simp [putCells, hs]
    · intro i h1 h2
      simp only [putCells, Array.getElem_mapIdx]
      by_cases hi : i < F.size
      · rw [if_pos ⟨by omega, by omega⟩]
        simp [hi]
      · rw [if_neg (by omega)]
        simp only [List.getElem_toArray]
        rw [List.getElem_append_right (by omega), List.getElem_append_right (by simpa using hi)]
        simp [hs]
  · rw [hat k hk, Array.getElem?_modify, if_neg (by simpa [eq_comm] using hne)]
theorem sortF : SortF := by
  intro w ad cap l ho hv hl
  refine ⟨Try.call67, ?_⟩
  have hlen := ho.1
  cases ad with
  | none =>
    have h0 : l.length = 0 := ho.2.1
    have hnil : l = [] := List.eq_nil_of_length_eq_zero h0
    subst hnil
    refine (AnyF.slices_SortFunc_none Try.sortFlag none cap (.func (.func 68) #[] #[]) w).mono ?_
    rintro e w' ⟨rfl, rfl⟩
    exact ⟨_, rfl, rfl, [], .refl _, .nil, ho, Kp.refl _ _⟩
  | some ad =>
    obtain ⟨b, off, spot⟩ := ad
    obtain ⟨h1, h2, h3, h4, junk, h5, h6⟩ := ho.2
    dsimp only at h1 h2 h5
    subst h1 h2
    obtain ⟨lb, rfl⟩ := subF l hv
    have hsz : lb.toArray.size = (lb.map (·.1)).length := by simp
    have hH : HoldsK encF 2 w b 0 lb.toArray := by
      unfold HoldsK
      rw [flat_flags]
      intro j hj
      rw [Nat.zero_add]
      refine ⟨h5.cell ?_, h5.free⟩
      have hj : j < (flgsC (lb.map (·.1))).length := hj
      rw [List.getElem?_append_left hj, List.getElem?_eq_getElem hj]
      simp [hj]
    have hcon := AnyQ.slices_SortFunc Try.sortFlag 2 Try.isAgg68 Try.sizeOf68 encF (fun _ => rfl) (fun x v hv => by simp [encF] at hv; rcases hv with rfl | rfl <;> rfl) cfF swoF 68 #[] b 0 cap lb.toArray w (fun args w => Try.call68 args w) (fun m os dk _ x y => closF x y _) hH h5.lt (by simp at hl ⊢; omega)
    rw [hsz] at hcon
    refine Calls.mono hcon ?_
    rintro e w' ⟨rfl, d', n, os, hp, hs, rfl⟩
    obtain ⟨l', rfl⟩ : ∃ l' : List Fb, d' = l'.toArray := ⟨d'.toList, rfl⟩
    have hl' : l'.length = lb.length := by have := hp.1; simpa using this
    have hperm : lb.Perm l' := by
      have := hp.2.2
      simp at this
      rw [List.take_of_length_le (by omega)] at this
      exact this.symm
    have hsort : l'.Pairwise (fun a b => a.1.1 ≤ b.1.1) := by
      rw [List.pairwise_iff_getElem]
      intro i j hi hj hij
      have := hs i j (Nat.zero_le _) hij (by simp; omega)
      rw [ltF] at this
      simp [hi, hj] at this
      omega
    unfold sortWorldK putRowK
    rw [flat_flags]
    obtain ⟨hB, hk⟩ := put_world (n := n) (os := os) (F := ⟨flgsC (l'.map (·.1))⟩) h5 (by simp [flgsC_len, hl'])
    refine ⟨_, rfl, rfl, l'.map (·.1), hperm.map _, List.pairwise_map.2 hsort, ?_, hk⟩
    refine ⟨by rw [flgsC_len]; simp [hl'], rfl, rfl, h3, h4, junk, hB, ?_⟩
    rw [List.length_append, flgsC_len] at h6 ⊢
    simp at h6 ⊢; omega
end Go.Vc
/- order: OrderNil as the rows want it. -/
namespace Go.Vc
open Go Go.Proofs
theorem orderNil_walk {w : World} : Calls Try.prog 8 #[] w (fun e w' => e = .returned (.bool true) ∧ RowKit.Below w.heap.size w w') := (orderNil_ret sortF).calls
end Go.Vc
