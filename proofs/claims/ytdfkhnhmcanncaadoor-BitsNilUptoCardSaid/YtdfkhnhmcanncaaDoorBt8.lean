/- bits: lives. -/
import Derived.Test.YtdfkhnhmcanncaaDoorBt7
namespace Go.Vc
open Go Go.Proofs
set_option maxRecDepth 10000
variable {w : World}

theorem ReadS.blk {b : Nat} {L : List Value} {T : TypeId} (h : Blk w b L T) : ReadS w (some ⟨b, 0, none⟩) L := ReadS.mk fun i v hv => by rw [Nat.zero_add]; exact h.cell hv
theorem NewS.read {T : TypeId} {w' : World} {ad : Option Addr} {n cap : Nat} {xs : List Value} (h : NewS w T w' ad n cap xs) : ReadS w' ad xs := h.own.read
theorem map_encI (l : List Nat) : l.map encI = (l.map (fun k : Nat => (k : Int))).map I := by rw [List.map_map]; rfl

theorem lives_ret (hT : TabW w) : Ret Tryd.prog 10 [] w (fun v w' => v = .bool true ∧ Kp [] w w') := by
  refine enter Tryd.call10 Tryd.func10 rfl rfl rfl rfl ?_
  (repeat first|refine zA ?_|refine zB ?_|refine zC ?_|refine zD ?_|refine zE ?_|refine zg ?_|refine zo rfl rfl (by first|exact trivial|(simp only[AllP];omega)|(simp(discharger:=omega)only[AllP,cA,cB];omega)|(simp only[AllP,cC,cD,cE,cF,cG];omega)) ?_|refine zn ?_|refine zb ?_|refine ze rfl ?_|refine zr ?_|refine zk ?_|refine zT rfl rfl rfl ?_|refine zU rfl rfl rfl ?_|refine zV rfl rfl rfl ?_|refine zf rfl ?_|refine zt rfl ?_)
  refine o_buildSlice [I 3, I 70, I 3] rfl (by simp [Value.oneCell']) rfl (by decide) (by decide) rfl rfl rfl rfl rfl ?_
  intro b0 w1 hb0 hu1
  have k1 : Kp [] w w1 := hu1.kp [] (.inr (by omega))
  have hT1 := hT.kp k1 (by simp)
  refine o_call (New_ret hT1 (l := [3, 70, 3]) (ReadS.blk hu1.blk) (by decide)) rfl rfl rfl ?_
  rintro v w2 (⟨_, p, ad, cap, rfl, hn⟩ | ⟨hbad, _⟩)
  rotate_left
  · exact absurd hbad (by decide)
  have e0 : newW [3, 70, 3] [] = [8, 64] := by decide
  rw [e0] at hn
  have k2 := k1.trans hn.kp
  have hT2 := hT.kp k2 (by simp)
  (repeat first|refine zA ?_|refine zB ?_|refine zC ?_|refine zD ?_|refine zE ?_|refine zg ?_|refine zo rfl rfl (by first|exact trivial|(simp only[AllP];omega)|(simp(discharger:=omega)only[AllP,cA,cB];omega)|(simp only[AllP,cC,cD,cE,cF,cG];omega)) ?_|refine zn ?_|refine zb ?_|refine ze rfl ?_|refine zr ?_|refine zk ?_|refine zT rfl rfl rfl ?_|refine zU rfl rfl rfl ?_|refine zV rfl rfl rfl ?_|refine zf rfl ?_|refine zt rfl ?_)
  refine o_call (num_ret 0) rfl rfl rfl ?_
  rintro v w3 ⟨rfl, rfl⟩
  (repeat first|refine zA ?_|refine zB ?_|refine zC ?_|refine zD ?_|refine zE ?_|refine zg ?_|refine zo rfl rfl (by first|exact trivial|(simp only[AllP];omega)|(simp(discharger:=omega)only[AllP,cA,cB];omega)|(simp only[AllP,cC,cD,cE,cF,cG];omega)) ?_|refine zn ?_|refine zb ?_|refine ze rfl ?_|refine zr ?_|refine zk ?_|refine zT rfl rfl rfl ?_|refine zU rfl rfl rfl ?_|refine zV rfl rfl rfl ?_|refine zf rfl ?_|refine zt rfl ?_)
  refine o_call (All_ret hT2 hn.at_) rfl rfl rfl ?_
  rintro v w3 ⟨Fp, hs, k3, hnew⟩
  obtain ⟨f, lb, rfl, hI⟩ := hs.is
  have h3 := hn.at_.kp k3 (by simp)
  have hT3 := hT2.kp k3 (by simp)
  (repeat first|refine zA ?_|refine zB ?_|refine zC ?_|refine zD ?_|refine zE ?_|refine zg ?_|refine zo rfl rfl (by first|exact trivial|(simp only[AllP];omega)|(simp(discharger:=omega)only[AllP,cA,cB];omega)|(simp only[AllP,cC,cD,cE,cF,cG];omega)) ?_|refine zn ?_|refine zb ?_|refine ze rfl ?_|refine zr ?_|refine zk ?_|refine zT rfl rfl rfl ?_|refine zU rfl rfl rfl ?_|refine zV rfl rfl rfl ?_|refine zf rfl ?_|refine zt rfl ?_)
  refine o_call (Put_ret hT3 h3 (k := 5) (by decide)) rfl rfl rfl ?_
  rintro v w4 ⟨rfl, ad4, cap4, hto4⟩
  have e1 : putW [8, 64] 5 = [40, 64] := by decide
  rw [e1] at hto4
  (repeat first|refine zA ?_|refine zB ?_|refine zC ?_|refine zD ?_|refine zE ?_|refine zg ?_|refine zo rfl rfl (by first|exact trivial|(simp only[AllP];omega)|(simp(discharger:=omega)only[AllP,cA,cB];omega)|(simp only[AllP,cC,cD,cE,cF,cG];omega)) ?_|refine zn ?_|refine zb ?_|refine ze rfl ?_|refine zr ?_|refine zk ?_|refine zT rfl rfl rfl ?_|refine zU rfl rfl rfl ?_|refine zV rfl rfl rfl ?_|refine zf rfl ?_|refine zt rfl ?_)
  refine o_call (Del_ret hto4.at_ (k := 70) (by decide)) rfl rfl rfl ?_
  rintro v w5 ⟨rfl, hto5⟩
  have e2 : delW [40, 64] 70 = [40] := by decide
  rw [e2] at hto5
  have hto := hto4.trans hto5
  have hT5 := hT3.kp hto.kp h3.far
  (repeat first|refine zA ?_|refine zB ?_|refine zC ?_|refine zD ?_|refine zE ?_|refine zg ?_|refine zo rfl rfl (by first|exact trivial|(simp only[AllP];omega)|(simp(discharger:=omega)only[AllP,cA,cB];omega)|(simp only[AllP,cC,cD,cE,cF,cG];omega)) ?_|refine zn ?_|refine zb ?_|refine ze rfl ?_|refine zr ?_|refine zk ?_|refine zT rfl rfl rfl ?_|refine zU rfl rfl rfl ?_|refine zV rfl rfl rfl ?_|refine zf rfl ?_|refine zt rfl ?_)
  refine o_call (Next_ret hT5 hto.at_ (n := 4) (by decide)) rfl rfl rfl ?_
  rintro v w6 ⟨rfl, rfl⟩
  have e3 : nextV [40] 4 = .tuple #[I 5, .bool true] := by
    have : nxI [40] 4 = 5 := by decide
    unfold nextV; rw [this]; rfl
  rw [e3]
  (repeat first|refine zA ?_|refine zB ?_|refine zC ?_|refine zD ?_|refine zE ?_|refine zg ?_|refine zo rfl rfl (by first|exact trivial|(simp only[AllP];omega)|(simp(discharger:=omega)only[AllP,cA,cB];omega)|(simp only[AllP,cC,cD,cE,cF,cG];omega)) ?_|refine zn ?_|refine zb ?_|refine ze rfl ?_|refine zr ?_|refine zk ?_|refine zT rfl rfl rfl ?_|refine zU rfl rfl rfl ?_|refine zV rfl rfl rfl ?_|refine zf rfl ?_|refine zt rfl ?_)
  refine o_call (num_ret 0) rfl rfl rfl ?_
  rintro v w7 ⟨rfl, rfl⟩
  (repeat first|refine zA ?_|refine zB ?_|refine zC ?_|refine zD ?_|refine zE ?_|refine zg ?_|refine zo rfl rfl (by first|exact trivial|(simp only[AllP];omega)|(simp(discharger:=omega)only[AllP,cA,cB];omega)|(simp only[AllP,cC,cD,cE,cF,cG];omega)) ?_|refine zn ?_|refine zb ?_|refine ze rfl ?_|refine zr ?_|refine zk ?_|refine zT rfl rfl rfl ?_|refine zU rfl rfl rfl ?_|refine zV rfl rfl rfl ?_|refine zf rfl ?_|refine zt rfl ?_)
  refine o_call (num_ret 0) rfl rfl rfl ?_
  rintro v w6 ⟨rfl, rfl⟩
  (repeat first|refine zA ?_|refine zB ?_|refine zC ?_|refine zD ?_|refine zE ?_|refine zg ?_|refine zo rfl rfl (by first|exact trivial|(simp only[AllP];omega)|(simp(discharger:=omega)only[AllP,cA,cB];omega)|(simp only[AllP,cC,cD,cE,cF,cG];omega)) ?_|refine zn ?_|refine zb ?_|refine ze rfl ?_|refine zr ?_|refine zk ?_|refine zT rfl rfl rfl ?_|refine zU rfl rfl rfl ?_|refine zV rfl rfl rfl ?_|refine zf rfl ?_|refine zt rfl ?_)
  refine o_call (Len_ret hto.at_) rfl rfl rfl ?_
  rintro v w7 ⟨rfl, rfl⟩
  have e4 : elems [40] = [3, 5] := by decide
  rw [e4]
  (repeat first|refine zA ?_|refine zB ?_|refine zC ?_|refine zD ?_|refine zE ?_|refine zg ?_|refine zo rfl rfl (by first|exact trivial|(simp only[AllP];omega)|(simp(discharger:=omega)only[AllP,cA,cB];omega)|(simp only[AllP,cC,cD,cE,cF,cG];omega)) ?_|refine zn ?_|refine zb ?_|refine ze rfl ?_|refine zr ?_|refine zk ?_|refine zT rfl rfl rfl ?_|refine zU rfl rfl rfl ?_|refine zV rfl rfl rfl ?_|refine zf rfl ?_|refine zt rfl ?_)
  refine o_call (Has_ret hto.at_ 3) rfl rfl rfl ?_
  rintro v w6 ⟨rfl, rfl⟩
  have e5 : hasB [40] 3 = true := by decide
  rw [e5]
  (repeat first|refine zA ?_|refine zB ?_|refine zC ?_|refine zD ?_|refine zE ?_|refine zg ?_|refine zo rfl rfl (by first|exact trivial|(simp only[AllP];omega)|(simp(discharger:=omega)only[AllP,cA,cB];omega)|(simp only[AllP,cC,cD,cE,cF,cG];omega)) ?_|refine zn ?_|refine zb ?_|refine ze rfl ?_|refine zr ?_|refine zk ?_|refine zT rfl rfl rfl ?_|refine zU rfl rfl rfl ?_|refine zV rfl rfl rfl ?_|refine zf rfl ?_|refine zt rfl ?_)
  refine o_call (Has_ret hto.at_ 70) rfl rfl rfl ?_
  rintro v w7 ⟨rfl, rfl⟩
  have e6 : hasB [40] 70 = false := by decide
  rw [e6]
  (repeat first|refine zA ?_|refine zB ?_|refine zC ?_|refine zD ?_|refine zE ?_|refine zg ?_|refine zo rfl rfl (by first|exact trivial|(simp only[AllP];omega)|(simp(discharger:=omega)only[AllP,cA,cB];omega)|(simp only[AllP,cC,cD,cE,cF,cG];omega)) ?_|refine zn ?_|refine zb ?_|refine ze rfl ?_|refine zr ?_|refine zk ?_|refine zT rfl rfl rfl ?_|refine zU rfl rfl rfl ?_|refine zV rfl rfl rfl ?_|refine zf rfl ?_|refine zt rfl ?_)
  refine o_call (List_ret hT5 hto.at_) rfl rfl rfl ?_
  rintro v w8 ⟨ad8, cap8, rfl, hn8⟩
  rw [e4] at hn8 ⊢
  (repeat first|refine zA ?_|refine zB ?_|refine zC ?_|refine zD ?_|refine zE ?_|refine zg ?_|refine zo rfl rfl (by first|exact trivial|(simp only[AllP];omega)|(simp(discharger:=omega)only[AllP,cA,cB];omega)|(simp only[AllP,cC,cD,cE,cF,cG];omega)) ?_|refine zn ?_|refine zb ?_|refine ze rfl ?_|refine zr ?_|refine zk ?_|refine zT rfl rfl rfl ?_|refine zU rfl rfl rfl ?_|refine zV rfl rfl rfl ?_|refine zf rfl ?_|refine zt rfl ?_)
  refine o_buildSlice [I 3, I 5] rfl (by simp [Value.oneCell']) rfl (by decide) (by decide) rfl rfl rfl rfl rfl ?_
  intro b9 w9 hb9 hu9
  have k9 : Kp [] w8 w9 := hu9.kp [] (.inr (by omega))
  refine o_call (same_ret (l1 := [3, 5]) (l2 := [3, 5]) (hn8.read.kp k9 (by simp)) (ReadS.blk hu9.blk) (by decide)) rfl rfl rfl ?_
  rintro v w10 ⟨rfl, hs10⟩
  (repeat first|refine zA ?_|refine zB ?_|refine zC ?_|refine zD ?_|refine zE ?_|refine zg ?_|refine zo rfl rfl (by first|exact trivial|(simp only[AllP];omega)|(simp(discharger:=omega)only[AllP,cA,cB];omega)|(simp only[AllP,cC,cD,cE,cF,cG];omega)) ?_|refine zn ?_|refine zb ?_|refine ze rfl ?_|refine zr ?_|refine zk ?_|refine zT rfl rfl rfl ?_|refine zU rfl rfl rfl ?_|refine zV rfl rfl rfl ?_|refine zf rfl ?_|refine zt rfl ?_)
  refine ⟨_, rfl, rfl, ?_⟩
  have ka := k2.trans k3
  have kb : Kp [] w _ := ka.since hto.kp (fun b hb => by
    have h1 := hn.new b hb
    have := k1.size; omega)
  exact ((kb.trans hn8.kp).trans k9).trans (hs10.kp [])
end Go.Vc
