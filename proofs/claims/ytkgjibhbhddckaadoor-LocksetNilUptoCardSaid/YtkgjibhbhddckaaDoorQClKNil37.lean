/- lockset: lives. -/
import Derived.Test.YtkgjibhbhddckaaDoorQClKNil36
namespace Go.Vc
open Go Go.Proofs
set_option maxRecDepth 10000
variable {w : World}
def sLv : Shp := ⟨2, 1, 0, 1, []⟩
def SLv0 : LS := ⟨newC sLv, fun _ => [], [⟨0, 0, none, none, false, 0⟩]⟩
def evLv : List Ev := [⟨7, 0, 1⟩, ⟨5, 0, 0⟩, ⟨2, 0, 0⟩]
theorem SLv_can : ∀ j e, j < 3 → evLv[j]? = some e → canB sLv (runN sLv SLv0 evLv j).c e = true := by
  intro j e hj he
  match j, hj with
  | 0, _ => simp [evLv] at he; subst he; decide
  | 1, _ => simp [evLv] at he; subst he; decide
  | 2, _ => simp [evLv] at he; subst he; decide
theorem SLv_3 : (runN sLv SLv0 evLv 3).V = [⟨1, 0, some [0], none, false, 0⟩] := by rfl
def SLv4 : LS := stepL (runN sLv SLv0 evLv 3) ⟨2, 1, 0⟩ sLv
theorem SLv4_can : canB sLv (runN sLv SLv0 evLv 3).c ⟨2, 1, 0⟩ = true := by decide
theorem SLv4_V : SLv4.V = [⟨3, 0, some [], some [], true, 3⟩] := by rfl
theorem SLv0_ok : SLv0.VOk := by
  intro v hv
  simp [SLv0] at hv
  subst hv
  exact .inl rfl
theorem newKG_KS {kp mh vb : Nat} {ck : CkG} (h : KAt w (newKG kp ck mh vb sLv.va.toNat) sLv (newC sLv)) : KS w (newKG kp ck mh vb sLv.va.toNat) sLv SLv0 := ⟨h, fun t => rfl, rfl⟩
/-- one variable: what it is -/
theorem one_var {g : KG} {v : LV} (h : g.vars.map varM = [v]) : ∃ x, varAt g 0 = some x ∧ varM x = v := by
  match hg : g.vars, h with
  | [x], h => exact ⟨x, by unfold varAt; rw [hg]; rfl, by simpa using h⟩
theorem kp_l {x : VarG} {v : LV} (h : varM x = v) : (x.kp.map SG.l) = v.kp ∧ (x.ca.map SG.l) = v.ca := by subst h; exact ⟨rfl, rfl⟩
theorem oL_of {o : Option SG} {l : List Nat} (h : o.map SG.l = some l) : oL o = l ∧ o.isSome = true := by
  cases o with
  | none => cases h
  | some y => simp at h; exact ⟨h, rfl⟩
set_option maxHeartbeats 6400000 in
theorem lives23_ret (hT : TabW w) : Ret Tryd.prog 7 [] w (fun v w' => v = .bool true ∧ Kp [] w w') := by
  refine enter Tryd.call7 Tryd.func7 rfl rfl rfl rfl ?_
  (repeat first|refine zA ?_|refine zB ?_|refine zC ?_|refine zD ?_|refine zE ?_|refine zg ?_|refine zo rfl rfl (by first|exact trivial|(simp only[AllP];omega)|(simp(discharger:=omega)only[AllP,cA,cB];omega)|(simp only[AllP,cC,cD,cE,cF,cG];omega)) ?_|refine zn ?_|refine zb ?_|refine ze rfl ?_|refine zr ?_|refine zk ?_|refine zT rfl rfl rfl ?_|refine zU rfl rfl rfl ?_|refine zV rfl rfl rfl ?_|refine zf rfl ?_|refine zt rfl ?_)
  refine o_build [I 2, I 1, I 0, I 1, .slice none 0 0] rfl rfl rfl rfl rfl rfl rfl ?_
  refine o_call (kNew_ret (s := sLv) (pad := none) (cap := 0) hT rfl (by decide)) rfl rfl rfl ?_
  rintro v w1 (⟨hs, _⟩ | ⟨_, kp, ck, mh, vb, rfl, hk, k1, hn1⟩)
  · exact absurd hs (by decide)
  have h1 := newKG_KS hk
  have hgk : (newKG kp ck mh vb sLv.va.toNat).kp = kp := rfl
  generalize newKG kp ck mh vb sLv.va.toNat = g at h1 hn1 hk hgk
  subst hgk
  (repeat first|refine zA ?_|refine zB ?_|refine zC ?_|refine zD ?_|refine zE ?_|refine zg ?_|refine zo rfl rfl (by first|exact trivial|(simp only[AllP];omega)|(simp(discharger:=omega)only[AllP,cA,cB];omega)|(simp only[AllP,cC,cD,cE,cF,cG];omega)) ?_|refine zn ?_|refine zb ?_|refine ze rfl ?_|refine zr ?_|refine zk ?_|refine zT rfl rfl rfl ?_|refine zU rfl rfl rfl ?_|refine zV rfl rfl rfl ?_|refine zf rfl ?_|refine zt rfl ?_)
  refine o_call (num23_ret _) rfl rfl rfl ?_
  rintro v wx ⟨rfl, rfl⟩
  (repeat first|refine zA ?_|refine zB ?_|refine zC ?_|refine zD ?_|refine zE ?_|refine zg ?_|refine zo rfl rfl (by first|exact trivial|(simp only[AllP];omega)|(simp(discharger:=omega)only[AllP,cA,cB];omega)|(simp only[AllP,cC,cD,cE,cF,cG];omega)) ?_|refine zn ?_|refine zb ?_|refine ze rfl ?_|refine zr ?_|refine zk ?_|refine zT rfl rfl rfl ?_|refine zU rfl rfl rfl ?_|refine zV rfl rfl rfl ?_|refine zf rfl ?_|refine zt rfl ?_)
  refine o_build [I 7, I 0, I 1] rfl rfl rfl rfl rfl rfl rfl ?_
  refine o_build [I 5, I 0, I 0] rfl rfl rfl rfl rfl rfl rfl ?_
  refine o_build [I 2, I 0, I 0] rfl rfl rfl rfl rfl rfl rfl ?_
  refine o_buildSliceN (evsC evLv) rfl rfl rfl (by kernel_rfl) rfl rfl rfl rfl ?_
  intro be w2 hbe hu2
  have k2 : Kp [] wx w2 := hu2.kp [] (.inr (by omega))
  have h2 := h1.kp0 k2
  have hbe2 : ∀ b, b ∈ blkOf (some (⟨be, 0, none⟩ : Addr)) → ¬ g.In b := fun b hb hin => by
    simp [blkOf] at hb
    obtain ⟨i, hi⟩ := hin
    have := h1.at_.lt i b hi; omega
  refine o_call (Events_S h2 SLv0_ok (by decide) (l := evLv) (ReadS.blk hu2.blk) hbe2 (by decide)) rfl rfl rfl ?_
  rintro v w3 ⟨k, g3, hk3, rfl, h3, t3, hcan3, hno3⟩
  obtain rfl : k = 3 := by
    have hk3' : k ≤ 3 := hk3
    by_cases h3k : k < 3
    · exfalso
      obtain ⟨e, he⟩ : ∃ e, evLv[k]? = some e := ⟨_, List.getElem?_eq_getElem (show k < evLv.length from h3k)⟩
      have a1 := hno3 e he
      rw [SLv_can k e h3k he] at a1; cases a1
    · omega
  obtain ⟨x3, hx3, hm3⟩ := one_var (h3.V.trans SLv_3)
  obtain ⟨hl3, hs3⟩ := oL_of (kp_l hm3).1
  (repeat first|refine zA ?_|refine zB ?_|refine zC ?_|refine zD ?_|refine zE ?_|refine zg ?_|refine zo rfl rfl (by first|exact trivial|(simp only[AllP];omega)|(simp(discharger:=omega)only[AllP,cA,cB];omega)|(simp only[AllP,cC,cD,cE,cF,cG];omega)) ?_|refine zn ?_|refine zb ?_|refine ze rfl ?_|refine zr ?_|refine zk ?_|refine zT rfl rfl rfl ?_|refine zU rfl rfl rfl ?_|refine zV rfl rfl rfl ?_|refine zf rfl ?_|refine zt rfl ?_)
  have hK3 := kKeeps_ret h3.at_ 0
  rw [hx3] at hK3
  simp only [Option.bind_some, hl3, hs3] at hK3
  have ek3 : g.kp = g3.kp := t3.kp.symm
  rw [ek3]
  refine o_call hK3 rfl rfl rfl ?_
  rintro v w4 ⟨a4, c4, rfl, n4⟩
  have h4 := h3.kp0 n4.kp
  (repeat first|refine zA ?_|refine zB ?_|refine zC ?_|refine zD ?_|refine zE ?_|refine zg ?_|refine zo rfl rfl (by first|exact trivial|(simp only[AllP];omega)|(simp(discharger:=omega)only[AllP,cA,cB];omega)|(simp only[AllP,cC,cD,cE,cF,cG];omega)) ?_|refine zn ?_|refine zb ?_|refine ze rfl ?_|refine zr ?_|refine zk ?_|refine zT rfl rfl rfl ?_|refine zU rfl rfl rfl ?_|refine zV rfl rfl rfl ?_|refine zf rfl ?_|refine zt rfl ?_)
  refine o_build [I 2, I 1, I 0] rfl rfl rfl rfl rfl rfl rfl ?_
  refine o_call (Event_S h4 (runN_ok SLv0_ok 3 (by decide)) (by decide) ⟨2, 1, 0⟩) rfl rfl rfl ?_
  rintro v w5 (⟨_, rfl, g5, h5, t5⟩ | ⟨hbad, _⟩)
  rotate_left
  · rw [SLv4_can] at hbad; cases hbad
  have h5' : KS w5 g5 sLv SLv4 := h5
  obtain ⟨x5, hx5, hm5⟩ := one_var (h5'.V.trans SLv4_V)
  obtain ⟨hl5, hs5⟩ := oL_of (kp_l hm5).1
  have ek5 : g3.kp = g5.kp := t5.kp.symm
  rw [ek5]
  (repeat first|refine zA ?_|refine zB ?_|refine zC ?_|refine zD ?_|refine zE ?_|refine zg ?_|refine zo rfl rfl (by first|exact trivial|(simp only[AllP];omega)|(simp(discharger:=omega)only[AllP,cA,cB];omega)|(simp only[AllP,cC,cD,cE,cF,cG];omega)) ?_|refine zn ?_|refine zb ?_|refine ze rfl ?_|refine zr ?_|refine zk ?_|refine zT rfl rfl rfl ?_|refine zU rfl rfl rfl ?_|refine zV rfl rfl rfl ?_|refine zf rfl ?_|refine zt rfl ?_)
  have hK5 := kKeeps_ret h5'.at_ 0
  rw [hx5] at hK5
  simp only [Option.bind_some, hl5, hs5] at hK5
  refine o_call hK5 rfl rfl rfl ?_
  rintro v w6 ⟨a6, c6, rfl, n6⟩
  have h6 := h5'.kp0 n6.kp
  (repeat first|refine zA ?_|refine zB ?_|refine zC ?_|refine zD ?_|refine zE ?_|refine zg ?_|refine zo rfl rfl (by first|exact trivial|(simp only[AllP];omega)|(simp(discharger:=omega)only[AllP,cA,cB];omega)|(simp only[AllP,cC,cD,cE,cF,cG];omega)) ?_|refine zn ?_|refine zb ?_|refine ze rfl ?_|refine zr ?_|refine zk ?_|refine zT rfl rfl rfl ?_|refine zU rfl rfl rfl ?_|refine zV rfl rfl rfl ?_|refine zf rfl ?_|refine zt rfl ?_)
  have hW := kWarned_ret h6.at_
  rw [h6.V, SLv4_V] at hW
  refine o_call hW rfl rfl rfl ?_
  rintro v w7 ⟨a7, c7, rfl, ho7, k7, hn7⟩
  (repeat first|refine zA ?_|refine zB ?_|refine zC ?_|refine zD ?_|refine zE ?_|refine zg ?_|refine zo rfl rfl (by first|exact trivial|(simp only[AllP];omega)|(simp(discharger:=omega)only[AllP,cA,cB];omega)|(simp only[AllP,cC,cD,cE,cF,cG];omega)) ?_|refine zn ?_|refine zb ?_|refine ze rfl ?_|refine zr ?_|refine zk ?_|refine zT rfl rfl rfl ?_|refine zU rfl rfl rfl ?_|refine zV rfl rfl rfl ?_|refine zf rfl ?_|refine zt rfl ?_)
  refine o_call (num23_ret _) rfl rfl rfl ?_
  rintro v w8 ⟨rfl, rfl⟩
  (repeat first|refine zA ?_|refine zB ?_|refine zC ?_|refine zD ?_|refine zE ?_|refine zg ?_|refine zo rfl rfl (by first|exact trivial|(simp only[AllP];omega)|(simp(discharger:=omega)only[AllP,cA,cB];omega)|(simp only[AllP,cC,cD,cE,cF,cG];omega)) ?_|refine zn ?_|refine zb ?_|refine ze rfl ?_|refine zr ?_|refine zk ?_|refine zT rfl rfl rfl ?_|refine zU rfl rfl rfl ?_|refine zV rfl rfl rfl ?_|refine zf rfl ?_|refine zt rfl ?_)
  refine o_buildSlice [I 0] rfl (by simp [Value.oneCell']) rfl (by decide) (by decide) rfl rfl rfl rfl rfl ?_
  intro b9 w9 hb9 hu9
  have k9 : Kp [] w8 w9 := hu9.kp [] (.inr (by omega))
  have q4 : ReadS w5 a4 ([0].map encI) := n4.read.kq t5.kq (fun b hb ⟨i, hi⟩ => by have := n4.new b hb; have := h3.at_.lt i b hi; omega)
  have q9 := ((q4.kp n6.kp (by simp)).kp k7 (by simp)).kp k9 (by simp)
  rw [map_encI] at q9
  refine o_call (same23_yes (l := [0]) q9 (ReadS.blk hu9.blk) (by simp) rfl (by decide)) rfl rfl rfl ?_
  rintro v w10 ⟨rfl, s10⟩
  (repeat first|refine zA ?_|refine zB ?_|refine zC ?_|refine zD ?_|refine zE ?_|refine zg ?_|refine zo rfl rfl (by first|exact trivial|(simp only[AllP];omega)|(simp(discharger:=omega)only[AllP,cA,cB];omega)|(simp only[AllP,cC,cD,cE,cF,cG];omega)) ?_|refine zn ?_|refine zb ?_|refine ze rfl ?_|refine zr ?_|refine zk ?_|refine zT rfl rfl rfl ?_|refine zU rfl rfl rfl ?_|refine zV rfl rfl rfl ?_|refine zf rfl ?_|refine zt rfl ?_)
  refine o_call (num23_ret _) rfl rfl rfl ?_
  rintro v w11 ⟨rfl, rfl⟩
  (repeat first|refine zA ?_|refine zB ?_|refine zC ?_|refine zD ?_|refine zE ?_|refine zg ?_|refine zo rfl rfl (by first|exact trivial|(simp only[AllP];omega)|(simp(discharger:=omega)only[AllP,cA,cB];omega)|(simp only[AllP,cC,cD,cE,cF,cG];omega)) ?_|refine zn ?_|refine zb ?_|refine ze rfl ?_|refine zr ?_|refine zk ?_|refine zT rfl rfl rfl ?_|refine zU rfl rfl rfl ?_|refine zV rfl rfl rfl ?_|refine zf rfl ?_|refine zt rfl ?_)
  refine o_build [I 0, I 3] rfl rfl rfl rfl rfl rfl rfl ?_
  refine o_buildSliceN [I 0, I 3] rfl rfl rfl (by kernel_rfl) rfl rfl rfl rfl ?_
  intro b12 w12 hb12 hu12
  have k12 : Kp [] w11 w12 := hu12.kp [] (.inr (by omega))
  have q7 : ReadS w8 a7 (flagsC [(0, 3)]) := ho7.readN
  have q12 := ((q7.kp k9 (by simp)).kp (s10.kp []) (by simp)).kp k12 (by simp)
  refine o_call (sameFlags_yes (l := [(0, 3)]) q12 (ReadS.blk hu12.blk) rfl rfl (by decide)) rfl rfl rfl ?_
  rintro v w13 ⟨rfl, s13⟩
  (repeat first|refine zA ?_|refine zB ?_|refine zC ?_|refine zD ?_|refine zE ?_|refine zg ?_|refine zo rfl rfl (by first|exact trivial|(simp only[AllP];omega)|(simp(discharger:=omega)only[AllP,cA,cB];omega)|(simp only[AllP,cC,cD,cE,cF,cG];omega)) ?_|refine zn ?_|refine zb ?_|refine ze rfl ?_|refine zr ?_|refine zk ?_|refine zT rfl rfl rfl ?_|refine zU rfl rfl rfl ?_|refine zV rfl rfl rfl ?_|refine zf rfl ?_|refine zt rfl ?_)
  refine ⟨_, rfl, rfl, ?_⟩
  have z1 := k1.size
  have z2 := k2.size
  have p3 : Kp [] w w3 := t3.kq.kp0 (k1.trans k2) hn1
  have hn3 : ∀ b, g3.In b → w.heap.size ≤ b := fun b hb => by
    rcases t3.new b hb with h9 | h9
    · exact hn1 b h9
    · omega
  have p5 : Kp [] w w5 := t5.kq.kp0 (p3.trans n4.kp) hn3
  exact ((((((p5.trans n6.kp).trans k7).trans k9).trans (s10.kp [])).trans k12).trans (s13.kp []))
end Go.Vc
