/- lockset: LocksetAlone. -/
import Derived.Test.YtkgjibhbhddckaaDoorLs11
namespace Go.Vc
open Go Go.Proofs
set_option maxRecDepth 10000
variable {w : World}
structure AlS (w0 w : World) (kp bh bk bm : Nat) (A : Al) (i : Nat) : Prop where
  ks : ∃ g S, KS w g sAl S ∧ AlOk A S ∧ S.c.n = i ∧ g.kp = kp ∧ (∀ b, g.In b → w0.heap.size ≤ b ∧ b ≠ bh ∧ b ≠ bk ∧ b ≠ bm)
  h : Blk w bh (bl A.h 3) 30
  k : Blk w bk (bl A.k 6) 31
  m : Blk w bm (bl A.m 2) 32
  kk : Kp [] w0 w
structure AlJ (w0 w w' : World) (bh bk bm be : Nat) (A' : Al) (e : Ev) : Prop where
  e : Blk w' be (evC e) 35
  h : Blk w' bh (bl A'.h 3) 30
  k : Blk w' bk (bl A'.k 6) 31
  m : Blk w' bm (bl A'.m 2) 32
  kp : Kp [bh, bk, bm] w w'
  kk : Kp [] w0 w'
theorem Kq.blk {S : Nat → Prop} {w' : World} (h : Kq S w w') {b : Nat} {L : List Value} {T : TypeId} (hn : ¬ S b) (hb : Blk w b L T) : Blk w' b L T := by
  have e := h.at_ b hb.lt hn
  unfold Blk at hb ⊢
  rw [e]; exact hb
set_option maxHeartbeats 6400000 in
theorem Alone_ret (hT : TabW w) {ad : Option Addr} {l : List Int} {c : Nat} (h : ReadS w ad (l.map I)) (hl : l.length ≤ 1048576) :
    Ret Tryd.prog 3 [.slice ad l.length c] w (fun v w' => v = .bool true ∧ Kp [] w w') := by
  refine enter Tryd.call3 Tryd.func3 rfl rfl rfl rfl ?_
  (repeat first|refine zA ?_|refine zB ?_|refine zC ?_|refine zD ?_|refine zE ?_|refine zg ?_|refine zo rfl rfl (by first|exact trivial|(simp only[AllP];omega)|(simp(discharger:=omega)only[AllP,cA,cB];omega)|(simp only[AllP,cC,cD,cE,cF,cG];omega)) ?_|refine zn ?_|refine zb ?_|refine ze rfl ?_|refine zr ?_|refine zk ?_|refine zT rfl rfl rfl ?_|refine zU rfl rfl rfl ?_|refine zV rfl rfl rfl ?_|refine zf rfl ?_|refine zt rfl ?_)
  refine o_call (lives23_ret hT) rfl rfl rfl ?_
  rintro v w1 ⟨rfl, k1⟩
  (repeat first|refine zA ?_|refine zB ?_|refine zC ?_|refine zD ?_|refine zE ?_|refine zg ?_|refine zo rfl rfl (by first|exact trivial|(simp only[AllP];omega)|(simp(discharger:=omega)only[AllP,cA,cB];omega)|(simp only[AllP,cC,cD,cE,cF,cG];omega)) ?_|refine zn ?_|refine zb ?_|refine ze rfl ?_|refine zr ?_|refine zk ?_|refine zT rfl rfl rfl ?_|refine zU rfl rfl rfl ?_|refine zV rfl rfl rfl ?_|refine zf rfl ?_|refine zt rfl ?_)
  refine o_build [I 1, I 2, I 0, I 3, .slice none 0 0] rfl rfl rfl rfl rfl rfl rfl ?_
  refine o_call (kNew_ret (s := sAl) (pad := none) (cap := 0) (hT.kp k1 (by simp)) rfl (by decide)) rfl rfl rfl ?_
  rintro v w2 (⟨hs, _⟩ | ⟨_, kp, ck, mh, vb, rfl, hk2, k2, hn2⟩)
  · exact absurd hs (by decide)
  have h2 : KS w2 (newKG kp ck mh vb sAl.va.toNat) sAl SAl0 := ⟨hk2, fun t => rfl, rfl⟩
  have hgk : (newKG kp ck mh vb sAl.va.toNat).kp = kp := rfl
  generalize newKG kp ck mh vb sAl.va.toNat = g at h2 hn2 hk2 hgk
  subst hgk
  (repeat first|refine zA ?_|refine zB ?_|refine zC ?_|refine zD ?_|refine zE ?_|refine zg ?_|refine zo rfl rfl (by first|exact trivial|(simp only[AllP];omega)|(simp(discharger:=omega)only[AllP,cA,cB];omega)|(simp only[AllP,cC,cD,cE,cF,cG];omega)) ?_|refine zn ?_|refine zb ?_|refine ze rfl ?_|refine zr ?_|refine zk ?_|refine zT rfl rfl rfl ?_|refine zU rfl rfl rfl ?_|refine zV rfl rfl rfl ?_|refine zf rfl ?_|refine zt rfl ?_)
  refine o_alloc rfl rfl rfl rfl ?_
  intro bh w3 hbh hu3
  have hB3 : Blk w3 bh (bl Al0.h 3) 30 := hu3.blk
  (repeat first|refine zA ?_|refine zB ?_|refine zC ?_|refine zD ?_|refine zE ?_|refine zg ?_|refine zo rfl rfl (by first|exact trivial|(simp only[AllP];omega)|(simp(discharger:=omega)only[AllP,cA,cB];omega)|(simp only[AllP,cC,cD,cE,cF,cG];omega)) ?_|refine zn ?_|refine zb ?_|refine ze rfl ?_|refine zr ?_|refine zk ?_|refine zT rfl rfl rfl ?_|refine zU rfl rfl rfl ?_|refine zV rfl rfl rfl ?_|refine zf rfl ?_|refine zt rfl ?_)
  refine o_alloc rfl rfl rfl rfl ?_
  intro bk w4 hbk hu4
  have hB4 : Blk w4 bk (bl Al0.k 6) 31 := hu4.blk
  (repeat first|refine zA ?_|refine zB ?_|refine zC ?_|refine zD ?_|refine zE ?_|refine zg ?_|refine zo rfl rfl (by first|exact trivial|(simp only[AllP];omega)|(simp(discharger:=omega)only[AllP,cA,cB];omega)|(simp only[AllP,cC,cD,cE,cF,cG];omega)) ?_|refine zn ?_|refine zb ?_|refine ze rfl ?_|refine zr ?_|refine zk ?_|refine zT rfl rfl rfl ?_|refine zU rfl rfl rfl ?_|refine zV rfl rfl rfl ?_|refine zf rfl ?_|refine zt rfl ?_)
  refine o_alloc rfl rfl rfl rfl ?_
  intro bm w5 hbm hu5
  have hB5 : Blk w5 bm (bl Al0.m 2) 32 := hu5.blk
  (repeat first|refine zA ?_|refine zB ?_|refine zC ?_|refine zD ?_|refine zE ?_|refine zg ?_|refine zo rfl rfl (by first|exact trivial|(simp only[AllP];omega)|(simp(discharger:=omega)only[AllP,cA,cB];omega)|(simp only[AllP,cC,cD,cE,cF,cG];omega)) ?_|refine zn ?_|refine zb ?_|refine ze rfl ?_|refine zr ?_|refine zk ?_|refine zT rfl rfl rfl ?_|refine zU rfl rfl rfl ?_|refine zV rfl rfl rfl ?_|refine zf rfl ?_|refine zt rfl ?_)
  have k3 := hu3.kp [] (.inr (by omega))
  have k4 := hu4.kp [] (.inr (by omega))
  have k5 := hu5.kp [] (.inr (by omega))
  have z3 := hu3.lt
  have z4 := hu4.lt
  have zz1 := k1.size
  have zz2 := k2.size
  have zz3 := k3.size
  have zz4 := k4.size
  have hlt2 := h2.at_.lt
  have zT := hT.lt
  refine r_loop (α := Nat) [0, 3, 5, 6, 7, 8] (fun i => [.slice ad l.length c, ptr g.kp, ptr bh, ptr bk, ptr bm, I i]) (fun i wc => i ≤ l.length ∧ ∃ A, AlS w wc g.kp bh bk bm A i) (fun i => l.length - i) 0 rfl ⟨by omega, Al0, ⟨g, SAl0, h2.kp0 ((k3.trans k4).trans k5), al_start, rfl, rfl, fun b hb => ?_⟩, (k4.trans k5).blk (by simp) hB3, k5.blk (by simp) hB4, hB5, (((k1.trans k2).trans k3).trans k4).trans k5⟩ ?_
  · have q1 := hn2 b hb
    obtain ⟨ix, hix⟩ := hb
    have q2 := hlt2 ix b hix
    omega
  rintro i e wc ⟨hi, A, hA⟩
  (repeat first|refine zA ?_|refine zB ?_|refine zC ?_|refine zD ?_|refine zE ?_|refine zg ?_|refine zo rfl rfl (by first|exact trivial|(simp only[AllP];omega)|(simp(discharger:=omega)only[AllP,cA,cB];omega)|(simp only[AllP,cC,cD,cE,cF,cG];omega)) ?_|refine zn ?_|refine zb ?_|refine ze rfl ?_|refine zr ?_|refine zk ?_|refine zT rfl rfl rfl ?_|refine zU rfl rfl rfl ?_|refine zV rfl rfl rfl ?_|refine zf rfl ?_|refine zt rfl ?_)
  refine r_if rfl (fun hc => ?_) (fun hc => ?_)
  · have hlt : i < l.length := by omega
    obtain ⟨b0, off0, rfl, hb0, hcell⟩ := h.at_ (by simp; omega)
    (repeat first|refine zA ?_|refine zB ?_|refine zC ?_|refine zD ?_|refine zE ?_|refine zg ?_|refine zo rfl rfl (by first|exact trivial|(simp only[AllP];omega)|(simp(discharger:=omega)only[AllP,cA,cB];omega)|(simp only[AllP,cC,cD,cE,cF,cG];omega)) ?_|refine zn ?_|refine zb ?_|refine ze rfl ?_|refine zr ?_|refine zk ?_|refine zT rfl rfl rfl ?_|refine zU rfl rfl rfl ?_|refine zV rfl rfl rfl ?_|refine zf rfl ?_|refine zt rfl ?_)
    refine o_loadc (v := I l[i]) rfl ?_ rfl rfl rfl rfl ?_
    · show wc.cell? ⟨b0, off0 + i, none⟩ = _
      rw [← hcell i (I l[i]) (by simp [hlt])]; exact World.cell?_of_block (hA.kk.at_ b0 hb0 (by simp))
    obtain ⟨n, hn, hn8⟩ := and7 l[i]
    (repeat first|refine zA ?_|refine zB ?_|refine zC ?_|refine zD ?_|refine zE ?_|refine zg ?_|refine zo rfl rfl (by first|exact trivial|(simp only[AllP];omega)|(simp(discharger:=omega)only[AllP,cA,cB];omega)|(simp only[AllP,cC,cD,cE,cF,cG];omega)) ?_|refine zn ?_|refine zb ?_|refine ze rfl ?_|refine zr ?_|refine zk ?_|refine zT rfl rfl rfl ?_|refine zU rfl rfl rfl ?_|refine zV rfl rfl rfl ?_|refine zf rfl ?_|refine zt rfl ?_)
    rw [hn, and1 hn8]
    obtain ⟨hKS, hBh, hBk, hBm, hkk⟩ := hA
    refine o_build [I 1, I 0, I ((n % 2 : Nat) : Int)] rfl rfl rfl rfl rfl rfl rfl ?_
    refine o_alloc rfl rfl rfl rfl ?_
    intro be w6 hbe hu6
    refine o_storeA (cs := evC ⟨1, 0, ((n % 2 : Nat) : Int)⟩) rfl hu6.blk (Nat.le_refl _) rfl (by simp [Value.oneCell']) rfl rfl rfl rfl ?_
    intro w7 hu7
    have k7 : Kp [] wc w7 := (hu6.kp [] (.inr (by omega))).since (hu7.kp [be] (.inl (by simp))) (by simp; omega)
    have hBe : Blk w7 be (evC ⟨1, 0, ((n % 2 : Nat) : Int)⟩) 35 := hu7.blk
    have z7 := hBe.lt
    have lh := hBh.lt
    have lk := hBk.lt
    have lm := hBm.lt
    have hBh7 := k7.blk (by simp) hBh
    have hBk7 := k7.blk (by simp) hBk
    have hBm7 := k7.blk (by simp) hBm
    (repeat first|refine zA ?_|refine zB ?_|refine zC ?_|refine zD ?_|refine zE ?_|refine zg ?_|refine zo rfl rfl (by first|exact trivial|(simp only[AllP];omega)|(simp(discharger:=omega)only[AllP,cA,cB];omega)|(simp only[AllP,cC,cD,cE,cF,cG];omega)) ?_|refine zn ?_|refine zb ?_|refine ze rfl ?_|refine zr ?_|refine zk ?_|refine zT rfl rfl rfl ?_|refine zU rfl rfl rfl ?_|refine zV rfl rfl rfl ?_|refine zf rfl ?_|refine zt rfl ?_)
    obtain ⟨g1, S1, hS1, hAl1, hn1, hgkp1, hnew1⟩ := hKS
    refine r_cut (α := Al × Ev) [0, 3, 5, 6, 7, 8, 10] (fun _ => [.slice (some ⟨b0, off0, none⟩) l.length c, ptr g.kp, ptr bh, ptr bk, ptr bm, I i, ptr be]) (fun x w' => AlJ w wc w' bh bk bm be x.1 x.2 ∧ canB sAl S1.c x.2 = true ∧ AlOk x.1 (stepL S1 x.2 sAl)) ?_ ?_
    · have zw : w.heap.size ≤ wc.heap.size := hkk.size
      refine r_if rfl (fun hc4 => ?_) (fun hc4 => ?_)
      · obtain ⟨o, rfl⟩ : ∃ o, n = o + 5 := ⟨n - 5, by omega⟩
        have e1 : ((o + 5 : Nat) : Int) - 5 = (o : Int) := by omega
        have ho : o < 3 := by omega
        (repeat first|refine zA ?_|refine zB ?_|refine zC ?_|refine zD ?_|refine zE ?_|refine zg ?_|refine zo rfl rfl (by first|exact trivial|(simp only[AllP];omega)|(simp(discharger:=omega)only[AllP,cA,cB];omega)|(simp only[AllP,cC,cD,cE,cF,cG];omega)) ?_|refine zn ?_|refine zb ?_|refine ze rfl ?_|refine zr ?_|refine zk ?_|refine zT rfl rfl rfl ?_|refine zU rfl rfl rfl ?_|refine zV rfl rfl rfl ?_|refine zf rfl ?_|refine zt rfl ?_)
        rw [e1]
        refine o_build [I 5, I 0, I (o : Int)] rfl rfl rfl rfl rfl rfl rfl ?_
        refine o_storeA (cs := evC ⟨5, 0, (o : Int)⟩) rfl hBe (Nat.le_refl _) rfl (by simp [Value.oneCell']) rfl rfl rfl rfl ?_
        intro w8 hu8
        have hBe8 : Blk w8 be (evC ⟨5, 0, (o : Int)⟩) 35 := hu8.blk
        have k8 : Kp [] wc w8 := k7.since (hu8.kp [be] (.inl (by simp))) (by simp; omega)
        have hBh8 := k8.blk (by simp) hBh
        have hBk8 := k8.blk (by simp) hBk
        have hBm8 := k8.blk (by simp) hBm
        (repeat first|refine zA ?_|refine zB ?_|refine zC ?_|refine zD ?_|refine zE ?_|refine zg ?_|refine zo rfl rfl (by first|exact trivial|(simp only[AllP];omega)|(simp(discharger:=omega)only[AllP,cA,cB];omega)|(simp only[AllP,cC,cD,cE,cF,cG];omega)) ?_|refine zn ?_|refine zb ?_|refine ze rfl ?_|refine zr ?_|refine zk ?_|refine zT rfl rfl rfl ?_|refine zU rfl rfl rfl ?_|refine zV rfl rfl rfl ?_|refine zf rfl ?_|refine zt rfl ?_)
        rw [e1]
        refine o_load (b := bh) (off := o) (v := .bool (A.h o)) ?_ hBh8 (bl_get _ ho) rfl rfl rfl rfl ?_
        · show Value.pointer (some ⟨bh, 0 + (o : Int).toNat, none⟩) = _
          rw [Nat.zero_add, Int.toNat_natCast]
        (repeat first|refine zA ?_|refine zB ?_|refine zC ?_|refine zD ?_|refine zE ?_|refine zg ?_|refine zo rfl rfl (by first|exact trivial|(simp only[AllP];omega)|(simp(discharger:=omega)only[AllP,cA,cB];omega)|(simp only[AllP,cC,cD,cE,cF,cG];omega)) ?_|refine zn ?_|refine zb ?_|refine ze rfl ?_|refine zr ?_|refine zk ?_|refine zT rfl rfl rfl ?_|refine zU rfl rfl rfl ?_|refine zV rfl rfl rfl ?_|refine zf rfl ?_|refine zt rfl ?_)
        obtain ⟨c1, c2⟩ := al_lock hAl1 ho
        cases hho : A.h o with
        | true =>
          refine r_yes rfl rfl ?_
          (repeat first|refine zA ?_|refine zB ?_|refine zC ?_|refine zD ?_|refine zE ?_|refine zg ?_|refine zo rfl rfl (by first|exact trivial|(simp only[AllP];omega)|(simp(discharger:=omega)only[AllP,cA,cB];omega)|(simp only[AllP,cC,cD,cE,cF,cG];omega)) ?_|refine zn ?_|refine zb ?_|refine ze rfl ?_|refine zr ?_|refine zk ?_|refine zT rfl rfl rfl ?_|refine zU rfl rfl rfl ?_|refine zV rfl rfl rfl ?_|refine zf rfl ?_|refine zt rfl ?_)
          refine o_store (b := be) (off := 0) (v := I 6) (c := none) rfl hBe8 (by simp) rfl rfl rfl rfl rfl rfl ?_
          intro w9 hu9
          have hBe9 : Blk w9 be (evC ⟨6, 0, (o : Int)⟩) 35 := hu9.blk
          have k9 : Kp [] wc w9 := k8.since (hu9.kp [be] (.inl (by simp))) (by simp; omega)
          have hBh9 := k9.blk (by simp) hBh
          (repeat first|refine zA ?_|refine zB ?_|refine zC ?_|refine zD ?_|refine zE ?_|refine zg ?_|refine zo rfl rfl (by first|exact trivial|(simp only[AllP];omega)|(simp(discharger:=omega)only[AllP,cA,cB];omega)|(simp only[AllP,cC,cD,cE,cF,cG];omega)) ?_|refine zn ?_|refine zb ?_|refine ze rfl ?_|refine zr ?_|refine zk ?_|refine zT rfl rfl rfl ?_|refine zU rfl rfl rfl ?_|refine zV rfl rfl rfl ?_|refine zf rfl ?_|refine zt rfl ?_)
          rw [e1]
          refine o_load (b := bh) (off := o) (v := .bool true) ?_ hBh9 (by rw [bl_get _ ho, hho]) rfl rfl rfl rfl ?_
          · show Value.pointer (some ⟨bh, 0 + (o : Int).toNat, none⟩) = _
            rw [Nat.zero_add, Int.toNat_natCast]
          (repeat first|refine zA ?_|refine zB ?_|refine zC ?_|refine zD ?_|refine zE ?_|refine zg ?_|refine zo rfl rfl (by first|exact trivial|(simp only[AllP];omega)|(simp(discharger:=omega)only[AllP,cA,cB];omega)|(simp only[AllP,cC,cD,cE,cF,cG];omega)) ?_|refine zn ?_|refine zb ?_|refine ze rfl ?_|refine zr ?_|refine zk ?_|refine zT rfl rfl rfl ?_|refine zU rfl rfl rfl ?_|refine zV rfl rfl rfl ?_|refine zf rfl ?_|refine zt rfl ?_)
          refine o_store (b := bh) (off := o) (v := .bool false) (c := none) ?_ hBh9 (by rw [bl_len]; exact ho) rfl rfl rfl rfl rfl rfl ?_
          · show Value.pointer (some ⟨bh, 0 + (o : Int).toNat, none⟩) = _
            rw [Nat.zero_add, Int.toNat_natCast]
          intro w10 hu10
          have k10 : Kp [bh] w9 w10 := hu10.kp [bh] (.inl (by simp))
          have kJ : Kp [bh, bk, bm] wc w10 := (k9.mono (by simp)).trans (k10.mono (by simp))
          have hBh10 := hu10.blk
          rw [bl_set] at hBh10
          (repeat first|refine zA ?_|refine zB ?_|refine zC ?_|refine zD ?_|refine zE ?_|refine zg ?_|refine zo rfl rfl (by first|exact trivial|(simp only[AllP];omega)|(simp(discharger:=omega)only[AllP,cA,cB];omega)|(simp only[AllP,cC,cD,cE,cF,cG];omega)) ?_|refine zn ?_|refine zb ?_|refine ze rfl ?_|refine zr ?_|refine zk ?_|refine zT rfl rfl rfl ?_|refine zU rfl rfl rfl ?_|refine zV rfl rfl rfl ?_|refine zf rfl ?_|refine zt rfl ?_)
          have ev6 : evLock A o = ⟨6, 0, o⟩ := by unfold evLock; rw [if_pos hho]
          refine ⟨(alLock A o, evLock A o), rfl, ⟨?_, ?_, k10.blk (by simp; omega) (k9.blk (by simp) hBk), k10.blk (by simp; omega) (k9.blk (by simp) hBm), kJ, (hkk.trans k9).since k10 (by simp; omega)⟩, c1, c2⟩
          · rw [ev6]; exact k10.blk (by simp; omega) hBe9
          · show Blk w10 bh (bl (upB A.h o (!A.h o)) 3) _
            rw [hho]; exact hBh10
        | false =>
          refine r_no rfl rfl ?_
          (repeat first|refine zA ?_|refine zB ?_|refine zC ?_|refine zD ?_|refine zE ?_|refine zg ?_|refine zo rfl rfl (by first|exact trivial|(simp only[AllP];omega)|(simp(discharger:=omega)only[AllP,cA,cB];omega)|(simp only[AllP,cC,cD,cE,cF,cG];omega)) ?_|refine zn ?_|refine zb ?_|refine ze rfl ?_|refine zr ?_|refine zk ?_|refine zT rfl rfl rfl ?_|refine zU rfl rfl rfl ?_|refine zV rfl rfl rfl ?_|refine zf rfl ?_|refine zt rfl ?_)
          rw [e1]
          refine o_load (b := bh) (off := o) (v := .bool false) ?_ hBh8 (by rw [bl_get _ ho, hho]) rfl rfl rfl rfl ?_
          · show Value.pointer (some ⟨bh, 0 + (o : Int).toNat, none⟩) = _
            rw [Nat.zero_add, Int.toNat_natCast]
          (repeat first|refine zA ?_|refine zB ?_|refine zC ?_|refine zD ?_|refine zE ?_|refine zg ?_|refine zo rfl rfl (by first|exact trivial|(simp only[AllP];omega)|(simp(discharger:=omega)only[AllP,cA,cB];omega)|(simp only[AllP,cC,cD,cE,cF,cG];omega)) ?_|refine zn ?_|refine zb ?_|refine ze rfl ?_|refine zr ?_|refine zk ?_|refine zT rfl rfl rfl ?_|refine zU rfl rfl rfl ?_|refine zV rfl rfl rfl ?_|refine zf rfl ?_|refine zt rfl ?_)
          refine o_store (b := bh) (off := o) (v := .bool true) (c := none) ?_ hBh8 (by rw [bl_len]; exact ho) rfl rfl rfl rfl rfl rfl ?_
          · show Value.pointer (some ⟨bh, 0 + (o : Int).toNat, none⟩) = _
            rw [Nat.zero_add, Int.toNat_natCast]
          intro w10 hu10
          have k10 : Kp [bh] w8 w10 := hu10.kp [bh] (.inl (by simp))
          have kJ : Kp [bh, bk, bm] wc w10 := (k8.mono (by simp)).trans (k10.mono (by simp))
          have hBh10 := hu10.blk
          rw [bl_set] at hBh10
          (repeat first|refine zA ?_|refine zB ?_|refine zC ?_|refine zD ?_|refine zE ?_|refine zg ?_|refine zo rfl rfl (by first|exact trivial|(simp only[AllP];omega)|(simp(discharger:=omega)only[AllP,cA,cB];omega)|(simp only[AllP,cC,cD,cE,cF,cG];omega)) ?_|refine zn ?_|refine zb ?_|refine ze rfl ?_|refine zr ?_|refine zk ?_|refine zT rfl rfl rfl ?_|refine zU rfl rfl rfl ?_|refine zV rfl rfl rfl ?_|refine zf rfl ?_|refine zt rfl ?_)
          have ev6 : evLock A o = ⟨5, 0, o⟩ := by unfold evLock; rw [if_neg (by rw [hho]; simp)]
          refine ⟨(alLock A o, evLock A o), rfl, ⟨?_, ?_, k10.blk (by simp; omega) hBk8, k10.blk (by simp; omega) hBm8, kJ, (hkk.trans k8).since k10 (by simp; omega)⟩, c1, c2⟩
          · rw [ev6]; exact k10.blk (by simp; omega) hBe8
          · show Blk w10 bh (bl (upB A.h o (!A.h o)) 3) _
            rw [hho]; exact hBh10
      · obtain ⟨x, hx, hx2⟩ : ∃ x, n % 2 = x ∧ x < 2 := ⟨_, rfl, by omega⟩
        rw [hx] at hBe
        refine r_seq ?_
        refine r_cut (α := Int) [0, 3, 5, 6, 7, 8, 10] (fun _ => [.slice (some ⟨b0, off0, none⟩) l.length c, ptr g.kp, ptr bh, ptr bk, ptr bm, I i, ptr be]) (fun kd w' => (kd = 1 ∨ kd = 2) ∧ Blk w' be (evC ⟨kd, 0, (x : Int)⟩) 35 ∧ Kp [] wc w') ?_ ?_
        · (repeat first|refine zA ?_|refine zB ?_|refine zC ?_|refine zD ?_|refine zE ?_|refine zg ?_|refine zo rfl rfl (by first|exact trivial|(simp only[AllP];omega)|(simp(discharger:=omega)only[AllP,cA,cB];omega)|(simp only[AllP,cC,cD,cE,cF,cG];omega)) ?_|refine zn ?_|refine zb ?_|refine ze rfl ?_|refine zr ?_|refine zk ?_|refine zT rfl rfl rfl ?_|refine zU rfl rfl rfl ?_|refine zV rfl rfl rfl ?_|refine zf rfl ?_|refine zt rfl ?_)
          refine r_if rfl (fun hc5 => ?_) (fun hc5 => ?_)
          · (repeat first|refine zA ?_|refine zB ?_|refine zC ?_|refine zD ?_|refine zE ?_|refine zg ?_|refine zo rfl rfl (by first|exact trivial|(simp only[AllP];omega)|(simp(discharger:=omega)only[AllP,cA,cB];omega)|(simp only[AllP,cC,cD,cE,cF,cG];omega)) ?_|refine zn ?_|refine zb ?_|refine ze rfl ?_|refine zr ?_|refine zk ?_|refine zT rfl rfl rfl ?_|refine zU rfl rfl rfl ?_|refine zV rfl rfl rfl ?_|refine zf rfl ?_|refine zt rfl ?_)
            refine o_store (b := be) (off := 0) (v := I 2) (c := none) rfl hBe (by simp) rfl rfl rfl rfl rfl rfl ?_
            intro w8 hu8
            have hBe8 : Blk w8 be (evC ⟨2, 0, (x : Int)⟩) 35 := hu8.blk
            (repeat first|refine zA ?_|refine zB ?_|refine zC ?_|refine zD ?_|refine zE ?_|refine zg ?_|refine zo rfl rfl (by first|exact trivial|(simp only[AllP];omega)|(simp(discharger:=omega)only[AllP,cA,cB];omega)|(simp only[AllP,cC,cD,cE,cF,cG];omega)) ?_|refine zn ?_|refine zb ?_|refine ze rfl ?_|refine zr ?_|refine zk ?_|refine zT rfl rfl rfl ?_|refine zU rfl rfl rfl ?_|refine zV rfl rfl rfl ?_|refine zf rfl ?_|refine zt rfl ?_)
            exact ⟨2, rfl, .inr rfl, hBe8, k7.since (hu8.kp [be] (.inl (by simp))) (by simp; omega)⟩
          · (repeat first|refine zA ?_|refine zB ?_|refine zC ?_|refine zD ?_|refine zE ?_|refine zg ?_|refine zo rfl rfl (by first|exact trivial|(simp only[AllP];omega)|(simp(discharger:=omega)only[AllP,cA,cB];omega)|(simp only[AllP,cC,cD,cE,cF,cG];omega)) ?_|refine zn ?_|refine zb ?_|refine ze rfl ?_|refine zr ?_|refine zk ?_|refine zT rfl rfl rfl ?_|refine zU rfl rfl rfl ?_|refine zV rfl rfl rfl ?_|refine zf rfl ?_|refine zt rfl ?_)
            exact ⟨1, rfl, .inl rfl, hBe, k7⟩
        · rintro kd e w8 ⟨hkd, hBe8, k8⟩
          obtain ⟨c1, c2⟩ := al_acc hAl1 hx2 hkd
          have z8 := k8.size
          (repeat first|refine zA ?_|refine zB ?_|refine zC ?_|refine zD ?_|refine zE ?_|refine zg ?_|refine zo rfl rfl (by first|exact trivial|(simp only[AllP];omega)|(simp(discharger:=omega)only[AllP,cA,cB];omega)|(simp only[AllP,cC,cD,cE,cF,cG];omega)) ?_|refine zn ?_|refine zb ?_|refine ze rfl ?_|refine zr ?_|refine zk ?_|refine zT rfl rfl rfl ?_|refine zU rfl rfl rfl ?_|refine zV rfl rfl rfl ?_|refine zf rfl ?_|refine zt rfl ?_)
          refine r_loop (α := Nat) [0, 3, 5, 6, 7, 8, 10, 11] (fun j => [.slice (some ⟨b0, off0, none⟩) l.length c, ptr g.kp, ptr bh, ptr bk, ptr bm, I i, ptr be, I j]) (fun j w' => j ≤ 3 ∧ Blk w' bk (bl (kN A x j) 6) 31 ∧ Kp [bk] w8 w') (fun j => 3 - j) 0 rfl ⟨by omega, by rw [kN_0]; exact k8.blk (by simp) hBk, Kp.refl _ _⟩ ?_
          rintro j e w9 ⟨hj, hBk9, k9⟩
          have hBe9 := k9.blk (by simp; omega) hBe8
          have hBh9 := k9.blk (by simp; omega) (k8.blk (by simp) hBh)
          have hBm9 := k9.blk (by simp; omega) (k8.blk (by simp) hBm)
          (repeat first|refine zA ?_|refine zB ?_|refine zC ?_|refine zD ?_|refine zE ?_|refine zg ?_|refine zo rfl rfl (by first|exact trivial|(simp only[AllP];omega)|(simp(discharger:=omega)only[AllP,cA,cB];omega)|(simp only[AllP,cC,cD,cE,cF,cG];omega)) ?_|refine zn ?_|refine zb ?_|refine ze rfl ?_|refine zr ?_|refine zk ?_|refine zT rfl rfl rfl ?_|refine zU rfl rfl rfl ?_|refine zV rfl rfl rfl ?_|refine zf rfl ?_|refine zt rfl ?_)
          refine r_if rfl (fun hc6 => ?_) (fun hc6 => ?_)
          · have hj3 : j < 3 := by omega
            (repeat first|refine zA ?_|refine zB ?_|refine zC ?_|refine zD ?_|refine zE ?_|refine zg ?_|refine zo rfl rfl (by first|exact trivial|(simp only[AllP];omega)|(simp(discharger:=omega)only[AllP,cA,cB];omega)|(simp only[AllP,cC,cD,cE,cF,cG];omega)) ?_|refine zn ?_|refine zb ?_|refine ze rfl ?_|refine zr ?_|refine zk ?_|refine zT rfl rfl rfl ?_|refine zU rfl rfl rfl ?_|refine zV rfl rfl rfl ?_|refine zf rfl ?_|refine zt rfl ?_)
            refine r_mix (fun w' => w'.heap = w9.heap) [(0, false), (1, false), (2, false), (3, false), (4, false), (5, false), (6, false), (7, false), (8, false), (9, false), (10, false), (11, false), (12, false), (13, false), (14, false), (15, false), (16, false), (17, false), (18, false), (19, false), (20, false), (21, false), (22, false), (23, true)] follows_mixed (by kernel_rfl) (by kernel_rfl) (by kernel_rfl) rfl ?_
            have kd9 := (Sm.drew w9).kp [bk]
            have hBk9' := (Sm.drew w9).blk hBk9
            have cB : ∀ {b : Nat} {L : List Value} {T : TypeId} {w' : World}, Blk w9 b L T → w'.heap = w9.heap → ∀ {i : Nat} {v : Value}, L[i]? = some v → w'.cell? ⟨b, i, none⟩ = some v := fun hB he _ _ hv => by
              rw [← hB.cell hv]; exact World.cell?_of_block (by rw [he])
            have fin : ∀ w4, Upd { w9 with drawn := w9.drawn + 1 } bk (.cells ⟨(bl (kN A x j) 6).set (x * 3 + j) (.bool (A.h j && (kN A x j (x * 3 + j) || !A.m x)))⟩ 31 (0, 0)) w4 → (j + 1 ≤ 3 ∧ Blk w4 bk (bl (kN A x (j + 1)) 6) 31 ∧ Kp [bk] w8 w4) ∧ 3 - (j + 1) < 3 - j := by
              intro w4 hu4
              have := hu4.blk
              rw [bl_set, kN_succ] at this
              exact ⟨⟨by omega, this, (k9.trans kd9).trans (hu4.kp [bk] (.inl (by simp)))⟩, by omega⟩
            generalize ({ w9 with drawn := w9.drawn + 1 } : World) = wd at kd9 hBk9' fin ⊢
            have ej : Value.pointer (some ⟨bh, 0 + (j : Int).toNat, none⟩) = .pointer (some ⟨bh, j, none⟩) := by rw [Nat.zero_add, Int.toNat_natCast]
            (repeat first|refine xo rfl rfl (by first|exact trivial|(simp only[AllP];omega)|(simp(discharger:=omega)only[AllP,cA,cB];omega)|(simp only[AllP,cC,cD,cE,cF,cG];omega)) ?_|refine xn ?_|refine x_know rfl _ _ (some true) rfl rfl rfl ?_|refine x_know rfl _ _ (some false) rfl rfl rfl ?_|refine x_know rfl _ _ none rfl rfl rfl ?_)
            refine x_load (v := I (x : Int)) rfl rfl (fun w' hs => cB hBe9 hs rfl) rfl rfl rfl rfl ?_
            (repeat first|refine xo rfl rfl (by first|exact trivial|(simp only[AllP];omega)|(simp(discharger:=omega)only[AllP,cA,cB];omega)|(simp only[AllP,cC,cD,cE,cF,cG];omega)) ?_|refine xn ?_|refine x_know rfl _ _ (some true) rfl rfl rfl ?_|refine x_know rfl _ _ (some false) rfl rfl rfl ?_|refine x_know rfl _ _ none rfl rfl rfl ?_)
            refine x_load (b := bh) (off := j) (v := .bool (A.h j)) rfl ej (fun w' hs => cB hBh9 hs (bl_get _ hj3)) rfl rfl rfl rfl ?_
            (repeat first|refine xo rfl rfl (by first|exact trivial|(simp only[AllP];omega)|(simp(discharger:=omega)only[AllP,cA,cB];omega)|(simp only[AllP,cC,cD,cE,cF,cG];omega)) ?_|refine xn ?_|refine x_know rfl _ _ (some true) rfl rfl rfl ?_|refine x_know rfl _ _ (some false) rfl rfl rfl ?_|refine x_know rfl _ _ none rfl rfl rfl ?_)
            have ek : Value.pointer (some ⟨bk, 0 + (x : Int).toNat * 3 + (j : Int).toNat, none⟩) = .pointer (some ⟨bk, x * 3 + j, none⟩) := by rw [Nat.zero_add, Int.toNat_natCast, Int.toNat_natCast]
            cases h1 : A.h j with
            | false =>
              refine x_is false rfl 6 true rfl rfl rfl rfl ?_
              (repeat first|refine xo rfl rfl (by first|exact trivial|(simp only[AllP];omega)|(simp(discharger:=omega)only[AllP,cA,cB];omega)|(simp only[AllP,cC,cD,cE,cF,cG];omega)) ?_|refine xn ?_|refine x_know rfl _ _ (some true) rfl rfl rfl ?_|refine x_know rfl _ _ (some false) rfl rfl rfl ?_|refine x_know rfl _ _ none rfl rfl rfl ?_)
              refine x_act rfl ?_
              refine o_store (b := bk) (off := x * 3 + j) (v := .bool false) (c := none) ek hBk9' (by rw [bl_len]; omega) rfl rfl rfl rfl rfl rfl ?_
              intro w4 hu4
              have hf := fin w4 (by rw [h1, Bool.false_and]; exact hu4)
              refine o_nil ⟨.inl (by kernel_rfl), ?_⟩
              (repeat first|refine xo rfl rfl (by first|exact trivial|(simp only[AllP];omega)|(simp(discharger:=omega)only[AllP,cA,cB];omega)|(simp only[AllP,cC,cD,cE,cF,cG];omega)) ?_|refine xn ?_|refine x_know rfl _ _ (some true) rfl rfl rfl ?_|refine x_know rfl _ _ (some false) rfl rfl rfl ?_|refine x_know rfl _ _ none rfl rfl rfl ?_)
              (repeat first|refine zA ?_|refine zB ?_|refine zC ?_|refine zD ?_|refine zE ?_|refine zg ?_|refine zo rfl rfl (by first|exact trivial|(simp only[AllP];omega)|(simp(discharger:=omega)only[AllP,cA,cB];omega)|(simp only[AllP,cC,cD,cE,cF,cG];omega)) ?_|refine zn ?_|refine zb ?_|refine ze rfl ?_|refine zr ?_|refine zk ?_|refine zT rfl rfl rfl ?_|refine zU rfl rfl rfl ?_|refine zV rfl rfl rfl ?_|refine zf rfl ?_|refine zt rfl ?_)
              exact ⟨j + 1, rfl, hf.1, hf.2⟩
            | true =>
              refine x_is true rfl 6 true rfl rfl rfl rfl ?_
              (repeat first|refine xo rfl rfl (by first|exact trivial|(simp only[AllP];omega)|(simp(discharger:=omega)only[AllP,cA,cB];omega)|(simp only[AllP,cC,cD,cE,cF,cG];omega)) ?_|refine xn ?_|refine x_know rfl _ _ (some true) rfl rfl rfl ?_|refine x_know rfl _ _ (some false) rfl rfl rfl ?_|refine x_know rfl _ _ none rfl rfl rfl ?_)
              refine x_load (v := I (x : Int)) rfl rfl (fun w' hs => cB hBe9 hs rfl) rfl rfl rfl rfl ?_
              (repeat first|refine xo rfl rfl (by first|exact trivial|(simp only[AllP];omega)|(simp(discharger:=omega)only[AllP,cA,cB];omega)|(simp only[AllP,cC,cD,cE,cF,cG];omega)) ?_|refine xn ?_|refine x_know rfl _ _ (some true) rfl rfl rfl ?_|refine x_know rfl _ _ (some false) rfl rfl rfl ?_|refine x_know rfl _ _ none rfl rfl rfl ?_)
              refine x_load (b := bk) (off := x * 3 + j) (v := .bool (kN A x j (x * 3 + j))) rfl ek (fun w' hs => cB hBk9 hs (bl_get _ (by omega))) rfl rfl rfl rfl ?_
              (repeat first|refine xo rfl rfl (by first|exact trivial|(simp only[AllP];omega)|(simp(discharger:=omega)only[AllP,cA,cB];omega)|(simp only[AllP,cC,cD,cE,cF,cG];omega)) ?_|refine xn ?_|refine x_know rfl _ _ (some true) rfl rfl rfl ?_|refine x_know rfl _ _ (some false) rfl rfl rfl ?_|refine x_know rfl _ _ none rfl rfl rfl ?_)
              cases h2 : kN A x j (x * 3 + j) with
              | true =>
                refine x_is true rfl 13 false rfl rfl rfl rfl ?_
                (repeat first|refine xo rfl rfl (by first|exact trivial|(simp only[AllP];omega)|(simp(discharger:=omega)only[AllP,cA,cB];omega)|(simp only[AllP,cC,cD,cE,cF,cG];omega)) ?_|refine xn ?_|refine x_know rfl _ _ (some true) rfl rfl rfl ?_|refine x_know rfl _ _ (some false) rfl rfl rfl ?_|refine x_know rfl _ _ none rfl rfl rfl ?_)
                refine x_act rfl ?_
                refine o_store (b := bk) (off := x * 3 + j) (v := .bool true) (c := none) ek hBk9' (by rw [bl_len]; omega) rfl rfl rfl rfl rfl rfl ?_
                intro w4 hu4
                have hf := fin w4 (by rw [h1, h2, Bool.true_and, Bool.true_or]; exact hu4)
                refine o_nil ⟨.inl (by kernel_rfl), ?_⟩
                (repeat first|refine xo rfl rfl (by first|exact trivial|(simp only[AllP];omega)|(simp(discharger:=omega)only[AllP,cA,cB];omega)|(simp only[AllP,cC,cD,cE,cF,cG];omega)) ?_|refine xn ?_|refine x_know rfl _ _ (some true) rfl rfl rfl ?_|refine x_know rfl _ _ (some false) rfl rfl rfl ?_|refine x_know rfl _ _ none rfl rfl rfl ?_)
                (repeat first|refine zA ?_|refine zB ?_|refine zC ?_|refine zD ?_|refine zE ?_|refine zg ?_|refine zo rfl rfl (by first|exact trivial|(simp only[AllP];omega)|(simp(discharger:=omega)only[AllP,cA,cB];omega)|(simp only[AllP,cC,cD,cE,cF,cG];omega)) ?_|refine zn ?_|refine zb ?_|refine ze rfl ?_|refine zr ?_|refine zk ?_|refine zT rfl rfl rfl ?_|refine zU rfl rfl rfl ?_|refine zV rfl rfl rfl ?_|refine zf rfl ?_|refine zt rfl ?_)
                exact ⟨j + 1, rfl, hf.1, hf.2⟩
              | false =>
                refine x_is false rfl 13 false rfl rfl rfl rfl ?_
                (repeat first|refine xo rfl rfl (by first|exact trivial|(simp only[AllP];omega)|(simp(discharger:=omega)only[AllP,cA,cB];omega)|(simp only[AllP,cC,cD,cE,cF,cG];omega)) ?_|refine xn ?_|refine x_know rfl _ _ (some true) rfl rfl rfl ?_|refine x_know rfl _ _ (some false) rfl rfl rfl ?_|refine x_know rfl _ _ none rfl rfl rfl ?_)
                refine x_load (v := I (x : Int)) rfl rfl (fun w' hs => cB hBe9 hs rfl) rfl rfl rfl rfl ?_
                (repeat first|refine xo rfl rfl (by first|exact trivial|(simp only[AllP];omega)|(simp(discharger:=omega)only[AllP,cA,cB];omega)|(simp only[AllP,cC,cD,cE,cF,cG];omega)) ?_|refine xn ?_|refine x_know rfl _ _ (some true) rfl rfl rfl ?_|refine x_know rfl _ _ (some false) rfl rfl rfl ?_|refine x_know rfl _ _ none rfl rfl rfl ?_)
                refine x_load (b := bm) (off := x) (v := .bool (A.m x)) rfl (by show Value.pointer (some ⟨bm, 0 + (x : Int).toNat, none⟩) = _; rw [Nat.zero_add, Int.toNat_natCast]) (fun w' hs => cB hBm9 hs (bl_get _ hx2)) rfl rfl rfl rfl ?_
                (repeat first|refine xo rfl rfl (by first|exact trivial|(simp only[AllP];omega)|(simp(discharger:=omega)only[AllP,cA,cB];omega)|(simp only[AllP,cC,cD,cE,cF,cG];omega)) ?_|refine xn ?_|refine x_know rfl _ _ (some true) rfl rfl rfl ?_|refine x_know rfl _ _ (some false) rfl rfl rfl ?_|refine x_know rfl _ _ none rfl rfl rfl ?_)
                refine x_act rfl ?_
                refine o_store (b := bk) (off := x * 3 + j) (v := .bool (!A.m x)) (c := none) ek hBk9' (by rw [bl_len]; omega) rfl rfl rfl rfl rfl rfl ?_
                intro w4 hu4
                have hf := fin w4 (by rw [h1, h2, Bool.true_and, Bool.false_or]; exact hu4)
                refine o_nil ⟨.inl (by kernel_rfl), ?_⟩
                (repeat first|refine xo rfl rfl (by first|exact trivial|(simp only[AllP];omega)|(simp(discharger:=omega)only[AllP,cA,cB];omega)|(simp only[AllP,cC,cD,cE,cF,cG];omega)) ?_|refine xn ?_|refine x_know rfl _ _ (some true) rfl rfl rfl ?_|refine x_know rfl _ _ (some false) rfl rfl rfl ?_|refine x_know rfl _ _ none rfl rfl rfl ?_)
                (repeat first|refine zA ?_|refine zB ?_|refine zC ?_|refine zD ?_|refine zE ?_|refine zg ?_|refine zo rfl rfl (by first|exact trivial|(simp only[AllP];omega)|(simp(discharger:=omega)only[AllP,cA,cB];omega)|(simp only[AllP,cC,cD,cE,cF,cG];omega)) ?_|refine zn ?_|refine zb ?_|refine ze rfl ?_|refine zr ?_|refine zk ?_|refine zT rfl rfl rfl ?_|refine zU rfl rfl rfl ?_|refine zV rfl rfl rfl ?_|refine zf rfl ?_|refine zt rfl ?_)
                exact ⟨j + 1, rfl, hf.1, hf.2⟩
          · have hj3 : j = 3 := by omega
            subst hj3
            (repeat first|refine zA ?_|refine zB ?_|refine zC ?_|refine zD ?_|refine zE ?_|refine zg ?_|refine zo rfl rfl (by first|exact trivial|(simp only[AllP];omega)|(simp(discharger:=omega)only[AllP,cA,cB];omega)|(simp only[AllP,cC,cD,cE,cF,cG];omega)) ?_|refine zn ?_|refine zb ?_|refine ze rfl ?_|refine zr ?_|refine zk ?_|refine zT rfl rfl rfl ?_|refine zU rfl rfl rfl ?_|refine zV rfl rfl rfl ?_|refine zf rfl ?_|refine zt rfl ?_)
            refine o_load (v := I (x : Int)) rfl hBe9 rfl rfl rfl rfl rfl ?_
            (repeat first|refine zA ?_|refine zB ?_|refine zC ?_|refine zD ?_|refine zE ?_|refine zg ?_|refine zo rfl rfl (by first|exact trivial|(simp only[AllP];omega)|(simp(discharger:=omega)only[AllP,cA,cB];omega)|(simp only[AllP,cC,cD,cE,cF,cG];omega)) ?_|refine zn ?_|refine zb ?_|refine ze rfl ?_|refine zr ?_|refine zk ?_|refine zT rfl rfl rfl ?_|refine zU rfl rfl rfl ?_|refine zV rfl rfl rfl ?_|refine zf rfl ?_|refine zt rfl ?_)
            refine o_store (b := bm) (off := x) (v := .bool true) (c := none) (by show Value.pointer (some ⟨bm, 0 + (x : Int).toNat, none⟩) = _; rw [Nat.zero_add, Int.toNat_natCast]) hBm9 (by rw [bl_len]; exact hx2) rfl rfl rfl rfl rfl rfl ?_
            intro w10 hu10
            have k10 : Kp [bm] w9 w10 := hu10.kp [bm] (.inl (by simp))
            have hBm10 := hu10.blk
            rw [bl_set] at hBm10
            have kJ : Kp [bh, bk, bm] wc w10 := ((k8.mono (by simp)).trans (k9.mono (by simp))).trans (k10.mono (by simp))
            (repeat first|refine zA ?_|refine zB ?_|refine zC ?_|refine zD ?_|refine zE ?_|refine zg ?_|refine zo rfl rfl (by first|exact trivial|(simp only[AllP];omega)|(simp(discharger:=omega)only[AllP,cA,cB];omega)|(simp only[AllP,cC,cD,cE,cF,cG];omega)) ?_|refine zn ?_|refine zb ?_|refine ze rfl ?_|refine zr ?_|refine zk ?_|refine zT rfl rfl rfl ?_|refine zU rfl rfl rfl ?_|refine zV rfl rfl rfl ?_|refine zf rfl ?_|refine zt rfl ?_)
            exact ⟨(alAcc A x, ⟨kd, 0, x⟩), rfl, ⟨k10.blk (by simp; omega) hBe9, k10.blk (by simp; omega) hBh9, k10.blk (by simp; omega) hBk9, hBm10, kJ, ((hkk.trans k8).since k9 (by simp; omega)).since k10 (by simp; omega)⟩, c1, c2⟩
    · rintro ⟨A', ev⟩ e w8 ⟨hJ, hcan, hAl8⟩
      dsimp only at hJ hcan hAl8
      (repeat first|refine zA ?_|refine zB ?_|refine zC ?_|refine zD ?_|refine zE ?_|refine zg ?_|refine zo rfl rfl (by first|exact trivial|(simp only[AllP];omega)|(simp(discharger:=omega)only[AllP,cA,cB];omega)|(simp only[AllP,cC,cD,cE,cF,cG];omega)) ?_|refine zn ?_|refine zb ?_|refine ze rfl ?_|refine zr ?_|refine zk ?_|refine zT rfl rfl rfl ?_|refine zU rfl rfl rfl ?_|refine zV rfl rfl rfl ?_|refine zf rfl ?_|refine zt rfl ?_)
      refine o_loadA (vs := evC ev) rfl (fun j v hv => by rw [Nat.zero_add]; exact hJ.e.cell hv) rfl rfl rfl rfl rfl rfl ?_
      (repeat first|refine zA ?_|refine zB ?_|refine zC ?_|refine zD ?_|refine zE ?_|refine zg ?_|refine zo rfl rfl (by first|exact trivial|(simp only[AllP];omega)|(simp(discharger:=omega)only[AllP,cA,cB];omega)|(simp only[AllP,cC,cD,cE,cF,cG];omega)) ?_|refine zn ?_|refine zb ?_|refine ze rfl ?_|refine zr ?_|refine zk ?_|refine zT rfl rfl rfl ?_|refine zU rfl rfl rfl ?_|refine zV rfl rfl rfl ?_|refine zf rfl ?_|refine zt rfl ?_)
      have h8 : KS w8 g1 sAl S1 := ⟨hS1.at_.kp hJ.kp (fun ix b hb hb2 => by have := (hnew1 b ⟨ix, hb⟩).2; simp at hb2; omega) (by simp; omega), hS1.H, hS1.V⟩
      rw [← hgkp1]
      refine o_call (Event_S h8 hAl1.vok (by omega) ev) rfl rfl rfl ?_
      rintro v w9 (⟨_, rfl, g9, h9, t9⟩ | ⟨hbad, _⟩)
      rotate_left
      · rw [hcan] at hbad; cases hbad
      (repeat first|refine zA ?_|refine zB ?_|refine zC ?_|refine zD ?_|refine zE ?_|refine zg ?_|refine zo rfl rfl (by first|exact trivial|(simp only[AllP];omega)|(simp(discharger:=omega)only[AllP,cA,cB];omega)|(simp only[AllP,cC,cD,cE,cF,cG];omega)) ?_|refine zn ?_|refine zb ?_|refine ze rfl ?_|refine zr ?_|refine zk ?_|refine zT rfl rfl rfl ?_|refine zU rfl rfl rfl ?_|refine zV rfl rfl rfl ?_|refine zf rfl ?_|refine zt rfl ?_)
      have n9 : (stepL S1 ev sAl).c.n = i + 1 := by rw [← hn1]; exact nextC_n sAl S1.c ev
      have nb : ∀ b, b = bh ∨ b = bk ∨ b = bm ∨ b < w.heap.size → ¬ g1.In b := fun b hb hin => by have := hnew1 b hin; omega
      have z8 := hJ.kp.size
      refine ⟨i + 1, rfl, ⟨by omega, A', ⟨g9, _, h9, hAl8, n9, t9.kp, fun b hb => ?_⟩, ?_, ?_, ?_, ?_⟩, by omega⟩
      · rcases t9.new b hb with q | q
        · exact hnew1 b q
        · have := hkk.size; omega
      · exact t9.kq.blk (nb _ (by simp)) hJ.h
      · exact t9.kq.blk (nb _ (by simp)) hJ.k
      · exact t9.kq.blk (nb _ (by simp)) hJ.m
      · exact ⟨t9.kq.os.trans hJ.kk.os, t9.kq.tape.trans hJ.kk.tape, t9.kq.output.trans hJ.kk.output, Nat.le_trans hJ.kk.size t9.kq.size, fun k hk hq => (t9.kq.at_ k (by have := hJ.kk.size; omega) (nb k (by omega))).trans (hJ.kk.at_ k hk hq)⟩
  · have hil : i = l.length := by omega
    subst hil
    obtain ⟨hKS, hBh, hBk, hBm, hkk⟩ := hA
    obtain ⟨g1, S1, hS1, hAl1, hn1, hgkp1, hnew1⟩ := hKS
    rw [← hgkp1]
    have hv1 : ∀ v : Nat, v < 2 → ∃ xv, varAt g1 v = some xv ∧ varM xv = lvA A v := fun v hv => by
      have e1 : g1.vars.map varM = [lvA A 0, lvA A 1] := hS1.V.trans hAl1.V
      have e2 : (g1.vars.map varM)[v]? = some (lvA A v) := by
        rw [e1]
        match v, hv with
        | 0, _ => rfl
        | 1, _ => rfl
      rw [List.getElem?_map] at e2
      obtain ⟨xv, q1, q2⟩ := Option.map_eq_some_iff.1 e2
      exact ⟨xv, by unfold varAt; rw [if_pos (by omega), Int.toNat_natCast]; exact q1, q2⟩
    (repeat first|refine zA ?_|refine zB ?_|refine zC ?_|refine zD ?_|refine zE ?_|refine zg ?_|refine zo rfl rfl (by first|exact trivial|(simp only[AllP];omega)|(simp(discharger:=omega)only[AllP,cA,cB];omega)|(simp only[AllP,cC,cD,cE,cF,cG];omega)) ?_|refine zn ?_|refine zb ?_|refine ze rfl ?_|refine zr ?_|refine zk ?_|refine zT rfl rfl rfl ?_|refine zU rfl rfl rfl ?_|refine zV rfl rfl rfl ?_|refine zf rfl ?_|refine zt rfl ?_)
    refine r_loop (α := Nat) [3, 6, 7, 12] (fun v => [ptr g1.kp, ptr bk, ptr bm, I v]) (fun v w' => v ≤ 2 ∧ Kp [] wc w') (fun v => 2 - v) 0 rfl ⟨by omega, Kp.refl _ _⟩ ?_
    rintro v e w2 ⟨hv, kv⟩
    (repeat first|refine zA ?_|refine zB ?_|refine zC ?_|refine zD ?_|refine zE ?_|refine zg ?_|refine zo rfl rfl (by first|exact trivial|(simp only[AllP];omega)|(simp(discharger:=omega)only[AllP,cA,cB];omega)|(simp only[AllP,cC,cD,cE,cF,cG];omega)) ?_|refine zn ?_|refine zb ?_|refine ze rfl ?_|refine zr ?_|refine zk ?_|refine zT rfl rfl rfl ?_|refine zU rfl rfl rfl ?_|refine zV rfl rfl rfl ?_|refine zf rfl ?_|refine zt rfl ?_)
    refine r_if rfl (fun hc2 => ?_) (fun hc2 => ?_)
    · have hv2 : v < 2 := by omega
      obtain ⟨xv, hxv, hmv⟩ := hv1 v hv2
      obtain ⟨a1, a2, a3, a4, a5, a6⟩ := al_want hAl1 hv2
      obtain ⟨f, hf⟩ : ∃ f : Nat → Bool, f = fun j => A.k (v * 3 + j) := ⟨_, rfl⟩
      rw [← hf] at a1
      obtain ⟨p1, p2⟩ := kp_l hmv
      have hkp : oL xv.kp = sel f ∧ xv.kp.isSome = A.m v := by
        rw [← p1] at a1 a2
        cases hq : xv.kp with
        | none => rw [hq] at a1 a2; exact ⟨a1, a2⟩
        | some y => rw [hq] at a1 a2; exact ⟨a1, a2⟩
      have hca : xv.ca = none := by
        rw [a3] at p2
        cases hq : xv.ca with
        | none => rfl
        | some y => rw [hq] at p2; cases p2
      have hph : xv.ph = (if A.m v = true then 1 else 0) := by rw [← a5, ← hmv]; rfl
      have hth : xv.th = 0 := by rw [← a4, ← hmv]; rfl
      have h2 := hS1.kp0 kv
      have hsl : (sel f).length ≤ 3 := Nat.le_trans (List.length_filter_le _ _) (by simp)
      (repeat first|refine zA ?_|refine zB ?_|refine zC ?_|refine zD ?_|refine zE ?_|refine zg ?_|refine zo rfl rfl (by first|exact trivial|(simp only[AllP];omega)|(simp(discharger:=omega)only[AllP,cA,cB];omega)|(simp only[AllP,cC,cD,cE,cF,cG];omega)) ?_|refine zn ?_|refine zb ?_|refine ze rfl ?_|refine zr ?_|refine zk ?_|refine zT rfl rfl rfl ?_|refine zU rfl rfl rfl ?_|refine zV rfl rfl rfl ?_|refine zf rfl ?_|refine zt rfl ?_)
      have hK := kKeeps_ret h2.at_ v
      rw [hxv] at hK
      simp only [Option.bind_some, hkp.1, hkp.2] at hK
      refine o_call hK rfl rfl rfl ?_
      rintro _ w3 ⟨ad3, cap3, rfl, n3⟩
      have h3 := h2.kp0 n3.kp
      (repeat first|refine zA ?_|refine zB ?_|refine zC ?_|refine zD ?_|refine zE ?_|refine zg ?_|refine zo rfl rfl (by first|exact trivial|(simp only[AllP];omega)|(simp(discharger:=omega)only[AllP,cA,cB];omega)|(simp only[AllP,cC,cD,cE,cF,cG];omega)) ?_|refine zn ?_|refine zb ?_|refine ze rfl ?_|refine zr ?_|refine zk ?_|refine zT rfl rfl rfl ?_|refine zU rfl rfl rfl ?_|refine zV rfl rfl rfl ?_|refine zf rfl ?_|refine zt rfl ?_)
      have hV := kView_ret h3.at_ v
      rw [hxv] at hV
      simp only [Option.bind_some, hca, Option.map_some, Option.getD_some, hph, hth, Option.isSome_some] at hV
      refine o_call hV rfl rfl rfl ?_
      rintro _ w4 ⟨ad4, cap4, rfl, n4⟩
      (repeat first|refine zA ?_|refine zB ?_|refine zC ?_|refine zD ?_|refine zE ?_|refine zg ?_|refine zo rfl rfl (by first|exact trivial|(simp only[AllP];omega)|(simp(discharger:=omega)only[AllP,cA,cB];omega)|(simp only[AllP,cC,cD,cE,cF,cG];omega)) ?_|refine zn ?_|refine zb ?_|refine ze rfl ?_|refine zr ?_|refine zk ?_|refine zT rfl rfl rfl ?_|refine zU rfl rfl rfl ?_|refine zV rfl rfl rfl ?_|refine zf rfl ?_|refine zt rfl ?_)
      refine o_alloc rfl rfl rfl rfl ?_
      intro bv w5 hbv hu5
      refine o_storeA (cs := [I (if A.m v = true then 1 else 0), I 0, .slice ad4 0 cap4]) rfl hu5.blk (Nat.le_refl _) rfl (by simp [Value.oneCell']) rfl rfl rfl rfl ?_
      intro w6 hu6
      have k6 : Kp [] w4 w6 := (hu5.kp [] (.inr (by omega))).since (hu6.kp [bv] (.inl (by simp))) (by simp; omega)
      have hBv : Blk w6 bv [I (if A.m v = true then 1 else 0), I 0, .slice ad4 0 cap4] 41 := hu6.blk
      have n36 : Kp [] w3 w6 := n4.kp.trans k6
      have k26 : Kp [] wc w6 := (kv.trans n3.kp).trans n36
      have hKl := (n3.read).kp n36 (by simp)
      (repeat first|refine zA ?_|refine zB ?_|refine zC ?_|refine zD ?_|refine zE ?_|refine zg ?_|refine zo rfl rfl (by first|exact trivial|(simp only[AllP];omega)|(simp(discharger:=omega)only[AllP,cA,cB];omega)|(simp only[AllP,cC,cD,cE,cF,cG];omega)) ?_|refine zn ?_|refine zb ?_|refine ze rfl ?_|refine zr ?_|refine zk ?_|refine zT rfl rfl rfl ?_|refine zU rfl rfl rfl ?_|refine zV rfl rfl rfl ?_|refine zf rfl ?_|refine zt rfl ?_)
      refine r_loop (α := Nat × Option Addr × Nat) [3, 6, 7, 12, 13, 14, 15, 16, 17, 18] (fun x => [ptr g1.kp, ptr bk, ptr bm, I v, .slice ad3 (sel f).length cap3, .bool (A.m v), ptr bv, .bool true, .slice x.2.1 (selN f x.1).length x.2.2, I x.1]) (fun x w' => OwnS w' 3 1 x.2.1 (selN f x.1).length x.2.2 ((selN f x.1).map encI) ∧ Kp [] w6 w' ∧ (∀ b, b ∈ blkOf x.2.1 → w6.heap.size ≤ b) ∧ x.1 ≤ 3) (fun x => 3 - x.1) (0, none, 0) rfl ⟨ownS_nil _ _ _, Kp.refl _ _, by simp [blkOf], by omega⟩ ?_
      rintro ⟨j, adj, capj⟩ e w7 ⟨ho7, k7, hnw7, hj⟩
      dsimp only at ho7 k7 hnw7 hj ⊢
      (repeat first|refine zA ?_|refine zB ?_|refine zC ?_|refine zD ?_|refine zE ?_|refine zg ?_|refine zo rfl rfl (by first|exact trivial|(simp only[AllP];omega)|(simp(discharger:=omega)only[AllP,cA,cB];omega)|(simp only[AllP,cC,cD,cE,cF,cG];omega)) ?_|refine zn ?_|refine zb ?_|refine ze rfl ?_|refine zr ?_|refine zk ?_|refine zT rfl rfl rfl ?_|refine zU rfl rfl rfl ?_|refine zV rfl rfl rfl ?_|refine zf rfl ?_|refine zt rfl ?_)
      refine r_if rfl (fun hc7 => ?_) (fun hc7 => ?_)
      · have hj3 : j < 3 := by omega
        have hBk7 := (k26.trans k7).blk (by simp) hBk
        have ek : Value.pointer (some ⟨bk, 0 + (v : Int).toNat * 3 + (j : Int).toNat, none⟩) = .pointer (some ⟨bk, v * 3 + j, none⟩) := by rw [Nat.zero_add, Int.toNat_natCast, Int.toNat_natCast]
        have hff : A.k (v * 3 + j) = f j := by rw [hf]
        have hsu := selN_succ f j
        have hle : (selN f j).length ≤ j := Nat.le_trans (List.length_filter_le _ _) (by simp)
        (repeat first|refine zA ?_|refine zB ?_|refine zC ?_|refine zD ?_|refine zE ?_|refine zg ?_|refine zo rfl rfl (by first|exact trivial|(simp only[AllP];omega)|(simp(discharger:=omega)only[AllP,cA,cB];omega)|(simp only[AllP,cC,cD,cE,cF,cG];omega)) ?_|refine zn ?_|refine zb ?_|refine ze rfl ?_|refine zr ?_|refine zk ?_|refine zT rfl rfl rfl ?_|refine zU rfl rfl rfl ?_|refine zV rfl rfl rfl ?_|refine zf rfl ?_|refine zt rfl ?_)
        refine o_load (b := bk) (off := v * 3 + j) (v := .bool (f j)) ek hBk7 (by rw [bl_get _ (by omega), hff]) rfl rfl rfl rfl ?_
        (repeat first|refine zA ?_|refine zB ?_|refine zC ?_|refine zD ?_|refine zE ?_|refine zg ?_|refine zo rfl rfl (by first|exact trivial|(simp only[AllP];omega)|(simp(discharger:=omega)only[AllP,cA,cB];omega)|(simp only[AllP,cC,cD,cE,cF,cG];omega)) ?_|refine zn ?_|refine zb ?_|refine ze rfl ?_|refine zr ?_|refine zk ?_|refine zT rfl rfl rfl ?_|refine zU rfl rfl rfl ?_|refine zV rfl rfl rfl ?_|refine zf rfl ?_|refine zt rfl ?_)
        cases hfj : f j with
        | false =>
          rw [hfj, if_neg (by simp), List.append_nil] at hsu
          refine r_no rfl rfl ?_
          (repeat first|refine zA ?_|refine zB ?_|refine zC ?_|refine zD ?_|refine zE ?_|refine zg ?_|refine zo rfl rfl (by first|exact trivial|(simp only[AllP];omega)|(simp(discharger:=omega)only[AllP,cA,cB];omega)|(simp only[AllP,cC,cD,cE,cF,cG];omega)) ?_|refine zn ?_|refine zb ?_|refine ze rfl ?_|refine zr ?_|refine zk ?_|refine zT rfl rfl rfl ?_|refine zU rfl rfl rfl ?_|refine zV rfl rfl rfl ?_|refine zf rfl ?_|refine zt rfl ?_)
          exact ⟨(j + 1, adj, capj), by dsimp only; rw [hsu]; rfl, ⟨by dsimp only; rw [hsu]; exact ho7, k7, hnw7, by dsimp only; omega⟩, by dsimp only; omega⟩
        | true =>
          rw [hfj, if_pos rfl] at hsu
          refine r_yes rfl rfl ?_
          (repeat first|refine zA ?_|refine zB ?_|refine zC ?_|refine zD ?_|refine zE ?_|refine zg ?_|refine zo rfl rfl (by first|exact trivial|(simp only[AllP];omega)|(simp(discharger:=omega)only[AllP,cA,cB];omega)|(simp only[AllP,cC,cD,cE,cF,cG];omega)) ?_|refine zn ?_|refine zb ?_|refine ze rfl ?_|refine zr ?_|refine zk ?_|refine zT rfl rfl rfl ?_|refine zU rfl rfl rfl ?_|refine zV rfl rfl rfl ?_|refine zf rfl ?_|refine zt rfl ?_)
          refine o_buildSlice [I (j : Int)] rfl (by simp [Value.oneCell']) rfl (by decide) (by decide) rfl rfl rfl rfl rfl ?_
          intro b8 w8 hb8 hu8
          have k8 : Kp [] w7 w8 := hu8.kp [] (.inr (by omega))
          refine o_append1 rfl rfl (ho7.kp k8 (by simp)) hu8.blk rfl rfl rfl rfl (by simp only [maxLen]; omega) (by omega) rfl rfl ?_
          intro ad9 cap9 w9 ho9 k9 hnew9
          have z7 := k7.size
          have z8 := k8.size
          (repeat first|refine zA ?_|refine zB ?_|refine zC ?_|refine zD ?_|refine zE ?_|refine zg ?_|refine zo rfl rfl (by first|exact trivial|(simp only[AllP];omega)|(simp(discharger:=omega)only[AllP,cA,cB];omega)|(simp only[AllP,cC,cD,cE,cF,cG];omega)) ?_|refine zn ?_|refine zb ?_|refine ze rfl ?_|refine zr ?_|refine zk ?_|refine zT rfl rfl rfl ?_|refine zU rfl rfl rfl ?_|refine zV rfl rfl rfl ?_|refine zf rfl ?_|refine zt rfl ?_)
          refine ⟨(j + 1, ad9, cap9), by dsimp only; rw [hsu, List.length_append]; rfl, ⟨?_, (k7.trans k8).since k9 hnw7, fun b hb => ?_, by dsimp only; omega⟩, by dsimp only; omega⟩
          · dsimp only
            rw [hsu, List.length_append, List.map_append]
            exact ho9
          · dsimp only at hb
            rcases hnew9 b hb with q | q
            · exact hnw7 b q
            · omega
      · have hj3 : j = 3 := by omega
        subst hj3
        (repeat first|refine zA ?_|refine zB ?_|refine zC ?_|refine zD ?_|refine zE ?_|refine zg ?_|refine zo rfl rfl (by first|exact trivial|(simp only[AllP];omega)|(simp(discharger:=omega)only[AllP,cA,cB];omega)|(simp only[AllP,cC,cD,cE,cF,cG];omega)) ?_|refine zn ?_|refine zb ?_|refine ze rfl ?_|refine zr ?_|refine zk ?_|refine zT rfl rfl rfl ?_|refine zU rfl rfl rfl ?_|refine zV rfl rfl rfl ?_|refine zf rfl ?_|refine zt rfl ?_)
        have hr7 := ho7.read
        have es : selN f 3 = sel f := rfl
        rw [es] at hr7 ⊢
        have k27 := k26.trans k7
        have hBm7 := k27.blk (by simp) hBm
        have hBv7 := k7.blk (by simp) hBv
        have hKl7 := hKl.kp k7 (by simp)
        rw [map_encI] at hr7 hKl7
        refine r_seq ?_
        refine r_quietS follows_mixed (by kernel_rfl) ?_
        (repeat first|refine yo rfl rfl (by first|exact trivial|(simp only[AllP];omega)|(simp(discharger:=omega)only[AllP,cA,cB];omega)|(simp only[AllP,cC,cD,cE,cF,cG];omega)) ?_|refine yn ?_|refine q_know _ _ (some true) rfl rfl rfl ?_|refine q_know _ _ (some false) rfl rfl rfl ?_|refine q_know _ _ none rfl rfl rfl ?_)
        refine q_load (b := bm) (off := v) (v := .bool (A.m v)) (by show Value.pointer (some ⟨bm, 0 + (v : Int).toNat, none⟩) = _; rw [Nat.zero_add, Int.toNat_natCast]) (fun w hs => (hs.blk hBm7).cell (bl_get _ hv2)) rfl rfl rfl rfl ?_
        (repeat first|refine yo rfl rfl (by first|exact trivial|(simp only[AllP];omega)|(simp(discharger:=omega)only[AllP,cA,cB];omega)|(simp only[AllP,cC,cD,cE,cF,cG];omega)) ?_|refine yn ?_|refine q_know _ _ (some true) rfl rfl rfl ?_|refine q_know _ _ (some false) rfl rfl rfl ?_|refine q_know _ _ none rfl rfl rfl ?_)
        refine q_is false 5 false rfl rfl rfl (by simp) ?_
        (repeat first|refine yo rfl rfl (by first|exact trivial|(simp only[AllP];omega)|(simp(discharger:=omega)only[AllP,cA,cB];omega)|(simp only[AllP,cC,cD,cE,cF,cG];omega)) ?_|refine yn ?_|refine q_know _ _ (some true) rfl rfl rfl ?_|refine q_know _ _ (some false) rfl rfl rfl ?_|refine q_know _ _ none rfl rfl rfl ?_)
        refine q_call (.bool true) (fun w1 hs => (same23_yes (l := (sel f).map fun (n : Nat) => (n : Int)) (hKl7.kp (hs.kp []) (by simp)) (hr7.kp (hs.kp []) (by simp)) (by simp) (by simp) (by omega)).mono fun v' w' ⟨q1, q2⟩ => ⟨q1, hs.trans q2⟩) Tryd.call12 rfl rfl rfl ?_
        (repeat first|refine yo rfl rfl (by first|exact trivial|(simp only[AllP];omega)|(simp(discharger:=omega)only[AllP,cA,cB];omega)|(simp only[AllP,cC,cD,cE,cF,cG];omega)) ?_|refine yn ?_|refine q_know _ _ (some true) rfl rfl rfl ?_|refine q_know _ _ (some false) rfl rfl rfl ?_|refine q_know _ _ none rfl rfl rfl ?_)
        refine q_load (b := bv) (off := 0) (v := I (if A.m v = true then 1 else 0)) rfl (fun w hs => (hs.blk hBv7).cell rfl) rfl rfl rfl rfl ?_
        (repeat first|refine yo rfl rfl (by first|exact trivial|(simp only[AllP];omega)|(simp(discharger:=omega)only[AllP,cA,cB];omega)|(simp only[AllP,cC,cD,cE,cF,cG];omega)) ?_|refine yn ?_|refine q_know _ _ (some true) rfl rfl rfl ?_|refine q_know _ _ (some false) rfl rfl rfl ?_|refine q_know _ _ none rfl rfl rfl ?_)
        refine q_load (b := bm) (off := v) (v := .bool (A.m v)) (by show Value.pointer (some ⟨bm, 0 + (v : Int).toNat, none⟩) = _; rw [Nat.zero_add, Int.toNat_natCast]) (fun w hs => (hs.blk hBm7).cell (bl_get _ hv2)) rfl rfl rfl rfl ?_
        (repeat first|refine yo rfl rfl (by first|exact trivial|(simp only[AllP];omega)|(simp(discharger:=omega)only[AllP,cA,cB];omega)|(simp only[AllP,cC,cD,cE,cF,cG];omega)) ?_|refine yn ?_|refine q_know _ _ (some true) rfl rfl rfl ?_|refine q_know _ _ (some false) rfl rfl rfl ?_|refine q_know _ _ none rfl rfl rfl ?_)
        refine q_is false 24 false rfl rfl rfl (by cases A.m v <;> rfl) ?_
        (repeat first|refine yo rfl rfl (by first|exact trivial|(simp only[AllP];omega)|(simp(discharger:=omega)only[AllP,cA,cB];omega)|(simp only[AllP,cC,cD,cE,cF,cG];omega)) ?_|refine yn ?_|refine q_know _ _ (some true) rfl rfl rfl ?_|refine q_know _ _ (some false) rfl rfl rfl ?_|refine q_know _ _ none rfl rfl rfl ?_)
        refine q_load (b := bv) (off := 1) (v := I 0) rfl (fun w hs => (hs.blk hBv7).cell rfl) rfl rfl rfl rfl ?_
        (repeat first|refine yo rfl rfl (by first|exact trivial|(simp only[AllP];omega)|(simp(discharger:=omega)only[AllP,cA,cB];omega)|(simp only[AllP,cC,cD,cE,cF,cG];omega)) ?_|refine yn ?_|refine q_know _ _ (some true) rfl rfl rfl ?_|refine q_know _ _ (some false) rfl rfl rfl ?_|refine q_know _ _ none rfl rfl rfl ?_)
        refine q_load (b := bv) (off := 2) (v := .slice ad4 0 cap4) rfl (fun w hs => (hs.blk hBv7).cell rfl) rfl rfl rfl rfl ?_
        (repeat first|refine yo rfl rfl (by first|exact trivial|(simp only[AllP];omega)|(simp(discharger:=omega)only[AllP,cA,cB];omega)|(simp only[AllP,cC,cD,cE,cF,cG];omega)) ?_|refine yn ?_|refine q_know _ _ (some true) rfl rfl rfl ?_|refine q_know _ _ (some false) rfl rfl rfl ?_|refine q_know _ _ none rfl rfl rfl ?_)
        intro w8 hs8
        (repeat first|refine zA ?_|refine zB ?_|refine zC ?_|refine zD ?_|refine zE ?_|refine zg ?_|refine zo rfl rfl (by first|exact trivial|(simp only[AllP];omega)|(simp(discharger:=omega)only[AllP,cA,cB];omega)|(simp only[AllP,cC,cD,cE,cF,cG];omega)) ?_|refine zn ?_|refine zb ?_|refine ze rfl ?_|refine zr ?_|refine zk ?_|refine zT rfl rfl rfl ?_|refine zU rfl rfl rfl ?_|refine zV rfl rfl rfl ?_|refine zf rfl ?_|refine zt rfl ?_)
        exact ⟨v + 1, rfl, ⟨by omega, k27.trans (hs8.kp [])⟩, by omega⟩
    · (repeat first|refine zA ?_|refine zB ?_|refine zC ?_|refine zD ?_|refine zE ?_|refine zg ?_|refine zo rfl rfl (by first|exact trivial|(simp only[AllP];omega)|(simp(discharger:=omega)only[AllP,cA,cB];omega)|(simp only[AllP,cC,cD,cE,cF,cG];omega)) ?_|refine zn ?_|refine zb ?_|refine ze rfl ?_|refine zr ?_|refine zk ?_|refine zT rfl rfl rfl ?_|refine zU rfl rfl rfl ?_|refine zV rfl rfl rfl ?_|refine zf rfl ?_|refine zt rfl ?_)
      have h2 := hS1.kp0 kv
      have hW := kWarned_ret h2.at_
      rw [h2.V, al_warned hAl1] at hW
      refine o_call hW rfl rfl rfl ?_
      rintro _ w3 ⟨ad3, cap3, rfl, ho3, k3', hn3⟩
      (repeat first|refine zA ?_|refine zB ?_|refine zC ?_|refine zD ?_|refine zE ?_|refine zg ?_|refine zo rfl rfl (by first|exact trivial|(simp only[AllP];omega)|(simp(discharger:=omega)only[AllP,cA,cB];omega)|(simp only[AllP,cC,cD,cE,cF,cG];omega)) ?_|refine zn ?_|refine zb ?_|refine ze rfl ?_|refine zr ?_|refine zk ?_|refine zT rfl rfl rfl ?_|refine zU rfl rfl rfl ?_|refine zV rfl rfl rfl ?_|refine zf rfl ?_|refine zt rfl ?_)
      exact ⟨_, rfl, rfl, (hkk.trans kv).trans k3'⟩
theorem locksetAlone_walk (hT : TabW w) {ad : Option Addr} {len cap : Nat} {zs : List Int} (h : IsRow .i64 w ad len cap zs) (hb : zs.length ≤ 1048576) :
    Calls Tryd.prog 3 #[.slice ad len cap] w (fun e w' => e = .returned (.bool true) ∧ RowKit.Below w.heap.size w w') := by
  obtain ⟨h1, h2, _⟩ := h.ints
  have := Alone_ret hT (c := cap) h1 (by simp; omega)
  rw [h2] at this
  exact this.calls
end Go.Vc
