/- Query: works. -/
import Derived.Test.YtkgngbpkiklckaaGreatDoorQClQNames45
namespace Go.Vc
open Go Go.Proofs
set_option maxRecDepth 20000
variable {w : World}
theorem num30_ret (n : Int) : Ret Tryz.prog 13 [I n] w (fun v w' => v = I n ∧ w' = w) := by
  refine enter Tryz.call13 Tryz.func13 rfl rfl rfl rfl ?_
  (repeat first|refine zA ?_|refine zg ?_|refine zo rfl rfl trivial ?_|refine zn ?_|refine zr ?_)
  exact ⟨_, rfl, rfl, rfl⟩
/-! ### What is asked -/
def shW : Shp := ⟨1, 1, 0, 0, []⟩
def shW' : Shp := ⟨1, 0, 0, 0, []⟩
def evW : List Ev := [⟨1, 0, 0⟩, ⟨2, 0, 0⟩]
theorem okW : okTo shW evW evW.length := by
  intro j x hj he
  match j, hj with
  | 0, _ => simp [evW] at he; subst he; decide
  | 1, _ => simp [evW] at he; subst he; decide
theorem askW {R : List Int} : evq (qwO evW R) qt2 (fun _ => 0) = (1, 9) := by rfl
theorem textW : textM txt2 shW evW 100 = (⟨1, 1, false, 9⟩, 0, 0) := by
  have h : askM qt2.rows shW evW 100 = (⟨1, 1, false, 9⟩, 0) := by
    unfold askM
    rw [try2']
    show (if orderM shW evW = 0 then _ else _) = _
    rw [if_pos (orderM_ok rfl (by decide) okW), askW]
    rfl
  unfold textM
  rw [try2]
  show (if (askM qt2.rows shW evW 100).2 = 0 then ((askM qt2.rows shW evW 100).1, 0, 0) else _) = _
  rw [h]
  rfl
theorem textW' : textM txt3 shW' [] 100 = (rep0, 301, 3) := by
  unfold textM
  rw [try3]
set_option maxHeartbeats 6400000 in
theorem works_ret (hA : AscW w) (hP : PowQ w) : Ret Tryz.prog 10 [] w (fun v w' => v = .bool true ∧ Kp [] w w') := by
  obtain ⟨t, ht, hs⟩ := saysB_iff try1
  refine enter Tryz.call10 Tryz.func10 rfl rfl rfl rfl ?_
  (repeat first|refine zA ?_|refine zg ?_|refine zo rfl rfl trivial ?_|refine zn ?_)
  refine o_call (Parse_ret hA txt1 (by decide)) rfl rfl rfl ?_
  rintro v w1 ⟨hv, k1⟩
  rw [ht] at hv
  obtain ⟨ad, cap, rfl, hO, _⟩ := hv
  have hRows := rows_of ht (by decide) hO
  have hsz : t.size = t.rows.length := (QT.rows_len t).symm
  (repeat refine zo rfl rfl trivial ?_)
  refine o_alloc rfl rfl rfl rfl ?_
  intro b1 w2 e1 hu1
  refine o_alloc rfl rfl rfl rfl ?_
  intro b2 w3 e2 hu2
  have l1 := hu1.lt
  have n12 : b1 ≠ b2 := by omega
  refine o_storeA (b := b1) (cs := [.slice ad t.size cap]) rfl (hu2.kept n12 hu1.blk) (Nat.le_refl _) rfl (by simp [Value.oneCell']) rfl rfl rfl rfl ?_
  intro w4 hu4
  refine o_storeA (b := b2) (cs := [I 0, I 0]) rfl (hu4.kept n12.symm hu2.blk) (Nat.le_refl _) rfl (by simp [Value.oneCell']) rfl rfl rfl rfl ?_
  intro w5 hu5
  have g1 : Blk w5 b1 [.slice ad t.size cap] 24 := hu5.kept n12 hu4.blk
  have g2 : Blk w5 b2 [I 0, I 0] 38 := hu5.blk
  have k5 : Kp [] w1 w5 := ((((hu1.kp [] (.inr (by omega)))).trans (hu2.kp [] (.inr (by omega)))).since (hu4.kp [b1] (.inl (by simp))) (by simp; omega)).since (hu5.kp [b2] (.inl (by simp))) (by simp; omega)
  clear hu1 hu2 hu4 hu5
  (repeat first|refine zA ?_|refine zg ?_|refine zn ?_)
  refine o_loadA (vs := [.slice ad t.size cap]) rfl (fun j v hv => by rw [Nat.zero_add]; exact g1.cell hv) rfl rfl rfl rfl rfl rfl ?_
  rw [hsz]
  refine o_call (Print_ret (hA.kp (k1.trans k5) (by simp)) (hP.kp (k1.trans k5) (by simp)) (hRows.kp k5 (by simp))) rfl rfl rfl ?_
  rintro v w6 ⟨rfl, k6⟩
  have hpv : printV t.rows = (say1, 0) := by unfold printV; rw [hs]
  rw [hpv]
  have k06 := (k1.trans k5).trans k6
  have g26 := k6.blk (by simp) g2
  (repeat first|refine zA ?_|refine zg ?_|refine zo rfl rfl trivial ?_|refine zn ?_)
  refine o_build (shC shW none 0) rfl rfl rfl rfl rfl rfl rfl ?_
  refine o_build [I 1, I 0, I 0] rfl rfl rfl rfl rfl rfl rfl ?_
  refine o_build [I 2, I 0, I 0] rfl rfl rfl rfl rfl rfl rfl ?_
  refine o_buildSliceN (evsC evW) rfl rfl rfl (by kernel_rfl) rfl rfl rfl rfl ?_
  intro be w7 hbe hu7
  have k7 : Kp [] w6 w7 := hu7.kp [] (.inr (by omega))
  have k07 := k06.trans k7
  refine o_call (Text_ret (s := shW) (E := evW) (hA.kp k07 (by simp)) txt2 (by decide) (by simp [ReadS, shW]) (by decide) (ReadS.blk hu7.blk) (by decide)) rfl rfl rfl ?_
  rintro v w8 ⟨rfl, k8⟩
  rw [textW]
  have g28 := k8.blk (by simp) (k7.blk (by simp) g26)
  have k08 := k07.trans k8
  clear hu7
  (repeat refine zo rfl rfl trivial ?_)
  refine o_alloc rfl rfl rfl rfl ?_
  intro b5 w9 e5 hu9
  refine o_alloc rfl rfl rfl rfl ?_
  intro b6 w10 e6 hu10
  have l5 := hu9.lt
  have n56 : b5 ≠ b6 := by omega
  refine o_storeA (b := b5) (cs := repC ⟨1, 1, false, 9⟩) rfl (hu10.kept n56 hu9.blk) (Nat.le_refl _) rfl (by simp [Value.oneCell', repC]) rfl rfl rfl rfl ?_
  intro w11 hu11
  refine o_storeA (b := b6) (cs := [I 0, I 0]) rfl (hu11.kept n56.symm hu10.blk) (Nat.le_refl _) rfl (by simp [Value.oneCell']) rfl rfl rfl rfl ?_
  intro w12 hu12
  have k12 : Kp [] w8 w12 := ((((hu9.kp [] (.inr (by omega)))).trans (hu10.kp [] (.inr (by omega)))).since (hu11.kp [b5] (.inl (by simp))) (by simp; omega)).since (hu12.kp [b6] (.inl (by simp))) (by simp; omega)
  have g5 : Blk w12 b5 (repC ⟨1, 1, false, 9⟩) 45 := hu12.kept n56 hu11.blk
  have g6 : Blk w12 b6 [I 0, I 0] 38 := hu12.blk
  have g212 := k12.blk (by simp) g28
  have k012 := k08.trans k12
  clear hu9 hu10 hu11 hu12
  (repeat first|refine zA ?_|refine zg ?_|refine zn ?_)
  refine o_build (shC shW' none 0) rfl rfl rfl rfl rfl rfl rfl ?_
  refine o_call (Text_ret (s := shW') (E := []) (ead := none) (hA.kp k012 (by simp)) txt3 (by decide) (by simp [ReadS, shW']) (by decide) (by simp [ReadS, evsC]) (by decide)) rfl rfl rfl ?_
  rintro v w13 ⟨rfl, k13⟩
  rw [textW']
  have k013 := k012.trans k13
  have g213 := k13.blk (by simp) g212
  have g513 := k13.blk (by simp) g5
  have g613 := k13.blk (by simp) g6
  (repeat refine zo rfl rfl trivial ?_)
  refine o_alloc rfl rfl rfl rfl ?_
  intro b7 w14 e7 hu14
  refine o_alloc rfl rfl rfl rfl ?_
  intro b8 w15 e8 hu15
  have l7 := hu14.lt
  have n78 : b7 ≠ b8 := by omega
  refine o_storeA (b := b7) (cs := repC rep0) rfl (hu15.kept n78 hu14.blk) (Nat.le_refl _) rfl (by simp [Value.oneCell', repC]) rfl rfl rfl rfl ?_
  intro w16 hu16
  refine o_storeA (b := b8) (cs := [I 301, I 3]) rfl (hu16.kept n78.symm hu15.blk) (Nat.le_refl _) rfl (by simp [Value.oneCell']) rfl rfl rfl rfl ?_
  intro w17 hu17
  have k17 : Kp [] w13 w17 := ((((hu14.kp [] (.inr (by omega)))).trans (hu15.kp [] (.inr (by omega)))).since (hu16.kp [b7] (.inl (by simp))) (by simp; omega)).since (hu17.kp [b8] (.inl (by simp))) (by simp; omega)
  have h2 := k17.blk (by simp) g213
  have h5 := k17.blk (by simp) g513
  have h6 := k17.blk (by simp) g613
  have h8 : Blk w17 b8 [I 301, I 3] 38 := hu17.blk
  have k017 := k013.trans k17
  clear hu14 hu15 hu16 hu17
  (repeat first|refine zA ?_|refine zg ?_|refine zo rfl rfl trivial ?_|refine zn ?_)
  refine o_load rfl h2 rfl rfl rfl rfl rfl ?_
  (repeat first|refine zo rfl rfl trivial ?_|refine zT rfl rfl rfl ?_)
  refine o_call (num30_ret _) rfl rfl rfl ?_
  rintro v w18 ⟨rfl, rfl⟩
  (repeat first|refine zo rfl rfl trivial ?_|refine zT rfl rfl rfl ?_|refine o_load rfl h6 rfl rfl rfl rfl rfl ?_)
  refine o_loadA (vs := repC ⟨1, 1, false, 9⟩) rfl (fun j v hv => by rw [Nat.zero_add]; exact h5.cell hv) rfl rfl rfl rfl rfl rfl ?_
  refine o_build (repC ⟨1, 1, false, 9⟩) rfl rfl rfl rfl rfl rfl rfl ?_
  refine o_eqX (repC ⟨1, 1, false, 9⟩) (repC ⟨1, 1, false, 9⟩) rfl rfl rfl (by kernel_rfl) (by kernel_rfl) (by kernel_rfl) (by kernel_rfl) rfl rfl ?_
  (repeat first|refine zo rfl rfl trivial ?_|refine zT rfl rfl rfl ?_)
  refine o_loadA (vs := [I 301, I 3]) rfl (fun j v hv => by rw [Nat.zero_add]; exact h8.cell hv) rfl rfl rfl rfl rfl rfl ?_
  refine o_build [I 301, I 3] rfl rfl rfl rfl rfl rfl rfl ?_
  refine o_eqS [301, 3] [301, 3] rfl rfl rfl (by kernel_rfl) (by kernel_rfl) (by kernel_rfl) rfl rfl rfl rfl ?_
  (repeat first|refine zo rfl rfl trivial ?_|refine zn ?_|refine zr ?_)
  exact ⟨_, rfl, rfl, k017⟩
end Go.Vc
/- Query: QueryNames. -/
namespace Go.Vc
open Go Go.Proofs
set_option maxRecDepth 20000
variable {w : World}
theorem QueryNames_ret (hA : AscW w) (hP : PowQ w) : Ret Tryz.prog 7 [] w (fun v w' => v = .bool true ∧ Kp [] w w') := by
  refine enter Tryz.call7 Tryz.func7 rfl rfl rfl rfl ?_
  (repeat first|refine zA ?_|refine zD ?_|refine zg ?_|refine zo rfl rfl trivial ?_|refine zn ?_|refine zk ?_|refine zT rfl rfl rfl ?_|refine zf rfl ?_)
  refine o_call (works_ret hA hP) rfl rfl rfl ?_
  rintro v w1 ⟨rfl, k1⟩
  (repeat first|refine zo rfl rfl trivial ?_|refine zn ?_|refine zr ?_)
  exact ⟨_, rfl, rfl, k1⟩
theorem queryNames_walk (hA : AscW w) (hP : PowQ w) : Calls Tryz.prog 7 #[] w (fun e w' => e = .returned (.bool true) ∧ RowKit.Below w.heap.size w w') := (QueryNames_ret hA hP).calls
end Go.Vc
