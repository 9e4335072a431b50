/- abreastref20: Flags. -/
import Derived.Test.YtkgjibhbhddckaaQClTells39
namespace Go.Vc
open Go Go.Proofs
set_option maxRecDepth 10000
variable {w : World}
/-- the list in the making: x laid ahead of the first greater one, if one is met -/
def mV (x : F2) (a : List F2) : List F2 := if a.any (fun y => decide (x.1 < y.1)) then insF x a else a
theorem insF_app {x : F2} : ∀ {a b : List F2}, a.any (fun y => decide (x.1 < y.1)) = true → insF x (a ++ b) = insF x a ++ b
  | [], b, h => by simp at h
  | y :: r, b, h => by
    rw [List.cons_append]
    unfold insF
    split
    · simp
    · rename_i hlt
      rw [insF_app]
      · simp
      · simp only [List.any_cons, Bool.or_eq_true, decide_eq_true_eq] at h
        rcases h with h | h
        · exact absurd h hlt
        · exact h
theorem insF_none {x : F2} : ∀ {a : List F2} (b : List F2), a.any (fun y => decide (x.1 < y.1)) = false → insF x (a ++ b) = a ++ insF x b
  | [], b, h => rfl
  | y :: r, b, h => by
    simp only [List.any_cons, Bool.or_eq_false_iff, decide_eq_false_iff_not] at h
    rw [List.cons_append, insF, if_neg h.1, insF_none b h.2]; rfl
theorem mV_laid {x y : F2} {a : List F2} (h : a.any (fun y => decide (x.1 < y.1)) = true) : mV x (a ++ [y]) = mV x a ++ [y] := by
  unfold mV
  rw [List.any_append, h, if_pos rfl, if_pos (by simp), insF_app h]
theorem mV_lay {x y : F2} {a : List F2} (h : a.any (fun y => decide (x.1 < y.1)) = false) (hy : x.1 < y.1) : mV x (a ++ [y]) = mV x a ++ [x] ++ [y] := by
  have h2 : (a ++ [y]).any (fun y => decide (x.1 < y.1)) = true := by rw [List.any_append, h]; simp [hy]
  unfold mV
  rw [if_pos h2, if_neg (by rw [h]; simp), insF_none _ h]
  simp [insF, hy]
theorem mV_not {x y : F2} {a : List F2} (h : a.any (fun y => decide (x.1 < y.1)) = false) (hy : ¬ x.1 < y.1) : mV x (a ++ [y]) = mV x a ++ [y] := by
  have h2 : (a ++ [y]).any (fun y => decide (x.1 < y.1)) = false := by rw [List.any_append, h]; simp; omega
  unfold mV
  rw [if_neg (by rw [h2]; simp), if_neg (by rw [h]; simp)]
theorem mV_end {x : F2} {a : List F2} : insF x a = mV x a ++ (if a.any (fun y => decide (x.1 < y.1)) then [] else [x]) := by
  unfold mV
  cases h : a.any (fun y => decide (x.1 < y.1)) with
  | true => simp
  | false =>
    have := insF_none (x := x) [] h
    rw [List.append_nil] at this
    rw [this]; simp [insF]
theorem mV_len (x : F2) (a : List F2) : (mV x a).length ≤ a.length + 1 := by
  unfold mV
  split
  · rw [(insF_perm x a).length_eq]; simp
  · omega
theorem refGo_le (n : Int) : ∀ (L : List P3) (a : List F2), (refGo n a L).length ≤ a.length + L.length
  | [], _ => by simp [refGo]
  | x :: r, a => by
    unfold refGo
    split
    · simp
    · split
      · have := refGo_le n r a; simp; omega
      · have := refGo_le n r (insF (x.1, (x.2.2 : Int)) a); rw [(insF_perm _ a).length_eq] at this; simp at this ⊢; omega
theorem any_snoc {α : Type} (p : α → Bool) (a : List α) (y : α) : (a ++ [y]).any p = (a.any p || p y) := by simp
section
variable {pb : Option Addr} {E : List Ev} {R : List Int}
set_option maxHeartbeats 12800000 in
theorem yFlags_ret (h : RaV w (.pointer pb) E R) (n : Int) : Ret Try.prog 36 [.pointer pb, I n] w (fun r w' => ∃ ad cap, r = .slice ad (flagsV E R n).length cap ∧ OwnS w' 68 2 ad (flagsV E R n).length cap (flgsC (flagsV E R n)) ∧ Kp [] w w' ∧ ∀ b, b ∈ blkOf ad → w.heap.size ≤ b) := by
  have hsm := racesN_small R h.small
  unfold flagsV
  refine enter Try.call36 Try.func36 rfl rfl rfl rfl ?_
  (repeat first|refine zA ?_|refine zg ?_|refine zo rfl rfl trivial ?_|refine zn ?_)
  refine o_call (yAll_ret h) rfl rfl rfl ?_
  rintro q w1 ⟨ad, cap, rfl, ho, k1, hn1⟩
  generalize hL : racesN E R E.length = L at *
  have z1 := k1.size
  (repeat first|refine zA ?_|refine zB ?_|refine zg ?_|refine zo rfl rfl trivial ?_|refine zn ?_|refine zb ?_)
  refine r_loop (α := Nat × List F2 × Option Addr × Nat) [1, 5, 6, 7] (fun x => [I n, .slice x.2.2.1 x.2.1.length x.2.2.2, .slice ad L.length cap, I x.1])
    (fun x W => x.1 ≤ L.length ∧ refGo n [] L = refGo n x.2.1 (L.drop x.1) ∧ x.2.1.length ≤ x.1 ∧ OwnS W 68 2 x.2.2.1 x.2.1.length x.2.2.2 (flgsC x.2.1) ∧ Kp [] w1 W ∧ ∀ b, b ∈ blkOf x.2.2.1 → w1.heap.size ≤ b) (fun x => L.length - x.1) (0, [], none, 0) rfl ⟨by omega, rfl, by simp, ownS_nil _ _ _, Kp.refl _ _, by simp [blkOf]⟩ ?_
  rintro ⟨i, acc, ax, cx⟩ e W ⟨hi, hgo, hal, hoW, kW, hnW⟩
  dsimp only at hi hgo hal hoW hnW ⊢
  have fin : refGo n [] L = acc → ∃ ad' cap', Value.slice ax acc.length cx = Value.slice ad' (refGo n [] L).length cap' ∧ OwnS W 68 2 ad' (refGo n [] L).length cap' (flgsC (refGo n [] L)) ∧ Kp [] w W ∧ ∀ b, b ∈ blkOf ad' → w.heap.size ≤ b := fun hq =>
    ⟨ax, cx, by rw [hq], by rw [hq]; exact hoW, k1.trans kW, fun b hb => by have := hnW b hb; omega⟩
  (repeat first|refine zA ?_|refine zB ?_|refine zg ?_|refine zo rfl rfl trivial ?_|refine zn ?_)
  refine r_if rfl (fun hc => ?_) (fun hc => ?_)
  · have hlt : i < L.length := by omega
    obtain ⟨x, hx⟩ : ∃ x, L[i]? = some x := ⟨_, List.getElem?_eq_getElem hlt⟩
    have hdrop : L.drop i = x :: L.drop (i + 1) := by
      rw [List.drop_eq_getElem_cons hlt]
      rw [List.getElem?_eq_getElem hlt] at hx
      cases hx; rfl
    rw [hdrop] at hgo
    have hrd : ∀ W', Kp [] w1 W' → ∃ b3 o3, ad = some ⟨b3, o3, none⟩ ∧ ∀ j v, (pairC x)[j]? = some v → W'.cell? ⟨b3, o3 + i * 3 + j, none⟩ = some v := fun W' k' => by
      obtain ⟨b3, o3, h1, _, hcell⟩ := (ho.readN.kp k' (by simp)).at_ (by rw [prsC_len]; omega)
      exact ⟨b3, o3, h1, fun j v hv => by rw [Nat.add_assoc]; exact hcell _ _ (prsC_get hx hv)⟩
    obtain ⟨b3, o3, rfl, hcell⟩ := hrd W kW
    have hce : ∀ W', Kp [] w1 W' → ∀ j v, (pairC x)[j]? = some v → W'.cell? ⟨b3, o3 + i * 3 + j, none⟩ = some v := fun W' k' => by
      obtain ⟨b3', o3', h1, h2⟩ := hrd W' k'
      cases h1; exact h2
    clear hrd
    (repeat first|refine zA ?_|refine zB ?_|refine zC ?_|refine zg ?_|refine zo rfl rfl (by first|exact trivial|(simp only[AllP];omega)) ?_|refine zb ?_|refine zk ?_)
    refine o_loadc (b := b3) (off := o3 + i * 3 + 2) (v := I (x.2.2 : Int)) rfl (hcell 2 _ rfl) rfl rfl rfl rfl ?_
    (repeat first|refine zo rfl rfl trivial ?_|refine zn ?_)
    refine r_if (p := n ≤ (x.2.2 : Int)) rfl (fun hbr => ?_) (fun hbr => ?_)
    · have hq : refGo n [] L = acc := by rw [hgo, refGo, if_pos hbr]
      (repeat first|refine zA ?_|refine zg ?_|refine zo rfl rfl trivial ?_|refine zn ?_|refine ze rfl ?_|refine zr ?_)
      exact ⟨_, rfl, fin hq⟩
    have hgo2 : refGo n [] L = refGo n (if acc.any (fun y => decide (y.1 = x.1)) then acc else insF (x.1, (x.2.2 : Int)) acc) (L.drop (i + 1)) := by rw [hgo, refGo, if_neg hbr]
    generalize hxf : ((x.1, (x.2.2 : Int)) : F2) = xf at hgo2
    have hx1 : xf.1 = x.1 := by rw [← hxf]
    have hx2 : xf.2 = (x.2.2 : Int) := by rw [← hxf]
    have hxC : flgC xf = [I x.1, I (x.2.2 : Int)] := by show [I xf.1, I xf.2] = _; rw [hx1, hx2]
    have hzW := kW.size
    (repeat first|refine zA ?_|refine zB ?_|refine zg ?_|refine zo rfl rfl trivial ?_|refine zn ?_|refine zb ?_|refine zk ?_)
    refine r_loop (α := Nat × Option Addr × Nat) [1, 5, 6, 7, 8, 9, 10, 11] (fun y => [I n, .slice ax acc.length cx, .slice (some ⟨b3, o3, none⟩) L.length cap, I i, .slice y.2.1 (mV xf (acc.take y.1)).length y.2.2, .bool ((acc.take y.1).any (fun y => decide (xf.1 < y.1))), .bool ((acc.take y.1).any (fun y => decide (y.1 = x.1))), I y.1])
      (fun y W' => y.1 ≤ acc.length ∧ OwnS W' 68 2 y.2.1 (mV xf (acc.take y.1)).length y.2.2 (flgsC (mV xf (acc.take y.1))) ∧ Kp [] W W' ∧ ∀ b, b ∈ blkOf y.2.1 → W.heap.size ≤ b) (fun y => acc.length - y.1) (0, none, 0) rfl ⟨by omega, ownS_nil _ _ _, Kp.refl _ _, by simp [blkOf]⟩ ?_
    rintro ⟨k, ay, cy⟩ e W2 ⟨hk, hoM, kW2, hnM⟩
    dsimp only at hk hoM hnM ⊢
    have hml := mV_len xf (acc.take k)
    rw [List.length_take] at hml
    (repeat first|refine zA ?_|refine zB ?_|refine zg ?_|refine zo rfl rfl trivial ?_|refine zn ?_)
    refine r_if rfl (fun hc2 => ?_) (fun hc2 => ?_)
    · have hkl : k < acc.length := by omega
      obtain ⟨y, hy⟩ : ∃ y, acc[k]? = some y := ⟨_, List.getElem?_eq_getElem hkl⟩
      have htk : acc.take (k + 1) = acc.take k ++ [y] := by rw [List.take_add_one, hy]; rfl
      have hanyS : ∀ p : F2 → Bool, (acc.take (k + 1)).any p = ((acc.take k).any p || p y) := fun p => by rw [htk, any_snoc]
      obtain ⟨b4, o4, rfl, hcell4⟩ : ∃ b4 o4, ax = some ⟨b4, o4, none⟩ ∧ True := by
        obtain ⟨b4, o4, h1, _⟩ := hoW.readN.at_ (by rw [flgsC_len]; omega)
        exact ⟨b4, o4, h1, trivial⟩
      have hfc : ∀ W', Kp [] W W' → ∀ j v, (flgC y)[j]? = some v → W'.cell? ⟨b4, o4 + k * 2 + j, none⟩ = some v := fun W' k' j v hv => by
        obtain ⟨b4', o4', h1, _, h3⟩ := (hoW.readN.kp k' (by simp)).at_ (by rw [flgsC_len]; omega)
        cases h1
        rw [Nat.add_assoc]
        exact h3 _ _ (flgsC_get hy hv)
      (repeat first|refine zC ?_|refine zb ?_|refine zk ?_)
      refine r_seq ?_
      refine r_bool [1, 5, 6, 7, 8, 9, 11] [I n, .slice (some ⟨b4, o4, none⟩) acc.length cx, .slice (some ⟨b3, o3, none⟩) L.length cap, I i, .slice ay (mV xf (acc.take k)).length cy, .bool ((acc.take k).any (fun y => decide (xf.1 < y.1))), I k] 10 ((acc.take (k + 1)).any (fun y => decide (y.1 = x.1))) (fun w' => Sm W2 w') ?_ ?_
      · rw [hanyS]
        generalize (acc.take k).any (fun y => decide (y.1 = x.1)) = bt
        refine r_quietS follows_mixed (by kernel_rfl) ?_
        cases bt with
        | true =>
          (repeat first|refine yo rfl rfl trivial ?_|refine yn ?_|refine q_know _ _ (some true) rfl rfl rfl ?_)
          intro W' s
          exact ⟨rfl, ⟨_, rfl, by simp⟩, s⟩
        | false =>
          (repeat first|refine yo rfl rfl (by first|exact trivial|(simp only[AllP];omega)) ?_|refine q_know _ _ (some false) rfl rfl rfl ?_)
          refine q_load (b := b4) (off := o4 + k * 2 + 0) (v := I y.1) rfl (fun W' s => hfc W' (kW2.trans (s.kp [])) 0 _ rfl) rfl rfl rfl rfl ?_
          (repeat refine yo rfl rfl (by first|exact trivial|(simp only[AllP];omega)) ?_)
          refine q_load (b := b3) (off := o3 + i * 3 + 0) (v := I x.1) rfl (fun W' s => hce W' ((kW.trans kW2).trans (s.kp [])) 0 _ rfl) rfl rfl rfl rfl ?_
          (repeat first|refine yo rfl rfl trivial ?_|refine yn ?_)
          intro W' s
          exact ⟨rfl, ⟨_, rfl, by simp⟩, s⟩
      intro e W3 s3
      have k3 := kW2.trans (s3.kp [])
      have hoM3 := hoM.kp (s3.kp []) (by simp)
      refine r_seq ?_
      refine r_seq ?_
      refine r_bool [1, 5, 6, 7, 8, 9, 10, 11] [I n, .slice (some ⟨b4, o4, none⟩) acc.length cx, .slice (some ⟨b3, o3, none⟩) L.length cap, I i, .slice ay (mV xf (acc.take k)).length cy, .bool ((acc.take k).any (fun y => decide (xf.1 < y.1))), .bool ((acc.take (k + 1)).any (fun y => decide (y.1 = x.1))), I k] 61 (!((acc.take k).any (fun y => decide (xf.1 < y.1))) && decide (xf.1 < y.1)) (fun w' => Sm W3 w') ?_ ?_
      · generalize (acc.take k).any (fun y => decide (xf.1 < y.1)) = bl
        refine r_quietS follows_mixed (by kernel_rfl) ?_
        cases bl with
        | true =>
          (repeat first|refine yo rfl rfl trivial ?_|refine yn ?_|refine q_know _ _ (some false) rfl rfl rfl ?_)
          intro W' s
          exact ⟨rfl, ⟨_, rfl, by simp⟩, s⟩
        | false =>
          (repeat first|refine yo rfl rfl (by first|exact trivial|(simp only[AllP];omega)) ?_|refine q_know _ _ (some true) rfl rfl rfl ?_)
          refine q_load (b := b4) (off := o4 + k * 2 + 0) (v := I y.1) rfl (fun W' s => hfc W' (k3.trans (s.kp [])) 0 _ rfl) rfl rfl rfl rfl ?_
          (repeat refine yo rfl rfl (by first|exact trivial|(simp only[AllP];omega)) ?_)
          refine q_load (b := b3) (off := o3 + i * 3 + 0) (v := I x.1) rfl (fun W' s => hce W' ((kW.trans k3).trans (s.kp [])) 0 _ rfl) rfl rfl rfl rfl ?_
          (repeat first|refine yo rfl rfl trivial ?_|refine yn ?_)
          intro W' s
          exact ⟨rfl, ⟨_, rfl, by rw [hx1]; simp⟩, s⟩
      intro e W4 s4
      have k4 := k3.trans (s4.kp [])
      have hoM4 := hoM3.kp (s4.kp []) (by simp)
      refine r_cut (α := List F2 × Option Addr × Nat) [1, 5, 6, 7, 8, 9, 10, 11] (fun y => [I n, .slice (some ⟨b4, o4, none⟩) acc.length cx, .slice (some ⟨b3, o3, none⟩) L.length cap, I i, .slice y.2.1 y.1.length y.2.2, .bool ((acc.take (k + 1)).any (fun y => decide (xf.1 < y.1))), .bool ((acc.take (k + 1)).any (fun y => decide (y.1 = x.1))), I k])
        (fun z W' => z.1 ++ [y] = mV xf (acc.take (k + 1)) ∧ z.1.length ≤ 4194310 ∧ OwnS W' 68 2 z.2.1 z.1.length z.2.2 (flgsC z.1) ∧ Kp [] W W' ∧ ∀ b, b ∈ blkOf z.2.1 → W.heap.size ≤ b) ?_ ?_
      · cases hlaid : (acc.take k).any (fun y => decide (xf.1 < y.1)) with
        | true =>
          have hs : (acc.take (k + 1)).any (fun y => decide (xf.1 < y.1)) = true := by rw [hanyS, hlaid]; rfl
          refine r_no rfl rfl ?_
          (repeat refine zk ?_)
          refine ⟨(mV xf (acc.take k), ay, cy), by dsimp only; rw [hs]; rfl, ?_, by dsimp only; omega, hoM4, k4, hnM⟩
          dsimp only
          rw [htk, mV_laid hlaid]
        | false =>
          by_cases hlt2 : xf.1 < y.1
          rotate_left
          · have hs : (acc.take (k + 1)).any (fun y => decide (xf.1 < y.1)) = false := by rw [hanyS, hlaid, decide_eq_false hlt2]; rfl
            refine r_no rfl (by rw [decide_eq_false hlt2]; rfl) ?_
            (repeat refine zk ?_)
            refine ⟨(mV xf (acc.take k), ay, cy), by dsimp only; rw [hs]; rfl, ?_, by dsimp only; omega, hoM4, k4, hnM⟩
            dsimp only
            rw [htk, mV_not hlaid hlt2]
          · have hs : (acc.take (k + 1)).any (fun y => decide (xf.1 < y.1)) = true := by rw [hanyS, hlaid, decide_eq_true hlt2]; rfl
            refine r_yes rfl (by rw [decide_eq_true hlt2]; rfl) ?_
            refine r_seq ?_
            refine r_mix (fun w' => Kp (blkOf ay) W4 w') [(0, false), (1, false), (2, false), (3, false), (4, false), (5, false), (6, false), (7, false), (8, false), (9, false), (10, false), (11, false), (12, true), (13, true), (14, false)] follows_mixed (by kernel_rfl) (by kernel_rfl) (by kernel_rfl) ((Sm.drew W4).kp _) ?_
            have kd := (Sm.drew W4).kp []
            have kdS := (Sm.drew W4).kp (blkOf ay)
            generalize ({ W4 with drawn := W4.drawn + 1 } : World) = wd at kd kdS ⊢
            have k1d := (kW.trans k4)
            have hnM' : ∀ b, b ∈ blkOf ay → w1.heap.size ≤ b := fun b hb => by have := hnM b hb; omega
            (repeat refine xo rfl rfl (by first|exact trivial|(simp only[AllP];omega)) ?_)
            refine x_load (b := b3) (off := o3 + i * 3 + 0) (v := I x.1) rfl rfl (fun w' h' => hce w' (k1d.since h' hnM') 0 _ rfl) rfl rfl rfl rfl ?_
            (repeat refine xo rfl rfl (by first|exact trivial|(simp only[AllP];omega)) ?_)
            refine x_load (b := b3) (off := o3 + i * 3 + 2) (v := I (x.2.2 : Int)) rfl rfl (fun w' h' => hce w' (k1d.since h' hnM') 2 _ rfl) rfl rfl rfl rfl ?_
            refine x_build (flgC xf) rfl rfl rfl rfl rfl (by rw [hxC]; rfl) rfl rfl ?_
            refine x_act rfl ?_
            refine o_buildSliceN (flgC xf) rfl rfl rfl (by kernel_rfl) rfl rfl rfl rfl ?_
            intro b9 w9 hb9 hu9
            have k9 : Kp [] wd w9 := hu9.kp [] (.inr (by omega))
            refine o_nil ⟨.inr (kdS.trans (k9.mono (by simp))), ?_⟩
            refine x_act rfl ?_
            refine o_append (flgC xf) rfl rfl ((hoM4.kp kd (by simp)).kp k9 (by simp)) (fun m v hv => by rw [addr_lit, Nat.zero_add]; exact hu9.blk.cell hv) rfl rfl rfl (by omega) rfl (by omega) (by simp [Value.oneCell']) (by simp only [maxLen]; omega) (by omega) rfl rfl ?_
            intro ad' cap' w10 ho10 k10 hn10
            have z4 := k4.size
            have z5 := kd.size
            have z9 := k9.size
            refine o_nil ⟨.inr ((kdS.trans (k9.mono (by simp))).trans k10), ?_⟩
            (repeat first|refine xo rfl rfl trivial ?_|refine xn ?_)
            (repeat first|refine zg ?_|refine zo rfl rfl trivial ?_|refine zn ?_)
            refine ⟨(mV xf (acc.take k) ++ [xf], ad', cap'), by dsimp only; rw [hs, List.length_append]; rfl, ?_, by simp; omega, ?_, (k4.trans (kd.trans k9)).since k10 hnM, fun b hb => ?_⟩
            · dsimp only
              rw [htk, mV_lay hlaid hlt2]
            · dsimp only
              rw [List.length_append, flgsC_snoc]; exact ho10
            · rcases hn10 b hb with q | q
              · exact hnM b q
              · omega
      rintro ⟨m, az, cz⟩ e W5 ⟨hm, hml5, hoM5, k5, hnM5⟩
      dsimp only at hm hml5 hoM5 hnM5 ⊢
      (repeat first|refine zg ?_|refine zo rfl rfl (by first|exact trivial|(simp only[AllP];omega)) ?_)
      refine o_loadA (b := b4) (off := o4 + k * 2) (vs := flgC y) rfl (hfc W5 k5) rfl rfl rfl rfl rfl rfl ?_
      refine o_buildSliceN (flgC y) rfl rfl rfl (by kernel_rfl) rfl rfl rfl rfl ?_
      intro b9 w9 hb9 hu9
      have k9 : Kp [] W5 w9 := hu9.kp [] (.inr (by omega))
      refine o_append (flgC y) rfl rfl (hoM5.kp k9 (by simp)) (fun m v hv => by rw [addr_lit, Nat.zero_add]; exact hu9.blk.cell hv) rfl rfl rfl (by omega) rfl (by omega) (by simp [Value.oneCell']) (by simp only [maxLen]; omega) (by omega) rfl rfl ?_
      intro ad' cap' w10 ho10 k10 hn10
      have z5 := k5.size
      have z9 := k9.size
      (repeat first|refine zg ?_|refine zo rfl rfl (by first|exact trivial|(simp only[AllP];omega)) ?_|refine zn ?_)
      refine ⟨(k + 1, ad', cap'), by dsimp only; rw [← hm, List.length_append]; rfl, ⟨by dsimp only; omega, ?_, (k5.trans k9).since k10 hnM5, fun b hb => ?_⟩, by dsimp only; omega⟩
      · dsimp only
        rw [← hm, List.length_append, flgsC_snoc]; exact ho10
      · rcases hn10 b hb with q | q
        · exact hnM5 b q
        · omega
    have hkl : k = acc.length := by omega
    subst hkl
    rw [List.take_length] at hoM hml ⊢
    have hend := mV_end (x := xf) (a := acc)
    have k1W2 := kW.trans kW2
    have hnM' : ∀ b, b ∈ blkOf ay → w1.heap.size ≤ b := fun b hb => by have := hnM b hb; omega
    have zW2 := kW2.size
    -- so far: m; now what is left is laid behind
    (repeat first|refine zA ?_|refine zB ?_|refine zg ?_|refine zo rfl rfl trivial ?_|refine zn ?_|refine ze rfl ?_)
    refine r_cut (α := Option Addr × Nat) [1, 5, 6, 7, 8, 10] (fun y => [I n, .slice ax acc.length cx, .slice (some ⟨b3, o3, none⟩) L.length cap, I i, .slice y.1 (insF xf acc).length y.2, .bool (acc.any (fun y => decide (y.1 = x.1)))])
      (fun z W' => OwnS W' 68 2 z.1 (insF xf acc).length z.2 (flgsC (insF xf acc)) ∧ Kp [] W W' ∧ ∀ b, b ∈ blkOf z.1 → W.heap.size ≤ b) ?_ ?_
    · cases hlaid : acc.any (fun y => decide (xf.1 < y.1)) with
      | true =>
        rw [hlaid, if_pos rfl, List.append_nil] at hend
        refine r_no rfl rfl ?_
        (repeat refine zk ?_)
        exact ⟨(ay, cy), by dsimp only; rw [hend]; rfl, by dsimp only; rw [hend]; exact hoM, kW2, hnM⟩
      | false =>
        rw [hlaid, if_neg (by simp)] at hend
        refine r_yes rfl rfl ?_
        refine r_mix (fun w' => Kp (blkOf ay) W2 w') [(0, false), (1, false), (2, false), (3, false), (4, false), (5, false), (6, false), (7, false), (8, false), (9, false), (10, false), (11, false), (12, true), (13, true), (14, false)] follows_mixed (by kernel_rfl) (by kernel_rfl) (by kernel_rfl) ((Sm.drew W2).kp _) ?_
        have kd := (Sm.drew W2).kp []
        have kdS := (Sm.drew W2).kp (blkOf ay)
        generalize ({ W2 with drawn := W2.drawn + 1 } : World) = wd at kd kdS ⊢
        (repeat refine xo rfl rfl (by first|exact trivial|(simp only[AllP];omega)) ?_)
        refine x_load (b := b3) (off := o3 + i * 3 + 0) (v := I x.1) rfl rfl (fun w' h' => hce w' (k1W2.since h' hnM') 0 _ rfl) rfl rfl rfl rfl ?_
        (repeat refine xo rfl rfl (by first|exact trivial|(simp only[AllP];omega)) ?_)
        refine x_load (b := b3) (off := o3 + i * 3 + 2) (v := I (x.2.2 : Int)) rfl rfl (fun w' h' => hce w' (k1W2.since h' hnM') 2 _ rfl) rfl rfl rfl rfl ?_
        refine x_build (flgC xf) rfl rfl rfl rfl rfl (by rw [hxC]; rfl) rfl rfl ?_
        refine x_act rfl ?_
        refine o_buildSliceN (flgC xf) rfl rfl rfl (by kernel_rfl) rfl rfl rfl rfl ?_
        intro b9 w9 hb9 hu9
        have k9 : Kp [] wd w9 := hu9.kp [] (.inr (by omega))
        refine o_nil ⟨.inr (kdS.trans (k9.mono (by simp))), ?_⟩
        refine x_act rfl ?_
        refine o_append (flgC xf) rfl rfl ((hoM.kp kd (by simp)).kp k9 (by simp)) (fun m v hv => by rw [addr_lit, Nat.zero_add]; exact hu9.blk.cell hv) rfl rfl rfl (by omega) rfl (by omega) (by simp [Value.oneCell']) (by simp only [maxLen]; omega) (by omega) rfl rfl ?_
        intro ad' cap' w10 ho10 k10 hn10
        have z5 := kd.size
        have z9 := k9.size
        refine o_nil ⟨.inr ((kdS.trans (k9.mono (by simp))).trans k10), ?_⟩
        (repeat first|refine xo rfl rfl trivial ?_|refine xn ?_)
        refine ⟨(ad', cap'), by dsimp only; rw [hend, List.length_append]; rfl, ?_, (kW2.trans (kd.trans k9)).since k10 hnM, fun b hb => ?_⟩
        · dsimp only
          rw [hend, List.length_append, flgsC_snoc]; exact ho10
        · rcases hn10 b hb with q | q
          · exact hnM b q
          · omega
    rintro ⟨az, cz⟩ e W5 ⟨hoM5, k5, hnM5⟩
    dsimp only at hoM5 hnM5 ⊢
    have zz := k5.size
    (repeat first|refine zA ?_|refine zg ?_|refine zo rfl rfl trivial ?_|refine zn ?_)
    cases hth : acc.any (fun y => decide (y.1 = x.1)) with
    | true =>
      rw [hth, if_pos rfl] at hgo2
      refine r_no rfl rfl ?_
      (repeat first|refine zg ?_|refine zo rfl rfl (by first|exact trivial|(simp only[AllP];omega)) ?_|refine zn ?_|refine zk ?_)
      exact ⟨(i + 1, acc, ax, cx), rfl, ⟨by dsimp only; omega, hgo2, by dsimp only; omega, hoW.kp k5 (by simp), kW.trans k5, hnW⟩, by dsimp only; omega⟩
    | false =>
      rw [hth, if_neg (by simp)] at hgo2
      refine r_yes rfl rfl ?_
      (repeat first|refine zg ?_|refine zo rfl rfl (by first|exact trivial|(simp only[AllP];omega)) ?_|refine zn ?_)
      refine ⟨(i + 1, insF xf acc, az, cz), rfl, ⟨by dsimp only; omega, hgo2, ?_, hoM5, kW.trans k5, fun b hb => by have := hnM5 b hb; omega⟩, by dsimp only; omega⟩
      dsimp only
      rw [(insF_perm xf acc).length_eq]; simp; omega
  · have hq : refGo n [] L = acc := by rw [hgo, List.drop_eq_nil_of_le (by omega)]; rfl
    (repeat first|refine zA ?_|refine zg ?_|refine zo rfl rfl trivial ?_|refine zn ?_|refine ze rfl ?_|refine zr ?_)
    exact ⟨_, rfl, fin hq⟩
end
end Go.Vc
