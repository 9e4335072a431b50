/- Parts of a proof. -/
import Derived.Test.YtkgngbpkiklckaaGreatDoorQClQExact24
import Derived.Laws.StructEq
import Derived.ChangeKeysEq
import Derived.Laws.Tables
import Derived.Test.YtkgngbpkiklckaaGreatDoorQClQExact20
set_option maxHeartbeats 12800000
namespace Go.Vc
open Go Go.Proofs
set_option maxRecDepth 20000
section
variable {w : World} {s : Shp}
theorem newC_nz : ∀ t x, (newC s).T t = some x → x.ph ≠ 0 := fun t x h => by
 rcases Jj2 (show upT (fun _ => none) 0 (some ⟨1, 0, 0⟩) t = some x from h) with ⟨_, e⟩ | ⟨_, e⟩
 ·cases e; simp
 ·cases e
theorem thL_zero : (List.replicate s.th.toNat (⟨0, 0, 0⟩ : Std)) = thL s { newC s with T := fun _ => none } := by
 unfold thL st
 apply List.ext_getElem?
 intro i
 rw [List.getElem?_replicate, List.getElem?_map]
 by_cases hi : i < s.th.toNat
 ·rw [if_pos hi, List.getElem?_range hi]; rfl
 ·rw [if_neg hi, List.getElem?_eq_none (by simp; omega)]; rfl
theorem loL_zero : (List.replicate s.lo.toNat (-1 : Int)) = loL s (newC s) := by
 unfold loL
 apply List.ext_getElem?
 intro i
 rw [List.getElem?_replicate, List.getElem?_map]
 by_cases hi : i < s.lo.toNat
 ·rw [if_pos hi, List.getElem?_range hi]; rfl
 ·rw [if_neg hi, List.getElem?_eq_none (by simp; omega)]; rfl
theorem map_zero2 : ∀ l : List Int, List.replicate l.length ((0, 0) : Int × Int) = l.map fun _ => (0, 0)
 | [] => rfl
 | _ :: r => by rw [List.map_cons, ← map_zero2 r]; rfl
theorem fl_succ {α : Type} (f : α → List Value) (n : Nat) (x : α) : (List.replicate (n + 1) x).flatMap f = (List.replicate n x).flatMap f ++ f x := by
 rw [List.replicate_succ', List.flatMap_append]; simp
theorem rNew_ret {pad : Option Addr} {cap : Nat} (hr : Ja7 w pad (s.pa.map I)) (hl : s.pa.length ≤ 1048576) :
  Ret Tryz.prog 50 [.agg ⟨shC s pad cap⟩] w (fun v w' => (Jf2 s = false ∧ v = .tuple #[.pointer none, I 5] ∧ Kp [] w w') ∨ (Jf2 s = true ∧ ∃ g, v = .tuple #[ptr g.p, I 0] ∧ RAt w' g s (newC s) ∧ Kp [] w w' ∧ ∀ b, b ∈ g.F → w.heap.size ≤ b)) := by
 refine Ze Tryz.call50 Tryz.func50 ?_
 refine zS ?_
 refine Zx ?_
 intro bx w1 hbx hu1
 have hB1 : Blk w1 bx (shC s pad cap) 27 := hu1.blk
 have k1 : Kp [] w w1 := hu1.new oM
 have hr1 := hr.kp k1 sI
 refine zS ?_
 refine Zm (vs := shC s pad cap) rfl (fun j v hv => ?_) ?_
 ·rw [Nat.zero_add]; exact hB1.cell hv
 refine zS ?_
 refine Zc (Qm6 hr1 oM) ?_
 rintro v w2 ⟨rfl, k2⟩
 have k02 := k1.trans k2
 have hB2 := k2.b0 hB1
 have hr2 := hr1.kp k2 sI
 have hbx2 := hB2.lt
 refine zS ?_
 cases hs : Jf2 s with
 | false =>
  simp only [Bool.false_eq_true, if_false]
  refine zS ?_
  exact ⟨_, rfl, .inl ⟨trivial, rfl, k02⟩⟩
 | true =>
 simp only [if_true]
 have hso := (Jh5 s).1 hs
 have hth := hso.1
 have hlo := hso.2.2.2.1
 have hpa := hso.2.2.2.2.1
 refine zS ?_
 refine Zm (vs := shC s pad cap) rfl (fun j v hv => ?_) ?_
 ·rw [Nat.zero_add]; exact hB2.cell hv
 refine zS ?_
 refine Zb [I s.th, I s.va, I s.vo, I s.lo, .slice pad s.pa.length cap, .slice none 0 0, .slice none 0 0, .slice none 0 0, I 0] ?_
 refine Zx ?_
 intro p w3 hp hu3
 refine zS ?_
 refine Zt (b := p) (off := 4) (v := .slice none 0 0) (c := none) rfl hu3.blk (by simp [Value.cells]) ?_
 intro w4 hu4
 have hP4 : PN w2 w4 ⟨p, none, 0, none, 0, none, 0, none, 0⟩ s 0 0 [] 0 := by
  refine ⟨hu4.blk, Jd6 _ _ _, Jd6 _ _ _, Jd6 _ _ _, Jd6 _ _ _, fun i j b hij hb hb2 => ?_, fun i b hb => ?_, (hu3.new oM).since (hu4.kp [p] (.inl sI)) (by simp; omega)⟩
  ·match i, j, hij with
   | 0, 0, h => exact h rfl
   | 0, 1, _ => simp [RG.D, Ja1] at hb2
   | 0, 2, _ => simp [RG.D, Ja1] at hb2
   | 0, 3, _ => simp [RG.D, Ja1] at hb2
   | 0, 4, _ => simp [RG.D, Ja1] at hb2
   | 0, n + 5, _ => simp [RG.D] at hb2
   | 1, _, _ => simp [RG.D, Ja1] at hb
   | 2, _, _ => simp [RG.D, Ja1] at hb
   | 3, _, _ => simp [RG.D, Ja1] at hb
   | 4, _, _ => simp [RG.D, Ja1] at hb
   | n + 5, _, _ => simp [RG.D] at hb
  ·match i with
   | 0 => simp [RG.D] at hb; omega
   | 1 => simp [RG.D, Ja1] at hb
   | 2 => simp [RG.D, Ja1] at hb
   | 3 => simp [RG.D, Ja1] at hb
   | 4 => simp [RG.D, Ja1] at hb
   | n + 5 => simp [RG.D] at hb
 refine zS ?_
 refine Jb4 (α := Nat) [1, 5, 6] (fun i => [ptr bx, ptr p, I i]) (fun i wc => i ≤ s.pa.length ∧ ∃ g, g.p = p ∧ PN w2 wc g s i i [] 0) (fun i => s.pa.length - i) 0 rfl ⟨oM, _, rfl, hP4⟩ ?_
 rintro i e w5 ⟨hi, g, rfl, h5⟩
 have hB5 := h5.kk.b0 hB2
 refine zS ?_
 refine Zl (v := .slice pad s.pa.length cap) rfl hB5 ?_
 refine zS ?_
 refine r_if rfl (fun hc => ?_) (fun hc => ?_)
 ·have hlt : i < s.pa.length := oM
  obtain ⟨x, hx⟩ : ∃ x, s.pa[i]? = some x := ⟨_, List.getElem?_eq_getElem hlt⟩
  obtain ⟨b0, off0, rfl, hb0, hcell⟩ := hr2.at_ (by simp; omega)
  have hcx := hcell i (I x) (by rw [List.getElem?_map, hx]; rfl)
  have htk : s.pa.take (i + 1) = s.pa.take i ++ [x] := by rw [List.take_add_one, hx]; rfl
  refine zS ?_
  refine Ja9 ?_
  refine Jd8 (α := RG) [1, 5, 6] (fun g' => [ptr bx, ptr g'.p, I i]) (fun g' w' => PN w2 w' g' s (i + 1) i [] 0 ∧ g'.p = g.p) ?_ ?_
  ·refine Jo6 (fun w' => Kp (Ja1 g.pad) w5 w') [(0, false), (1, false), (2, false), (3, false), (4, false), (5, false), (6, false), (7, false), (8, false), (9, false), (10, false), (11, true), (12, true), (13, false), (14, false), (15, false), (16, true)] Ja0 kR kR kR ((Sm.drew w5).kp _) ?_
   have hd := h5.kp0 ((Sm.drew w5).kp [])
   have kd := (Sm.drew w5).kp (Ja1 g.pad)
   generalize ({ w5 with drawn := w5.drawn + 1 } : World) = wd at hd kd ⊢
   have hz5 := h5.kk.size
   have hnp : g.p ∉ Ja1 g.pad := h5.pne (i := 1) sI
   have hbxp : bx ∉ Ja1 g.pad := fun hb => by have := h5.new 1 bx hb; omega
   have hb0p : b0 ∉ Ja1 g.pad := fun hb => by have := h5.new 1 b0 hb; omega
   refine zX ?_
   refine Zy (v := .slice g.pad i g.pcap) rfl rfl (fun w' h' => (h'.blk hnp h5.hdr).cell rfl) ?_
   refine zX ?_
   refine Zy (v := .slice (some ⟨b0, off0, none⟩) s.pa.length cap) rfl rfl (fun w' h' => (h'.blk hbxp hB5).cell rfl) ?_
   refine zX ?_
   refine Zy (b := b0) (off := off0 + i) (v := I x) rfl rfl (fun w' h' => ?_) ?_
   ·rw [← hcx]; exact World.cell?_of_block ((h'.at_ b0 oM hb0p).trans (h5.kk.at_ b0 hb0 sI))
   refine zX ?_
   refine Jh2 rfl ?_
   refine Zu [I x] rfl (by simp [Value.oneCell']) rfl dE dE ?_
   intro b7 w7 hb7 hu7
   have k7 : Kp [] wd w7 := hu7.new oM
   have h7 := hd.kp0 k7
   have kd7 := kd.trans (k7.mono sI)
   refine Ja6 ⟨.inr kd7, ?_⟩
   refine Jh2 rfl ?_
   refine Jh3 rfl rfl h7.pa hu7.blk rfl rfl rfl rfl (by simp only [maxLen]; omega) oM rfl rfl ?_
   intro ad8 cap8 w8 ho8 k8 hn8
   refine Ja6 ⟨.inr (kd7.trans k8), ?_⟩
   refine zX ?_
   refine Jh2 rfl ?_
   have hH8 := k8.blk (h7.pne (i := 1) sI) h7.hdr
   refine Zt (b := g.p) (off := 4) (v := .slice ad8 (i + 1) cap8) (c := none) rfl hH8 sI ?_
   intro w9 hu9
   have h9 := h7.pushP (by rw [htk, List.map_append]; exact ho8) k8 hn8 hu9
   refine Ja6 ⟨.inl kR, ?_⟩
   refine zX ?_
   exact ⟨{ g with pad := ad8, pcap := cap8 }, rfl, h9, rfl⟩
  ·rintro g6 e w6 ⟨h6, hp6⟩
   refine zS ?_
   refine Zl rfl h6.hdr ?_
   refine zS ?_
   refine Zb [I 0, I 0] ?_
   refine Zn [I 0, I 0] rfl rfl rfl kR ?_
   intro b7 w7 hb7 hu7
   have k7 : Kp [] w6 w7 := hu7.new oM
   have h7 := h6.kp0 k7
   refine Jo0 [I 0, I 0] rfl rfl h7.op (fun j v hv => by rw [Jc1, Nat.zero_add]; exact hu7.blk.cell hv) rfl rfl rfl oM rfl oM (by simp [Value.oneCell']) (by simp only [maxLen]; omega) oM rfl rfl ?_
   intro ad8 cap8 w8 ho8 k8 hn8
   refine zS ?_
   have hH8 := k8.blk (h7.pne (i := 4) sI) h7.hdr
   refine Zt (b := g6.p) (off := 7) (v := .slice ad8 (i + 1) cap8) (c := none) rfl hH8 sI ?_
   intro w9 hu9
   have h9 := h7.pushO (by rw [fl_succ]; exact ho8) k8 hn8 hu9
   refine zS ?_
   exact ⟨i + 1, by dsimp only; rw [hp6]; rfl, ⟨oM, _, by dsimp only; exact hp6, h9⟩, oM⟩
 ·have hin : i = s.pa.length := oM
  subst hin
  have hP := h5
  clear h5 hP4
  refine zS ?_
  refine Jb4 (α := Nat) [1, 5, 7] (fun i => [ptr bx, ptr g.p, I i]) (fun i wc => (i : Int) ≤ s.th ∧ ∃ g', g'.p = g.p ∧ PN w2 wc g' s s.pa.length s.pa.length (List.replicate i ⟨0, 0, 0⟩) 0) (fun i => s.th.toNat - i) 0 rfl ⟨oM, g, rfl, hP⟩ ?_
  rintro i e w6 ⟨hi6, g6, hg6, h6⟩
  have hB6 := h6.kk.b0 hB2
  refine zS ?_
  refine Zl (v := I s.th) rfl hB6 ?_
  refine zS ?_
  rw [← hg6]
  refine r_if rfl (fun hc6 => ?_) (fun hc6 => ?_)
  ·have hh6 := h6.hdr
   rw [List.length_replicate] at hh6
   refine zS ?_
   refine Zl rfl hh6 ?_
   refine zS ?_
   refine Zb [I 0, I 0, I 0] ?_
   refine Zn [I 0, I 0, I 0] rfl rfl rfl kR ?_
   intro b7 w7 hb7 hu7
   have k7 : Kp [] w6 w7 := hu7.new oM
   have h7 := h6.kp0 k7
   have hth7 := h7.th
   rw [List.length_replicate] at hth7
   refine Jo0 [I 0, I 0, I 0] rfl rfl hth7 (fun j v hv => by rw [Jc1, Nat.zero_add]; exact hu7.blk.cell hv) rfl rfl rfl oM rfl oM (by simp [Value.oneCell']) (by simp only [maxLen]; omega) oM rfl rfl ?_
   intro ad8 cap8 w8 ho8 k8 hn8
   refine zS ?_
   have hH8 := k8.blk (h7.pne (i := 2) sI) h7.hdr
   refine Zt (b := g6.p) (off := 5) (v := .slice ad8 (i + 1) cap8) (c := none) rfl hH8 sI ?_
   intro w9 hu9
   have h9 := h7.pushT (y := ⟨0, 0, 0⟩) (by rw [List.length_replicate, List.flatMap_append]; exact ho8) k8 hn8 (by rw [List.length_replicate]; exact hu9)
   refine zS ?_
   exact ⟨i + 1, rfl, ⟨oM, { g6 with tad := ad8, tcap := cap8 }, rfl, by rw [List.replicate_succ']; exact h9⟩, oM⟩
  ·have hin6 : i = s.th.toNat := oM
   subst hin6
   have hz6 := h6.th
   obtain ⟨tb, TL, hta, hTL, hTlen, hTget, hTset⟩ := hz6.rec (fun _ => rfl) oM (i := 0) (by rw [List.length_replicate]; omega)
   have hTget0 := hTget ⟨0, 0, 0⟩ (by rw [List.getElem?_replicate, if_pos oM])
   have hh6 := h6.hdr
   rw [List.length_replicate, hta] at hh6
   refine zS ?_
   refine Zl (v := .slice (some ⟨tb, 0, none⟩) s.th.toNat g6.tcap) rfl hh6 ?_
   refine zS ?_
   refine Zt (b := tb) (off := 0) (v := I 1) (c := none) rfl hTL oM ?_
   intro w7 hu7
   have ec := Jj4 TL (o := 0 * 3) (j := 0) (cs := stdC ⟨0, 0, 0⟩) (v := I 1) hTget0 (by simpa using hTlen) sI
   have ec2 : Jg0 TL (0 * 3) (stdC ⟨1, 0, 0⟩) = TL.set 0 (I 1) := ec
   rw [← ec2] at hu7
   have h7 := h6.setT (nt' := (List.replicate s.th.toNat ⟨0, 0, 0⟩).set 0 ⟨1, 0, 0⟩) sI hta hu7 (by rw [List.length_set]; exact hTset ⟨1, 0, 0⟩ _ hu7)
   have e7 : (List.replicate s.th.toNat (⟨0, 0, 0⟩ : Std)).set 0 ⟨1, 0, 0⟩ = thL s (newC s) := by
    rw [thL_zero]
    exact (thL_set (c := { newC s with T := fun _ => none }) (t := 0) (y := ⟨1, 0, 0⟩) oM).symm
   rw [e7] at h7
   refine zS ?_
   refine Jb4 (α := Nat) [1, 5, 8] (fun i => [ptr bx, ptr g6.p, I i]) (fun i wc => (i : Int) ≤ s.lo ∧ ∃ g', g'.p = g6.p ∧ PN w2 wc g' s s.pa.length s.pa.length (thL s (newC s)) i) (fun i => s.lo.toNat - i) 0 rfl ⟨oM, g6, rfl, h7⟩ ?_
   rintro i e w8 ⟨hi8, g8, hg8, h8⟩
   have hB8 := h8.kk.b0 hB2
   refine zS ?_
   refine Zl (v := I s.lo) rfl hB8 ?_
   refine zS ?_
   rw [← hg8]
   refine r_if rfl (fun hc8 => ?_) (fun hc8 => ?_)
   ·refine zS ?_
    refine Zl rfl h8.hdr ?_
    refine zS ?_
    refine Zu [I (-1)] rfl (by simp [Value.oneCell']) rfl dE dE ?_
    intro b9 w9 hb9 hu9
    have k9 : Kp [] w8 w9 := hu9.new oM
    have h9 := h8.kp0 k9
    refine Jh3 rfl rfl h9.lo hu9.blk rfl rfl rfl rfl (by simp only [maxLen]; omega) oM rfl rfl ?_
    intro ad10 cap10 w10 ho10 k10 hn10
    refine zS ?_
    have hH10 := k10.blk (h9.pne (i := 3) sI) h9.hdr
    refine Zt (b := g8.p) (off := 6) (v := .slice ad10 (i + 1) cap10) (c := none) rfl hH10 sI ?_
    intro w11 hu11
    have h11 := h9.pushW (by rw [List.replicate_succ', List.map_append]; exact ho10) k10 hn10 hu11
    refine zS ?_
    exact ⟨i + 1, rfl, ⟨oM, { g8 with wad := ad10, wcap := cap10 }, rfl, h11⟩, oM⟩
   ·have hin8 : i = s.lo.toNat := oM
    subst hin8
    refine zS ?_
    have hthl := Ju9 s (newC s)
    refine ⟨_, rfl, .inr ⟨trivial, g8, rfl, ⟨⟨?_, ?_, ?_, ?_, ?_, RG.nd_of h8.sep⟩, newC_ok hso, newC_nz⟩, k02.trans h8.kk, fun b hb => ?_⟩⟩
    ·have := h8.hdr
     rw [hthl] at this
     simpa [rgC, newC] using this
    ·have := h8.pa
     rwa [List.take_length] at this
    ·have := h8.th
     rwa [hthl] at this
    ·have := h8.lo
     rwa [loL_zero] at this
    ·have := h8.op
     rw [map_zero2] at this
     simpa [newC] using this
    ·have hz := k02.size
     simp only [RG.F, List.mem_cons, List.mem_append] at hb
     rcases hb with rfl | hb | hb | hb | hb
     ·have := h8.new 0 g8.p (by simp [RG.D]); omega
     ·have := h8.new 1 b hb; omega
     ·have := h8.new 2 b hb; omega
     ·have := h8.new 3 b hb; omega
     ·have := h8.new 4 b hb; omega
end
section
variable {w : World} {s : Shp} {c : Ck}
def opIn (c : Ck) (i : Int) : Int × Int := if 0 ≤ i ∧ i < c.op.length then opAt c i else (0, 0)
theorem Round_ret {g : CkG} (h : CkAt w g s c) (i : Int) : Ret Tryz.prog 87 [ptr g.p, I i] w (fun v w' => v = .tuple #[.agg ⟨opC2 (opIn c i)⟩, I (if 0 ≤ i ∧ i < c.op.length then 0 else 2)] ∧ Kp [] w w') := by
 have hop := h.ok.op
 have hpa := h.ok.sh.2.2.2.2.1
 refine Zd Tryz.call87 Tryz.func87 ?_
 refine zS ?_
 refine Za ?_
 intro bs w1 hbs hu1
 have k1 : Kp [] w w1 := hu1.new oM
 have h1 := h.kp0 k1
 refine zS ?_
 refine Zc (Js6 h1) ?_
 rintro v wx ⟨rfl, rfl⟩
 refine zS ?_
 refine Zl rfl h1.hdr ?_
 refine zS ?_
 refine Zc (asked_ret _ i c.op.length) ?_
 rintro v w3 ⟨rfl, rfl⟩
 by_cases hin : 0 ≤ i ∧ i < c.op.length
 ·rw [if_pos hin]
  obtain ⟨ob, L, hoad, _, hL, _, hL1, hL2⟩ := h1.open_ (i := i.toNat) oM
  have e1 : ((i.toNat : Nat) : Int) = i := oM
  rw [e1] at hL1 hL2
  have hh := h1.hdr
  rw [show ckC g s c = [I s.th, I s.va, I s.vo, I s.lo, .slice g.pad s.pa.length g.pcap, .map (some g.m1), .map (some g.m2), .slice (some ⟨ob, 0, none⟩) c.op.length g.ocap, I c.n] by rw [ckC, hoad]] at hh
  refine zS ?_
  refine Zl (v := .slice (some ⟨ob, 0, none⟩) c.op.length g.ocap) rfl hh ?_
  refine zS ?_
  refine Zm (b := ob) (off := i.toNat * 2) (vs := opC2 (opAt c i)) ?_ (fun j v hv => ?_) ?_
  ·show Value.pointer (some ⟨ob, 0 + i.toNat * 2, none⟩) = _
   rw [Nat.zero_add]
  ·match j, hv with
   | 0, hv => cases hv; exact hL.cell hL1
   | 1, hv => cases hv; exact hL.cell hL2
  refine zS ?_
  refine Zs (cs := opC2 (opAt c i)) rfl hu1.blk lR rfl (by simp [Value.oneCell']) ?_
  intro w4 hu4
  have k4 : Kp [] w w4 := k1.since (hu4.kp [bs] (.inl sI)) (by simp; omega)
  have hB4 : Blk w4 bs (opC2 (opAt c i)) 131 := hu4.blk
  refine zS ?_
  exact ⟨[.agg ⟨opC2 (opAt c i)⟩, _], ⟨⟨_, rfl, Jb9 hB4 rfl rfl rfl rfl⟩, ⟨_, rfl⟩, trivial⟩, by unfold opIn; rw [if_pos hin]; rfl, k4⟩
 ·rw [if_neg hin]
  refine zS ?_
  refine Zb [I 0, I 0] ?_
  refine zS ?_
  refine Zs (cs := [I 0, I 0]) rfl hu1.blk lR rfl (by simp [Value.oneCell']) ?_
  intro w4 hu4
  have k4 : Kp [] w w4 := k1.since (hu4.kp [bs] (.inl sI)) (by simp; omega)
  have hB4 : Blk w4 bs [I 0, I 0] 131 := hu4.blk
  refine zS ?_
  exact ⟨[.agg ⟨[I 0, I 0]⟩, _], ⟨⟨_, rfl, Jb9 hB4 rfl rfl rfl rfl⟩, ⟨_, rfl⟩, trivial⟩, by unfold opIn; rw [if_neg hin]; rfl, k4⟩
section
variable {g : RG}
theorem rRound_ret (h : RAt w g s c) (i : Int) : Ret Tryz.prog 52 [ptr g.p, I i] w (fun v w' => v = .tuple #[.agg ⟨opC2 (opIn c i)⟩, I (if 0 ≤ i ∧ i < c.op.length then 0 else 2)] ∧ Kp [] w w') := by
 have hop := h.ok.op
 have hpa := h.ok.sh.2.2.2.2.1
 refine Zd Tryz.call52 Tryz.func52 ?_
 refine zS ?_
 refine Za ?_
 intro bs w1 hbs hu1
 have k1 : Kp [] w w1 := hu1.new oM
 have h1 := h.kp0 k1
 refine zS ?_
 refine Zl rfl h1.hdr ?_
 refine zS ?_
 refine Zc (Jy3 i c.op.length) ?_
 rintro v w3 ⟨rfl, rfl⟩
 refine zS ?_
 by_cases hin : 0 ≤ i ∧ i < c.op.length
 ·refine r_no rfl (by simp; omega) ?_
  obtain ⟨ob, L, hoad, hL, _, hLg, _⟩ := h1.opn hin.1 hin.2
  have hh := h1.hdr
  rw [rgC, hoad] at hh
  refine zS ?_
  refine Zl (v := .slice (some ⟨ob, 0, none⟩) c.op.length g.ocap) rfl hh ?_
  refine zS ?_
  refine Zm (b := ob) (off := i.toNat * 2) (vs := opC2 (opAt c i)) ?_ (fun j v hv => hL.cell (hLg j v hv)) ?_
  ·show Value.pointer (some ⟨ob, 0 + i.toNat * 2, none⟩) = _
   rw [Nat.zero_add]
  refine zS ?_
  refine Zs (cs := opC2 (opAt c i)) rfl hu1.blk lR rfl (by simp [Value.oneCell']) ?_
  intro w4 hu4
  have k4 : Kp [] w w4 := k1.since (hu4.kp [bs] (.inl sI)) (by simp; omega)
  have hB4 : Blk w4 bs (opC2 (opAt c i)) 131 := hu4.blk
  refine zS ?_
  exact ⟨[.agg ⟨opC2 (opAt c i)⟩, _], ⟨⟨_, rfl, Jb9 hB4 rfl rfl rfl rfl⟩, ⟨_, rfl⟩, trivial⟩, by unfold opIn; rw [if_pos hin, if_pos hin]; rfl, k4⟩
 ·refine Jf7 rfl (by simp; omega) ?_
  refine zS ?_
  refine Zb [I 0, I 0] ?_
  refine Zs (cs := [I 0, I 0]) rfl hu1.blk lR rfl (by simp [Value.oneCell']) ?_
  intro w4 hu4
  have k4 : Kp [] w w4 := k1.since (hu4.kp [bs] (.inl sI)) (by simp; omega)
  have hB4 : Blk w4 bs [I 0, I 0] 131 := hu4.blk
  refine zS ?_
  exact ⟨[.agg ⟨[I 0, I 0]⟩, _], ⟨⟨_, rfl, Jb9 hB4 rfl rfl rfl rfl⟩, ⟨_, rfl⟩, trivial⟩, by unfold opIn; rw [if_neg hin, if_neg hin]; rfl, k4⟩
theorem rStand_ret (h : RAt w g s c) (t : Int) : Ret Tryz.prog 53 [ptr g.p, I t] w (fun v w' => v = .tuple #[stdV (st c t), I (if 0 ≤ t ∧ t < s.th then 0 else 2)] ∧ Kp [] w w') := by
 have hth := h.ok.sh.1
 refine Zd Tryz.call53 Tryz.func53 ?_
 refine zS ?_
 refine Za ?_
 intro bs w1 hbs hu1
 have k1 : Kp [] w w1 := hu1.new oM
 have h1 := h.kp0 k1
 refine zS ?_
 refine Zl rfl h1.hdr ?_
 refine zS ?_
 refine Zc (Jy3 t s.th.toNat) ?_
 rintro v w3 ⟨rfl, rfl⟩
 refine zS ?_
 by_cases hin : 0 ≤ t ∧ t < s.th
 ·refine r_no rfl (by simp; omega) ?_
  obtain ⟨ob, L, hoad, hL, _, hLg, _⟩ := h1.thr hin.1 hin.2
  have hh := h1.hdr
  rw [rgC, hoad] at hh
  refine zS ?_
  refine Zl (v := .slice (some ⟨ob, 0, none⟩) s.th.toNat g.tcap) rfl hh ?_
  refine zS ?_
  refine Zm (b := ob) (off := t.toNat * 3) (vs := stdC (st c t)) ?_ (fun j v hv => hL.cell (hLg j v hv)) ?_
  ·show Value.pointer (some ⟨ob, 0 + t.toNat * 3, none⟩) = _
   rw [Nat.zero_add]
  refine zS ?_
  refine Zs (cs := stdC (st c t)) rfl hu1.blk lR rfl (by simp [Value.oneCell']) ?_
  intro w4 hu4
  have k4 : Kp [] w w4 := k1.since (hu4.kp [bs] (.inl sI)) (by simp; omega)
  have hB4 : Blk w4 bs (stdC (st c t)) 136 := hu4.blk
  refine zS ?_
  exact ⟨[stdV (st c t), _], ⟨⟨_, rfl, Jb9 hB4 rfl rfl rfl rfl⟩, ⟨_, rfl⟩, trivial⟩, by rw [if_pos hin]; rfl, k4⟩
 ·refine Jf7 rfl (by simp; omega) ?_
  refine zS ?_
  refine Zb [I 0, I 0, I 0] ?_
  refine Zs (cs := [I 0, I 0, I 0]) rfl hu1.blk lR rfl (by simp [Value.oneCell']) ?_
  intro w4 hu4
  have k4 : Kp [] w w4 := k1.since (hu4.kp [bs] (.inl sI)) (by simp; omega)
  have hB4 : Blk w4 bs [I 0, I 0, I 0] 136 := hu4.blk
  refine zS ?_
  exact ⟨[.agg ⟨[I 0, I 0, I 0]⟩, _], ⟨⟨_, rfl, Jb9 hB4 rfl rfl rfl rfl⟩, ⟨_, rfl⟩, trivial⟩, by rw [if_neg hin, st_out h.ok hin]; rfl, k4⟩
end
end
end Go.Vc
namespace Go.Vc
open Go
variable {P : Program} {n : Nat} {a : Act} {e : Env} {w : World} {K : Jc0} {X : List (Nat × Jc0)} {R : Jc0} {all : List Oper} {G : List Nat} {ro : Ro} {Fl : World → Prop}
def Jt1 (P : Program) : List Field → Nat → Bool
 | [], _ => true
 | f :: r, k => (f.name != "_") && Nat.beq f.offset k && (match P.underlying f.type with | some (.int .i64) => true | _ => false) && Jt1 P r (k + 1)
def Jl7 : List Int → List Int → Bool
 | [], [] => true
 | x :: r, y :: q => if x = y then Jl7 r q else false
 | _, _ => false
theorem Qn9 : ∀ {l m : List Int}, Jl7 l m = true ↔ l = m
 | [], [] => by simp [Jl7]
 | x :: r, y :: q => by
  simp only [Jl7]
  by_cases h : x = y
  ·rw [if_pos h, Qn9, h]; simp
  ·rw [if_neg h]; simp [h]
 | [], _ :: _ => by simp [Jl7]
 | _ :: _, [] => by simp [Jl7]
theorem Jo9 (d : Nat) (xs ys : Array Value) : ∀ (fs : List Field) (k : Nat) (us bs : List Int), Jt1 P fs k = true → us.length = fs.length → bs.length = fs.length → (∀ j v, us[j]? = some v → xs[k + j]? = some (I v)) → (∀ j v, bs[j]? = some v → ys[k + j]? = some (I v)) →
  (Op.eqFields (d + 1) xs ys fs).run P w = .ok (Jl7 us bs) w
 | [], k, us, bs, _, ha, hb, _, _ => by
  have e1 : us = [] := List.eq_nil_of_length_eq_zero (by simpa using ha)
  have e2 : bs = [] := List.eq_nil_of_length_eq_zero (by simpa using hb)
  subst e1 e2
  simp [Op.eqFields, Jl7]
 | f :: r, k, us, bs, h, ha, hb, hx, hy => by
  match us, bs, ha, hb with
  | x :: us, y :: bs, ha, hb =>
   simp only [Jt1, Bool.and_eq_true, bne_iff_ne, ne_eq] at h
   obtain ⟨⟨⟨h1, h2⟩, h3⟩, h4⟩ := h
   have h2 := Nat.eq_of_beq_eq_true h2
   have h3' : P.underlying f.type = some (.int .i64) := by
    split at h3 <;> first | assumption | cases h3
   have ih := Jo9 d xs ys r (k + 1) us bs h4 (by simpa using ha) (by simpa using hb) (fun j v hv => by
    have := hx (j + 1) v (by simpa using hv)
    rwa [show k + (j + 1) = k + 1 + j by omega] at this) (fun j v hv => by
    have := hy (j + 1) v (by simpa using hv)
    rwa [show k + (j + 1) = k + 1 + j by omega] at this)
   have hx0 := hx 0 x rfl
   have hy0 := hy 0 y rfl
   rw [Nat.add_zero] at hx0 hy0
   have p1 : (part f.type xs f.offset).run P w = .ok (I x) w := by
    rw [h2]; simp [part, Jn4 h3' rfl, hx0]
   have p2 : (part f.type ys f.offset).run P w = .ok (I y) w := by
    rw [h2]; simp [part, Jn4 h3' rfl, hy0]
   simp only [Op.eqFields, Sem.run_bind, Sem.run_ite, if_pos h1, p1, p2, Result.andThen_ok, run_equalIn_int w d f.type .i64 .i64 x y h3', Jl7]
   by_cases hxy : x = y
   ·simp [hxy, ih]
   ·simp [hxy]
theorem run_eqS {t : TypeId} {us bs : List Int} (hu : P.underlying t = some (.struct (P.fieldsOf t))) (hp : P.stoodInHeld t = false) (hf : Jt1 P (P.fieldsOf t).toList 0 = true) (ha : Nat.beq us.length (P.fieldsOf t).toList.length = true) (hb : Nat.beq bs.length (P.fieldsOf t).toList.length = true) :
  (Op.equalIn 10000 t (.agg ⟨us.map I⟩) (.agg ⟨bs.map I⟩)).run P w = .ok (Jl7 us bs) w := by
 rw [run_equalIn_agg w 9999 t _ _ hu hp]
 exact Jo9 9998 _ _ _ 0 us bs hf (Nat.eq_of_beq_eq_true ha) (Nat.eq_of_beq_eq_true hb) (fun j v hv => by simp [hv]) (fun j v hv => by simp [hv])
section
variable {dst : Option Tmp} {ty ty2 : TypeId} {pos : String} {after : Array Edge} {g : Option (Nat × Bool)} {l : List Oper} {t : TypeId} {x y : Operand}
theorem exec_eqS {us bs : List Int} (hx : ev e x = .agg ⟨us.map I⟩) (hy : ev e y = .agg ⟨bs.map I⟩) (hu : P.underlying t = some (.struct (P.fieldsOf t))) (hp : P.stoodInHeld t = false) (hg : P.eqGuardType P.depth t = false) (hf : Jt1 P (P.fieldsOf t).toList 0 = true) (ha : Nat.beq us.length (P.fieldsOf t).toList.length = true) (hb : Nat.beq bs.length (P.fieldsOf t).toList.length = true) :
  (execOp (ev e) ⟨dst, .binOp .eql t x y ty2, ty, pos, after, g⟩).run P w = .ok (.value (.bool (Jl7 us bs))) w := by
 simp only [execOp, Sem.run_bind, hx, hy, run_eqGuard_agg w .eql t x y _ _ hg, Result.andThen_ok, run_eql_struct, run_eqS hu hp hf ha hb, Sem.run_pure]
theorem o_eqS (us bs : List Int) (hx : ev e x = .agg ⟨us.map I⟩) (hy : ev e y = .agg ⟨bs.map I⟩) (hu : P.underlying t = some (.struct (P.fieldsOf t))) (hp : P.stoodInHeld t = false) (hg : P.eqGuardType P.depth t = false) (hf : Jt1 P (P.fieldsOf t).toList 0 = true) (ha : Nat.beq us.length (P.fieldsOf t).toList.length = true) (hb : Nat.beq bs.length (P.fieldsOf t).toList.length = true) (hd : dOk n dst = true) (hm : may all G e g = some true)
  (k : Ops ro P n all G K l (put e dst (.bool (Jl7 us bs))) w) : Ops ro P n all G K (⟨dst, .binOp .eql t x y ty2, ty, pos, after, g⟩ :: l) e w :=
 Jb5 hd hm (exec_eqS hx hy hu hp hg hf ha hb) k
end
end Go.Vc

namespace Go.Vc
open Go
variable {P : Program} {n : Nat} {a : Act} {e : Env} {w : World} {K : Jc0} {X : List (Nat × Jc0)} {R : Jc0} {all : List Oper} {G : List Nat} {ro : Ro} {Fl : World → Prop}
theorem run_eqA2 {t et : TypeId} {i : TypeInfo} (hu : P.underlying t = some (.array 2 et)) (hi : P.info? et = some i) (hc : P.cellsOf et = 1) (he : P.underlying et = some (.int .i64)) (a b x y : Int) :
  (Op.equalIn 10000 t (.agg ⟨[I a, I b]⟩) (.agg ⟨[I x, I y]⟩)).run P w = .ok (Jl7 [a, b] [x, y]) w := by
 rw [run_equalIn_array w 9999 _ _ hu hi, hc]
 have p : ∀ (l : List Value) (j : Nat) (v : Value), l[j]? = some v → (part et ⟨l⟩ (j * 1)).run P w = .ok v w := fun l j v hv => by
  simp [part, Jn4 he rfl, hv]
 have hr : List.range 2 = [0, 1] := rfl
 rw [hr]
 simp only [Op.eqItems, Sem.run_bind, p [I a, I b] 0 (I a) rfl, p [I a, I b] 1 (I b) rfl, p [I x, I y] 0 (I x) rfl, p [I x, I y] 1 (I y) rfl, Result.andThen_ok, run_equalIn_int w 9998 et .i64 .i64 _ _ he, Jl7, Sem.run_ite]
 by_cases h1 : a = x
 ·by_cases h2 : b = y
  ·simp [h1, h2]
  ·simp [h1, h2]
 ·simp [h1]
section
variable {dst : Option Tmp} {ty ty2 : TypeId} {pos : String} {after : Array Edge} {g : Option (Nat × Bool)} {l : List Oper} {t et : TypeId} {x y : Operand}
theorem o_eqA {i : TypeInfo} (a1 a2 b1 b2 : Int) (hx : ev e x = .agg ⟨[I a1, I a2]⟩) (hy : ev e y = .agg ⟨[I b1, I b2]⟩) (hu : P.underlying t = some (.array 2 et)) (hi : P.info? et = some i) (hc : P.cellsOf et = 1) (he : P.underlying et = some (.int .i64)) (hg : P.eqGuardType P.depth t = false) (hd : dOk n dst = true) (hm : may all G e g = some true)
  (k : Ops ro P n all G K l (put e dst (.bool (Jl7 [a1, a2] [b1, b2]))) w) : Ops ro P n all G K (⟨dst, .binOp .eql t x y ty2, ty, pos, after, g⟩ :: l) e w :=
 Jb5 hd hm (by simp only [execOp, Sem.run_bind, hx, hy, run_eqGuard_agg w .eql t x y _ _ hg, Result.andThen_ok, run_eql_struct, run_eqA2 hu hi hc he, Sem.run_pure]) k
theorem Qd6 {i ie : TypeInfo} {zc : Value} {parts : Array (Nat × Operand)} {m : Nat} (cs : List Value) (hu : P.underlying t = some (.array m et)) (hi : P.info? t = some i) (hz : i.zero = some zc) (hie : P.info? et = some ie)
  (hf : Instr.fill (fun j => some (j * ie.size, ie.size)) zc.cells (parts.toList.map fun (j, x) => (j, ev e x)) = some ⟨cs⟩) (hd : dOk n dst = true) (hm : may all G e g = some true)
  (k : Ops ro P n all G K l (put e dst (.agg ⟨cs⟩)) w) : Ops ro P n all G K (⟨dst, .build t parts, ty, pos, after, g⟩ :: l) e w := by
 refine Jb5 hd hm ?_ k
 have hb : P.built t (parts.map fun (j, x) => (j, ev e x)).toList = some ⟨cs⟩ := by
  unfold Program.built
  simp only [hi, hu, hz, hie, Array.toList_map]
  exact hf
 simp only [execOp, Sem.run_bind, run_build w t _ _ hb, Result.andThen_ok, Sem.run_pure]
end
end Go.Vc

namespace Go.Vc
open Go Go.Proofs
set_option maxRecDepth 20000
section
variable {w : World}
def evA (E : List Ev) (i : Nat) : Ev := (E[i]?).getD ⟨0, 0, 0⟩
def roA (R : List Int) (i : Nat) : Int := (R[i]?).getD 0
def Qi3 (a b : Ev) (x y : Int) : Int :=
 if a.t = b.t then 1
 else if a.k = 7 ∧ a.o = b.t then 4
 else if b.k = 8 ∧ b.o = a.t then 5
 else if a.o ≠ b.o then 0
 else if a.k = 6 ∧ b.k = 5 then 2
 else if a.k = 4 ∧ b.k = 3 then 3
 else if a.k = 9 ∧ b.k = 10 then (if x = y then 6 else 0)
 else 0
def whyI (E : List Ev) (R : List Int) (i j : Int) : Int := if 0 ≤ i ∧ i < j ∧ j < E.length then Qi3 (evA E i.toNat) (evA E j.toNat) (roA R i.toNat) (roA R j.toNat) else 0
def lk (E : List Ev) (R : List Int) (i j : Nat) : Prop := whyI E R i j ≠ 0
instance (E : List Ev) (R : List Int) (i j : Nat) : Decidable (lk E R i j) := inferInstanceAs (Decidable (_ ≠ _))
theorem lk_lt {E : List Ev} {R : List Int} {i j : Nat} (h : lk E R i j) : i < j ∧ j < E.length := by
 unfold lk whyI at h
 by_cases hc : 0 ≤ (i : Int) ∧ (i : Int) < j ∧ (j : Int) < E.length
 ·omega
 ·rw [if_neg hc] at h; exact absurd rfl h
theorem ch_lt {E : List Ev} {R : List Int} {i j : Nat} (h : Ch (lk E R) i j) : i < j ∧ j < E.length := by
 induction h with
 | one h => exact lk_lt h
 | more h _ ih => have := lk_lt h; omega
open Classical in
noncomputable def befI (E : List Ev) (R : List Int) (i j : Int) : Bool := decide (0 ≤ i ∧ 0 ≤ j ∧ Ch (lk E R) i.toNat j.toNat)
open Classical in
theorem befI_iff {E : List Ev} {R : List Int} {i j : Int} : befI E R i j = true ↔ (0 ≤ i ∧ 0 ≤ j ∧ Ch (lk E R) i.toNat j.toNat) := @decide_eq_true_iff _ _
theorem Qc9 {E : List Ev} {R : List Int} {i j : Nat} : befI E R i j = true ↔ Ch (lk E R) i j := by
 rw [befI_iff, Int.toNat_natCast, Int.toNat_natCast]
 exact ⟨fun h => h.2.2, fun h => ⟨oM, oM, h⟩⟩
theorem Jv9 {E : List Ev} {R : List Int} {i j : Int} (h : befI E R i j = true) : 0 ≤ i ∧ i < j ∧ j < E.length := by
 rw [befI_iff] at h
 have := ch_lt h.2.2
 omega
structure OrG where
 p : Nat
 ead : Option Addr
 ecap : Nat
 rad : Option Addr
 rcap : Nat
 rp : Nat
 bs : List Nat
 M : List (List Nat)
 mad : Option Addr
 mcap : Nat
structure OrB (w : World) (g : OrG) (E : List Ev) (R : List Int) : Prop where
 hdr : Blk w g.p [.slice g.ead E.length g.ecap, .slice g.rad R.length g.rcap, ptr g.rp] 186
 ev : Ja7 w g.ead (evsC E)
 ro : Ja7 w g.rad (R.map I)
 lr : R.length = E.length
 small : E.length ≤ 2048
theorem OrB.kp {w' : World} {S : List Nat} {g : OrG} {E : List Ev} {R : List Int} (h : OrB w g E R) (hk : Kp S w w') (hS : ∀ b, b ∈ g.p :: (Ja1 g.ead ++ Ja1 g.rad) → b ∉ S) : OrB w' g E R :=
 ⟨hk.blk (hS _ sI) h.hdr, h.ev.kp hk (fun b hb => hS b (by simp [hb])), h.ro.kp hk (fun b hb => hS b (by simp [hb])), h.lr, h.small⟩
theorem OrB.kp0 {w' : World} {g : OrG} {E : List Ev} {R : List Int} (h : OrB w g E R) (hk : Kp [] w w') : OrB w' g E R := h.kp hk sI
theorem OrB.sm {w' : World} {g : OrG} {E : List Ev} {R : List Int} (h : OrB w g E R) (hk : Sm w w') : OrB w' g E R := h.kp0 (hk.kp [])
def evI (E : List Ev) (i : Int) : Ev := if 0 ≤ i ∧ i < E.length then evA E i.toNat else ⟨0, 0, 0⟩
section
variable {g : OrG} {E : List Ev} {R : List Int}
theorem OrB.evat (h : OrB w g E R) {i : Int} (h0 : 0 ≤ i) (h1 : i < E.length) : ∃ b off, g.ead = some ⟨b, off, none⟩ ∧ ∀ w', Kp [] w w' → ∀ j v, (evC (evA E i.toNat))[j]? = some v → w'.cell? ⟨b, off + i.toNat * 3 + j, none⟩ = some v := by
 obtain ⟨b, off, he, hb, hcell⟩ := h.ev.at_ (by rw [Jt5]; omega)
 refine ⟨b, off, he, fun w' hk j v hv => ?_⟩
 have hx : E[i.toNat]? = some (evA E i.toNat) := by unfold evA; rw [List.getElem?_eq_getElem oM]; rfl
 rw [Nat.add_assoc, ← hcell _ _ (Jq0 hx j v hv)]
 exact World.cell?_of_block (hk.at_ b hb sI)
theorem OrB.roat (h : OrB w g E R) {i : Int} (h0 : 0 ≤ i) (h1 : i < E.length) : ∃ b off, g.rad = some ⟨b, off, none⟩ ∧ ∀ w', Kp [] w w' → w'.cell? ⟨b, off + i.toNat, none⟩ = some (I (roA R i.toNat)) := by
 have := h.lr
 obtain ⟨b, off, he, hb, hcell⟩ := h.ro.at_ (by simp; omega)
 refine ⟨b, off, he, fun w' hk => ?_⟩
 rw [← hcell i.toNat (I (roA R i.toNat)) (by rw [List.getElem?_map]; unfold roA; rw [List.getElem?_eq_getElem oM]; rfl)]
 exact World.cell?_of_block (hk.at_ b hb sI)
theorem Jy9 (h : OrB w g E R) : Ret Tryz.prog 162 [ptr g.p] w (fun v w' => v = I E.length ∧ w' = w) := by
 refine Ze Tryz.call162 Tryz.func162 ?_
 refine zS ?_
 refine Zl rfl h.hdr ?_
 refine zS ?_
 exact ⟨_, rfl, rfl, rfl⟩
theorem Jk4 (h : OrB w g E R) (i : Int) : Ret Tryz.prog 133 [ptr g.p, I i] w (fun v w' => v = .tuple #[.agg ⟨evC (evI E i)⟩, .bool (decide (0 ≤ i ∧ i < E.length))] ∧ Kp [] w w') := by
 refine Zd Tryz.call133 Tryz.func133 ?_
 refine zS ?_
 refine Za ?_
 intro bs w1 hbs hu1
 have k1 : Kp [] w w1 := hu1.new oM
 have h1 := h.kp0 k1
 refine zS ?_
 by_cases hin : 0 ≤ i ∧ i < E.length
 ·obtain ⟨b, off, he, hcell⟩ := h1.evat hin.1 hin.2
  have hh := h1.hdr
  rw [he] at hh
  refine o_is false 2 false rfl rfl rfl (by simp; omega) ?_
  refine zS ?_
  refine Zc (Jy9 h1) ?_
  rintro v wx ⟨rfl, rfl⟩
  refine zS ?_
  refine r_no rfl (by simp; omega) ?_
  refine zS ?_
  refine Zl (v := .slice (some ⟨b, off, none⟩) E.length g.ecap) rfl hh ?_
  refine zS ?_
  refine Zm (b := b) (off := off + i.toNat * 3) (vs := evC (evA E i.toNat)) rfl (hcell _ (Kp.refl _ _)) ?_
  refine zS ?_
  refine Zs (cs := evC (evA E i.toNat)) rfl hu1.blk lR rfl (by simp [Value.oneCell']) ?_
  intro w4 hu4
  have k4 : Kp [] w w4 := k1.since (hu4.kp [bs] (.inl sI)) (by simp; omega)
  have hB4 : Blk w4 bs (evC (evA E i.toNat)) 86 := hu4.blk
  refine zS ?_
  exact ⟨[.agg ⟨evC (evA E i.toNat)⟩, _], ⟨⟨_, rfl, Jb9 hB4 rfl rfl rfl rfl⟩, ⟨_, rfl⟩, trivial⟩, by unfold evI; rw [if_pos hin, decide_eq_true hin]; rfl, k4⟩
 ·have fin : ∀ w4, Upd w1 bs (.cells ⟨evC ⟨0, 0, 0⟩⟩ 86 (0, 0)) w4 → Kp [] w w4 := fun w4 hu4 => k1.since (hu4.kp [bs] (.inl sI)) (by simp; omega)
  by_cases h0 : i < 0
  ·refine o_is true 2 false rfl rfl rfl (by simp; omega) ?_
   refine zS ?_
   refine Zb [I 0, I 0, I 0] ?_
   refine Zs (cs := [I 0, I 0, I 0]) rfl hu1.blk lR rfl (by simp [Value.oneCell']) ?_
   intro w4 hu4
   have hB4 : Blk w4 bs (evC ⟨0, 0, 0⟩) 86 := hu4.blk
   refine zS ?_
   exact ⟨[.agg ⟨evC ⟨0, 0, 0⟩⟩, _], ⟨⟨_, rfl, Jb9 hB4 rfl rfl rfl rfl⟩, ⟨_, rfl⟩, trivial⟩, by unfold evI; rw [if_neg hin, decide_eq_false hin]; rfl, fin w4 hu4⟩
  ·refine o_is false 2 false rfl rfl rfl (by simp; omega) ?_
   refine zS ?_
   refine Zc (Jy9 h1) ?_
   rintro v wx ⟨rfl, rfl⟩
   refine zS ?_
   refine Jf7 rfl (by simp; omega) ?_
   refine zS ?_
   refine Zb [I 0, I 0, I 0] ?_
   refine Zs (cs := [I 0, I 0, I 0]) rfl hu1.blk lR rfl (by simp [Value.oneCell']) ?_
   intro w4 hu4
   have hB4 : Blk w4 bs (evC ⟨0, 0, 0⟩) 86 := hu4.blk
   refine zS ?_
   exact ⟨[.agg ⟨evC ⟨0, 0, 0⟩⟩, _], ⟨⟨_, rfl, Jb9 hB4 rfl rfl rfl rfl⟩, ⟨_, rfl⟩, trivial⟩, by unfold evI; rw [if_neg hin, decide_eq_false hin]; rfl, fin w4 hu4⟩
end
end
end Go.Vc
