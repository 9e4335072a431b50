/- abreastref19: New. -/
import Derived.Test.YtkgjibhbhddckaaDoorQClKPlays29
import Derived.Test.YtkgjibhbhddckaaDoorQClKPlays16
import Derived.Laws.StructEq
import Derived.ChangeKeysEq
import Derived.Laws.Tables
import Derived.Test.YtkgjibhbhddckaaDoorQClKPlays24
import Derived.Test.YtkgjibhbhddckaaDoorQClKPlays25
namespace Go.Vc
open Go Go.Proofs
set_option maxRecDepth 10000
variable {w : World} {s : Shp}
theorem newC_nz : ∀ t x, (newC s).T t = some x → x.ph ≠ 0 := fun t x h => by
  rcases upT_cases (show upT (fun _ => none) 0 (some ⟨1, 0, 0⟩) t = some x from h) with ⟨_, e⟩ | ⟨_, e⟩
  · cases e; simp
  · cases e
theorem thL_zero : (List.replicate s.th.toNat (⟨0, 0, 0⟩ : Std)) = thL s { newC s with T := fun _ => none } := by
  unfold thL st
  apply List.ext_getElem?
  intro i
  rw [List.getElem?_replicate, List.getElem?_map]
  by_cases hi : i < s.th.toNat
  · rw [if_pos hi, List.getElem?_range hi]; rfl
  · rw [if_neg hi, List.getElem?_eq_none (by simp; omega)]; rfl
theorem loL_zero : (List.replicate s.lo.toNat (-1 : Int)) = loL s (newC s) := by
  unfold loL
  apply List.ext_getElem?
  intro i
  rw [List.getElem?_replicate, List.getElem?_map]
  by_cases hi : i < s.lo.toNat
  · rw [if_pos hi, List.getElem?_range hi]; rfl
  · rw [if_neg hi, List.getElem?_eq_none (by simp; omega)]; rfl
theorem map_zero2 : ∀ l : List Int, List.replicate l.length ((0, 0) : Int × Int) = l.map fun _ => (0, 0)
  | [] => rfl
  | _ :: r => by rw [List.map_cons, ← map_zero2 r]; rfl
theorem fl_succ {α : Type} (f : α → List Value) (n : Nat) (x : α) : (List.replicate (n + 1) x).flatMap f = (List.replicate n x).flatMap f ++ f x := by
  rw [List.replicate_succ', List.flatMap_append]; simp
set_option maxHeartbeats 6400000 in
theorem rNew_ret {pad : Option Addr} {cap : Nat} (hr : ReadS w pad (s.pa.map I)) (hl : s.pa.length ≤ 1048576) :
    Ret Tryd.prog 40 [.agg ⟨shC s pad cap⟩] w (fun v w' => (shapeB s = false ∧ v = .tuple #[.pointer none, I 5] ∧ Kp [] w w') ∨ (shapeB s = true ∧ ∃ g, v = .tuple #[ptr g.p, I 0] ∧ RAt w' g s (newC s) ∧ Kp [] w w' ∧ ∀ b, b ∈ g.F → w.heap.size ≤ b)) := by
  refine enter Tryd.call40 Tryd.func40 rfl rfl rfl rfl ?_
  (repeat first|refine zA ?_|refine zg ?_)
  refine o_box rfl rfl rfl ?_
  intro bx w1 hbx hu1
  have hB1 : Blk w1 bx (shC s pad cap) 29 := hu1.blk
  have k1 : Kp [] w w1 := hu1.kp [] (.inr (by omega))
  have hr1 := hr.kp k1 (by simp)
  (repeat first|refine zA ?_|refine zg ?_|refine zo rfl rfl trivial ?_|refine zn ?_)
  refine o_loadA (vs := shC s pad cap) rfl (fun j v hv => ?_) rfl rfl rfl rfl rfl rfl ?_
  · rw [Nat.zero_add]; exact hB1.cell hv
  refine o_call (rShape_ret hr1 (by omega)) rfl rfl rfl ?_
  rintro v w2 ⟨rfl, k2⟩
  have k02 := k1.trans k2
  have hB2 := k2.blk (by simp) hB1
  have hr2 := hr1.kp k2 (by simp)
  have hbx2 := hB2.lt
  (repeat first|refine zA ?_|refine zB ?_|refine zg ?_|refine zo rfl rfl trivial ?_|refine zn ?_)
  cases hs : shapeB s with
  | false =>
    simp only [Bool.false_eq_true, if_false]
    (repeat first|refine zA ?_|refine zg ?_|refine zo rfl rfl trivial ?_|refine zn ?_|refine zr ?_|refine zt rfl ?_)
    exact ⟨_, rfl, .inl ⟨trivial, rfl, k02⟩⟩
  | true =>
  simp only [if_true]
  have hso := (shapeB_iff s).1 hs
  have hth := hso.1
  have hlo := hso.2.2.2.1
  have hpa := hso.2.2.2.2.1
  (repeat first|refine zA ?_|refine zg ?_|refine zk ?_|refine zf rfl ?_)
  refine o_loadA (vs := shC s pad cap) rfl (fun j v hv => ?_) rfl rfl rfl rfl rfl rfl ?_
  · rw [Nat.zero_add]; exact hB2.cell hv
  refine o_build [I s.th, I s.va, I s.vo, I s.lo, .slice pad s.pa.length cap, .slice none 0 0, .slice none 0 0, .slice none 0 0, I 0] rfl rfl rfl rfl rfl rfl rfl ?_
  refine o_box rfl rfl rfl ?_
  intro p w3 hp hu3
  (repeat first|refine zA ?_|refine zg ?_|refine zo rfl rfl trivial ?_|refine zn ?_)
  refine o_store (b := p) (off := 4) (v := .slice none 0 0) (c := none) rfl hu3.blk (by simp [Value.cells]) rfl rfl rfl rfl rfl rfl ?_
  intro w4 hu4
  have hP4 : PN w2 w4 ⟨p, none, 0, none, 0, none, 0, none, 0⟩ s 0 0 [] 0 := by
    refine ⟨hu4.blk, ownS_nil _ _ _, ownS_nil _ _ _, ownS_nil _ _ _, ownS_nil _ _ _, fun i j b hij hb hb2 => ?_, fun i b hb => ?_, (hu3.kp [] (.inr (by omega))).since (hu4.kp [p] (.inl (by simp))) (by simp; omega)⟩
    · match i, j, hij with
      | 0, 0, h => exact h rfl
      | 0, 1, _ => simp [RG.D, blkOf] at hb2
      | 0, 2, _ => simp [RG.D, blkOf] at hb2
      | 0, 3, _ => simp [RG.D, blkOf] at hb2
      | 0, 4, _ => simp [RG.D, blkOf] at hb2
      | 0, n + 5, _ => simp [RG.D] at hb2
      | 1, _, _ => simp [RG.D, blkOf] at hb
      | 2, _, _ => simp [RG.D, blkOf] at hb
      | 3, _, _ => simp [RG.D, blkOf] at hb
      | 4, _, _ => simp [RG.D, blkOf] at hb
      | n + 5, _, _ => simp [RG.D] at hb
    · match i with
      | 0 => simp [RG.D] at hb; omega
      | 1 => simp [RG.D, blkOf] at hb
      | 2 => simp [RG.D, blkOf] at hb
      | 3 => simp [RG.D, blkOf] at hb
      | 4 => simp [RG.D, blkOf] at hb
      | n + 5 => simp [RG.D] at hb
  (repeat first|refine zA ?_|refine zB ?_|refine zg ?_|refine zo rfl rfl trivial ?_|refine zn ?_|refine zb ?_)
  refine r_loop (α := Nat) [1, 5, 6] (fun i => [ptr bx, ptr p, I i]) (fun i wc => i ≤ s.pa.length ∧ ∃ g, g.p = p ∧ PN w2 wc g s i i [] 0) (fun i => s.pa.length - i) 0 rfl ⟨by omega, _, rfl, hP4⟩ ?_
  rintro i e w5 ⟨hi, g, rfl, h5⟩
  have hB5 := h5.kk.blk (by simp) hB2
  (repeat first|refine zA ?_|refine zB ?_|refine zg ?_|refine zo rfl rfl trivial ?_)
  refine o_load (v := .slice pad s.pa.length cap) rfl hB5 rfl rfl rfl rfl rfl ?_
  (repeat first|refine zo rfl rfl trivial ?_|refine zn ?_)
  refine r_if rfl (fun hc => ?_) (fun hc => ?_)
  · have hlt : i < s.pa.length := by omega
    obtain ⟨x, hx⟩ : ∃ x, s.pa[i]? = some x := ⟨_, List.getElem?_eq_getElem hlt⟩
    obtain ⟨b0, off0, rfl, hb0, hcell⟩ := hr2.at_ (by simp; omega)
    have hcx := hcell i (I x) (by rw [List.getElem?_map, hx]; rfl)
    have htk : s.pa.take (i + 1) = s.pa.take i ++ [x] := by rw [List.take_add_one, hx]; rfl
    (repeat first|refine zC ?_|refine zb ?_|refine zk ?_)
    refine r_seq ?_
    refine r_cut (α := RG) [1, 5, 6] (fun g' => [ptr bx, ptr g'.p, I i]) (fun g' w' => PN w2 w' g' s (i + 1) i [] 0 ∧ g'.p = g.p) ?_ ?_
    · refine r_mix (fun w' => Kp (blkOf g.pad) w5 w') [(0, false), (1, false), (2, false), (3, false), (4, false), (5, false), (6, false), (7, false), (8, false), (9, false), (10, false), (11, true), (12, true), (13, false), (14, false), (15, false), (16, true)] follows_mixed (by kernel_rfl) (by kernel_rfl) (by kernel_rfl) ((Sm.drew w5).kp _) ?_
      have hd := h5.kp0 ((Sm.drew w5).kp [])
      have kd := (Sm.drew w5).kp (blkOf g.pad)
      generalize ({ w5 with drawn := w5.drawn + 1 } : World) = wd at hd kd ⊢
      have hz5 := h5.kk.size
      have hnp : g.p ∉ blkOf g.pad := h5.pne (i := 1) (by simp)
      have hbxp : bx ∉ blkOf g.pad := fun hb => by have := h5.new 1 bx hb; omega
      have hb0p : b0 ∉ blkOf g.pad := fun hb => by have := h5.new 1 b0 hb; omega
      (repeat refine xo rfl rfl trivial ?_)
      refine x_load (v := .slice g.pad i g.pcap) rfl rfl (fun w' h' => (h'.blk hnp h5.hdr).cell rfl) rfl rfl rfl rfl ?_
      (repeat refine xo rfl rfl trivial ?_)
      refine x_load (v := .slice (some ⟨b0, off0, none⟩) s.pa.length cap) rfl rfl (fun w' h' => (h'.blk hbxp hB5).cell rfl) rfl rfl rfl rfl ?_
      (repeat refine xo rfl rfl (by first|exact trivial|(simp only[AllP];omega)) ?_)
      refine x_load (b := b0) (off := off0 + i) (v := I x) rfl rfl (fun w' h' => ?_) rfl rfl rfl rfl ?_
      · rw [← hcx]; exact World.cell?_of_block ((h'.at_ b0 (by omega) hb0p).trans (h5.kk.at_ b0 hb0 (by simp)))
      refine x_act rfl ?_
      refine o_buildSlice [I x] rfl (by simp [Value.oneCell']) rfl (by decide) (by decide) rfl rfl rfl rfl rfl ?_
      intro b7 w7 hb7 hu7
      have k7 : Kp [] wd w7 := hu7.kp [] (.inr (by omega))
      have h7 := hd.kp0 k7
      have kd7 := kd.trans (k7.mono (by simp))
      refine o_nil ⟨.inr kd7, ?_⟩
      refine x_act rfl ?_
      refine o_append1 rfl rfl h7.pa hu7.blk rfl rfl rfl rfl (by simp only [maxLen]; omega) (by omega) rfl rfl ?_
      intro ad8 cap8 w8 ho8 k8 hn8
      refine o_nil ⟨.inr (kd7.trans k8), ?_⟩
      (repeat refine xo rfl rfl trivial ?_)
      refine x_act rfl ?_
      have hH8 := k8.blk (h7.pne (i := 1) (by simp)) h7.hdr
      refine o_store (b := g.p) (off := 4) (v := .slice ad8 (i + 1) cap8) (c := none) rfl hH8 (by simp) rfl rfl rfl rfl rfl rfl ?_
      intro w9 hu9
      have h9 := h7.pushP (by rw [htk, List.map_append]; exact ho8) k8 hn8 hu9
      refine o_nil ⟨.inl (by kernel_rfl), ?_⟩
      (repeat refine xn ?_)
      exact ⟨{ g with pad := ad8, pcap := cap8 }, rfl, h9, rfl⟩
    · rintro g6 e w6 ⟨h6, hp6⟩
      (repeat first|refine zg ?_|refine zo rfl rfl trivial ?_)
      refine o_load rfl h6.hdr rfl rfl rfl rfl rfl ?_
      refine o_build [I 0, I 0] rfl rfl rfl rfl rfl rfl rfl ?_
      refine o_buildSliceN [I 0, I 0] rfl rfl rfl (by kernel_rfl) rfl rfl rfl rfl ?_
      intro b7 w7 hb7 hu7
      have k7 : Kp [] w6 w7 := hu7.kp [] (.inr (by omega))
      have h7 := h6.kp0 k7
      refine o_append [I 0, I 0] rfl rfl h7.op (fun j v hv => by rw [addr_lit, Nat.zero_add]; exact hu7.blk.cell hv) rfl rfl rfl (by omega) rfl (by omega) (by simp [Value.oneCell']) (by simp only [maxLen]; omega) (by omega) rfl rfl ?_
      intro ad8 cap8 w8 ho8 k8 hn8
      (repeat refine zo rfl rfl trivial ?_)
      have hH8 := k8.blk (h7.pne (i := 4) (by simp)) h7.hdr
      refine o_store (b := g6.p) (off := 7) (v := .slice ad8 (i + 1) cap8) (c := none) rfl hH8 (by simp) rfl rfl rfl rfl rfl rfl ?_
      intro w9 hu9
      have h9 := h7.pushO (by rw [fl_succ]; exact ho8) k8 hn8 hu9
      (repeat first|refine zg ?_|refine zo rfl rfl (by first|exact trivial|(simp only[AllP];omega)) ?_|refine zn ?_)
      exact ⟨i + 1, by dsimp only; rw [hp6]; rfl, ⟨by omega, _, by dsimp only; exact hp6, h9⟩, by omega⟩
  · have hin : i = s.pa.length := by omega
    subst hin
    have hP := h5
    clear h5 hP4
    (repeat first|refine zA ?_|refine zB ?_|refine zg ?_|refine zo rfl rfl trivial ?_|refine zn ?_|refine zb ?_|refine ze rfl ?_)
    refine r_loop (α := Nat) [1, 5, 7] (fun i => [ptr bx, ptr g.p, I i]) (fun i wc => (i : Int) ≤ s.th ∧ ∃ g', g'.p = g.p ∧ PN w2 wc g' s s.pa.length s.pa.length (List.replicate i ⟨0, 0, 0⟩) 0) (fun i => s.th.toNat - i) 0 rfl ⟨by omega, g, rfl, hP⟩ ?_
    rintro i e w6 ⟨hi6, g6, hg6, h6⟩
    have hB6 := h6.kk.blk (by simp) hB2
    (repeat first|refine zA ?_|refine zB ?_|refine zg ?_|refine zo rfl rfl trivial ?_)
    refine o_load (v := I s.th) rfl hB6 rfl rfl rfl rfl rfl ?_
    (repeat first|refine zo rfl rfl trivial ?_|refine zn ?_)
    rw [← hg6]
    refine r_if rfl (fun hc6 => ?_) (fun hc6 => ?_)
    · have hh6 := h6.hdr
      rw [List.length_replicate] at hh6
      (repeat first|refine zC ?_|refine zg ?_|refine zo rfl rfl trivial ?_|refine zb ?_|refine zk ?_)
      refine o_load rfl hh6 rfl rfl rfl rfl rfl ?_
      refine o_build [I 0, I 0, I 0] rfl rfl rfl rfl rfl rfl rfl ?_
      refine o_buildSliceN [I 0, I 0, I 0] rfl rfl rfl (by kernel_rfl) rfl rfl rfl rfl ?_
      intro b7 w7 hb7 hu7
      have k7 : Kp [] w6 w7 := hu7.kp [] (.inr (by omega))
      have h7 := h6.kp0 k7
      have hth7 := h7.th
      rw [List.length_replicate] at hth7
      refine o_append [I 0, I 0, I 0] rfl rfl hth7 (fun j v hv => by rw [addr_lit, Nat.zero_add]; exact hu7.blk.cell hv) rfl rfl rfl (by omega) rfl (by omega) (by simp [Value.oneCell']) (by simp only [maxLen]; omega) (by omega) rfl rfl ?_
      intro ad8 cap8 w8 ho8 k8 hn8
      (repeat refine zo rfl rfl trivial ?_)
      have hH8 := k8.blk (h7.pne (i := 2) (by simp)) h7.hdr
      refine o_store (b := g6.p) (off := 5) (v := .slice ad8 (i + 1) cap8) (c := none) rfl hH8 (by simp) rfl rfl rfl rfl rfl rfl ?_
      intro w9 hu9
      have h9 := h7.pushT (y := ⟨0, 0, 0⟩) (by rw [List.length_replicate, List.flatMap_append]; exact ho8) k8 hn8 (by rw [List.length_replicate]; exact hu9)
      (repeat first|refine zg ?_|refine zo rfl rfl (by first|exact trivial|(simp only[AllP];omega)) ?_|refine zn ?_)
      exact ⟨i + 1, rfl, ⟨by omega, { g6 with tad := ad8, tcap := cap8 }, rfl, by rw [List.replicate_succ']; exact h9⟩, by omega⟩
    · have hin6 : i = s.th.toNat := by omega
      subst hin6
      have hz6 := h6.th
      obtain ⟨tb, TL, hta, hTL, hTlen, hTget, hTset⟩ := hz6.rec (fun _ => rfl) (by omega) (i := 0) (by rw [List.length_replicate]; omega)
      have hTget0 := hTget ⟨0, 0, 0⟩ (by rw [List.getElem?_replicate, if_pos (by omega)])
      have hh6 := h6.hdr
      rw [List.length_replicate, hta] at hh6
      (repeat first|refine zA ?_|refine zg ?_|refine zo rfl rfl trivial ?_|refine ze rfl ?_)
      refine o_load (v := .slice (some ⟨tb, 0, none⟩) s.th.toNat g6.tcap) rfl hh6 rfl rfl rfl rfl rfl ?_
      (repeat refine zo rfl rfl (by first|exact trivial|(simp only[AllP];omega)) ?_)
      refine o_store (b := tb) (off := 0) (v := I 1) (c := none) rfl hTL (by omega) rfl rfl rfl rfl rfl rfl ?_
      intro w7 hu7
      have ec := set_many_cell TL (o := 0 * 3) (j := 0) (cs := stdC ⟨0, 0, 0⟩) (v := I 1) hTget0 (by simpa using hTlen) (by simp)
      have ec2 : setMany TL (0 * 3) (stdC ⟨1, 0, 0⟩) = TL.set 0 (I 1) := ec
      rw [← ec2] at hu7
      have h7 := h6.setT (nt' := (List.replicate s.th.toNat ⟨0, 0, 0⟩).set 0 ⟨1, 0, 0⟩) (by simp) hta hu7 (by rw [List.length_set]; exact hTset ⟨1, 0, 0⟩ _ hu7)
      have e7 : (List.replicate s.th.toNat (⟨0, 0, 0⟩ : Std)).set 0 ⟨1, 0, 0⟩ = thL s (newC s) := by
        rw [thL_zero]
        exact (thL_set (c := { newC s with T := fun _ => none }) (t := 0) (y := ⟨1, 0, 0⟩) (by omega)).symm
      rw [e7] at h7
      (repeat first|refine zA ?_|refine zB ?_|refine zg ?_|refine zo rfl rfl trivial ?_|refine zn ?_|refine zb ?_)
      refine r_loop (α := Nat) [1, 5, 8] (fun i => [ptr bx, ptr g6.p, I i]) (fun i wc => (i : Int) ≤ s.lo ∧ ∃ g', g'.p = g6.p ∧ PN w2 wc g' s s.pa.length s.pa.length (thL s (newC s)) i) (fun i => s.lo.toNat - i) 0 rfl ⟨by omega, g6, rfl, h7⟩ ?_
      rintro i e w8 ⟨hi8, g8, hg8, h8⟩
      have hB8 := h8.kk.blk (by simp) hB2
      (repeat first|refine zA ?_|refine zB ?_|refine zg ?_|refine zo rfl rfl trivial ?_)
      refine o_load (v := I s.lo) rfl hB8 rfl rfl rfl rfl rfl ?_
      (repeat first|refine zo rfl rfl trivial ?_|refine zn ?_)
      rw [← hg8]
      refine r_if rfl (fun hc8 => ?_) (fun hc8 => ?_)
      · (repeat first|refine zC ?_|refine zg ?_|refine zo rfl rfl trivial ?_|refine zb ?_|refine zk ?_)
        refine o_load rfl h8.hdr rfl rfl rfl rfl rfl ?_
        refine o_buildSlice [I (-1)] rfl (by simp [Value.oneCell']) rfl (by decide) (by decide) rfl rfl rfl rfl rfl ?_
        intro b9 w9 hb9 hu9
        have k9 : Kp [] w8 w9 := hu9.kp [] (.inr (by omega))
        have h9 := h8.kp0 k9
        refine o_append1 rfl rfl h9.lo hu9.blk rfl rfl rfl rfl (by simp only [maxLen]; omega) (by omega) rfl rfl ?_
        intro ad10 cap10 w10 ho10 k10 hn10
        (repeat refine zo rfl rfl trivial ?_)
        have hH10 := k10.blk (h9.pne (i := 3) (by simp)) h9.hdr
        refine o_store (b := g8.p) (off := 6) (v := .slice ad10 (i + 1) cap10) (c := none) rfl hH10 (by simp) rfl rfl rfl rfl rfl rfl ?_
        intro w11 hu11
        have h11 := h9.pushW (by rw [List.replicate_succ', List.map_append]; exact ho10) k10 hn10 hu11
        (repeat first|refine zg ?_|refine zo rfl rfl (by first|exact trivial|(simp only[AllP];omega)) ?_|refine zn ?_)
        exact ⟨i + 1, rfl, ⟨by omega, { g8 with wad := ad10, wcap := cap10 }, rfl, h11⟩, by omega⟩
      · have hin8 : i = s.lo.toNat := by omega
        subst hin8
        (repeat first|refine zA ?_|refine zg ?_|refine zo rfl rfl trivial ?_|refine zn ?_|refine ze rfl ?_|refine zr ?_)
        have hthl := thL_len s (newC s)
        refine ⟨_, rfl, .inr ⟨trivial, g8, rfl, ⟨⟨?_, ?_, ?_, ?_, ?_, RG.nd_of h8.sep⟩, newC_ok hso, newC_nz⟩, k02.trans h8.kk, fun b hb => ?_⟩⟩
        · have := h8.hdr
          rw [hthl] at this
          simpa [rgC, newC] using this
        · have := h8.pa
          rwa [List.take_length] at this
        · have := h8.th
          rwa [hthl] at this
        · have := h8.lo
          rwa [loL_zero] at this
        · have := h8.op
          rw [map_zero2] at this
          simpa [newC] using this
        · have hz := k02.size
          simp only [RG.F, List.mem_cons, List.mem_append] at hb
          rcases hb with rfl | hb | hb | hb | hb
          · have := h8.new 0 g8.p (by simp [RG.D]); omega
          · have := h8.new 1 b hb; omega
          · have := h8.new 2 b hb; omega
          · have := h8.new 3 b hb; omega
          · have := h8.new 4 b hb; omega
end Go.Vc
/- feasible: Round; abreastref19: Round, Stand, Owner. -/
namespace Go.Vc
open Go Go.Proofs
set_option maxRecDepth 10000
variable {w : World} {s : Shp} {c : Ck}
def opIn (c : Ck) (i : Int) : Int × Int := if 0 ≤ i ∧ i < c.op.length then opAt c i else (0, 0)
section
variable {g : RG}
theorem rOwner_ret (h : RAt w g s c) (l : Int) : Ret Tryd.prog 75 [ptr g.p, I l] w (fun v w' => v = .tuple #[I (if 0 ≤ l ∧ l < s.lo then (c.O l).getD (-1) else 0), I (if 0 ≤ l ∧ l < s.lo then 0 else 2)] ∧ w' = w) := by
  have hlo := h.ok.sh.2.2.2.1
  refine enter Tryd.call75 Tryd.func75 rfl rfl rfl rfl ?_
  (repeat first|refine zA ?_|refine zB ?_|refine zg ?_|refine zo rfl rfl trivial ?_|refine zn ?_|refine zk ?_|refine zf rfl ?_)
  refine o_load rfl h.hdr rfl rfl rfl rfl rfl ?_
  (repeat refine zo rfl rfl trivial ?_)
  refine o_call (below_ret l s.lo.toNat) rfl rfl rfl ?_
  rintro v w3 ⟨rfl, rfl⟩
  (repeat first|refine zo rfl rfl trivial ?_|refine zn ?_)
  by_cases hin : 0 ≤ l ∧ l < s.lo
  · refine r_no rfl (by simp; omega) ?_
    obtain ⟨ob, L, hoad, hL, _, hLg, _⟩ := h.lok hin.1 hin.2
    have hh := h.hdr
    rw [rgC, hoad] at hh
    (repeat first|refine zA ?_|refine zg ?_|refine zo rfl rfl trivial ?_|refine zk ?_)
    refine o_load (v := .slice (some ⟨ob, 0, none⟩) s.lo.toNat g.wcap) rfl hh rfl rfl rfl rfl rfl ?_
    (repeat refine zo rfl rfl (by first|exact trivial|(simp only[AllP];omega)) ?_)
    refine o_load (b := ob) (off := l.toNat) (v := I ((c.O l).getD (-1))) ?_ hL hLg rfl rfl rfl rfl ?_
    · show Value.pointer (some ⟨ob, 0 + l.toNat, none⟩) = _
      rw [Nat.zero_add]
    (repeat first|refine zo rfl rfl trivial ?_|refine zn ?_|refine zr ?_)
    exact ⟨_, rfl, by rw [if_pos hin, if_pos hin], rfl⟩
  · refine r_yes rfl (by simp; omega) ?_
    (repeat first|refine zA ?_|refine zg ?_|refine zo rfl rfl trivial ?_|refine zn ?_|refine zr ?_)
    exact ⟨_, rfl, by rw [if_neg hin, if_neg hin], rfl⟩
end
end Go.Vc
/- Equality of structs whose fields are all ints. -/
namespace Go.Vc
open Go
variable {P : Program} {n : Nat} {a : Act} {e : Env} {w : World} {K : EPost} {X : List (Nat × EPost)} {R : EPost} {all : List Oper} {G : List Nat} {ro : Option Nat} {Fl : World → Prop}
def okFields (P : Program) : List Field → Nat → Bool
  | [], _ => true
  | f :: r, k => (f.name != "_") && Nat.beq f.offset k && (match P.underlying f.type with | some (.int .i64) => true | _ => false) && okFields P r (k + 1)
def eqInts : List Int → List Int → Bool
  | [], [] => true
  | x :: r, y :: q => if x = y then eqInts r q else false
  | _, _ => false
theorem eqInts_iff : ∀ {l m : List Int}, eqInts l m = true ↔ l = m
  | [], [] => by simp [eqInts]
  | x :: r, y :: q => by
    simp only [eqInts]
    by_cases h : x = y
    · rw [if_pos h, eqInts_iff, h]; simp
    · rw [if_neg h]; simp [h]
  | [], _ :: _ => by simp [eqInts]
  | _ :: _, [] => by simp [eqInts]
theorem run_eqFields_ints (d : Nat) (xs ys : Array Value) : ∀ (fs : List Field) (k : Nat) (us bs : List Int), okFields P fs k = true → us.length = fs.length → bs.length = fs.length → (∀ j v, us[j]? = some v → xs[k + j]? = some (I v)) → (∀ j v, bs[j]? = some v → ys[k + j]? = some (I v)) →
    (Op.eqFields (d + 1) xs ys fs).run P w = .ok (eqInts us bs) w
  | [], k, us, bs, _, ha, hb, _, _ => by
    have e1 : us = [] := List.eq_nil_of_length_eq_zero (by simpa using ha)
    have e2 : bs = [] := List.eq_nil_of_length_eq_zero (by simpa using hb)
    subst e1 e2
    simp [Op.eqFields, eqInts]
  | f :: r, k, us, bs, h, ha, hb, hx, hy => by
    match us, bs, ha, hb with
    | x :: us, y :: bs, ha, hb =>
      simp only [okFields, Bool.and_eq_true, bne_iff_ne, ne_eq] at h
      obtain ⟨⟨⟨h1, h2⟩, h3⟩, h4⟩ := h
      have h2 := Nat.eq_of_beq_eq_true h2
      have h3' : P.underlying f.type = some (.int .i64) := by
        split at h3 <;> first | assumption | cases h3
      have ih := run_eqFields_ints d xs ys r (k + 1) us bs h4 (by simpa using ha) (by simpa using hb) (fun j v hv => by
        have := hx (j + 1) v (by simpa using hv)
        rwa [show k + (j + 1) = k + 1 + j by omega] at this) (fun j v hv => by
        have := hy (j + 1) v (by simpa using hv)
        rwa [show k + (j + 1) = k + 1 + j by omega] at this)
      have hx0 := hx 0 x rfl
      have hy0 := hy 0 y rfl
      rw [Nat.add_zero] at hx0 hy0
      have p1 : (part f.type xs f.offset).run P w = .ok (I x) w := by
        rw [h2]; simp [part, isAgg_run h3' rfl, hx0]
      have p2 : (part f.type ys f.offset).run P w = .ok (I y) w := by
        rw [h2]; simp [part, isAgg_run h3' rfl, hy0]
      simp only [Op.eqFields, Sem.run_bind, Sem.run_ite, if_pos h1, p1, p2, Result.andThen_ok, run_equalIn_int w d f.type .i64 .i64 x y h3', eqInts]
      by_cases hxy : x = y
      · simp [hxy, ih]
      · simp [hxy]
theorem run_eqS {t : TypeId} {us bs : List Int} (hu : P.underlying t = some (.struct (P.fieldsOf t))) (hp : P.stoodInHeld t = false) (hf : okFields P (P.fieldsOf t).toList 0 = true) (ha : Nat.beq us.length (P.fieldsOf t).toList.length = true) (hb : Nat.beq bs.length (P.fieldsOf t).toList.length = true) :
    (Op.equalIn 10000 t (.agg ⟨us.map I⟩) (.agg ⟨bs.map I⟩)).run P w = .ok (eqInts us bs) w := by
  rw [run_equalIn_agg w 9999 t _ _ hu hp]
  exact run_eqFields_ints 9998 _ _ _ 0 us bs hf (Nat.eq_of_beq_eq_true ha) (Nat.eq_of_beq_eq_true hb) (fun j v hv => by simp [hv]) (fun j v hv => by simp [hv])
section
variable {dst : Option Tmp} {ty ty2 : TypeId} {pos : String} {after : Array Edge} {g : Option (Nat × Bool)} {l : List Oper} {t : TypeId} {x y : Operand}
theorem exec_neqS {us bs : List Int} (hx : ev e x = .agg ⟨us.map I⟩) (hy : ev e y = .agg ⟨bs.map I⟩) (hu : P.underlying t = some (.struct (P.fieldsOf t))) (hp : P.stoodInHeld t = false) (hg : P.eqGuardType P.depth t = false) (hf : okFields P (P.fieldsOf t).toList 0 = true) (ha : Nat.beq us.length (P.fieldsOf t).toList.length = true) (hb : Nat.beq bs.length (P.fieldsOf t).toList.length = true) :
    (execOp (ev e) ⟨dst, .binOp .neq t x y ty2, ty, pos, after, g⟩).run P w = .ok (.value (.bool (!eqInts us bs))) w := by
  simp only [execOp, Sem.run_bind, hx, hy, run_eqGuard_agg w .neq t x y _ _ hg, Result.andThen_ok, run_neq_struct, run_eqS hu hp hf ha hb, Sem.run_pure]
theorem q_neqS {C : World → Prop} {K : Env → Prop} (us bs : List Int) (hx : ev e x = .agg ⟨us.map I⟩) (hy : ev e y = .agg ⟨bs.map I⟩) (hu : P.underlying t = some (.struct (P.fieldsOf t))) (hp : P.stoodInHeld t = false) (hg : P.eqGuardType P.depth t = false) (hf : okFields P (P.fieldsOf t).toList 0 = true) (ha : Nat.beq us.length (P.fieldsOf t).toList.length = true) (hb : Nat.beq bs.length (P.fieldsOf t).toList.length = true) (hd : dOk n dst = true) (hm : may all G e g = some true)
    (k : QOps P n all G C K l (put e dst (.bool (!eqInts us bs)))) : QOps P n all G C K (⟨dst, .binOp .neq t x y ty2, ty, pos, after, g⟩ :: l) e :=
  qops_does hd hm (fun w hw => exec_neqS hx hy hu hp hg hf ha hb) k
end
end Go.Vc
/- Equality of arrays of two ints. -/
namespace Go.Vc
open Go
variable {P : Program} {n : Nat} {a : Act} {e : Env} {w : World} {K : EPost} {X : List (Nat × EPost)} {R : EPost} {all : List Oper} {G : List Nat} {ro : Option Nat} {Fl : World → Prop}
section
variable {dst : Option Tmp} {ty ty2 : TypeId} {pos : String} {after : Array Edge} {g : Option (Nat × Bool)} {l : List Oper} {t et : TypeId} {x y : Operand}
theorem o_buildA {i ie : TypeInfo} {zc : Value} {parts : Array (Nat × Operand)} {m : Nat} (cs : List Value) (hu : P.underlying t = some (.array m et)) (hi : P.info? t = some i) (hz : i.zero = some zc) (hie : P.info? et = some ie)
    (hf : Instr.fill (fun j => some (j * ie.size, ie.size)) zc.cells (parts.toList.map fun (j, x) => (j, ev e x)) = some ⟨cs⟩) (hd : dOk n dst = true) (hm : may all G e g = some true)
    (k : Ops ro P n all G K l (put e dst (.agg ⟨cs⟩)) w) : Ops ro P n all G K (⟨dst, .build t parts, ty, pos, after, g⟩ :: l) e w := by
  refine ops_does hd hm ?_ k
  have hb : P.built t (parts.map fun (j, x) => (j, ev e x)).toList = some ⟨cs⟩ := by
    unfold Program.built
    simp only [hi, hu, hz, hie, Array.toList_map]
    exact hf
  simp only [execOp, Sem.run_bind, run_build w t _ _ hb, Result.andThen_ok, Sem.run_pure]
end
end Go.Vc
/- order: the plain model; Len, Event, Why. -/
namespace Go.Vc
open Go Go.Proofs
set_option maxRecDepth 10000
variable {w : World}
/-! ### The model -/
def evA (E : List Ev) (i : Nat) : Ev := (E[i]?).getD ⟨0, 0, 0⟩
def roA (R : List Int) (i : Nat) : Int := (R[i]?).getD 0
def whyEv (a b : Ev) (x y : Int) : Int :=
  if a.t = b.t then 1
  else if a.k = 7 ∧ a.o = b.t then 4
  else if b.k = 8 ∧ b.o = a.t then 5
  else if a.o ≠ b.o then 0
  else if a.k = 6 ∧ b.k = 5 then 2
  else if a.k = 4 ∧ b.k = 3 then 3
  else if a.k = 9 ∧ b.k = 10 then (if x = y then 6 else 0)
  else 0
def whyI (E : List Ev) (R : List Int) (i j : Int) : Int := if 0 ≤ i ∧ i < j ∧ j < E.length then whyEv (evA E i.toNat) (evA E j.toNat) (roA R i.toNat) (roA R j.toNat) else 0
def lk (E : List Ev) (R : List Int) (i j : Nat) : Prop := whyI E R i j ≠ 0
instance (E : List Ev) (R : List Int) (i j : Nat) : Decidable (lk E R i j) := inferInstanceAs (Decidable (_ ≠ _))
theorem lk_lt {E : List Ev} {R : List Int} {i j : Nat} (h : lk E R i j) : i < j ∧ j < E.length := by
  unfold lk whyI at h
  by_cases hc : 0 ≤ (i : Int) ∧ (i : Int) < j ∧ (j : Int) < E.length
  · omega
  · rw [if_neg hc] at h; exact absurd rfl h
theorem ch_lt {E : List Ev} {R : List Int} {i j : Nat} (h : Ch (lk E R) i j) : i < j ∧ j < E.length := by
  induction h with
  | one h => exact lk_lt h
  | more h _ ih => have := lk_lt h; omega
open Classical in
noncomputable def befI (E : List Ev) (R : List Int) (i j : Int) : Bool := decide (0 ≤ i ∧ 0 ≤ j ∧ Ch (lk E R) i.toNat j.toNat)
open Classical in
theorem befI_iff {E : List Ev} {R : List Int} {i j : Int} : befI E R i j = true ↔ (0 ≤ i ∧ 0 ≤ j ∧ Ch (lk E R) i.toNat j.toNat) := @decide_eq_true_iff _ _
theorem befI_nat {E : List Ev} {R : List Int} {i j : Nat} : befI E R i j = true ↔ Ch (lk E R) i j := by
  rw [befI_iff, Int.toNat_natCast, Int.toNat_natCast]
  exact ⟨fun h => h.2.2, fun h => ⟨by omega, by omega, h⟩⟩
/-! ### In memory -/
structure OrG where
  p : Nat
  ead : Option Addr
  ecap : Nat
  rad : Option Addr
  rcap : Nat
  rp : Nat
  bs : List Nat
  M : List (List Nat)
  mad : Option Addr
  mcap : Nat
structure OrB (w : World) (g : OrG) (E : List Ev) (R : List Int) : Prop where
  hdr : Blk w g.p [.slice g.ead E.length g.ecap, .slice g.rad R.length g.rcap, ptr g.rp] 116
  ev : ReadS w g.ead (evsC E)
  ro : ReadS w g.rad (R.map I)
  lr : R.length = E.length
  small : E.length ≤ 2048
theorem OrB.kp {w' : World} {S : List Nat} {g : OrG} {E : List Ev} {R : List Int} (h : OrB w g E R) (hk : Kp S w w') (hS : ∀ b, b ∈ g.p :: (blkOf g.ead ++ blkOf g.rad) → b ∉ S) : OrB w' g E R :=
  ⟨hk.blk (hS _ (by simp)) h.hdr, h.ev.kp hk (fun b hb => hS b (by simp [hb])), h.ro.kp hk (fun b hb => hS b (by simp [hb])), h.lr, h.small⟩
theorem OrB.kp0 {w' : World} {g : OrG} {E : List Ev} {R : List Int} (h : OrB w g E R) (hk : Kp [] w w') : OrB w' g E R := h.kp hk (by simp)
theorem OrB.sm {w' : World} {g : OrG} {E : List Ev} {R : List Int} (h : OrB w g E R) (hk : Sm w w') : OrB w' g E R := h.kp0 (hk.kp [])
def evI (E : List Ev) (i : Int) : Ev := if 0 ≤ i ∧ i < E.length then evA E i.toNat else ⟨0, 0, 0⟩
section
variable {g : OrG} {E : List Ev} {R : List Int}
end
end Go.Vc
/- order: Why, Before, Aside. -/
namespace Go.Vc
open Go Go.Proofs
set_option maxRecDepth 10000
variable {w : World}
section
variable {g : OrG} {E : List Ev} {R : List Int}
end
end Go.Vc
