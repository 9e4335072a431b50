/- abreastref23: View, Warned. -/
import Derived.Test.YtkgjibhbhddckaaDoorQClKPlays37
namespace Go.Vc
open Go Go.Proofs
set_option maxRecDepth 10000
variable {w : World}
def viewR (s : Shp) (A : List AccR) (t : Int) : VR := if 0 ≤ t ∧ t < s.va then phasesR (ofR A t) else ⟨0, 0, [], -1⟩
/-- which of the first so many variables are warned of -/
def warnR (A : List AccR) (k : Nat) : List (Nat × Int) := (List.range k).filterMap fun i : Nat => if 0 ≤ (phasesR (ofR A i)).wn then some (i, (phasesR (ofR A i)).wn) else none
theorem warnR_succ (A : List AccR) (k : Nat) : warnR A (k + 1) = warnR A k ++ if 0 ≤ (phasesR (ofR A k)).wn then [(k, (phasesR (ofR A k)).wn)] else [] := by
  unfold warnR
  rw [List.range_succ, List.filterMap_append]
  congr 1
  by_cases h : 0 ≤ (phasesR (ofR A k)).wn <;> simp [h]
theorem warnR_len (A : List AccR) (k : Nat) : (warnR A k).length ≤ k := by
  unfold warnR
  have := List.length_filterMap_le (fun i : Nat => if 0 ≤ (phasesR (ofR A i)).wn then some (i, (phasesR (ofR A i)).wn) else none) (List.range k)
  rw [List.length_range] at this; exact this
section
variable {g : K23} {s : Shp} {c : Ck} {A : List AccR}
theorem R23.ofN (h : R23 w g s c A) (hnod : ∀ a ∈ A, a.h.Nodup) (t : Int) : (∀ x ∈ ofG g.ag t, x.a.h.Nodup) ∧ phF (ofG g.ag t) = phasesR (ofR A t) :=
  ⟨fun x hx => hnod _ (by rw [← h.ags]; exact List.mem_map.2 ⟨x, ofG_sub _ _ x hx, rfl⟩), by unfold phF; rw [ofG_map, h.ags]⟩
set_option maxHeartbeats 3200000 in
theorem rView_ret (h : R23 w g s c A) (hn : c.n ≤ 2199023255552) (hnod : ∀ a ∈ A, a.h.Nodup) (t : Int) : Ret Tryd.prog 45 [ptr g.p, I t] w (fun v w' => ∃ ad cap, v = .tuple #[.agg ⟨[I (viewR s A t).ph, I (viewR s A t).th, .slice ad (viewR s A t).L.length cap]⟩, .bool (decide (0 ≤ t ∧ t < s.va))] ∧ ReadS w' ad ((viewR s A t).L.map encI) ∧ Kp [] w w') := by
  have hal := h.al
  obtain ⟨hnd, hph⟩ := h.ofN hnod t
  have hol := ofG_len g.ag t g.ag.length
  rw [List.take_length] at hol
  have hrd : AgOk w (ofG g.ag t) := fun x hx => h.rd x (ofG_sub _ _ x hx)
  refine enterC Tryd.call45 Tryd.func45 rfl rfl rfl rfl ?_
  (repeat first|refine zA ?_|refine zg ?_)
  refine o_alloc rfl rfl rfl rfl ?_
  intro b4 w1 hb4 hu1
  have k1 : Kp [] w w1 := hu1.kp [] (.inr (by omega))
  have h1 := h.kp0 k1
  (repeat first|refine zA ?_|refine zB ?_|refine zg ?_|refine zo rfl rfl trivial ?_|refine zn ?_|refine zU rfl rfl rfl ?_)
  unfold viewR
  by_cases ht : t < 0
  · refine o_is true 6 false rfl rfl rfl (by simp [ht]) ?_
    rw [if_neg (show ¬ (0 ≤ t ∧ t < s.va) by omega), decide_eq_false (show ¬ (0 ≤ t ∧ t < s.va) by omega)]
    (repeat first|refine zA ?_|refine zg ?_|refine zo rfl rfl trivial ?_|refine zn ?_|refine zt rfl ?_)
    refine o_build [I 0, I 0, .slice none 0 0] rfl rfl rfl rfl rfl rfl rfl ?_
    refine o_storeA (cs := [I 0, I 0, .slice none 0 0]) rfl hu1.blk (Nat.le_refl _) rfl (by simp [Value.oneCell']) rfl rfl rfl rfl ?_
    intro w2 hu2
    have hB2 : Blk w2 b4 [I 0, I 0, .slice none 0 0] 41 := hu2.blk
    (repeat first|refine zo rfl rfl trivial ?_|refine zn ?_|refine zr ?_)
    exact ⟨[.agg ⟨[I 0, I 0, .slice none 0 0]⟩, _], ⟨⟨_, rfl, run_loadB hB2 rfl rfl rfl rfl⟩, ⟨_, rfl⟩, trivial⟩, none, 0, rfl, rfl, k1.since (hu2.kp [b4] (.inl (by simp))) (by simp; omega)⟩
  refine o_is false 6 false rfl rfl rfl (by simp [ht]) ?_
  (repeat refine zo rfl rfl trivial ?_)
  refine o_load (v := I s.va) rfl h1.hdr rfl rfl rfl rfl rfl ?_
  (repeat first|refine zo rfl rfl trivial ?_|refine zn ?_)
  refine r_if (p := s.va ≤ t) rfl (fun hc => ?_) (fun hc => ?_)
  · rw [if_neg (show ¬ (0 ≤ t ∧ t < s.va) by omega), decide_eq_false (show ¬ (0 ≤ t ∧ t < s.va) by omega)]
    (repeat first|refine zA ?_|refine zg ?_)
    refine o_build [I 0, I 0, .slice none 0 0] rfl rfl rfl rfl rfl rfl rfl ?_
    refine o_storeA (cs := [I 0, I 0, .slice none 0 0]) rfl hu1.blk (Nat.le_refl _) rfl (by simp [Value.oneCell']) rfl rfl rfl rfl ?_
    intro w2 hu2
    have hB2 : Blk w2 b4 [I 0, I 0, .slice none 0 0] 41 := hu2.blk
    (repeat first|refine zo rfl rfl trivial ?_|refine zn ?_|refine zr ?_)
    exact ⟨[.agg ⟨[I 0, I 0, .slice none 0 0]⟩, _], ⟨⟨_, rfl, run_loadB hB2 rfl rfl rfl rfl⟩, ⟨_, rfl⟩, trivial⟩, none, 0, rfl, rfl, k1.since (hu2.kp [b4] (.inl (by simp))) (by simp; omega)⟩
  · rw [if_pos (show 0 ≤ t ∧ t < s.va by omega), decide_eq_true (show 0 ≤ t ∧ t < s.va by omega), ← hph]
    (repeat first|refine zA ?_|refine zg ?_|refine zo rfl rfl trivial ?_|refine zk ?_)
    refine o_call (rOf_ret h1 hn t) rfl rfl rfl ?_
    rintro v w2 ⟨lad, lcap, rfl, ho2, k2⟩
    refine o_call (phases_ret ho2.readN ((hrd.kp k1 (by simp)).kp k2 (by simp)) hnd (by omega)) rfl rfl rfl ?_
    rintro v w3 ⟨ad, cap, rfl, hR3, k3, hn3⟩
    generalize phF (ofG g.ag t) = V at hR3 ⊢
    have hB3 := (k2.trans k3).blk (by simp) hu1.blk
    have zz := (k2.trans k3).size
    have z1 := hu1.lt
    (repeat refine zo rfl rfl trivial ?_)
    refine o_alloc rfl rfl rfl rfl ?_
    intro b6 w4 hb6 hu4
    refine o_storeA (cs := [I V.ph, I V.th, .slice ad V.L.length cap]) rfl hu4.blk (Nat.le_refl _) rfl (by simp [Value.oneCell']) rfl rfl rfl rfl ?_
    intro w5 hu5
    have k5 : Kp [] w3 w5 := (hu4.kp [] (.inr (by omega))).since (hu5.kp [b6] (.inl (by simp))) (by simp; omega)
    have hB6 : Blk w5 b6 [I V.ph, I V.th, .slice ad V.L.length cap] 41 := hu5.blk
    (repeat first|refine zA ?_|refine zg ?_|refine zo rfl rfl trivial ?_|refine zn ?_)
    refine o_loadA (vs := [I V.ph, I V.th, .slice ad V.L.length cap]) rfl (fun j v hv => ?_) rfl rfl rfl rfl rfl rfl ?_
    · rw [Nat.zero_add]; exact hB6.cell hv
    refine o_storeA (cs := [I V.ph, I V.th, .slice ad V.L.length cap]) rfl (k5.blk (by simp) hB3) (Nat.le_refl _) rfl (by simp [Value.oneCell']) rfl rfl rfl rfl ?_
    intro w6 hu6
    have hB7 : Blk w6 b4 [I V.ph, I V.th, .slice ad V.L.length cap] 41 := hu6.blk
    have k6 : Kp [b4] w5 w6 := hu6.kp _ (.inl (by simp))
    (repeat first|refine zo rfl rfl trivial ?_|refine zn ?_|refine zr ?_)
    refine ⟨[.agg ⟨[I V.ph, I V.th, .slice ad V.L.length cap]⟩, _], ⟨⟨_, rfl, run_loadB hB7 rfl rfl rfl rfl⟩, ⟨_, rfl⟩, trivial⟩, ad, cap, rfl, ?_, (((k1.trans k2).trans k3).trans k5).since k6 (by simp; omega)⟩
    exact (hR3.kp k5 (by simp)).kp k6 (fun b hb hb2 => by have := hn3 b hb; have := k2.size; simp at hb2; omega)
set_option maxHeartbeats 3200000 in
theorem rWarned_ret (h : R23 w g s c A) (hn : c.n ≤ 2199023255552) (hnod : ∀ a ∈ A, a.h.Nodup) : Ret Tryd.prog 22 [ptr g.p] w (fun v w' => ∃ ad cap, v = .slice ad (warnR A s.va.toNat).length cap ∧ ReadS w' ad (flagsC (warnR A s.va.toNat)) ∧ Kp [] w w') := by
  have hal := h.al
  have hva := h.rc.ok.sh.2.1
  refine enter Tryd.call22 Tryd.func22 rfl rfl rfl rfl ?_
  (repeat first|refine zA ?_|refine zB ?_|refine zg ?_|refine zo rfl rfl trivial ?_|refine zn ?_|refine zb ?_|refine zk ?_|refine zf rfl ?_)
  refine r_loop (α := Nat × Option Addr × Nat) [0, 3, 4] (fun x => [ptr g.p, .slice x.2.1 (warnR A x.1).length x.2.2, I x.1]) (fun x W => OwnS W 82 2 x.2.1 (warnR A x.1).length x.2.2 (flagsC (warnR A x.1)) ∧ Kp [] w W ∧ (∀ b, b ∈ blkOf x.2.1 → w.heap.size ≤ b) ∧ x.1 ≤ s.va.toNat) (fun x => s.va.toNat - x.1) (0, none, 0) rfl ⟨ownS_nil _ _ _, Kp.refl _ _, by simp [blkOf], by omega⟩ ?_
  rintro ⟨i, ad, cap⟩ e W ⟨ho, kW, hw, hi⟩
  dsimp only at ho hw hi ⊢
  have hW := h.kp0 kW
  (repeat first|refine zA ?_|refine zB ?_|refine zg ?_|refine zo rfl rfl trivial ?_)
  refine o_load (v := I s.va) rfl hW.hdr rfl rfl rfl rfl rfl ?_
  (repeat first|refine zo rfl rfl trivial ?_|refine zn ?_)
  refine r_if rfl (fun hc => ?_) (fun hc => ?_)
  · have hs := warnR_succ A i
    have hsl := warnR_len A i
    obtain ⟨hnd, hph⟩ := h.ofN hnod i
    have hol := ofG_len g.ag i g.ag.length
    rw [List.take_length] at hol
    have hrd : AgOk W (ofG g.ag i) := fun x hx => hW.rd x (ofG_sub _ _ x hx)
    rw [← hph] at hs
    (repeat first|refine zA ?_|refine zC ?_|refine zg ?_|refine zo rfl rfl trivial ?_|refine zb ?_|refine zk ?_)
    refine o_call (rOf_ret hW hn i) rfl rfl rfl ?_
    rintro v w2 ⟨lad, lcap, rfl, ho2, k2⟩
    refine o_call (phases_ret ho2.readN (hrd.kp k2 (by simp)) hnd (by omega)) rfl rfl rfl ?_
    rintro v w3 ⟨vad, vcap, rfl, hR3, k3, hn3⟩
    generalize phF (ofG g.ag i) = V at hR3 hs ⊢
    (repeat refine zo rfl rfl trivial ?_)
    refine o_alloc rfl rfl rfl rfl ?_
    intro b5 w4 hb5 hu4
    refine o_storeA (cs := [I V.ph, I V.th, .slice vad V.L.length vcap]) rfl hu4.blk (Nat.le_refl _) rfl (by simp [Value.oneCell']) rfl rfl rfl rfl ?_
    intro w5 hu5
    have k5 : Kp [] w3 w5 := (hu4.kp [] (.inr (by omega))).since (hu5.kp [b5] (.inl (by simp))) (by simp; omega)
    have kk := (k2.trans k3).trans k5
    (repeat first|refine zA ?_|refine zg ?_|refine zo rfl rfl trivial ?_|refine zn ?_)
    refine r_if (p := 0 ≤ V.wn) rfl (fun hq => ?_) (fun hq => ?_)
    · rw [if_pos hq] at hs
      (repeat first|refine zg ?_|refine zo rfl rfl trivial ?_)
      refine o_build [I i, I V.wn] rfl rfl rfl rfl rfl rfl rfl ?_
      refine o_buildSliceN [I i, I V.wn] rfl rfl rfl (by kernel_rfl) rfl rfl rfl rfl ?_
      intro bm w6 hbm hu6
      have k6 : Kp [] w5 w6 := hu6.kp [] (.inr (by omega))
      have k26 := kk.trans k6
      refine o_append [I i, I V.wn] rfl rfl (ho.kp k26 (by simp)) (fun j v hv => by rw [addr_lit, Nat.zero_add]; exact hu6.blk.cell hv) rfl rfl rfl (by omega) rfl (by omega) (by simp [Value.oneCell']) (by simp only [maxLen]; omega) (by omega) rfl rfl ?_
      intro ad' cap' w7 ho7 k7 hn7
      (repeat first|refine zg ?_|refine zo rfl rfl (by first|exact trivial|(simp only[AllP];omega)) ?_|refine zn ?_)
      have e1 : (warnR A (i + 1)).length = (warnR A i).length + 1 := by rw [hs, List.length_append]; rfl
      refine ⟨(i + 1, ad', cap'), by dsimp only; rw [e1]; rfl, ⟨?_, (kW.trans k26).since k7 hw, fun b hb => ?_, by dsimp only; omega⟩, by dsimp only; omega⟩
      · dsimp only
        rw [e1, hs]
        have e2 : flagsC (warnR A i ++ [(i, V.wn)]) = flagsC (warnR A i) ++ [I i, I V.wn] := by simp [flagsC, flagC]
        rw [e2]
        exact ho7
      · rcases hn7 b hb with q | q
        · exact hw b q
        · have := kW.size; have := k26.size; omega
    · rw [if_neg hq, List.append_nil] at hs
      (repeat first|refine zg ?_|refine zo rfl rfl (by first|exact trivial|(simp only[AllP];omega)) ?_|refine zn ?_|refine zk ?_)
      exact ⟨(i + 1, ad, cap), by dsimp only; rw [hs]; rfl, ⟨by dsimp only; rw [hs]; exact ho.kp kk (by simp), kW.trans kk, hw, by dsimp only; omega⟩, by dsimp only; omega⟩
  · have hil : i = s.va.toNat := by omega
    subst hil
    (repeat first|refine zA ?_|refine zg ?_|refine zo rfl rfl trivial ?_|refine zn ?_|refine ze rfl ?_|refine zr ?_)
    exact ⟨_, rfl, ad, cap, rfl, ho.readN, kW⟩
end
end Go.Vc
