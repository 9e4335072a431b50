/- order: lent, left. -/
import Derived.Test.YtkgjibhbhddckaaQClTells40
import Derived.Test.YtkgjibhbhddckaaQClTells41
namespace Go.Vc
open Go Go.Proofs
set_option maxRecDepth 10000
variable {w : World}
theorem evsC_snoc (l : List Ev) (x : Ev) : evsC (l ++ [x]) = evsC l ++ evC x := by simp [evsC]
/-- what is lent: new memory, marks behind -/
structure Lent (w w' : World) (s : Shp) (l : List Ev) (pad : Option Addr) (cap : Nat) (ead : Option Addr) (ecap : Nat) : Prop where
  pa : OwnS w' 3 1 pad (s.pa.length + 1) cap (s.pa.map I ++ [I 77])
  ev : OwnS w' 59 3 ead (l.length + 1) ecap (evsC l ++ evC ⟨0, 0, 77⟩)
  kp : Kp [] w w'
  pn : ∀ b, b ∈ blkOf pad → w.heap.size ≤ b
  en : ∀ b, b ∈ blkOf ead → w.heap.size ≤ b
  pe : ∀ b, b ∈ blkOf pad → b ∉ blkOf ead
set_option maxHeartbeats 12800000 in
theorem lent20_ret {s : Shp} {l : List Ev} {pad ead : Option Addr} {cap ecap : Nat} (hr : ReadS w pad (s.pa.map I)) (hpl : s.pa.length ≤ 1048576) (he : ReadS w ead (evsC l)) (hl : l.length ≤ 1048576) :
    Ret Try.prog 32 [.agg ⟨shC s pad cap⟩, .slice ead l.length ecap] w (fun v w' => ∃ pad' cap' ead' ecap', v = .tuple #[.agg ⟨shC s pad' cap'⟩, .slice ead' l.length ecap'] ∧ Lent w w' s l pad' cap' ead' ecap') := by
  have hel := evsC_len l
  refine enterC Try.call32 Try.func32 rfl rfl rfl rfl ?_
  (repeat first|refine zA ?_|refine zg ?_)
  refine o_box rfl rfl rfl ?_
  intro b2 w1 hb2 hu1
  have k1 : Kp [] w w1 := hu1.kp [] (.inr (by omega))
  have hS1 : Blk w1 b2 (shC s pad cap) 24 := hu1.blk
  have z1 := hu1.lt
  refine o_alloc rfl rfl rfl rfl ?_
  intro b4 w2 hb4 hu2
  have k2 : Kp [] w1 w2 := hu2.kp [] (.inr (by omega))
  have hS2 := k2.blk (by simp) hS1
  have z2 := hu2.lt
  have y1 := k1.size
  have y2 := k2.size
  have k02 := k1.trans k2
  (repeat first|refine zo rfl rfl trivial ?_|refine zn ?_)
  refine r_seq ?_
  refine r_cut (α := Option Addr × Nat) [1, 2, 4] (fun _ => [.slice ead l.length ecap, ptr b2, ptr b4]) (fun y w' => Blk w' b2 (shC s y.1 y.2) 24 ∧ OwnS w' 3 1 y.1 (s.pa.length + 1) y.2 (s.pa.map I ++ [I 77]) ∧ Kp [b2] w2 w' ∧ ∀ b, b ∈ blkOf y.1 → w2.heap.size ≤ b) ?_ ?_
  · refine r_any (fun w' => Blk w' b2 (shC s pad cap) 24) 11 follows_mixed (by kernel_rfl) ?_
    have kk := (Sm.drew w2).kp []
    generalize ({ w2 with drawn := w2.drawn + 1 } : World) = wd at kk ⊢
    have hSd := kk.blk (by simp) hS2
    have hrd := hr.kp (k02.trans kk) (by simp)
    have zd := kk.size
    refine t_seg [0, 1, 5, 6, 7] 6 (by kernel_rfl) (by kernel_rfl) (by kernel_rfl) hSd ?_
    try dsimp only [List.map_cons, List.map_nil]
    (repeat refine xo rfl rfl trivial ?_)
    refine x_load (v := .slice pad s.pa.length cap) rfl rfl (fun w' h' => h'.cell rfl) rfl rfl rfl rfl ?_
    (repeat refine xo rfl rfl trivial ?_)
    refine x_load (v := .slice pad s.pa.length cap) rfl rfl (fun w' h' => h'.cell rfl) rfl rfl rfl rfl ?_
    (repeat first|refine xo rfl rfl trivial ?_|refine xn ?_)
    refine t_with (fun e w' => ∃ (lad : Option Addr) (lcap bm : Nat), [1, 2, 4, 9, 10, 14].map e = [.slice ead l.length ecap, ptr b2, ptr b4, .slice lad s.pa.length lcap, .slice (some ⟨bm, 0, none⟩) 1 1, I s.pa.length] ∧ Kp [] wd w' ∧ OwnS w' 3 1 lad s.pa.length lcap (s.pa.map I) ∧ Blk w' bm [I 77] 3 ∧ ∀ b, b ∈ blkOf lad → w2.heap.size ≤ b) 4 [0, 1, 5, 6, 7, 2, 3] ?_ (fun hleaf => ?_)
    · rintro e wz ⟨lad, lcap, bm, he', kz, ho, hBm, hln⟩
      rw [← over_eq he']
      have zz := kz.size
      refine t_one 4 (by kernel_rfl) rfl ?_
      refine o_append1 rfl rfl ho hBm rfl rfl rfl rfl (by simp only [maxLen]; omega) (by omega) rfl rfl ?_
      intro xad xcap w8 ho8 k8 hn8
      have hS8 := k8.blk (fun hb => by have := hln _ hb; omega) (kz.blk (by simp) hSd)
      have hx8 : ∀ b, b ∈ blkOf xad → w2.heap.size ≤ b := fun b hb => by
        rcases hn8 b hb with q | q
        · exact hln b q
        · omega
      have hcap8 := ho8.le_cap
      refine o_nil ⟨.inr hS8, ?_⟩
      refine t_one 8 (by kernel_rfl) rfl ?_
      (repeat first|refine zo rfl rfl (by first|exact trivial|(simp only[AllP];omega)) ?_|refine zn ?_)
      refine ⟨.inr hS8, ?_⟩
      refine t_one 9 (by kernel_rfl) rfl ?_
      (repeat first|refine zo rfl rfl trivial ?_|refine zn ?_)
      refine ⟨.inr hS8, ?_⟩
      refine t_one 10 (by kernel_rfl) rfl ?_
      refine o_store (v := .slice xad s.pa.length xcap) rfl hS8 (by simp) rfl rfl rfl rfl rfl rfl ?_
      intro w9 hu9
      have hS9 : Blk w9 b2 (shC s xad xcap) 24 := hu9.blk
      refine o_nil ⟨.inl (by kernel_rfl), ?_⟩
      refine t_end (by kernel_rfl) ?_
      refine ⟨(xad, xcap), rfl, hS9, ho8.upd hu9 (fun hb => by have := hx8 _ hb; omega), ?_, hx8⟩
      have q1 : Kp [] w2 w8 := (kk.trans kz).since k8 hln
      exact (q1.mono (by simp)).trans (hu9.kp _ (.inl (by simp)))
    refine t_two 2 3 (by kernel_rfl) rfl rfl ?_ ?_
    · refine o_cloneN (s.pa.map I) rfl rfl hrd (by simp) (by simp [Value.oneCell']) rfl rfl rfl (by simp only [maxLen]; omega) (by omega) rfl rfl ?_
      intro lad lcap w3 ho3 k3 hn3
      refine o_nil ⟨.inr (k3.blk (by simp) hSd), ?_⟩
      refine t_one 3 (by kernel_rfl) rfl ?_
      refine o_buildSlice [I 77] rfl (by simp [Value.oneCell']) rfl (by decide) (by decide) rfl rfl rfl rfl rfl ?_
      intro bm w4 hbm hu4
      have k4 : Kp [] w3 w4 := hu4.kp [] (.inr (by omega))
      refine o_nil ⟨.inr (k4.blk (by simp) (k3.blk (by simp) hSd)), ?_⟩
      exact t_same (by kernel_rfl) (hleaf _ _ ⟨lad, lcap, bm, rfl, k3.trans k4, ho3.kp k4 (by simp), hu4.blk, fun b hb => by have := hn3 b hb; omega⟩)
    · refine o_buildSlice [I 77] rfl (by simp [Value.oneCell']) rfl (by decide) (by decide) rfl rfl rfl rfl rfl ?_
      intro bm w4 hbm hu4
      have k4 : Kp [] wd w4 := hu4.kp [] (.inr (by omega))
      have z4 := k4.size
      refine o_nil ⟨.inr (k4.blk (by simp) hSd), ?_⟩
      refine t_one 2 (by kernel_rfl) rfl ?_
      refine o_cloneN (s.pa.map I) rfl rfl (hrd.kp k4 (by simp)) (by simp) (by simp [Value.oneCell']) rfl rfl rfl (by simp only [maxLen]; omega) (by omega) rfl rfl ?_
      intro lad lcap w3 ho3 k3 hn3
      refine o_nil ⟨.inr (k3.blk (by simp) (k4.blk (by simp) hSd)), ?_⟩
      exact t_same (by kernel_rfl) (hleaf _ _ ⟨lad, lcap, bm, rfl, k4.trans k3, ho3, k3.blk (by simp) hu4.blk, fun b hb => by have := hn3 b hb; omega⟩)
  rintro ⟨xad, xcap⟩ e w3 ⟨hS3, hP3, k3, hx3⟩
  dsimp only at hS3 hP3 hx3
  have y3 := k3.size
  have k03 : Kp [] w w3 := k02.since k3 (by simp; omega)
  have hB4 := k3.blk (b := b4) (by simp; omega) hu2.blk
  have he3 := he.kp k03 (by simp)
  (repeat first|refine zA ?_|refine zg ?_|refine zo rfl rfl trivial ?_)
  refine o_cloneR (evsC l) rfl rfl he3 hel (by simp only [evsC]; intro v hv; obtain ⟨x, _, hx⟩ := List.mem_flatMap.1 hv; simp [evC] at hx; rcases hx with rfl | rfl | rfl <;> rfl) rfl rfl rfl (by omega) (by simp only [maxLen]; omega) (by omega) rfl rfl ?_
  intro lad lcap w5 ho5 k5 hn5
  refine o_build (evC ⟨0, 0, 77⟩) rfl rfl rfl rfl rfl rfl rfl ?_
  refine o_buildSliceN (evC ⟨0, 0, 77⟩) rfl rfl rfl (by kernel_rfl) rfl rfl rfl rfl ?_
  intro bm w6 hbm hu6
  have k6 : Kp [] w5 w6 := hu6.kp [] (.inr (by omega))
  refine o_append (evC ⟨0, 0, 77⟩) rfl rfl (ho5.kp k6 (by simp)) (fun j v hv => by rw [addr_lit, Nat.zero_add]; exact hu6.blk.cell hv) rfl rfl rfl (by omega) rfl (by omega) (by simp [Value.oneCell']) (by simp only [maxLen]; omega) (by omega) rfl rfl ?_
  intro xe xec w8 ho8 k8 hn8
  have y5 := k5.size
  have y6 := k6.size
  have k36 := k5.trans k6
  have hxe : ∀ b, b ∈ blkOf xe → w3.heap.size ≤ b := fun b hb => by
    rcases hn8 b hb with q | q
    · exact hn5 b q
    · omega
  have k38 : Kp [] w3 w8 := k36.since k8 hn5
  have hP8 := hP3.kp k38 (by simp)
  have hS8 := k38.blk (by simp) hS3
  have hB8 := k38.blk (by simp) hB4
  have hcap8 := ho8.le_cap
  have y38 := k38.size
  (repeat first|refine zo rfl rfl trivial ?_|refine zn ?_)
  refine r_seq ?_
  refine r_mix (fun w' => Kp [b4] w8 w') [(0, false), (1, false), (2, false), (3, false), (4, false), (5, true), (6, false)] follows_mixed (by kernel_rfl) (by kernel_rfl) (by kernel_rfl) ((Sm.drew w8).kp _) ?_
  have kd := (Sm.drew w8).kp []
  generalize ({ w8 with drawn := w8.drawn + 1 } : World) = wd at kd ⊢
  refine x_loadA (vs := shC s xad xcap) rfl rfl (fun w' h' j v hv => by rw [Nat.zero_add]; exact (h'.blk (by simp; omega) hS8).cell hv) rfl rfl rfl rfl rfl rfl ?_
  (repeat refine xo rfl rfl (by first|exact trivial|(simp only[AllP];omega)) ?_)
  refine x_act rfl ?_
  refine o_storeA (cs := shC s xad xcap) rfl (kd.blk (by simp) hB8) (Nat.le_refl _) rfl (by simp [Value.oneCell']) rfl rfl rfl rfl ?_
  intro w9 hu9
  have k9 : Kp [b4] w8 w9 := (kd.mono (by simp)).trans (hu9.kp _ (.inl (by simp)))
  have hB9 : Blk w9 b4 (shC s xad xcap) 24 := hu9.blk
  refine o_nil ⟨.inr k9, ?_⟩
  (repeat first|refine xo rfl rfl trivial ?_|refine xn ?_)
  (repeat refine zr ?_)
  refine ⟨[.agg ⟨shC s xad xcap⟩, .slice xe l.length xec], ⟨⟨_, rfl, run_loadB hB9 rfl rfl rfl rfl⟩, ⟨_, rfl⟩, trivial⟩, xad, xcap, xe, xec, rfl, ?_, ?_, ?_, ?_, ?_, ?_⟩
  · exact hP8.kp k9 (fun b hb hb2 => by simp at hb2; have := hx3 b hb; omega)
  · exact ho8.kp k9 (fun b hb hb2 => by simp at hb2; have := hxe b hb; omega)
  · exact (k03.trans k38).since k9 (by simp; omega)
  · intro b hb; have := hx3 b hb; omega
  · intro b hb; have := hxe b hb; omega
  · intro b hb hb2; have := hP3.lt b hb; have := hxe b hb2; omega
end Go.Vc
/- order: left. -/
namespace Go.Vc
open Go Go.Proofs
set_option maxRecDepth 10000
variable {w : World}
theorem evA_get {l : List Ev} {i : Nat} (h : i < l.length) : l[i]? = some (evA l i) := by unfold evA; rw [List.getElem?_eq_getElem h]; rfl
set_option maxHeartbeats 12800000 in
theorem left20_yes {s : Shp} {l : List Ev} {pad pad' ead ead' : Option Addr} {cap cap' ecap ecap' : Nat} (hr : ReadS w pad (s.pa.map I)) (hpl : s.pa.length ≤ 1048576) (he : ReadS w ead (evsC l)) (hl : l.length ≤ 1048576)
    (hr' : ReadS w pad' (s.pa.map I ++ [I 77])) (hc : s.pa.length + 1 ≤ cap') (he' : ReadS w ead' (evsC l ++ evC ⟨0, 0, 77⟩)) (hec : l.length + 1 ≤ ecap') :
    Ret Try.prog 33 [.agg ⟨shC s pad' cap'⟩, .agg ⟨shC s pad cap⟩, .slice ead' l.length ecap', .slice ead l.length ecap] w (fun v w' => v = .bool true ∧ Kp [] w w') := by
  have hel := evsC_len l
  obtain ⟨pb, po, rfl, hpb, hpc⟩ := hr'.at_ (by simp)
  obtain ⟨qb, qo, rfl, hqb, hqc⟩ := he'.at_ (by rw [List.length_append]; simp)
  have hrt : ReadS w (some ⟨pb, po, none⟩) (s.pa.map I) := by
    have := hr'.take s.pa.length
    rwa [List.take_left' (by simp)] at this
  have het : ReadS w (some ⟨qb, qo, none⟩) (evsC l) := by
    have := he'.take (l.length * 3)
    rwa [List.take_left' hel] at this
  have h77 : w.cell? ⟨pb, po + s.pa.length, none⟩ = some (I 77) := hpc _ _ (by rw [List.getElem?_append_right (by simp)]; simp)
  have h77e : w.cell? ⟨qb, qo + l.length * 3 + 2, none⟩ = some (I 77) := by
    rw [Nat.add_assoc]
    exact hqc _ _ (by rw [List.getElem?_append_right (by omega), hel, Nat.add_sub_cancel_left]; rfl)
  refine enter Try.call33 Try.func33 rfl rfl rfl rfl ?_
  (repeat first|refine zA ?_|refine zg ?_)
  refine o_box rfl rfl rfl ?_
  intro b4 w1 hb4 hu1
  have k1 : Kp [] w w1 := hu1.kp [] (.inr (by omega))
  have hS1 : Blk w1 b4 (shC s (some ⟨pb, po, none⟩) cap') 24 := hu1.blk
  refine o_box rfl rfl rfl ?_
  intro b5 w2 hb5 hu2
  have k2 : Kp [] w1 w2 := hu2.kp [] (.inr (by omega))
  have hT2 : Blk w2 b5 (shC s pad cap) 24 := hu2.blk
  have hS2 := k2.blk (by simp) hS1
  have k02 := k1.trans k2
  have hcell : ∀ W, Sm w2 W → ∀ b off v, b < w.heap.size → w.cell? ⟨b, off, none⟩ = some v → W.cell? ⟨b, off, none⟩ = some v := fun W hs b off v hb hv => by
    rw [← hv]
    exact World.cell?_of_block (((k02.trans (hs.kp [])).at_ b hb (by simp)))
  (repeat first|refine zo rfl rfl trivial ?_|refine zn ?_)
  refine r_seq ?_
  refine r_seq ?_
  refine r_bool [2, 3, 4, 5] [.slice (some ⟨qb, qo, none⟩) l.length ecap', .slice ead l.length ecap, ptr b4, ptr b5] 50 false (fun w' => Sm w2 w') ?_ ?_
  · refine r_quietS follows_mixed (by kernel_rfl) ?_
    (repeat refine yo rfl rfl trivial ?_)
    refine q_load (v := .slice (some ⟨pb, po, none⟩) s.pa.length cap') rfl (fun W' s => (s.blk hS2).cell rfl) rfl rfl rfl rfl ?_
    (repeat refine yo rfl rfl trivial ?_)
    refine q_load (v := .slice pad s.pa.length cap) rfl (fun W' s => (s.blk hT2).cell rfl) rfl rfl rfl rfl ?_
    refine q_call (.bool true) (fun W hs => (same20_yes (l := s.pa) (hrt.kp (k02.trans (hs.kp [])) (by simp)) (hr.kp (k02.trans (hs.kp [])) (by simp)) rfl rfl (by omega)).mono fun v w' ⟨h1, h2⟩ => ⟨h1, hs.trans h2⟩) Try.call14 rfl rfl rfl ?_
    (repeat first|refine yo rfl rfl trivial ?_|refine q_know _ _ (some false) rfl rfl rfl ?_)
    refine q_load (v := .slice (some ⟨pb, po, none⟩) s.pa.length cap') rfl (fun W' s => (s.blk hS2).cell rfl) rfl rfl rfl rfl ?_
    (repeat refine yo rfl rfl trivial ?_)
    refine q_load (v := .slice pad s.pa.length cap) rfl (fun W' s => (s.blk hT2).cell rfl) rfl rfl rfl rfl ?_
    (repeat refine yo rfl rfl (by first|exact trivial|(simp only[AllP];omega)) ?_)
    refine q_load (v := .slice pad s.pa.length cap) rfl (fun W' s => (s.blk hT2).cell rfl) rfl rfl rfl rfl ?_
    (repeat refine yo rfl rfl (by first|exact trivial|(simp only[AllP];omega)) ?_)
    refine q_load (b := pb) (off := po + s.pa.length) (v := I 77) rfl (fun W' hs => hcell W' hs _ _ _ hpb h77) rfl rfl rfl rfl ?_
    (repeat first|refine yo rfl rfl trivial ?_|refine q_know _ _ (some false) rfl rfl rfl ?_)
    refine q_is false 28 false rfl rfl rfl (by simp) ?_
    (repeat refine yo rfl rfl (by first|exact trivial|(simp only[AllP];omega)) ?_)
    refine q_load (b := qb) (off := qo + l.length * 3 + 2) (v := I 77) rfl (fun W' hs => hcell W' hs _ _ _ hqb h77e) rfl rfl rfl rfl ?_
    (repeat first|refine yo rfl rfl trivial ?_|refine yn ?_)
    intro W' s
    exact ⟨rfl, ⟨_, rfl, by simp⟩, s⟩
  intro e w3 s3
  refine r_cond_f rfl ?_
  (repeat first|refine zA ?_|refine zB ?_|refine zg ?_|refine zo rfl rfl trivial ?_|refine zn ?_|refine zb ?_|refine zk ?_)
  refine r_loop (α := Nat) [2, 3, 9] (fun i => [.slice (some ⟨qb, qo, none⟩) l.length ecap', .slice ead l.length ecap, I i]) (fun i W => i ≤ l.length ∧ Sm w2 W) (fun i => l.length - i) 0 rfl ⟨by omega, s3⟩ ?_
  rintro i e W ⟨hi, sW⟩
  (repeat first|refine zA ?_|refine zB ?_|refine zg ?_|refine zo rfl rfl trivial ?_|refine zn ?_)
  refine r_if rfl (fun hc2 => ?_) (fun hc2 => ?_)
  · have hlt : i < l.length := by omega
    have hx := evA_get hlt
    obtain ⟨b3, o3, rfl, hb3, hc3⟩ := he.at_ (by omega)
    obtain ⟨b6, o6, h6, hb6, hc6⟩ := het.at_ (by omega)
    cases h6
    (repeat first|refine zC ?_|refine zb ?_|refine zk ?_)
    refine r_seq ?_
    refine r_quietS follows_mixed (by kernel_rfl) ?_
    (repeat refine yo rfl rfl (by first|exact trivial|(simp only[AllP];omega)) ?_)
    refine q_loadA (b := qb) (off := qo + i * 3) (vs := evC (evA l i)) rfl (fun W' hs j v hv => by rw [Nat.add_assoc]; exact hcell W' (sW.trans hs) _ _ _ hqb (hc6 _ _ (evsC_get hx j v hv))) rfl rfl rfl rfl rfl rfl ?_
    (repeat refine yo rfl rfl (by first|exact trivial|(simp only[AllP];omega)) ?_)
    refine q_loadA (b := b3) (off := o3 + i * 3) (vs := evC (evA l i)) rfl (fun W' hs j v hv => by rw [Nat.add_assoc]; exact hcell W' (sW.trans hs) _ _ _ hb3 (hc3 _ _ (evsC_get hx j v hv))) rfl rfl rfl rfl rfl rfl ?_
    refine q_neqS [(evA l i).k, (evA l i).t, (evA l i).o] [(evA l i).k, (evA l i).t, (evA l i).o] rfl rfl (by kernel_rfl) (by kernel_rfl) (by kernel_rfl) (by kernel_rfl) (by kernel_rfl) (by kernel_rfl) rfl rfl ?_
    (repeat refine yn ?_)
    intro W2 hs2
    refine r_no rfl (by rw [eqInts_iff.2 rfl]; rfl) ?_
    (repeat first|refine zg ?_|refine zo rfl rfl (by first|exact trivial|(simp only[AllP];omega)) ?_|refine zn ?_|refine zk ?_)
    exact ⟨i + 1, rfl, ⟨by omega, sW.trans hs2⟩, by omega⟩
  · (repeat first|refine zA ?_|refine zg ?_|refine zo rfl rfl trivial ?_|refine zn ?_|refine ze rfl ?_|refine zr ?_)
    exact ⟨_, rfl, rfl, k02.trans (sW.kp [])⟩
end Go.Vc
