/- Query: QueryRaces. -/
import Derived.Test.YtkgngbpkiklckaaGreatDoorQClQRaces49
namespace Go.Vc
open Go Go.Proofs
set_option maxRecDepth 20000
variable {w : World}
set_option maxHeartbeats 12800000 in
theorem QueryRaces_ret {s : Shp} {l : List Ev} {pad ead : Option Addr} {cap ecap : Nat} (hA : AscW w) (hP : PowQ w) (hr : ReadS w pad (s.pa.map I)) (hpl : s.pa.length ≤ 1048576) (he : ReadS w ead (evsC l)) (hl : l.length ≤ 1048576) :
    Ret Tryz.prog 6 [.agg ⟨shC s pad cap⟩, .slice ead l.length ecap] w (fun v w' => v = .bool true ∧ Kp [] w w') := by
  refine enter Tryz.call6 Tryz.func6 rfl rfl rfl rfl ?_
  (repeat first|refine zA ?_|refine zg ?_)
  refine o_box rfl rfl rfl ?_
  intro b2 w1 e1 hu1
  have k1 : Kp [] w w1 := hu1.kp [] (.inr (by omega))
  have g2 : Blk w1 b2 (shC s pad cap) 27 := hu1.blk
  clear hu1
  (repeat first|refine zA ?_|refine zB ?_|refine zg ?_|refine zo rfl rfl trivial ?_|refine zn ?_)
  refine o_call (works_ret (hA.kp k1 (by simp)) (hP.kp k1 (by simp))) rfl rfl rfl ?_
  rintro v w2 ⟨rfl, k2⟩
  have k0 := k1.trans k2
  have g2 := k2.blk (by simp) g2
  (repeat first|refine zo rfl rfl trivial ?_|refine zn ?_|refine zU rfl rfl rfl ?_)
  refine r_if rfl (fun hc => ?_) (fun hc => ?_)
  · (repeat first|refine zA ?_|refine zg ?_)
    refine o_call (works_ret (hA.kp k0 (by simp)) (hP.kp k0 (by simp))) rfl rfl rfl ?_
    rintro v w3 ⟨rfl, k3⟩
    (repeat first|refine zo rfl rfl trivial ?_|refine zn ?_|refine zr ?_)
    exact ⟨_, rfl, rfl, k0.trans k3⟩
  have hn : l.length ≤ 40 := by omega
  (repeat first|refine zA ?_|refine zg ?_|refine zk ?_)
  refine o_loadA (vs := shC s pad cap) rfl (fun j v hv => by rw [Nat.zero_add]; exact g2.cell hv) rfl rfl rfl rfl rfl rfl ?_
  (repeat refine zo rfl rfl trivial ?_)
  refine o_call (r20New_ret (s := s) (l := l) (hr.kp k0 (by simp)) hpl (he.kp k0 (by simp)) hl) rfl rfl rfl ?_
  rintro v w3 (⟨e, hbad, rfl, k3⟩ | ⟨hs, _, hok, g, rfl, hg, k3, _⟩)
  · obtain ⟨ho, hne⟩ := orderM_bad hbad
    have hT := text_bad (s := s) (E := l) (by rw [ho]; exact hne)
    rw [ho] at hT
    have g2 := k3.blk (by simp) g2
    have k0 := k0.trans k3
    (repeat first|refine zA ?_|refine zB ?_|refine zg ?_|refine zo rfl rfl trivial ?_|refine zn ?_)
    refine r_ifn rfl (fun _ => ?_) (fun h => absurd h hne)
    (repeat first|refine zA ?_|refine zg ?_)
    refine o_loadA (vs := shC s pad cap) rfl (fun j v hv => by rw [Nat.zero_add]; exact g2.cell hv) rfl rfl rfl rfl rfl rfl ?_
    (repeat refine zo rfl rfl trivial ?_)
    refine o_call (Text_ret (s := s) (E := l) (hA.kp k0 (by simp)) txtE (by decide) (hr.kp k0 (by simp)) hpl (he.kp k0 (by simp)) hl) rfl rfl rfl ?_
    rw [hT]
    rintro v wa ⟨rfl, ka⟩
    (repeat refine zo rfl rfl trivial ?_)
    refine o_alloc rfl rfl rfl rfl ?_
    intro b7 wb eb hub
    refine o_alloc rfl rfl rfl rfl ?_
    intro b8 wc ec huc
    have lb := hub.lt
    have nn : b7 ≠ b8 := by omega
    refine o_storeA (b := b7) (cs := repC rep0) rfl (huc.kept nn hub.blk) (Nat.le_refl _) rfl (by simp [Value.oneCell', repC]) rfl rfl rfl rfl ?_
    intro wd hud
    refine o_storeA (b := b8) (cs := [I e, I 0]) rfl (hud.kept nn.symm huc.blk) (Nat.le_refl _) rfl (by simp [Value.oneCell']) rfl rfl rfl rfl ?_
    intro we hue
    have g8 : Blk we b8 [I e, I 0] 38 := hue.blk
    have kb : Kp [] wa we := ((((hub.kp [] (.inr (by omega)))).trans (huc.kp [] (.inr (by omega)))).since (hud.kp [b7] (.inl (by simp))) (by simp; omega)).since (hue.kp [b8] (.inl (by simp))) (by simp; omega)
    clear hub huc hud hue
    (repeat first|refine zA ?_|refine zg ?_|refine zo rfl rfl trivial ?_|refine zn ?_)
    refine o_load rfl g8 (v := I e) rfl rfl rfl rfl rfl ?_
    (repeat first|refine zo rfl rfl trivial ?_|refine zn ?_|refine zr ?_)
    exact ⟨_, rfl, by simp, (k0.trans ka).trans kb⟩
  have ho : orderM s l = 0 := orderM_ok hs (by omega) hok
  obtain ⟨sA, hA9⟩ := textA_ok ho hn
  obtain ⟨sB, hB9⟩ := textB_ok ho hn
  obtain ⟨sC, hC9⟩ := textC_ok ho hn
  have hY : RaV w3 (ptr g.p) l (rnds s l l.length) := .inr ⟨g, rfl, hg⟩
  clear hg
  generalize g.p = gp at hY ⊢
  generalize rnds s l l.length = R at hA9 hB9 hC9 hY
  obtain ⟨fo, hfo⟩ : ∃ fo, firstV l R = fo := ⟨_, rfl⟩
  obtain ⟨L, hL⟩ : ∃ L, racesN l R l.length = L := ⟨_, rfl⟩
  rw [hfo] at hA9 hC9
  rw [hL] at hB9
  have g2 := k3.blk (by simp) g2
  have k0 := k0.trans k3
  (repeat first|refine zA ?_|refine zB ?_|refine zg ?_|refine zo rfl rfl trivial ?_|refine zn ?_|refine zk ?_|refine zf rfl ?_)
  refine o_loadA (vs := shC s pad cap) rfl (fun j v hv => by rw [Nat.zero_add]; exact g2.cell hv) rfl rfl rfl rfl rfl rfl ?_
  (repeat refine zo rfl rfl trivial ?_)
  refine o_call (Text_ret (s := s) (E := l) (hA.kp k0 (by simp)) txtA (by decide) (hr.kp k0 (by simp)) hpl (he.kp k0 (by simp)) hl) rfl rfl rfl ?_
  rw [hA9]
  rintro v wa ⟨rfl, ka⟩
  have g2 := ka.blk (by simp) g2
  have hY := hY.kp0 ka
  have k0 := k0.trans ka
  (repeat refine zo rfl rfl trivial ?_)
  refine o_alloc rfl rfl rfl rfl ?_
  intro b9 wb eb hub
  refine o_alloc rfl rfl rfl rfl ?_
  intro b10 wc ec huc
  have lb := hub.lt
  have nn : b9 ≠ b10 := by omega
  refine o_storeA (b := b9) (cs := repC ⟨2, 0, fo.isSome, sA⟩) rfl (huc.kept nn hub.blk) (Nat.le_refl _) rfl (by simp [Value.oneCell', repC]) rfl rfl rfl rfl ?_
  intro wd hud
  refine o_storeA (b := b10) (cs := [I 0, I 0]) rfl (hud.kept nn.symm huc.blk) (Nat.le_refl _) rfl (by simp [Value.oneCell']) rfl rfl rfl rfl ?_
  intro we hue
  have g9 : Blk we b9 (repC ⟨2, 0, fo.isSome, sA⟩) 45 := hue.kept nn hud.blk
  have g10 : Blk we b10 [I 0, I 0] 38 := hue.blk
  have kb : Kp [] wa we := ((((hub.kp [] (.inr (by omega)))).trans (huc.kp [] (.inr (by omega)))).since (hud.kp [b9] (.inl (by simp))) (by simp; omega)).since (hue.kp [b10] (.inl (by simp))) (by simp; omega)
  clear hub huc hud hue
  have g2 := kb.blk (by simp) g2
  have hY := hY.kp0 kb
  have k0 := k0.trans kb
  (repeat first|refine zA ?_|refine zg ?_|refine zn ?_)
  refine o_loadA (vs := shC s pad cap) rfl (fun j v hv => by rw [Nat.zero_add]; exact g2.cell hv) rfl rfl rfl rfl rfl rfl ?_
  (repeat refine zo rfl rfl trivial ?_)
  refine o_call (Text_ret (s := s) (E := l) (hA.kp k0 (by simp)) txtB (by decide) (hr.kp k0 (by simp)) hpl (he.kp k0 (by simp)) hl) rfl rfl rfl ?_
  rw [hB9]
  rintro v wa ⟨rfl, ka⟩
  have g2 := ka.blk (by simp) g2
  have g9 := ka.blk (by simp) g9
  have g10 := ka.blk (by simp) g10
  have hY := hY.kp0 ka
  have k0 := k0.trans ka
  (repeat refine zo rfl rfl trivial ?_)
  refine o_alloc rfl rfl rfl rfl ?_
  intro b11 wb eb hub
  refine o_alloc rfl rfl rfl rfl ?_
  intro b12 wc ec huc
  have lb := hub.lt
  have nn : b11 ≠ b12 := by omega
  refine o_storeA (b := b11) (cs := repC ⟨1, (cntU L : Nat), false, sB⟩) rfl (huc.kept nn hub.blk) (Nat.le_refl _) rfl (by simp [Value.oneCell', repC]) rfl rfl rfl rfl ?_
  intro wd hud
  refine o_storeA (b := b12) (cs := [I 0, I 0]) rfl (hud.kept nn.symm huc.blk) (Nat.le_refl _) rfl (by simp [Value.oneCell']) rfl rfl rfl rfl ?_
  intro we hue
  have g11 : Blk we b11 (repC ⟨1, (cntU L : Nat), false, sB⟩) 45 := hue.kept nn hud.blk
  have g12 : Blk we b12 [I 0, I 0] 38 := hue.blk
  have kb : Kp [] wa we := ((((hub.kp [] (.inr (by omega)))).trans (huc.kp [] (.inr (by omega)))).since (hud.kp [b11] (.inl (by simp))) (by simp; omega)).since (hue.kp [b12] (.inl (by simp))) (by simp; omega)
  clear hub huc hud hue
  have g2 := kb.blk (by simp) g2
  have g9 := kb.blk (by simp) g9
  have g10 := kb.blk (by simp) g10
  have hY := hY.kp0 kb
  have k0 := k0.trans kb
  (repeat first|refine zA ?_|refine zg ?_|refine zn ?_)
  refine o_loadA (vs := shC s pad cap) rfl (fun j v hv => by rw [Nat.zero_add]; exact g2.cell hv) rfl rfl rfl rfl rfl rfl ?_
  (repeat refine zo rfl rfl trivial ?_)
  refine o_call (Text_ret (s := s) (E := l) (hA.kp k0 (by simp)) txtC (by decide) (hr.kp k0 (by simp)) hpl (he.kp k0 (by simp)) hl) rfl rfl rfl ?_
  rw [hC9]
  rintro v wa ⟨rfl, ka⟩
  have g2 := ka.blk (by simp) g2
  have g9 := ka.blk (by simp) g9
  have g10 := ka.blk (by simp) g10
  have g11 := ka.blk (by simp) g11
  have g12 := ka.blk (by simp) g12
  have hY := hY.kp0 ka
  have k0 := k0.trans ka
  (repeat refine zo rfl rfl trivial ?_)
  refine o_alloc rfl rfl rfl rfl ?_
  intro b13 wb eb hub
  refine o_alloc rfl rfl rfl rfl ?_
  intro b14 wc ec huc
  have lb := hub.lt
  have nn : b13 ≠ b14 := by omega
  refine o_storeA (b := b13) (cs := repC ⟨1, (fo.map fun x => (x.2.2 : Int)).getD (-1), false, sC⟩) rfl (huc.kept nn hub.blk) (Nat.le_refl _) rfl (by simp [Value.oneCell', repC]) rfl rfl rfl rfl ?_
  intro wd hud
  refine o_storeA (b := b14) (cs := [I 0, I 0]) rfl (hud.kept nn.symm huc.blk) (Nat.le_refl _) rfl (by simp [Value.oneCell']) rfl rfl rfl rfl ?_
  intro we hue
  have g13 : Blk we b13 (repC ⟨1, (fo.map fun x => (x.2.2 : Int)).getD (-1), false, sC⟩) 45 := hue.kept nn hud.blk
  have g14 : Blk we b14 [I 0, I 0] 38 := hue.blk
  have kb : Kp [] wa we := ((((hub.kp [] (.inr (by omega)))).trans (huc.kp [] (.inr (by omega)))).since (hud.kp [b13] (.inl (by simp))) (by simp; omega)).since (hue.kp [b14] (.inl (by simp))) (by simp; omega)
  clear hub huc hud hue
  have g2 := kb.blk (by simp) g2
  have g9 := kb.blk (by simp) g9
  have g10 := kb.blk (by simp) g10
  have g11 := kb.blk (by simp) g11
  have g12 := kb.blk (by simp) g12
  have hY := hY.kp0 kb
  have k0 := k0.trans kb
  (repeat first|refine zA ?_|refine zB ?_|refine zg ?_|refine zo rfl rfl trivial ?_|refine zn ?_)
  refine o_load rfl g10 (v := I 0) rfl rfl rfl rfl rfl ?_
  (repeat first|refine zo rfl rfl trivial ?_|refine zU rfl rfl rfl ?_)
  refine o_load rfl g12 (v := I 0) rfl rfl rfl rfl rfl ?_
  (repeat first|refine zo rfl rfl trivial ?_|refine zU rfl rfl rfl ?_)
  refine o_load rfl g14 (v := I 0) rfl rfl rfl rfl rfl ?_
  (repeat first|refine zA ?_|refine zg ?_|refine zo rfl rfl trivial ?_|refine zn ?_|refine zk ?_|refine zf rfl ?_)
  refine o_call (yFirst_ret hY) rfl rfl rfl ?_
  rw [hfo]
  rintro v w4 ⟨rfl, k4⟩
  have g9 := k4.blk (by simp) g9
  have g11 := k4.blk (by simp) g11
  have g13 := k4.blk (by simp) g13
  have hY := hY.kp0 k4
  have k0 := k0.trans k4
  (repeat refine zo rfl rfl trivial ?_)
  refine o_alloc rfl rfl rfl rfl ?_
  intro b15 w5 e5 hu5
  have z9 : b9 ≠ b15 := by have := g9.lt; omega
  have z11 : b11 ≠ b15 := by have := g11.lt; omega
  have z13 : b13 ≠ b15 := by have := g13.lt; omega
  have g9 := (hu5.kp [] (.inr (by omega))).blk (by simp) g9
  have g11 := (hu5.kp [] (.inr (by omega))).blk (by simp) g11
  have g13 := (hu5.kp [] (.inr (by omega))).blk (by simp) g13
  refine o_storeA (b := b15) (cs := pairC (fo.getD (0, 0, 0))) rfl hu5.blk (Nat.le_refl _) rfl (by simp [Value.oneCell']) rfl rfl rfl rfl ?_
  intro w6 hu6
  have k46 : Kp [] w4 w6 := (hu5.kp [] (.inr (by omega))).since (hu6.kp [b15] (.inl (by simp))) (by simp; omega)
  have g15 : Blk w6 b15 (pairC (fo.getD (0, 0, 0))) 61 := hu6.blk
  have g9 := hu6.kept z9 g9
  have g11 := hu6.kept z11 g11
  have g13 := hu6.kept z13 g13
  have hY := hY.kp0 k46
  have k0 := k0.trans k46
  clear hu5 hu6
  (repeat first|refine zA ?_|refine zg ?_|refine zo rfl rfl trivial ?_|refine zn ?_)
  refine o_call (yAll_ret hY) rfl rfl rfl ?_
  rw [hL]
  rintro v w7 ⟨lad, lcap, rfl, hO, k7, _⟩
  have g9 := k7.blk (by simp) g9
  have g11 := k7.blk (by simp) g11
  have g13 := k7.blk (by simp) g13
  have g15 := k7.blk (by simp) g15
  have k0 := k0.trans k7
  have hle := hO.le_cap
  have hcap : lcap ≤ maxLen := by
    obtain ⟨_, h⟩ := hO
    cases lad with
    | none => obtain ⟨_, h⟩ := h; rw [h]; exact Nat.zero_le _
    | some a => obtain ⟨_, _, _, h, _⟩ := h; exact h
  simp only [maxLen] at hcap
  have hRd := hO.readN
  (repeat first|refine zA ?_|refine zB ?_|refine zg ?_|refine zo rfl rfl trivial ?_|refine zn ?_|refine zb ?_)
  refine r_loop (α := Nat) [9, 11, 13, 15, 16, 17, 18, 19] (fun i => [ptr b9, ptr b11, ptr b13, ptr b15, .bool fo.isSome, .slice lad L.length lcap, I ((List.range i).countP (runP3 L) : Nat), I i]) (fun i W => i ≤ L.length ∧ Kp [] w7 W) (fun i => L.length - i) 0 rfl ⟨Nat.zero_le _, Kp.refl _ _⟩ ?_
  rintro i e W ⟨hi, kW⟩
  have hcn := List.countP_le_length (p := runP3 L) (l := List.range i)
  rw [List.length_range] at hcn
  (repeat first|refine zA ?_|refine zB ?_|refine zg ?_|refine zo rfl rfl trivial ?_|refine zn ?_)
  refine r_if rfl (fun hc => ?_) (fun hc => ?_)
  · have hi2 : i < L.length := by omega
    obtain ⟨x, hx⟩ : ∃ x, L[i]? = some x := ⟨_, List.getElem?_eq_getElem hi2⟩
    have hpc := prsC_len L
    obtain ⟨b0, off, rfl, hb0, hcell⟩ := (hRd.kp kW (by simp)).at_ (by rw [hpc]; omega)
    have cellI : ∀ {k : Nat} {y : P3}, L[k]? = some y → W.cell? ⟨b0, off + k * 3 + 2, none⟩ = some (I y.2.2) := fun {k y} hy => by
      rw [Nat.add_assoc]; exact hcell _ _ (flC_get (f := pairC) (m := 3) (j := 2) (fun _ => rfl) hy rfl)
    have hsx : secP L i = x.2.2 := by unfold secP; rw [hx]; rfl
    (repeat first|refine zC ?_|refine zb ?_|refine zk ?_)
    refine r_seq ?_
    refine r_cut (α := Unit) [9, 11, 13, 15, 16, 17, 18, 19, 105] (fun _ => [ptr b9, ptr b11, ptr b13, ptr b15, .bool fo.isSome, .slice (some ⟨b0, off, none⟩) L.length lcap, I ((List.range i).countP (runP3 L) : Nat), I i, .bool (runP3 L i)]) (fun _ W' => Kp [] W W') ?_ ?_
    · refine r_quietK follows_mixed (by kernel_rfl) ?_
      by_cases h0 : i = 0
      · subst h0
        (repeat first|refine yo rfl rfl trivial ?_|refine yn ?_|refine q_know _ _ (some true) rfl rfl rfl ?_)
        intro w' hs
        exact ⟨(), rfl, hs⟩
      · obtain ⟨y, hy⟩ : ∃ y, L[i - 1]? = some y := ⟨_, List.getElem?_eq_getElem (by omega)⟩
        have hsy : secP L (i - 1) = y.2.2 := by unfold secP; rw [hy]; rfl
        have hz : decide ((i : Int) = 0) = false := decide_eq_false (by omega)
        (repeat refine yo rfl rfl trivial ?_)
        rw [hz]
        (repeat first|refine yo rfl rfl (by first|exact trivial|(simp only[AllP];omega)) ?_|refine q_know _ _ (some false) rfl rfl rfl ?_)
        refine q_load (v := I x.2.2) rfl (fun w' h' => by
          rw [toNat_nat, ← cellI hx]
          exact World.cell?_of_block (h'.at_ b0 hb0 (by simp))) rfl rfl rfl rfl ?_
        (repeat refine yo rfl rfl (by first|exact trivial|(simp only[AllP];omega)) ?_)
        refine q_load (v := I y.2.2) rfl (fun w' h' => by
          rw [show ((i : Int) - 1).toNat = i - 1 by omega, ← cellI hy]
          exact World.cell?_of_block (h'.at_ b0 hb0 (by simp))) rfl rfl rfl rfl ?_
        (repeat first|refine yo rfl rfl trivial ?_|refine yn ?_)
        have hrp : runP3 L i = !decide ((x.2.2 : Int) = (y.2.2 : Int)) := by
          unfold runP3
          rw [hsx, hsy, decide_eq_false h0, Bool.false_or]
          congr 1
          rw [Bool.eq_iff_iff, decide_eq_true_eq, decide_eq_true_eq]
          omega
        intro w' hs
        exact ⟨(), by rw [hrp]; rfl, hs⟩
    rintro _ e2 w8 k8
    have hcs : (List.range (i + 1)).countP (runP3 L) = (List.range i).countP (runP3 L) + if runP3 L i = true then 1 else 0 := by
      rw [List.range_succ, List.countP_append, List.countP_cons, List.countP_nil, Nat.zero_add]
    refine r_cond rfl (fun h => ?_) (fun h => ?_)
    · rw [if_pos h] at hcs
      (repeat first|refine zg ?_|refine zo rfl rfl (by first|exact trivial|(simp only[AllP];omega)) ?_|refine zn ?_)
      exact ⟨i + 1, by rw [hcs]; rfl, ⟨by omega, kW.trans k8⟩, by omega⟩
    · rw [if_neg (by rw [h]; simp)] at hcs
      (repeat first|refine zg ?_|refine zo rfl rfl (by first|exact trivial|(simp only[AllP];omega)) ?_|refine zn ?_|refine zk ?_)
      exact ⟨i + 1, by rw [hcs]; rfl, ⟨by omega, kW.trans k8⟩, by omega⟩
  · obtain rfl : i = L.length := by omega
    have g9 := kW.blk (by simp) g9
    have g11 := kW.blk (by simp) g11
    have g13 := kW.blk (by simp) g13
    have g15 := kW.blk (by simp) g15
    have k0 := k0.trans kW
    have hcc : (List.range L.length).countP (runP3 L) = cntU L := rfl
    rw [hcc]
    clear hfo
    cases fo with
    | none =>
      (repeat first|refine zA ?_|refine zg ?_|refine zo rfl rfl trivial ?_|refine ze rfl ?_)
      refine o_load rfl g9 (v := .bool false) rfl rfl rfl rfl rfl ?_
      (repeat first|refine zo rfl rfl trivial ?_|refine zT rfl rfl rfl ?_)
      refine o_load rfl g11 (v := I (cntU L : Nat)) rfl rfl rfl rfl rfl ?_
      refine o_pure1 rfl rfl rfl ?_
      refine o_pureB true rfl (decide_eq_true rfl) rfl rfl ?_
      (repeat first|refine zo rfl rfl trivial ?_|refine zT rfl rfl rfl ?_|refine zU rfl rfl rfl ?_)
      refine o_load rfl g13 (v := I (-1)) rfl rfl rfl rfl rfl ?_
      (repeat first|refine zo rfl rfl trivial ?_|refine zn ?_|refine zr ?_)
      exact ⟨_, rfl, rfl, k0⟩
    | some p =>
      (repeat first|refine zA ?_|refine zg ?_|refine zo rfl rfl trivial ?_|refine ze rfl ?_)
      refine o_load rfl g9 (v := .bool true) rfl rfl rfl rfl rfl ?_
      (repeat first|refine zo rfl rfl trivial ?_|refine zT rfl rfl rfl ?_)
      refine o_load rfl g11 (v := I (cntU L : Nat)) rfl rfl rfl rfl rfl ?_
      refine o_pure1 rfl rfl rfl ?_
      refine o_pureB true rfl (decide_eq_true rfl) rfl rfl ?_
      (repeat first|refine zo rfl rfl trivial ?_|refine zT rfl rfl rfl ?_)
      refine o_load rfl g13 (v := I p.2.2) rfl rfl rfl rfl rfl ?_
      (repeat refine zo rfl rfl trivial ?_)
      refine o_load rfl g15 (v := I p.2.2) rfl rfl rfl rfl rfl ?_
      refine o_pureB true rfl (decide_eq_true rfl) rfl rfl ?_
      (repeat first|refine zo rfl rfl trivial ?_|refine zn ?_|refine zr ?_|refine zT rfl rfl rfl ?_|refine zV rfl rfl rfl ?_)
      exact ⟨_, rfl, rfl, k0⟩
theorem queryRaces_walk {s : Shp} {l : List Ev} {pad ead : Option Addr} {cap elen ecap b1 b2 : Nat} (hA : AscW w) (hP : PowQ w) (w0 : ReadS w pad (s.pa.map I)) (w1 : ReadS w ead (evsC l) ∧ l.length = elen ∧ elen ≤ ecap)
    (h0 : s.pa.length ≤ b1) (h1 : l.length ≤ b2) (hb : b1 + (b2 + 0) ≤ 1048576) :
    Calls Tryz.prog 6 #[.agg ⟨shC s pad cap⟩, .slice ead elen ecap] w (fun e w' => e = .returned (.bool true) ∧ RowKit.Below w.heap.size w w') := by
  obtain ⟨w1, rfl, _⟩ := w1
  exact (QueryRaces_ret hA hP w0 (by omega) w1 (by omega)).calls
end Go.Vc
