/- abreastref23: Keeps, phases. -/
import Derived.Test.YtkgjibhbhddckaaDoorQClKPlays36
namespace Go.Vc
open Go Go.Proofs
set_option maxRecDepth 10000
variable {w : World}
theorem ofG_sub (l : List AG) (n : Int) : ∀ x ∈ ofG l n, x ∈ l := fun x hx => (List.mem_filter.1 hx).1
theorem encI_one (l : List Nat) : ∀ v ∈ l.map encI, v.oneCell' = true := fun v hv => by
  obtain ⟨x, _, rfl⟩ := List.mem_map.1 hv; rfl
/-- the locks that keep, behind some accesses -/
def kpF (K : List Nat) (l : List AG) : List Nat := l.foldl (fun K x => inter K x.a.h) K
theorem kpF_snoc {K : List Nat} {l : List AG} {i : Nat} {x : AG} (h : l[i]? = some x) : kpF K (l.take (i + 1)) = inter (kpF K (l.take i)) x.a.h := by
  unfold kpF
  rw [List.take_add_one, h, Option.toList_some, List.foldl_append]; rfl
theorem kpF_len (K : List Nat) (l : List AG) : (kpF K l).length ≤ K.length := by
  unfold kpF
  induction l generalizing K with
  | nil => exact Nat.le_refl _
  | cons x r ih => exact Nat.le_trans (ih _) (inter_le _ _)
theorem kpF_keepsR (x : AG) (r : List AG) : keepsR ((x :: r).map AG.a) = some (kpF x.a.h (x :: r)) := by
  unfold keepsR kpF
  simp only [List.map_cons]
  rw [List.foldl_cons, List.foldl_cons, List.foldl_map]
section
variable {g : K23} {s : Shp} {c : Ck} {A : List AccR}
set_option maxHeartbeats 3200000 in
theorem rKeeps_ret (h : R23 w g s c A) (hn : c.n ≤ 2199023255552) (hnod : ∀ a ∈ A, a.h.Nodup) (t : Int) : Ret Tryd.prog 44 [ptr g.p, I t] w (fun v w' => ∃ ad cap, v = .tuple #[.slice ad ((keepsR (ofR A t)).getD []).length cap, .bool (keepsR (ofR A t)).isSome] ∧ ReadS w' ad (((keepsR (ofR A t)).getD []).map encI) ∧ Kp [] w w') := by
  have hal := h.al
  have hol := ofG_len g.ag t g.ag.length
  rw [List.take_length] at hol
  have hnd : ∀ x ∈ ofG g.ag t, x.a.h.Nodup := fun x hx => hnod _ (by rw [← h.ags]; exact List.mem_map.2 ⟨x, ofG_sub _ _ x hx, rfl⟩)
  have hrd : AgOk w (ofG g.ag t) := fun x hx => h.rd x (ofG_sub _ _ x hx)
  rw [← h.ags, ← ofG_map]
  refine enter Tryd.call44 Tryd.func44 rfl rfl rfl rfl ?_
  (repeat first|refine zA ?_|refine zg ?_|refine zo rfl rfl trivial ?_|refine zn ?_)
  refine o_call (rOf_ret h hn t) rfl rfl rfl ?_
  rintro v w1 ⟨lad, lcap, rfl, ho1, k1⟩
  generalize ofG g.ag t = l at ho1 hnd hrd hol ⊢
  have hrd1 := hrd.kp k1 (by simp)
  (repeat first|refine zA ?_|refine zB ?_|refine zg ?_|refine zo rfl rfl trivial ?_|refine zn ?_)
  refine r_if rfl (fun hc => ?_) (fun hc => ?_)
  · have hl : l = [] := List.eq_nil_of_length_eq_zero (by omega)
    subst hl
    (repeat first|refine zA ?_|refine zg ?_|refine zo rfl rfl trivial ?_|refine zn ?_|refine zr ?_)
    exact ⟨_, rfl, none, 0, rfl, rfl, k1⟩
  · obtain ⟨x0, r, rfl⟩ : ∃ x r, l = x :: r := by
      cases l with
      | nil => simp at hc
      | cons x r => exact ⟨x, r, rfl⟩
    rw [kpF_keepsR]
    simp only [Option.getD_some, Option.isSome_some]
    generalize hl : x0 :: r = l at ho1 hnd hrd1 hol hc ⊢
    have hx0 : l[0]? = some x0 := by rw [← hl]; rfl
    have hlpos : 0 < l.length := by rw [← hl]; simp
    have hm0 : x0 ∈ l := List.mem_of_getElem? hx0
    obtain ⟨q1, q2, _⟩ := hrd1 x0 hm0
    obtain ⟨rb, off, rfl, hrb, hcell⟩ := ho1.readN.at_ (by rw [agC_len]; omega)
    have hcx : ∀ {W : World}, Kp [] w1 W → ∀ {i : Nat} {x : AG}, l[i]? = some x → ∀ j v, (agC x)[j]? = some v → W.cell? ⟨rb, off + i * 5 + j, none⟩ = some v := fun hk i x hx j v hv => by
      rw [Nat.add_assoc, ← hcell _ v (agC_get hx j v hv)]
      exact World.cell?_of_block (hk.at_ rb hrb (by simp))
    (repeat first|refine zA ?_|refine zg ?_|refine zo rfl rfl (by first|exact trivial|(simp only[AllP];omega)) ?_|refine zk ?_)
    refine o_loadc (v := .slice x0.ad x0.a.h.length x0.cap) rfl (hcx (Kp.refl _ _) hx0 4 _ rfl) rfl rfl rfl rfl ?_
    refine o_cloneR (x0.a.h.map encI) rfl rfl q1 (by simp) (encI_one _) rfl rfl rfl (by omega) (by simp only [maxLen]; omega) (by omega) rfl rfl ?_
    intro kad kcap w2 ho2 k2 hn2
    (repeat first|refine zA ?_|refine zB ?_|refine zg ?_|refine zo rfl rfl trivial ?_|refine zn ?_|refine zb ?_)
    refine r_loop (α := Nat × Option Addr × Nat) [6, 7, 8] (fun x => [.slice (some ⟨rb, off, none⟩) l.length lcap, .slice x.2.1 (kpF x0.a.h (l.take x.1)).length x.2.2, I x.1]) (fun x W => Kp [] w1 W ∧ ReadS W x.2.1 ((kpF x0.a.h (l.take x.1)).map encI) ∧ x.1 ≤ l.length) (fun x => l.length - x.1) (0, kad, kcap) rfl ⟨k2, ho2.readN, by omega⟩ ?_
    rintro ⟨i, ad, cap⟩ e W ⟨kW, hR, hi⟩
    dsimp only at hR hi ⊢
    (repeat first|refine zA ?_|refine zB ?_|refine zg ?_|refine zo rfl rfl trivial ?_|refine zn ?_)
    refine r_if rfl (fun hc => ?_) (fun hc => ?_)
    · have hlt : i < l.length := by omega
      obtain ⟨x, hx⟩ : ∃ x, l[i]? = some x := ⟨_, List.getElem?_eq_getElem hlt⟩
      have hm := List.mem_of_getElem? hx
      obtain ⟨p1, p2, _⟩ := hrd1 x hm
      have hkl := kpF_len x0.a.h (l.take i)
      (repeat first|refine zC ?_|refine zg ?_|refine zo rfl rfl (by first|exact trivial|(simp only[AllP];omega)) ?_|refine zb ?_|refine zk ?_)
      refine o_loadc (v := .slice x.ad x.a.h.length x.cap) rfl (hcx kW hx 4 _ rfl) rfl rfl rfl rfl ?_
      refine o_call (both23_ret hR (p1.kp kW (by simp)) (by omega) p2) rfl rfl rfl ?_
      rw [bothR_inter (hnd x hm), ← kpF_snoc hx]
      rintro v w4 ⟨ad', cap', rfl, hn4⟩
      (repeat first|refine zg ?_|refine zo rfl rfl (by first|exact trivial|(simp only[AllP];omega)) ?_|refine zn ?_)
      exact ⟨(i + 1, ad', cap'), rfl, ⟨kW.trans hn4.kp, hn4.read, by dsimp only; omega⟩, by dsimp only; omega⟩
    · have hil : i = l.length := by omega
      subst hil
      rw [List.take_length] at hR ⊢
      (repeat first|refine zA ?_|refine zg ?_|refine zo rfl rfl trivial ?_|refine zn ?_|refine ze rfl ?_|refine zr ?_)
      exact ⟨_, rfl, ad, cap, rfl, hR, k1.trans kW⟩
end
/-- the view behind some accesses -/
def phF (l : List AG) : VR := phasesR (l.map AG.a)
theorem phF_snoc {l : List AG} {i : Nat} {x : AG} (h : l[i]? = some x) : phF (l.take (i + 1)) = wnR (phR (phF (l.take i)) x.a) x.a.at_ := by
  unfold phF phasesR
  rw [List.take_add_one, h, Option.toList_some, List.map_append, List.foldl_append]; rfl
theorem phR_len {v : VR} {a : AccR} (hv : v.L.length ≤ 4096) (ha : a.h.length ≤ 4096) : (phR v a).L.length ≤ 4096 := by
  have := inter_le v.L a.h
  unfold phR
  repeat' split
  all_goals simp_all
  all_goals omega
theorem wnR_L (v : VR) (a : Int) : (wnR v a).L = v.L ∧ (wnR v a).ph = v.ph ∧ (wnR v a).th = v.th := by
  unfold wnR; split <;> exact ⟨rfl, rfl, rfl⟩
theorem phR_wn (v : VR) (a : AccR) : (phR v a).wn = v.wn := by
  unfold phR
  repeat' split
  all_goals rfl
set_option maxHeartbeats 6400000 in
theorem phases_ret {l : List AG} {lad : Option Addr} {lcap : Nat} (hr : ReadS w lad (l.flatMap agC)) (hA : AgOk w l) (hnd : ∀ x ∈ l, x.a.h.Nodup) (hll : l.length ≤ 2199023255552) : Ret Tryd.prog 47 [.slice lad l.length lcap] w (fun v w' => ∃ ad cap, v = .tuple #[.agg ⟨[I (phF l).ph, I (phF l).th, .slice ad (phF l).L.length cap]⟩, I (phF l).wn] ∧ ReadS w' ad ((phF l).L.map encI) ∧ Kp [] w w' ∧ ∀ b, b ∈ blkOf ad → w.heap.size ≤ b) := by
  refine enterC Tryd.call47 Tryd.func47 rfl rfl rfl rfl ?_
  (repeat first|refine zA ?_|refine zg ?_)
  refine o_alloc rfl rfl rfl rfl ?_
  intro b2 w1 hb2 hu1
  have k1 : Kp [] w w1 := hu1.kp [] (.inr (by omega))
  (repeat first|refine zA ?_|refine zg ?_|refine zo rfl rfl trivial ?_|refine zn ?_)
  refine o_alloc rfl rfl rfl rfl ?_
  intro b4 w2 hb4 hu2
  have k2 : Kp [] w1 w2 := hu2.kp [] (.inr (by omega))
  have k02 := k1.trans k2
  have hB2 := k2.blk (by simp) hu1.blk
  have z1 := hu1.lt
  have z2 := hu2.lt
  have z0 := k1.size
  (repeat first|refine zA ?_|refine zB ?_|refine zg ?_|refine zo rfl rfl trivial ?_|refine zn ?_|refine zb ?_)
  refine r_loop (α := Nat × Option Addr × Nat) [0, 2, 4, 5, 6] (fun x => [.slice lad l.length lcap, ptr b2, ptr b4, I (phF (l.take x.1)).wn, I x.1]) (fun x W => Blk W b4 [I (phF (l.take x.1)).ph, I (phF (l.take x.1)).th, .slice x.2.1 (phF (l.take x.1)).L.length x.2.2] 41 ∧ Kp [b4] w2 W ∧ ReadS W x.2.1 ((phF (l.take x.1)).L.map encI) ∧ (b4 ∉ blkOf x.2.1 ∧ b2 ∉ blkOf x.2.1 ∧ ∀ b, b ∈ blkOf x.2.1 → w.heap.size ≤ b) ∧ (phF (l.take x.1)).L.length ≤ 4096 ∧ x.1 ≤ l.length) (fun x => l.length - x.1) (0, none, 0) rfl ⟨hu2.blk, Kp.refl _ _, rfl, ⟨by simp [blkOf], by simp [blkOf], by simp [blkOf]⟩, by simp [phF, phasesR], by omega⟩ ?_
  rintro ⟨i, ad, cap⟩ e W ⟨hB, kW, hR, ⟨hnb, hnc, hnn⟩, hvl, hi⟩
  dsimp only at hB hR hnb hnc hnn hvl hi ⊢
  have kwW : Kp [] w W := k02.since kW (by simp; omega)
  (repeat first|refine zA ?_|refine zB ?_|refine zg ?_|refine zo rfl rfl trivial ?_|refine zn ?_)
  refine r_if rfl (fun hc => ?_) (fun hc => ?_)
  · have hlt : i < l.length := by omega
    obtain ⟨x, hx⟩ : ∃ x, l[i]? = some x := ⟨_, List.getElem?_eq_getElem hlt⟩
    have hm := List.mem_of_getElem? hx
    obtain ⟨p1, p2, p3⟩ := hA x hm
    have hs := phF_snoc hx
    obtain ⟨rb, off, rfl, hrb, hcell⟩ := hr.at_ (by rw [agC_len]; omega)
    have hcx : ∀ {W : World}, Kp [] w W → ∀ j v, (agC x)[j]? = some v → W.cell? ⟨rb, off + i * 5 + j, none⟩ = some v := fun hk j v hv => by
      rw [Nat.add_assoc, ← hcell _ v (agC_get hx j v hv)]
      exact World.cell?_of_block (hk.at_ rb hrb (by simp))
    generalize hv : phF (l.take i) = v at hB hR hvl hs ⊢
    (repeat first|refine zA ?_|refine zC ?_|refine zg ?_|refine zo rfl rfl (by first|exact trivial|(simp only[AllP];omega)) ?_|refine zb ?_|refine zk ?_)
    refine o_loadA (vs := evC x.a.ev) rfl (fun j v hv => ?_) rfl rfl rfl rfl rfl rfl ?_
    · rw [Nat.add_assoc]
      match j, hv with
      | 0, hv => exact hcx kwW 1 _ hv
      | 1, hv => exact hcx kwW 2 _ hv
      | 2, hv => exact hcx kwW 3 _ hv
      | j + 3, hv => simp [evC] at hv
    refine o_alloc rfl rfl rfl rfl ?_
    intro b7 w3 hb7 hu3
    refine o_storeA (cs := evC x.a.ev) rfl hu3.blk (Nat.le_refl _) rfl (by simp [Value.oneCell']) rfl rfl rfl rfl ?_
    intro w4 hu4
    have k3 : Kp [] W w3 := hu3.kp [] (.inr (by omega))
    have k4 : Kp [] W w4 := k3.since (hu4.kp [b7] (.inl (by simp))) (by simp; omega)
    have hB7 : Blk w4 b7 (evC x.a.ev) 35 := hu4.blk
    have kw4 := kwW.trans k4
    (repeat first|refine zA ?_|refine zg ?_|refine zo rfl rfl (by first|exact trivial|(simp only[AllP];omega)) ?_|refine zn ?_)
    refine o_loadc (v := .slice x.ad x.a.h.length x.cap) rfl (hcx kw4 4 _ rfl) rfl rfl rfl rfl ?_
    refine o_cloneR (x.a.h.map encI) rfl rfl (p1.kp kw4 (by simp)) (by simp) (encI_one _) rfl rfl rfl (by omega) (by simp only [maxLen]; omega) (by omega) rfl rfl ?_
    intro had hcap w5 ho5 k5 hn5
    have kW5 := k4.trans k5
    have hB5 := kW5.blk (by simp) hB
    have hB75 := k5.blk (by simp) hB7
    have zW := hB.lt
    have z4 := k4.size
    have hR5 := hR.kp kW5 (by simp)
    have hh5 := ho5.readN
    have hnh : b4 ∉ blkOf had ∧ b2 ∉ blkOf had ∧ ∀ b, b ∈ blkOf had → w.heap.size ≤ b := ⟨fun hb => by have := hn5 _ hb; omega, fun hb => by have := hn5 _ hb; omega, fun b hb => by have := hn5 _ hb; have := kw4.size; omega⟩
    have hpl := phR_len (a := x.a) hvl p2
    (repeat first|refine zo rfl rfl trivial ?_|refine zn ?_)
    refine r_seq ?_
    refine r_cut (α := Option Addr × Nat) [0, 2, 4, 5, 6, 7, 8] (fun _ => [.slice (some ⟨rb, off, none⟩) l.length lcap, ptr b2, ptr b4, I v.wn, I i, ptr b7, .slice had x.a.h.length hcap]) (fun y W' => Blk W' b4 [I (phR v x.a).ph, I (phR v x.a).th, .slice y.1 (phR v x.a).L.length y.2] 41 ∧ ReadS W' y.1 ((phR v x.a).L.map encI) ∧ (b4 ∉ blkOf y.1 ∧ b2 ∉ blkOf y.1 ∧ ∀ b, b ∈ blkOf y.1 → w.heap.size ≤ b) ∧ Kp [b4] w5 W') ?_ ?_
    · unfold phR
      (repeat first|refine zA ?_|refine zg ?_|refine zo rfl rfl trivial ?_|refine zb ?_)
      refine o_load (v := I v.ph) rfl hB5 rfl rfl rfl rfl rfl ?_
      (repeat first|refine zo rfl rfl trivial ?_|refine zn ?_)
      refine r_if (p := v.ph = 0) rfl (fun c0 => ?_) (fun c0 => ?_)
      · rw [if_pos c0]
        (repeat first|refine zg ?_|refine zo rfl rfl trivial ?_)
        refine o_load (v := I x.a.ev.t) rfl hB75 rfl rfl rfl rfl rfl ?_
        refine o_build [I 1, I x.a.ev.t, .slice none 0 0] rfl rfl rfl rfl rfl rfl rfl ?_
        refine o_storeA (cs := [I 1, I x.a.ev.t, .slice none 0 0]) rfl hB5 (Nat.le_refl _) rfl (by simp [Value.oneCell']) rfl rfl rfl rfl ?_
        intro w6 hu6
        (repeat refine zn ?_)
        exact ⟨(none, 0), rfl, hu6.blk, rfl, ⟨by simp [blkOf], by simp [blkOf], by simp [blkOf]⟩, hu6.kp _ (.inl (by simp))⟩
      rw [if_neg c0]
      (repeat first|refine zA ?_|refine zg ?_|refine zo rfl rfl trivial ?_)
      refine o_load (v := I v.ph) rfl hB5 rfl rfl rfl rfl rfl ?_
      (repeat refine zo rfl rfl trivial ?_)
      by_cases c1 : v.ph = 1
      · refine o_is true 3 true rfl rfl rfl (by simp [c1]) ?_
        (repeat refine zo rfl rfl trivial ?_)
        refine o_load (v := I v.th) rfl hB5 rfl rfl rfl rfl rfl ?_
        (repeat refine zo rfl rfl trivial ?_)
        refine o_load (v := I x.a.ev.t) rfl hB75 rfl rfl rfl rfl rfl ?_
        (repeat first|refine zo rfl rfl trivial ?_|refine zn ?_)
        refine r_if (p := v.th = x.a.ev.t) rfl (fun ct => ?_) (fun ct => ?_)
        · rw [if_pos ⟨c1, ct⟩]
          (repeat refine zk ?_)
          exact ⟨(ad, cap), rfl, hB5, hR5, ⟨hnb, hnc, hnn⟩, Kp.refl _ _⟩
        rw [if_neg (fun q => ct q.2)]
        (repeat first|refine zA ?_|refine zg ?_|refine zo rfl rfl trivial ?_)
        refine o_load (v := I v.ph) rfl hB5 rfl rfl rfl rfl rfl ?_
        (repeat refine zo rfl rfl trivial ?_)
        refine o_is true 3 true rfl rfl rfl (by simp [c1]) ?_
        (repeat refine zo rfl rfl trivial ?_)
        refine o_load (v := I x.a.ev.k) rfl hB75 rfl rfl rfl rfl rfl ?_
        (repeat first|refine zo rfl rfl trivial ?_|refine zn ?_)
        refine r_if (p := x.a.ev.k = 1) rfl (fun hk => ?_) (fun hk => ?_)
        · rw [if_pos ⟨c1, hk⟩]
          (repeat first|refine zg ?_|refine zo rfl rfl trivial ?_)
          refine o_build [I 2, I 0, .slice had x.a.h.length hcap] rfl rfl rfl rfl rfl rfl rfl ?_
          refine o_storeA (cs := [I 2, I 0, .slice had x.a.h.length hcap]) rfl hB5 (Nat.le_refl _) rfl (by simp [Value.oneCell']) rfl rfl rfl rfl ?_
          intro w6 hu6
          (repeat refine zn ?_)
          exact ⟨(had, hcap), rfl, hu6.blk, hh5.kp (hu6.kp [b4] (.inl (by simp))) (fun b hb e => hnh.1 (by simp at e; exact e ▸ hb)), hnh, hu6.kp _ (.inl (by simp))⟩

        rw [if_neg (fun q => hk q.2), if_pos c1]
        (repeat first|refine zA ?_|refine zg ?_|refine zo rfl rfl trivial ?_)
        refine o_load (v := I v.ph) rfl hB5 rfl rfl rfl rfl rfl ?_
        (repeat first|refine zo rfl rfl trivial ?_|refine zn ?_)
        refine r_yes rfl (by simp [c1]) ?_
        (repeat first|refine zg ?_|refine zo rfl rfl trivial ?_)
        refine o_build [I 3, I 0, .slice had x.a.h.length hcap] rfl rfl rfl rfl rfl rfl rfl ?_
        refine o_storeA (cs := [I 3, I 0, .slice had x.a.h.length hcap]) rfl hB5 (Nat.le_refl _) rfl (by simp [Value.oneCell']) rfl rfl rfl rfl ?_
        intro w6 hu6
        (repeat refine zn ?_)
        exact ⟨(had, hcap), rfl, hu6.blk, hh5.kp (hu6.kp [b4] (.inl (by simp))) (fun b hb e => hnh.1 (by simp at e; exact e ▸ hb)), hnh, hu6.kp _ (.inl (by simp))⟩

      rw [if_neg (fun q => c1 q.1), if_neg (fun q => c1 q.1), if_neg c1]
      refine o_is false 3 true rfl rfl rfl (by simp [c1]) ?_
      (repeat first|refine zA ?_|refine zg ?_|refine zo rfl rfl trivial ?_|refine zn ?_|refine zf rfl ?_)
      refine o_load (v := I v.ph) rfl hB5 rfl rfl rfl rfl rfl ?_
      (repeat refine zo rfl rfl trivial ?_)
      refine o_is false 3 true rfl rfl rfl (by simp [c1]) ?_
      (repeat first|refine zA ?_|refine zg ?_|refine zo rfl rfl trivial ?_|refine zn ?_|refine zf rfl ?_)
      refine o_load (v := I v.ph) rfl hB5 rfl rfl rfl rfl rfl ?_
      (repeat first|refine zo rfl rfl trivial ?_|refine zn ?_)
      refine r_no rfl (by simp [c1]) ?_
      (repeat first|refine zA ?_|refine zg ?_|refine zo rfl rfl trivial ?_)
      refine o_load (v := I v.ph) rfl hB5 rfl rfl rfl rfl rfl ?_
      (repeat refine zo rfl rfl trivial ?_)
      by_cases c2 : v.ph = 2
      · refine o_is true 3 true rfl rfl rfl (by simp [c2]) ?_
        (repeat refine zo rfl rfl trivial ?_)
        refine o_load (v := I x.a.ev.k) rfl hB75 rfl rfl rfl rfl rfl ?_
        (repeat first|refine zo rfl rfl trivial ?_|refine zn ?_)
        refine r_if (p := x.a.ev.k = 1) rfl (fun hk => ?_) (fun hk => ?_)
        · rw [if_pos ⟨c2, hk⟩]
          (repeat first|refine zg ?_|refine zo rfl rfl trivial ?_)
          refine o_load (v := .slice ad v.L.length cap) rfl hB5 rfl rfl rfl rfl rfl ?_
          (repeat refine zo rfl rfl trivial ?_)
          refine o_call (both23_ret hR5 hh5 hvl p2) rfl rfl rfl ?_
          rw [bothR_inter (hnd x hm)]
          rintro v' w6 ⟨bad, bcap, rfl, hn6⟩
          have hB6 := hn6.kp.blk (by simp) hB5
          have hnb6 : b4 ∉ blkOf bad ∧ b2 ∉ blkOf bad ∧ ∀ b, b ∈ blkOf bad → w.heap.size ≤ b := ⟨fun hb => by have := hn6.new _ hb; have := hB5.lt; omega, fun hb => by have := hn6.new _ hb; have := hB5.lt; omega, fun b hb => by have := hn6.new _ hb; have := hB5.lt; omega⟩
          refine o_build [I 2, I 0, .slice bad (inter v.L x.a.h).length bcap] rfl rfl rfl rfl rfl rfl rfl ?_
          refine o_storeA (cs := [I 2, I 0, .slice bad (inter v.L x.a.h).length bcap]) rfl hB6 (Nat.le_refl _) rfl (by simp [Value.oneCell']) rfl rfl rfl rfl ?_
          intro w7 hu7
          (repeat refine zn ?_)
          exact ⟨(bad, bcap), rfl, hu7.blk, hn6.read.kp (hu7.kp [b4] (.inl (by simp))) (fun b hb e => hnb6.1 (by simp at e; exact e ▸ hb)), hnb6, (hn6.kp.mono (by simp)).trans (hu7.kp _ (.inl (by simp)))⟩

        rw [if_neg (fun q => hk q.2)]
        (repeat first|refine zg ?_|refine zo rfl rfl trivial ?_)
        refine o_load (v := .slice ad v.L.length cap) rfl hB5 rfl rfl rfl rfl rfl ?_
        (repeat refine zo rfl rfl trivial ?_)
        refine o_call (both23_ret hR5 hh5 hvl p2) rfl rfl rfl ?_
        rw [bothR_inter (hnd x hm)]
        rintro v' w6 ⟨bad, bcap, rfl, hn6⟩
        have hB6 := hn6.kp.blk (by simp) hB5
        have hnb6 : b4 ∉ blkOf bad ∧ b2 ∉ blkOf bad ∧ ∀ b, b ∈ blkOf bad → w.heap.size ≤ b := ⟨fun hb => by have := hn6.new _ hb; have := hB5.lt; omega, fun hb => by have := hn6.new _ hb; have := hB5.lt; omega, fun b hb => by have := hn6.new _ hb; have := hB5.lt; omega⟩
        refine o_build [I 3, I 0, .slice bad (inter v.L x.a.h).length bcap] rfl rfl rfl rfl rfl rfl rfl ?_
        refine o_storeA (cs := [I 3, I 0, .slice bad (inter v.L x.a.h).length bcap]) rfl hB6 (Nat.le_refl _) rfl (by simp [Value.oneCell']) rfl rfl rfl rfl ?_
        intro w7 hu7
        (repeat refine zn ?_)
        exact ⟨(bad, bcap), rfl, hu7.blk, hn6.read.kp (hu7.kp [b4] (.inl (by simp))) (fun b hb e => hnb6.1 (by simp at e; exact e ▸ hb)), hnb6, (hn6.kp.mono (by simp)).trans (hu7.kp _ (.inl (by simp)))⟩

      · rw [if_neg (fun q => c2 q.1)]
        refine o_is false 3 true rfl rfl rfl (by simp [c2]) ?_
        (repeat first|refine zg ?_|refine zo rfl rfl trivial ?_|refine zn ?_|refine zf rfl ?_)
        refine o_load (v := .slice ad v.L.length cap) rfl hB5 rfl rfl rfl rfl rfl ?_
        (repeat refine zo rfl rfl trivial ?_)
        refine o_call (both23_ret hR5 hh5 hvl p2) rfl rfl rfl ?_
        rw [bothR_inter (hnd x hm)]
        rintro v' w6 ⟨bad, bcap, rfl, hn6⟩
        have hB6 := hn6.kp.blk (by simp) hB5
        have hnb6 : b4 ∉ blkOf bad ∧ b2 ∉ blkOf bad ∧ ∀ b, b ∈ blkOf bad → w.heap.size ≤ b := ⟨fun hb => by have := hn6.new _ hb; have := hB5.lt; omega, fun hb => by have := hn6.new _ hb; have := hB5.lt; omega, fun b hb => by have := hn6.new _ hb; have := hB5.lt; omega⟩
        refine o_build [I 3, I 0, .slice bad (inter v.L x.a.h).length bcap] rfl rfl rfl rfl rfl rfl rfl ?_
        refine o_storeA (cs := [I 3, I 0, .slice bad (inter v.L x.a.h).length bcap]) rfl hB6 (Nat.le_refl _) rfl (by simp [Value.oneCell']) rfl rfl rfl rfl ?_
        intro w7 hu7
        (repeat refine zn ?_)
        exact ⟨(bad, bcap), rfl, hu7.blk, hn6.read.kp (hu7.kp [b4] (.inl (by simp))) (fun b hb e => hnb6.1 (by simp at e; exact e ▸ hb)), hnb6, (hn6.kp.mono (by simp)).trans (hu7.kp _ (.inl (by simp)))⟩
    have huw := phR_wn v x.a
    generalize phR v x.a = u at hs hpl huw ⊢
    rintro ⟨ad', cap'⟩ e w6 ⟨hB6, hR6, hnb6, k6⟩
    dsimp only at hB6 hR6 hnb6
    have kW6 : Kp [b4] w2 w6 := (kW.trans (kW5.mono (by simp))).trans k6
    have kw6 : Kp [] w w6 := k02.since kW6 (by simp; omega)
    have fin : ∀ (z : VR), phF (l.take (i + 1)) = z → z.ph = u.ph → z.th = u.th → z.L = u.L → ∀ e : Env, [0, 2, 4, 5, 6].map e = [.slice (some ⟨rb, off, none⟩) l.length lcap, ptr b2, ptr b4, I z.wn, I ((i : Int) + 1)] → ∃ g' : Nat × Option Addr × Nat, [0, 2, 4, 5, 6].map e = [.slice (some ⟨rb, off, none⟩) l.length lcap, ptr b2, ptr b4, I (phF (l.take g'.1)).wn, I g'.1] ∧ (Blk w6 b4 [I (phF (l.take g'.1)).ph, I (phF (l.take g'.1)).th, .slice g'.2.1 (phF (l.take g'.1)).L.length g'.2.2] 41 ∧ Kp [b4] w2 w6 ∧ ReadS w6 g'.2.1 ((phF (l.take g'.1)).L.map encI) ∧ (b4 ∉ blkOf g'.2.1 ∧ b2 ∉ blkOf g'.2.1 ∧ ∀ b, b ∈ blkOf g'.2.1 → w.heap.size ≤ b) ∧ (phF (l.take g'.1)).L.length ≤ 4096 ∧ g'.1 ≤ l.length) ∧ l.length - g'.1 < l.length - i := fun z hz z1 z2 z3 e he => by
      refine ⟨(i + 1, ad', cap'), ?_, ?_, ?_⟩
      · dsimp only; rw [hz]; exact he
      · dsimp only; rw [hz, z1, z2, z3]; exact ⟨hB6, kW6, hR6, hnb6, hpl, by omega⟩
      · dsimp only; omega
    have hno : ¬ (u.ph = 3 ∧ u.L.length = 0 ∧ u.wn < 0) → phF (l.take (i + 1)) = u := fun q => by rw [hs]; unfold wnR; rw [if_neg q]
    rw [← huw]
    (repeat first|refine zA ?_|refine zg ?_|refine zo rfl rfl trivial ?_)
    refine o_load (v := I u.ph) rfl hB6 rfl rfl rfl rfl rfl ?_
    (repeat refine zo rfl rfl trivial ?_)
    by_cases d3 : u.ph = 3
    · refine o_is true 3 true rfl rfl rfl (by simp [d3]) ?_
      (repeat refine zo rfl rfl trivial ?_)
      refine o_load (v := .slice ad' u.L.length cap') rfl hB6 rfl rfl rfl rfl rfl ?_
      (repeat refine zo rfl rfl trivial ?_)
      by_cases d0 : u.L.length = 0
      · refine o_is true 9 true rfl rfl rfl (decide_eq_true (by omega)) ?_
        (repeat first|refine zo rfl rfl trivial ?_|refine zn ?_)
        refine r_if (p := u.wn < 0) rfl (fun dn => ?_) (fun dn => ?_)
        · (repeat first|refine zg ?_|refine zo rfl rfl (by first|exact trivial|(simp only[AllP];omega)) ?_)
          refine o_loadc (v := I x.a.at_) rfl (hcx kw6 0 _ rfl) rfl rfl rfl rfl ?_
          (repeat first|refine zg ?_|refine zo rfl rfl (by first|exact trivial|(simp only[AllP];omega)) ?_|refine zn ?_)
          refine fin { u with wn := x.a.at_ } (by rw [hs]; unfold wnR; rw [if_pos ⟨d3, d0, dn⟩]) rfl rfl rfl _ ?_; rfl
        · (repeat first|refine zg ?_|refine zo rfl rfl (by first|exact trivial|(simp only[AllP];omega)) ?_|refine zn ?_|refine zk ?_)
          refine fin u (hno fun q => dn q.2.2) rfl rfl rfl _ ?_; rfl
      · refine o_is false 9 true rfl rfl rfl (decide_eq_false (by omega)) ?_
        (repeat first|refine zg ?_|refine zo rfl rfl (by first|exact trivial|(simp only[AllP];omega)) ?_|refine zn ?_|refine zk ?_|refine zf rfl ?_)
        refine fin u (hno fun q => d0 q.2.1) rfl rfl rfl _ ?_; rfl
    · refine o_is false 3 true rfl rfl rfl (by simp [d3]) ?_
      (repeat first|refine zg ?_|refine zo rfl rfl (by first|exact trivial|(simp only[AllP];omega)) ?_|refine zn ?_|refine zk ?_|refine zU rfl rfl rfl ?_|refine zf rfl ?_)
      refine fin u (hno fun q => d3 q.1) rfl rfl rfl _ ?_; rfl
  · have hil : i = l.length := by omega
    subst hil
    rw [List.take_length] at hB hR ⊢
    (repeat first|refine zA ?_|refine zg ?_|refine ze rfl ?_)
    refine o_loadA (vs := [I (phF l).ph, I (phF l).th, .slice ad (phF l).L.length cap]) rfl (fun j v hv => ?_) rfl rfl rfl rfl rfl rfl ?_
    · rw [Nat.zero_add]; exact hB.cell hv
    (repeat refine zo rfl rfl trivial ?_)
    refine o_storeA (cs := [I (phF l).ph, I (phF l).th, .slice ad (phF l).L.length cap]) rfl (kW.blk (by simp; omega) hB2) (Nat.le_refl _) rfl (by simp [Value.oneCell']) rfl rfl rfl rfl ?_
    intro w3 hu3
    have hB3 : Blk w3 b2 [I (phF l).ph, I (phF l).th, .slice ad (phF l).L.length cap] 41 := hu3.blk
    (repeat first|refine zo rfl rfl trivial ?_|refine zn ?_|refine zr ?_)
    refine ⟨[.agg ⟨[I (phF l).ph, I (phF l).th, .slice ad (phF l).L.length cap]⟩, _], ⟨⟨_, rfl, run_loadB hB3 rfl rfl rfl rfl⟩, ⟨_, rfl⟩, trivial⟩, ad, cap, rfl, ?_, kwW.since (hu3.kp [b2] (.inl (by simp))) (by simp; omega), hnn⟩
    exact hR.kp (hu3.kp [b2] (.inl (by simp))) (fun b hb e => hnc (by simp at e; exact e ▸ hb))
end Go.Vc
