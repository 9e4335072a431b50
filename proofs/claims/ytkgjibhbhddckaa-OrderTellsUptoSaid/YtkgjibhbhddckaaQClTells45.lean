/- order: OrderTells. -/
import Derived.Test.YtkgjibhbhddckaaQClTells43
import Derived.Test.YtkgjibhbhddckaaQClTells44
namespace Go.Vc
open Go Go.Proofs
set_option maxRecDepth 10000
variable {w : World}
theorem refGo_all {n m : Int} : ∀ {L : List P3} {a : List F2}, (∀ x ∈ L, (x.2.2 : Int) < n) → (∀ x ∈ L, (x.2.2 : Int) < m) → refGo n a L = refGo m a L
  | [], _, _, _ => rfl
  | x :: r, a, h1, h2 => by
    have q1 := h1 x (by simp)
    have q2 := h2 x (by simp)
    unfold refGo
    rw [if_neg (show ¬ n ≤ (x.2.2 : Int) by omega), if_neg (show ¬ m ≤ (x.2.2 : Int) by omega)]
    exact refGo_all (fun y hy => h1 y (by simp [hy])) (fun y hy => h2 y (by simp [hy]))
theorem flagsV_more (E : List Ev) (R : List Int) : flagsV E R ((E.length : Int) + 5) = flagsV E R (E.length : Nat) := by
  unfold flagsV
  refine refGo_all (fun x hx => ?_) (fun x hx => ?_) <;>
  · obtain ⟨j, a, hj, _, _, rfl⟩ := racesN_mem.1 hx
    dsimp only; omega
theorem flagsV_le (E : List Ev) (R : List Int) (h : E.length ≤ 2048) (n : Int) : (flagsV E R n).length ≤ 4194304 := by
  have h1 := refGo_le n (racesN E R E.length) []
  have := racesN_small R h
  unfold flagsV; simp at h1; omega
/-- both answers, kept under what is written over in older memory -/
structure Both (n : Nat) (w : World) (pa pb : Option Addr) (F : List Nat) (E : List Ev) (R : List Int) : Prop where
  a : ∀ S w', Kp S w w' → (∀ b, b ∈ S → b < n) → OX w' pa F E R
  b : ∀ S w', Kp S w w' → (∀ b, b ∈ S → b < n) → RaV w' (.pointer pb) E R
theorem divI (n : Nat) : (1 : Int) + (n : Int).tdiv 100 = ((1 + n / 100 : Nat) : Int) := by
  rw [Int.tdiv_eq_ediv_of_nonneg (by omega)]; omega
theorem halfI (n : Nat) : (n : Int).tdiv 2 = ((n / 2 : Nat) : Int) := by
  rw [Int.tdiv_eq_ediv_of_nonneg (by omega)]; omega
theorem gonP_half (l : List P3) : gonP ((l.length / 2 : Nat) : Int) l = l.take (l.length / 2) := by unfold gonP; rw [if_pos (by omega), Int.toNat_natCast]
theorem prsC_take (l : List P3) (k : Nat) : prsC (l.take k) = (prsC l).take (k * 3) := flatMap_take (f := pairC) (m := 3) (fun _ => rfl) l k
set_option maxHeartbeats 51200000 in
theorem orderTells_ret {s : Shp} {l : List Ev} {pad ead : Option Addr} {cap ecap : Nat} (hr : ReadS w pad (s.pa.map I)) (hpl : s.pa.length ≤ 1048576) (he : ReadS w ead (evsC l)) (hl : l.length ≤ 1048576) :
    Ret Try.prog 7 [.agg ⟨shC s pad cap⟩, .slice ead l.length ecap] w (fun v w' => v = .bool true ∧ Kp [] w w') := by
  have hel := evsC_len l
  refine enter Try.call7 Try.func7 rfl rfl rfl rfl ?_
  (repeat first|refine zA ?_|refine zg ?_)
  refine o_box rfl rfl rfl ?_
  intro b2 w1 hb2 hu1
  have hB1 : Blk w1 b2 (shC s pad cap) 24 := hu1.blk
  have k1 : Kp [] w w1 := hu1.kp [] (.inr (by omega))
  (repeat first|refine zA ?_|refine zg ?_|refine zo rfl rfl trivial ?_|refine zn ?_)
  refine o_loadA (vs := shC s pad cap) rfl (fun j v hv => by rw [Nat.zero_add]; exact hB1.cell hv) rfl rfl rfl rfl rfl rfl ?_
  (repeat refine zo rfl rfl trivial ?_)
  refine o_call (lent20_ret (hr.kp k1 (by simp)) hpl (he.kp k1 (by simp)) hl) rfl rfl rfl ?_
  rintro v w2 ⟨pad', cap', ead', ecap', rfl, hL⟩
  have k2 := hL.kp
  (repeat refine zo rfl rfl trivial ?_)
  refine o_alloc rfl rfl rfl rfl ?_
  intro b5 w3 hb5 hu3
  refine o_storeA (cs := shC s pad' cap') rfl hu3.blk (Nat.le_refl _) rfl (by simp [Value.oneCell']) rfl rfl rfl rfl ?_
  intro w4 hu4
  have k4 : Kp [] w2 w4 := (hu3.kp [] (.inr (by omega))).since (hu4.kp [b5] (.inl (by simp))) (by simp; omega)
  have hB5 : Blk w4 b5 (shC s pad' cap') 24 := hu4.blk
  have hB2 := k4.blk (by simp) (k2.blk (by simp) hB1)
  have k24 := k2.trans k4
  have k04 := k1.trans k24
  have hP4 := hL.pa.kp k4 (by simp)
  have hE4 := hL.ev.kp k4 (by simp)
  have lP := hL.pa.lt
  have lE := hL.ev.lt
  have nP := hL.pn
  have nE := hL.en
  have nPE := hL.pe
  have z0 : b2 < w1.heap.size := hB1.lt
  have z1 := k1.size
  have z2 := k2.size
  have z4 := k4.size
  have hcapP : s.pa.length + 1 ≤ cap' := hP4.le_cap
  have hcapE : l.length + 1 ≤ ecap' := hE4.le_cap
  clear hL hB1 hu1 hu3 hu4
  have hrP4 : ReadS w4 pad' (s.pa.map I) := by
    have := hP4.read.take s.pa.length
    rwa [List.take_left' (by simp)] at this
  have hrE4 : ReadS w4 ead' (evsC l) := by
    have := hE4.readN.take (l.length * 3)
    rwa [List.take_left' hel] at this
  (repeat first|refine zA ?_|refine zg ?_|refine zo rfl rfl trivial ?_|refine zn ?_)
  refine o_loadA (vs := shC s pad' cap') rfl (fun j v hv => by rw [Nat.zero_add]; exact hB5.cell hv) rfl rfl rfl rfl rfl rfl ?_
  (repeat refine zo rfl rfl trivial ?_)
  refine o_call (oNew_ret hrP4 hpl hrE4 hl) rfl rfl rfl ?_
  intro va w5 hA
  have hA' : ∃ (pa : Option Addr) (ea : Int) (F : List Nat) (E : List Ev) (R : List Int), va = .tuple #[.pointer pa, I ea] ∧ (∀ S w', Kp S w5 w' → (∀ b, b ∈ S → b < w4.heap.size) → OX w' pa F E R) ∧ Kp [] w4 w5 ∧ (∀ x ∈ racesN E R E.length, 0 ≤ x.1 ∧ x.1 ≤ 1048576) ∧ ((badO s l ea ∧ pa = none ∧ E = [] ∧ R = []) ∨ (ea = 0 ∧ shapeB s = true ∧ l.length ≤ 2048 ∧ okTo s l l.length ∧ E = l ∧ R = rnds s l l.length ∧ ∃ p, pa = some p)) := by
    rcases hA with ⟨e, h1, h2, h3⟩ | ⟨h1, h2, h3, g, h4, h5, h6, h7⟩
    · exact ⟨none, e, [], [], [], h2, fun S w' _ _ => .inl ⟨.inl rfl, rfl, rfl, rfl⟩, h3, by simp [racesN], .inl ⟨h1, rfl, rfl, rfl⟩⟩
    · exact ⟨some ⟨g.p, 0, none⟩, 0, g.F, l, _, h4, fun S w' k hS => .inr ⟨g, rfl, rfl, h5.kp k (fun b hb hb2 => by have := h7 b hb; have := hS b hb2; omega)⟩, h6, races_var h1 h3, .inr ⟨rfl, h1, h2, h3, rfl, rfl, _, rfl⟩⟩
  obtain ⟨pa, ea, F, E, R, rfl, hXa, k5, hvar, hcaseA⟩ := hA'
  have hB25 := k5.blk (by simp) hB2
  (repeat first|refine zA ?_|refine zg ?_|refine zo rfl rfl trivial ?_|refine zn ?_)
  refine o_loadA (vs := shC s pad cap) rfl (fun j v hv => by rw [Nat.zero_add]; exact hB25.cell hv) rfl rfl rfl rfl rfl rfl ?_
  (repeat refine zo rfl rfl trivial ?_)
  refine o_call (r20New_ret (hr.kp (k04.trans k5) (by simp)) hpl (he.kp (k04.trans k5) (by simp)) hl) rfl rfl rfl ?_
  intro vb w6 hB
  have hB' : ∃ pb : Option Addr, vb = .tuple #[.pointer pb, I ea] ∧ (∀ S w', Kp S w6 w' → (∀ b, b ∈ S → b < w4.heap.size) → RaV w' (.pointer pb) E R) ∧ Kp [] w5 w6 ∧ ((ea ≠ 0 ∧ pa = none ∧ pb = none ∧ E = []) ∨ ∃ p q, pa = some p ∧ pb = some q) := by
    have z5 := k5.size
    rcases hB with ⟨e, h1, h2, h3⟩ | ⟨h1, h2, h3, g, h4, h5, h6, h7⟩
    · rcases hcaseA with ⟨g1, rfl, rfl, rfl⟩ | ⟨_, g1, g2, g3, _⟩
      · have := badO_uniq h1 g1
        subst this
        exact ⟨none, h2, fun S w' _ _ => .inl ⟨rfl, rfl, rfl⟩, h3, .inl ⟨by have := badO_ne h1; omega, rfl, rfl, rfl⟩⟩
      · exact (badO_not h1 g1 g2 g3).elim
    · rcases hcaseA with ⟨g1, _⟩ | ⟨rfl, _, _, _, rfl, rfl, p, rfl⟩
      · exact (badO_not g1 h1 h2 h3).elim
      · exact ⟨some ⟨g.p, 0, none⟩, h4, fun S w' k hS => .inr ⟨g, rfl, (h7.kp k (fun b hb => by have := hS b hb; omega)).at_⟩, h6, .inr ⟨p, _, rfl, rfl⟩⟩
  obtain ⟨pb, rfl, hYb, k6, hcase⟩ := hB'
  have k46 := k5.trans k6
  have hXa : ∀ S w', Kp S w6 w' → (∀ b, b ∈ S → b < w4.heap.size) → OX w' pa F E R := fun S w' k hS => hXa S w' ((k6.mono (by simp)).trans k) hS
  have hB26 := k6.blk (by simp) hB25
  have hB56 := k46.blk (by simp) hB5
  have hP6 := hP4.kp k46 (by simp)
  have hE6 := hE4.kp k46 (by simp)
  have k06 := k04.trans k46
  clear hcaseA hA hB hrP4 hrE4 hP4 hE4 hB5 hB2 hB25
  (repeat first|refine zA ?_|refine zB ?_|refine zg ?_|refine zo rfl rfl trivial ?_|refine zn ?_)
  refine o_call (num20_ret _) rfl rfl rfl ?_
  rintro v w7 ⟨rfl, rfl⟩
  (repeat refine zo rfl rfl trivial ?_)
  refine o_bool [1, 2, 5, 6, 7, 9] [.slice ead l.length ecap, ptr b2, ptr b5, .slice ead' l.length ecap', .pointer pa, .pointer pb] 63 false (fun w' => Kp [] w7 w') ?_ ?_
  · have rest : ∀ q : Prop, q → q := fun _ h => h
    refine o_is false 4 false rfl rfl rfl (by simp) ?_
    rcases hcase with ⟨_, rfl, rfl, _⟩ | ⟨p, q, rfl, rfl⟩
    · (repeat first|refine zo rfl rfl trivial ?_|refine zU rfl rfl rfl ?_)
      refine o_loadA (vs := shC s pad' cap') rfl (fun j v hv => by rw [Nat.zero_add]; exact hB56.cell hv) rfl rfl rfl rfl rfl rfl ?_
      refine o_loadA (vs := shC s pad cap) rfl (fun j v hv => by rw [Nat.zero_add]; exact hB26.cell hv) rfl rfl rfl rfl rfl rfl ?_
      (repeat refine zo rfl rfl trivial ?_)
      refine o_call (left20_yes (hr.kp k06 (by simp)) hpl (he.kp k06 (by simp)) hl hP6.read hcapP hE6.readN hcapE) rfl rfl rfl ?_
      rintro v w8 ⟨rfl, k8⟩
      (repeat first|refine zo rfl rfl trivial ?_|refine zn ?_)
      exact ⟨rfl, ⟨_, rfl, rfl⟩, k8⟩
    · (repeat first|refine zo rfl rfl trivial ?_|refine zU rfl rfl rfl ?_)
      refine o_loadA (vs := shC s pad' cap') rfl (fun j v hv => by rw [Nat.zero_add]; exact hB56.cell hv) rfl rfl rfl rfl rfl rfl ?_
      refine o_loadA (vs := shC s pad cap) rfl (fun j v hv => by rw [Nat.zero_add]; exact hB26.cell hv) rfl rfl rfl rfl rfl rfl ?_
      (repeat refine zo rfl rfl trivial ?_)
      refine o_call (left20_yes (hr.kp k06 (by simp)) hpl (he.kp k06 (by simp)) hl hP6.read hcapP hE6.readN hcapE) rfl rfl rfl ?_
      rintro v w8 ⟨rfl, k8⟩
      (repeat first|refine zo rfl rfl trivial ?_|refine zn ?_)
      exact ⟨rfl, ⟨_, rfl, rfl⟩, k8⟩
  rintro e w8 k8
  have hP8 := hP6.kp k8 (by simp)
  have hE8 := hE6.kp k8 (by simp)
  have hB58 := k8.blk (by simp) hB56
  have z5 := k46.size
  have z8 := k8.size
  (repeat first|refine zA ?_|refine zB ?_|refine zg ?_|refine zo rfl rfl trivial ?_|refine zn ?_|refine zb ?_|refine zk ?_|refine zf rfl ?_)
  refine r_loop (α := Nat) [1, 2, 5, 6, 7, 9, 11] (fun i => [.slice ead l.length ecap, ptr b2, ptr b5, .slice ead' l.length ecap', .pointer pa, .pointer pb, I i]) (fun i W => i ≤ l.length ∧ (∃ ms : List Ev, ms.length = l.length + 1 ∧ OwnS W 59 3 ead' (l.length + 1) ecap' (ms.flatMap evC)) ∧ Kp (blkOf ead') w8 W) (fun i => l.length - i) 0 rfl ⟨by omega, ⟨l ++ [⟨0, 0, 77⟩], by simp, by show OwnS w8 _ 3 ead' (l.length + 1) ecap' (evsC (l ++ [⟨0, 0, 77⟩])); rw [evsC_snoc]; exact hE8⟩, Kp.refl _ _⟩ ?_
  rintro i e W ⟨hi, ⟨ms, hml, hO⟩, kW⟩
  (repeat first|refine zA ?_|refine zB ?_|refine zg ?_|refine zo rfl rfl trivial ?_|refine zn ?_)
  refine r_if rfl (fun hc => ?_) (fun hc => ?_)
  · rw [← hml] at hO
    obtain ⟨b, L, rfl, hBL, hiL, _, hwr⟩ := hO.rec (f := evC) (fun _ => rfl) (by decide) (i := i) (by omega)
    (repeat first|refine zC ?_|refine zg ?_|refine zo rfl rfl trivial ?_|refine zb ?_|refine zk ?_)
    refine o_build (evC ⟨11, 1, 0⟩) rfl rfl rfl rfl rfl rfl rfl ?_
    (repeat refine zo rfl rfl (by first|exact trivial|(simp only[AllP];omega)) ?_)
    refine o_storeA (b := b) (off := i * 3) (cs := evC ⟨11, 1, 0⟩) (by simp only [Int.toNat_natCast, Nat.zero_add]; rfl) hBL hiL rfl (by simp [Value.oneCell']) rfl rfl rfl rfl ?_
    intro W2 hu
    have ho2 := hwr ⟨11, 1, 0⟩ W2 hu
    (repeat first|refine zg ?_|refine zo rfl rfl (by first|exact trivial|(simp only[AllP];omega)) ?_|refine zn ?_)
    exact ⟨i + 1, rfl, ⟨by omega, ⟨ms.set i ⟨11, 1, 0⟩, by simp [hml], by rw [← hml]; exact ho2⟩, kW.trans (hu.kp _ (.inl (by simp [blkOf])))⟩, by omega⟩
  clear hc hi hO hml ms
  have hPW := hP8.kp kW (fun b hb hb2 => nPE b hb hb2)
  have hB5W := kW.blk (b := b5) (fun hb => by have := lE b5 hb; omega) hB58
  have zW := kW.size
  (repeat first|refine zA ?_|refine zB ?_|refine zg ?_|refine zo rfl rfl trivial ?_|refine zn ?_|refine zb ?_|refine ze rfl ?_)
  refine r_loop (α := Nat) [1, 2, 5, 6, 7, 9, 12] (fun i => [.slice ead l.length ecap, ptr b2, ptr b5, .slice ead' l.length ecap', .pointer pa, .pointer pb, I i]) (fun i W' => i ≤ s.pa.length ∧ (∃ ms : List Int, ms.length = s.pa.length + 1 ∧ OwnS W' 3 1 pad' (s.pa.length + 1) cap' (ms.map I)) ∧ Kp (blkOf pad') W W') (fun i => s.pa.length - i) 0 rfl ⟨by omega, ⟨s.pa ++ [77], by simp, by rw [List.map_append]; exact hPW⟩, Kp.refl _ _⟩ ?_
  rintro i2 e W2 ⟨hi2, ⟨ms, hml, hO⟩, kW2⟩
  have hB5W2 := kW2.blk (b := b5) (fun hb => by have := lP b5 hb; omega) hB5W
  (repeat first|refine zA ?_|refine zB ?_|refine zg ?_|refine zo rfl rfl trivial ?_)
  refine o_load (v := .slice pad' s.pa.length cap') rfl hB5W2 rfl rfl rfl rfl rfl ?_
  (repeat first|refine zo rfl rfl trivial ?_|refine zn ?_)
  refine r_if rfl (fun hc => ?_) (fun hc => ?_)
  · obtain ⟨b, L, rfl, hBL, hiL, hwr⟩ := hO.wr1 (i := i2) (by omega) 1
    (repeat first|refine zC ?_|refine zg ?_|refine zo rfl rfl trivial ?_|refine zb ?_|refine zk ?_)
    refine o_load (v := .slice (some ⟨b, 0, none⟩) s.pa.length cap') rfl hB5W2 rfl rfl rfl rfl rfl ?_
    (repeat refine zo rfl rfl (by first|exact trivial|(simp only[AllP];omega)) ?_)
    refine o_store rfl hBL (by omega) rfl rfl rfl rfl rfl rfl ?_
    intro W3 hu
    have ho2 := hwr W3 (by simpa using hu)
    (repeat first|refine zg ?_|refine zo rfl rfl (by first|exact trivial|(simp only[AllP];omega)) ?_|refine zn ?_)
    exact ⟨i2 + 1, rfl, ⟨by omega, ⟨ms.set i2 1, by simp [hml], ho2⟩, kW2.trans (hu.kp _ (.inl (by simp [blkOf])))⟩, by omega⟩
  clear hc hi2 hO hml ms hB5W hB5W2 hPW hP8 hE8
  -- from here on nothing that was lent counts
  have kS : Kp (blkOf ead' ++ blkOf pad') w7 W2 := (k8.mono (by simp)).trans ((kW.mono (fun b hb => by simp [hb])).trans (kW2.mono (fun b hb => by simp [hb])))
  have hSlt : ∀ b, b ∈ blkOf ead' ++ blkOf pad' → b < w4.heap.size := fun b hb => by
    rcases List.mem_append.1 hb with hb | hb
    · have := lE b hb; omega
    · have := lP b hb; omega
  have hX : ∀ W, Kp [] W2 W → OX W pa F E R := fun W k => hXa _ W (kS.trans (k.mono (by simp))) hSlt
  have hY : ∀ W, Kp [] W2 W → RaV W (.pointer pb) E R := fun W k => hYb _ W (kS.trans (k.mono (by simp))) hSlt
  have hB2W : Blk W2 b2 (shC s pad cap) 24 := kS.blk (fun hb => by
    rcases List.mem_append.1 hb with hb | hb
    · have := nE b2 hb; omega
    · have := nP b2 hb; omega) hB26
  have k0W : Kp [] w W2 := k06.since kS (fun b hb => by
    rcases List.mem_append.1 hb with hb | hb
    · have := nE b hb; omega
    · have := nP b hb; omega)
  have hEs : E.length ≤ 2048 := (hX _ (Kp.refl _ _)).small
  have hrs := racesN_small R hEs
  have hpbE : 0 < E.length → ∃ g, pb = some g := fun h0 => by
    rcases hcase with ⟨_, _, _, rfl⟩ | ⟨p, q, rfl, rfl⟩
    · simp at h0
    · exact ⟨_, rfl⟩
  clear hXa hYb hcase kS hSlt hB56 hB58 hB26 hP6 hE6 lP lE nP nE nPE k8 kW kW2
  (repeat first|refine zA ?_|refine zB ?_|refine zg ?_|refine zo rfl rfl trivial ?_|refine ze rfl ?_)
  refine o_call (xLen_ret (hX _ (Kp.refl _ _))) rfl rfl rfl ?_
  rintro v w9 ⟨rfl, rfl⟩
  (repeat refine zo rfl rfl trivial ?_)
  refine o_call (yLen_ret (hY _ (Kp.refl _ _))) rfl rfl rfl ?_
  rintro v w10 ⟨rfl, rfl⟩
  (repeat first|refine zo rfl rfl trivial ?_|refine zn ?_)
  refine r_no rfl (by simp) ?_
  (repeat first|refine zA ?_|refine zg ?_|refine zo rfl rfl trivial ?_|refine zk ?_)
  refine o_call (yLen_ret (hY _ (Kp.refl _ _))) rfl rfl rfl ?_
  rintro v w11 ⟨rfl, rfl⟩
  (repeat first|refine zA ?_|refine zB ?_|refine zg ?_|refine zo rfl rfl (by first|exact trivial|(simp(discharger:=omega)only[AllP,cA,cB];omega)) ?_|refine zn ?_|refine zb ?_)
  rw [divI]
  generalize hst : 1 + E.length / 100 = st
  have hst1 : 1 ≤ st := by omega
  have hst2 : st ≤ 100 := by omega
  refine r_loop (α := Int) [1, 2, 7, 9, 13, 14, 15] (fun i => [.slice ead l.length ecap, ptr b2, .pointer pa, .pointer pb, I E.length, I st, I i]) (fun i W => -1 ≤ i ∧ i ≤ 3000 ∧ Kp [] w11 W) (fun i => (4000 - i).toNat) (-1) rfl ⟨by omega, by omega, Kp.refl _ _⟩ ?_
  rintro i e W ⟨hi1, hi2, kW⟩
  (repeat first|refine zA ?_|refine zB ?_|refine zg ?_|refine zo rfl rfl trivial ?_|refine zn ?_)
  refine r_if rfl (fun hc => ?_) (fun hc => ?_)
  · (repeat first|refine zA ?_|refine zC ?_|refine zg ?_|refine zo rfl rfl trivial ?_|refine zb ?_|refine zk ?_)
    refine o_call (xEvent_ret (hX _ kW) i) rfl rfl rfl ?_
    rintro v w12 ⟨rfl, k12⟩
    (repeat refine zo rfl rfl trivial ?_)
    refine o_alloc rfl rfl rfl rfl ?_
    intro bx w13 hbx hu13
    refine o_storeA (cs := evC (evI E i)) rfl hu13.blk (Nat.le_refl _) rfl (by simp [Value.oneCell']) rfl rfl rfl rfl ?_
    intro w14 hu14
    have k14 : Kp [] w12 w14 := (hu13.kp [] (.inr (by omega))).since (hu14.kp [bx] (.inl (by simp))) (by simp; omega)
    have hBx : Blk w14 bx (evC (evI E i)) 59 := hu14.blk
    have kk := (kW.trans k12).trans k14
    (repeat first|refine zA ?_|refine zg ?_|refine zo rfl rfl trivial ?_|refine zn ?_)
    refine o_bool [1, 2, 7, 9, 13, 14, 15, 16, 17] [.slice ead l.length ecap, ptr b2, .pointer pa, .pointer pb, I E.length, I st, I i, ptr bx, .bool (decide (0 ≤ i ∧ i < E.length))] 18 (decide (0 ≤ i ∧ i < E.length)) (fun w' => w' = w14) ?_ ?_
    · by_cases h0 : 0 ≤ i
      · refine o_is true 2 true rfl rfl rfl (decide_eq_true h0) ?_
        (repeat first|refine zo rfl rfl trivial ?_|refine zn ?_)
        exact ⟨rfl, ⟨_, rfl, by simp [h0]⟩, rfl⟩
      · refine o_is false 2 true rfl rfl rfl (decide_eq_false h0) ?_
        (repeat first|refine zo rfl rfl trivial ?_|refine zn ?_)
        exact ⟨rfl, ⟨_, rfl, by simp [h0]⟩, rfl⟩
    rintro e w15 rfl
    have hfi := flagsV_le E R hEs i
    refine r_seq ?_
    refine r_seq ?_
    refine r_bool [1, 2, 7, 9, 13, 14, 15] [.slice ead l.length ecap, ptr b2, .pointer pa, .pointer pb, I E.length, I st, I i] 149 false (fun w' => Kp [] w15 w') ?_ ?_
    · refine r_mix (fun w' => Kp [] w15 w') [(0, false), (1, false), (2, false), (3, false), (4, false), (5, false), (6, false), (7, false), (8, false), (9, false), (10, false), (11, false), (12, false), (13, false), (14, false), (15, false), (16, false), (17, false), (18, false), (19, false), (20, false), (21, false), (22, false), (23, false), (24, false), (25, false), (26, false), (27, false), (28, false), (30, false), (31, false), (29, true), (32, true), (33, true), (34, false), (35, false)] follows_mixed (by kernel_rfl) (by kernel_rfl) (by kernel_rfl) ((Sm.drew w15).kp _) ?_
      have kd := (Sm.drew w15).kp []
      generalize ({ w15 with drawn := w15.drawn + 1 } : World) = wd at kd ⊢
      have kkd := kk.trans kd
      by_cases hin : 0 ≤ i ∧ i < E.length
      · rw [decide_eq_true hin]
        obtain ⟨pq, rfl⟩ := hpbE (by omega)
        have hYd := hY _ kk
        obtain ⟨g, hg, hRr⟩ : ∃ g, pq = ⟨g.p, 0, none⟩ ∧ RrAt w15 g E R := by
          rcases hYd with ⟨h0, _⟩ | ⟨g, h0, h1⟩
          · cases h0
          · cases h0; exact ⟨g, rfl, h1⟩
        subst hg
        obtain ⟨eb, eo, hea, hei⟩ := hRr.toRrB.evat (i := i) hin.1 hin.2
        have hh := hRr.hdr
        rw [hea] at hh
        have hev : evI E i = evA E i.toNat := by unfold evI; rw [if_pos hin]
        rw [hev] at hBx
        (repeat first|refine xo rfl rfl trivial ?_|refine x_know rfl _ _ (some true) rfl rfl rfl ?_|refine x_know rfl _ _ (some false) rfl rfl rfl ?_)
        refine x_loadA (vs := evC (evA E i.toNat)) rfl rfl (fun w' h' j v hv => by rw [Nat.zero_add]; exact (h'.blk (by simp) hBx).cell hv) rfl rfl rfl rfl rfl rfl ?_
        (repeat refine xo rfl rfl trivial ?_)
        refine x_load (v := .slice (some ⟨eb, eo, none⟩) E.length g.ecap) rfl rfl (fun w' h' => (h'.blk (by simp) hh).cell rfl) rfl rfl rfl rfl ?_
        (repeat refine xo rfl rfl (by first|exact trivial|(simp only[AllP];omega)) ?_)
        refine x_loadA (b := eb) (off := eo + i.toNat * 3) (vs := evC (evA E i.toNat)) rfl rfl (fun w' h' => hei w' h') rfl rfl rfl rfl rfl rfl ?_
        refine x_neqS [(evA E i.toNat).k, (evA E i.toNat).t, (evA E i.toNat).o] [(evA E i.toNat).k, (evA E i.toNat).t, (evA E i.toNat).o] rfl rfl rfl (by kernel_rfl) (by kernel_rfl) (by kernel_rfl) (by kernel_rfl) (by kernel_rfl) (by kernel_rfl) rfl rfl ?_
        rw [eqInts_iff.2 rfl]
        (repeat first|refine xo rfl rfl trivial ?_|refine x_know rfl _ _ (some false) rfl rfl rfl ?_)
        refine x_act rfl ?_
        refine o_call (xFlags_ret sortF (hX _ kkd) hvar i) rfl rfl rfl ?_
        rintro v w16 ⟨a16, c16, rfl, ho16, k16, _⟩
        refine o_nil ⟨.inr (kd.trans k16), ?_⟩
        refine x_act rfl ?_
        refine o_call (yFlags_ret (hY _ (kkd.trans k16)) i) rfl rfl rfl ?_
        rintro v w17 ⟨a17, c17, rfl, ho17, k17, _⟩
        refine o_nil ⟨.inr ((kd.trans k16).trans k17), ?_⟩
        refine x_act rfl ?_
        refine o_call (sameFlags20_yes (l := flagsV E R i) (ho16.kp k17 (by simp)).readN ho17.readN rfl rfl (by omega)) rfl rfl rfl ?_
        rintro v w18 ⟨rfl, s18⟩
        refine o_nil ⟨.inr (((kd.trans k16).trans k17).trans (s18.kp [])), ?_⟩
        (repeat first|refine xo rfl rfl trivial ?_|refine xn ?_)
        exact ⟨rfl, ⟨_, rfl, rfl⟩, ((kd.trans k16).trans k17).trans (s18.kp [])⟩
      · rw [decide_eq_false hin]
        have hev : evI E i = ⟨0, 0, 0⟩ := by unfold evI; rw [if_neg hin]
        rw [hev] at hBx
        (repeat first|refine xo rfl rfl trivial ?_|refine x_know rfl _ _ (some true) rfl rfl rfl ?_|refine x_know rfl _ _ (some false) rfl rfl rfl ?_)
        refine x_loadA (vs := [I 0, I 0, I 0]) rfl rfl (fun w' h' j v hv => by rw [Nat.zero_add]; exact (h'.blk (by simp) hBx).cell hv) rfl rfl rfl rfl rfl rfl ?_
        refine x_build [I 0, I 0, I 0] rfl rfl rfl rfl rfl rfl rfl rfl ?_
        refine x_neqS [0, 0, 0] [0, 0, 0] rfl rfl rfl (by kernel_rfl) (by kernel_rfl) (by kernel_rfl) (by kernel_rfl) (by kernel_rfl) (by kernel_rfl) rfl rfl ?_
        rw [eqInts_iff.2 rfl]
        (repeat first|refine xo rfl rfl trivial ?_|refine x_know rfl _ _ (some false) rfl rfl rfl ?_)
        refine x_act rfl ?_
        refine o_call (xFlags_ret sortF (hX _ kkd) hvar i) rfl rfl rfl ?_
        rintro v w16 ⟨a16, c16, rfl, ho16, k16, _⟩
        refine o_nil ⟨.inr (kd.trans k16), ?_⟩
        refine x_act rfl ?_
        refine o_call (yFlags_ret (hY _ (kkd.trans k16)) i) rfl rfl rfl ?_
        rintro v w17 ⟨a17, c17, rfl, ho17, k17, _⟩
        refine o_nil ⟨.inr ((kd.trans k16).trans k17), ?_⟩
        refine x_act rfl ?_
        refine o_call (sameFlags20_yes (l := flagsV E R i) (ho16.kp k17 (by simp)).readN ho17.readN rfl rfl (by omega)) rfl rfl rfl ?_
        rintro v w18 ⟨rfl, s18⟩
        refine o_nil ⟨.inr (((kd.trans k16).trans k17).trans (s18.kp [])), ?_⟩
        (repeat first|refine xo rfl rfl trivial ?_|refine xn ?_)
        exact ⟨rfl, ⟨_, rfl, rfl⟩, ((kd.trans k16).trans k17).trans (s18.kp [])⟩
    intro e w16 k16
    have kk16 := kk.trans k16
    refine r_cond_f rfl ?_
    (repeat first|refine zA ?_|refine zg ?_|refine zo rfl rfl trivial ?_|refine zn ?_|refine zb ?_|refine zk ?_)
    refine r_loop (α := Int) [1, 2, 7, 9, 13, 14, 15, 19] (fun j => [.slice ead l.length ecap, ptr b2, .pointer pa, .pointer pb, I E.length, I st, I i, I j]) (fun j W => -1 ≤ j ∧ j ≤ 3000 ∧ Kp [] w11 W) (fun j => (4000 - j).toNat) (-1) rfl ⟨by omega, by omega, kk16⟩ ?_
    rintro j e W3 ⟨hj1, hj2, kW3⟩
    (repeat first|refine zA ?_|refine zB ?_|refine zg ?_|refine zo rfl rfl trivial ?_|refine zn ?_)
    refine r_if rfl (fun hc2 => ?_) (fun hc2 => ?_)
    · (repeat first|refine zA ?_|refine zC ?_|refine zg ?_|refine zo rfl rfl trivial ?_|refine zb ?_|refine zk ?_)
      refine o_call (xWhy_ret (hX _ kW3) i j) rfl rfl rfl ?_
      rintro v w17 ⟨rfl, k17⟩
      have k17 := kW3.trans k17
      (repeat refine zo rfl rfl trivial ?_)
      refine o_call (yWhy_ret (hY _ k17) i j) rfl rfl rfl ?_
      rintro v w18 ⟨rfl, k18⟩
      have k18 := k17.trans k18
      (repeat refine zo rfl rfl trivial ?_)
      refine o_is false 9 false rfl rfl rfl (by simp) ?_
      (repeat refine zo rfl rfl trivial ?_)
      refine o_call (xBefore_ret (hX _ k18) i j) rfl rfl rfl ?_
      rintro v w19 ⟨rfl, rfl⟩
      (repeat refine zo rfl rfl trivial ?_)
      refine o_call (yHappens_ret (hY _ k18) i j) rfl rfl rfl ?_
      rintro v w20 ⟨rfl, rfl⟩
      (repeat refine zo rfl rfl trivial ?_)
      refine o_is false 20 false rfl rfl rfl (by simp) ?_
      (repeat refine zo rfl rfl trivial ?_)
      refine o_call (xAside_ret (hX _ k18) i j) rfl rfl rfl ?_
      rintro v w21 ⟨rfl, k21⟩
      have k21 := k18.trans k21
      (repeat refine zo rfl rfl trivial ?_)
      refine o_call (yAside_ret (hY _ k21) i j) rfl rfl rfl ?_
      rintro v w22 ⟨rfl, rfl⟩
      (repeat first|refine zo rfl rfl trivial ?_|refine zn ?_)
      refine r_no rfl (by simp) ?_
      (repeat first|refine zg ?_|refine zo rfl rfl (by first|exact trivial|(simp only[AllP];omega)) ?_|refine zn ?_|refine zk ?_)
      exact ⟨j + st, rfl, ⟨by omega, by omega, k21⟩, by omega⟩
    · (repeat first|refine zg ?_|refine zo rfl rfl (by first|exact trivial|(simp only[AllP];omega)) ?_|refine zn ?_|refine ze rfl ?_)
      exact ⟨i + st, rfl, ⟨by omega, by omega, kW3⟩, by omega⟩
  clear hi1 hi2 hc
  (repeat first|refine zA ?_|refine zg ?_|refine zo rfl rfl trivial ?_|refine ze rfl ?_)
  refine o_call (yAll_ret (hY _ kW)) rfl rfl rfl ?_
  rintro v w12 ⟨a12, c12, rfl, ho12, k12, _⟩
  have kk12 := kW.trans k12
  generalize hRL : racesN E R E.length = L at *
  (repeat first|refine zA ?_|refine zg ?_|refine zo rfl rfl (by first|exact trivial|(simp(discharger:=omega)only[AllP,cA,cB];omega)) ?_|refine zn ?_)
  rw [halfI]
  refine o_call (xFirst_ret (hX _ kk12)) rfl rfl rfl ?_
  rintro v w13 ⟨rfl, k13⟩
  (repeat refine zo rfl rfl trivial ?_)
  refine o_alloc rfl rfl rfl rfl ?_
  intro bx w14 hbx hu14
  refine o_storeA (cs := pairC ((firstV E R).getD (0, 0, 0))) rfl hu14.blk (Nat.le_refl _) rfl (by simp [Value.oneCell']) rfl rfl rfl rfl ?_
  intro w15 hu15
  have k15 : Kp [] w13 w15 := (hu14.kp [] (.inr (by omega))).since (hu15.kp [bx] (.inl (by simp))) (by simp; omega)
  have hBx : Blk w15 bx (pairC ((firstV E R).getD (0, 0, 0))) 53 := hu15.blk
  have k1215 := k13.trans k15
  (repeat first|refine zA ?_|refine zg ?_|refine zo rfl rfl trivial ?_|refine zn ?_)
  refine o_call (yFirst_ret (hY _ (kk12.trans k1215))) rfl rfl rfl ?_
  rintro v w16 ⟨rfl, k16⟩
  (repeat refine zo rfl rfl trivial ?_)
  refine o_alloc rfl rfl rfl rfl ?_
  intro by_ w17 hby hu17
  refine o_storeA (cs := pairC ((firstV E R).getD (0, 0, 0))) rfl hu17.blk (Nat.le_refl _) rfl (by simp [Value.oneCell']) rfl rfl rfl rfl ?_
  intro w18 hu18
  have k18 : Kp [] w16 w18 := (hu17.kp [] (.inr (by omega))).since (hu18.kp [by_] (.inl (by simp))) (by simp; omega)
  have hBy : Blk w18 by_ (pairC ((firstV E R).getD (0, 0, 0))) 53 := hu18.blk
  have hne : bx ≠ by_ := by have := hBx.lt; have := k16.size; omega
  have hBx := (k16.trans k18).blk (by simp) hBx
  have kL := k1215.trans (k16.trans k18)
  have ho18 := ho12.kp kL (by simp)
  have kk18 := kk12.trans kL
  clear ho12 hu14 hu15 hu17 hu18
  have hfn := flagsV_le E R hEs (E.length : Nat)
  have hc12 := ho18.le_cap
  (repeat first|refine zo rfl rfl trivial ?_|refine zn ?_)
  refine r_seq ?_
  refine r_seq ?_
  refine r_bool [1, 2, 7, 9, 22, 24] [.slice ead l.length ecap, ptr b2, .pointer pa, .pointer pb, ptr bx, ptr by_] 239 false (fun w' => Kp [] w18 w') ?_ ?_
  · refine r_mix (fun w' => Kp [] w18 w') [(0, false), (3, false), (1, true), (2, true), (4, true), (5, false), (6, false), (7, false), (9, false), (11, false), (12, false), (13, false), (8, true), (10, true), (14, true), (15, false), (16, false), (17, false), (18, false), (19, false), (20, false), (21, false), (22, false), (23, false), (24, false), (25, false), (26, false), (27, false), (28, false), (29, false), (30, false), (32, false), (33, false), (31, true), (34, true), (35, true), (36, false), (37, false)] follows_mixed (by kernel_rfl) (by kernel_rfl) (by kernel_rfl) ((Sm.drew w18).kp _) ?_
    have kd := (Sm.drew w18).kp []
    generalize ({ w18 with drawn := w18.drawn + 1 } : World) = wd at kd ⊢
    have kkd := kk18.trans kd
    have hpr : ∀ w', Kp [] w18 w' → ReadS w' a12 (prsC (L.take (L.length / 2))) := fun w' h' => by rw [prsC_take]; exact (ho18.kp h' (by simp)).readN.take _
    (repeat refine xo rfl rfl trivial ?_)
    refine x_act rfl ?_
    refine o_call (xAll_ret (hX _ kkd)) rfl rfl rfl ?_
    rintro v w19 ⟨bq, hseq, k19, _⟩
    obtain ⟨fi, lb, rfl, hI⟩ := hseq.is
    have kd19 := kd.trans k19
    refine o_nil ⟨.inr kd19, ?_⟩
    refine x_act rfl ?_
    refine o_call (gone20_ret ⟨fi, lb, rfl, hI⟩ (by rw [hRL]; exact hrs) (-1)) rfl rfl rfl ?_
    rintro v w20 ⟨a20, c20, rfl, ho20, k20, _⟩
    rw [gonP_all, hRL] at ho20 ⊢
    have kd20 := kd19.trans k20
    refine o_nil ⟨.inr kd20, ?_⟩
    refine x_act rfl ?_
    refine o_call (samePairs_yes (l := L) ho20.readN (ho18.kp kd20 (by simp)).readN rfl rfl (by omega)) rfl rfl rfl ?_
    rintro v w21 ⟨rfl, s21⟩
    have kd21 := kd20.trans (s21.kp [])
    refine o_nil ⟨.inr kd21, ?_⟩
    (repeat first|refine xo rfl rfl (by first|exact trivial|(simp only[AllP];omega)) ?_|refine x_know rfl _ _ (some false) rfl rfl rfl ?_)
    refine x_act rfl ?_
    refine o_call (xAll_ret (hX _ (kk18.trans kd21))) rfl rfl rfl ?_
    rintro v w22 ⟨bq2, hseq2, k22, _⟩
    obtain ⟨fi2, lb2, rfl, hI2⟩ := hseq2.is
    have kd22 := kd21.trans k22
    refine o_nil ⟨.inr kd22, ?_⟩
    refine x_act rfl ?_
    refine o_call (gone20_ret ⟨fi2, lb2, rfl, hI2⟩ (by rw [hRL]; exact hrs) ((L.length / 2 : Nat) : Int)) rfl rfl rfl ?_
    rintro v w23 ⟨a23, c23, rfl, ho23, k23, _⟩
    rw [hRL, gonP_half] at ho23 ⊢
    have kd23 := kd22.trans k23
    refine o_nil ⟨.inr kd23, ?_⟩
    refine x_act rfl ?_
    refine o_call (samePairs_yes (l := L.take (L.length / 2)) ho23.readN (hpr _ kd23) rfl (by rw [List.length_take]; omega) (by rw [List.length_take]; omega)) rfl rfl rfl ?_
    rintro v w24 ⟨rfl, s24⟩
    have kd24 := kd23.trans (s24.kp [])
    refine o_nil ⟨.inr kd24, ?_⟩
    (repeat first|refine xo rfl rfl trivial ?_|refine x_know rfl _ _ (some false) rfl rfl rfl ?_)
    refine x_loadA (vs := pairC ((firstV E R).getD (0, 0, 0))) rfl rfl (fun w' h' j v hv => by rw [Nat.zero_add]; exact (h'.blk (by simp) hBx).cell hv) rfl rfl rfl rfl rfl rfl ?_
    refine x_loadA (vs := pairC ((firstV E R).getD (0, 0, 0))) rfl rfl (fun w' h' j v hv => by rw [Nat.zero_add]; exact (h'.blk (by simp) hBy).cell hv) rfl rfl rfl rfl rfl rfl ?_
    generalize (firstV E R).getD (0, 0, 0) = fv
    refine x_neqS [fv.1, (fv.2.1 : Int), (fv.2.2 : Int)] [fv.1, (fv.2.1 : Int), (fv.2.2 : Int)] rfl rfl rfl (by kernel_rfl) (by kernel_rfl) (by kernel_rfl) (by kernel_rfl) (by kernel_rfl) (by kernel_rfl) rfl rfl ?_
    rw [eqInts_iff.2 rfl]
    (repeat first|refine xo rfl rfl trivial ?_|refine x_know rfl _ _ (some false) rfl rfl rfl ?_)
    refine x_is false rfl 27 false rfl rfl rfl (by simp) ?_
    (repeat refine xo rfl rfl (by first|exact trivial|(simp only[AllP];omega)) ?_)
    refine x_act rfl ?_
    refine o_call (xFlags_ret sortF (hX _ (kk18.trans kd24)) (by rw [hRL]; exact hvar) ((E.length : Int) + 5)) rfl rfl rfl ?_
    rintro v w25 ⟨a25, c25, rfl, ho25, k25, _⟩
    rw [flagsV_more] at ho25 ⊢
    have kd25 := kd24.trans k25
    refine o_nil ⟨.inr kd25, ?_⟩
    refine x_act rfl ?_
    refine o_call (yFlags_ret (hY _ (kk18.trans kd25)) (E.length : Nat)) rfl rfl rfl ?_
    rintro v w26 ⟨a26, c26, rfl, ho26, k26, _⟩
    have kd26 := kd25.trans k26
    refine o_nil ⟨.inr kd26, ?_⟩
    refine x_act rfl ?_
    refine o_call (sameFlags20_yes (l := flagsV E R (E.length : Nat)) (ho25.kp k26 (by simp)).readN ho26.readN rfl rfl (by omega)) rfl rfl rfl ?_
    rintro v w27 ⟨rfl, s27⟩
    have kd27 := kd26.trans (s27.kp [])
    refine o_nil ⟨.inr kd27, ?_⟩
    (repeat first|refine xo rfl rfl trivial ?_|refine xn ?_)
    exact ⟨rfl, ⟨_, rfl, rfl⟩, kd27⟩
  intro e w19 k19
  have kk19 := kk18.trans k19
  have hS19 := kk19.blk (by simp) hB2W
  have hx19 := hBx.lt
  have hy19 := hBy.lt
  have z19 := k19.size
  refine r_cond_f rfl ?_
  (repeat first|refine zA ?_|refine zB ?_|refine zg ?_|refine zo rfl rfl trivial ?_|refine zn ?_|refine zb ?_|refine zk ?_)
  have yB : ∀ b, b ∈ [bx, by_] → w11.heap.size ≤ b := fun b hb => by
    have h1 := kk12.size
    have h2 := k13.size
    have h3 := k15.size
    have h4 := k16.size
    simp at hb; omega
  have h2x : b2 ≠ bx ∧ b2 ≠ by_ := by
    have h1 := hB2W.lt
    have h2 := yB bx (by simp)
    have h3 := yB by_ (by simp)
    omega
  refine r_loop (α := Int) [1, 2, 7, 9, 22, 24, 26] (fun v => [.slice ead l.length ecap, ptr b2, .pointer pa, .pointer pb, ptr bx, ptr by_, I v]) (fun v W => -1 ≤ v ∧ v ≤ 8 ∧ Kp [bx, by_] w19 W ∧ (∃ u1 u2 u3, Blk W bx [u1, u2, u3] 53) ∧ ∃ u1 u2 u3, Blk W by_ [u1, u2, u3] 53) (fun v => (8 - v).toNat) (-1) rfl ⟨by omega, by omega, Kp.refl _ _, ⟨_, _, _, k19.blk (by simp) hBx⟩, _, _, _, k19.blk (by simp) hBy⟩ ?_
  rintro v e W3 ⟨hv1, hv2, kW3, ⟨u1, u2, u3, hb1⟩, u4, u5, u6, hb2'⟩
  have hS3 := kW3.blk (b := b2) (by simp; exact h2x) hS19
  have kk3 : Kp [] w11 W3 := kk19.since kW3 yB
  (repeat first|refine zA ?_|refine zB ?_|refine zg ?_|refine zo rfl rfl trivial ?_)
  refine o_load (v := I s.va) rfl hS3 rfl rfl rfl rfl rfl ?_
  (repeat refine zo rfl rfl trivial ?_)
  refine o_bool [1, 2, 7, 9, 22, 24, 26] [.slice ead l.length ecap, ptr b2, .pointer pa, .pointer pb, ptr bx, ptr by_, I v] 247 (decide (v ≤ s.va) && decide (v < 8)) (fun w' => w' = W3) ?_ ?_
  · by_cases h0 : v ≤ s.va
    · refine o_is true 4 true rfl rfl rfl (decide_eq_true h0) ?_
      (repeat first|refine zo rfl rfl trivial ?_|refine zn ?_)
      exact ⟨rfl, ⟨_, rfl, by simp [h0]⟩, rfl⟩
    · refine o_is false 4 true rfl rfl rfl (decide_eq_false h0) ?_
      (repeat first|refine zo rfl rfl trivial ?_|refine zn ?_)
      exact ⟨rfl, ⟨_, rfl, by simp [h0]⟩, rfl⟩
  rintro e W4 rfl
  cases hcv : (decide (v ≤ s.va) && decide (v < 8)) with
  | true =>
    simp only [Bool.and_eq_true, decide_eq_true_eq] at hcv
    refine r_cond_t rfl ?_
    (repeat first|refine zA ?_|refine zC ?_|refine zg ?_|refine zo rfl rfl trivial ?_|refine zb ?_|refine zk ?_)
    refine o_call (xPair_ret (hX _ kk3) v) rfl rfl rfl ?_
    rintro q w20 ⟨rfl, k20⟩
    (repeat refine zo rfl rfl trivial ?_)
    refine o_storeA (cs := pairC ((pairV E R v).getD (0, 0, 0))) rfl (k20.blk (by simp) hb1) (by simp) rfl (by simp [Value.oneCell']) rfl rfl rfl rfl ?_
    intro w21 hu21
    have k21 : Kp [bx, by_] W4 w21 := (k20.mono (by simp)).trans (hu21.kp _ (.inl (by simp)))
    have hb21 : Blk w21 bx (pairC ((pairV E R v).getD (0, 0, 0))) 53 := hu21.blk
    have hc21 := hu21.kept hne.symm (k20.blk (by simp) hb2')
    have kk21 := kk3.since k21 yB
    (repeat first|refine zA ?_|refine zg ?_|refine zo rfl rfl trivial ?_|refine zn ?_)
    refine o_call (yPair_ret (hY _ kk21) v) rfl rfl rfl ?_
    rintro q w22 ⟨rfl, k22⟩
    (repeat refine zo rfl rfl trivial ?_)
    refine o_storeA (cs := pairC ((pairV E R v).getD (0, 0, 0))) rfl (k22.blk (by simp) hc21) (by simp) rfl (by simp [Value.oneCell']) rfl rfl rfl rfl ?_
    intro w23 hu23
    have k23 : Kp [bx, by_] w21 w23 := (k22.mono (by simp)).trans (hu23.kp _ (.inl (by simp)))
    have hc23 : Blk w23 by_ (pairC ((pairV E R v).getD (0, 0, 0))) 53 := hu23.blk
    have hb23 := hu23.kept hne (k22.blk (by simp) hb21)
    have kk23 := kk21.since k23 yB
    have hlv := onV_le v L
    (repeat first|refine zA ?_|refine zg ?_|refine zo rfl rfl trivial ?_|refine zn ?_)
    refine o_loadA (vs := pairC ((pairV E R v).getD (0, 0, 0))) rfl (fun j v hv => by rw [Nat.zero_add]; exact hb23.cell hv) rfl rfl rfl rfl rfl rfl ?_
    refine o_loadA (vs := pairC ((pairV E R v).getD (0, 0, 0))) rfl (fun j v hv => by rw [Nat.zero_add]; exact hc23.cell hv) rfl rfl rfl rfl rfl rfl ?_
    refine o_neqS [((pairV E R v).getD (0, 0, 0)).1, (((pairV E R v).getD (0, 0, 0)).2.1 : Int), (((pairV E R v).getD (0, 0, 0)).2.2 : Int)] [((pairV E R v).getD (0, 0, 0)).1, (((pairV E R v).getD (0, 0, 0)).2.1 : Int), (((pairV E R v).getD (0, 0, 0)).2.2 : Int)] rfl rfl (by kernel_rfl) (by kernel_rfl) (by kernel_rfl) (by kernel_rfl) (by kernel_rfl) (by kernel_rfl) rfl rfl ?_
    rw [eqInts_iff.2 rfl]
    (repeat first|refine zo rfl rfl trivial ?_|refine zU rfl rfl rfl ?_)
    refine o_is false 8 false rfl rfl rfl (by simp) ?_
    (repeat refine zo rfl rfl trivial ?_)
    refine o_call (xRaces_ret (hX _ kk23) v) rfl rfl rfl ?_
    rintro q w24 ⟨a24, c24, rfl, ho24, k24, _⟩
    rw [hRL] at ho24 ⊢
    (repeat refine zo rfl rfl trivial ?_)
    refine o_call (yRaces_ret (hY _ (kk23.trans k24)) v) rfl rfl rfl ?_
    rintro q w25 ⟨a25, c25, rfl, ho25, k25, _⟩
    rw [hRL] at ho25 ⊢
    refine o_call (samePairs_yes (l := onV v L) (ho24.kp k25 (by simp)).readN ho25.readN rfl rfl (by omega)) rfl rfl rfl ?_
    rintro q w26 ⟨rfl, s26⟩
    have k2326 := (k24.trans k25).trans (s26.kp [])
    (repeat first|refine zg ?_|refine zo rfl rfl (by first|exact trivial|(simp only[AllP];omega)) ?_|refine zn ?_|refine zk ?_|refine zf rfl ?_)
    exact ⟨v + 1, rfl, ⟨by omega, by omega, ((kW3.trans k21).trans k23).trans (k2326.mono (by simp)), ⟨_, _, _, k2326.blk (by simp) hb23⟩, _, _, _, k2326.blk (by simp) hc23⟩, by omega⟩
  | false =>
    refine r_cond_f rfl ?_
    (repeat first|refine zA ?_|refine zg ?_|refine zo rfl rfl trivial ?_|refine ze rfl ?_)
    refine o_call (lists20_yes sortF (hX _ kk3) (hY _ kk3) (by rw [hRL]; exact hvar)) rfl rfl rfl ?_
    rintro q w20 ⟨rfl, k20⟩
    (repeat first|refine zo rfl rfl trivial ?_|refine zT rfl rfl rfl ?_)
    refine o_call lives20_ret rfl rfl rfl ?_
    rintro q w21 ⟨rfl, k21⟩
    (repeat first|refine zo rfl rfl trivial ?_|refine zn ?_|refine zr ?_)
    exact ⟨_, rfl, rfl, k0W.trans ((kk3.trans k20).trans k21)⟩
end Go.Vc
