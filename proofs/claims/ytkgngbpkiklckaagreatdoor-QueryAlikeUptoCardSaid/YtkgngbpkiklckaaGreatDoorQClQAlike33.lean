/- order: New. -/
import Derived.Test.YtkgngbpkiklckaaGreatDoorQClQAlike32
namespace Go.Vc
open Go Go.Proofs
set_option maxRecDepth 10000
variable {w : World}
/-! ### The model of a run -/
def runC (s : Shp) (l : List Ev) (i : Nat) : Ck := (l.take i).foldl (nextC s) (newC s)
theorem runC_succ {s : Shp} {l : List Ev} {i : Nat} {x : Ev} (h : l[i]? = some x) : runC s l (i + 1) = nextC s (runC s l i) x := by
  unfold runC; rw [List.take_add_one, h, List.foldl_append]; rfl
theorem runC_n {s : Shp} {l : List Ev} : ∀ i, i ≤ l.length → (runC s l i).n = i
  | 0, _ => rfl
  | i + 1, h => by
    obtain ⟨e, he⟩ : ∃ e, l[i]? = some e := ⟨_, List.getElem?_eq_getElem (by omega)⟩
    rw [runC_succ he, nextC_n, runC_n i (by omega)]
def okTo (s : Shp) (l : List Ev) (i : Nat) : Prop := ∀ j x, j < i → l[j]? = some x → canB s (runC s l j) x = true
def rnd (c : Ck) (x : Ev) : Int := if x.k = 10 then (st c x.t).ro else if x.k = 9 then (opIn c x.o).1 else 0
def rnds (s : Shp) (l : List Ev) (i : Nat) : List Int := (List.range i).map fun j => rnd (runC s l j) (evA l j)
theorem rnds_len (s : Shp) (l : List Ev) (i : Nat) : (rnds s l i).length = i := by simp [rnds]
theorem rnds_succ {s : Shp} {l : List Ev} {i : Nat} {x : Ev} (h : l[i]? = some x) : rnds s l (i + 1) = rnds s l i ++ [rnd (runC s l i) x] := by
  have : evA l i = x := by unfold evA; rw [h]; rfl
  unfold rnds
  rw [List.range_succ, List.map_append, List.map_singleton, this]
def badO (s : Shp) (l : List Ev) (e : Int) : Prop := (e = 5 ∧ shapeB s = false) ∨ (e = 3 ∧ shapeB s = true ∧ 2048 < l.length) ∨ (e = 6 ∧ shapeB s = true ∧ l.length ≤ 2048 ∧ ¬ okTo s l l.length)
theorem CloneE_ret {ad : Option Addr} {l : List Ev} {cap : Nat} (h : ReadS w ad (evsC l)) (hl : l.length ≤ 1048576) :
    Ret Tryz.prog 86 [.slice ad l.length cap] w (fun v w' => ∃ ad' cap', v = .slice ad' l.length cap' ∧ OwnS w' 86 3 ad' l.length cap' (evsC l) ∧ Kp [] w w' ∧ ∀ b, b ∈ blkOf ad' → w.heap.size ≤ b) := by
  have hlen := evsC_len l
  refine enter Tryz.call86 Tryz.func86 rfl rfl rfl rfl ?_
  (repeat first|refine zA ?_|refine zB ?_|refine zg ?_|refine zo rfl rfl trivial ?_|refine zn ?_)
  cases ad with
  | none =>
    have h0 : evsC l = [] := by simpa [ReadS] using h
    have hl0 : l = [] := by
      apply List.eq_nil_of_length_eq_zero
      rw [h0] at hlen; simp at hlen; omega
    subst hl0
    (repeat first|refine zA ?_|refine zg ?_|refine zo rfl rfl trivial ?_|refine zn ?_|refine zr ?_|refine zt rfl ?_)
    exact ⟨_, rfl, none, 0, rfl, ownS_nil _ _ _, Kp.refl _ _, by simp [blkOf]⟩
  | some a =>
    (repeat first|refine zA ?_|refine zg ?_|refine zo rfl rfl trivial ?_|refine zn ?_|refine zk ?_|refine zf rfl ?_)
    refine o_buildSlice0 rfl rfl rfl rfl ?_
    intro b w1 hb hu1
    have k1 : Kp [] w w1 := hu1.kp [] (.inr (by omega))
    have ho1 : OwnS w1 86 3 (some ⟨b, 0, none⟩) 0 0 [] := ⟨rfl, rfl, rfl, Nat.le_refl _, by simp [maxLen], [], hu1.blk, rfl⟩
    (repeat refine zo rfl rfl trivial ?_)
    by_cases h0 : l.length = 0
    · have hws : l = [] := List.eq_nil_of_length_eq_zero h0
      subst hws
      refine o_append0 (ad := some ⟨b, 0, none⟩) (k := 0) (cap := 0) (ay := some a) (cy := cap) rfl rfl (Nat.le_refl _) rfl rfl rfl rfl ?_
      (repeat first|refine zo rfl rfl trivial ?_|refine zn ?_|refine zr ?_)
      exact ⟨_, rfl, _, 0, rfl, ho1, k1, by simp [blkOf]; omega⟩
    · refine o_append (evsC l) rfl rfl ho1 ?_ rfl rfl rfl (by omega) hlen (by omega) ?_ (by simp only [maxLen]; omega) (by omega) rfl rfl ?_
      · intro j v hv
        exact (h.kp k1 (by simp)) j v hv
      · intro v hv
        obtain ⟨x, _, hx⟩ := List.mem_flatMap.1 hv
        simp [evC] at hx
        rcases hx with rfl | rfl | rfl <;> rfl
      intro ad2 cap2 w2 ho2 k2 hnew
      (repeat first|refine zo rfl rfl trivial ?_|refine zn ?_|refine zr ?_)
      rw [Nat.zero_add] at ho2
      refine ⟨_, rfl, ad2, cap2, by rw [Nat.zero_add], ho2, k1.since k2 (by simp [blkOf]; omega), fun c hc => ?_⟩
      rcases hnew c hc with h1 | h1
      · simp [blkOf] at h1; omega
      · have := hu1.size; omega
/-- so many links -/
def InTo (E : List Ev) (R : List Int) (j i : Nat) (a b : Nat) : Prop := (b < j ∨ (b = j ∧ a < i)) ∧ lk E R a b
instance (E : List Ev) (R : List Int) (j i a b : Nat) : Decidable (InTo E R j i a b) := inferInstanceAs (Decidable (_ ∧ _))
theorem ZTo.kp0 {w1 w2 : World} {p n : Nat} {bs : List Nat} {ad : Option Addr} {cap : Nat} {M1 : List (List Nat)} (h : ZTo w p n bs ad cap w1 M1) (k : Kp [] w1 w2) : ZTo w p n bs ad cap w2 M1 := ⟨h.at_.kp0 k, h.kp.trans (k.mono (by simp))⟩
theorem in_succ {E : List Ev} {R : List Int} {j i a b : Nat} : InTo E R j (i + 1) a b ↔ InTo E R j i a b ∨ ((a = i ∧ b = j) ∧ lk E R a b) := by
  unfold InTo
  constructor
  · rintro ⟨h, hl⟩
    by_cases q : a = i ∧ b = j
    · exact .inr ⟨q, hl⟩
    · exact .inl ⟨by omega, hl⟩
  · rintro (⟨h, hl⟩ | ⟨h, hl⟩)
    · exact ⟨by omega, hl⟩
    · exact ⟨by omega, hl⟩
theorem in_row {E : List Ev} {R : List Int} {j a b : Nat} : InTo E R j j a b ↔ InTo E R (j + 1) 0 a b := by
  unfold InTo
  constructor
  · rintro ⟨h, hl⟩; exact ⟨by omega, hl⟩
  · rintro ⟨h, hl⟩; have := lk_lt hl; exact ⟨by omega, hl⟩
theorem in_all {E : List Ev} {R : List Int} {a b : Nat} : InTo E R E.length 0 a b ↔ lk E R a b := by
  unfold InTo
  constructor
  · rintro ⟨_, hl⟩; exact hl
  · intro hl; have := lk_lt hl; exact ⟨by omega, hl⟩
set_option maxHeartbeats 12800000 in
theorem oNew_ret {s : Shp} {l : List Ev} {pad ead : Option Addr} {cap ecap : Nat} (hr : ReadS w pad (s.pa.map I)) (hpl : s.pa.length ≤ 1048576) (he : ReadS w ead (evsC l)) (hl : l.length ≤ 1048576) :
    Ret Tryz.prog 46 [.agg ⟨shC s pad cap⟩, .slice ead l.length ecap] w (fun v w' =>
      (∃ e, badO s l e ∧ v = .tuple #[.pointer none, I e] ∧ Kp [] w w') ∨
      (shapeB s = true ∧ l.length ≤ 2048 ∧ okTo s l l.length ∧ ∃ g, v = .tuple #[ptr g.p, I 0] ∧ OrAt w' g l (rnds s l l.length) ∧ Kp [] w w' ∧ ∀ b, b ∈ g.F → w.heap.size ≤ b)) := by
  have hel := evsC_len l
  refine enter Tryz.call46 Tryz.func46 rfl rfl rfl rfl ?_
  (repeat first|refine zA ?_|refine zg ?_)
  refine o_box rfl rfl rfl ?_
  intro bx w1 hbx hu1
  have hB1 : Blk w1 bx (shC s pad cap) 27 := hu1.blk
  have k1 : Kp [] w w1 := hu1.kp [] (.inr (by omega))
  (repeat first|refine zA ?_|refine zg ?_|refine zo rfl rfl trivial ?_|refine zn ?_)
  refine o_loadA (vs := shC s pad cap) rfl (fun j v hv => ?_) rfl rfl rfl rfl rfl rfl ?_
  · rw [Nat.zero_add]; exact hB1.cell hv
  refine o_call (fNew_ret (hr.kp k1 (by simp)) hpl) rfl rfl rfl ?_
  rintro v w2 (⟨hs, rfl, k2⟩ | ⟨hs, gc, rfl, hck2, k2, hn2⟩)
  · (repeat first|refine zA ?_|refine zC ?_|refine zg ?_|refine zo rfl rfl trivial ?_|refine zn ?_|refine zb ?_|refine zr ?_|refine zt rfl ?_)
    exact ⟨_, rfl, .inl ⟨5, .inl ⟨rfl, hs⟩, rfl, k1.trans k2⟩⟩
  (repeat first|refine zA ?_|refine zC ?_|refine zg ?_|refine zo rfl rfl trivial ?_|refine zn ?_|refine zb ?_|refine zf rfl ?_)
  refine r_if rfl (fun hlong => ?_) (fun hlong => ?_)
  · (repeat first|refine zA ?_|refine zg ?_|refine zo rfl rfl trivial ?_|refine zn ?_|refine zr ?_)
    exact ⟨_, rfl, .inl ⟨3, .inr (.inl ⟨rfl, hs, by omega⟩), rfl, k1.trans k2⟩⟩
  have hn : l.length ≤ 2048 := by omega
  have k02 := k1.trans k2
  (repeat first|refine zA ?_|refine zg ?_|refine zo rfl rfl trivial ?_|refine zk ?_)
  refine o_call (CloneE_ret (he.kp k02 (by simp)) hl) rfl rfl rfl ?_
  rintro v w3 ⟨ead', ecap', rfl, ho3, k3, hn3⟩
  refine o_build [.slice ead' l.length ecap', .slice none 0 0, .pointer none] rfl rfl rfl rfl rfl rfl rfl ?_
  refine o_box rfl rfl rfl ?_
  intro op w4 hop hu4
  have k4 : Kp [] w3 w4 := hu4.kp [] (.inr (by omega))
  have hO4 : Blk w4 op [.slice ead' l.length ecap', .slice none 0 0, .pointer none] 186 := hu4.blk
  have k04 := (k02.trans k3).trans k4
  have hckF : ∀ b, b ∈ gc.F → b < w2.heap.size := hck2.toCkM.lt
  have z2 := k02.size
  have z1 := k1.size
  have z3 := k3.size
  have z4 := hO4.lt
  have hck4 := (hck2.kp0 k3).kp0 k4
  have hE4 : ReadS w4 ead' (evsC l) := ho3.readN.kp k4 (by simp)
  (repeat first|refine zA ?_|refine zB ?_|refine zg ?_|refine zo rfl rfl trivial ?_|refine zn ?_|refine zb ?_)
  refine r_loop (α := Nat) [1, 6, 8, 35, 36, 37] (fun i => [.slice ead l.length ecap, ptr gc.p, ptr op, .slice ead l.length ecap, I l.length, I i])
    (fun i wc => i ≤ l.length ∧ okTo s l i ∧ CkAt wc gc s (runC s l i) ∧ ReadS wc ead' (evsC l) ∧ Kp [] w wc ∧ w4.heap.size ≤ wc.heap.size ∧ ∃ rad rcap, Blk wc op [.slice ead' l.length ecap', .slice rad i rcap, .pointer none] 186 ∧ OwnS wc 3 1 rad i rcap ((rnds s l i).map I) ∧ ∀ b, b ∈ blkOf rad → w4.heap.size ≤ b)
    (fun i => l.length - i) 0 rfl ⟨by omega, fun j x hj => by omega, hck4, hE4, k04, Nat.le_refl _, none, 0, hO4, ownS_nil _ _ _, by simp [blkOf]⟩ ?_
  rintro i e wc ⟨hi, hok, hck, hEc, kc, hzc, rad, rcap, hO, hR, hRn⟩
  (repeat first|refine zA ?_|refine zD ?_|refine zg ?_|refine zo rfl rfl trivial ?_|refine zn ?_)
  refine r_if rfl (fun hc => ?_) (fun hc => ?_)
  · have hlt : i < l.length := by omega
    obtain ⟨x, hx⟩ : ∃ x, l[i]? = some x := ⟨_, List.getElem?_eq_getElem hlt⟩
    obtain ⟨b0, off0, rfl, hb0, hcell⟩ := he.at_ (by rw [hel]; omega)
    (repeat first|refine zA ?_|refine zC ?_|refine zg ?_|refine zo rfl rfl (by first|exact trivial|(simp only[AllP];omega)) ?_|refine zb ?_|refine zk ?_)
    refine o_loadA (b := b0) (off := off0 + i * 3) (vs := evC x) rfl (fun j v hv => ?_) rfl rfl rfl rfl rfl rfl ?_
    · rw [Nat.add_assoc, ← hcell _ _ (evsC_get hx j v hv)]
      exact World.cell?_of_block (kc.at_ b0 hb0 (by simp))
    refine o_alloc rfl rfl rfl rfl ?_
    intro be w5 hbe hu5
    refine o_storeA (cs := evC x) rfl hu5.blk (Nat.le_refl _) rfl (by simp [Value.oneCell']) rfl rfl rfl rfl ?_
    intro w6 hu6
    have k6 : Kp [] wc w6 := (hu5.kp [] (.inr (by omega))).since (hu6.kp [be] (.inl (by simp))) (by simp; omega)
    have hBe : Blk w6 be (evC x) 86 := hu6.blk
    have hbe6 := hBe.lt
    have hck6 := hck.kp0 k6
    have hO6 := k6.blk (by simp) hO
    have hwc := hO.lt
    (repeat first|refine zA ?_|refine zB ?_|refine zg ?_|refine zo rfl rfl trivial ?_|refine zn ?_)
    refine o_load (b := be) (off := 0) (v := I x.k) rfl hBe rfl rfl rfl rfl rfl ?_
    (repeat first|refine zo rfl rfl trivial ?_|refine zn ?_)
    refine r_cut (α := Int) [1, 6, 8, 10, 11, 35, 36, 37] (fun r => [.slice (some ⟨b0, off0, none⟩) l.length ecap, ptr gc.p, ptr op, ptr be, I r, .slice (some ⟨b0, off0, none⟩) l.length ecap, I l.length, I i]) (fun r w' => r = (if x.k = 9 then (opIn (runC s l i) x.o).1 else 0) ∧ Kp [] w6 w') ?_ ?_
    · refine r_if rfl (fun h9 => ?_) (fun h9 => ?_)
      · (repeat first|refine zA ?_|refine zg ?_|refine zo rfl rfl trivial ?_)
        refine o_load (b := be) (off := 2) (v := I x.o) rfl hBe rfl rfl rfl rfl rfl ?_
        refine o_call (Round_ret hck6 x.o) rfl rfl rfl ?_
        rintro v w7 ⟨rfl, k7⟩
        (repeat refine zo rfl rfl trivial ?_)
        refine o_alloc rfl rfl rfl rfl ?_
        intro bo w8 hbo hu8
        refine o_storeA (cs := opC2 (opIn (runC s l i) x.o)) rfl hu8.blk (Nat.le_refl _) rfl (by simp [Value.oneCell']) rfl rfl rfl rfl ?_
        intro w9 hu9
        have k9 : Kp [] w7 w9 := (hu8.kp [] (.inr (by omega))).since (hu9.kp [bo] (.inl (by simp))) (by simp; omega)
        have hBo : Blk w9 bo (opC2 (opIn (runC s l i) x.o)) 131 := hu9.blk
        (repeat first|refine zg ?_|refine zo rfl rfl trivial ?_|refine zn ?_)
        refine o_load (b := bo) (off := 0) (v := I (opIn (runC s l i) x.o).1) rfl hBo rfl rfl rfl rfl rfl ?_
        (repeat first|refine zo rfl rfl trivial ?_|refine zn ?_)
        exact ⟨_, rfl, by rw [if_pos h9], k7.trans k9⟩
      · (repeat refine zk ?_)
        exact ⟨0, rfl, by rw [if_neg h9], Kp.refl _ _⟩
    rintro r e w10 ⟨hr10, k10⟩
    have hBe10 := k10.blk (by simp) hBe
    have hck10 := hck6.kp0 k10
    (repeat first|refine zA ?_|refine zB ?_|refine zg ?_|refine zo rfl rfl trivial ?_)
    refine o_load (b := be) (off := 0) (v := I x.k) rfl hBe10 rfl rfl rfl rfl rfl ?_
    (repeat first|refine zo rfl rfl trivial ?_|refine zn ?_)
    refine r_cut (α := Int) [1, 6, 8, 10, 11, 35, 36, 37] (fun r => [.slice (some ⟨b0, off0, none⟩) l.length ecap, ptr gc.p, ptr op, ptr be, I r, .slice (some ⟨b0, off0, none⟩) l.length ecap, I l.length, I i]) (fun r w' => r = rnd (runC s l i) x ∧ Kp [] w10 w') ?_ ?_
    · refine r_if rfl (fun h10 => ?_) (fun h10 => ?_)
      · (repeat first|refine zA ?_|refine zg ?_|refine zo rfl rfl trivial ?_)
        refine o_load (b := be) (off := 1) (v := I x.t) rfl hBe10 rfl rfl rfl rfl rfl ?_
        refine o_call (Stand_ret hck10 x.t) rfl rfl rfl ?_
        rintro v w7 ⟨rfl, k7⟩
        (repeat refine zo rfl rfl trivial ?_)
        refine o_alloc rfl rfl rfl rfl ?_
        intro bo w8 hbo hu8
        refine o_storeA (cs := stdC (st (runC s l i) x.t)) rfl hu8.blk (Nat.le_refl _) rfl (by simp [Value.oneCell']) rfl rfl rfl rfl ?_
        intro w9 hu9
        have k9 : Kp [] w7 w9 := (hu8.kp [] (.inr (by omega))).since (hu9.kp [bo] (.inl (by simp))) (by simp; omega)
        have hBo : Blk w9 bo (stdC (st (runC s l i) x.t)) 136 := hu9.blk
        (repeat first|refine zg ?_|refine zo rfl rfl trivial ?_|refine zn ?_)
        refine o_load (b := bo) (off := 2) (v := I (st (runC s l i) x.t).ro) rfl hBo rfl rfl rfl rfl rfl ?_
        (repeat first|refine zo rfl rfl trivial ?_|refine zn ?_)
        exact ⟨_, rfl, by unfold rnd; rw [if_pos h10], k7.trans k9⟩
      · (repeat refine zk ?_)
        exact ⟨r, rfl, by unfold rnd; rw [if_neg h10]; exact hr10, Kp.refl _ _⟩
    rintro r2 e w11 ⟨rfl, k11⟩
    have hBe11 := k11.blk (by simp) hBe10
    have hck11 := hck10.kp0 k11
    have k611 := k10.trans k11
    have hn11 := runC_n (s := s) (l := l) i hi
    (repeat first|refine zA ?_|refine zB ?_|refine zg ?_|refine zo rfl rfl trivial ?_)
    refine o_loadA (vs := evC x) rfl (fun j v hv => by rw [Nat.zero_add]; exact hBe11.cell hv) rfl rfl rfl rfl rfl rfl ?_
    refine o_call (fNext_ret hck11 x (by omega)) rfl rfl rfl ?_
    rintro v w12 (⟨hcan, rfl, hck12, k12⟩ | ⟨hcan, rfl, k12⟩)
    rotate_left
    · (repeat first|refine zA ?_|refine zg ?_|refine zo rfl rfl trivial ?_|refine zn ?_|refine zr ?_|refine zt rfl ?_)
      refine ⟨_, rfl, .inl ⟨6, .inr (.inr ⟨rfl, hs, hn, fun hall => ?_⟩), rfl, ((kc.trans k6).trans k611).trans k12⟩⟩
      have := hall i x hlt hx
      rw [this] at hcan; cases hcan
    have k12 : Kp gc.F w11 w12 := k12.mono (fun b hb => CkG.W_F hb)
    have hopF : op ∉ gc.F := fun hb => by have := hckF op hb; omega
    have hO12 := k12.blk hopF (k611.blk (by simp) hO6)
    have hcn : ∀ b, b ∈ gc.F → w.heap.size ≤ b := fun b hb => by have := hn2 b hb; omega
    have k12w : Kp [] w w12 := ((kc.trans k6).trans k611).since k12 hcn
    have hE12 : ReadS w12 ead' (evsC l) := ((hEc.kp k6 (by simp)).kp k611 (by simp)).kp k12 (fun b hb hb2 => by have := hn3 b hb; have := hckF b hb2; omega)
    have hR12 : OwnS w12 3 1 rad i rcap ((rnds s l i).map I) := ((hR.kp k6 (by simp)).kp k611 (by simp)).kp k12 (fun b hb hb2 => by have := hRn b hb; have := hckF b hb2; omega)
    (repeat first|refine zg ?_|refine zo rfl rfl trivial ?_|refine zn ?_|refine zk ?_|refine zf rfl ?_)
    refine o_load (v := .slice rad i rcap) rfl hO12 rfl rfl rfl rfl rfl ?_
    (repeat refine zo rfl rfl trivial ?_)
    refine o_buildSlice [I (rnd (runC s l i) x)] rfl (by simp [Value.oneCell']) rfl (by decide) (by decide) rfl rfl rfl rfl rfl ?_
    intro b13 w13 hb13 hu13
    have k13 : Kp [] w12 w13 := hu13.kp [] (.inr (by omega))
    refine o_append1 rfl rfl (hR12.kp k13 (by simp)) hu13.blk rfl rfl rfl rfl (by simp only [maxLen]; omega) (by omega) rfl rfl ?_
    intro ad14 cap14 w14 ho14 k14 hn14
    have hop14 : op ∉ blkOf rad := fun hb => by have := hRn op hb; omega
    have hO14 := k14.blk hop14 (k13.blk (by simp) hO12)
    (repeat refine zo rfl rfl trivial ?_)
    refine o_store (b := op) (off := 1) (v := .slice ad14 (i + 1) cap14) (c := none) rfl hO14 (by simp) rfl rfl rfl rfl rfl rfl ?_
    intro w15 hu15
    have k15 : Kp [op] w14 w15 := hu15.kp _ (.inl (by simp))
    have hO15 : Blk w15 op [.slice ead' l.length ecap', .slice ad14 (i + 1) cap14, .pointer none] 186 := hu15.blk
    have z12 : w4.heap.size ≤ w12.heap.size := by have := k6.size; have := k611.size; have := k12.size; omega
    have z13 := k13.size
    have z14 := k14.size
    have z15 := k15.size
    have hn14' : ∀ b, b ∈ blkOf ad14 → w4.heap.size ≤ b := fun b hb => by
      rcases hn14 b hb with q | q
      · exact hRn b q
      · omega
    have kw15 : Kp [] w w15 := ((k12w.trans k13).since k14 (fun b hb => by have := hRn b hb; have := kc.size; omega)).since k15 (fun b hb => by simp at hb; omega)
    (repeat first|refine zg ?_|refine zo rfl rfl (by first|exact trivial|(simp only[AllP];omega)) ?_|refine zn ?_)
    refine ⟨i + 1, rfl, ⟨by omega, fun j y hj hy => ?_, ?_, ?_, kw15, by omega, ad14, cap14, hO15, ?_, hn14'⟩, by omega⟩
    · by_cases hji : j = i
      · subst hji; rw [hx] at hy; cases hy; exact hcan
      · exact hok j y (by omega) hy
    · rw [runC_succ hx]
      exact ((hck12.kp0 k13).kp k14 (fun b hb hb2 => by have := hckF b hb; have := hRn b hb2; omega)).kp k15 (fun b hb hb2 => by simp at hb2; subst hb2; exact hopF hb)
    · exact ((hE12.kp k13 (by simp)).kp k14 (fun b hb hb2 => by have := hRn b hb2; have := ho3.lt b hb; omega)).kp k15 (fun b hb hb2 => by simp at hb2; have := ho3.lt b hb; omega)
    · rw [rnds_succ hx, List.map_append]
      exact ho14.kp k15 (fun b hb hb2 => by simp at hb2; have := hn14' b hb; omega)
  · have hin : i = l.length := by omega
    subst hin
    have zc := kc.size
    (repeat first|refine zA ?_|refine zg ?_|refine zo rfl rfl trivial ?_|refine ze rfl ?_)
    refine o_call (zNewRelation_ret (n := l.length) hn) rfl rfl rfl ?_
    rintro v w5 ⟨rp, bs, mad, mcap, rfl, hz5⟩
    have k5 := hz5.kp
    have hO5 := k5.blk (by simp) hO
    have hRel5 : ∀ b, b ∈ relBlks rp mad bs → wc.heap.size ≤ b := hz5.new
    (repeat refine zo rfl rfl trivial ?_)
    refine o_store (b := op) (off := 2) (v := ptr rp) (c := none) rfl hO5 (by simp) rfl rfl rfl rfl rfl rfl ?_
    intro w6 hu6
    have k6 : Kp [op] w5 w6 := hu6.kp _ (.inl (by simp))
    have hO6 : Blk w6 op [.slice ead' l.length ecap', .slice rad l.length rcap, ptr rp] 186 := hu6.blk
    have hoplt := hO.lt
    have hz6 : ZAt w6 rp l.length bs (zeroM l.length) mad mcap := hz5.at_.kp k6 (fun b hb hb2 => by simp at hb2; have := hRel5 b hb; omega)
    have hElt := hEc.at_
    have hE6 : ReadS w6 ead' (evsC l) := (hEc.kp k5 (by simp)).kp k6 (fun b hb hb2 => by simp at hb2; have := ho3.lt b hb; omega)
    have hR6 : OwnS w6 3 1 rad l.length rcap ((rnds s l l.length).map I) := (hR.kp k5 (by simp)).kp k6 (fun b hb hb2 => by simp at hb2; have := hRn b hb; omega)
    have hB6 : ∀ M, OrB w6 ⟨op, ead', ecap', rad, rcap, rp, bs, M, mad, mcap⟩ l (rnds s l l.length) := fun M => ⟨by rw [rnds_len]; exact hO6, hE6, hR6.read, rnds_len _ _ _, hn⟩
    have hRlt : ∀ b, b ∈ blkOf rad → b < wc.heap.size := hR.lt
    have hdis : ∀ M b, b ∈ op :: (blkOf (OrG.mk op ead' ecap' rad rcap rp bs M mad mcap).ead ++ blkOf (OrG.mk op ead' ecap' rad rcap rp bs M mad mcap).rad) → b ∉ relBlks rp mad bs := fun M b hb hb2 => by
      have := hRel5 b hb2
      simp only [List.mem_cons, List.mem_append] at hb
      rcases hb with rfl | hb | hb
      · omega
      · have := ho3.lt b hb; omega
      · have := hRlt b hb; omega
    generalize hRs : rnds s l l.length = Rs at *
    (repeat first|refine zA ?_|refine zB ?_|refine zg ?_|refine zo rfl rfl trivial ?_|refine zn ?_|refine zb ?_|refine zk ?_|refine zf rfl ?_)
    refine r_loop (α := Nat) [8, 93, 94] (fun j => [ptr op, I l.length, I j]) (fun j w' => j ≤ l.length ∧ ∃ M, ZTo w6 rp l.length bs mad mcap w' M ∧ ∀ a b, bitM M a b = decide (InTo l Rs j 0 a b)) (fun j => l.length - j) 0 rfl ⟨by omega, _, ZTo.refl hz6, fun a b => by rw [bitM_zero, decide_eq_false]; rintro ⟨h, _⟩; omega⟩ ?_
    rintro j e w7 ⟨hj, M7, h7, hb7⟩
    (repeat first|refine zA ?_|refine zD ?_|refine zg ?_|refine zo rfl rfl trivial ?_|refine zn ?_)
    refine r_if rfl (fun hc7 => ?_) (fun hc7 => ?_)
    · have hjl : j < l.length := by omega
      (repeat first|refine zA ?_|refine zC ?_|refine zg ?_|refine zo rfl rfl trivial ?_|refine zn ?_|refine zb ?_|refine zk ?_)
      refine r_loop (α := Nat) [8, 16, 93, 94, 97, 98] (fun i => [ptr op, I j, I l.length, I j, I j, I i]) (fun i w' => i ≤ j ∧ ∃ M, ZTo w6 rp l.length bs mad mcap w' M ∧ ∀ a b, bitM M a b = decide (InTo l Rs j i a b)) (fun i => j - i) 0 rfl ⟨by omega, M7, h7, hb7⟩ ?_
      rintro i e w8 ⟨hi8, M8, h8, hb8⟩
      (repeat first|refine zA ?_|refine zD ?_|refine zg ?_|refine zo rfl rfl trivial ?_|refine zn ?_)
      refine r_if rfl (fun hc8 => ?_) (fun hc8 => ?_)
      · have hij : i < j := by omega
        have hB8 := (hB6 M8).kp h8.kp (hdis M8)
        (repeat first|refine zA ?_|refine zC ?_|refine zg ?_|refine zo rfl rfl trivial ?_|refine zn ?_|refine zb ?_|refine zk ?_)
        refine o_call (oWhy_ret hB8 i j) rfl rfl rfl ?_
        rintro v w9 ⟨rfl, k9⟩
        have h9 := h8.kp0 k9
        (repeat first|refine zo rfl rfl trivial ?_|refine zn ?_)
        by_cases hl0 : lk l Rs i j
        · refine r_yes rfl (by simpa [lk] using hl0) ?_
          have hB9 := hB8.kp0 k9
          (repeat first|refine zg ?_|refine zo rfl rfl trivial ?_)
          refine o_load (v := ptr rp) rfl hB9.hdr rfl rfl rfl rfl rfl ?_
          (repeat refine zo rfl rfl trivial ?_)
          refine o_call (zLink_ret h9.at_ (i := i) (j := j) (by omega) hjl) rfl rfl rfl ?_
          rintro v w10 ⟨rfl, h10⟩
          (repeat first|refine zg ?_|refine zo rfl rfl (by first|exact trivial|(simp only[AllP];omega)) ?_|refine zn ?_)
          refine ⟨i + 1, rfl, ⟨by omega, _, h9.trans h10, fun a b => ?_⟩, by omega⟩
          rw [bitM_linkM h9.at_.mok (by omega) hjl, hb8, ← Bool.decide_or]
          apply decide_eq_decide.2
          rw [in_succ]
          constructor
          · rintro (q | q)
            · exact .inl q
            · exact .inr ⟨q, by rw [q.1, q.2]; exact hl0⟩
          · rintro (q | q)
            · exact .inl q
            · exact .inr q.1
        · refine r_no rfl (by simpa [lk] using hl0) ?_
          (repeat first|refine zg ?_|refine zo rfl rfl (by first|exact trivial|(simp only[AllP];omega)) ?_|refine zn ?_|refine zk ?_)
          refine ⟨i + 1, rfl, ⟨by omega, M8, h9, fun a b => ?_⟩, by omega⟩
          rw [hb8]
          apply decide_eq_decide.2
          rw [in_succ]
          constructor
          · exact .inl
          · rintro (q | ⟨q, ql⟩)
            · exact q
            · rw [q.1, q.2] at ql; exact absurd ql hl0
      · have hij : i = j := by omega
        subst hij
        (repeat first|refine zg ?_|refine zo rfl rfl (by first|exact trivial|(simp only[AllP];omega)) ?_|refine zn ?_|refine ze rfl ?_)
        refine ⟨i + 1, rfl, ⟨by omega, M8, h8, fun a b => ?_⟩, by omega⟩
        rw [hb8]
        exact decide_eq_decide.2 in_row
    · have hjl : j = l.length := by omega
      subst hjl
      have hB7 := (hB6 M7).kp h7.kp (hdis M7)
      (repeat first|refine zA ?_|refine zg ?_|refine zo rfl rfl trivial ?_|refine ze rfl ?_)
      refine o_load (v := ptr rp) rfl hB7.hdr rfl rfl rfl rfl rfl ?_
      refine o_call (zClose_ret h7.at_) rfl rfl rfl ?_
      rintro v w8 ⟨rfl, h8⟩
      (repeat first|refine zA ?_|refine zg ?_|refine zo rfl rfl trivial ?_|refine zn ?_|refine zr ?_)
      have h68 := h7.trans h8
      have hB8 := (hB6 (closeM l.length M7)).kp h68.kp (hdis (closeM l.length M7))
      have kw : Kp [] w w8 := ((kc.trans k5).since k6 (fun b hb => by simp at hb; omega)).since h68.kp (fun b hb => by have := hRel5 b hb; omega)
      refine ⟨_, rfl, .inr ⟨hs, hn, hok, ⟨op, ead', ecap', rad, rcap, rp, bs, closeM l.length M7, mad, mcap⟩, rfl, ⟨hB8, h8.at_, fun a b => ?_, fun b hb => ?_⟩, kw, fun b hb => ?_⟩⟩
      · show bitM (closeM l.length M7) a b = true ↔ _
        rw [closeM_iff h7.at_.mok]
        have hlk : ∀ a b, linkR M7 a b ↔ lk l Rs a b := fun a b => by
          unfold linkR
          rw [hb7, decide_eq_true_eq]; exact in_all
        exact ⟨fun h => h.mono fun a b => (hlk a b).1, fun h => h.mono fun a b => (hlk a b).2⟩
      · have q5 := k5.size
        have q6 := k6.size
        have q8 := h68.kp.size
        simp only [OrG.F, List.mem_cons, List.mem_append] at hb
        rcases hb with rfl | hb | hb | hb
        · omega
        · have := ho3.lt b hb; omega
        · have := hRlt b hb; omega
        · exact h8.at_.lt b hb
      · simp only [OrG.F, List.mem_cons, List.mem_append] at hb
        rcases hb with rfl | hb | hb | hb
        · omega
        · have := hn3 b hb; omega
        · have := hRn b hb; omega
        · have := hRel5 b hb; omega
end Go.Vc
