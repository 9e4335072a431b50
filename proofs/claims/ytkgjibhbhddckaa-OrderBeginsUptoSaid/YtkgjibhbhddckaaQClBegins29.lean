/- order: Races, gone, Pair. -/
import Derived.Test.YtkgjibhbhddckaaQClBegins28
import Derived.Test.YtkgjibhbhddckaaQClBegins16
namespace Go.Vc
open Go Go.Proofs
set_option maxRecDepth 10000
variable {w : World}
def prsC (l : List P3) : List Value := l.flatMap pairC
theorem prsC_len (l : List P3) : (prsC l).length = l.length * 3 := flC_len (f := pairC) (m := 3) (fun _ => rfl) l
theorem prsC_snoc (l : List P3) (x : P3) : prsC (l ++ [x]) = prsC l ++ pairC x := by simp [prsC]
/-- a list in the making, kept in a box; its blocks lie behind B0 -/
structure AccI (w W : World) (B0 b5 : Nat) (ST T : TypeId) (sz : Nat) (n : Nat) (xs : List Value) : Prop where
  hdr : ∃ ad cap, Blk W b5 [.slice ad n cap] ST ∧ OwnS W T sz ad n cap xs ∧ ∀ b, b ∈ blkOf ad → B0 ≤ b
  fresh : w.heap.size ≤ b5
  lt : b5 < B0
  kp : Kp [] w W
section
variable {W W' : World} {B0 b5 n sz : Nat} {ST T : TypeId} {xs : List Value}
theorem AccI.nc {B : Nat} (h : AccI w W B0 b5 ST T sz n xs) (hn : Nc B W W') (hB : w.heap.size ≤ B) : AccI w W' B0 b5 ST T sz n xs := by
  obtain ⟨ad, cap, h1, h2, h3⟩ := h.hdr
  exact ⟨⟨ad, cap, hn.blk h1, hn.own h2, h3⟩, h.fresh, h.lt, hn.kp h.kp hB⟩
theorem AccI.kp0 (h : AccI w W B0 b5 ST T sz n xs) (hk : Kp [] W W') : AccI w W' B0 b5 ST T sz n xs := by
  obtain ⟨ad, cap, h1, h2, h3⟩ := h.hdr
  exact ⟨⟨ad, cap, hk.blk (by simp) h1, h2.kp hk (by simp), h3⟩, h.fresh, h.lt, h.kp.trans hk⟩
/-- one more: behind the append and the store -/
theorem AccI.push {W1 W2 W3 : World} {ad ad' : Option Addr} {cap cap' m : Nat} {ys : List Value} (h : AccI w W B0 b5 ST T sz n xs) (hB : Blk W b5 [.slice ad n cap] ST) (hB0 : B0 ≤ W.heap.size) (k1 : Kp [] W W1) (ho : OwnS W2 T sz ad' m cap' ys) (k2 : Kp (blkOf ad) W1 W2) (hn : ∀ b, b ∈ blkOf ad' → b ∈ blkOf ad ∨ W1.heap.size ≤ b)
    (hu : Upd W2 b5 (.cells ⟨[.slice ad' m cap']⟩ ST (0, 0)) W3) : AccI w W3 B0 b5 ST T sz m ys ∧ Kp (b5 :: blkOf ad) W W3 := by
  obtain ⟨ad0, cap0, h1, h2, h3⟩ := h.hdr
  have e1 : Value.slice ad n cap = Value.slice ad0 n cap0 := by
    have := h1.symm.trans hB
    simp at this
    simp [this.1, this.2]
  simp only [Value.slice.injEq] at e1
  obtain ⟨rfl, -, rfl⟩ := e1
  have hlt := h.lt
  have s1 := k1.size
  have hn' : ∀ b, b ∈ blkOf ad' → B0 ≤ b := fun b hb => by
    rcases hn b hb with q | q
    · exact h3 b q
    · omega
  have kk : Kp (b5 :: blkOf ad) W W3 := ((k1.mono (by simp)).trans (k2.mono (fun b hb => by simp [hb]))).trans (hu.kp _ (.inl (by simp)))
  refine ⟨⟨⟨ad', cap', hu.blk, ho.upd hu (fun hm => by have := hn' _ hm; omega), hn'⟩, h.fresh, h.lt, ?_⟩, kk⟩
  exact h.kp.since kk (fun b hb => by
    rcases List.mem_cons.1 hb with rfl | hb
    · exact h.fresh
    · have := h3 b hb; have := h.fresh; omega)
end
/-- the races on a variable -/
def onV (v : Int) (l : List P3) : List P3 := l.filter fun x => decide (x.1 = v)
theorem racesJ_le (E : List Ev) (R : List Int) (j i : Nat) : (racesJ E R j i).length ≤ i := by
  unfold racesJ
  exact Nat.le_trans (List.length_filterMap_le _ _) (by simp)
theorem racesN_le (E : List Ev) (R : List Int) : ∀ n, (racesN E R n).length ≤ n * n
  | 0 => by simp [racesN]
  | n + 1 => by
    rw [racesN_succ, List.length_append]
    have h1 := racesN_le E R n
    have h2 := racesJ_le E R n n
    have : (n + 1) * (n + 1) = n * n + 2 * n + 1 := by rw [Nat.add_mul, Nat.mul_add]; omega
    omega
theorem racesN_small {E : List Ev} (R : List Int) (h : E.length ≤ 2048) : (racesN E R E.length).length ≤ 4194304 := by
  have := racesN_le E R E.length
  have h2 : E.length * E.length ≤ 2048 * 2048 := Nat.mul_le_mul h h
  omega
section
variable {p : Option Addr} {F : List Nat} {E : List Ev} {R : List Int}
/-- what gone keeps -/
def gonP (m : Int) (l : List P3) : List P3 := if 0 ≤ m then l.take m.toNat else l
set_option maxHeartbeats 6400000 in
theorem gone20_ret {q : Value} {Fp : List Nat} {l : List P3} (hs : Seq3 w q Fp l) (hl : l.length ≤ 4194304) (m : Int) : Ret Try.prog 23 [q, I m] w (fun r w' => ∃ ad cap, r = .slice ad (gonP m l).length cap ∧ OwnS w' 53 3 ad (gonP m l).length cap (prsC (gonP m l)) ∧ Kp [] w w' ∧ ∀ b, b ∈ blkOf ad → w.heap.size ≤ b) := by
  obtain ⟨fi, lb, rfl, hI0⟩ := hs.is
  have hFl := hI0.1
  refine enterMC Try.call23 Try.func23 rfl rfl rfl rfl ?_
  refine m_seq (m_of ?_)
  (repeat refine zg ?_)
  refine o_box rfl rfl rfl ?_
  intro b3 w1 hb3 hu1
  (repeat first|refine zo rfl rfl trivial ?_|refine zn ?_)
  refine m_seq (m_of ?_)
  (repeat refine zg ?_)
  refine o_alloc rfl rfl rfl rfl ?_
  intro b5 w2 hb5 hu2
  have z1 := hu1.lt
  have z2 := hu2.lt
  have k1 := hu1.kp [] (.inr (by omega))
  have k2 := hu2.kp [] (.inr (by omega))
  have s1 := k1.size
  have s2 := k2.size
  have hV2 : Blk w2 b3 [I m] 3 := k2.blk (by simp) hu1.blk
  have k02 := k1.trans k2
  have hI := hI0.kp (w1 := w2) k02.size (fun b hb => k02.at_ b (hFl b hb) (by simp))
  have g2 : AccI w w2 (w2.heap.size + 2) b5 47 53 3 0 (prsC []) := ⟨⟨none, 0, hu2.blk, ownS_nil _ _ _, by simp [blkOf]⟩, by omega, by omega, k02⟩
  have hn5 : b5 ∉ Fp := fun hm => by have := hFl b5 hm; omega
  (repeat refine zn ?_)
  refine m_seq (m_of ?_)
  (repeat first|refine zA ?_|refine zg ?_|refine zo rfl rfl trivial ?_|refine zn ?_|refine zk ?_|refine zf rfl ?_)
  refine m_seq (m_seq (m_of ?_))
  (repeat first|refine zg ?_|refine zo rfl rfl trivial ?_|refine zn ?_)
  refine m_block ?_
  refine m_range2 hI [0] (fun pre W => AccI w W (w2.heap.size + 2) b5 47 53 3 pre.length (prsC pre) ∧ Blk W b3 [I m] 3 ∧ (0 ≤ m → (pre.length : Int) ≤ m))
    (fun c pre W => c = .exit 0 ∧ ∃ pre0 x, pre = pre0 ++ [x] ∧ (pre0.length : Int) = m ∧ AccI w W (w2.heap.size + 2) b5 47 53 3 pre0.length (prsC pre0)) rfl rfl (fun _ => rfl) ?_ ?_ ?_ ?_ ?_ ?_
  · rintro pre W1 W2 ⟨hg, hv, hm⟩ hnc
    exact ⟨hg.nc hnc (by omega), hnc.blk hv, hm⟩
  · rintro c pre W1 W2 ⟨hc, pre0, x, e1, e2, hg⟩ hnc
    exact ⟨hc, pre0, x, e1, e2, hg.nc hnc (by omega)⟩
  · exact ⟨g2, hV2, fun h => by simpa using h⟩
  · rintro D l' r pre x post W hx' hD hl' ⟨hg, hv, hm⟩
    (repeat refine zg ?_)
    refine o_alloc rfl rfl rfl rfl ?_
    intro b8 W1 hb8 hu8
    refine o_storeA (cs := pairC x) rfl hu8.blk (Nat.le_refl _) rfl (by simp [Value.oneCell']) rfl rfl rfl rfl ?_
    intro W1' hu8'
    have k8 : Kp [] W W1' := (hu8.kp [] (.inr (by omega))).since (hu8'.kp [b8] (.inl (by simp))) (by simp; omega)
    have hB8' : Blk W1' b8 (pairC x) 53 := hu8'.blk
    (repeat refine zn ?_)
    refine ⟨k8, ?_⟩
    intro W2 hnc hkeep
    have hB8 := hnc.blk hB8'
    have hg2 := (hg.kp0 k8).nc hnc (show w.heap.size ≤ w2.heap.size by omega)
    have hv2 := hnc.blk (k8.blk (by simp) hv)
    have hlW : l' < W2.heap.size := (Array.getElem?_eq_some_iff.1 hkeep.loop).1
    have hle : pre.length ≤ 4194304 := by
      have h2 : pre.length ≤ l.length := by rw [hx']; simp
      omega
    obtain ⟨ad, cap, hB5, ho5, hn5'⟩ := hg2.hdr
    (repeat first|refine zA ?_|refine zB ?_|refine zg ?_|refine zb ?_)
    refine o_load rfl hB5 rfl rfl rfl rfl rfl ?_
    (repeat refine zo rfl rfl trivial ?_)
    refine o_load rfl hv2 rfl rfl rfl rfl rfl ?_
    (repeat first|refine zo rfl rfl trivial ?_|refine zn ?_)
    refine r_if rfl (fun hc => ?_) (fun hc => ?_)
    · (repeat refine ze rfl ?_)
      exact ⟨⟨rfl, pre, x, rfl, hc, hg2⟩, hkeep⟩
    · (repeat first|refine zg ?_|refine zk ?_)
      refine o_load rfl hB5 rfl rfl rfl rfl rfl ?_
      refine o_loadA (vs := pairC x) rfl (fun j v hv => by rw [Nat.zero_add]; exact hB8.cell hv) rfl rfl rfl rfl rfl rfl ?_
      refine o_buildSliceN (pairC x) rfl rfl rfl (by kernel_rfl) rfl rfl rfl rfl ?_
      intro b9 W3 hb9 hu9
      have k9 : Kp [] W2 W3 := hu9.kp [] (.inr (by omega))
      refine o_append (pairC x) rfl rfl (ho5.kp k9 (by simp)) (fun j v hv => by rw [addr_lit, Nat.zero_add]; exact hu9.blk.cell hv) rfl rfl rfl (by omega) rfl (by omega) (by simp [Value.oneCell']) (by simp only [maxLen]; omega) (by omega) rfl rfl ?_
      intro ad' cap' W4 ho4 k4 hn4
      have hB5' : Blk W4 b5 [.slice ad pre.length cap] 47 := k4.blk (fun hb => by have := hn5' _ hb; have := hg2.lt; omega) (k9.blk (by simp) hB5)
      refine o_store rfl hB5' (by simp) rfl rfl rfl rfl rfl rfl ?_
      intro W5 hu5
      have hv4 := k4.blk (fun hb => by have := hn5' _ hb; have := hg2.lt; have := hg2.fresh; omega) (k9.blk (by simp) hv2)
      obtain ⟨hg5, k5⟩ := hg2.push hB5 (by omega) k9 ho4 k4 hn4 hu5
      (repeat refine zn ?_)
      refine ⟨⟨by rw [List.length_append, prsC_snoc]; exact hg5, hu5.kept (by omega) hv4, fun h0 => by have := hm h0; rw [List.length_append]; simp; omega⟩, ?_⟩
      exact hkeep.kp (fun b hb => by have := hI.1 b hb; omega) k5 (fun hm => by
        rcases List.mem_cons.1 hm with q | q
        · have := hg2.lt; omega
        · have := hn5' _ q; omega) (fun hm => by
        rcases List.mem_cons.1 hm with q | q
        · have := hg2.lt; omega
        · have := hn5' _ q; omega) (fun b hb hm => by
        rcases List.mem_cons.1 hm with q | q
        · subst q; exact hn5 hb
        · have := hn5' _ q; have := hI.1 b hb; omega)
  · rintro D W hD ⟨hg, hv, hm⟩ hsh
    have e1 : gonP m l = l := by
      unfold gonP
      split
      · exact List.take_of_length_le (by have := hm (by assumption); omega)
      · rfl
    rw [e1]
    obtain ⟨ad, cap, hB5, ho5, hn5'⟩ := hg.hdr
    refine m_seq (m_of ?_)
    (repeat refine zg ?_)
    refine o_load rfl hB5 rfl rfl rfl rfl rfl ?_
    (repeat first|refine zo rfl rfl trivial ?_|refine zn ?_)
    refine m_ret ⟨hsh, fun w8 hu8 => ?_⟩
    have kw8 : Kp [] w w8 := hg.kp.since (hu8.kp [D] (.inl (by simp))) (by simp; omega)
    exact ⟨[.slice ad _ cap], ⟨⟨_, rfl⟩, trivial⟩, ad, cap, rfl, ho5.upd hu8 (fun hm => by have := hn5' _ hm; omega), kw8, fun b hb => by have := hn5' b hb; omega⟩
  · rintro D c pre post W hD hc hx' ⟨rfl, pre0, x, rfl, e2, hg⟩ hsh
    have e1 : gonP m l = pre0 := by
      unfold gonP
      rw [if_pos (by omega), hx', List.append_assoc, List.take_left' (by omega)]
    rw [e1]
    refine m_exit rfl ?_
    obtain ⟨ad, cap, hB5, ho5, hn5'⟩ := hg.hdr
    refine m_seq (m_of ?_)
    (repeat refine zg ?_)
    refine o_load rfl hB5 rfl rfl rfl rfl rfl ?_
    (repeat first|refine zo rfl rfl trivial ?_|refine zn ?_)
    refine m_ret ⟨hsh, fun w8 hu8 => ?_⟩
    have kw8 : Kp [] w w8 := hg.kp.since (hu8.kp [D] (.inl (by simp))) (by simp; omega)
    exact ⟨[.slice ad _ cap], ⟨⟨_, rfl⟩, trivial⟩, ad, cap, rfl, ho5.upd hu8 (fun hm => by have := hn5' _ hm; omega), kw8, fun b hb => by have := hn5' b hb; omega⟩
/-! ### Pair -/
noncomputable def pairV (E : List Ev) (R : List Int) (v : Int) : Option P3 := bestGo (fun x => decide (x.1 = v)) none (racesN E R E.length)
end
end Go.Vc
/- order: what a beginning of a list says; the races' variables: plain laws. -/
namespace Go.Vc
open Go Go.Proofs
theorem filterMap_eq {α β : Type} {f g : α → Option β} : ∀ {l : List α}, (∀ x ∈ l, f x = g x) → l.filterMap f = l.filterMap g
  | [], _ => rfl
  | x :: r, h => by
    have ih := filterMap_eq (l := r) (fun y hy => h y (by simp [hy]))
    rw [List.filterMap_cons, List.filterMap_cons, h x (by simp), ih]
theorem can_acc {s : Shp} {c : Ck} {x : Ev} (hc : canB s c x = true) (hk : x.k = 1 ∨ x.k = 2) : 0 ≤ x.o ∧ x.o < s.va := by
  unfold canB at hc
  by_cases h2 : (st c x.t).ph = 2
  · rw [if_pos h2] at hc
    rcases hk with hk | hk <;> rw [hk] at hc <;> simp at hc
  · rw [if_neg h2] at hc
    by_cases h1 : (st c x.t).ph ≠ 1
    · rw [if_pos h1] at hc; simp at hc
    · rw [if_neg h1] at hc
      by_cases h0 : x.o < 0
      · rw [if_pos h0] at hc; simp at hc
      · rw [if_neg h0] at hc
        rcases hk with hk | hk <;> rw [hk] at hc <;> simp at hc <;> omega
section
variable {E : List Ev} {R : List Int}
theorem racesJ_mem {j i : Nat} {x : P3} : x ∈ racesJ E R j i ↔ ∃ a, a < i ∧ raceI E R a j = true ∧ x = ((evA E j).o, a, j) := by
  unfold racesJ
  rw [List.mem_filterMap]
  constructor
  · rintro ⟨a, ha, h⟩
    split at h
    · rename_i hr
      exact ⟨a, by simpa using ha, hr, by simpa using h.symm⟩
    · cases h
  · rintro ⟨a, ha, hr, rfl⟩
    exact ⟨a, by simpa using ha, by rw [if_pos hr]⟩
theorem racesN_mem {n : Nat} {x : P3} : x ∈ racesN E R n ↔ ∃ j a, j < n ∧ a < j ∧ raceI E R a j = true ∧ x = ((evA E j).o, a, j) := by
  unfold racesN
  rw [List.mem_flatMap]
  constructor
  · rintro ⟨j, hj, h⟩
    obtain ⟨a, h1, h2, h3⟩ := racesJ_mem.1 h
    exact ⟨j, a, by simpa using hj, h1, h2, h3⟩
  · rintro ⟨j, a, hj, h1, h2, h3⟩
    exact ⟨j, by simpa using hj, racesJ_mem.2 ⟨a, h1, h2, h3⟩⟩
theorem raceI_acc {i j : Nat} (h : raceI E R i j = true) : accB (evA E i) = true ∧ accB (evA E j) = true := by
  unfold raceI at h
  simp only [Bool.and_eq_true] at h
  exact ⟨h.1.1, h.1.2.1⟩
end
theorem acc_k {x : Ev} (h : accB x = true) : x.k = 1 ∨ x.k = 2 := by
  unfold accB at h
  simpa using h
/-- the variables of races are among the shape's -/
theorem races_var {s : Shp} {l : List Ev} (hs : shapeB s = true) (ho : okTo s l l.length) : ∀ x ∈ racesN l (rnds s l l.length) l.length, 0 ≤ x.1 ∧ x.1 ≤ 1048576 := by
  intro x hx
  obtain ⟨j, a, hj, ha, hr, rfl⟩ := racesN_mem.1 hx
  have hv : s.va ≤ 4096 := ((shapeB_iff s).1 hs).2.1.2
  have hg : l[j]? = some (evA l j) := by unfold evA; rw [List.getElem?_eq_getElem hj]; rfl
  have := can_acc (ho j _ hj hg) (acc_k (raceI_acc hr).2)
  dsimp only; omega
section
variable {s : Shp} {l : List Ev} {n : Nat}
theorem runC_take {j : Nat} (hj : j ≤ n) : runC s (l.take n) j = runC s l j := by
  unfold runC
  rw [List.take_take, Nat.min_eq_left hj]
theorem okTo_take (ho : okTo s l l.length) : okTo s (l.take n) (l.take n).length := by
  intro j x hj hx
  rw [List.getElem?_take] at hx
  split at hx
  · rename_i hjn
    rw [runC_take (by omega)]
    exact ho j x (List.getElem?_eq_some_iff.1 hx).1 hx
  · cases hx
theorem evA_take {i : Nat} (hi : i < n) : evA (l.take n) i = evA l i := by
  unfold evA
  rw [List.getElem?_take, if_pos hi]
theorem roA_rnds {m i : Nat} (hi : i < m) : roA (rnds s l m) i = rnd (runC s l i) (evA l i) := by
  unfold roA rnds
  rw [List.getElem?_map, List.getElem?_range hi]; rfl
variable (hn : n ≤ l.length)
include hn
theorem take_len : (l.take n).length = n := by rw [List.length_take]; omega
theorem whyI_take {i j : Int} (hj : j < n) : whyI (l.take n) (rnds s (l.take n) (l.take n).length) i j = whyI l (rnds s l l.length) i j := by
  unfold whyI
  rw [take_len hn]
  by_cases h : 0 ≤ i ∧ i < j
  · rw [if_pos ⟨h.1, h.2, hj⟩, if_pos ⟨h.1, h.2, by omega⟩, evA_take (by omega), evA_take (by omega), roA_rnds (by omega), roA_rnds (by omega), roA_rnds (by omega), roA_rnds (by omega), runC_take (by omega), runC_take (by omega), evA_take (by omega), evA_take (by omega)]
  · rw [if_neg (by omega), if_neg (by omega)]
theorem lk_take {a b : Nat} (hb : b < n) : lk (l.take n) (rnds s (l.take n) (l.take n).length) a b ↔ lk l (rnds s l l.length) a b := by
  unfold lk
  rw [whyI_take hn (by omega)]
theorem ch_take {a b : Nat} (hb : b < n) : Ch (lk (l.take n) (rnds s (l.take n) (l.take n).length)) a b ↔ Ch (lk l (rnds s l l.length)) a b := by
  constructor
  · intro h
    refine h.mono fun i j hij => ?_
    have := (lk_lt hij).2
    rw [take_len hn] at this
    exact (lk_take hn this).1 hij
  · intro h
    induction h with
    | one h => exact .one ((lk_take hn hb).2 h)
    | more h g ih =>
      have := (ch_lt g).1
      exact .more ((lk_take hn (by omega)).2 h) (ih hb)
theorem befI_take {i j : Int} (hj : j < n) : befI (l.take n) (rnds s (l.take n) (l.take n).length) i j = befI l (rnds s l l.length) i j := by
  rw [Bool.eq_iff_iff, befI_iff, befI_iff]
  constructor
  · rintro ⟨h1, h2, h3⟩
    exact ⟨h1, h2, (ch_take hn (by omega)).1 h3⟩
  · rintro ⟨h1, h2, h3⟩
    exact ⟨h1, h2, (ch_take hn (by omega)).2 h3⟩
theorem raceI_take {i j : Nat} (hi : i < j) (hj : j < n) : raceI (l.take n) (rnds s (l.take n) (l.take n).length) i j = raceI l (rnds s l l.length) i j := by
  unfold raceI
  rw [evA_take (by omega), evA_take hj, befI_take hn (by omega)]
theorem racesJ_take {i j : Nat} (hi : i ≤ j) (hj : j < n) : racesJ (l.take n) (rnds s (l.take n) (l.take n).length) j i = racesJ l (rnds s l l.length) j i := by
  unfold racesJ
  refine filterMap_eq fun a ha => ?_
  have : a < i := by simpa using ha
  rw [raceI_take hn (by omega) hj, evA_take hj]
theorem racesN_take {m : Nat} (hm : m ≤ n) : racesN (l.take n) (rnds s (l.take n) (l.take n).length) m = racesN l (rnds s l l.length) m := by
  induction m with
  | zero => rfl
  | succ m ih => rw [racesN_succ, racesN_succ, ih (by omega), racesJ_take hn (Nat.le_refl _) (by omega)]
end
section
variable {E : List Ev} {R : List Int} {n : Nat}
/-- the races up to n, then those behind -/
theorem racesN_split {N : Nat} (hn : n ≤ N) : ∃ rest, racesN E R N = racesN E R n ++ rest ∧ (∀ x ∈ racesN E R n, x.2.2 < n) ∧ ∀ x ∈ rest, n ≤ x.2.2 := by
  refine ⟨((List.range N).drop n).flatMap fun j => racesJ E R j j, ?_, ?_, ?_⟩
  · unfold racesN
    rw [show List.range n = (List.range N).take n by rw [List.take_range, Nat.min_eq_left hn], ← List.flatMap_append, List.take_append_drop]
  · intro x hx
    obtain ⟨j, a, hj, _, _, rfl⟩ := racesN_mem.1 hx
    exact hj
  · intro x hx
    obtain ⟨j, hj, h⟩ := List.mem_flatMap.1 hx
    obtain ⟨a, _, _, rfl⟩ := racesJ_mem.1 h
    obtain ⟨i, hi⟩ := List.getElem?_of_mem hj
    rw [List.getElem?_drop] at hi
    have := List.getElem?_eq_some_iff.1 hi
    obtain ⟨_, h2⟩ := this
    simp at h2
    show n ≤ j
    omega
theorem races_filter {N : Nat} (hn : n ≤ N) : (racesN E R N).filter (fun x => decide ((x.2.2 : Int) < n)) = racesN E R n := by
  obtain ⟨rest, h1, h2, h3⟩ := racesN_split (E := E) (R := R) hn
  rw [h1, List.filter_append, List.filter_eq_self.2 (fun x hx => by have := h2 x hx; simpa using this), List.filter_eq_nil_iff.2 (fun x hx => by have := h3 x hx; simp; omega), List.append_nil]
end
end Go.Vc
/- order: Flags: which variables are raced upon. -/
namespace Go.Vc
open Go Go.Proofs
set_option maxRecDepth 10000
variable {w : World}
/-- a flag: its variable, where -/
abbrev F2 := Int × Int
abbrev flgC (x : F2) : List Value := [I x.1, I x.2]
def flgsC (l : List F2) : List Value := l.flatMap flgC
theorem flgsC_len (l : List F2) : (flgsC l).length = l.length * 2 := flC_len (f := flgC) (m := 2) (fun _ => rfl) l
theorem flgsC_snoc (l : List F2) (x : F2) : flgsC (l ++ [x]) = flgsC l ++ flgC x := by simp [flgsC]
theorem flgsC_get {l : List F2} {i : Nat} {x : F2} (hx : l[i]? = some x) {j : Nat} {v : Value} (hv : (flgC x)[j]? = some v) : (flgsC l)[i * 2 + j]? = some v := flC_get (f := flgC) (m := 2) (fun _ => rfl) hx hv
theorem Flags1_ret (x : F2) {b6 : Nat} {y : P3} (hb : Blk w b6 (pairC y) 53) : Ret Try.prog 66 [.agg ⟨flgC x⟩, ptr b6] w (fun r w' => r = .bool (decide (x.1 = y.1)) ∧ Kp [] w w') := by
  refine enter Try.call66 Try.func66 rfl rfl rfl rfl ?_
  (repeat first|refine zA ?_|refine zg ?_)
  refine o_box rfl rfl rfl ?_
  intro bx w1 hbx hu1
  have k1 : Kp [] w w1 := hu1.kp [] (.inr (by omega))
  have hB1 : Blk w1 bx (flgC x) 68 := hu1.blk
  (repeat first|refine zA ?_|refine zg ?_|refine zo rfl rfl trivial ?_|refine zn ?_)
  refine o_load (v := I x.1) rfl hB1 rfl rfl rfl rfl rfl ?_
  (repeat refine zo rfl rfl trivial ?_)
  refine o_load (v := I y.1) rfl (k1.blk (by simp) hb) rfl rfl rfl rfl rfl ?_
  (repeat first|refine zo rfl rfl trivial ?_|refine zn ?_|refine zr ?_)
  exact ⟨_, rfl, rfl, k1⟩
theorem IndexFlag_ret {b6 : Nat} {y : P3} (hb : Blk w b6 (pairC y) 53) {ad : Option Addr} {l : List F2} {cap : Nat} (hr : ReadS w ad (flgsC l)) (hl : l.length ≤ 4611686018427387904) :
    Ret Try.prog 89 [.slice ad l.length cap, .func (.func 66) #[] #[ptr b6]] w (fun v w' => ∃ r : Int, v = I r ∧ (0 ≤ r ↔ l.any (fun x => decide (x.1 = y.1)) = true) ∧ Kp [] w w') := by
  refine enter Try.call89 Try.func89 rfl rfl rfl rfl ?_
  (repeat first|refine zA ?_|refine zB ?_|refine zg ?_|refine zo rfl rfl trivial ?_|refine zn ?_|refine zb ?_)
  refine r_loop (α := Nat) [0, 1, 7, 8] (fun j => [.slice ad l.length cap, .func (.func 66) #[] #[ptr b6], I l.length, I j]) (fun j w1 => Kp [] w w1 ∧ j ≤ l.length ∧ (l.take j).any (fun x => decide (x.1 = y.1)) = false) (fun j => l.length - j) 0 rfl ⟨Kp.refl _ _, by omega, by simp⟩ ?_
  rintro j e w1 ⟨kk, hj, hany⟩
  (repeat first|refine zA ?_|refine zD ?_|refine zg ?_|refine zo rfl rfl trivial ?_|refine zn ?_)
  refine r_if rfl (fun hc => ?_) (fun hc => ?_)
  · have hlt : j < l.length := by omega
    obtain ⟨x, hx⟩ : ∃ x, l[j]? = some x := ⟨_, List.getElem?_eq_getElem hlt⟩
    obtain ⟨b, off, rfl, _, hcell⟩ := (hr.kp kk (by simp)).at_ (by rw [flgsC_len]; omega)
    (repeat first|refine zA ?_|refine zC ?_|refine zg ?_|refine zo rfl rfl (by first|exact trivial|(simp only[AllP];omega)) ?_|refine zn ?_|refine zb ?_|refine zk ?_)
    refine o_loadA (b := b) (off := off + j * 2) (vs := flgC x) rfl (fun i v hv => by rw [Nat.add_assoc]; exact hcell _ _ (flgsC_get hx hv)) rfl rfl rfl rfl rfl rfl ?_
    refine o_callv (first := #[]) (cap := #[ptr b6]) (Flags1_ret x (kk.blk (by simp) hb)) rfl rfl rfl rfl ?_
    rintro v w2 ⟨rfl, k2⟩
    (repeat refine zn ?_)
    by_cases hp : x.1 = y.1
    · rw [decide_eq_true hp]
      (repeat first|refine zA ?_|refine zg ?_|refine zo rfl rfl trivial ?_|refine zn ?_|refine zr ?_|refine zt rfl ?_)
      exact ⟨_, rfl, j, rfl, ⟨fun _ => List.any_eq_true.2 ⟨x, List.mem_of_getElem? hx, decide_eq_true hp⟩, fun _ => by omega⟩, kk.trans k2⟩
    · rw [decide_eq_false hp]
      (repeat first|refine zg ?_|refine zo rfl rfl (by first|exact trivial|(simp only[AllP];omega)) ?_|refine zn ?_|refine zk ?_|refine zf rfl ?_)
      refine ⟨j + 1, rfl, ⟨kk.trans k2, by omega, ?_⟩, by omega⟩
      rw [List.take_add_one, hx, List.any_append, hany]
      simp [hp]
  · (repeat first|refine zA ?_|refine zg ?_|refine zo rfl rfl trivial ?_|refine zn ?_|refine ze rfl ?_|refine zr ?_)
    have : j = l.length := by omega
    subst this
    rw [List.take_length] at hany
    exact ⟨_, rfl, -1, rfl, ⟨fun h => by omega, fun h => by rw [hany] at h; cases h⟩, kk⟩
theorem ContainsFlag_ret {b6 : Nat} {y : P3} (hb : Blk w b6 (pairC y) 53) {ad : Option Addr} {l : List F2} {cap : Nat} (hr : ReadS w ad (flgsC l)) (hl : l.length ≤ 4611686018427387904) :
    Ret Try.prog 65 [.slice ad l.length cap, .func (.func 66) #[] #[ptr b6]] w (fun v w' => v = .bool (l.any (fun x => decide (x.1 = y.1))) ∧ Kp [] w w') := by
  refine enter Try.call65 Try.func65 rfl rfl rfl rfl ?_
  (repeat first|refine zA ?_|refine zg ?_|refine zo rfl rfl trivial ?_|refine zn ?_)
  refine o_call (IndexFlag_ret hb hr hl) rfl rfl rfl ?_
  rintro v w1 ⟨r, rfl, hq, kk⟩
  (repeat first|refine zo rfl rfl trivial ?_|refine zn ?_|refine zr ?_)
  refine ⟨_, rfl, ?_, kk⟩
  congr 1
  cases ha : l.any (fun x => decide (x.1 = y.1)) with
  | true => have := hq.2 ha; simpa using this
  | false =>
    have : ¬ 0 ≤ r := fun h0 => by have := hq.1 h0; rw [ha] at this; cases this
    simp; omega
end Go.Vc
