/- order: an order or none; both answers as one. -/
import Derived.Test.YtkgjibhbhddckaaQClTells31
import Derived.Test.YtkgjibhbhddckaaQClTells34
import Derived.Test.YtkgjibhbhddckaaQClTells15
namespace Go.Vc
open Go Go.Proofs
set_option maxRecDepth 10000
variable {w : World}
def OaV (w : World) (v : Value) (E : List Ev) (R : List Int) : Prop := (v = .pointer none ∧ E = [] ∧ R = []) ∨ ∃ g, v = ptr g.p ∧ OrAt w g E R
def RaV (w : World) (v : Value) (E : List Ev) (R : List Int) : Prop := (v = .pointer none ∧ E = [] ∧ R = []) ∨ ∃ g, v = ptr g.p ∧ RrAt w g E R
theorem OaV.kp0 {w' : World} {v : Value} {E : List Ev} {R : List Int} (h : OaV w v E R) (hk : Kp [] w w') : OaV w' v E R := by
  rcases h with h | ⟨g, h1, h2⟩
  · exact .inl h
  · exact .inr ⟨g, h1, h2.kp0 hk⟩
theorem RaV.kp0 {w' : World} {v : Value} {E : List Ev} {R : List Int} (h : RaV w v E R) (hk : Kp [] w w') : RaV w' v E R := by
  rcases h with h | ⟨g, h1, h2⟩
  · exact .inl h
  · exact .inr ⟨g, h1, h2.kp0 hk⟩
def ChainV (E : List Ev) (R : List Int) (i j : Int) (l : List Nat) : Prop := (befI E R i j = false ∧ l = []) ∨ (befI E R i j = true ∧ ChainR (lk E R) j.toNat i.toNat l)
theorem ChainV.uniq {E : List Ev} {R : List Int} {i j : Int} {l l' : List Nat} (h : ChainV E R i j l) (g : ChainV E R i j l') : l = l' := by
  rcases h with ⟨h1, rfl⟩ | ⟨h1, h2⟩
  · rcases g with ⟨_, rfl⟩ | ⟨g1, _⟩
    · rfl
    · rw [h1] at g1; cases g1
  · rcases g with ⟨g1, _⟩ | ⟨_, g2⟩
    · rw [h1] at g1; cases g1
    · exact h2.uniq g2
section
variable {v0 : Value} {E : List Ev} {R : List Int}
end
end Go.Vc
/- order: Races, gone, Pair. -/
namespace Go.Vc
open Go Go.Proofs
set_option maxRecDepth 10000
variable {w : World}
def prsC (l : List P3) : List Value := l.flatMap pairC
theorem prsC_len (l : List P3) : (prsC l).length = l.length * 3 := flC_len (f := pairC) (m := 3) (fun _ => rfl) l
theorem prsC_snoc (l : List P3) (x : P3) : prsC (l ++ [x]) = prsC l ++ pairC x := by simp [prsC]
/-- a list in the making, kept in a box; its blocks lie behind B0 -/
structure AccI (w W : World) (B0 b5 : Nat) (ST T : TypeId) (sz : Nat) (n : Nat) (xs : List Value) : Prop where
  hdr : ∃ ad cap, Blk W b5 [.slice ad n cap] ST ∧ OwnS W T sz ad n cap xs ∧ ∀ b, b ∈ blkOf ad → B0 ≤ b
  fresh : w.heap.size ≤ b5
  lt : b5 < B0
  kp : Kp [] w W
section
variable {W W' : World} {B0 b5 n sz : Nat} {ST T : TypeId} {xs : List Value}
theorem AccI.nc {B : Nat} (h : AccI w W B0 b5 ST T sz n xs) (hn : Nc B W W') (hB : w.heap.size ≤ B) : AccI w W' B0 b5 ST T sz n xs := by
  obtain ⟨ad, cap, h1, h2, h3⟩ := h.hdr
  exact ⟨⟨ad, cap, hn.blk h1, hn.own h2, h3⟩, h.fresh, h.lt, hn.kp h.kp hB⟩
theorem AccI.kp0 (h : AccI w W B0 b5 ST T sz n xs) (hk : Kp [] W W') : AccI w W' B0 b5 ST T sz n xs := by
  obtain ⟨ad, cap, h1, h2, h3⟩ := h.hdr
  exact ⟨⟨ad, cap, hk.blk (by simp) h1, h2.kp hk (by simp), h3⟩, h.fresh, h.lt, h.kp.trans hk⟩
/-- one more: behind the append and the store -/
theorem AccI.push {W1 W2 W3 : World} {ad ad' : Option Addr} {cap cap' m : Nat} {ys : List Value} (h : AccI w W B0 b5 ST T sz n xs) (hB : Blk W b5 [.slice ad n cap] ST) (hB0 : B0 ≤ W.heap.size) (k1 : Kp [] W W1) (ho : OwnS W2 T sz ad' m cap' ys) (k2 : Kp (blkOf ad) W1 W2) (hn : ∀ b, b ∈ blkOf ad' → b ∈ blkOf ad ∨ W1.heap.size ≤ b)
    (hu : Upd W2 b5 (.cells ⟨[.slice ad' m cap']⟩ ST (0, 0)) W3) : AccI w W3 B0 b5 ST T sz m ys ∧ Kp (b5 :: blkOf ad) W W3 := by
  obtain ⟨ad0, cap0, h1, h2, h3⟩ := h.hdr
  have e1 : Value.slice ad n cap = Value.slice ad0 n cap0 := by
    have := h1.symm.trans hB
    simp at this
    simp [this.1, this.2]
  simp only [Value.slice.injEq] at e1
  obtain ⟨rfl, -, rfl⟩ := e1
  have hlt := h.lt
  have s1 := k1.size
  have hn' : ∀ b, b ∈ blkOf ad' → B0 ≤ b := fun b hb => by
    rcases hn b hb with q | q
    · exact h3 b q
    · omega
  have kk : Kp (b5 :: blkOf ad) W W3 := ((k1.mono (by simp)).trans (k2.mono (fun b hb => by simp [hb]))).trans (hu.kp _ (.inl (by simp)))
  refine ⟨⟨⟨ad', cap', hu.blk, ho.upd hu (fun hm => by have := hn' _ hm; omega), hn'⟩, h.fresh, h.lt, ?_⟩, kk⟩
  exact h.kp.since kk (fun b hb => by
    rcases List.mem_cons.1 hb with rfl | hb
    · exact h.fresh
    · have := h3 b hb; have := h.fresh; omega)
end
/-- the races on a variable -/
def onV (v : Int) (l : List P3) : List P3 := l.filter fun x => decide (x.1 = v)
theorem onV_snoc (v : Int) (l : List P3) (x : P3) : onV v (l ++ [x]) = onV v l ++ (if x.1 = v then [x] else []) := by
  unfold onV
  rw [List.filter_append]
  congr 1
  by_cases h : x.1 = v <;> simp [h]
theorem onV_le (v : Int) (l : List P3) : (onV v l).length ≤ l.length := List.length_filter_le _ _
theorem racesJ_le (E : List Ev) (R : List Int) (j i : Nat) : (racesJ E R j i).length ≤ i := by
  unfold racesJ
  exact Nat.le_trans (List.length_filterMap_le _ _) (by simp)
theorem racesN_le (E : List Ev) (R : List Int) : ∀ n, (racesN E R n).length ≤ n * n
  | 0 => by simp [racesN]
  | n + 1 => by
    rw [racesN_succ, List.length_append]
    have h1 := racesN_le E R n
    have h2 := racesJ_le E R n n
    have : (n + 1) * (n + 1) = n * n + 2 * n + 1 := by rw [Nat.add_mul, Nat.mul_add]; omega
    omega
theorem racesN_small {E : List Ev} (R : List Int) (h : E.length ≤ 2048) : (racesN E R E.length).length ≤ 4194304 := by
  have := racesN_le E R E.length
  have h2 : E.length * E.length ≤ 2048 * 2048 := Nat.mul_le_mul h h
  omega
section
variable {p : Option Addr} {F : List Nat} {E : List Ev} {R : List Int}
set_option maxHeartbeats 6400000 in
theorem xRaces_ret (h : OX w p F E R) (v : Int) : Ret Try.prog 43 [.pointer p, I v] w (fun r w' => ∃ ad cap, r = .slice ad (onV v (racesN E R E.length)).length cap ∧ OwnS w' 53 3 ad (onV v (racesN E R E.length)).length cap (prsC (onV v (racesN E R E.length))) ∧ Kp [] w w' ∧ ∀ b, b ∈ blkOf ad → w.heap.size ≤ b) := by
  have hw := h.lt
  have hsm := racesN_small R h.small
  refine enterMC Try.call43 Try.func43 rfl rfl rfl rfl ?_
  refine m_seq (m_of ?_)
  (repeat refine zg ?_)
  refine o_box rfl rfl rfl ?_
  intro b3 w1 hb3 hu1
  (repeat first|refine zo rfl rfl trivial ?_|refine zn ?_)
  refine m_seq (m_of ?_)
  (repeat refine zg ?_)
  refine o_alloc rfl rfl rfl rfl ?_
  intro b5 w2 hb5 hu2
  have z1 := hu1.lt
  have z2 := hu2.lt
  have k1 := hu1.kp [] (.inr (by omega))
  have k2 := hu2.kp [] (.inr (by omega))
  have s1 := k1.size
  have s2 := k2.size
  have hV2 : Blk w2 b3 [I v] 3 := k2.blk (by simp) hu1.blk
  have k02 := k1.trans k2
  (repeat refine zn ?_)
  refine m_seq (m_seq (m_of ?_))
  (repeat first|refine zg ?_|refine zo rfl rfl trivial ?_)
  refine o_call (xAll_ret (h.kp0 k02)) rfl rfl rfl ?_
  rintro q w6 ⟨bx, hseq, k6, hbx⟩
  obtain ⟨fi, lb, rfl, hI⟩ := hseq.is
  have s6 := k6.size
  have g6 : AccI w w6 (w6.heap.size + 2) b5 47 53 3 0 (prsC []) := ⟨⟨none, 0, k6.blk (by simp) hu2.blk, ownS_nil _ _ _, by simp [blkOf]⟩, by omega, by omega, k02.trans k6⟩
  have hV6 := k6.blk (by simp) hV2
  have hn5 : b5 ∉ bx :: F := fun hm => by
    rcases List.mem_cons.1 hm with q | hm
    · omega
    · have := hw b5 hm; omega
  (repeat refine zn ?_)
  refine m_block ?_
  refine m_range2 hI [] (fun pre W => AccI w W (w6.heap.size + 2) b5 47 53 3 (onV v pre).length (prsC (onV v pre)) ∧ Blk W b3 [I v] 3)
    (fun c pre W => False) rfl rfl (fun _ => rfl) ?_ ?_ ?_ ?_ ?_ ?_
  · rintro pre W1 W2 ⟨hg, hv⟩ hnc
    exact ⟨hg.nc hnc (by omega), hnc.blk hv⟩
  · rintro c pre W1 W2 hf hnc
    exact hf
  · exact ⟨g6, hV6⟩
  · rintro D l r pre x post W hx' hD hl ⟨hg, hv⟩
    (repeat refine zg ?_)
    refine o_alloc rfl rfl rfl rfl ?_
    intro b8 W1 hb8 hu8
    refine o_storeA (cs := pairC x) rfl hu8.blk (Nat.le_refl _) rfl (by simp [Value.oneCell']) rfl rfl rfl rfl ?_
    intro W1' hu8'
    have k8 : Kp [] W W1' := (hu8.kp [] (.inr (by omega))).since (hu8'.kp [b8] (.inl (by simp))) (by simp; omega)
    have hB8' : Blk W1' b8 (pairC x) 53 := hu8'.blk
    (repeat refine zn ?_)
    refine ⟨k8, ?_⟩
    intro W2 hnc hkeep
    have hB8 := hnc.blk hB8'
    have hg2 := (hg.kp0 k8).nc hnc (show w.heap.size ≤ w6.heap.size by omega)
    have hv2 := hnc.blk (k8.blk (by simp) hv)
    have hlW : l < W2.heap.size := (Array.getElem?_eq_some_iff.1 hkeep.loop).1
    have hle : (onV v pre).length ≤ 4194304 := by
      have h1 := onV_le v pre
      have h2 : pre.length ≤ (racesN E R E.length).length := by rw [hx']; simp
      omega
    have hsn := onV_snoc v pre x
    (repeat first|refine zA ?_|refine zg ?_|refine zo rfl rfl trivial ?_|refine zb ?_)
    refine o_load (v := I x.1) rfl hB8 rfl rfl rfl rfl rfl ?_
    refine o_load rfl hv2 rfl rfl rfl rfl rfl ?_
    (repeat first|refine zo rfl rfl trivial ?_|refine zn ?_)
    refine r_if (p := x.1 = v) rfl (fun hc => ?_) (fun hc => ?_)
    · rw [if_pos hc] at hsn
      obtain ⟨ad, cap, hB5, ho5, hn5'⟩ := hg2.hdr
      (repeat refine zg ?_)
      refine o_load rfl hB5 rfl rfl rfl rfl rfl ?_
      refine o_loadA (vs := pairC x) rfl (fun j v hv => by rw [Nat.zero_add]; exact hB8.cell hv) rfl rfl rfl rfl rfl rfl ?_
      refine o_buildSliceN (pairC x) rfl rfl rfl (by kernel_rfl) rfl rfl rfl rfl ?_
      intro b9 W3 hb9 hu9
      have k9 : Kp [] W2 W3 := hu9.kp [] (.inr (by omega))
      refine o_append (pairC x) rfl rfl (ho5.kp k9 (by simp)) (fun j v hv => by rw [addr_lit, Nat.zero_add]; exact hu9.blk.cell hv) rfl rfl rfl (by omega) rfl (by omega) (by simp [Value.oneCell']) (by simp only [maxLen]; omega) (by omega) rfl rfl ?_
      intro ad' cap' W4 ho4 k4 hn4
      have hB5' : Blk W4 b5 [.slice ad (onV v pre).length cap] 47 := k4.blk (fun hb => by have := hn5' _ hb; have := hg2.lt; omega) (k9.blk (by simp) hB5)
      refine o_store rfl hB5' (by simp) rfl rfl rfl rfl rfl rfl ?_
      intro W5 hu5
      have hv4 := k4.blk (fun hb => by have := hn5' _ hb; have := hg2.lt; have := hg2.fresh; omega) (k9.blk (by simp) hv2)
      obtain ⟨hg5, k5⟩ := hg2.push hB5 (by omega) k9 ho4 k4 hn4 hu5
      (repeat refine zn ?_)
      refine ⟨⟨by rw [hsn, List.length_append, prsC_snoc]; exact hg5, hu5.kept (by omega) hv4⟩, ?_⟩
      exact hkeep.kp (fun b hb => by have := hI.1 b hb; omega) k5 (fun hm => by
        rcases List.mem_cons.1 hm with q | q
        · have := hg2.lt; omega
        · have := hn5' _ q; omega) (fun hm => by
        rcases List.mem_cons.1 hm with q | q
        · have := hg2.lt; omega
        · have := hn5' _ q; omega) (fun b hb hm => by
        rcases List.mem_cons.1 hm with q | q
        · subst q; exact hn5 hb
        · have := hn5' _ q; have := hI.1 b hb; omega)
    · rw [if_neg hc, List.append_nil] at hsn
      (repeat refine zk ?_)
      exact ⟨⟨by rw [hsn]; exact hg2, hv2⟩, hkeep⟩
  · rintro D W hD ⟨hg, hv⟩ hsh
    obtain ⟨ad, cap, hB5, ho5, hn5'⟩ := hg.hdr
    refine m_seq (m_of ?_)
    (repeat refine zg ?_)
    refine o_load rfl hB5 rfl rfl rfl rfl rfl ?_
    (repeat first|refine zo rfl rfl trivial ?_|refine zn ?_)
    refine m_ret ⟨hsh, fun w8 hu8 => ?_⟩
    have kw8 : Kp [] w w8 := hg.kp.since (hu8.kp [D] (.inl (by simp))) (by simp; omega)
    exact ⟨[.slice ad _ cap], ⟨⟨_, rfl⟩, trivial⟩, ad, cap, rfl, ho5.upd hu8 (fun hm => by have := hn5' _ hm; omega), kw8, fun b hb => by have := hn5' b hb; omega⟩
  · rintro D c pre post W hD hc hx' hf hsh
    exact hf.elim
/-- what gone keeps -/
def gonP (m : Int) (l : List P3) : List P3 := if 0 ≤ m then l.take m.toNat else l
set_option maxHeartbeats 6400000 in
theorem gone20_ret {q : Value} {Fp : List Nat} {l : List P3} (hs : Seq3 w q Fp l) (hl : l.length ≤ 4194304) (m : Int) : Ret Try.prog 23 [q, I m] w (fun r w' => ∃ ad cap, r = .slice ad (gonP m l).length cap ∧ OwnS w' 53 3 ad (gonP m l).length cap (prsC (gonP m l)) ∧ Kp [] w w' ∧ ∀ b, b ∈ blkOf ad → w.heap.size ≤ b) := by
  obtain ⟨fi, lb, rfl, hI0⟩ := hs.is
  have hFl := hI0.1
  refine enterMC Try.call23 Try.func23 rfl rfl rfl rfl ?_
  refine m_seq (m_of ?_)
  (repeat refine zg ?_)
  refine o_box rfl rfl rfl ?_
  intro b3 w1 hb3 hu1
  (repeat first|refine zo rfl rfl trivial ?_|refine zn ?_)
  refine m_seq (m_of ?_)
  (repeat refine zg ?_)
  refine o_alloc rfl rfl rfl rfl ?_
  intro b5 w2 hb5 hu2
  have z1 := hu1.lt
  have z2 := hu2.lt
  have k1 := hu1.kp [] (.inr (by omega))
  have k2 := hu2.kp [] (.inr (by omega))
  have s1 := k1.size
  have s2 := k2.size
  have hV2 : Blk w2 b3 [I m] 3 := k2.blk (by simp) hu1.blk
  have k02 := k1.trans k2
  have hI := hI0.kp (w1 := w2) k02.size (fun b hb => k02.at_ b (hFl b hb) (by simp))
  have g2 : AccI w w2 (w2.heap.size + 2) b5 47 53 3 0 (prsC []) := ⟨⟨none, 0, hu2.blk, ownS_nil _ _ _, by simp [blkOf]⟩, by omega, by omega, k02⟩
  have hn5 : b5 ∉ Fp := fun hm => by have := hFl b5 hm; omega
  (repeat refine zn ?_)
  refine m_seq (m_of ?_)
  (repeat first|refine zA ?_|refine zg ?_|refine zo rfl rfl trivial ?_|refine zn ?_|refine zk ?_|refine zf rfl ?_)
  refine m_seq (m_seq (m_of ?_))
  (repeat first|refine zg ?_|refine zo rfl rfl trivial ?_|refine zn ?_)
  refine m_block ?_
  refine m_range2 hI [0] (fun pre W => AccI w W (w2.heap.size + 2) b5 47 53 3 pre.length (prsC pre) ∧ Blk W b3 [I m] 3 ∧ (0 ≤ m → (pre.length : Int) ≤ m))
    (fun c pre W => c = .exit 0 ∧ ∃ pre0 x, pre = pre0 ++ [x] ∧ (pre0.length : Int) = m ∧ AccI w W (w2.heap.size + 2) b5 47 53 3 pre0.length (prsC pre0)) rfl rfl (fun _ => rfl) ?_ ?_ ?_ ?_ ?_ ?_
  · rintro pre W1 W2 ⟨hg, hv, hm⟩ hnc
    exact ⟨hg.nc hnc (by omega), hnc.blk hv, hm⟩
  · rintro c pre W1 W2 ⟨hc, pre0, x, e1, e2, hg⟩ hnc
    exact ⟨hc, pre0, x, e1, e2, hg.nc hnc (by omega)⟩
  · exact ⟨g2, hV2, fun h => by simpa using h⟩
  · rintro D l' r pre x post W hx' hD hl' ⟨hg, hv, hm⟩
    (repeat refine zg ?_)
    refine o_alloc rfl rfl rfl rfl ?_
    intro b8 W1 hb8 hu8
    refine o_storeA (cs := pairC x) rfl hu8.blk (Nat.le_refl _) rfl (by simp [Value.oneCell']) rfl rfl rfl rfl ?_
    intro W1' hu8'
    have k8 : Kp [] W W1' := (hu8.kp [] (.inr (by omega))).since (hu8'.kp [b8] (.inl (by simp))) (by simp; omega)
    have hB8' : Blk W1' b8 (pairC x) 53 := hu8'.blk
    (repeat refine zn ?_)
    refine ⟨k8, ?_⟩
    intro W2 hnc hkeep
    have hB8 := hnc.blk hB8'
    have hg2 := (hg.kp0 k8).nc hnc (show w.heap.size ≤ w2.heap.size by omega)
    have hv2 := hnc.blk (k8.blk (by simp) hv)
    have hlW : l' < W2.heap.size := (Array.getElem?_eq_some_iff.1 hkeep.loop).1
    have hle : pre.length ≤ 4194304 := by
      have h2 : pre.length ≤ l.length := by rw [hx']; simp
      omega
    obtain ⟨ad, cap, hB5, ho5, hn5'⟩ := hg2.hdr
    (repeat first|refine zA ?_|refine zB ?_|refine zg ?_|refine zb ?_)
    refine o_load rfl hB5 rfl rfl rfl rfl rfl ?_
    (repeat refine zo rfl rfl trivial ?_)
    refine o_load rfl hv2 rfl rfl rfl rfl rfl ?_
    (repeat first|refine zo rfl rfl trivial ?_|refine zn ?_)
    refine r_if rfl (fun hc => ?_) (fun hc => ?_)
    · (repeat refine ze rfl ?_)
      exact ⟨⟨rfl, pre, x, rfl, hc, hg2⟩, hkeep⟩
    · (repeat first|refine zg ?_|refine zk ?_)
      refine o_load rfl hB5 rfl rfl rfl rfl rfl ?_
      refine o_loadA (vs := pairC x) rfl (fun j v hv => by rw [Nat.zero_add]; exact hB8.cell hv) rfl rfl rfl rfl rfl rfl ?_
      refine o_buildSliceN (pairC x) rfl rfl rfl (by kernel_rfl) rfl rfl rfl rfl ?_
      intro b9 W3 hb9 hu9
      have k9 : Kp [] W2 W3 := hu9.kp [] (.inr (by omega))
      refine o_append (pairC x) rfl rfl (ho5.kp k9 (by simp)) (fun j v hv => by rw [addr_lit, Nat.zero_add]; exact hu9.blk.cell hv) rfl rfl rfl (by omega) rfl (by omega) (by simp [Value.oneCell']) (by simp only [maxLen]; omega) (by omega) rfl rfl ?_
      intro ad' cap' W4 ho4 k4 hn4
      have hB5' : Blk W4 b5 [.slice ad pre.length cap] 47 := k4.blk (fun hb => by have := hn5' _ hb; have := hg2.lt; omega) (k9.blk (by simp) hB5)
      refine o_store rfl hB5' (by simp) rfl rfl rfl rfl rfl rfl ?_
      intro W5 hu5
      have hv4 := k4.blk (fun hb => by have := hn5' _ hb; have := hg2.lt; have := hg2.fresh; omega) (k9.blk (by simp) hv2)
      obtain ⟨hg5, k5⟩ := hg2.push hB5 (by omega) k9 ho4 k4 hn4 hu5
      (repeat refine zn ?_)
      refine ⟨⟨by rw [List.length_append, prsC_snoc]; exact hg5, hu5.kept (by omega) hv4, fun h0 => by have := hm h0; rw [List.length_append]; simp; omega⟩, ?_⟩
      exact hkeep.kp (fun b hb => by have := hI.1 b hb; omega) k5 (fun hm => by
        rcases List.mem_cons.1 hm with q | q
        · have := hg2.lt; omega
        · have := hn5' _ q; omega) (fun hm => by
        rcases List.mem_cons.1 hm with q | q
        · have := hg2.lt; omega
        · have := hn5' _ q; omega) (fun b hb hm => by
        rcases List.mem_cons.1 hm with q | q
        · subst q; exact hn5 hb
        · have := hn5' _ q; have := hI.1 b hb; omega)
  · rintro D W hD ⟨hg, hv, hm⟩ hsh
    have e1 : gonP m l = l := by
      unfold gonP
      split
      · exact List.take_of_length_le (by have := hm (by assumption); omega)
      · rfl
    rw [e1]
    obtain ⟨ad, cap, hB5, ho5, hn5'⟩ := hg.hdr
    refine m_seq (m_of ?_)
    (repeat refine zg ?_)
    refine o_load rfl hB5 rfl rfl rfl rfl rfl ?_
    (repeat first|refine zo rfl rfl trivial ?_|refine zn ?_)
    refine m_ret ⟨hsh, fun w8 hu8 => ?_⟩
    have kw8 : Kp [] w w8 := hg.kp.since (hu8.kp [D] (.inl (by simp))) (by simp; omega)
    exact ⟨[.slice ad _ cap], ⟨⟨_, rfl⟩, trivial⟩, ad, cap, rfl, ho5.upd hu8 (fun hm => by have := hn5' _ hm; omega), kw8, fun b hb => by have := hn5' b hb; omega⟩
  · rintro D c pre post W hD hc hx' ⟨rfl, pre0, x, rfl, e2, hg⟩ hsh
    have e1 : gonP m l = pre0 := by
      unfold gonP
      rw [if_pos (by omega), hx', List.append_assoc, List.take_left' (by omega)]
    rw [e1]
    refine m_exit rfl ?_
    obtain ⟨ad, cap, hB5, ho5, hn5'⟩ := hg.hdr
    refine m_seq (m_of ?_)
    (repeat refine zg ?_)
    refine o_load rfl hB5 rfl rfl rfl rfl rfl ?_
    (repeat first|refine zo rfl rfl trivial ?_|refine zn ?_)
    refine m_ret ⟨hsh, fun w8 hu8 => ?_⟩
    have kw8 : Kp [] w w8 := hg.kp.since (hu8.kp [D] (.inl (by simp))) (by simp; omega)
    exact ⟨[.slice ad _ cap], ⟨⟨_, rfl⟩, trivial⟩, ad, cap, rfl, ho5.upd hu8 (fun hm => by have := hn5' _ hm; omega), kw8, fun b hb => by have := hn5' b hb; omega⟩
/-! ### Pair -/
theorem Pair1_ret (x : P3) {b : Nat} {v : Int} (hb : Blk w b [I v] 3) : Ret Try.prog 74 [.agg ⟨pairC x⟩, ptr b] w (fun r w' => r = .bool (decide (x.1 = v)) ∧ Kp [] w w') := by
  refine enter Try.call74 Try.func74 rfl rfl rfl rfl ?_
  (repeat first|refine zA ?_|refine zg ?_)
  refine o_box rfl rfl rfl ?_
  intro bx w1 hbx hu1
  have k1 : Kp [] w w1 := hu1.kp [] (.inr (by omega))
  have hB1 : Blk w1 bx (pairC x) 53 := hu1.blk
  (repeat first|refine zA ?_|refine zg ?_|refine zo rfl rfl trivial ?_|refine zn ?_)
  refine o_load (v := I x.1) rfl hB1 rfl rfl rfl rfl rfl ?_
  refine o_load rfl (k1.blk (by simp) hb) rfl rfl rfl rfl rfl ?_
  (repeat first|refine zo rfl rfl trivial ?_|refine zn ?_|refine zr ?_)
  exact ⟨_, rfl, rfl, k1⟩
noncomputable def pairV (E : List Ev) (R : List Int) (v : Int) : Option P3 := bestGo (fun x => decide (x.1 = v)) none (racesN E R E.length)
theorem xPair_ret (h : OX w p F E R) (v : Int) : Ret Try.prog 31 [.pointer p, I v] w (fun r w' => r = .tuple #[.agg ⟨pairC ((pairV E R v).getD (0, 0, 0))⟩, .bool (pairV E R v).isSome] ∧ Kp [] w w') := by
  refine enterC Try.call31 Try.func31 rfl rfl rfl rfl ?_
  (repeat first|refine zA ?_|refine zg ?_)
  refine o_box rfl rfl rfl ?_
  intro b3 w0 hb3 hu0
  have k0 : Kp [] w w0 := hu0.kp [] (.inr (by omega))
  have z0 := hu0.lt
  refine o_alloc rfl rfl rfl rfl ?_
  intro bs w1 hbs hu1
  have k1 : Kp [] w0 w1 := hu1.kp [] (.inr (by omega))
  have k01 := k0.trans k1
  have hv1 : Blk w1 b3 [I v] 3 := k1.blk (by simp) hu0.blk
  have s1 := k0.size
  have h1 := h.kp0 k01
  (repeat first|refine zA ?_|refine zg ?_|refine zo rfl rfl trivial ?_|refine zn ?_)
  refine o_call (obest_ret (f := 74) (caps := [ptr b3]) (wb := fun x => decide (x.1 = v)) (Fw := [b3]) h1 (by simp; exact hv1.lt) (fun W x hW => Pair1_ret x (by unfold Blk; rw [hW b3 (by simp)]; exact hv1))) rfl rfl rfl ?_
  rintro q w2 ⟨rfl, k2⟩
  have hB2 := k2.blk (by simp) hu1.blk
  (repeat refine zo rfl rfl trivial ?_)
  refine o_storeA (cs := pairC ((pairV E R v).getD (0, 0, 0))) rfl hB2 (Nat.le_refl _) rfl (by simp [Value.oneCell']) rfl rfl rfl rfl ?_
  intro w3 hu3
  have k3 : Kp [] w w3 := (k01.trans k2).since (hu3.kp [bs] (.inl (by simp))) (by simp; omega)
  have hB3 : Blk w3 bs (pairC ((pairV E R v).getD (0, 0, 0))) 53 := hu3.blk
  (repeat first|refine zo rfl rfl trivial ?_|refine zn ?_|refine zr ?_)
  exact ⟨[.agg ⟨pairC ((pairV E R v).getD (0, 0, 0))⟩, .bool (pairV E R v).isSome], ⟨⟨_, rfl, run_loadB hB3 rfl rfl rfl rfl⟩, ⟨_, rfl⟩, trivial⟩, rfl, k3⟩
end
end Go.Vc
/- order: what a beginning of a list says; the races' variables: plain laws. -/
namespace Go.Vc
open Go Go.Proofs
theorem can_acc {s : Shp} {c : Ck} {x : Ev} (hc : canB s c x = true) (hk : x.k = 1 ∨ x.k = 2) : 0 ≤ x.o ∧ x.o < s.va := by
  unfold canB at hc
  by_cases h2 : (st c x.t).ph = 2
  · rw [if_pos h2] at hc
    rcases hk with hk | hk <;> rw [hk] at hc <;> simp at hc
  · rw [if_neg h2] at hc
    by_cases h1 : (st c x.t).ph ≠ 1
    · rw [if_pos h1] at hc; simp at hc
    · rw [if_neg h1] at hc
      by_cases h0 : x.o < 0
      · rw [if_pos h0] at hc; simp at hc
      · rw [if_neg h0] at hc
        rcases hk with hk | hk <;> rw [hk] at hc <;> simp at hc <;> omega
section
variable {E : List Ev} {R : List Int}
theorem racesJ_mem {j i : Nat} {x : P3} : x ∈ racesJ E R j i ↔ ∃ a, a < i ∧ raceI E R a j = true ∧ x = ((evA E j).o, a, j) := by
  unfold racesJ
  rw [List.mem_filterMap]
  constructor
  · rintro ⟨a, ha, h⟩
    split at h
    · rename_i hr
      exact ⟨a, by simpa using ha, hr, by simpa using h.symm⟩
    · cases h
  · rintro ⟨a, ha, hr, rfl⟩
    exact ⟨a, by simpa using ha, by rw [if_pos hr]⟩
theorem racesN_mem {n : Nat} {x : P3} : x ∈ racesN E R n ↔ ∃ j a, j < n ∧ a < j ∧ raceI E R a j = true ∧ x = ((evA E j).o, a, j) := by
  unfold racesN
  rw [List.mem_flatMap]
  constructor
  · rintro ⟨j, hj, h⟩
    obtain ⟨a, h1, h2, h3⟩ := racesJ_mem.1 h
    exact ⟨j, a, by simpa using hj, h1, h2, h3⟩
  · rintro ⟨j, a, hj, h1, h2, h3⟩
    exact ⟨j, by simpa using hj, racesJ_mem.2 ⟨a, h1, h2, h3⟩⟩
theorem raceI_acc {i j : Nat} (h : raceI E R i j = true) : accB (evA E i) = true ∧ accB (evA E j) = true := by
  unfold raceI at h
  simp only [Bool.and_eq_true] at h
  exact ⟨h.1.1, h.1.2.1⟩
end
theorem acc_k {x : Ev} (h : accB x = true) : x.k = 1 ∨ x.k = 2 := by
  unfold accB at h
  simpa using h
/-- the variables of races are among the shape's -/
theorem races_var {s : Shp} {l : List Ev} (hs : shapeB s = true) (ho : okTo s l l.length) : ∀ x ∈ racesN l (rnds s l l.length) l.length, 0 ≤ x.1 ∧ x.1 ≤ 1048576 := by
  intro x hx
  obtain ⟨j, a, hj, ha, hr, rfl⟩ := racesN_mem.1 hx
  have hv : s.va ≤ 4096 := ((shapeB_iff s).1 hs).2.1.2
  have hg : l[j]? = some (evA l j) := by unfold evA; rw [List.getElem?_eq_getElem hj]; rfl
  have := can_acc (ho j _ hj hg) (acc_k (raceI_acc hr).2)
  dsimp only; omega
section
variable {s : Shp} {l : List Ev} {n : Nat}
variable (hn : n ≤ l.length)
include hn
end
section
variable {E : List Ev} {R : List Int} {n : Nat}
end
end Go.Vc
