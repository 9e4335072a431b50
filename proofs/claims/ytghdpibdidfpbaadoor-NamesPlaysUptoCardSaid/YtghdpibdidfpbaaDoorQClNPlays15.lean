/- The parts of slices.SortStableFunc at []int: swaps, ranges that are swapped, rotations. -/
import Derived.Test.YtghdpibdidfpbaaDoorQClNPlays12
import Derived.Test.YtghdpibdidfpbaaDoorQClNPlays14
import Derived.Test.YtghdpibdidfpbaaDoorQClNPlays8
namespace Go.Vc
open Go Go.Proofs
set_option maxRecDepth 10000
variable {w : World}
abbrev fv (g : FuncId) (lb : List Value) : Value := .func (.func g) #[] ⟨lb⟩
def encJ (k : Nat) : Value := I (k : Int)
/-- a row of numbers of one's own -/
abbrev Dat (w : World) (ad : Option Addr) (n cap : Nat) (xs : List Nat) : Prop := OwnS w 3 1 ad n cap (xs.map encJ)
theorem Dat.len {ad : Option Addr} {n cap : Nat} {xs : List Nat} (h : Dat w ad n cap xs) : xs.length = n := by have := h.1; simpa using this
theorem Dat.blk {ad : Option Addr} {n cap : Nat} {xs : List Nat} (h : Dat w ad n cap xs) (h0 : 0 < n) : ∃ b, ad = some ⟨b, 0, none⟩ := by
  cases ad with
  | none => have := h.2.1; omega
  | some a =>
    obtain ⟨blk, off, spot⟩ := a
    obtain ⟨h1, h2, _⟩ := h.2
    dsimp only at h1 h2
    subst h1 h2
    exact ⟨_, rfl⟩
theorem Dat.small {ad : Option Addr} {n cap : Nat} {xs : List Nat} (h : Dat w ad n cap xs) : n ≤ 9223372036854775807 := by
  cases ad with
  | none => have := h.2.1; omega
  | some a => obtain ⟨_, _, h3, h4, junk, h5, h6⟩ := h.2; simp only [maxLen] at h4; omega
theorem Dat.get {b : Nat} {n cap : Nat} {xs : List Nat} (h : Dat w (some ⟨b, 0, none⟩) n cap xs) {i x : Nat} (hx : xs[i]? = some x) : w.cell? ⟨b, i, none⟩ = some (I (x : Int)) := OwnS.get h (by rw [List.getElem?_map, hx]; rfl)
theorem Dat.wr {b : Nat} {n cap : Nat} {xs : List Nat} (h : Dat w (some ⟨b, 0, none⟩) n cap xs) {i : Nat} (hi : i < n) :
    ∃ L, Blk w b L 3 ∧ i < L.length ∧ ∀ (y : Nat) w', Upd w b (.cells ⟨L.set i (I (y : Int))⟩ 3 (0, 0)) w' → Dat w' (some ⟨b, 0, none⟩) n cap (xs.set i y) := by
  obtain ⟨b', L, h1, h2, h3, h4⟩ := OwnS.wr h hi
  cases h1
  exact ⟨L, h2, h3, fun y w' hu => by unfold Dat; rw [List.map_set]; exact h4 (I y) w' hu⟩
theorem swap_far {A B C : List Nat} {x y : Nat} : ((A ++ x :: (B ++ y :: C)).set A.length y).set (A.length + 1 + B.length) x = A ++ y :: (B ++ x :: C) := by
  rw [List.set_append_right _ _ (Nat.le_refl _), Nat.sub_self, List.set_cons_zero, List.set_append_right _ _ (by omega), show A.length + 1 + B.length - A.length = B.length + 1 by omega, List.set_cons_succ, List.set_append_right _ _ (Nat.le_refl _), Nat.sub_self, List.set_cons_zero]
theorem get_at {A C : List Nat} {x : Nat} : (A ++ x :: C)[A.length]? = some x := by simp
theorem get_far {A B C : List Nat} {x y : Nat} : (A ++ x :: (B ++ y :: C))[A.length + 1 + B.length]? = some y := by
  rw [List.getElem?_append_right (by omega), show A.length + 1 + B.length - A.length = B.length + 1 by omega, List.getElem?_cons_succ]; simp
/-- the middle of a row of pairs that are swapped -/
def swL (p u mid v q : List Nat) (i : Nat) : List Nat := p ++ v.take i ++ u.drop i ++ mid ++ u.take i ++ v.drop i ++ q
theorem swL_zero (p u mid v q : List Nat) : swL p u mid v q 0 = p ++ u ++ mid ++ v ++ q := by simp [swL]
theorem swL_all {p u mid v q : List Nat} {k : Nat} (hu : u.length = k) (hv : v.length = k) : swL p u mid v q k = p ++ v ++ mid ++ u ++ q := by
  simp [swL, ← hu, List.take_of_length_le (show v.length ≤ u.length by omega), List.drop_of_length_le (show v.length ≤ u.length by omega)]
theorem swL_at {p u mid v q : List Nat} {i x y : Nat} (hx : u[i]? = some x) (hy : v[i]? = some y) :
    ∃ A B C, swL p u mid v q i = A ++ x :: (B ++ y :: C) ∧ swL p u mid v q (i + 1) = A ++ y :: (B ++ x :: C) ∧ A.length = p.length + i ∧ A.length + 1 + B.length = p.length + u.length + mid.length + i := by
  obtain ⟨hi, rfl⟩ := List.getElem?_eq_some_iff.1 hx
  obtain ⟨hj, rfl⟩ := List.getElem?_eq_some_iff.1 hy
  refine ⟨p ++ v.take i, u.drop (i + 1) ++ mid ++ u.take i, v.drop (i + 1) ++ q, ?_, ?_, ?_, ?_⟩
  · unfold swL
    rw [List.drop_eq_getElem_cons hi, List.drop_eq_getElem_cons hj]
    simp only [List.append_assoc, List.cons_append]
  · unfold swL
    rw [List.take_add_one, List.take_add_one, List.getElem?_eq_getElem hi, List.getElem?_eq_getElem hj]
    simp only [List.append_assoc, List.cons_append, Option.toList, List.nil_append, List.singleton_append]
  · simp; omega
  · simp; omega
theorem ptr_eq {b o o' : Nat} (h : o = o') : Value.pointer (some ⟨b, o, none⟩) = Value.pointer (some ⟨b, o', none⟩) := by rw [h]
set_option maxHeartbeats 3200000 in
theorem swapRange_ret {ad : Option Addr} {n cap : Nat} {p u mid v q : List Nat} {k a b : Nat} {cmp : Value} (h : Dat w ad n cap (p ++ u ++ mid ++ v ++ q)) (hu : u.length = k) (hv : v.length = k) (ha : a = p.length) (hb : b = p.length + u.length + mid.length) :
    Ret Tryd.prog 77 [.slice ad n cap, I a, I b, I k, cmp] w (fun _ w' => Dat w' ad n cap (p ++ v ++ mid ++ u ++ q) ∧ Kp (blkOf ad) w w') := by
  have hn := h.len
  simp only [List.length_append] at hn
  have hcap := h.le_cap
  have hmx := h.small
  refine enter Tryd.call77 Tryd.func77 rfl rfl rfl rfl ?_
  (repeat first|refine zA ?_|refine zg ?_|refine zo rfl rfl trivial ?_|refine zn ?_|refine zb ?_)
  refine r_loop (α := Nat) [0, 1, 2, 3, 10] (fun i => [.slice ad n cap, I a, I b, I k, I i]) (fun i W => i ≤ k ∧ Dat W ad n cap (swL p u mid v q i) ∧ Kp (blkOf ad) w W) (fun i => k - i) 0 rfl ⟨by omega, by rw [swL_zero]; exact h, Kp.refl _ _⟩ ?_
  rintro i e W ⟨hi, hD, hk⟩
  (repeat first|refine zA ?_|refine zB ?_|refine zg ?_|refine zo rfl rfl trivial ?_|refine zn ?_)
  refine r_if rfl (fun hc => ?_) (fun hc => ?_)
  · have hik : i < k := by omega
    obtain ⟨x, hx⟩ : ∃ x, u[i]? = some x := ⟨_, List.getElem?_eq_getElem (by omega)⟩
    obtain ⟨y, hy⟩ : ∃ y, v[i]? = some y := ⟨_, List.getElem?_eq_getElem (by omega)⟩
    obtain ⟨A, B, C, e1, e2, l1, l2⟩ := swL_at (p := p) (mid := mid) (q := q) hx hy
    obtain ⟨bk, rfl⟩ := hD.blk (by omega)
    (repeat first|refine zC ?_|refine zb ?_|refine zk ?_)
    rw [e1] at hD
    refine r_mix2 (fun W' => Dat W' (some ⟨bk, 0, none⟩) n cap (A ++ x :: (B ++ y :: C))) 21 [(0, false), (1, false), (2, false), (3, false), (4, false), (5, false), (6, false), (7, false), (8, false), (9, false), (10, false), (11, false), (12, false), (13, false), (14, false), (15, false), (16, false), (17, false), (18, false), (19, false), (20, false), (21, true), (22, false), (23, true)] follows_mixed (by kernel_rfl) (by kernel_rfl) (by kernel_rfl) (by kernel_rfl) (hD.kp ((Sm.drew _).kp []) (by simp)) ?_
    have kd := (Sm.drew W).kp []
    generalize ({ W with drawn := W.drawn + 1 } : World) = wd at kd ⊢
    have hDd := hD.kp kd (by simp)
    (repeat refine so rfl rfl (by first|exact trivial|(simp only[AllP];omega)) ?_)
    refine s_load (b := bk) (off := b + i) (v := I y) rfl (ptr_eq (by omega)) (by kernel_rfl) (fun W' h' => Dat.get h' (by rw [show b + i = A.length + 1 + B.length by omega]; exact get_far)) rfl rfl rfl rfl ?_
    (repeat refine so rfl rfl (by first|exact trivial|(simp only[AllP];omega)) ?_)
    refine s_load (b := bk) (off := a + i) (v := I x) rfl (ptr_eq (by omega)) (by kernel_rfl) (fun W' h' => Dat.get h' (by rw [show a + i = A.length by omega]; exact get_at)) rfl rfl rfl rfl ?_
    (repeat refine so rfl rfl (by first|exact trivial|(simp only[AllP];omega)) ?_)
    refine s_act rfl rfl ?_
    obtain ⟨L1, hL1, hi1, hw1⟩ := Dat.wr hDd (i := a + i) (by omega)
    refine o_store (b := bk) (off := a + i) (v := I y) (ptr_eq (by omega)) hL1 hi1 rfl rfl rfl rfl rfl rfl ?_
    intro W1 hu1
    have hD1 := hw1 y W1 hu1
    refine o_nil ?_
    (repeat refine so rfl rfl (by first|exact trivial|(simp only[AllP];omega)) ?_)
    refine s_act rfl rfl ?_
    obtain ⟨L2, hL2, hi2, hw2⟩ := Dat.wr hD1 (i := b + i) (by omega)
    refine o_store (b := bk) (off := b + i) (v := I x) (ptr_eq (by omega)) hL2 hi2 rfl rfl rfl rfl rfl rfl ?_
    intro W2 hu2
    have hD2 := hw2 x W2 hu2
    refine o_nil ?_
    (repeat refine sn ?_)
    rw [show a + i = A.length by omega, show b + i = A.length + 1 + B.length by omega, swap_far, ← e2] at hD2
    (repeat first|refine zg ?_|refine zo rfl rfl (by first|exact trivial|(simp only[AllP];omega)) ?_|refine zn ?_)
    exact ⟨i + 1, rfl, ⟨by omega, hD2, ((hk.trans (kd.mono (by simp))).trans (hu1.kp _ (.inl (by simp [blkOf])))).trans (hu2.kp _ (.inl (by simp [blkOf])))⟩, by omega⟩
  · have : i = k := by omega
    subst this
    rw [swL_all hu hv] at hD
    (repeat refine ze rfl ?_)
    exact ⟨_, rfl, hD, hk⟩
/-- u and v, that stand one behind the other, change places -/
theorem rotate_ret {ad : Option Addr} {n cap : Nat} {p u v q : List Nat} {a m b : Nat} {g : FuncId} {lb : List Value} (h : Dat w ad n cap (p ++ u ++ v ++ q)) (ha : a = p.length) (hm : m = a + u.length) (hb : b = m + v.length) (hu : 0 < u.length) (hv : 0 < v.length) :
    Ret Tryd.prog 62 [.slice ad n cap, I a, I m, I b, fv g lb] w (fun _ w' => Dat w' ad n cap (p ++ v ++ u ++ q) ∧ Kp (blkOf ad) w w') := by
  have hn := h.len
  simp only [List.length_append] at hn
  have hmx := h.small
  refine enter Tryd.call62 Tryd.func62 rfl rfl rfl rfl ?_
  (repeat first|refine zA ?_|refine zC ?_|refine zg ?_|refine zo rfl rfl (by first|exact trivial|(simp only[AllP];omega)) ?_|refine zn ?_|refine zb ?_)
  refine r_loop (α := Nat × Nat) [0, 2, 4, 10, 11] (fun y => [.slice ad n cap, I m, fv g lb, I y.1, I y.2])
    (fun y W => ∃ p' U V q' : List Nat, U.length = y.1 ∧ V.length = y.2 ∧ Dat W ad n cap (p' ++ U ++ V ++ q') ∧ p' ++ V ++ U ++ q' = p ++ v ++ u ++ q ∧ p'.length + y.1 = m ∧ 0 < y.1 ∧ 0 < y.2 ∧ Kp (blkOf ad) w W) (fun y => y.1 + y.2) (u.length, v.length) ?_ ⟨p, u, v, q, rfl, rfl, h, rfl, by dsimp only; omega, hu, hv, Kp.refl _ _⟩ ?_
  · show [Value.slice ad n cap, I m, fv g lb, I ((m : Int) - a), I ((b : Int) - m)] = [Value.slice ad n cap, I m, fv g lb, I u.length, I v.length]
    rw [show (m : Int) - a = u.length by omega, show (b : Int) - m = v.length by omega]
  rintro ⟨i, j⟩ e W ⟨p', U, V, q', hUl, hVl, hD, he, hl, hi0, hj0, hk⟩
  dsimp only at hUl hVl hD he hl hi0 hj0
  have hn' := hD.len
  simp only [List.length_append] at hn'
  (repeat first|refine zA ?_|refine zB ?_|refine zg ?_|refine zo rfl rfl trivial ?_|refine zn ?_)
  refine r_ifn rfl (fun hc => ?_) (fun hc => ?_)
  · (repeat first|refine zA ?_|refine zg ?_|refine zo rfl rfl trivial ?_|refine zn ?_|refine zb ?_|refine zk ?_)
    refine r_if rfl (fun hg => ?_) (fun hg => ?_)
    · -- the first one is longer
      have hlt : j < i := by simpa using hg
      have hs : U = U.take j ++ U.drop j := (List.take_append_drop _ _).symm
      have h1 : (U.take j).length = j := by simp; omega
      have h2 : (U.drop j).length = i - j := by simp; omega
      generalize U.take j = U1 at hs h1
      generalize U.drop j = U2 at hs h2
      subst hs
      (repeat first|refine zA ?_|refine zg ?_|refine zo rfl rfl (by first|exact trivial|(simp only[AllP];omega)) ?_)
      refine o_call (swapRange_ret (cmp := fv g lb) (p := p') (u := U1) (mid := U2) (v := V) (q := q') (k := j) (a := p'.length) (b := m) (by simpa using hD) h1 hVl rfl (by omega)) (by show [Value.slice ad n cap, I ((m : Int) - i), I m, I j, fv g lb] = _; rw [show (m : Int) - i = p'.length by omega]) rfl rfl ?_
      rintro v' W1 ⟨hD1, hk1⟩
      (repeat first|refine zg ?_|refine zo rfl rfl (by first|exact trivial|(simp only[AllP];omega)) ?_|refine zn ?_)
      exact ⟨(i - j, j), by show [Value.slice ad n cap, I m, fv g lb, I ((i : Int) - j), I j] = [Value.slice ad n cap, I m, fv g lb, I ((i - j : Nat) : Int), I j]; rw [show (i : Int) - j = ((i - j : Nat) : Int) by omega], ⟨p' ++ V, U2, U1, q', h2, h1, by simpa using hD1, by rw [← he]; simp, by simp; omega, by dsimp only; omega, hj0, hk.trans hk1⟩, by dsimp only; omega⟩
    · have hlt : i < j := by
        have h1 : ¬ (j : Int) < i := hg
        have h2 : ¬ (i : Int) = j := hc
        omega
      have hs : V = V.take (j - i) ++ V.drop (j - i) := (List.take_append_drop _ _).symm
      have h1 : (V.take (j - i)).length = j - i := by simp; omega
      have h2 : (V.drop (j - i)).length = i := by simp; omega
      generalize V.take (j - i) = V1 at hs h1
      generalize V.drop (j - i) = V2 at hs h2
      subst hs
      (repeat first|refine zA ?_|refine zg ?_|refine zo rfl rfl (by first|exact trivial|(simp only[AllP];omega)) ?_)
      refine o_call (swapRange_ret (cmp := fv g lb) (p := p') (u := U) (mid := V1) (v := V2) (q := q') (k := i) (a := p'.length) (b := m + j - i) (by simpa using hD) hUl h2 rfl (by omega)) (by show [Value.slice ad n cap, I ((m : Int) - i), I ((m : Int) + j - i), I i, fv g lb] = _; rw [show (m : Int) - i = p'.length by omega, show (m : Int) + j - i = ((m + j - i : Nat) : Int) by omega]) rfl rfl ?_
      rintro v' W1 ⟨hD1, hk1⟩
      (repeat first|refine zg ?_|refine zo rfl rfl (by first|exact trivial|(simp only[AllP];omega)) ?_|refine zn ?_)
      exact ⟨(i, j - i), by show [Value.slice ad n cap, I m, fv g lb, I i, I ((j : Int) - i)] = [Value.slice ad n cap, I m, fv g lb, I i, I ((j - i : Nat) : Int)]; rw [show (j : Int) - i = ((j - i : Nat) : Int) by omega], ⟨p', V2, V1, U ++ q', h2, h1, by simpa using hD1, by rw [← he]; simp, hl, hi0, by dsimp only; omega, hk.trans hk1⟩, by dsimp only; omega⟩
  · have hij : i = j := by
      have : (i : Int) = j := hc
      omega
    subst hij
    (repeat first|refine zg ?_|refine zo rfl rfl (by first|exact trivial|(simp only[AllP];omega)) ?_|refine ze rfl ?_)
    refine o_call (swapRange_ret (cmp := fv g lb) (p := p') (u := U) (mid := []) (v := V) (q := q') (k := i) (a := p'.length) (b := m) (by simpa using hD) hUl hVl rfl (by simp; omega)) (by show [Value.slice ad n cap, I ((m : Int) - i), I m, I i, fv g lb] = _; rw [show (m : Int) - i = p'.length by omega]) rfl rfl ?_
    rintro v' W1 ⟨hD1, hk1⟩
    (repeat refine zn ?_)
    exact ⟨_, rfl, by rw [← he]; simpa using hD1, hk.trans hk1⟩
end Go.Vc
/- names: All: the iterator over the names. -/
namespace Go.Vc
open Go Go.Proofs
set_option maxRecDepth 10000
variable {w : World}
theorem CloneS_ret {ad : Option Addr} {l : List Str} {cap : Nat} (h : ReadS w ad (l.map S)) (hbig : l.length * 16 ≤ 140737488355328) (hmax : l.length ≤ maxLen) :
    Ret Tryd.prog 40 [.slice ad l.length cap] w (fun v w' => ∃ ad' cap', v = .slice ad' l.length cap' ∧ NewS w 9 w' ad' l.length cap' (l.map S)) := by
  refine enter Tryd.call40 Tryd.func40 rfl rfl rfl rfl ?_
  (repeat first|refine zA ?_|refine zB ?_|refine zg ?_|refine zo rfl rfl trivial ?_|refine zn ?_)
  cases ad with
  | none =>
    have hws : l = [] := by simpa [ReadS] using h
    subst hws
    (repeat first|refine zA ?_|refine zg ?_|refine zo rfl rfl trivial ?_|refine zn ?_|refine zr ?_|refine zt rfl ?_)
    exact ⟨_, rfl, none, 0, rfl, ⟨ownS_nil _ _ _, Kp.refl _ _, by simp [blkOf]⟩⟩
  | some a =>
    (repeat first|refine zA ?_|refine zg ?_|refine zo rfl rfl trivial ?_|refine zn ?_|refine zk ?_|refine zf rfl ?_)
    refine o_buildSlice0 rfl rfl rfl rfl ?_
    intro b w1 hb hu1
    have k1 : Kp [] w w1 := hu1.kp [] (.inr (by omega))
    have ho1 : OwnS w1 9 1 (some ⟨b, 0, none⟩) 0 0 [] := ⟨rfl, rfl, rfl, Nat.le_refl _, by simp [maxLen], [], hu1.blk, rfl⟩
    (repeat refine zo rfl rfl trivial ?_)
    by_cases h0 : l.length = 0
    · have hws : l = [] := List.eq_nil_of_length_eq_zero h0
      subst hws
      refine o_append0 (ad := some ⟨b, 0, none⟩) (k := 0) (cap := 0) (ay := some a) (cy := cap) rfl rfl (Nat.le_refl _) rfl rfl rfl rfl ?_
      (repeat first|refine zo rfl rfl trivial ?_|refine zn ?_|refine zr ?_)
      exact ⟨_, rfl, _, 0, rfl, ⟨ho1, k1, by simp [blkOf]; omega⟩⟩
    · refine o_append (l.map S) rfl rfl ho1 ?_ rfl rfl rfl (by omega) (by simp) (by omega) (by simp [Value.oneCell']) (by omega) (by simpa using hbig) rfl rfl ?_
      · intro j v hv
        exact (h.kp k1 (by simp)) j v hv
      intro ad2 cap2 w2 ho2 k2 hnew
      (repeat first|refine zo rfl rfl trivial ?_|refine zn ?_|refine zr ?_)
      rw [Nat.zero_add] at ho2
      refine ⟨_, rfl, ad2, cap2, by rw [Nat.zero_add], ⟨ho2, k1.since k2 (by simp [blkOf]; omega), fun c hc => ?_⟩⟩
      rcases hnew c hc with h1 | h1
      · simp [blkOf] at h1; omega
      · have := hu1.size; omega
/-- a name with its number -/
abbrev encP (x : Nat × Str) : List Value := [I (x.1 : Int), S x.2]
/-- the names, numbered -/
def nums (l : List Str) : List (Nat × Str) := (List.range l.length).map fun i => (i, l.getD i [])
theorem nums_split {l : List Str} {pre post : List (Nat × Str)} {x : Nat × Str} (h : nums l = pre ++ x :: post) : x.1 = pre.length ∧ l[x.1]? = some x.2 := by
  have h1 : (nums l)[pre.length]? = some x := by rw [h]; simp
  unfold nums at h1
  rw [List.getElem?_map] at h1
  cases h2 : (List.range l.length)[pre.length]? with
  | none => rw [h2] at h1; cases h1
  | some i =>
    rw [h2] at h1
    obtain ⟨hlt, hi⟩ := List.getElem?_eq_some_iff.1 h2
    rw [List.getElem_range] at hi
    simp at hlt
    simp at h1
    subst h1 hi
    refine ⟨rfl, ?_⟩
    simp [hlt]
theorem nums_length {l : List Str} : (nums l).length = l.length := by simp [nums]
theorem namesAll_iter {bx : Nat} {ad : Option Addr} {l : List Str} {cap : Nat} {T : TypeId} (hbx : Blk w bx [.slice ad l.length cap] T) (hown : OwnS w 9 1 ad l.length cap (l.map S)) (hlen : l.length ≤ 131072) :
    Iter Tryd.prog 41 [ptr bx] (bx :: blkOf ad) encP (nums l) w := by
  refine ⟨?_, ?_⟩
  · intro b hb
    simp only [List.mem_cons] at hb
    rcases hb with rfl | hb
    · exact hbx.lt
    · exact hown.lt b hb
  intro y w1 J Jx hsz hpriv hstab hJ0 hY hstabx
  have facts : ∀ pre W, J pre W → Blk W bx [.slice ad l.length cap] T ∧ ReadS W ad (l.map S) := fun pre W hJ => by
    have hp := hpriv pre W hJ
    exact ⟨by unfold Blk; rw [hp bx (by simp)]; exact hbx, (hown.keep (fun b hb => hp b (by simp [hb]))).read⟩
  obtain ⟨hb1, hr1⟩ := facts _ _ hJ0
  refine enter Tryd.call41 Tryd.func41 rfl rfl rfl rfl ?_
  (repeat first|refine zA ?_|refine zg ?_)
  refine o_load rfl hb1 rfl rfl rfl rfl rfl ?_
  (repeat first|refine zo rfl rfl trivial ?_|refine zn ?_|refine zb ?_)
  refine r_loop (α := List (Nat × Str) × List (Nat × Str)) [0, 1, 5, 6, 7] (fun g => [yv y, ptr bx, .slice ad l.length cap, I l.length, I g.1.length]) (fun g W => nums l = g.1 ++ g.2 ∧ J g.1 W) (fun g => g.2.length) ([], nums l) rfl ⟨rfl, hJ0⟩ ?_
  rintro ⟨pre, post⟩ e W ⟨hx, hJ⟩
  dsimp only at hx hJ ⊢
  have hll : pre.length + post.length = l.length := by rw [← nums_length, hx, List.length_append]
  (repeat first|refine zA ?_|refine zD ?_|refine zg ?_|refine zo rfl rfl trivial ?_|refine zn ?_)
  refine r_if rfl (fun hc => ?_) (fun hc => ?_)
  · have hc : pre.length < l.length := by omega
    cases post with
    | nil => simp at hll; omega
    | cons x rest =>
    obtain ⟨hx1, hx2⟩ := nums_split hx
    rw [hx1] at hx2
    obtain ⟨hb2, hr2⟩ := facts _ _ hJ
    obtain ⟨b, off, rfl, _, hcell⟩ := hr2.at_ (by simp; omega)
    (repeat first|refine zA ?_|refine zC ?_|refine zg ?_|refine zo rfl rfl (by first|exact trivial|(simp only[AllP];omega)) ?_|refine zb ?_|refine zk ?_)
    refine o_loadc rfl (hcell pre.length (S x.2) (by rw [List.getElem?_map, hx2]; rfl)) rfl rfl rfl rfl ?_
    (repeat first|refine zA ?_|refine zg ?_|refine zo rfl rfl trivial ?_|refine zn ?_)
    refine o_yield (vs := encP x) (hY pre x rest W hx hJ) rfl (by show [I (pre.length : Int), S x.2] = _; rw [← hx1]) rfl rfl ?_
    rintro z W2 (⟨rfl, hJ2⟩ | ⟨rfl, hJx⟩)
    · (repeat first|refine zg ?_|refine zo rfl rfl (by first|exact trivial|(simp only[AllP];omega)) ?_|refine zn ?_|refine zk ?_|refine zf rfl ?_)
      refine ⟨(pre ++ [x], rest), by show [yv y, ptr bx, Value.slice (some ⟨b, off, none⟩) l.length cap, I l.length, I ((pre.length : Int) + 1)] = [yv y, ptr bx, Value.slice (some ⟨b, off, none⟩) l.length cap, I l.length, I ((pre ++ [x]).length : Int)]; rw [List.length_append, List.length_singleton]; rfl, ⟨by rw [hx]; simp, hJ2⟩, by simp⟩
    · (repeat first|refine zo rfl rfl trivial ?_|refine zn ?_|refine zr ?_|refine zt rfl ?_)
      exact ⟨_, rfl, .inr ⟨pre ++ [x], rest, by rw [hx]; simp, hJx⟩⟩
  · have hc : ¬ pre.length < l.length := by omega
    have hp : post = [] := List.eq_nil_of_length_eq_zero (by omega)
    subst hp
    (repeat refine ze rfl ?_)
    exact ⟨_, rfl, .inl (by rw [hx, List.append_nil]; exact hJ)⟩
/-- an iterator over names -/
structure NmSeq (w : World) (v : Value) (Fp : List Nat) (l : List Str) : Prop where
  is : ∃ f lb, v = .func (.func f) #[] ⟨lb⟩ ∧ Iter Tryd.prog f lb Fp encP (nums l) w
theorem NmSeq.kp {w w' : World} {v : Value} {Fp : List Nat} {l : List Str} (h : NmSeq w v Fp l) {S : List Nat} (hk : Kp S w w') (hd : ∀ b, b ∈ Fp → b ∉ S) : NmSeq w' v Fp l := by
  obtain ⟨f, lb, h1, h2⟩ := h.is
  exact ⟨f, lb, h1, h2.kp hk.size (fun b hb => hk.at_ b (h2.1 b hb) (hd b hb))⟩
theorem NmSeq.lt {v : Value} {Fp : List Nat} {l : List Str} (h : NmSeq w v Fp l) : ∀ b, b ∈ Fp → b < w.heap.size := by
  obtain ⟨f, lb, h1, h2⟩ := h.is
  exact h2.1
variable {p : Nat} {fp : List Nat} {l : List Str} {m : Nat} {ad : Option Addr} {cap : Nat}
theorem namesAll_ret (h : Tab w p fp l m ad cap) :
    Ret Tryd.prog 22 [ptr p] w (fun v w' => ∃ Fp, NmSeq w' v Fp l ∧ Kp [] w w' ∧ ∀ b, b ∈ Fp → w.heap.size ≤ b) := by
  have hlen := h.few
  refine enter Tryd.call22 Tryd.func22 rfl rfl rfl rfl ?_
  (repeat first|refine zA ?_|refine zg ?_|refine zo rfl rfl trivial ?_|refine zn ?_)
  refine o_alloc rfl rfl rfl rfl ?_
  intro bx w2 hbx hu2
  have k2 : Kp [] w w2 := hu2.kp [] (.inr (by omega))
  have h2 := h.kp k2 (by simp)
  (repeat first|refine zA ?_|refine zB ?_|refine zg ?_|refine zo rfl rfl trivial ?_|refine zn ?_)
  refine o_call (there_ret h2) rfl rfl rfl ?_
  rintro v w' ⟨rfl, rfl⟩
  (repeat first|refine zg ?_|refine zo rfl rfl trivial ?_|refine zn ?_|refine zt rfl ?_)
  refine o_load rfl h2.hdr rfl rfl rfl rfl rfl ?_
  refine o_call (CloneS_ret h2.own.read (by omega) (by simp only [maxLen]; omega)) rfl rfl rfl ?_
  rintro v w3 ⟨ad1, cap1, rfl, hn1⟩
  have hs2 := hu2.size
  have hbx3 := hn1.kp.blk (by simp) hu2.blk
  have hne : bx ∉ blkOf ad1 := fun hb => by have := hn1.new bx hb; have := hu2.lt; omega
  refine o_store rfl hbx3 (by decide) rfl rfl rfl rfl rfl rfl ?_
  intro w4 hu4
  have ho4 := hn1.own.upd hu4 hne
  have k4 : Kp [] w w4 := (k2.trans hn1.kp).since (hu4.kp [bx] (.inl (by simp))) (by simp; omega)
  (repeat first|refine zA ?_|refine zg ?_|refine zo rfl rfl trivial ?_|refine zn ?_|refine zr ?_)
  refine ⟨_, rfl, bx :: blkOf ad1, ⟨_, _, rfl, namesAll_iter hu4.blk ho4 hlen⟩, k4, ?_⟩
  intro b hb
  rcases List.mem_cons.1 hb with rfl | hb
  · omega
  · have := hn1.new b hb; omega
end Go.Vc
