/- The plain law of likenesses: floats of small whole numbers. -/
import Derived.Test.YtghdpibdidfpbaaQClNOrder6
import GoSem.Core.Float
import Derived.Test.YtghdpibdidfpbaaQClNOrder8
import Derived.Test.YtghdpibdidfpbaaQClNOrder12
namespace Go.Vc
open Go
/-- what is no NaN -/
def isNum (x : Nat) : Bool := !(Ieee.double.read x).isNaN
theorem read_word (neg : Bool) (r : Nat) (h : r ≤ Ieee.double.infRung) : (Ieee.double.read (Ieee.double.word neg r)).isNaN = false := by
  have h1 : Ieee.double.infRung = 9218868437227405312 := by decide
  have h2 : Ieee.double.signWeight = 9223372036854775808 := by decide
  have h3 : Ieee.double.binade = 4503599627370496 := by decide
  have h4 : Ieee.double.word neg r % Ieee.double.signWeight = r := by
    unfold Ieee.Format.word
    rw [h1] at h
    rw [h2]
    split <;> omega
  unfold Ieee.Format.read
  rw [h4]
  dsimp only
  split
  · rfl
  · split
    · rfl
    · split
      · rfl
      · exfalso; omega
theorem nearest_num (neg : Bool) (mag : Nat) (place : Int) : (Ieee.double.read (Ieee.double.nearest neg mag place)).isNaN = false := by
  unfold Ieee.Format.nearest
  split
  · exact read_word _ _ (by decide)
  · exact read_word _ _ (Nat.min_le_right _ _)
theorem write_num (d : Ieee.Datum) (h : d.isNaN = false) : (Ieee.double.read (Ieee.double.write d)).isNaN = false := by
  cases d with
  | number s m p => exact nearest_num _ _ _
  | infinity s => exact read_word _ _ (Nat.le_refl _)
  | nan s t => cases h
/-- a whole number that is read again -/
def whole (n : Nat) : Bool := match Ieee.double.read (FloatKind.f64.nearest n) with
  | .number _ m _ => decide (m ≠ 0 ∨ n = 0)
  | _ => false
theorem whole_all : ∀ n, n ≤ 256 → whole n = true := by
  have h : ∀ n : Fin 257, whole n.1 = true := by decide +kernel
  intro n hn
  exact h ⟨n, by omega⟩
theorem div_some (d n : Nat) (hd : d ≤ 256) (hn : n ≤ 256) (h0 : n ≠ 0) : ∃ r, FloatKind.f64.format.div (FloatKind.f64.nearest d) (FloatKind.f64.nearest n) = some r ∧ (Ieee.double.read r).isNaN = false := by
  have h1 := whole_all d hd
  have h2 := whole_all n hn
  unfold whole at h1 h2
  show ∃ r, Option.map Ieee.double.write ((Ieee.double.read (FloatKind.f64.nearest d)).quotient _ (Ieee.double.read (FloatKind.f64.nearest n))) = some r ∧ _
  cases e1 : Ieee.double.read (FloatKind.f64.nearest d) with
  | number s m i =>
    cases e2 : Ieee.double.read (FloatKind.f64.nearest n) with
    | number t k j =>
      rw [e2] at h2
      have hk : k ≠ 0 := by
        have := of_decide_eq_true h2
        rcases this with h | h
        · exact h
        · exact absurd h h0
      simp only [Ieee.Datum.quotient, if_neg hk, Option.map_some]
      exact ⟨_, rfl, write_num _ rfl⟩
    | infinity t => rw [e2] at h2; cases h2
    | nan t f => rw [e2] at h2; cases h2
  | infinity s => rw [e1] at h1; cases h1
  | nan s f => rw [e1] at h1; cases h1
theorem sub_some (r : Nat) (h : (Ieee.double.read r).isNaN = false) : ∃ x, FloatKind.f64.format.sub 4607182418800017408 r = some x ∧ (Ieee.double.read x).isNaN = false := by
  show ∃ x, Option.map Ieee.double.write ((Ieee.double.read 4607182418800017408).sum (Ieee.double.read r).opposite) = some x ∧ _
  have e1 : Ieee.double.read 4607182418800017408 = .number false 4503599627370496 (-52) := by decide +kernel
  rw [e1]
  cases e2 : Ieee.double.read r with
  | number t k j => exact ⟨_, rfl, write_num _ rfl⟩
  | infinity t => exact ⟨_, rfl, write_num _ rfl⟩
  | nan t f => rw [e2] at h; cases h
def fquo (d n : Nat) : Nat := (FloatKind.f64.format.div (FloatKind.f64.nearest d) (FloatKind.f64.nearest n)).getD 0
/-- 1 less d by n, as the machine's numbers have it -/
def likeF (d n : Nat) : Nat := if n = 0 then 4607182418800017408 else (FloatKind.f64.format.sub 4607182418800017408 (fquo d n)).getD 0
theorem likeF_num (d n : Nat) (hd : d ≤ 256) (hn : n ≤ 256) : (Ieee.double.read (likeF d n)).isNaN = false := by
  unfold likeF
  split
  · decide +kernel
  · rename_i h0
    obtain ⟨r, h1, h2⟩ := div_some d n hd hn h0
    have : fquo d n = r := by simp [fquo, h1]
    rw [this]
    obtain ⟨x, h3, h4⟩ := sub_some r h2
    rw [h3]
    exact h4
/-- the likeness of two texts -/
def like (a b : List UInt8) : Nat := likeF (dist a b) (max (a.take 256).length (b.take 256).length)
theorem lev_le : ∀ a b : List UInt8, lev a b ≤ max a.length b.length
  | [], b => by rw [lev_nil]; exact Nat.le_max_right _ _
  | x :: a, [] => by rw [lev_nil']; exact Nat.le_max_left _ _
  | x :: a, y :: b => by
    rw [lev_cons]
    have := lev_le a b
    simp only [List.length_cons]
    split <;> omega
theorem dist_le (a b : List UInt8) : dist a b ≤ max (a.take 256).length (b.take 256).length := by
  have := lev_le (a.take 256).reverse (b.take 256).reverse
  simpa [dist] using this
theorem dist_le' (a b : List UInt8) : dist a b ≤ 256 := by
  have := dist_le a b
  have h1 : (a.take 256).length ≤ 256 := List.length_take_le _ _
  have h2 : (b.take 256).length ≤ 256 := List.length_take_le _ _
  omega
end Go.Vc
/- The reference of layer 6: Check, Distance, Likeness; and the program's Likeness. -/
namespace Go.Vc
open Go Go.Proofs
set_option maxRecDepth 10000
variable {w : World}

def isLetterR (c : UInt8) : Bool := (decide (97 ≤ (c.toNat : Int)) && decide ((c.toNat : Int) ≤ 122)) || (decide (65 ≤ (c.toNat : Int)) && decide ((c.toNat : Int) ≤ 90))
theorem fquo_cond (d n : Nat) (hd : d ≤ 256) (hn : n ≤ 256) (h0 : n ≠ 0) : (FloatKind.f64.format.div (FloatKind.f64.nearest d) (FloatKind.f64.nearest n)).isSome = true ∧ (FloatKind.f64.format.sub 4607182418800017408 (fquo d n)).isSome = true := by
  obtain ⟨r, h1, h2⟩ := div_some d n hd hn h0
  obtain ⟨x, h3, _⟩ := sub_some r h2
  have : fquo d n = r := by simp [fquo, h1]
  rw [this, h1, h3]
  exact ⟨rfl, rfl⟩
theorem likeness_ret (s t : List UInt8) (w : World) : Ret Try.prog 15 [S s, S t] w (fun v w' => v = .float .f64 (like s t) ∧ Kp [] w w') := by
  refine enter Try.call15 Try.func15 rfl rfl rfl rfl ?_
  (repeat first|refine zA ?_|refine zg ?_|refine zo rfl rfl trivial ?_|refine zn ?_)
  refine o_call (counted_ret _ _) rfl rfl rfl ?_
  rintro v w' ⟨rfl, rfl⟩
  (repeat refine zo rfl rfl trivial ?_)
  refine o_call (counted_ret _ _) rfl rfl rfl ?_
  rintro v w0 ⟨rfl, rfl⟩
  have ha : (s.take 256).length ≤ 256 := List.length_take_le _ _
  have hb : (t.take 256).length ≤ 256 := List.length_take_le _ _
  have hl : like s t = likeF (dist s t) (max (s.take 256).length (t.take 256).length) := rfl
  have hd := dist_le' s t
  have hm : (max ((s.take 256).length : Int) ((t.take 256).length : Int)) = ((max (s.take 256).length (t.take 256).length : Nat) : Int) := by omega
  (repeat first|refine zo rfl rfl trivial ?_|refine zn ?_)
  rw [hm]
  generalize hn : max (s.take 256).length (t.take 256).length = n at *
  have hn256 : n ≤ 256 := by omega
  (repeat first|refine zA ?_|refine zB ?_|refine zg ?_|refine zo rfl rfl trivial ?_|refine zn ?_)
  refine r_if rfl (fun h0 => ?_) (fun h0 => ?_)
  · (repeat first|refine zA ?_|refine zg ?_|refine zo rfl rfl trivial ?_|refine zn ?_|refine zr ?_)
    refine ⟨_, rfl, ?_, Kp.refl _ _⟩
    have : n = 0 := by omega
    rw [hl, likeF, if_pos this]
  · have h0 : n ≠ 0 := by omega
    have hc := fquo_cond (dist s t) n hd hn256 h0
    (repeat first|refine zA ?_|refine zg ?_|refine zo rfl rfl trivial ?_|refine zk ?_)
    refine o_call (distance_ret _ _ _) rfl rfl rfl ?_
    rintro v w1 ⟨rfl, kp⟩
    refine o_run rfl rfl hc.1 ?_
    refine o_nil ?_
    refine r_seqR ?_
    refine r_region ?_
    refine o_run rfl rfl hc.2 ?_
    (repeat first|refine zn ?_|refine zr ?_)
    refine ⟨_, rfl, ?_, kp⟩
    rw [hl, likeF, if_neg h0]
    rfl
end Go.Vc
/- The reference's Distance and Likeness. -/
namespace Go.Vc
open Go Go.Proofs
set_option maxRecDepth 10000
end Go.Vc
/- The plain law: lev is a distance; one edit is at most 1. -/
namespace Go.Vc
/-- likenesses of short texts: from 0 to 1, and 1 at no distance alone -/
def likeOk (d n : Nat) : Bool :=
  (FloatKind.f64.format.order (likeF d n) 0 == some .gt || FloatKind.f64.format.order (likeF d n) 0 == some .eq) &&
  (FloatKind.f64.format.order (likeF d n) 4607182418800017408 == some .lt || FloatKind.f64.format.order (likeF d n) 4607182418800017408 == some .eq) &&
  ((FloatKind.f64.format.order (likeF d n) 4607182418800017408 == some .eq) == decide (d = 0))
end Go.Vc
/- The laws NamesTexts, NamesMetric, NamesEdits as calls. -/
namespace Go.Vc
open Go Go.Proofs
set_option maxRecDepth 10000
variable {w : World}
/-- a call of mine as the frame asks it -/
theorem Ret.calls {P : Program} {f : FuncId} {vs : List Value} {w : World} (h : Ret P f vs w (fun v w' => v = .bool true ∧ Kp [] w w')) : Calls P f ⟨vs⟩ w (fun e w' => e = .returned (.bool true) ∧ RowKit.Below w.heap.size w w') :=
  h.2.mono fun _ _ ⟨_, he, hv, kp⟩ => ⟨by rw [he, hv], kp.below⟩
end Go.Vc
/- The parts of slices.SortStableFunc at []int: swaps, ranges that are swapped, rotations. -/
namespace Go.Vc
open Go Go.Proofs
set_option maxRecDepth 10000
variable {w : World}
abbrev fv (g : FuncId) (lb : List Value) : Value := .func (.func g) #[] ⟨lb⟩
def encJ (k : Nat) : Value := I (k : Int)
/-- a row of numbers of one's own -/
abbrev Dat (w : World) (ad : Option Addr) (n cap : Nat) (xs : List Nat) : Prop := OwnS w 3 1 ad n cap (xs.map encJ)
theorem Dat.len {ad : Option Addr} {n cap : Nat} {xs : List Nat} (h : Dat w ad n cap xs) : xs.length = n := by have := h.1; simpa using this
theorem Dat.blk {ad : Option Addr} {n cap : Nat} {xs : List Nat} (h : Dat w ad n cap xs) (h0 : 0 < n) : ∃ b, ad = some ⟨b, 0, none⟩ := by
  cases ad with
  | none => have := h.2.1; omega
  | some a =>
    obtain ⟨blk, off, spot⟩ := a
    obtain ⟨h1, h2, _⟩ := h.2
    dsimp only at h1 h2
    subst h1 h2
    exact ⟨_, rfl⟩
theorem Dat.small {ad : Option Addr} {n cap : Nat} {xs : List Nat} (h : Dat w ad n cap xs) : n ≤ 9223372036854775807 := by
  cases ad with
  | none => have := h.2.1; omega
  | some a => obtain ⟨_, _, h3, h4, junk, h5, h6⟩ := h.2; simp only [maxLen] at h4; omega
theorem Dat.get {b : Nat} {n cap : Nat} {xs : List Nat} (h : Dat w (some ⟨b, 0, none⟩) n cap xs) {i x : Nat} (hx : xs[i]? = some x) : w.cell? ⟨b, i, none⟩ = some (I (x : Int)) := OwnS.get h (by rw [List.getElem?_map, hx]; rfl)
theorem Dat.wr {b : Nat} {n cap : Nat} {xs : List Nat} (h : Dat w (some ⟨b, 0, none⟩) n cap xs) {i : Nat} (hi : i < n) :
    ∃ L, Blk w b L 3 ∧ i < L.length ∧ ∀ (y : Nat) w', Upd w b (.cells ⟨L.set i (I (y : Int))⟩ 3 (0, 0)) w' → Dat w' (some ⟨b, 0, none⟩) n cap (xs.set i y) := by
  obtain ⟨b', L, h1, h2, h3, h4⟩ := OwnS.wr h hi
  cases h1
  exact ⟨L, h2, h3, fun y w' hu => by unfold Dat; rw [List.map_set]; exact h4 (I y) w' hu⟩
theorem swap_far {A B C : List Nat} {x y : Nat} : ((A ++ x :: (B ++ y :: C)).set A.length y).set (A.length + 1 + B.length) x = A ++ y :: (B ++ x :: C) := by
  rw [List.set_append_right _ _ (Nat.le_refl _), Nat.sub_self, List.set_cons_zero, List.set_append_right _ _ (by omega), show A.length + 1 + B.length - A.length = B.length + 1 by omega, List.set_cons_succ, List.set_append_right _ _ (Nat.le_refl _), Nat.sub_self, List.set_cons_zero]
theorem get_at {A C : List Nat} {x : Nat} : (A ++ x :: C)[A.length]? = some x := by simp
theorem get_far {A B C : List Nat} {x y : Nat} : (A ++ x :: (B ++ y :: C))[A.length + 1 + B.length]? = some y := by
  rw [List.getElem?_append_right (by omega), show A.length + 1 + B.length - A.length = B.length + 1 by omega, List.getElem?_cons_succ]; simp
/-- the middle of a row of pairs that are swapped -/
def swL (p u mid v q : List Nat) (i : Nat) : List Nat := p ++ v.take i ++ u.drop i ++ mid ++ u.take i ++ v.drop i ++ q
theorem swL_zero (p u mid v q : List Nat) : swL p u mid v q 0 = p ++ u ++ mid ++ v ++ q := by simp [swL]
theorem swL_all {p u mid v q : List Nat} {k : Nat} (hu : u.length = k) (hv : v.length = k) : swL p u mid v q k = p ++ v ++ mid ++ u ++ q := by
  simp [swL, ← hu, List.take_of_length_le (show v.length ≤ u.length by omega), List.drop_of_length_le (show v.length ≤ u.length by omega)]
theorem swL_at {p u mid v q : List Nat} {i x y : Nat} (hx : u[i]? = some x) (hy : v[i]? = some y) :
    ∃ A B C, swL p u mid v q i = A ++ x :: (B ++ y :: C) ∧ swL p u mid v q (i + 1) = A ++ y :: (B ++ x :: C) ∧ A.length = p.length + i ∧ A.length + 1 + B.length = p.length + u.length + mid.length + i := by
  obtain ⟨hi, rfl⟩ := List.getElem?_eq_some_iff.1 hx
  obtain ⟨hj, rfl⟩ := List.getElem?_eq_some_iff.1 hy
  refine ⟨p ++ v.take i, u.drop (i + 1) ++ mid ++ u.take i, v.drop (i + 1) ++ q, ?_, ?_, ?_, ?_⟩
  · unfold swL
    rw [List.drop_eq_getElem_cons hi, List.drop_eq_getElem_cons hj]
    simp only [List.append_assoc, List.cons_append]
  · unfold swL
    rw [List.take_add_one, List.take_add_one, List.getElem?_eq_getElem hi, List.getElem?_eq_getElem hj]
    simp only [List.append_assoc, List.cons_append, Option.toList, List.nil_append, List.singleton_append]
  · simp; omega
  · simp; omega
theorem ptr_eq {b o o' : Nat} (h : o = o') : Value.pointer (some ⟨b, o, none⟩) = Value.pointer (some ⟨b, o', none⟩) := by rw [h]
set_option maxHeartbeats 3200000 in
theorem swapRange_ret {ad : Option Addr} {n cap : Nat} {p u mid v q : List Nat} {k a b : Nat} {cmp : Value} (h : Dat w ad n cap (p ++ u ++ mid ++ v ++ q)) (hu : u.length = k) (hv : v.length = k) (ha : a = p.length) (hb : b = p.length + u.length + mid.length) :
    Ret Try.prog 61 [.slice ad n cap, I a, I b, I k, cmp] w (fun _ w' => Dat w' ad n cap (p ++ v ++ mid ++ u ++ q) ∧ Kp (blkOf ad) w w') := by
  have hn := h.len
  simp only [List.length_append] at hn
  have hcap := h.le_cap
  have hmx := h.small
  refine enter Try.call61 Try.func61 rfl rfl rfl rfl ?_
  (repeat first|refine zA ?_|refine zg ?_|refine zo rfl rfl trivial ?_|refine zn ?_|refine zb ?_)
  refine r_loop (α := Nat) [0, 1, 2, 3, 10] (fun i => [.slice ad n cap, I a, I b, I k, I i]) (fun i W => i ≤ k ∧ Dat W ad n cap (swL p u mid v q i) ∧ Kp (blkOf ad) w W) (fun i => k - i) 0 rfl ⟨by omega, by rw [swL_zero]; exact h, Kp.refl _ _⟩ ?_
  rintro i e W ⟨hi, hD, hk⟩
  (repeat first|refine zA ?_|refine zB ?_|refine zg ?_|refine zo rfl rfl trivial ?_|refine zn ?_)
  refine r_if rfl (fun hc => ?_) (fun hc => ?_)
  · have hik : i < k := by omega
    obtain ⟨x, hx⟩ : ∃ x, u[i]? = some x := ⟨_, List.getElem?_eq_getElem (by omega)⟩
    obtain ⟨y, hy⟩ : ∃ y, v[i]? = some y := ⟨_, List.getElem?_eq_getElem (by omega)⟩
    obtain ⟨A, B, C, e1, e2, l1, l2⟩ := swL_at (p := p) (mid := mid) (q := q) hx hy
    obtain ⟨bk, rfl⟩ := hD.blk (by omega)
    (repeat first|refine zC ?_|refine zb ?_|refine zk ?_)
    rw [e1] at hD
    refine r_mix2 (fun W' => Dat W' (some ⟨bk, 0, none⟩) n cap (A ++ x :: (B ++ y :: C))) 21 [(0, false), (1, false), (2, false), (3, false), (4, false), (5, false), (6, false), (7, false), (8, false), (9, false), (10, false), (11, false), (12, false), (13, false), (14, false), (15, false), (16, false), (17, false), (18, false), (19, false), (20, false), (21, true), (22, false), (23, true)] follows_mixed (by kernel_rfl) (by kernel_rfl) (by kernel_rfl) (by kernel_rfl) (hD.kp ((Sm.drew _).kp []) (by simp)) ?_
    have kd := (Sm.drew W).kp []
    generalize ({ W with drawn := W.drawn + 1 } : World) = wd at kd ⊢
    have hDd := hD.kp kd (by simp)
    (repeat refine so rfl rfl (by first|exact trivial|(simp only[AllP];omega)) ?_)
    refine s_load (b := bk) (off := b + i) (v := I y) rfl (ptr_eq (by omega)) (by kernel_rfl) (fun W' h' => Dat.get h' (by rw [show b + i = A.length + 1 + B.length by omega]; exact get_far)) rfl rfl rfl rfl ?_
    (repeat refine so rfl rfl (by first|exact trivial|(simp only[AllP];omega)) ?_)
    refine s_load (b := bk) (off := a + i) (v := I x) rfl (ptr_eq (by omega)) (by kernel_rfl) (fun W' h' => Dat.get h' (by rw [show a + i = A.length by omega]; exact get_at)) rfl rfl rfl rfl ?_
    (repeat refine so rfl rfl (by first|exact trivial|(simp only[AllP];omega)) ?_)
    refine s_act rfl rfl ?_
    obtain ⟨L1, hL1, hi1, hw1⟩ := Dat.wr hDd (i := a + i) (by omega)
    refine o_store (b := bk) (off := a + i) (v := I y) (ptr_eq (by omega)) hL1 hi1 rfl rfl rfl rfl rfl rfl ?_
    intro W1 hu1
    have hD1 := hw1 y W1 hu1
    refine o_nil ?_
    (repeat refine so rfl rfl (by first|exact trivial|(simp only[AllP];omega)) ?_)
    refine s_act rfl rfl ?_
    obtain ⟨L2, hL2, hi2, hw2⟩ := Dat.wr hD1 (i := b + i) (by omega)
    refine o_store (b := bk) (off := b + i) (v := I x) (ptr_eq (by omega)) hL2 hi2 rfl rfl rfl rfl rfl rfl ?_
    intro W2 hu2
    have hD2 := hw2 x W2 hu2
    refine o_nil ?_
    (repeat refine sn ?_)
    rw [show a + i = A.length by omega, show b + i = A.length + 1 + B.length by omega, swap_far, ← e2] at hD2
    (repeat first|refine zg ?_|refine zo rfl rfl (by first|exact trivial|(simp only[AllP];omega)) ?_|refine zn ?_)
    exact ⟨i + 1, rfl, ⟨by omega, hD2, ((hk.trans (kd.mono (by simp))).trans (hu1.kp _ (.inl (by simp [blkOf])))).trans (hu2.kp _ (.inl (by simp [blkOf])))⟩, by omega⟩
  · have : i = k := by omega
    subst this
    rw [swL_all hu hv] at hD
    (repeat refine ze rfl ?_)
    exact ⟨_, rfl, hD, hk⟩
/-- u and v, that stand one behind the other, change places -/
theorem rotate_ret {ad : Option Addr} {n cap : Nat} {p u v q : List Nat} {a m b : Nat} {g : FuncId} {lb : List Value} (h : Dat w ad n cap (p ++ u ++ v ++ q)) (ha : a = p.length) (hm : m = a + u.length) (hb : b = m + v.length) (hu : 0 < u.length) (hv : 0 < v.length) :
    Ret Try.prog 59 [.slice ad n cap, I a, I m, I b, fv g lb] w (fun _ w' => Dat w' ad n cap (p ++ v ++ u ++ q) ∧ Kp (blkOf ad) w w') := by
  have hn := h.len
  simp only [List.length_append] at hn
  have hmx := h.small
  refine enter Try.call59 Try.func59 rfl rfl rfl rfl ?_
  (repeat first|refine zA ?_|refine zC ?_|refine zg ?_|refine zo rfl rfl (by first|exact trivial|(simp only[AllP];omega)) ?_|refine zn ?_|refine zb ?_)
  refine r_loop (α := Nat × Nat) [0, 2, 4, 10, 11] (fun y => [.slice ad n cap, I m, fv g lb, I y.1, I y.2])
    (fun y W => ∃ p' U V q' : List Nat, U.length = y.1 ∧ V.length = y.2 ∧ Dat W ad n cap (p' ++ U ++ V ++ q') ∧ p' ++ V ++ U ++ q' = p ++ v ++ u ++ q ∧ p'.length + y.1 = m ∧ 0 < y.1 ∧ 0 < y.2 ∧ Kp (blkOf ad) w W) (fun y => y.1 + y.2) (u.length, v.length) ?_ ⟨p, u, v, q, rfl, rfl, h, rfl, by dsimp only; omega, hu, hv, Kp.refl _ _⟩ ?_
  · show [Value.slice ad n cap, I m, fv g lb, I ((m : Int) - a), I ((b : Int) - m)] = [Value.slice ad n cap, I m, fv g lb, I u.length, I v.length]
    rw [show (m : Int) - a = u.length by omega, show (b : Int) - m = v.length by omega]
  rintro ⟨i, j⟩ e W ⟨p', U, V, q', hUl, hVl, hD, he, hl, hi0, hj0, hk⟩
  dsimp only at hUl hVl hD he hl hi0 hj0
  have hn' := hD.len
  simp only [List.length_append] at hn'
  (repeat first|refine zA ?_|refine zB ?_|refine zg ?_|refine zo rfl rfl trivial ?_|refine zn ?_)
  refine r_ifn rfl (fun hc => ?_) (fun hc => ?_)
  · (repeat first|refine zA ?_|refine zg ?_|refine zo rfl rfl trivial ?_|refine zn ?_|refine zb ?_|refine zk ?_)
    refine r_if rfl (fun hg => ?_) (fun hg => ?_)
    · -- the first one is longer
      have hlt : j < i := by simpa using hg
      have hs : U = U.take j ++ U.drop j := (List.take_append_drop _ _).symm
      have h1 : (U.take j).length = j := by simp; omega
      have h2 : (U.drop j).length = i - j := by simp; omega
      generalize U.take j = U1 at hs h1
      generalize U.drop j = U2 at hs h2
      subst hs
      (repeat first|refine zA ?_|refine zg ?_|refine zo rfl rfl (by first|exact trivial|(simp only[AllP];omega)) ?_)
      refine o_call (swapRange_ret (cmp := fv g lb) (p := p') (u := U1) (mid := U2) (v := V) (q := q') (k := j) (a := p'.length) (b := m) (by simpa using hD) h1 hVl rfl (by omega)) (by show [Value.slice ad n cap, I ((m : Int) - i), I m, I j, fv g lb] = _; rw [show (m : Int) - i = p'.length by omega]) rfl rfl ?_
      rintro v' W1 ⟨hD1, hk1⟩
      (repeat first|refine zg ?_|refine zo rfl rfl (by first|exact trivial|(simp only[AllP];omega)) ?_|refine zn ?_)
      exact ⟨(i - j, j), by show [Value.slice ad n cap, I m, fv g lb, I ((i : Int) - j), I j] = [Value.slice ad n cap, I m, fv g lb, I ((i - j : Nat) : Int), I j]; rw [show (i : Int) - j = ((i - j : Nat) : Int) by omega], ⟨p' ++ V, U2, U1, q', h2, h1, by simpa using hD1, by rw [← he]; simp, by simp; omega, by dsimp only; omega, hj0, hk.trans hk1⟩, by dsimp only; omega⟩
    · have hlt : i < j := by
        have h1 : ¬ (j : Int) < i := hg
        have h2 : ¬ (i : Int) = j := hc
        omega
      have hs : V = V.take (j - i) ++ V.drop (j - i) := (List.take_append_drop _ _).symm
      have h1 : (V.take (j - i)).length = j - i := by simp; omega
      have h2 : (V.drop (j - i)).length = i := by simp; omega
      generalize V.take (j - i) = V1 at hs h1
      generalize V.drop (j - i) = V2 at hs h2
      subst hs
      (repeat first|refine zA ?_|refine zg ?_|refine zo rfl rfl (by first|exact trivial|(simp only[AllP];omega)) ?_)
      refine o_call (swapRange_ret (cmp := fv g lb) (p := p') (u := U) (mid := V1) (v := V2) (q := q') (k := i) (a := p'.length) (b := m + j - i) (by simpa using hD) hUl h2 rfl (by omega)) (by show [Value.slice ad n cap, I ((m : Int) - i), I ((m : Int) + j - i), I i, fv g lb] = _; rw [show (m : Int) - i = p'.length by omega, show (m : Int) + j - i = ((m + j - i : Nat) : Int) by omega]) rfl rfl ?_
      rintro v' W1 ⟨hD1, hk1⟩
      (repeat first|refine zg ?_|refine zo rfl rfl (by first|exact trivial|(simp only[AllP];omega)) ?_|refine zn ?_)
      exact ⟨(i, j - i), by show [Value.slice ad n cap, I m, fv g lb, I i, I ((j : Int) - i)] = [Value.slice ad n cap, I m, fv g lb, I i, I ((j - i : Nat) : Int)]; rw [show (j : Int) - i = ((j - i : Nat) : Int) by omega], ⟨p', V2, V1, U ++ q', h2, h1, by simpa using hD1, by rw [← he]; simp, hl, hi0, by dsimp only; omega, hk.trans hk1⟩, by dsimp only; omega⟩
  · have hij : i = j := by
      have : (i : Int) = j := hc
      omega
    subst hij
    (repeat first|refine zg ?_|refine zo rfl rfl (by first|exact trivial|(simp only[AllP];omega)) ?_|refine ze rfl ?_)
    refine o_call (swapRange_ret (cmp := fv g lb) (p := p') (u := U) (mid := []) (v := V) (q := q') (k := i) (a := p'.length) (b := m) (by simpa using hD) hUl hVl rfl (by simp; omega)) (by show [Value.slice ad n cap, I ((m : Int) - i), I m, I i, fv g lb] = _; rw [show (m : Int) - i = p'.length by omega]) rfl rfl ?_
    rintro v' W1 ⟨hD1, hk1⟩
    (repeat refine zn ?_)
    exact ⟨_, rfl, by rw [← he]; simpa using hD1, hk.trans hk1⟩
end Go.Vc
