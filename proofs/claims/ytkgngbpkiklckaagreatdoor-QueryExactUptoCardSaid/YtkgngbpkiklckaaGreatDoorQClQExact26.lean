/- Parts of a proof. -/
import Derived.Test.YtkgngbpkiklckaaGreatDoorQClQExact25
set_option maxHeartbeats 12800000
namespace Go.Vc
open Go Go.Proofs
set_option maxRecDepth 20000
section
variable {w : World}
section
variable {g : OrG} {E : List Ev} {R : List Int}
theorem whyI_in {i j : Int} (h : 0 ≤ i ∧ i < j ∧ j < E.length) : whyI E R i j = Qi3 (evA E i.toNat) (evA E j.toNat) (roA R i.toNat) (roA R j.toNat) := by unfold whyI; rw [if_pos h]
theorem Jt4 {i j : Int} (h : ¬ (0 ≤ i ∧ i < j ∧ j < E.length)) : whyI E R i j = 0 := by unfold whyI; rw [if_neg h]
theorem evI_in {i : Int} (h : 0 ≤ i ∧ i < E.length) : evI E i = evA E i.toNat := by unfold evI; rw [if_pos h]
theorem oWhy_ret (h : OrB w g E R) (i j : Int) : Ret Tryz.prog 91 [ptr g.p, I i, I j] w (fun v w' => v = I (whyI E R i j) ∧ Kp [] w w') := by
 have hsm := h.small
 refine Ze Tryz.call91 Tryz.func91 ?_
 refine zS ?_
 refine Zc (Jk4 h i) ?_
 rintro v w1 ⟨rfl, k1⟩
 have h1 := h.kp0 k1
 refine zS ?_
 refine Za ?_
 intro ba w2 hba hu2
 refine Zs (cs := evC (evI E i)) rfl hu2.blk lR rfl (by simp [Value.oneCell']) ?_
 intro w3 hu3
 have k3 : Kp [] w1 w3 := (hu2.new oM).since (hu3.kp [ba] (.inl sI)) (by simp; omega)
 have hA3 : Blk w3 ba (evC (evI E i)) 86 := hu3.blk
 have h3 := h1.kp0 k3
 refine zS ?_
 refine Zc (Jk4 h3 j) ?_
 rintro v w4 ⟨rfl, k4⟩
 have h4 := h3.kp0 k4
 have hA4 := k4.b0 hA3
 refine zS ?_
 refine Za ?_
 intro bb w5 hbb hu5
 refine Zs (cs := evC (evI E j)) rfl hu5.blk lR rfl (by simp [Value.oneCell']) ?_
 intro w6 hu6
 have k6 : Kp [] w4 w6 := (hu5.new oM).since (hu6.kp [bb] (.inl sI)) (by simp; omega)
 have hB : Blk w6 bb (evC (evI E j)) 86 := hu6.blk
 have h6 := h4.kp0 k6
 have hA := k6.b0 hA4
 have kk : Kp [] w w6 := ((k1.trans k3).trans k4).trans k6
 refine zS ?_
 by_cases hi : 0 ≤ i ∧ i < E.length
 rotate_left
 ·refine o_is true 2 false rfl rfl rfl (by simp; omega) ?_
  refine zS ?_
  exact ⟨_, rfl, by rw [Jt4 oM], kk⟩
 refine o_is false 2 false rfl rfl rfl (by simp; omega) ?_
 refine zS ?_
 by_cases hj : 0 ≤ j ∧ j < E.length
 rotate_left
 ·refine o_is true 6 false rfl rfl rfl (by simp; omega) ?_
  refine zS ?_
  exact ⟨_, rfl, by rw [Jt4 oM], kk⟩
 refine o_is false 6 false rfl rfl rfl (by simp; omega) ?_
 refine zS ?_
 refine r_if rfl (fun hij => ?_) (fun hij => ?_)
 ·refine zS ?_
  exact ⟨_, rfl, by rw [Jt4 oM], kk⟩
 rw [evI_in hi] at hA
 rw [evI_in hj] at hB
 have hres : whyI E R i j = Qi3 (evA E i.toNat) (evA E j.toNat) (roA R i.toNat) (roA R j.toNat) := whyI_in ⟨hi.1, oM, hj.2⟩
 rw [hres]
 obtain ⟨rb, ro, hra, hri⟩ := h6.roat hi.1 hi.2
 obtain ⟨rb2, ro2, hra2, hrj⟩ := h6.roat hj.1 hj.2
 generalize evA E i.toNat = a at hA ⊢
 generalize evA E j.toNat = b at hB ⊢
 generalize roA R i.toNat = x at hri ⊢
 generalize roA R j.toNat = y at hrj ⊢
 rw [hra] at hra2
 cases hra2
 have hh := h6.hdr
 rw [hra] at hh
 refine zS ?_
 refine Zl (b := ba) (off := 1) (v := I a.t) rfl hA ?_
 refine zS ?_
 refine Zl (b := bb) (off := 1) (v := I b.t) rfl hB ?_
 refine zS ?_
 refine r_if rfl (fun c1 => ?_) (fun c1 => ?_)
 ·refine zS ?_
  exact ⟨_, rfl, by unfold Qi3; rw [if_pos c1], kk⟩
 refine zS ?_
 refine Jn9 [0, 1, 2, 7, 9] [ptr g.p, I i, I j, ptr ba, ptr bb] 39 (decide (a.k = 7 ∧ a.o = b.t)) (fun w' => w' = w6) ?_ ?_
 ·refine Zl (b := ba) (off := 0) (v := I a.k) rfl hA ?_
  refine zO ?_
  by_cases q : a.k = 7
  ·refine o_is true 3 true rfl rfl rfl (by simp [q]) ?_
   refine zO ?_
   refine Zl (b := ba) (off := 2) (v := I a.o) rfl hA ?_
   refine zO ?_
   refine Zl (b := bb) (off := 1) (v := I b.t) rfl hB ?_
   refine zO ?_
   exact ⟨rfl, ⟨_, rfl, by simp [q]⟩, rfl⟩
  ·refine o_is false 3 true rfl rfl rfl (by simp [q]) ?_
   refine zO ?_
   exact ⟨rfl, ⟨_, rfl, by simp [q]⟩, rfl⟩
 rintro e w7 rfl
 refine zS ?_
 refine r_if rfl (fun c2 => ?_) (fun c2 => ?_)
 ·refine zS ?_
  exact ⟨_, rfl, by unfold Qi3; rw [if_neg c1, if_pos c2], kk⟩
 refine zS ?_
 refine Jn9 [0, 1, 2, 7, 9] [ptr g.p, I i, I j, ptr ba, ptr bb] 50 (decide (b.k = 8 ∧ b.o = a.t)) (fun w' => w' = w7) ?_ ?_
 ·refine Zl (b := bb) (off := 0) (v := I b.k) rfl hB ?_
  refine zO ?_
  by_cases q : b.k = 8
  ·refine o_is true 3 true rfl rfl rfl (by simp [q]) ?_
   refine zO ?_
   refine Zl (b := bb) (off := 2) (v := I b.o) rfl hB ?_
   refine zO ?_
   refine Zl (b := ba) (off := 1) (v := I a.t) rfl hA ?_
   refine zO ?_
   exact ⟨rfl, ⟨_, rfl, by simp [q]⟩, rfl⟩
  ·refine o_is false 3 true rfl rfl rfl (by simp [q]) ?_
   refine zO ?_
   exact ⟨rfl, ⟨_, rfl, by simp [q]⟩, rfl⟩
 rintro e w8 rfl
 refine zS ?_
 refine r_if rfl (fun c3 => ?_) (fun c3 => ?_)
 ·refine zS ?_
  exact ⟨_, rfl, by unfold Qi3; rw [if_neg c1, if_neg c2, if_pos c3], kk⟩
 refine zS ?_
 refine Zl (b := ba) (off := 2) (v := I a.o) rfl hA ?_
 refine zS ?_
 refine Zl (b := bb) (off := 2) (v := I b.o) rfl hB ?_
 refine zS ?_
 by_cases c4 : a.o = b.o
 rotate_left
 ·refine Jf7 rfl (by simp [c4]) ?_
  refine zS ?_
  exact ⟨_, rfl, by unfold Qi3; rw [if_neg c1, if_neg c2, if_neg c3, if_pos c4], kk⟩
 refine r_no rfl (by simp [c4]) ?_
 have hw : Qi3 a b x y = if a.k = 6 ∧ b.k = 5 then 2 else if a.k = 4 ∧ b.k = 3 then 3 else if a.k = 9 ∧ b.k = 10 then (if x = y then 6 else 0) else 0 := by
  unfold Qi3; rw [if_neg c1, if_neg c2, if_neg c3, if_neg (fun h => h c4)]
 rw [hw]
 refine zS ?_
 refine Zl (b := ba) (off := 0) (v := I a.k) rfl hA ?_
 refine zS ?_
 refine Zl (b := bb) (off := 0) (v := I b.k) rfl hB ?_
 refine zS ?_
 refine Qd6 [I a.k, I b.k] rfl rfl rfl rfl rfl rfl rfl ?_
 refine zS ?_
 refine Qd6 [I 6, I 5] rfl rfl rfl rfl rfl rfl rfl ?_
 refine o_eqA a.k b.k 6 5 rfl rfl rfl rfl rfl rfl kR rfl rfl ?_
 refine zS ?_
 have heq : ∀ p q : Int, Jl7 [a.k, b.k] [p, q] = decide (a.k = p ∧ b.k = q) := fun p q => by
  rw [Bool.eq_iff_iff, Qn9, decide_eq_true_eq]; simp
 rw [heq]
 refine r_if rfl (fun c5 => ?_) (fun c5 => ?_)
 ·refine zS ?_
  exact ⟨_, rfl, by rw [if_pos c5], kk⟩
 refine zS ?_
 refine Qd6 [I 4, I 3] rfl rfl rfl rfl rfl rfl rfl ?_
 refine o_eqA a.k b.k 4 3 rfl rfl rfl rfl rfl rfl kR rfl rfl ?_
 refine zS ?_
 rw [heq]
 refine r_if rfl (fun c6 => ?_) (fun c6 => ?_)
 ·refine zS ?_
  exact ⟨_, rfl, by rw [if_neg c5, if_pos c6], kk⟩
 refine zS ?_
 refine Qd6 [I 9, I 10] rfl rfl rfl rfl rfl rfl rfl ?_
 refine o_eqA a.k b.k 9 10 rfl rfl rfl rfl rfl rfl kR rfl rfl ?_
 refine zS ?_
 rw [heq]
 refine r_if rfl (fun c7 => ?_) (fun c7 => ?_)
 ·refine Ja9 ?_
  refine Jd1 Ja0 kR ?_
  refine zQ ?_
  refine Zq (v := .slice (some ⟨rb, ro, none⟩) R.length g.rcap) rfl (fun w hs => (hs.blk hh).cell rfl) ?_
  have hlr := h6.lr
  refine zQ ?_
  refine Zq (b := rb) (off := ro + i.toNat) (v := I x) rfl (fun w hs => hri w (hs.kp [])) ?_
  refine zQ ?_
  refine Zq (v := .slice (some ⟨rb, ro, none⟩) R.length g.rcap) rfl (fun w hs => (hs.blk hh).cell rfl) ?_
  refine zQ ?_
  refine Zq (b := rb) (off := ro + j.toNat) (v := I y) rfl (fun w hs => hrj w (hs.kp [])) ?_
  refine zQ ?_
  intro w9 hs9
  refine r_if rfl (fun c8 => ?_) (fun c8 => ?_)
  ·refine zS ?_
   exact ⟨_, rfl, by rw [if_neg c5, if_neg c6, if_pos c7, if_pos c8], kk.trans (hs9.kp [])⟩
  ·refine zS ?_
   exact ⟨_, rfl, by rw [if_neg c5, if_neg c6, if_pos c7, if_neg c8], kk.trans (hs9.kp [])⟩
 ·refine zS ?_
  exact ⟨_, rfl, by rw [if_neg c5, if_neg c6, if_neg c7], kk⟩
end
end
section
variable {w : World}
def OrG.F (g : OrG) : List Nat := g.p :: (Ja1 g.ead ++ (Ja1 g.rad ++ Jd3 g.rp g.mad g.bs))
structure OrAt (w : World) (g : OrG) (E : List Ev) (R : List Int) : Prop extends OrB w g E R where
 rel : ZAt w g.rp E.length g.bs g.M g.mad g.mcap
 bits : ∀ i j, bitM g.M i j = true ↔ Ch (lk E R) i j
 fl : ∀ b, b ∈ g.F → b < w.heap.size
theorem OrAt.kp {w' : World} {S : List Nat} {g : OrG} {E : List Ev} {R : List Int} (h : OrAt w g E R) (hk : Kp S w w') (hS : ∀ b, b ∈ g.F → b ∉ S) : OrAt w' g E R :=
 ⟨h.toOrB.kp hk (fun b hb => hS b (by
  simp only [OrG.F, List.mem_cons, List.mem_append] at hb ⊢
  rcases hb with rfl | hb | hb
  ·exact .inl rfl
  ·exact .inr (.inl hb)
  ·exact .inr (.inr (.inl hb)))), h.rel.kp hk (fun b hb => hS b (by simp [OrG.F, hb])), h.bits, fun b hb => Nat.lt_of_lt_of_le (h.fl b hb) hk.size⟩
theorem OrAt.kp0 {w' : World} {g : OrG} {E : List Ev} {R : List Int} (h : OrAt w g E R) (hk : Kp [] w w') : OrAt w' g E R := h.kp hk sI
theorem OrAt.sm {w' : World} {g : OrG} {E : List Ev} {R : List Int} (h : OrAt w g E R) (hk : Sm w w') : OrAt w' g E R := h.kp0 (hk.kp [])
section
variable {g : OrG} {E : List Ev} {R : List Int}
theorem befI_linked (h : OrAt w g E R) (i j : Int) : Jr7 E.length g.M i j = befI E R i j := by
 rw [Bool.eq_iff_iff, befI_iff]
 unfold Jr7 Jv2
 simp only [Bool.and_eq_true, decide_eq_true_eq, h.bits]
 constructor
 ·rintro ⟨⟨⟨a, _⟩, b, _⟩, c⟩; exact ⟨a, b, c⟩
 ·rintro ⟨a, b, c⟩
  have := ch_lt c
  exact ⟨⟨⟨a, oM⟩, b, oM⟩, c⟩
theorem Jv6 (h : OrAt w g E R) (i j : Int) : Ret Tryz.prog 188 [ptr g.p, I i, I j] w (fun v w' => v = .bool (befI E R i j) ∧ w' = w) := by
 have hsm := h.small
 refine Ze Tryz.call188 Tryz.func188 ?_
 refine zS ?_
 refine Zc (Jy9 h.toOrB) ?_
 rintro v w1 ⟨rfl, rfl⟩
 refine zS ?_
 by_cases h0 : 0 < E.length
 ·refine o_is true 3 true rfl rfl rfl (decide_eq_true oM) ?_
  refine zS ?_
  refine Zl rfl h.hdr ?_
  refine zS ?_
  refine Zc (Qf6 h.rel i j) ?_
  rintro v w1 ⟨rfl, rfl⟩
  refine zS ?_
  exact ⟨_, rfl, by rw [befI_linked h], rfl⟩
 ·refine o_is false 3 true rfl rfl rfl (decide_eq_false oM) ?_
  refine zS ?_
  refine ⟨_, rfl, ?_, rfl⟩
  have : befI E R i j = false := by
   rw [Bool.eq_false_iff]
   intro hb
   have := Jv9 hb; omega
  rw [this]
noncomputable def Qm8 (E : List Ev) (R : List Int) (i j : Int) : Bool := decide (0 ≤ i ∧ i < E.length) && (decide (0 ≤ j ∧ j < E.length) && (decide (i ≠ j) && (!befI E R i j && !befI E R j i)))
theorem oAside_ret (h : OrAt w g E R) (i j : Int) : Ret Tryz.prog 199 [ptr g.p, I i, I j] w (fun v w' => v = .bool (Qm8 E R i j) ∧ Kp [] w w') := by
 refine Ze Tryz.call199 Tryz.func199 ?_
 refine zS ?_
 refine Zc (Jk4 h.toOrB i) ?_
 rintro v w1 ⟨rfl, k1⟩
 have h1 := h.kp0 k1
 refine zS ?_
 refine Za ?_
 intro ba w2 hba hu2
 refine Zs (cs := evC (evI E i)) rfl hu2.blk lR rfl (by simp [Value.oneCell']) ?_
 intro w3 hu3
 have k3 : Kp [] w1 w3 := (hu2.new oM).since (hu3.kp [ba] (.inl sI)) (by simp; omega)
 have h3 := h1.kp0 k3
 refine zS ?_
 refine Zc (Jk4 h3.toOrB j) ?_
 rintro v w4 ⟨rfl, k4⟩
 have h4 := h3.kp0 k4
 refine zS ?_
 refine Za ?_
 intro bb w5 hbb hu5
 refine Zs (cs := evC (evI E j)) rfl hu5.blk lR rfl (by simp [Value.oneCell']) ?_
 intro w6 hu6
 have k6 : Kp [] w4 w6 := (hu5.new oM).since (hu6.kp [bb] (.inl sI)) (by simp; omega)
 have h6 := h4.kp0 k6
 have kk : Kp [] w w6 := ((k1.trans k3).trans k4).trans k6
 refine zS ?_
 unfold Qm8
 by_cases hi : 0 ≤ i ∧ i < E.length
 rotate_left
 ·rw [decide_eq_false hi]
  refine zS ?_
  exact ⟨_, rfl, rfl, kk⟩
 rw [decide_eq_true hi]
 refine zS ?_
 by_cases hj : 0 ≤ j ∧ j < E.length
 rotate_left
 ·rw [decide_eq_false hj]
  refine zS ?_
  exact ⟨_, rfl, rfl, kk⟩
 rw [decide_eq_true hj]
 refine zS ?_
 by_cases hij : i = j
 ·refine o_is false 9 true rfl rfl rfl (by simp [hij]) ?_
  refine zS ?_
  exact ⟨_, rfl, by simp [hij], kk⟩
 refine o_is true 9 true rfl rfl rfl (by simp [hij]) ?_
 rw [decide_eq_true (show i ≠ j from hij)]
 refine zS ?_
 refine Zc (Jv6 h6 i j) ?_
 rintro v w7 ⟨rfl, rfl⟩
 cases hb : befI E R i j with
 | true =>
  refine zS ?_
  exact ⟨_, rfl, rfl, kk⟩
 | false =>
  refine zS ?_
  refine Zc (Jv6 h6 j i) ?_
  rintro v w7 ⟨rfl, rfl⟩
  refine zS ?_
  exact ⟨_, rfl, rfl, kk⟩
end
end
section
variable {w : World}
def runC (s : Shp) (l : List Ev) (i : Nat) : Ck := (l.take i).foldl (Jl2 s) (newC s)
theorem Qh3 {s : Shp} {l : List Ev} {i : Nat} {x : Ev} (h : l[i]? = some x) : runC s l (i + 1) = Jl2 s (runC s l i) x := by
 unfold runC; rw [List.take_add_one, h, List.foldl_append]; rfl
theorem runC_n {s : Shp} {l : List Ev} : ∀ i, i ≤ l.length → (runC s l i).n = i
 | 0, _ => rfl
 | i + 1, h => by
  obtain ⟨e, he⟩ : ∃ e, l[i]? = some e := ⟨_, List.getElem?_eq_getElem oM⟩
  rw [Qh3 he, nextC_n, runC_n i oM]
def okTo (s : Shp) (l : List Ev) (i : Nat) : Prop := ∀ j x, j < i → l[j]? = some x → canB s (runC s l j) x = true
def rnd (c : Ck) (x : Ev) : Int := if x.k = 10 then (st c x.t).ro else if x.k = 9 then (opIn c x.o).1 else 0
def rnds (s : Shp) (l : List Ev) (i : Nat) : List Int := (List.range i).map fun j => rnd (runC s l j) (evA l j)
theorem Qd3 (s : Shp) (l : List Ev) (i : Nat) : (rnds s l i).length = i := by simp [rnds]
theorem rnds_succ {s : Shp} {l : List Ev} {i : Nat} {x : Ev} (h : l[i]? = some x) : rnds s l (i + 1) = rnds s l i ++ [rnd (runC s l i) x] := by
 have : evA l i = x := by unfold evA; rw [h]; rfl
 unfold rnds
 rw [List.range_succ, List.map_append, List.map_singleton, this]
def badO (s : Shp) (l : List Ev) (e : Int) : Prop := (e = 5 ∧ Jf2 s = false) ∨ (e = 3 ∧ Jf2 s = true ∧ 2048 < l.length) ∨ (e = 6 ∧ Jf2 s = true ∧ l.length ≤ 2048 ∧ ¬ okTo s l l.length)
theorem CloneE_ret {ad : Option Addr} {l : List Ev} {cap : Nat} (h : Ja7 w ad (evsC l)) (hl : l.length ≤ 1048576) :
  Ret Tryz.prog 86 [.slice ad l.length cap] w (fun v w' => ∃ ad' cap', v = .slice ad' l.length cap' ∧ OwnS w' 86 3 ad' l.length cap' (evsC l) ∧ Kp [] w w' ∧ ∀ b, b ∈ Ja1 ad' → w.heap.size ≤ b) := by
 have hlen := Jt5 l
 refine Ze Tryz.call86 Tryz.func86 ?_
 refine zS ?_
 cases ad with
 | none =>
  have h0 : evsC l = [] := by simpa [Ja7] using h
  have hl0 : l = [] := by
   apply List.eq_nil_of_length_eq_zero
   rw [h0] at hlen; simp at hlen; omega
  subst hl0
  refine zS ?_
  exact ⟨_, rfl, none, 0, rfl, Jd6 _ _ _, Kp.refl _ _, by simp [Ja1]⟩
 | some a =>
  refine zS ?_
  refine Jf0 rfl rfl rfl rfl ?_
  intro b w1 hb hu1
  have k1 : Kp [] w w1 := hu1.new oM
  have ho1 : OwnS w1 86 3 (some ⟨b, 0, none⟩) 0 0 [] := ⟨rfl, rfl, rfl, lR, by simp [maxLen], [], hu1.blk, rfl⟩
  refine zS ?_
  by_cases h0 : l.length = 0
  ·have hws : l = [] := List.eq_nil_of_length_eq_zero h0
   subst hws
   refine Qf5 (ad := some ⟨b, 0, none⟩) (k := 0) (cap := 0) (ay := some a) (cy := cap) rfl rfl lR rfl rfl rfl rfl ?_
   refine zS ?_
   exact ⟨_, rfl, _, 0, rfl, ho1, k1, by simp [Ja1]; omega⟩
  ·refine Jo0 (evsC l) rfl rfl ho1 ?_ rfl rfl rfl oM hlen oM ?_ (by simp only [maxLen]; omega) oM rfl rfl ?_
   ·intro j v hv
    exact (h.kp k1 sI) j v hv
   ·intro v hv
    obtain ⟨x, _, hx⟩ := List.mem_flatMap.1 hv
    simp [evC] at hx
    rcases hx with rfl | rfl | rfl <;> rfl
   intro ad2 cap2 w2 ho2 k2 hnew
   refine zS ?_
   rw [Nat.zero_add] at ho2
   refine ⟨_, rfl, ad2, cap2, by rw [Nat.zero_add], ho2, k1.since k2 (by simp [Ja1]; omega), fun c hc => ?_⟩
   rcases hnew c hc with h1 | h1
   ·simp [Ja1] at h1; omega
   ·have := hu1.size; omega
def InTo (E : List Ev) (R : List Int) (j i : Nat) (a b : Nat) : Prop := (b < j ∨ (b = j ∧ a < i)) ∧ lk E R a b
instance (E : List Ev) (R : List Int) (j i a b : Nat) : Decidable (InTo E R j i a b) := inferInstanceAs (Decidable (_ ∧ _))
theorem ZTo.kp0 {w1 w2 : World} {p n : Nat} {bs : List Nat} {ad : Option Addr} {cap : Nat} {M1 : List (List Nat)} (h : ZTo w p n bs ad cap w1 M1) (k : Kp [] w1 w2) : ZTo w p n bs ad cap w2 M1 := ⟨h.at_.kp0 k, h.kp.trans (k.mono sI)⟩
theorem in_succ {E : List Ev} {R : List Int} {j i a b : Nat} : InTo E R j (i + 1) a b ↔ InTo E R j i a b ∨ ((a = i ∧ b = j) ∧ lk E R a b) := by
 unfold InTo
 constructor
 ·rintro ⟨h, hl⟩
  by_cases q : a = i ∧ b = j
  ·exact .inr ⟨q, hl⟩
  ·exact .inl ⟨oM, hl⟩
 ·rintro (⟨h, hl⟩ | ⟨h, hl⟩)
  ·exact ⟨oM, hl⟩
  ·exact ⟨oM, hl⟩
theorem in_row {E : List Ev} {R : List Int} {j a b : Nat} : InTo E R j j a b ↔ InTo E R (j + 1) 0 a b := by
 unfold InTo
 constructor
 ·rintro ⟨h, hl⟩; exact ⟨oM, hl⟩
 ·rintro ⟨h, hl⟩; have := lk_lt hl; exact ⟨oM, hl⟩
theorem in_all {E : List Ev} {R : List Int} {a b : Nat} : InTo E R E.length 0 a b ↔ lk E R a b := by
 unfold InTo
 constructor
 ·rintro ⟨_, hl⟩; exact hl
 ·intro hl; have := lk_lt hl; exact ⟨oM, hl⟩
theorem oNew_ret {s : Shp} {l : List Ev} {pad ead : Option Addr} {cap ecap : Nat} (hr : Ja7 w pad (s.pa.map I)) (hpl : s.pa.length ≤ 1048576) (he : Ja7 w ead (evsC l)) (hl : l.length ≤ 1048576) :
  Ret Tryz.prog 46 [.agg ⟨shC s pad cap⟩, .slice ead l.length ecap] w (fun v w' =>
   (∃ e, badO s l e ∧ v = .tuple #[.pointer none, I e] ∧ Kp [] w w') ∨
   (Jf2 s = true ∧ l.length ≤ 2048 ∧ okTo s l l.length ∧ ∃ g, v = .tuple #[ptr g.p, I 0] ∧ OrAt w' g l (rnds s l l.length) ∧ Kp [] w w' ∧ ∀ b, b ∈ g.F → w.heap.size ≤ b)) := by
 have hel := Jt5 l
 refine Ze Tryz.call46 Tryz.func46 ?_
 refine zS ?_
 refine Zx ?_
 intro bx w1 hbx hu1
 have hB1 : Blk w1 bx (shC s pad cap) 27 := hu1.blk
 have k1 : Kp [] w w1 := hu1.new oM
 refine zS ?_
 refine Zm (vs := shC s pad cap) rfl (fun j v hv => ?_) ?_
 ·rw [Nat.zero_add]; exact hB1.cell hv
 refine zS ?_
 refine Zc (fNew_ret (hr.kp k1 sI) hpl) ?_
 rintro v w2 (⟨hs, rfl, k2⟩ | ⟨hs, gc, rfl, hck2, k2, hn2⟩)
 ·refine zS ?_
  exact ⟨_, rfl, .inl ⟨5, .inl ⟨rfl, hs⟩, rfl, k1.trans k2⟩⟩
 refine zS ?_
 refine r_if rfl (fun hlong => ?_) (fun hlong => ?_)
 ·refine zS ?_
  exact ⟨_, rfl, .inl ⟨3, .inr (.inl ⟨rfl, hs, oM⟩), rfl, k1.trans k2⟩⟩
 have hn : l.length ≤ 2048 := oM
 have k02 := k1.trans k2
 refine zS ?_
 refine Zc (CloneE_ret (he.kp k02 sI) hl) ?_
 rintro v w3 ⟨ead', ecap', rfl, ho3, k3, hn3⟩
 refine zS ?_
 refine Zb [.slice ead' l.length ecap', .slice none 0 0, .pointer none] ?_
 refine Zx ?_
 intro op w4 hop hu4
 have k4 : Kp [] w3 w4 := hu4.new oM
 have hO4 : Blk w4 op [.slice ead' l.length ecap', .slice none 0 0, .pointer none] 186 := hu4.blk
 have k04 := (k02.trans k3).trans k4
 have hckF : ∀ b, b ∈ gc.F → b < w2.heap.size := hck2.toCkM.lt
 have z2 := k02.size
 have z1 := k1.size
 have z3 := k3.size
 have z4 := hO4.lt
 have hck4 := (hck2.kp0 k3).kp0 k4
 have hE4 : Ja7 w4 ead' (evsC l) := ho3.readN.kp k4 sI
 refine zS ?_
 refine Jb4 (α := Nat) [1, 6, 8, 35, 36, 37] (fun i => [.slice ead l.length ecap, ptr gc.p, ptr op, .slice ead l.length ecap, I l.length, I i])
  (fun i wc => i ≤ l.length ∧ okTo s l i ∧ CkAt wc gc s (runC s l i) ∧ Ja7 wc ead' (evsC l) ∧ Kp [] w wc ∧ w4.heap.size ≤ wc.heap.size ∧ ∃ rad rcap, Blk wc op [.slice ead' l.length ecap', .slice rad i rcap, .pointer none] 186 ∧ OwnS wc 3 1 rad i rcap ((rnds s l i).map I) ∧ ∀ b, b ∈ Ja1 rad → w4.heap.size ≤ b)
  (fun i => l.length - i) 0 rfl ⟨oM, fun j x hj => oM, hck4, hE4, k04, lR, none, 0, hO4, Jd6 _ _ _, by simp [Ja1]⟩ ?_
 rintro i e wc ⟨hi, hok, hck, hEc, kc, hzc, rad, rcap, hO, hR, hRn⟩
 refine zS ?_
 refine r_if rfl (fun hc => ?_) (fun hc => ?_)
 ·have hlt : i < l.length := oM
  obtain ⟨x, hx⟩ : ∃ x, l[i]? = some x := ⟨_, List.getElem?_eq_getElem hlt⟩
  obtain ⟨b0, off0, rfl, hb0, hcell⟩ := he.at_ (by rw [hel]; omega)
  refine zS ?_
  refine Zm (b := b0) (off := off0 + i * 3) (vs := evC x) rfl (fun j v hv => ?_) ?_
  ·rw [Nat.add_assoc, ← hcell _ _ (Jq0 hx j v hv)]
   exact World.cell?_of_block (kc.at_ b0 hb0 sI)
  refine zS ?_
  refine Za ?_
  intro be w5 hbe hu5
  refine Zs (cs := evC x) rfl hu5.blk lR rfl (by simp [Value.oneCell']) ?_
  intro w6 hu6
  have k6 : Kp [] wc w6 := (hu5.new oM).since (hu6.kp [be] (.inl sI)) (by simp; omega)
  have hBe : Blk w6 be (evC x) 86 := hu6.blk
  have hbe6 := hBe.lt
  have hck6 := hck.kp0 k6
  have hO6 := k6.b0 hO
  have hwc := hO.lt
  refine zS ?_
  refine Zl (b := be) (off := 0) (v := I x.k) rfl hBe ?_
  refine zS ?_
  refine Jd8 (α := Int) [1, 6, 8, 10, 11, 35, 36, 37] (fun r => [.slice (some ⟨b0, off0, none⟩) l.length ecap, ptr gc.p, ptr op, ptr be, I r, .slice (some ⟨b0, off0, none⟩) l.length ecap, I l.length, I i]) (fun r w' => r = (if x.k = 9 then (opIn (runC s l i) x.o).1 else 0) ∧ Kp [] w6 w') ?_ ?_
  ·refine r_if rfl (fun h9 => ?_) (fun h9 => ?_)
   ·refine zS ?_
    refine Zl (b := be) (off := 2) (v := I x.o) rfl hBe ?_
    refine zS ?_
    refine Zc (Round_ret hck6 x.o) ?_
    rintro v w7 ⟨rfl, k7⟩
    refine zS ?_
    refine Za ?_
    intro bo w8 hbo hu8
    refine Zs (cs := opC2 (opIn (runC s l i) x.o)) rfl hu8.blk lR rfl (by simp [Value.oneCell']) ?_
    intro w9 hu9
    have k9 : Kp [] w7 w9 := (hu8.new oM).since (hu9.kp [bo] (.inl sI)) (by simp; omega)
    have hBo : Blk w9 bo (opC2 (opIn (runC s l i) x.o)) 131 := hu9.blk
    refine zS ?_
    refine Zl (b := bo) (off := 0) (v := I (opIn (runC s l i) x.o).1) rfl hBo ?_
    refine zS ?_
    exact ⟨_, rfl, by rw [if_pos h9], k7.trans k9⟩
   ·refine zS ?_
    exact ⟨0, rfl, by rw [if_neg h9], Kp.refl _ _⟩
  rintro r e w10 ⟨hr10, k10⟩
  have hBe10 := k10.b0 hBe
  have hck10 := hck6.kp0 k10
  refine zS ?_
  refine Zl (b := be) (off := 0) (v := I x.k) rfl hBe10 ?_
  refine zS ?_
  refine Jd8 (α := Int) [1, 6, 8, 10, 11, 35, 36, 37] (fun r => [.slice (some ⟨b0, off0, none⟩) l.length ecap, ptr gc.p, ptr op, ptr be, I r, .slice (some ⟨b0, off0, none⟩) l.length ecap, I l.length, I i]) (fun r w' => r = rnd (runC s l i) x ∧ Kp [] w10 w') ?_ ?_
  ·refine r_if rfl (fun h10 => ?_) (fun h10 => ?_)
   ·refine zS ?_
    refine Zl (b := be) (off := 1) (v := I x.t) rfl hBe10 ?_
    refine zS ?_
    refine Zc (Stand_ret hck10 x.t) ?_
    rintro v w7 ⟨rfl, k7⟩
    refine zS ?_
    refine Za ?_
    intro bo w8 hbo hu8
    refine Zs (cs := stdC (st (runC s l i) x.t)) rfl hu8.blk lR rfl (by simp [Value.oneCell']) ?_
    intro w9 hu9
    have k9 : Kp [] w7 w9 := (hu8.new oM).since (hu9.kp [bo] (.inl sI)) (by simp; omega)
    have hBo : Blk w9 bo (stdC (st (runC s l i) x.t)) 136 := hu9.blk
    refine zS ?_
    refine Zl (b := bo) (off := 2) (v := I (st (runC s l i) x.t).ro) rfl hBo ?_
    refine zS ?_
    exact ⟨_, rfl, by unfold rnd; rw [if_pos h10], k7.trans k9⟩
   ·refine zS ?_
    exact ⟨r, rfl, by unfold rnd; rw [if_neg h10]; exact hr10, Kp.refl _ _⟩
  rintro r2 e w11 ⟨rfl, k11⟩
  have hBe11 := k11.b0 hBe10
  have hck11 := hck10.kp0 k11
  have k611 := k10.trans k11
  have hn11 := runC_n (s := s) (l := l) i hi
  refine zS ?_
  refine Zm (vs := evC x) rfl hBe11.cs ?_
  refine zS ?_
  refine Zc (fNext_ret hck11 x oM) ?_
  rintro v w12 (⟨hcan, rfl, hck12, k12⟩ | ⟨hcan, rfl, k12⟩)
  rotate_left
  ·refine zS ?_
   refine ⟨_, rfl, .inl ⟨6, .inr (.inr ⟨rfl, hs, hn, fun hall => ?_⟩), rfl, ((kc.trans k6).trans k611).trans k12⟩⟩
   have := hall i x hlt hx
   rw [this] at hcan; cases hcan
  have k12 : Kp gc.F w11 w12 := k12.mono (fun b hb => CkG.W_F hb)
  have hopF : op ∉ gc.F := fun hb => by have := hckF op hb; omega
  have hO12 := k12.blk hopF (k611.b0 hO6)
  have hcn : ∀ b, b ∈ gc.F → w.heap.size ≤ b := fun b hb => by have := hn2 b hb; omega
  have k12w : Kp [] w w12 := ((kc.trans k6).trans k611).since k12 hcn
  have hE12 : Ja7 w12 ead' (evsC l) := ((hEc.kp k6 sI).kp k611 sI).kp k12 (fun b hb hb2 => by have := hn3 b hb; have := hckF b hb2; omega)
  have hR12 : OwnS w12 3 1 rad i rcap ((rnds s l i).map I) := ((hR.kp k6 sI).kp k611 sI).kp k12 (fun b hb hb2 => by have := hRn b hb; have := hckF b hb2; omega)
  refine zS ?_
  refine Zl (v := .slice rad i rcap) rfl hO12 ?_
  refine zS ?_
  refine Zu [I (rnd (runC s l i) x)] rfl (by simp [Value.oneCell']) rfl dE dE ?_
  intro b13 w13 hb13 hu13
  have k13 : Kp [] w12 w13 := hu13.new oM
  refine Jh3 rfl rfl (hR12.kp k13 sI) hu13.blk rfl rfl rfl rfl (by simp only [maxLen]; omega) oM rfl rfl ?_
  intro ad14 cap14 w14 ho14 k14 hn14
  have hop14 : op ∉ Ja1 rad := fun hb => by have := hRn op hb; omega
  have hO14 := k14.blk hop14 (k13.b0 hO12)
  refine zS ?_
  refine Zt (b := op) (off := 1) (v := .slice ad14 (i + 1) cap14) (c := none) rfl hO14 sI ?_
  intro w15 hu15
  have k15 : Kp [op] w14 w15 := hu15.kp _ (.inl sI)
  have hO15 : Blk w15 op [.slice ead' l.length ecap', .slice ad14 (i + 1) cap14, .pointer none] 186 := hu15.blk
  have z12 : w4.heap.size ≤ w12.heap.size := by have := k6.size; have := k611.size; have := k12.size; omega
  have z13 := k13.size
  have z14 := k14.size
  have z15 := k15.size
  have hn14' : ∀ b, b ∈ Ja1 ad14 → w4.heap.size ≤ b := fun b hb => by
   rcases hn14 b hb with q | q
   ·exact hRn b q
   ·omega
  have kw15 : Kp [] w w15 := ((k12w.trans k13).since k14 (fun b hb => by have := hRn b hb; have := kc.size; omega)).since k15 (fun b hb => by simp at hb; omega)
  refine zS ?_
  refine ⟨i + 1, rfl, ⟨oM, fun j y hj hy => ?_, ?_, ?_, kw15, oM, ad14, cap14, hO15, ?_, hn14'⟩, oM⟩
  ·by_cases hji : j = i
   ·subst hji; rw [hx] at hy; cases hy; exact hcan
   ·exact hok j y oM hy
  ·rw [Qh3 hx]
   exact ((hck12.kp0 k13).kp k14 (fun b hb hb2 => by have := hckF b hb; have := hRn b hb2; omega)).kp k15 (fun b hb hb2 => by simp at hb2; subst hb2; exact hopF hb)
  ·exact ((hE12.kp k13 sI).kp k14 (fun b hb hb2 => by have := hRn b hb2; have := ho3.lt b hb; omega)).kp k15 (fun b hb hb2 => by simp at hb2; have := ho3.lt b hb; omega)
  ·rw [rnds_succ hx, List.map_append]
   exact ho14.kp k15 (fun b hb hb2 => by simp at hb2; have := hn14' b hb; omega)
 ·have hin : i = l.length := oM
  subst hin
  have zc := kc.size
  refine zS ?_
  refine Zc (Qc1 (n := l.length) hn) ?_
  rintro v w5 ⟨rp, bs, mad, mcap, rfl, hz5⟩
  have k5 := hz5.kp
  have hO5 := k5.b0 hO
  have hRel5 : ∀ b, b ∈ Jd3 rp mad bs → wc.heap.size ≤ b := hz5.new
  refine zS ?_
  refine Zt (b := op) (off := 2) (v := ptr rp) (c := none) rfl hO5 sI ?_
  intro w6 hu6
  have k6 : Kp [op] w5 w6 := hu6.kp _ (.inl sI)
  have hO6 : Blk w6 op [.slice ead' l.length ecap', .slice rad l.length rcap, ptr rp] 186 := hu6.blk
  have hoplt := hO.lt
  have hz6 : ZAt w6 rp l.length bs (zeroM l.length) mad mcap := hz5.at_.kp k6 (fun b hb hb2 => by simp at hb2; have := hRel5 b hb; omega)
  have hElt := hEc.at_
  have hE6 : Ja7 w6 ead' (evsC l) := (hEc.kp k5 sI).kp k6 (fun b hb hb2 => by simp at hb2; have := ho3.lt b hb; omega)
  have hR6 : OwnS w6 3 1 rad l.length rcap ((rnds s l l.length).map I) := (hR.kp k5 sI).kp k6 (fun b hb hb2 => by simp at hb2; have := hRn b hb; omega)
  have hB6 : ∀ M, OrB w6 ⟨op, ead', ecap', rad, rcap, rp, bs, M, mad, mcap⟩ l (rnds s l l.length) := fun M => ⟨by rw [Qd3]; exact hO6, hE6, hR6.read, Qd3 _ _ _, hn⟩
  have hRlt : ∀ b, b ∈ Ja1 rad → b < wc.heap.size := hR.lt
  have hdis : ∀ M b, b ∈ op :: (Ja1 (OrG.mk op ead' ecap' rad rcap rp bs M mad mcap).ead ++ Ja1 (OrG.mk op ead' ecap' rad rcap rp bs M mad mcap).rad) → b ∉ Jd3 rp mad bs := fun M b hb hb2 => by
   have := hRel5 b hb2
   simp only [List.mem_cons, List.mem_append] at hb
   rcases hb with rfl | hb | hb
   ·omega
   ·have := ho3.lt b hb; omega
   ·have := hRlt b hb; omega
  generalize hRs : rnds s l l.length = Rs at *
  refine zS ?_
  refine Jb4 (α := Nat) [8, 93, 94] (fun j => [ptr op, I l.length, I j]) (fun j w' => j ≤ l.length ∧ ∃ M, ZTo w6 rp l.length bs mad mcap w' M ∧ ∀ a b, bitM M a b = decide (InTo l Rs j 0 a b)) (fun j => l.length - j) 0 rfl ⟨oM, _, ZTo.refl hz6, fun a b => by rw [bitM_zero, decide_eq_false]; rintro ⟨h, _⟩; omega⟩ ?_
  rintro j e w7 ⟨hj, M7, h7, hb7⟩
  refine zS ?_
  refine r_if rfl (fun hc7 => ?_) (fun hc7 => ?_)
  ·have hjl : j < l.length := oM
   refine zS ?_
   refine Jb4 (α := Nat) [8, 16, 93, 94, 97, 98] (fun i => [ptr op, I j, I l.length, I j, I j, I i]) (fun i w' => i ≤ j ∧ ∃ M, ZTo w6 rp l.length bs mad mcap w' M ∧ ∀ a b, bitM M a b = decide (InTo l Rs j i a b)) (fun i => j - i) 0 rfl ⟨oM, M7, h7, hb7⟩ ?_
   rintro i e w8 ⟨hi8, M8, h8, hb8⟩
   refine zS ?_
   refine r_if rfl (fun hc8 => ?_) (fun hc8 => ?_)
   ·have hij : i < j := oM
    have hB8 := (hB6 M8).kp h8.kp (hdis M8)
    refine zS ?_
    refine Zc (oWhy_ret hB8 i j) ?_
    rintro v w9 ⟨rfl, k9⟩
    have h9 := h8.kp0 k9
    refine zS ?_
    by_cases hl0 : lk l Rs i j
    ·refine Jf7 rfl (by simpa [lk] using hl0) ?_
     have hB9 := hB8.kp0 k9
     refine zS ?_
     refine Zl (v := ptr rp) rfl hB9.hdr ?_
     refine zS ?_
     refine Zc (zLink_ret h9.at_ (i := i) (j := j) oM hjl) ?_
     rintro v w10 ⟨rfl, h10⟩
     refine zS ?_
     refine ⟨i + 1, rfl, ⟨oM, _, h9.trans h10, fun a b => ?_⟩, oM⟩
     rw [bitM_linkM h9.at_.mok oM hjl, hb8, ← Bool.decide_or]
     apply decide_eq_decide.2
     rw [in_succ]
     constructor
     ·rintro (q | q)
      ·exact .inl q
      ·exact .inr ⟨q, by rw [q.1, q.2]; exact hl0⟩
     ·rintro (q | q)
      ·exact .inl q
      ·exact .inr q.1
    ·refine r_no rfl (by simpa [lk] using hl0) ?_
     refine zS ?_
     refine ⟨i + 1, rfl, ⟨oM, M8, h9, fun a b => ?_⟩, oM⟩
     rw [hb8]
     apply decide_eq_decide.2
     rw [in_succ]
     constructor
     ·exact .inl
     ·rintro (q | ⟨q, ql⟩)
      ·exact q
      ·rw [q.1, q.2] at ql; exact absurd ql hl0
   ·have hij : i = j := oM
    subst hij
    refine zS ?_
    refine ⟨i + 1, rfl, ⟨oM, M8, h8, fun a b => ?_⟩, oM⟩
    rw [hb8]
    exact decide_eq_decide.2 in_row
  ·have hjl : j = l.length := oM
   subst hjl
   have hB7 := (hB6 M7).kp h7.kp (hdis M7)
   refine zS ?_
   refine Zl (v := ptr rp) rfl hB7.hdr ?_
   refine zS ?_
   refine Zc (zClose_ret h7.at_) ?_
   rintro v w8 ⟨rfl, h8⟩
   refine zS ?_
   have h68 := h7.trans h8
   have hB8 := (hB6 (Ql0 l.length M7)).kp h68.kp (hdis (Ql0 l.length M7))
   have kw : Kp [] w w8 := ((kc.trans k5).since k6 (fun b hb => by simp at hb; omega)).since h68.kp (fun b hb => by have := hRel5 b hb; omega)
   refine ⟨_, rfl, .inr ⟨hs, hn, hok, ⟨op, ead', ecap', rad, rcap, rp, bs, Ql0 l.length M7, mad, mcap⟩, rfl, ⟨hB8, h8.at_, fun a b => ?_, fun b hb => ?_⟩, kw, fun b hb => ?_⟩⟩
   ·show bitM (Ql0 l.length M7) a b = true ↔ _
    rw [closeM_iff h7.at_.mok]
    have hlk : ∀ a b, linkR M7 a b ↔ lk l Rs a b := fun a b => by
     unfold linkR
     rw [hb7, decide_eq_true_eq]; exact in_all
    exact ⟨fun h => h.mono fun a b => (hlk a b).1, fun h => h.mono fun a b => (hlk a b).2⟩
   ·have q5 := k5.size
    have q6 := k6.size
    have q8 := h68.kp.size
    simp only [OrG.F, List.mem_cons, List.mem_append] at hb
    rcases hb with rfl | hb | hb | hb
    ·omega
    ·have := ho3.lt b hb; omega
    ·have := hRlt b hb; omega
    ·exact h8.at_.lt b hb
   ·simp only [OrG.F, List.mem_cons, List.mem_append] at hb
    rcases hb with rfl | hb | hb | hb
    ·omega
    ·have := hn3 b hb; omega
    ·have := hRn b hb; omega
    ·have := hRel5 b hb; omega
theorem OwnS.le_max {T : TypeId} {ad : Option Addr} {n cap size : Nat} {xs : List Value} (h : OwnS w T size ad n cap xs) : n ≤ maxLen := by
 cases ad with
 | none => have := h.2; simp only at this; omega
 | some ad => have h1 := h.2.2.2.1; have h2 := h.2.2.2.2.1; omega
end
end Go.Vc
