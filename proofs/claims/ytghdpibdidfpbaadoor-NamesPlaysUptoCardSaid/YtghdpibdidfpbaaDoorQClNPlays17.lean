/- slices.insertionSortCmpFunc at []int: a row of rising numbers comes out by the key. -/
import Derived.Test.YtghdpibdidfpbaaDoorQClNPlays15
namespace Go.Vc
open Go Go.Proofs
set_option maxRecDepth 10000
variable {w : World}
/-- the comparing function: below 0 where the first one's key is less; it turns nothing -/
def CmpK (g : FuncId) (lb : List Value) (d : Nat → Int) (S : Nat → Prop) (Q : List Nat) (w : World) : Prop :=
  ∀ W, Kp Q w W → ∀ x y, S x → S y → Ret Tryd.prog g (I (x : Int) :: I (y : Int) :: lb) W (fun v W' => ∃ c : Int, v = I c ∧ (c < 0 ↔ d x < d y) ∧ W' = W)
theorem CmpK.kp {g : FuncId} {lb : List Value} {d : Nat → Int} {S : Nat → Prop} {Q : List Nat} (h : CmpK g lb d S Q w) {w' : World} (k : Kp Q w w') : CmpK g lb d S Q w' := fun W hW => h W (k.trans hW)
theorem swap_back {A C : List Nat} {x y : Nat} : ((A ++ y :: x :: C).set (A.length + 1) y).set A.length x = A ++ x :: y :: C := by
  rw [List.set_append_right _ _ (by omega), show A.length + 1 - A.length = 1 by omega]
  simp
theorem get_next {A C : List Nat} {x y : Nat} : (A ++ y :: x :: C)[A.length + 1]? = some x := by
  rw [List.getElem?_append_right (by omega), show A.length + 1 - A.length = 1 by omega]; rfl
theorem nil_or_last (l : List Nat) : l = [] ∨ ∃ r y, l = r ++ [y] := by
  rcases List.eq_nil_or_concat l with e | ⟨r, y, e⟩
  · exact .inl e
  · exact .inr ⟨r, y, by rw [e, List.concat_eq_append]⟩
/-- x is put between -/
theorem srt_put {d : Nat → Int} {t1 t2 : List Nat} {x : Nat} (h : Srt d (t1 ++ t2)) (h2 : ∀ y ∈ t2, LtK d x y) (h1 : ∀ l y, t1 = l ++ [y] → LtK d y x) : Srt d (t1 ++ x :: t2) := by
  obtain ⟨a, b, c⟩ := List.pairwise_append.1 h
  refine List.pairwise_append.2 ⟨a, List.pairwise_cons.2 ⟨h2, b⟩, fun z hz u hu => ?_⟩
  rcases List.mem_cons.1 hu with rfl | hu
  · rcases nil_or_last t1 with e | ⟨l, y, e⟩
    · subst e; cases hz
    · have hy := h1 l y e
      subst e
      rcases List.mem_append.1 hz with q | q
      · exact ((List.pairwise_append.1 a).2.2 z q y (by simp)).trans hy
      · simp at q; subst q; exact hy
  · exact c z hz u hu
set_option maxHeartbeats 6400000 in
theorem insertion_ret {g : FuncId} {lb : List Value} {d : Nat → Int} {S : Nat → Prop} {ad : Option Addr} {n cap : Nat} {p s q : List Nat} {a b : Nat} (h : Dat w ad n cap (p ++ s ++ q)) (hc : CmpK g lb d S (blkOf ad) w) (hS : ∀ x ∈ s, S x) (hinc : s.Pairwise (· < ·)) (ha : a = p.length) (hb : b = a + s.length) (hn1 : n ≤ 1073741824) :
    Ret Tryd.prog 53 [.slice ad n cap, I a, I b, fv g lb] w (fun _ w' => ∃ s', s'.Perm s ∧ Srt d s' ∧ Dat w' ad n cap (p ++ s' ++ q) ∧ Kp (blkOf ad) w w') := by
  have hn := h.len
  simp only [List.length_append] at hn
  refine enter Tryd.call53 Tryd.func53 rfl rfl rfl rfl ?_
  (repeat first|refine zA ?_|refine zg ?_|refine zo rfl rfl (by first|exact trivial|(simp only[AllP];omega)) ?_|refine zn ?_|refine zb ?_)
  refine r_loop (α := Nat) [0, 1, 2, 3, 8] (fun k => [.slice ad n cap, I a, I b, fv g lb, I ((a : Int) + k)])
    (fun k W => (k ≤ s.length ∨ k = 1) ∧ 1 ≤ k ∧ ∃ t, t.Perm (s.take k) ∧ Srt d t ∧ Dat W ad n cap (p ++ t ++ (s.drop k ++ q)) ∧ Kp (blkOf ad) w W) (fun k => s.length + 1 - k) 1 rfl
    ⟨.inr rfl, Nat.le_refl _, s.take 1, List.Perm.refl _, ?_, by rw [List.append_assoc, ← List.append_assoc (s.take 1), List.take_append_drop, ← List.append_assoc]; exact h, Kp.refl _ _⟩ ?_
  · cases s with
    | nil => simp
    | cons x r => simp
  rintro k e W ⟨hk1, hk0, t, hp, hs, hD, hk⟩
  (repeat first|refine zA ?_|refine zB ?_|refine zg ?_|refine zo rfl rfl trivial ?_|refine zn ?_)
  refine r_if rfl (fun hlt => ?_) (fun hlt => ?_)
  · have hks : k < s.length := by omega
    obtain ⟨x, hx⟩ : ∃ x, s[k]? = some x := ⟨_, List.getElem?_eq_getElem hks⟩
    have hdx : s.drop k = x :: s.drop (k + 1) := by
      obtain ⟨hh, rfl⟩ := List.getElem?_eq_some_iff.1 hx
      exact List.drop_eq_getElem_cons hh
    have hxs : x ∈ s := List.mem_of_getElem? hx
    have htl : t.length = k := by rw [hp.length_eq, List.length_take]; omega
    have htx : ∀ y ∈ t, y < x ∧ y ∈ s := fun y hy => by
      obtain ⟨i, hi, hiy⟩ := take_mem (hp.subset hy)
      have hh := List.getElem?_eq_some_iff.1 hx
      have hh2 := List.getElem?_eq_some_iff.1 hiy
      obtain ⟨h1, rfl⟩ := hh
      obtain ⟨h2, rfl⟩ := hh2
      exact ⟨List.pairwise_iff_getElem.1 hinc i k h2 h1 hi, List.getElem_mem _⟩
    rw [hdx] at hD
    (repeat first|refine zA ?_|refine zC ?_|refine zg ?_|refine zo rfl rfl trivial ?_|refine zn ?_|refine zb ?_|refine zk ?_)
    refine r_loop (α := Nat) [0, 1, 2, 3, 8, 9] (fun j => [.slice ad n cap, I a, I b, fv g lb, I ((a : Int) + k), I ((a : Int) + j)])
      (fun j W' => ∃ t1 t2, t = t1 ++ t2 ∧ t1.length = j ∧ (∀ y ∈ t2, LtK d x y) ∧ Dat W' ad n cap (p ++ t1 ++ (x :: t2 ++ (s.drop (k + 1) ++ q))) ∧ Kp (blkOf ad) w W') (fun j => j) k rfl
      ⟨t, [], by simp, htl, by simp, by simpa using hD, hk⟩ ?_
    rintro j e W2 ⟨t1, t2, ht, hj, ht2, hD2, hk2⟩
    have hjk : j ≤ k := by rw [← htl, ht, List.length_append]; omega
    obtain ⟨bk, rfl⟩ := hD2.blk (by omega)
    refine r_seq ?_
    refine r_seq ?_
    refine r_cut (α := Bool) [0, 1, 2, 3, 8, 9, 34] (fun z => [.slice (some ⟨bk, 0, none⟩) n cap, I a, I b, fv g lb, I ((a : Int) + k), I ((a : Int) + j), .bool z]) (fun z W' => Kp [] W2 W' ∧ (z = true → ∃ l y, t1 = l ++ [y] ∧ d x < d y) ∧ (z = false → ∀ l y, t1 = l ++ [y] → ¬ d x < d y)) ?_ ?_
    · refine r_mix (fun W' => Kp [] W2 W') [(0, false), (1, false), (2, false), (3, false), (4, false), (5, false), (6, false), (7, false), (8, false), (9, false), (10, false), (11, false), (12, false), (13, false), (14, true), (15, false), (16, false)] follows_mixed (by kernel_rfl) (by kernel_rfl) (by kernel_rfl) ((Sm.drew _).kp _) ?_
      have kd := (Sm.drew W2).kp []
      generalize ({ W2 with drawn := W2.drawn + 1 } : World) = wd at kd ⊢
      rcases nil_or_last t1 with e1 | ⟨l, y, e1⟩
      · subst e1
        subst hj
        (repeat refine xo rfl rfl trivial ?_)
        refine x_is false rfl 3 true rfl rfl rfl (by simp) ?_
        (repeat refine xo rfl rfl trivial ?_)
        refine x_passes rfl rfl rfl (fun _ => kd) ?_
        (repeat first|refine xo rfl rfl trivial ?_|refine xn ?_)
        exact ⟨false, rfl, kd, (fun h => by cases h), fun _ l y h => by simp at h⟩
      · subst e1
        have hj' : l.length + 1 = j := by simpa using hj
        have hD3 : Dat W2 (some ⟨bk, 0, none⟩) n cap ((p ++ l) ++ y :: x :: (t2 ++ (s.drop (k + 1) ++ q))) := by simpa using hD2
        have hyt := htx y (by rw [ht]; simp)
        (repeat refine xo rfl rfl trivial ?_)
        refine x_is true rfl 3 true rfl rfl rfl (by simp; omega) ?_
        (repeat refine xo rfl rfl (by first|exact trivial|(simp only[AllP];omega)) ?_)
        refine x_load (b := bk) (off := a + j) (v := I x) rfl (ptr_eq (by omega)) (fun W' h' => Dat.get (hD3.kp h' (by simp)) (by rw [show a + j = (p ++ l).length + 1 by simp; omega]; exact get_next)) rfl rfl rfl rfl ?_
        (repeat refine xo rfl rfl (by first|exact trivial|(simp only[AllP];omega)) ?_)
        refine x_load (b := bk) (off := a + l.length) (v := I y) rfl (ptr_eq (by omega)) (fun W' h' => Dat.get (hD3.kp h' (by simp)) (by rw [show a + l.length = (p ++ l).length by simp; omega]; exact get_at)) rfl rfl rfl rfl ?_
        refine x_act rfl ?_
        refine o_callv (hc wd (hk2.trans (kd.mono (by simp))) x y (hS x hxs) (hS y hyt.2)) rfl rfl rfl rfl ?_
        rintro v W4 ⟨c, rfl, hcc, rfl⟩
        refine o_nil ⟨.inr kd, ?_⟩
        (repeat first|refine xo rfl rfl trivial ?_|refine xn ?_)
        refine ⟨decide (c < 0), rfl, kd, fun h => ⟨l, y, rfl, hcc.1 (of_decide_eq_true h)⟩, fun h l' y' e' => ?_⟩
        obtain ⟨_, e2⟩ := List.append_inj' e' rfl
        cases e2
        exact fun hh => by rw [decide_eq_true (hcc.2 hh)] at h; cases h
    · rintro z e3 W3 ⟨k3, hz1, hz0⟩
      have hD3 : Dat W3 (some ⟨bk, 0, none⟩) n cap (p ++ t1 ++ (x :: t2 ++ (s.drop (k + 1) ++ q))) := hD2.kp k3 (by simp)
      cases z with
      | true =>
        obtain ⟨l, y, e1, hxy⟩ := hz1 rfl
        subst e1
        have hj' : l.length + 1 = j := by simpa using hj
        have hD4 : Dat W3 (some ⟨bk, 0, none⟩) n cap ((p ++ l) ++ y :: x :: (t2 ++ (s.drop (k + 1) ++ q))) := by simpa using hD3
        (repeat first|refine zC ?_|refine zb ?_|refine zk ?_|refine zt rfl ?_)
        refine r_mix2 (fun W' => Dat W' (some ⟨bk, 0, none⟩) n cap ((p ++ l) ++ y :: x :: (t2 ++ (s.drop (k + 1) ++ q)))) 15 [(0, false), (1, false), (2, false), (3, false), (4, false), (5, false), (6, false), (7, false), (8, false), (9, false), (10, false), (11, false), (12, false), (13, false), (14, false), (15, true), (16, false), (17, true)] follows_mixed (by kernel_rfl) (by kernel_rfl) (by kernel_rfl) (by kernel_rfl) (hD4.kp ((Sm.drew _).kp []) (by simp)) ?_
        have kd := (Sm.drew W3).kp []
        generalize ({ W3 with drawn := W3.drawn + 1 } : World) = wd at kd ⊢
        have hDd := hD4.kp kd (by simp)
        (repeat refine so rfl rfl (by first|exact trivial|(simp only[AllP];omega)) ?_)
        refine s_load (b := bk) (off := a + l.length) (v := I y) rfl (ptr_eq (by omega)) (by kernel_rfl) (fun W' h' => Dat.get h' (by rw [show a + l.length = (p ++ l).length by simp; omega]; exact get_at)) rfl rfl rfl rfl ?_
        (repeat refine so rfl rfl (by first|exact trivial|(simp only[AllP];omega)) ?_)
        refine s_load (b := bk) (off := a + j) (v := I x) rfl (ptr_eq (by omega)) (by kernel_rfl) (fun W' h' => Dat.get h' (by rw [show a + j = (p ++ l).length + 1 by simp; omega]; exact get_next)) rfl rfl rfl rfl ?_
        (repeat refine so rfl rfl (by first|exact trivial|(simp only[AllP];omega)) ?_)
        refine s_act rfl rfl ?_
        obtain ⟨L1, hL1, hi1, hw1⟩ := Dat.wr hDd (i := a + j) (by omega)
        refine o_store (b := bk) (off := a + j) (v := I y) (ptr_eq (by omega)) hL1 hi1 rfl rfl rfl rfl rfl rfl ?_
        intro V1 hu1
        have hD5 := hw1 y V1 hu1
        refine o_nil ?_
        (repeat refine so rfl rfl (by first|exact trivial|(simp only[AllP];omega)) ?_)
        refine s_act rfl rfl ?_
        obtain ⟨L2, hL2, hi2, hw2⟩ := Dat.wr hD5 (i := a + l.length) (by omega)
        refine o_store (b := bk) (off := a + l.length) (v := I x) (ptr_eq (by omega)) hL2 hi2 rfl rfl rfl rfl rfl rfl ?_
        intro V2 hu2
        have hD6 := hw2 x V2 hu2
        refine o_nil ?_
        (repeat refine sn ?_)
        rw [show a + j = (p ++ l).length + 1 by simp; omega, show a + l.length = (p ++ l).length by simp; omega, swap_back] at hD6
        (repeat first|refine zg ?_|refine zo rfl rfl (by first|exact trivial|(simp only[AllP];omega)) ?_|refine zn ?_)
        refine ⟨l.length, by show [_, _, _, _, _, I ((a : Int) + j - 1)] = [_, _, _, _, _, I ((a : Int) + (l.length : Nat))]; rw [show (a : Int) + j - 1 = (a : Int) + (l.length : Nat) by omega]; rfl, ⟨l, y :: t2, by rw [ht]; simp, rfl, fun u hu => ?_, by simpa using hD6, ((hk2.trans (k3.mono (by simp))).trans (kd.mono (by simp))).trans ((hu1.kp _ (.inl (by simp [blkOf]))).trans (hu2.kp _ (.inl (by simp [blkOf]))))⟩, by omega⟩
        rcases List.mem_cons.1 hu with rfl | hu
        · exact .inl hxy
        · exact ht2 u hu
      | false =>
        have hput : Srt d (t1 ++ x :: t2) := srt_put (by rw [← ht]; exact hs) ht2 fun l y e1 => by
          have h1 := hz0 rfl l y e1
          have h2 := htx y (by rw [ht, e1]; simp)
          unfold LtK; omega
        (repeat first|refine zg ?_|refine zo rfl rfl (by first|exact trivial|(simp only[AllP];omega)) ?_|refine zn ?_|refine ze rfl ?_|refine zf rfl ?_)
        refine ⟨k + 1, by show [_, _, _, _, I ((a : Int) + k + 1)] = [_, _, _, _, I ((a : Int) + ((k + 1 : Nat) : Int))]; rw [show (a : Int) + k + 1 = (a : Int) + ((k + 1 : Nat) : Int) by omega]; rfl, ⟨.inl hks, by omega, t1 ++ x :: t2, ?_, hput, by simpa using hD3, hk2.trans (k3.mono (by simp))⟩, by omega⟩
        rw [List.take_add_one, hx]
        refine List.perm_middle.trans ?_
        rw [← ht]
        exact (List.perm_append_comm (l₁ := [x])).trans (hp.append_right _)
  · have hks : s.length ≤ k := by omega
    (repeat refine ze rfl ?_)
    rw [List.take_of_length_le hks] at hp
    rw [List.drop_of_length_le hks] at hD
    exact ⟨_, rfl, t, hp, hs, by simpa using hD, hk⟩
end Go.Vc
