/- slices.symMergeCmpFunc at []int. -/
import Derived.Test.YtghdpibdidfpbaaDoorQClNPlays17
namespace Go.Vc
open Go Go.Proofs
set_option maxRecDepth 10000
variable {w : World}
theorem halfI {x : Int} {s : Nat} (h : x = (s : Int)) (hs : s ≤ 9223372036854775807) : (IntKind.u64.wrap x).fdiv (2 ^ min (Int.toNat 1) IntKind.u64.bits) = ((s / 2 : Nat) : Int) := by
  have e1 : IntKind.u64.wrap x = (s : Int) := by
    rw [h]; simp [IntKind.wrap, IntKind.bits, IntKind.signed]; omega
  rw [e1]
  show Int.fdiv (s : Int) ((2 : Nat) : Int) = _
  rw [Int.fdiv_eq_ediv_of_nonneg _ (Int.natCast_nonneg _)]
  omega
theorem swap_next {A C : List Nat} {x y : Nat} : ((A ++ x :: y :: C).set A.length y).set (A.length + 1) x = A ++ y :: x :: C := by
  rw [List.set_append_right _ _ (Nat.le_refl _), Nat.sub_self, List.set_cons_zero, List.set_append_right _ _ (by omega), show A.length + 1 - A.length = 1 by omega]
  rfl
set_option maxHeartbeats 12800000 in
theorem symMerge_ret {g : FuncId} {lb : List Value} {d : Nat → Int} {S : Nat → Prop} {ad : Option Addr} {n cap : Nat} (hn1 : n ≤ 1073741824) : ∀ (N : Nat) (w : World) (p u v q : List Nat) (a m b : Nat), u.length + v.length ≤ N → Dat w ad n cap (p ++ u ++ v ++ q) → CmpK g lb d S (blkOf ad) w → (∀ x ∈ u, S x) → (∀ x ∈ v, S x) → Srt d u → Srt d v → Ahead u v → 0 < u.length → 0 < v.length → a = p.length → m = a + u.length → b = m + v.length →
    Ret Tryd.prog 54 [.slice ad n cap, I a, I m, I b, fv g lb] w (fun _ w' => ∃ s', s'.Perm (u ++ v) ∧ Srt d s' ∧ Dat w' ad n cap (p ++ s' ++ q) ∧ Kp (blkOf ad) w w') := by
  intro N
  induction N with
  | zero => intro w p u v q a m b hN; omega
  | succ N ih =>
  intro w p u v q a m b hN h0 hc hSu hSv hu hv hah hu0 hv0 ha hm hb
  have hn := h0.len
  simp only [List.length_append] at hn
  obtain ⟨bk, rfl⟩ := h0.blk (by omega)
  have get_v : ∀ {i k z : Nat}, i = m + k → v[k]? = some z → (p ++ u ++ v ++ q)[i]? = some z := fun {i k z} hi hz => by
    have hl := (List.getElem?_eq_some_iff.1 hz).1
    rw [List.getElem?_append_left (by simp; omega), List.getElem?_append_right (by simp; omega), ← hz]
    congr 1; simp; omega
  refine enter Tryd.call54 Tryd.func54 rfl rfl rfl rfl ?_
  (repeat first|refine zA ?_|refine zB ?_|refine zg ?_|refine zo rfl rfl (by first|exact trivial|(simp only[AllP];omega)) ?_|refine zn ?_)
  refine r_if rfl (fun h1 => ?_) (fun h1 => ?_)
  · -- one number of the first: it goes into the second
    have hul : u.length = 1 := by omega
    obtain ⟨x, hux⟩ : ∃ x, u = [x] := by
      cases u with
      | nil => simp at hul
      | cons x r => cases r with
        | nil => exact ⟨x, rfl⟩
        | cons y r => simp at hul
    subst hux
    (repeat first|refine zA ?_|refine zC ?_|refine zg ?_|refine zo rfl rfl trivial ?_|refine zn ?_|refine zb ?_)
    refine r_loop (α := Nat × Nat) [0, 1, 2, 3, 4, 10, 11] (fun y => [.slice (some ⟨bk, 0, none⟩) n cap, I a, I m, I b, fv g lb, I ((m : Int) + y.1), I ((m : Int) + y.2)])
      (fun y W => y.1 ≤ y.2 ∧ y.2 ≤ v.length ∧ (∀ i z, i < y.1 → v[i]? = some z → d z < d x) ∧ (∀ i z, y.2 ≤ i → v[i]? = some z → ¬ d z < d x) ∧ Kp [] w W) (fun y => y.2 - y.1) (0, v.length) (by
        show [_, _, _, _, _, I (m : Int), I (b : Int)] = [_, _, _, _, _, I ((m : Int) + (0 : Nat)), I ((m : Int) + (v.length : Nat))]
        rw [show (m : Int) + (0 : Nat) = m by omega, show (m : Int) + (v.length : Nat) = b by omega]; rfl) ⟨by dsimp only; omega, Nat.le_refl _, fun i z hi => by dsimp only at hi; omega, fun i z hi hz => by
          have := (List.getElem?_eq_some_iff.1 hz).1; dsimp only at hi; omega, Kp.refl _ _⟩ ?_
    rintro ⟨i, j⟩ e W ⟨hij, hjl, hlo, hhi, hk⟩
    dsimp only at hij hjl hlo hhi
    (repeat first|refine zA ?_|refine zB ?_|refine zg ?_|refine zo rfl rfl trivial ?_|refine zn ?_)
    refine r_if rfl (fun hlt => ?_) (fun hlt => ?_)
    · (repeat first|refine zA ?_|refine zg ?_|refine zb ?_|refine zk ?_)
      have hf := halfI (x := (m : Int) + i + ((m : Int) + j)) (s := 2 * m + i + j) (by omega) (by omega)
      rw [show (2 * m + i + j) / 2 = m + (i + j) / 2 by omega] at hf
      obtain ⟨h, hh⟩ : ∃ h, h = (i + j) / 2 := ⟨_, rfl⟩
      rw [← hh] at hf
      refine zo rfl rfl (by simp only [AllP]; rw [hf]; omega) ?_
      (repeat refine zn ?_)
      rw [hf]
      refine r_seq ?_
      obtain ⟨z, hz⟩ : ∃ z, v[h]? = some z := ⟨_, List.getElem?_eq_getElem (by omega)⟩
      refine r_cut (α := Bool) [0, 1, 2, 3, 4, 10, 11, 12, 50] (fun y => [.slice (some ⟨bk, 0, none⟩) n cap, I a, I m, I b, fv g lb, I ((m : Int) + i), I ((m : Int) + j), I ((m + h : Nat) : Int), .bool y]) (fun y W' => Kp [] W W' ∧ (y = true ↔ d z < d x)) ?_ ?_
      · refine r_mix (fun W' => Kp [] W W') [(0, false), (1, false), (2, false), (3, false), (4, false), (5, false), (6, false), (7, false), (8, false), (9, true), (10, false)] follows_mixed (by kernel_rfl) (by kernel_rfl) (by kernel_rfl) ((Sm.drew _).kp _) ?_
        have kd := (Sm.drew W).kp []
        generalize ({ W with drawn := W.drawn + 1 } : World) = wd at kd ⊢
        have hDW := h0.kp hk (by simp)
        (repeat refine xo rfl rfl (by first|exact trivial|(simp only[AllP];omega)) ?_)
        refine x_load (b := bk) (off := m + h) (v := I z) rfl (ptr_eq (by omega)) (fun W' h' => Dat.get (hDW.kp h' (by simp)) (get_v (by omega) hz)) rfl rfl rfl rfl ?_
        (repeat refine xo rfl rfl (by first|exact trivial|(simp only[AllP];omega)) ?_)
        refine x_load (b := bk) (off := a) (v := I x) rfl (ptr_eq (by omega)) (fun W' h' => Dat.get (hDW.kp h' (by simp)) (by rw [ha]; simp)) rfl rfl rfl rfl ?_
        refine x_act rfl ?_
        refine o_callv (hc wd ((hk.trans kd).mono (by simp)) z x (hSv z (List.mem_of_getElem? hz)) (hSu x (by simp))) rfl rfl rfl rfl ?_
        rintro v' W4 ⟨c, rfl, hcc, rfl⟩
        refine o_nil ⟨.inr kd, ?_⟩
        (repeat first|refine xo rfl rfl trivial ?_|refine xn ?_)
        exact ⟨decide (c < 0), rfl, kd, by rw [decide_eq_true_iff]; exact hcc⟩
      · rintro y e3 W3 ⟨k3, hy⟩
        cases y with
        | true =>
          have hzx := hy.1 rfl
          (repeat first|refine zg ?_|refine zo rfl rfl (by first|exact trivial|(simp only[AllP];omega)) ?_|refine zn ?_|refine zt rfl ?_)
          refine ⟨(h + 1, j), by show [_, _, _, _, _, I (((m + h : Nat) : Int) + 1), _] = [_, _, _, _, _, I ((m : Int) + ((h + 1 : Nat) : Int)), _]; rw [show ((m + h : Nat) : Int) + 1 = (m : Int) + ((h + 1 : Nat) : Int) by omega]; rfl, ⟨by dsimp only; omega, hjl, fun i' z' hi' hz' => ?_, hhi, hk.trans k3⟩, by dsimp only; omega⟩
          rcases srt_le hv (show i' ≤ h by dsimp only at hi'; omega) hz' hz with rfl | q
          · exact hzx
          · unfold LtK at q; omega
        | false =>
          have hzx : ¬ d z < d x := fun q => by have := hy.2 q; cases this
          (repeat first|refine zg ?_|refine zo rfl rfl trivial ?_|refine zn ?_|refine zf rfl ?_)
          refine ⟨(i, h), by show [_, _, _, _, _, _, I ((m + h : Nat) : Int)] = [_, _, _, _, _, _, I ((m : Int) + (h : Int))]; rw [show ((m + h : Nat) : Int) = (m : Int) + (h : Int) by omega]; rfl, ⟨by dsimp only; omega, by dsimp only; omega, hlo, fun i' z' hi' hz' => ?_, hk.trans k3⟩, by dsimp only; omega⟩
          rcases srt_le hv (show h ≤ i' from hi') hz hz' with rfl | q
          · exact hzx
          · unfold LtK at q; omega
    · have hij' : i = j := by omega
      subst hij'
      (repeat first|refine zA ?_|refine zB ?_|refine zg ?_|refine zo rfl rfl trivial ?_|refine zn ?_|refine zb ?_|refine ze rfl ?_)
      refine r_loop (α := Nat) [0, 10, 13] (fun k => [.slice (some ⟨bk, 0, none⟩) n cap, I ((m : Int) + i), I ((a : Int) + k)]) (fun k W' => k ≤ i ∧ Dat W' (some ⟨bk, 0, none⟩) n cap (p ++ (v.take k ++ x :: v.drop k) ++ q) ∧ Kp (blkOf (some ⟨bk, 0, none⟩)) w W') (fun k => i - k) 0 (by
        show [_, _, I (a : Int)] = [_, _, I ((a : Int) + ((0 : Nat) : Int))]
        rw [show (a : Int) + ((0 : Nat) : Int) = a by omega]; rfl) ⟨by omega, by have h9 : Dat W (some ⟨bk, 0, none⟩) n cap (p ++ [x] ++ v ++ q) := h0.kp hk (by simp); simpa using h9, hk.mono (by simp)⟩ ?_
      rintro k e W5 ⟨hki, hD, hk5⟩
      (repeat first|refine zA ?_|refine zB ?_|refine zg ?_|refine zo rfl rfl (by first|exact trivial|(simp only[AllP];omega)) ?_|refine zn ?_)
      refine r_if rfl (fun hlt2 => ?_) (fun hlt2 => ?_)
      · obtain ⟨z, hz⟩ : ∃ z, v[k]? = some z := ⟨_, List.getElem?_eq_getElem (by omega)⟩
        have hdz : v.drop k = z :: v.drop (k + 1) := by
          obtain ⟨hh, rfl⟩ := List.getElem?_eq_some_iff.1 hz
          exact List.drop_eq_getElem_cons hh
        have htz : v.take (k + 1) = v.take k ++ [z] := by rw [List.take_add_one, hz]; rfl
        have hAl : (p ++ v.take k).length = a + k := by simp; omega
        have hD4 : Dat W5 (some ⟨bk, 0, none⟩) n cap ((p ++ v.take k) ++ x :: z :: (v.drop (k + 1) ++ q)) := by
          rw [hdz] at hD; simpa using hD
        (repeat first|refine zC ?_|refine zb ?_|refine zk ?_)
        refine r_mix2 (fun W' => Dat W' (some ⟨bk, 0, none⟩) n cap ((p ++ v.take k) ++ x :: z :: (v.drop (k + 1) ++ q))) 15 [(0, false), (1, false), (2, false), (3, false), (4, false), (5, false), (6, false), (7, false), (8, false), (9, false), (10, false), (11, false), (12, false), (13, false), (14, false), (15, true), (16, false), (17, true)] follows_mixed (by kernel_rfl) (by kernel_rfl) (by kernel_rfl) (by kernel_rfl) (hD4.kp ((Sm.drew _).kp []) (by simp)) ?_
        have kd := (Sm.drew W5).kp []
        generalize ({ W5 with drawn := W5.drawn + 1 } : World) = wd at kd ⊢
        have hDd := hD4.kp kd (by simp)
        (repeat refine so rfl rfl (by first|exact trivial|(simp only[AllP];omega)) ?_)
        refine s_load (b := bk) (off := a + k + 1) (v := I z) rfl (ptr_eq (by omega)) (by kernel_rfl) (fun W' h' => Dat.get h' (by rw [show a + k + 1 = (p ++ v.take k).length + 1 by omega]; exact get_next)) rfl rfl rfl rfl ?_
        (repeat refine so rfl rfl (by first|exact trivial|(simp only[AllP];omega)) ?_)
        refine s_load (b := bk) (off := a + k) (v := I x) rfl (ptr_eq (by omega)) (by kernel_rfl) (fun W' h' => Dat.get h' (by rw [show a + k = (p ++ v.take k).length by omega]; exact get_at)) rfl rfl rfl rfl ?_
        (repeat refine so rfl rfl (by first|exact trivial|(simp only[AllP];omega)) ?_)
        refine s_act rfl rfl ?_
        obtain ⟨L1, hL1, hi1, hw1⟩ := Dat.wr hDd (i := a + k) (by omega)
        refine o_store (b := bk) (off := a + k) (v := I z) (ptr_eq (by omega)) hL1 hi1 rfl rfl rfl rfl rfl rfl ?_
        intro V1 hu1
        have hD5 := hw1 z V1 hu1
        refine o_nil ?_
        (repeat refine so rfl rfl (by first|exact trivial|(simp only[AllP];omega)) ?_)
        refine s_act rfl rfl ?_
        obtain ⟨L2, hL2, hi2, hw2⟩ := Dat.wr hD5 (i := a + k + 1) (by omega)
        refine o_store (b := bk) (off := a + k + 1) (v := I x) (ptr_eq (by omega)) hL2 hi2 rfl rfl rfl rfl rfl rfl ?_
        intro V2 hu2
        have hD6 := hw2 x V2 hu2
        refine o_nil ?_
        (repeat refine sn ?_)
        rw [show a + k = (p ++ v.take k).length by omega, swap_next] at hD6
        (repeat first|refine zg ?_|refine zo rfl rfl (by first|exact trivial|(simp only[AllP];omega)) ?_|refine zn ?_)
        exact ⟨k + 1, by show [_, _, I ((a : Int) + k + 1)] = [_, _, I ((a : Int) + ((k + 1 : Nat) : Int))]; rw [show (a : Int) + k + 1 = (a : Int) + ((k + 1 : Nat) : Int) by omega]; rfl, ⟨by omega, by rw [htz]; simpa using hD6, (hk5.trans (kd.mono (by simp))).trans ((hu1.kp _ (.inl (by simp [blkOf]))).trans (hu2.kp _ (.inl (by simp [blkOf]))))⟩, by omega⟩
      · have : k = i := by omega
        subst this
        (repeat first|refine ze rfl ?_|refine zr ?_)
        refine ⟨_, rfl, v.take k ++ x :: v.drop k, ?_, srt_put (by rw [List.take_append_drop]; exact hv) (fun y hy => ?_) (fun l y e1 => ?_), hD, hk5⟩
        · refine List.perm_middle.trans ?_
          rw [List.take_append_drop]
          exact List.Perm.refl _
        · obtain ⟨i', hi', hz'⟩ := drop_mem hy
          have h2 := hhi i' y hi' hz'
          have h3 := hah x (by simp) y (List.mem_of_getElem? hz')
          unfold LtK; omega
        · obtain ⟨i', hi', hz'⟩ := take_mem (l := v) (k := k) (x := y) (by rw [e1]; simp)
          exact .inl (hlo i' y hi' hz')
  · (repeat first|refine zA ?_|refine zB ?_|refine zg ?_|refine zo rfl rfl (by first|exact trivial|(simp only[AllP];omega)) ?_|refine zn ?_|refine zk ?_)
    refine r_if rfl (fun h2 => ?_) (fun h2 => ?_)
    · -- one number of the second: it goes into the first
      have hvl : v.length = 1 := by omega
      obtain ⟨x, hvx⟩ : ∃ x, v = [x] := by
        cases v with
        | nil => simp at hvl
        | cons x r => cases r with
          | nil => exact ⟨x, rfl⟩
          | cons y r => simp at hvl
      subst hvx
      have get_u : ∀ {i k z : Nat}, i = a + k → u[k]? = some z → (p ++ u ++ [x] ++ q)[i]? = some z := fun {i k z} hi hz => by
        have hl := (List.getElem?_eq_some_iff.1 hz).1
        rw [List.getElem?_append_left (by simp; omega), List.getElem?_append_left (by simp; omega), List.getElem?_append_right (by omega), ← hz]
        congr 1; omega
      (repeat first|refine zA ?_|refine zC ?_|refine zg ?_|refine zo rfl rfl trivial ?_|refine zn ?_|refine zb ?_)
      refine r_loop (α := Nat × Nat) [0, 1, 2, 3, 4, 14, 15] (fun y => [.slice (some ⟨bk, 0, none⟩) n cap, I a, I m, I b, fv g lb, I ((a : Int) + y.1), I ((a : Int) + y.2)])
        (fun y W => y.1 ≤ y.2 ∧ y.2 ≤ u.length ∧ (∀ i z, i < y.1 → u[i]? = some z → ¬ d x < d z) ∧ (∀ i z, y.2 ≤ i → u[i]? = some z → d x < d z) ∧ Kp [] w W) (fun y => y.2 - y.1) (0, u.length) (by
          show [_, _, _, _, _, I (a : Int), I (m : Int)] = [_, _, _, _, _, I ((a : Int) + (0 : Nat)), I ((a : Int) + (u.length : Nat))]
          rw [show (a : Int) + (0 : Nat) = a by omega, show (a : Int) + (u.length : Nat) = m by omega]; rfl) ⟨by dsimp only; omega, Nat.le_refl _, fun i z hi => by dsimp only at hi; omega, fun i z hi hz => by
            have := (List.getElem?_eq_some_iff.1 hz).1; dsimp only at hi; omega, Kp.refl _ _⟩ ?_
      rintro ⟨i, j⟩ e W ⟨hij, hjl, hlo, hhi, hk⟩
      dsimp only at hij hjl hlo hhi
      (repeat first|refine zA ?_|refine zB ?_|refine zg ?_|refine zo rfl rfl trivial ?_|refine zn ?_)
      refine r_if rfl (fun hlt => ?_) (fun hlt => ?_)
      · (repeat first|refine zA ?_|refine zg ?_|refine zb ?_|refine zk ?_)
        have hf := halfI (x := (a : Int) + i + ((a : Int) + j)) (s := 2 * a + i + j) (by omega) (by omega)
        rw [show (2 * a + i + j) / 2 = a + (i + j) / 2 by omega] at hf
        obtain ⟨h, hh⟩ : ∃ h, h = (i + j) / 2 := ⟨_, rfl⟩
        rw [← hh] at hf
        refine zo rfl rfl (by simp only [AllP]; rw [hf]; omega) ?_
        (repeat refine zn ?_)
        rw [hf]
        refine r_seq ?_
        obtain ⟨z, hz⟩ : ∃ z, u[h]? = some z := ⟨_, List.getElem?_eq_getElem (by omega)⟩
        refine r_cut (α := Bool) [0, 1, 2, 3, 4, 14, 15, 16, 103] (fun y => [.slice (some ⟨bk, 0, none⟩) n cap, I a, I m, I b, fv g lb, I ((a : Int) + i), I ((a : Int) + j), I ((a + h : Nat) : Int), .bool y]) (fun y W' => Kp [] W W' ∧ (y = true ↔ ¬ d x < d z)) ?_ ?_
        · refine r_mix (fun W' => Kp [] W W') [(0, false), (1, false), (2, false), (3, false), (4, false), (5, false), (6, false), (7, false), (8, false), (9, true), (10, false), (11, false)] follows_mixed (by kernel_rfl) (by kernel_rfl) (by kernel_rfl) ((Sm.drew _).kp _) ?_
          have kd := (Sm.drew W).kp []
          generalize ({ W with drawn := W.drawn + 1 } : World) = wd at kd ⊢
          have hDW := h0.kp hk (by simp)
          (repeat refine xo rfl rfl (by first|exact trivial|(simp only[AllP];omega)) ?_)
          refine x_load (b := bk) (off := m) (v := I x) rfl (ptr_eq (by omega)) (fun W' h' => Dat.get (hDW.kp h' (by simp)) (get_v (k := 0) (by omega) rfl)) rfl rfl rfl rfl ?_
          (repeat refine xo rfl rfl (by first|exact trivial|(simp only[AllP];omega)) ?_)
          refine x_load (b := bk) (off := a + h) (v := I z) rfl (ptr_eq (by omega)) (fun W' h' => Dat.get (hDW.kp h' (by simp)) (get_u (by omega) hz)) rfl rfl rfl rfl ?_
          refine x_act rfl ?_
          refine o_callv (hc wd ((hk.trans kd).mono (by simp)) x z (hSv x (by simp)) (hSu z (List.mem_of_getElem? hz))) rfl rfl rfl rfl ?_
          rintro v' W4 ⟨c, rfl, hcc, rfl⟩
          refine o_nil ⟨.inr kd, ?_⟩
          (repeat first|refine xo rfl rfl trivial ?_|refine xn ?_)
          refine ⟨!decide (c < 0), rfl, kd, ?_⟩
          rw [Bool.not_eq_true', decide_eq_false_iff_not]
          exact not_congr hcc
        · rintro y e3 W3 ⟨k3, hy⟩
          cases y with
          | true =>
            have hzx := hy.1 rfl
            (repeat first|refine zg ?_|refine zo rfl rfl (by first|exact trivial|(simp only[AllP];omega)) ?_|refine zn ?_|refine zt rfl ?_)
            refine ⟨(h + 1, j), by show [_, _, _, _, _, I (((a + h : Nat) : Int) + 1), _] = [_, _, _, _, _, I ((a : Int) + ((h + 1 : Nat) : Int)), _]; rw [show ((a + h : Nat) : Int) + 1 = (a : Int) + ((h + 1 : Nat) : Int) by omega]; rfl, ⟨by dsimp only; omega, hjl, fun i' z' hi' hz' => ?_, hhi, hk.trans k3⟩, by dsimp only; omega⟩
            rcases srt_le hu (show i' ≤ h by dsimp only at hi'; omega) hz' hz with rfl | q
            · exact hzx
            · unfold LtK at q; omega
          | false =>
            have hzx : d x < d z := Classical.byContradiction fun q => by have := hy.2 q; cases this
            (repeat first|refine zg ?_|refine zo rfl rfl trivial ?_|refine zn ?_|refine zf rfl ?_)
            refine ⟨(i, h), by show [_, _, _, _, _, _, I ((a + h : Nat) : Int)] = [_, _, _, _, _, _, I ((a : Int) + (h : Int))]; rw [show ((a + h : Nat) : Int) = (a : Int) + (h : Int) by omega]; rfl, ⟨by dsimp only; omega, by dsimp only; omega, hlo, fun i' z' hi' hz' => ?_, hk.trans k3⟩, by dsimp only; omega⟩
            rcases srt_le hu (show h ≤ i' from hi') hz hz' with rfl | q
            · exact hzx
            · unfold LtK at q; omega
      · have hij' : i = j := by omega
        subst hij'
        (repeat first|refine zA ?_|refine zB ?_|refine zg ?_|refine zo rfl rfl trivial ?_|refine zn ?_|refine zb ?_|refine ze rfl ?_)
        refine r_loop (α := Nat) [0, 14, 17] (fun k => [.slice (some ⟨bk, 0, none⟩) n cap, I ((a : Int) + i), I ((a : Int) + k)]) (fun k W' => i ≤ k ∧ k ≤ u.length ∧ Dat W' (some ⟨bk, 0, none⟩) n cap (p ++ (u.take k ++ x :: u.drop k) ++ q) ∧ Kp (blkOf (some ⟨bk, 0, none⟩)) w W') (fun k => k) u.length (by
          show [_, _, I (m : Int)] = [_, _, I ((a : Int) + ((u.length : Nat) : Int))]
          rw [show (a : Int) + ((u.length : Nat) : Int) = m by omega]; rfl) ⟨hjl, Nat.le_refl _, by have h9 : Dat W (some ⟨bk, 0, none⟩) n cap (p ++ u ++ [x] ++ q) := h0.kp hk (by simp); simpa using h9, hk.mono (by simp)⟩ ?_
        rintro k e W5 ⟨hki, hkl, hD, hk5⟩
        (repeat first|refine zA ?_|refine zB ?_|refine zg ?_|refine zo rfl rfl trivial ?_|refine zn ?_)
        refine r_if rfl (fun hlt2 => ?_) (fun hlt2 => ?_)
        · obtain ⟨k, rfl⟩ : ∃ k', k = k' + 1 := ⟨k - 1, by omega⟩
          obtain ⟨z, hz⟩ : ∃ z, u[k]? = some z := ⟨_, List.getElem?_eq_getElem (by omega)⟩
          have hdz : u.drop k = z :: u.drop (k + 1) := by
            obtain ⟨hh, rfl⟩ := List.getElem?_eq_some_iff.1 hz
            exact List.drop_eq_getElem_cons hh
          have htz : u.take (k + 1) = u.take k ++ [z] := by rw [List.take_add_one, hz]; rfl
          have hAl : (p ++ u.take k).length = a + k := by simp; omega
          have hD4 : Dat W5 (some ⟨bk, 0, none⟩) n cap ((p ++ u.take k) ++ z :: x :: (u.drop (k + 1) ++ q)) := by
            rw [htz] at hD; simpa using hD
          (repeat first|refine zC ?_|refine zb ?_|refine zk ?_)
          refine r_mix2 (fun W' => Dat W' (some ⟨bk, 0, none⟩) n cap ((p ++ u.take k) ++ z :: x :: (u.drop (k + 1) ++ q))) 15 [(0, false), (1, false), (2, false), (3, false), (4, false), (5, false), (6, false), (7, false), (8, false), (9, false), (10, false), (11, false), (12, false), (13, false), (14, false), (15, true), (16, false), (17, true)] follows_mixed (by kernel_rfl) (by kernel_rfl) (by kernel_rfl) (by kernel_rfl) (hD4.kp ((Sm.drew _).kp []) (by simp)) ?_
          have kd := (Sm.drew W5).kp []
          generalize ({ W5 with drawn := W5.drawn + 1 } : World) = wd at kd ⊢
          have hDd := hD4.kp kd (by simp)
          (repeat refine so rfl rfl (by first|exact trivial|(simp only[AllP];omega)) ?_)
          refine s_load (b := bk) (off := a + k) (v := I z) rfl (ptr_eq (by omega)) (by kernel_rfl) (fun W' h' => Dat.get h' (by rw [show a + k = (p ++ u.take k).length by omega]; exact get_at)) rfl rfl rfl rfl ?_
          (repeat refine so rfl rfl (by first|exact trivial|(simp only[AllP];omega)) ?_)
          refine s_load (b := bk) (off := a + k + 1) (v := I x) rfl (ptr_eq (by omega)) (by kernel_rfl) (fun W' h' => Dat.get h' (by rw [show a + k + 1 = (p ++ u.take k).length + 1 by omega]; exact get_next)) rfl rfl rfl rfl ?_
          (repeat refine so rfl rfl (by first|exact trivial|(simp only[AllP];omega)) ?_)
          refine s_act rfl rfl ?_
          obtain ⟨L1, hL1, hi1, hw1⟩ := Dat.wr hDd (i := a + k + 1) (by omega)
          refine o_store (b := bk) (off := a + k + 1) (v := I z) (ptr_eq (by omega)) hL1 hi1 rfl rfl rfl rfl rfl rfl ?_
          intro V1 hu1
          have hD5 := hw1 z V1 hu1
          refine o_nil ?_
          (repeat refine so rfl rfl (by first|exact trivial|(simp only[AllP];omega)) ?_)
          refine s_act rfl rfl ?_
          obtain ⟨L2, hL2, hi2, hw2⟩ := Dat.wr hD5 (i := a + k) (by omega)
          refine o_store (b := bk) (off := a + k) (v := I x) (ptr_eq (by omega)) hL2 hi2 rfl rfl rfl rfl rfl rfl ?_
          intro V2 hu2
          have hD6 := hw2 x V2 hu2
          refine o_nil ?_
          (repeat refine sn ?_)
          rw [show a + k = (p ++ u.take k).length by omega, swap_back] at hD6
          (repeat first|refine zg ?_|refine zo rfl rfl (by first|exact trivial|(simp only[AllP];omega)) ?_|refine zn ?_)
          exact ⟨k, by show [_, _, I ((a : Int) + ((k + 1 : Nat) : Int) - 1)] = [_, _, I ((a : Int) + (k : Int))]; rw [show (a : Int) + ((k + 1 : Nat) : Int) - 1 = (a : Int) + (k : Int) by omega]; rfl, ⟨by omega, by omega, by rw [hdz]; simpa using hD6, (hk5.trans (kd.mono (by simp))).trans ((hu1.kp _ (.inl (by simp [blkOf]))).trans (hu2.kp _ (.inl (by simp [blkOf]))))⟩, by omega⟩
        · have : k = i := by omega
          subst this
          (repeat first|refine ze rfl ?_|refine zr ?_)
          refine ⟨_, rfl, u.take k ++ x :: u.drop k, ?_, srt_put (by rw [List.take_append_drop]; exact hu) (fun y hy => ?_) (fun l y e1 => ?_), hD, hk5⟩
          · refine List.perm_middle.trans ?_
            rw [List.take_append_drop]
            exact List.perm_append_comm (l₁ := [x])
          · obtain ⟨i', hi', hz'⟩ := drop_mem hy
            exact .inl (hhi i' y hi' hz')
          · obtain ⟨i', hi', hz'⟩ := take_mem (l := u) (k := k) (x := y) (by rw [e1]; simp)
            have h2 := hlo i' y hi' hz'
            have h3 := hah y (List.mem_of_getElem? hz') x (by simp)
            unfold LtK; omega
    · (repeat first|refine zA ?_|refine zg ?_|refine zk ?_)
      have hf := halfI (x := (a : Int) + b) (s := a + b) (by omega) (by omega)
      obtain ⟨mid, hmid⟩ : ∃ h, h = (a + b) / 2 := ⟨_, rfl⟩
      rw [← hmid] at hf
      refine zo rfl rfl (by simp only [AllP]; rw [hf]; omega) ?_
      (repeat first|refine zA ?_|refine zB ?_|refine zg ?_|refine zo rfl rfl (by first|exact trivial|(simp only[AllP];omega)) ?_|refine zn ?_)
      rw [hf]
      refine r_cut (α := Nat × Nat) [0, 1, 2, 3, 4, 18, 19, 20, 21] (fun y => [.slice (some ⟨bk, 0, none⟩) n cap, I a, I m, I b, fv g lb, I mid, I ((mid : Int) + m), I y.1, I y.2]) (fun y W' => W' = w ∧ a ≤ y.1 ∧ y.1 ≤ y.2 ∧ y.2 ≤ m ∧ y.2 ≤ mid ∧ mid + m ≤ b + y.1 ∧ (y.1 = a ∨ y.1 + b = mid + m) ∧ (y.2 = m ∨ y.2 = mid)) ?_ ?_
      · refine r_if rfl (fun hg => ?_) (fun hg => ?_)
        · (repeat first|refine zA ?_|refine zg ?_|refine zo rfl rfl (by first|exact trivial|(simp only[AllP];omega)) ?_|refine zn ?_)
          exact ⟨(mid + m - b, mid), by show [_, _, _, _, _, _, _, I ((mid : Int) + m - b), _] = [_, _, _, _, _, _, _, I ((mid + m - b : Nat) : Int), _]; rw [show (mid : Int) + m - b = ((mid + m - b : Nat) : Int) by omega]; rfl, rfl, by dsimp only; omega, by dsimp only; omega, by dsimp only; omega, Nat.le_refl _, by dsimp only; omega, .inr (by dsimp only; omega), .inr rfl⟩
        · (repeat first|refine zA ?_|refine zg ?_|refine zo rfl rfl trivial ?_|refine zn ?_)
          exact ⟨(a, m), rfl, rfl, Nat.le_refl _, by dsimp only; omega, Nat.le_refl _, by dsimp only; omega, by dsimp only; omega, .inl rfl, .inl rfl⟩
      rintro ⟨lo, hi⟩ e W ⟨rfl, c1, c2, c3, c4, c5, c6, c7⟩
      dsimp only at c1 c2 c3 c4 c5 c6 c7
      have get_u : ∀ {i k z : Nat}, i = a + k → u[k]? = some z → (p ++ u ++ v ++ q)[i]? = some z := fun {i k z} hi hz => by
        have hl := (List.getElem?_eq_some_iff.1 hz).1
        rw [List.getElem?_append_left (by simp; omega), List.getElem?_append_left (by simp; omega), List.getElem?_append_right (by omega), ← hz]
        congr 1; omega
      (repeat first|refine zA ?_|refine zC ?_|refine zg ?_|refine zo rfl rfl (by first|exact trivial|(simp only[AllP];omega)) ?_|refine zn ?_|refine zb ?_)
      refine r_loop (α := Nat × Nat) [0, 1, 2, 3, 4, 18, 19, 20, 21, 22] (fun y => [.slice (some ⟨bk, 0, none⟩) n cap, I a, I m, I b, fv g lb, I mid, I ((mid : Int) + m), I y.1, I y.2, I ((mid : Int) + m - 1)])
        (fun y W' => lo ≤ y.1 ∧ y.1 ≤ y.2 ∧ y.2 ≤ hi ∧ (∀ c x z, lo ≤ c → c < y.1 → u[c - a]? = some x → v[mid - 1 - c]? = some z → ¬ d z < d x) ∧ (∀ c x z, y.2 ≤ c → c < hi → u[c - a]? = some x → v[mid - 1 - c]? = some z → d z < d x) ∧ Kp [] W W') (fun y => y.2 - y.1) (lo, hi) rfl
        ⟨Nat.le_refl _, c2, Nat.le_refl _, fun c x z h1 h2 => by dsimp only at h2; omega, fun c x z h1 h2 => by dsimp only at h1; omega, Kp.refl _ _⟩ ?_
      rintro ⟨i, j⟩ e W1 ⟨hi1, hij, hj1, hlo, hhi, hk⟩
      dsimp only at hi1 hij hj1 hlo hhi
      (repeat first|refine zA ?_|refine zB ?_|refine zg ?_|refine zo rfl rfl trivial ?_|refine zn ?_)
      refine r_if rfl (fun hlt => ?_) (fun hlt => ?_)
      · (repeat first|refine zA ?_|refine zg ?_|refine zb ?_|refine zk ?_)
        have hf2 := halfI (x := (i : Int) + j) (s := i + j) (by omega) (by omega)
        obtain ⟨c, hcc⟩ : ∃ h, h = (i + j) / 2 := ⟨_, rfl⟩
        rw [← hcc] at hf2
        refine zo rfl rfl (by simp only [AllP]; rw [hf2]; omega) ?_
        (repeat refine zn ?_)
        rw [hf2]
        refine r_seq ?_
        obtain ⟨x, hx⟩ : ∃ x, u[c - a]? = some x := ⟨_, List.getElem?_eq_getElem (by omega)⟩
        obtain ⟨z, hz⟩ : ∃ z, v[mid - 1 - c]? = some z := ⟨_, List.getElem?_eq_getElem (by omega)⟩
        refine r_cut (α := Bool) [0, 1, 2, 3, 4, 18, 19, 20, 21, 22, 23, 171] (fun y => [.slice (some ⟨bk, 0, none⟩) n cap, I a, I m, I b, fv g lb, I mid, I ((mid : Int) + m), I i, I j, I ((mid : Int) + m - 1), I c, .bool y]) (fun y W' => Kp [] W1 W' ∧ (y = true ↔ ¬ d z < d x)) ?_ ?_
        · refine r_mix (fun W' => Kp [] W1 W') [(0, false), (1, false), (2, false), (3, false), (4, false), (5, false), (6, false), (7, false), (8, false), (9, false), (10, false), (11, true), (12, false), (13, false)] follows_mixed (by kernel_rfl) (by kernel_rfl) (by kernel_rfl) ((Sm.drew _).kp _) ?_
          have kd := (Sm.drew W1).kp []
          generalize ({ W1 with drawn := W1.drawn + 1 } : World) = wd at kd ⊢
          have hDW := h0.kp hk (by simp)
          (repeat refine xo rfl rfl (by first|exact trivial|(simp only[AllP];omega)) ?_)
          refine x_load (b := bk) (off := mid + m - 1 - c) (v := I z) rfl (ptr_eq (by omega)) (fun W' h' => Dat.get (hDW.kp h' (by simp)) (get_v (by omega) hz)) rfl rfl rfl rfl ?_
          (repeat refine xo rfl rfl (by first|exact trivial|(simp only[AllP];omega)) ?_)
          refine x_load (b := bk) (off := c) (v := I x) rfl (ptr_eq (by omega)) (fun W' h' => Dat.get (hDW.kp h' (by simp)) (get_u (by omega) hx)) rfl rfl rfl rfl ?_
          refine x_act rfl ?_
          refine o_callv (hc wd ((hk.trans kd).mono (by simp)) z x (hSv z (List.mem_of_getElem? hz)) (hSu x (List.mem_of_getElem? hx))) rfl rfl rfl rfl ?_
          rintro v' W4 ⟨c', rfl, hcc', rfl⟩
          refine o_nil ⟨.inr kd, ?_⟩
          (repeat first|refine xo rfl rfl trivial ?_|refine xn ?_)
          refine ⟨!decide (c' < 0), rfl, kd, ?_⟩
          rw [Bool.not_eq_true', decide_eq_false_iff_not]
          exact not_congr hcc'
        · rintro y e3 W3 ⟨k3, hy⟩
          have mono : ∀ {c1 c2 x1 z1 x2 z2 : Nat}, c1 ≤ c2 → c2 < hi → lo ≤ c1 → u[c1 - a]? = some x1 → v[mid - 1 - c1]? = some z1 → u[c2 - a]? = some x2 → v[mid - 1 - c2]? = some z2 → d x1 ≤ d x2 ∧ d z2 ≤ d z1 := fun {c1 c2 x1 z1 x2 z2} h12 h2 h1 e1 e2 e3 e4 => by
            have a1 := srt_le hu (show c1 - a ≤ c2 - a by omega) e1 e3
            have a2 := srt_le hv (show mid - 1 - c2 ≤ mid - 1 - c1 by omega) e4 e2
            unfold LtK at a1 a2
            refine ⟨?_, ?_⟩
            · rcases a1 with rfl | a1 <;> omega
            · rcases a2 with rfl | a2 <;> omega
          cases y with
          | true =>
            have hzx := hy.1 rfl
            (repeat first|refine zg ?_|refine zo rfl rfl (by first|exact trivial|(simp only[AllP];omega)) ?_|refine zn ?_|refine zt rfl ?_)
            refine ⟨(c + 1, j), rfl, ⟨by dsimp only; omega, by dsimp only; omega, hj1, fun c2 x2 z2 h1 h2 e1 e2 => ?_, hhi, hk.trans k3⟩, by dsimp only; omega⟩
            dsimp only at h2
            have := mono (show c2 ≤ c by omega) (by omega) h1 e1 e2 hx hz
            omega
          | false =>
            have hzx : d z < d x := Classical.byContradiction fun q => by have := hy.2 q; cases this
            (repeat first|refine zg ?_|refine zo rfl rfl trivial ?_|refine zn ?_|refine zf rfl ?_)
            refine ⟨(i, c), rfl, ⟨hi1, by dsimp only; omega, by dsimp only; omega, hlo, fun c2 x2 z2 h1 h2 e1 e2 => ?_, hk.trans k3⟩, by dsimp only; omega⟩
            dsimp only at h1
            have := mono h1 h2 (by omega) hx hz e1 e2
            omega
      · have hij' : i = j := by omega
        subst hij'
        refine ze rfl ?_
        refine zA ?_
        refine zg ?_
        refine zo rfl rfl (by first|exact trivial|(simp only[AllP];omega)|(simp(discharger:=omega)only[AllP,cA,cB];omega)|(simp only[AllP,cC,cD,cE,cF,cG];omega)) ?_
        refine zn ?_
        have cut := srt_cut hu hv (s := i - a) (e := mid - i) (by omega) (by omega) (fun x y hpos e1 e2 => by
            have hyl := (List.getElem?_eq_some_iff.1 e2).1
            have h1 := hlo (i - 1) x y (by omega) (by omega) (by rw [show i - 1 - a = i - a - 1 by omega]; exact e1) (by rw [show mid - 1 - (i - 1) = mid - i by omega]; exact e2)
            have h2 := hah x (List.mem_of_getElem? e1) y (List.mem_of_getElem? e2)
            unfold LtK; omega) (fun x y hpos e1 e2 => by
            have hyl := (List.getElem?_eq_some_iff.1 e2).1
            exact .inl (hhi i y x (Nat.le_refl _) (by omega) e2 (by rw [show mid - 1 - i = mid - i - 1 by omega]; exact e1)))
        have hs1 : u = u.take (i - a) ++ u.drop (i - a) := (List.take_append_drop _ _).symm
        have hs2 : v = v.take (mid - i) ++ v.drop (mid - i) := (List.take_append_drop _ _).symm
        have l1 : (u.take (i - a)).length = i - a := by simp; omega
        have l2 : (u.drop (i - a)).length = m - i := by simp; omega
        have l3 : (v.take (mid - i)).length = mid - i := by simp; omega
        have l4 : (v.drop (mid - i)).length = b - m - (mid - i) := by simp; omega
        generalize u.take (i - a) = u1 at hs1 l1 cut
        generalize u.drop (i - a) = u2 at hs1 l2 cut
        generalize v.take (mid - i) = v1 at hs2 l3 cut
        generalize v.drop (mid - i) = v2 at hs2 l4 cut
        subst hs1
        subst hs2
        have hD1 : Dat W1 (some ⟨bk, 0, none⟩) n cap (p ++ u1 ++ u2 ++ v1 ++ (v2 ++ q)) := by
          have h9 : Dat W1 (some ⟨bk, 0, none⟩) n cap (p ++ (u1 ++ u2) ++ (v1 ++ v2) ++ q) := h0.kp hk (by simp)
          simpa using h9
        obtain ⟨su1, su2, _⟩ := List.pairwise_append.1 hu
        obtain ⟨sv1, sv2, _⟩ := List.pairwise_append.1 hv
        refine r_seq ?_
        refine r_cut (α := Unit) [0, 1, 2, 3, 4, 18, 20, 24] (fun _ => [.slice (some ⟨bk, 0, none⟩) n cap, I a, I m, I b, fv g lb, I mid, I i, I ((mid + m - i : Nat) : Int)]) (fun _ W' => Dat W' (some ⟨bk, 0, none⟩) n cap (p ++ u1 ++ v1 ++ (u2 ++ v2 ++ q)) ∧ Kp (blkOf (some ⟨bk, 0, none⟩)) W W') ?_ ?_
        · have ev1 : (mid : Int) + m - i = ((mid + m - i : Nat) : Int) := by omega
          by_cases g1 : i < m
          · by_cases g2 : m < mid + m - i
            · (repeat first|refine zA ?_|refine zg ?_|refine zo rfl rfl trivial ?_)
              refine o_is true 3 true rfl rfl rfl (by simp; omega) ?_
              (repeat first|refine zo rfl rfl trivial ?_|refine zn ?_)
              refine r_yes (b := decide ((m : Int) < (mid : Int) + m - i)) rfl (by simp; omega) ?_
              (repeat first|refine zg ?_|refine zo rfl rfl trivial ?_)
              refine o_call (rotate_ret (g := g) (lb := lb) (p := p ++ u1) (u := u2) (v := v1) (q := v2 ++ q) (a := i) (m := m) (b := mid + m - i) hD1 (by simp; omega) (by omega) (by omega) (by omega) (by omega)) (by show [_, _, _, I ((mid : Int) + m - i), _] = _; rw [ev1]; rfl) rfl rfl ?_
              rintro v' W5 ⟨hD5, hk5⟩
              (repeat refine zn ?_)
              exact ⟨(), by show [_, _, _, _, _, _, _, I ((mid : Int) + m - i)] = _; rw [ev1]; rfl, by simpa using hD5, (hk.mono (by simp)).trans hk5⟩
            · have e0 : v1 = [] := List.eq_nil_of_length_eq_zero (by omega)
              subst e0
              (repeat first|refine zA ?_|refine zg ?_|refine zo rfl rfl trivial ?_)
              refine o_is true 3 true rfl rfl rfl (by simp; omega) ?_
              (repeat first|refine zo rfl rfl trivial ?_|refine zn ?_)
              refine r_no (b := decide ((m : Int) < (mid : Int) + m - i)) rfl (by simp; omega) ?_
              (repeat refine zk ?_)
              exact ⟨(), by show [_, _, _, _, _, _, _, I ((mid : Int) + m - i)] = _; rw [ev1]; rfl, by simpa using hD1, hk.mono (by simp)⟩
          · have e0 : u2 = [] := List.eq_nil_of_length_eq_zero (by omega)
            subst e0
            (repeat first|refine zA ?_|refine zg ?_|refine zo rfl rfl trivial ?_)
            refine o_is false 3 true rfl rfl rfl (by simp; omega) ?_
            (repeat first|refine zo rfl rfl trivial ?_|refine zn ?_|refine zk ?_|refine zf rfl ?_)
            exact ⟨(), by show [_, _, _, _, _, _, _, I ((mid : Int) + m - i)] = _; rw [ev1]; rfl, by simpa using hD1, hk.mono (by simp)⟩
        rintro _ e W5 ⟨hD5, hk5⟩
        refine r_seq ?_
        refine r_cut (α := Unit) [0, 1, 2, 3, 4, 18, 20, 24] (fun _ => [.slice (some ⟨bk, 0, none⟩) n cap, I a, I m, I b, fv g lb, I mid, I i, I ((mid + m - i : Nat) : Int)]) (fun _ W' => ∃ s1, s1.Perm (u1 ++ v1) ∧ Srt d s1 ∧ Dat W' (some ⟨bk, 0, none⟩) n cap (p ++ s1 ++ (u2 ++ v2 ++ q)) ∧ Kp (blkOf (some ⟨bk, 0, none⟩)) W W') ?_ ?_
        · by_cases g1 : a < i
          · by_cases g2 : i < mid
            · (repeat first|refine zA ?_|refine zg ?_|refine zo rfl rfl trivial ?_)
              refine o_is true 3 true rfl rfl rfl (by simp; omega) ?_
              (repeat first|refine zo rfl rfl trivial ?_|refine zn ?_)
              refine r_yes (b := decide ((i : Int) < mid)) rfl (by simp; omega) ?_
              (repeat first|refine zg ?_|refine zo rfl rfl trivial ?_)
              refine o_call (ih W5 p u1 v1 (u2 ++ v2 ++ q) a i mid (by simp at hN; omega) hD5 (hc.kp hk5) (fun x hx => hSu x (by simp [hx])) (fun x hx => hSv x (by simp [hx])) su1 sv1 (fun x hx y hy => hah x (by simp [hx]) y (by simp [hy])) (by omega) (by omega) ha (by omega) (by omega)) rfl rfl rfl ?_
              rintro v' W6 ⟨s1, hp1, hr1, hD6, hk6⟩
              (repeat refine zn ?_)
              exact ⟨(), rfl, s1, hp1, hr1, hD6, hk5.trans hk6⟩
            · have e0 : v1 = [] := List.eq_nil_of_length_eq_zero (by omega)
              subst e0
              (repeat first|refine zA ?_|refine zg ?_|refine zo rfl rfl trivial ?_)
              refine o_is true 3 true rfl rfl rfl (by simp; omega) ?_
              (repeat first|refine zo rfl rfl trivial ?_|refine zn ?_)
              refine r_no (b := decide ((i : Int) < mid)) rfl (by simp; omega) ?_
              (repeat refine zk ?_)
              exact ⟨(), rfl, u1, by simp, su1, by simpa using hD5, hk5⟩
          · have e0 : u1 = [] := List.eq_nil_of_length_eq_zero (by omega)
            subst e0
            (repeat first|refine zA ?_|refine zg ?_|refine zo rfl rfl trivial ?_)
            refine o_is false 3 true rfl rfl rfl (by simp; omega) ?_
            (repeat first|refine zo rfl rfl trivial ?_|refine zn ?_|refine zk ?_|refine zf rfl ?_)
            exact ⟨(), rfl, v1, by simp, sv1, by simpa using hD5, hk5⟩
        rintro _ e W6 ⟨s1, hp1, hr1, hD6, hk6⟩
        have ls1 : s1.length = u1.length + v1.length := by rw [hp1.length_eq]; simp
        have fin : ∀ W' s2, s2.Perm (u2 ++ v2) → Srt d s2 → Dat W' (some ⟨bk, 0, none⟩) n cap (p ++ s1 ++ s2 ++ q) → Kp (blkOf (some ⟨bk, 0, none⟩)) W W' → ∃ s', s'.Perm (u1 ++ u2 ++ (v1 ++ v2)) ∧ Srt d s' ∧ Dat W' (some ⟨bk, 0, none⟩) n cap (p ++ s' ++ q) ∧ Kp (blkOf (some ⟨bk, 0, none⟩)) W W' := fun W' s2 h1 h2 h3 h4 => by
          refine ⟨s1 ++ s2, ?_, hr1.append h2 (fun x hx y hy => cut x (hp1.subset hx) y (h1.subset hy)), by simpa using h3, h4⟩
          refine (hp1.append h1).trans ?_
          rw [List.append_assoc, List.append_assoc]
          refine List.Perm.append_left _ ?_
          rw [← List.append_assoc, ← List.append_assoc]
          exact List.Perm.append_right _ List.perm_append_comm
        by_cases g1 : mid < mid + m - i
        · by_cases g2 : mid + m - i < b
          · (repeat first|refine zA ?_|refine zg ?_|refine zo rfl rfl trivial ?_)
            refine o_is true 3 true rfl rfl rfl (by simp; omega) ?_
            (repeat first|refine zo rfl rfl trivial ?_|refine zn ?_)
            refine r_yes (b := decide (((mid + m - i : Nat) : Int) < b)) rfl (by simp; omega) ?_
            (repeat first|refine zg ?_|refine zo rfl rfl trivial ?_)
            refine o_call (ih W6 (p ++ s1) u2 v2 q mid (mid + m - i) b (by simp at hN; omega) (by simpa using hD6) (hc.kp hk6) (fun x hx => hSu x (by simp [hx])) (fun x hx => hSv x (by simp [hx])) su2 sv2 (fun x hx y hy => hah x (by simp [hx]) y (by simp [hy])) (by omega) (by omega) (by simp; omega) (by omega) (by omega)) rfl rfl rfl ?_
            rintro v' W7 ⟨s2, hp2, hr2, hD7, hk7⟩
            (repeat refine zn ?_)
            exact ⟨_, rfl, fin W7 s2 hp2 hr2 hD7 (hk6.trans hk7)⟩
          · have e0 : v2 = [] := List.eq_nil_of_length_eq_zero (by omega)
            subst e0
            (repeat first|refine zA ?_|refine zg ?_|refine zo rfl rfl trivial ?_)
            refine o_is true 3 true rfl rfl rfl (by simp; omega) ?_
            (repeat first|refine zo rfl rfl trivial ?_|refine zn ?_)
            refine r_no (b := decide (((mid + m - i : Nat) : Int) < b)) rfl (by simp; omega) ?_
            (repeat refine zk ?_)
            exact ⟨_, rfl, fin W6 u2 (by simp) su2 (by simpa using hD6) hk6⟩
        · have e0 : u2 = [] := List.eq_nil_of_length_eq_zero (by omega)
          subst e0
          (repeat first|refine zA ?_|refine zg ?_|refine zo rfl rfl trivial ?_)
          refine o_is false 3 true rfl rfl rfl (by simp; omega) ?_
          (repeat first|refine zo rfl rfl trivial ?_|refine zn ?_|refine zk ?_|refine zf rfl ?_)
          exact ⟨_, rfl, fin W6 v2 (by simp) sv2 (by simpa using hD6) hk6⟩
end Go.Vc
