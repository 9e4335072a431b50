/- The law NamesFresh as a call. -/
import Derived.Test.YtghdpibdidfpbaaDoorQClFresh17
import Derived.Test.YtghdpibdidfpbaaDoorQClFresh18
import Derived.Test.YtghdpibdidfpbaaDoorRows
import Derived.SliceStrings
namespace Go.Vc
open Go Go.Proofs
set_option maxRecDepth 10000
variable {w : World}
theorem nameB_len {s : Str} (h : nameB s = true) : s.length ≤ 24 ∧ s ≠ [] := by
  simp only [nameB, Bool.and_eq_true, decide_eq_true_eq] at h; exact ⟨h.1.1.2, h.1.1.1⟩
theorem nums_snoc (l : List Str) (s : Str) : nums (l ++ [s]) = nums l ++ [(l.length, s)] := by
  unfold nums
  rw [List.length_append, List.length_singleton, List.range_succ, List.map_append]
  congr 1
  · refine List.map_congr_left fun i hi => ?_
    have hi := List.mem_range.1 hi
    simp [List.getElem?_append_left hi]
  · simp
/-- the last name alone is a name of its own -/
theorem near_self {l : List Str} {s : Str} (hl : ∀ x ∈ l, x.length ≤ 256) (hs : s.length ≤ 256) (hn : s ∉ l) : nearOf (l ++ [s]) s 0 = [l.length] := by
  unfold nearOf
  rw [nums_snoc, nrOut_snoc]
  have h1 : nrOut s 0 (nums l) = [] := by
    refine List.eq_nil_iff_forall_not_mem.2 fun i hi => ?_
    obtain ⟨h1, h2⟩ := nearOf_mem.1 hi
    have hmem : l.getD i [] ∈ l := by rw [List.getD_eq_getElem?_getD, List.getElem?_eq_getElem h1]; exact List.getElem_mem h1
    have h0 : dist s (l.getD i []) = 0 := by omega
    rw [dist_zero hs (hl _ hmem)] at h0
    exact hn (h0 ▸ hmem)
  have h2 : dist s s = 0 := (dist_zero hs hs).2 rfl
  rw [h1]
  simp [h2]
theorem addL_name {l : List Str} {s : Str} (h : ∀ x ∈ l, nameB x = true) : ∀ x ∈ addL l s, nameB x = true := fun x hx => by
  unfold addL at hx
  split at hx
  · rename_i c
    rcases List.mem_append.1 hx with h1 | h1
    · exact h x h1
    · simp at h1; subst h1; exact c.1
  · exact h x hx
set_option maxHeartbeats 6400000 in
theorem namesFresh_ret (hP : PowW w) {ad : Option Addr} {cap : Nat} (list : List Str) (hr : ReadS w ad (list.map S)) (hs : ∀ s ∈ list, s.length ≤ 9223372036854775807) (hn : list.length ≤ 9223372036854775807) (base : Str) (hbl : base.length ≤ 9223372036854775807) (rounds : Int) (hrd : -9223372036854775808 ≤ rounds ∧ rounds ≤ 9223372036854775807) :
    Ret Tryd.prog 3 [.slice ad list.length cap, S base, I rounds] w (fun v w' => v = .bool true ∧ Kp [] w w') := by
  refine enter Tryd.call3 Tryd.func3 rfl rfl rfl rfl ?_
  (repeat first|refine zA ?_|refine zg ?_|refine zo rfl rfl trivial ?_|refine zn ?_)
  refine o_call (new_ret (ad := none) (cap := 0) [] rfl (by simp) (by simp)) rfl rfl rfl ?_
  intro v w1 hp
  obtain ⟨p, fp, m, ad1, cap1, rfl, hT, kp1, hfp⟩ : NewPost w w1 v (some [], 0) := hp
  (repeat first|refine zA ?_|refine zB ?_|refine zg ?_|refine zo rfl rfl trivial ?_|refine zn ?_|refine zU rfl rfl rfl ?_)
  refine o_call (num_ret _ _) rfl rfl rfl ?_
  rintro v w1' ⟨rfl, rfl⟩
  (repeat first|refine zo rfl rfl trivial ?_|refine zU rfl rfl rfl ?_)
  refine o_is false _ _ rfl rfl rfl (by decide) ?_
  refine o_call works_ret rfl rfl rfl ?_
  rintro v w2 ⟨rfl, kp2⟩
  have hT2 := hT.kp kp2 (by simp)
  have k2 := kp1.trans kp2
  (repeat first|refine zA ?_|refine zB ?_|refine zg ?_|refine zo rfl rfl trivial ?_|refine zn ?_|refine zb ?_|refine zk ?_|refine zf rfl ?_)
  refine r_loop (α := Nat × List Str) [0, 1, 2, 7, 9, 10] (fun g => [.slice ad list.length cap, S base, I rounds, ptr p, I g.2.length, I g.1])
    (fun g W => g.1 ≤ list.length ∧ g.1 ≤ 200 ∧ g.2.length ≤ g.1 ∧ (∀ x ∈ g.2, nameB x = true) ∧ Kp [] w W ∧ ∃ fp m ad cap, Tab W p fp g.2 m ad cap ∧ ∀ b, b ∈ fp → w.heap.size ≤ b) (fun g => list.length - g.1) (0, []) rfl
    ⟨by omega, by omega, by simp, by simp, k2, fp, m, ad1, cap1, hT2, hfp⟩ ?_
  rintro ⟨i, acc⟩ e W ⟨hi, hi2, hal, hnm, kpW, fpW, mW, adW, capW, hTW, hfW⟩
  dsimp only at hi hi2 hal hnm hTW ⊢
  refine r_seq ?_
  refine r_seq ?_
  refine r_cut (α := Bool) [0, 1, 2, 7, 9, 10, 51] (fun z => [.slice ad list.length cap, S base, I rounds, ptr p, I acc.length, I i, .bool z]) (fun z W' => W' = W ∧ (z = true → i < list.length ∧ i < 200) ∧ (z = false → list.length ≤ i ∨ 200 ≤ i)) ?_ ?_
  · (repeat first|refine zg ?_|refine zo rfl rfl trivial ?_)
    refine o_split _ _ rfl rfl rfl (fun h1 => ?_) (fun h1 => ?_)
    · have h1 : (i : Int) < list.length := of_decide_eq_true h1
      (repeat first|refine zo rfl rfl trivial ?_|refine zn ?_)
      exact ⟨_, rfl, rfl, fun h => ⟨by omega, by have := of_decide_eq_true h; omega⟩, fun h => .inr (by have := of_decide_eq_false h; omega)⟩
    · have h1 : ¬ (i : Int) < list.length := of_decide_eq_false h1
      (repeat first|refine zo rfl rfl trivial ?_|refine zn ?_)
      exact ⟨_, rfl, rfl, (fun h => by cases h), fun h => .inl (by omega)⟩
  rintro z e1 W1 ⟨rfl, hz1, hz0⟩
  cases z with
  | true =>
    obtain ⟨hil, hi200⟩ := hz1 rfl
    obtain ⟨s, hsx⟩ : ∃ s, list[i]? = some s := ⟨_, List.getElem?_eq_getElem hil⟩
    have hsl : s.length ≤ 9223372036854775807 := hs s (List.mem_of_getElem? hsx)
    obtain ⟨b, off, rfl, _, hcell0⟩ := hr.at_ (by simp; omega)
    have hcell : ∀ W', Kp [] w W' → W'.cell? ⟨b, off + i, none⟩ = some (S s) := fun W' hk => by
      obtain ⟨b', off', he, _, hc⟩ := (hr.kp hk (by simp)).at_ (by simp; omega)
      cases he
      exact hc i (S s) (by rw [List.getElem?_map, hsx]; rfl)
    (repeat first|refine zA ?_|refine zC ?_|refine zg ?_|refine zo rfl rfl (by first|exact trivial|(simp only[AllP];omega)) ?_|refine zb ?_|refine zk ?_|refine zt rfl ?_)
    refine o_loadc rfl (hcell _ kpW) rfl rfl rfl rfl ?_
    refine o_call (find_ret hTW s) rfl rfl rfl ?_
    rintro v W2 ⟨rfl, rfl⟩
    unfold findV
    (repeat first|refine zA ?_|refine zg ?_|refine zo rfl rfl (by first|exact trivial|(simp only[AllP];omega)) ?_|refine zn ?_)
    refine o_loadc rfl (hcell _ kpW) rfl rfl rfl rfl ?_
    refine o_call (add_ret hTW s hsl) rfl rfl rfl ?_
    rintro v W3 ⟨rfl, fp3, m3, ad3, cap3, hT3, kp3, hf3⟩
    have k3 : Kp [] w W3 := kpW.since kp3 hfW
    have hfw3 : ∀ b, b ∈ fp3 → w.heap.size ≤ b := fun b hb => by
      rcases hf3 b hb with h | h
      · exact hfW b h
      · exact Nat.le_trans kpW.size h
    (repeat first|refine zA ?_|refine zB ?_|refine zg ?_|refine zo rfl rfl (by first|exact trivial|(simp only[AllP];omega)) ?_|refine zn ?_)
    refine o_loadc rfl (hcell _ k3) rfl rfl rfl rfl ?_
    refine o_call (check_ret s hsl _) rfl rfl rfl ?_
    rintro v W3' ⟨rfl, rfl⟩
    refine o_call (num_ret _ _) rfl rfl rfl ?_
    rintro v W3' ⟨rfl, rfl⟩
    have next : ∀ (e' : Env) (acc' : List Str) (W' : World), acc'.length ≤ i + 1 → (∀ x ∈ acc', nameB x = true) → Kp [] w W' → (∃ fp m ad cap, Tab W' p fp acc' m ad cap ∧ ∀ b, b ∈ fp → w.heap.size ≤ b) →
        List.map e' [0, 1, 2, 7, 9, 10] = [Value.slice (some ⟨b, off, none⟩) list.length cap, S base, I rounds, ptr p, I acc'.length, I ((i : Int) + 1)] →
        ∃ g' : Nat × List Str, List.map e' [0, 1, 2, 7, 9, 10] = [Value.slice (some ⟨b, off, none⟩) list.length cap, S base, I rounds, ptr p, I g'.2.length, I g'.1] ∧
          (g'.1 ≤ list.length ∧ g'.1 ≤ 200 ∧ g'.2.length ≤ g'.1 ∧ (∀ x ∈ g'.2, nameB x = true) ∧ Kp [] w W' ∧ ∃ fp m ad cap, Tab W' p fp g'.2 m ad cap ∧ ∀ b, b ∈ fp → w.heap.size ≤ b) ∧ list.length - g'.1 < list.length - i :=
      fun e' acc' W' h1 h2 h3 h4 h5 => ⟨(i + 1, acc'), by rw [h5]; rfl, ⟨by dsimp only; omega, by dsimp only; omega, h1, h2, h3, h4⟩, by dsimp only; omega⟩
    by_cases hnb : nameB s = true
    · have hck : checkI s = 0 := by unfold checkI; rw [if_pos hnb]
      rw [hck]
      cases hx : nidx acc s with
      | some x =>
        have hE : addE acc s = 61 := by unfold addE; rw [if_pos hnb, if_neg (by rw [hx]; simp)]
        have hL : addL acc s = acc := by unfold addL; rw [if_neg (by rw [hx]; simp)]
        rw [hE]
        rw [hL] at hT3
        (repeat first|refine zA ?_|refine zB ?_|refine zg ?_|refine zo rfl rfl trivial ?_|refine zn ?_|refine zU rfl rfl rfl ?_|refine zt rfl ?_)
        refine o_call (num_ret _ _) rfl rfl rfl ?_
        rintro v W3' ⟨rfl, rfl⟩
        (repeat first|refine zg ?_|refine zo rfl rfl (by first|exact trivial|(simp only[AllP];omega)) ?_|refine zn ?_|refine ze rfl ?_|refine zk ?_|refine zf rfl ?_)
        exact next _ acc _ (by omega) hnm k3 ⟨fp3, m3, ad3, cap3, hT3, hfw3⟩ rfl
      | none =>
        have hE : addE acc s = 0 := by unfold addE; rw [if_pos hnb, if_pos hx, if_pos (by omega)]
        have hN : addN acc s = (acc.length : Int) := by unfold addN; rw [if_pos ⟨hnb, hx, by omega⟩]
        have hL : addL acc s = acc ++ [s] := by unfold addL; rw [if_pos ⟨hnb, hx, by omega⟩]
        rw [hE, hN]
        rw [hL] at hT3
        have hnm3 : ∀ x ∈ acc ++ [s], nameB x = true := by rw [← hL]; exact addL_name hnm
        (repeat first|refine zA ?_|refine zg ?_|refine zo rfl rfl (by first|exact trivial|(simp only[AllP];omega)) ?_|refine zn ?_|refine zk ?_|refine zU rfl rfl rfl ?_|refine zf rfl ?_)
        refine o_loadc rfl (hcell _ k3) rfl rfl rfl rfl ?_
        refine o_call (near_ret (l := acc ++ [s]) (name := s) (most := 0) hT3.few (fun w' hk => namesAll_ret (hT3.kp hk (by simp))) ⟨_, rfl⟩ (by decide)) rfl rfl rfl ?_
        rintro v W4 ⟨ad4, cap4, out, rfl, hnew4, hperm, hsrt⟩
        have hself := near_self (l := acc) (s := s) (fun x hx => by have := (nameB_len (hnm x hx)).1; omega) (by have := (nameB_len hnb).1; omega) (nidx_none.1 hx)
        rw [hself] at hperm
        have hout : out = [acc.length] := List.perm_singleton.1 hperm
        subst hout
        have k4 := k3.trans hnew4.kp
        have hT4 := hT3.kp hnew4.kp (by simp)
        obtain ⟨b4, off4, rfl, _, hc4⟩ := hnew4.read.at_ (by simp)
        (repeat first|refine zA ?_|refine zB ?_|refine zg ?_|refine zo rfl rfl trivial ?_|refine zn ?_)
        refine o_call (num_ret _ _) rfl rfl rfl ?_
        rintro v W3' ⟨rfl, rfl⟩
        (repeat first|refine zo rfl rfl trivial ?_|refine zU rfl rfl rfl ?_)
        refine o_is false _ _ rfl rfl rfl (by simp) ?_
        (repeat first|refine zo rfl rfl (by first|exact trivial|(simp only[AllP,cC,cD,cE,cF,cG];omega)) ?_|refine zU rfl rfl rfl ?_)
        refine o_loadc rfl (hc4 0 (I acc.length) rfl) rfl rfl rfl rfl ?_
        (repeat first|refine zo rfl rfl trivial ?_|refine zn ?_)
        refine r_ifn rfl (fun hc => ?_) (fun hc => ?_)
        · exact absurd rfl hc
        · (repeat first|refine zg ?_|refine zo rfl rfl (by first|exact trivial|(simp only[AllP];omega)) ?_|refine zn ?_|refine zk ?_)
          refine next _ (acc ++ [s]) _ (by simp; omega) hnm3 k4 ⟨fp3, m3, ad3, cap3, hT4, hfw3⟩ ?_
          show [Value.slice (some ⟨b, off, none⟩) list.length cap, S base, I rounds, ptr p, I ((acc.length : Int) + 1), I ((i : Int) + 1)] = [Value.slice (some ⟨b, off, none⟩) list.length cap, S base, I rounds, ptr p, I ((acc ++ [s]).length : Int), I ((i : Int) + 1)]
          rw [List.length_append]; rfl
    · have hck : checkI s = 60 := by unfold checkI; rw [if_neg hnb]
      have hE : addE acc s = 60 := by unfold addE; rw [if_neg hnb]
      have hL : addL acc s = acc := by unfold addL; rw [if_neg (by rw [Bool.not_eq_true] at hnb; rw [hnb]; simp)]
      rw [hck, hE]
      rw [hL] at hT3
      (repeat first|refine zA ?_|refine zB ?_|refine zg ?_|refine zo rfl rfl trivial ?_|refine zn ?_|refine zT rfl rfl rfl ?_|refine zt rfl ?_)
      refine o_call (num_ret _ _) rfl rfl rfl ?_
      rintro v W3' ⟨rfl, rfl⟩
      (repeat first|refine zg ?_|refine zo rfl rfl (by first|exact trivial|(simp only[AllP];omega)) ?_|refine zn ?_|refine ze rfl ?_|refine zk ?_|refine zf rfl ?_)
      exact next _ acc _ (by omega) hnm k3 ⟨fp3, m3, ad3, cap3, hT3, hfw3⟩ rfl
  | false =>
    (repeat first|refine zA ?_|refine zB ?_|refine zg ?_|refine zo rfl rfl trivial ?_|refine ze rfl ?_|refine zf rfl ?_)
    refine o_call (check_ret base hbl _) rfl rfl rfl ?_
    rintro v W3' ⟨rfl, rfl⟩
    refine o_call (num_ret _ _) rfl rfl rfl ?_
    rintro v W3' ⟨rfl, rfl⟩
    cases hnb : nameB base with
    | false =>
      have hck : checkI base = 60 := by unfold checkI; rw [if_neg (by rw [hnb]; simp)]
      rw [hck]
      (repeat first|refine zA ?_|refine zg ?_|refine zo rfl rfl trivial ?_|refine zn ?_|refine zt rfl ?_)
      refine o_call (fresh_bad hTW base hbl hnb) rfl rfl rfl ?_
      rintro v W3' ⟨rfl, rfl⟩
      (repeat first|refine zA ?_|refine zg ?_|refine zo rfl rfl trivial ?_|refine zn ?_)
      refine o_call (num_ret _ _) rfl rfl rfl ?_
      rintro v W3' ⟨rfl, rfl⟩
      (repeat first|refine zo rfl rfl trivial ?_|refine zT rfl rfl rfl ?_)
      refine o_call (nlen_ret hTW) rfl rfl rfl ?_
      rintro v W3' ⟨rfl, rfl⟩
      (repeat first|refine zo rfl rfl trivial ?_|refine zn ?_|refine zr ?_)
      exact ⟨_, rfl, by simp, kpW⟩
    | true =>
      have hck : checkI base = 0 := by unfold checkI; rw [if_pos hnb]
      rw [hck]
      have hbn := nameB_len hnb
      have htm := tmod_rng rounds 30 (by decide)
      (repeat first|refine zA ?_|refine zB ?_|refine zg ?_|refine zo rfl rfl trivial ?_|refine zn ?_|refine zb ?_|refine zk ?_|refine zf rfl ?_)
      refine r_loop (α := Nat × List Str) [0, 1, 2, 7, 9, 18] (fun g => [.slice ad list.length cap, S base, I rounds, ptr p, I g.2.length, I g.1])
        (fun g W => g.1 ≤ 30 ∧ g.2.length ≤ 200 + g.1 ∧ (∀ x ∈ g.2, nameB x = true) ∧ Kp [] w W ∧ ∃ fp m ad cap, Tab W p fp g.2 m ad cap ∧ ∀ b, b ∈ fp → w.heap.size ≤ b) (fun g => 30 - g.1) (0, acc) rfl
        ⟨by omega, by dsimp only; omega, hnm, kpW, fpW, mW, adW, capW, hTW, hfW⟩ ?_
      clear hTW hfW kpW hnm hal
      rintro ⟨j, acc⟩ e W ⟨hj, hal, hnm, kpW, fpW, mW, adW, capW, hTW, hfW⟩
      dsimp only at hj hal hnm hTW ⊢
      (repeat first|refine zA ?_|refine zB ?_|refine zg ?_|refine zo rfl rfl (by first|exact trivial|(simp only[AllP];omega)) ?_|refine zn ?_)
      refine r_if rfl (fun hc => ?_) (fun hc => ?_)
      · have hc : (j : Int) < rounds.tmod 30 := hc
        (repeat first|refine zA ?_|refine zC ?_|refine zg ?_|refine zo rfl rfl trivial ?_|refine zb ?_|refine zk ?_)
        refine o_call (fresh_ret itoaF (hP.kp kpW (by simp)) hTW base hnb) rfl rfl rfl ?_
        rintro v W2 ⟨k, rfl, hk, hnot, _, kp2⟩
        have hT2' := hTW.kp kp2 (by simp)
        have k2' := kpW.trans kp2
        have hsn := frn_name hnb (k := k) (by omega)
        have hsh := frn_head hnb (k := k) (by omega)
        have hsl := nameB_len hsn
        generalize frn base k = s at hnot hsn hsh hsl ⊢
        (repeat first|refine zA ?_|refine zg ?_|refine zo rfl rfl trivial ?_|refine zn ?_)
        refine o_call (find_ret hT2' s) rfl rfl rfl ?_
        rintro v W3 ⟨rfl, rfl⟩
        unfold findV
        have hx := nidx_none.2 hnot
        rw [hx]
        have hck2 : checkI s = 0 := by unfold checkI; rw [if_pos hsn]
        (repeat first|refine zo rfl rfl trivial ?_|refine zn ?_)
        refine r_seq ?_
        refine r_seq ?_
        refine r_mix (fun W' => Kp [] W3 W') ((0, false) :: (1, true) :: (2, false) :: (3, false) :: (4, false) :: (5, false) :: (6, false) :: (7, false) :: (8, true) :: (9, true) :: (10, false) :: (11, false) :: (12, false) :: (13, false) :: (14, false) :: (15, false) :: (16, false) :: (17, false) :: (18, false) :: (19, false) :: (20, false) :: (21, false) :: (22, false) :: (23, false) :: (24, false) :: (25, false) :: (26, false) :: (27, false) :: (28, false) :: (30, false) :: (29, true) :: (31, false) :: (32, false) :: []) follows_mixed (by kernel_rfl) (by kernel_rfl) (by kernel_rfl) ((Sm.drew _).kp _) ?_
        have kd := (Sm.drew W3).kp []
        generalize ({ W3 with drawn := W3.drawn + 1 } : World) = wd at kd ⊢
        have hTd := hT2'.kp kd (by simp)
        (repeat refine xo rfl rfl trivial ?_)
        refine x_act rfl ?_
        refine o_call (num_ret _ _) rfl rfl rfl ?_
        rintro v W3' ⟨rfl, rfl⟩
        refine o_nil ⟨.inr kd, ?_⟩
        (repeat first|refine xo rfl rfl trivial ?_|refine x_know rfl _ _ (some false) rfl rfl rfl ?_)
        refine x_act rfl ?_
        refine o_call (check_ret s (by omega) _) rfl rfl rfl ?_
        rintro v W3' ⟨rfl, rfl⟩
        rw [hck2]
        refine o_nil ⟨.inr kd, ?_⟩
        refine x_act rfl ?_
        refine o_call (num_ret _ _) rfl rfl rfl ?_
        rintro v W3' ⟨rfl, rfl⟩
        refine o_nil ⟨.inr kd, ?_⟩
        (repeat first|refine xo rfl rfl trivial ?_|refine x_know rfl _ _ (some false) rfl rfl rfl ?_)
        have hs1 : 0 < s.length := List.length_pos_iff.2 hsl.2
        have hb1 : 0 < base.length := List.length_pos_iff.2 hbn.2
        refine x_is false rfl 17 false rfl rfl rfl (by simp only [decide_eq_false_iff_not]; omega) ?_
        (repeat refine xo rfl rfl (by first|exact trivial|(simp only[AllP];omega)) ?_)
        have hmin : (min 1 (base.length : Int)).toNat = 1 := by omega
        have heq : List.take (Int.toNat 1) s = List.take (min 1 (base.length : Int)).toNat base := by rw [hmin]; exact hsh
        refine x_is false rfl 27 false rfl rfl rfl (by rw [heq]; simp) ?_
        (repeat refine xo rfl rfl trivial ?_)
        refine x_act rfl ?_
        refine o_call (nlen_ret hTd) rfl rfl rfl ?_
        rintro v W3' ⟨rfl, rfl⟩
        refine o_nil ⟨.inr kd, ?_⟩
        (repeat first|refine xo rfl rfl trivial ?_|refine xn ?_)
        refine r_ifn rfl (fun hc2 => ?_) (fun hc2 => ?_)
        · exact absurd rfl hc2
        · have hE : addE acc s = 0 := by unfold addE; rw [if_pos hsn, if_pos hx, if_pos (by omega)]
          have hN : addN acc s = (acc.length : Int) := by unfold addN; rw [if_pos ⟨hsn, hx, by omega⟩]
          have hL : addL acc s = acc ++ [s] := by unfold addL; rw [if_pos ⟨hsn, hx, by omega⟩]
          have hnm3 : ∀ x ∈ acc ++ [s], nameB x = true := by rw [← hL]; exact addL_name hnm
          (repeat first|refine zA ?_|refine zg ?_|refine zo rfl rfl trivial ?_|refine zk ?_)
          refine o_call (add_ret hTd s (by omega)) rfl rfl rfl ?_
          rintro v W4 ⟨rfl, fp4, m4, ad4, cap4, hT4, kp4, hf4⟩
          rw [hL] at hT4
          have k4 : Kp [] w W4 := (k2'.trans kd).since kp4 hfW
          have hfw4 : ∀ b, b ∈ fp4 → w.heap.size ≤ b := fun b hb => by
            rcases hf4 b hb with h | h
            · exact hfW b h
            · exact Nat.le_trans (k2'.trans kd).size h
          rw [hE, hN]
          (repeat first|refine zA ?_|refine zg ?_|refine zo rfl rfl trivial ?_|refine zn ?_)
          refine o_call (find_ret hT4 s) rfl rfl rfl ?_
          rintro v W5 ⟨rfl, rfl⟩
          unfold findV
          rw [nidx_last hnot]
          (repeat first|refine zA ?_|refine zg ?_|refine zo rfl rfl trivial ?_|refine zn ?_)
          refine o_call (nname_ret hT4 _) rfl rfl rfl ?_
          rintro v W5 ⟨rfl, rfl⟩
          have hnv : nameV (acc ++ [s]) (acc.length : Int) = .tuple #[S s, .bool true] := by
            unfold nameV
            rw [if_pos (by simp; omega)]
            simp
          rw [hnv]
          (repeat first|refine zA ?_|refine zB ?_|refine zg ?_|refine zo rfl rfl trivial ?_|refine zn ?_)
          refine o_call (num_ret _ _) rfl rfl rfl ?_
          rintro v W3' ⟨rfl, rfl⟩
          (repeat first|refine zo rfl rfl trivial ?_|refine zU rfl rfl rfl ?_)
          refine o_is false _ _ rfl rfl rfl (by simp) ?_
          (repeat first|refine zo rfl rfl trivial ?_|refine zU rfl rfl rfl ?_)
          refine o_is false _ _ rfl rfl rfl (by simp) ?_
          (repeat first|refine zo rfl rfl trivial ?_|refine zn ?_|refine zU rfl rfl rfl ?_)
          refine r_ifn rfl (fun hc3 => ?_) (fun hc3 => ?_)
          · exact absurd rfl hc3
          · (repeat first|refine zg ?_|refine zo rfl rfl (by first|exact trivial|(simp only[AllP];omega)) ?_|refine zn ?_|refine zk ?_)
            refine ⟨(j + 1, acc ++ [s]), ?_, ⟨by dsimp only; omega, by simp; omega, hnm3, k4, fp4, m4, ad4, cap4, hT4, hfw4⟩, by dsimp only; omega⟩
            show [Value.slice ad list.length cap, S base, I rounds, ptr p, I ((acc.length : Int) + 1), I ((j : Int) + 1)] = [Value.slice ad list.length cap, S base, I rounds, ptr p, I ((acc ++ [s]).length : Int), I ((j + 1 : Nat) : Int)]
            rw [List.length_append]; rfl
      · have hc : ¬ (j : Int) < rounds.tmod 30 := hc
        (repeat first|refine zA ?_|refine zg ?_|refine zo rfl rfl trivial ?_|refine ze rfl ?_)
        refine o_call (nlen_ret hTW) rfl rfl rfl ?_
        rintro v W3' ⟨rfl, rfl⟩
        (repeat first|refine zo rfl rfl trivial ?_|refine zn ?_|refine zr ?_)
        exact ⟨_, rfl, by simp, kpW⟩
end Go.Vc
/- Reading of a slice of texts. -/
namespace Go.Vc
open Go Go.Proofs Go.ChangeShapes Go.WideShapes Go.ChangeAt Go.RowKit
variable {H : Type} {enc : TypeId × Value → H} {w : World} {base : Nat} {sp : Nat → Bool} {held : Bool} {fuel : Nat} {d : DataW H} {ps : List MemPlace}
theorem bulk_strs : ∀ (ss : List ByteArray), ss.length ≤ Go.Proofs.YtghdpibdidfpbaaDoor.Rows.uptoBulkAll (strs (H := H) ss)
  | [] => Nat.zero_le _
  | s :: r => by
    have ih := bulk_strs r
    show r.length + 1 ≤ Go.Proofs.YtghdpibdidfpbaaDoor.Rows.uptoBulk (DataW.lit (H := H) (.string s.data.toList)) + Go.Proofs.YtghdpibdidfpbaaDoor.Rows.uptoBulkAll (strs (H := H) r)
    simp only [Go.Proofs.YtghdpibdidfpbaaDoor.Rows.uptoBulk]; omega
theorem rd_strs {a : Option Addr} {len cap : Nat} (h : DataW.trod enc Tryd.prog w base sp held fuel 22 (Value.slice a len cap).cells.toList = some (d, ps)) :
    ∃ l : List Str, (ReadS w a (l.map S) ∧ l.length = len ∧ (∀ s ∈ l, s.length ≤ 9223372036854775807) ∧ len ≤ 9223372036854775807) ∧ l.length ≤ Go.Proofs.YtghdpibdidfpbaaDoor.Rows.uptoBulk d := by
  rcases open_strings Tryd.underlying22 Tryd.underlying9 (by kernel_rfl) h with ⟨hcs, _⟩ | ⟨x, l, c, ss, hcs, _, hl, hm, hz, hd, hcell, hwz⟩
  · simp [Value.cells] at hcs
    obtain ⟨rfl, rfl, rfl⟩ := hcs
    exact ⟨[], ⟨rfl, rfl, by simp, by simp⟩, by simp⟩
  · simp [Value.cells] at hcs
    obtain ⟨rfl, rfl, rfl⟩ := hcs
    have hlen : len ≤ ss.length := by rw [hz]; split <;> omega
    refine ⟨(ss.take len).map fun s => s.data.toList, ⟨?_, by simp; omega, fun s hs => ?_, by simp only [maxLen] at hm; omega⟩, ?_⟩
    · intro i v hv
      rw [List.getElem?_map, List.getElem?_map] at hv
      cases hi : (ss.take len)[i]? with
      | none => rw [hi] at hv; cases hv
      | some b =>
        rw [hi] at hv
        obtain ⟨h1, h2⟩ := List.getElem?_eq_some_iff.1 hi
        simp at h1
        have := hcell i (by omega)
        rw [this, ← Option.some.inj hv, ← h2]
        simp [List.getElem?_eq_getElem (show i < ss.length by omega)]
    · obtain ⟨b, hb, rfl⟩ := List.mem_map.1 hs
      have := hwz b (List.mem_of_mem_take hb)
      simp only [maxLen] at this
      simpa using this
    · have hd1 := congrArg Prod.fst hd
      dsimp only at hd1
      rw [hd1]
      simp only [Go.Proofs.YtghdpibdidfpbaaDoor.Rows.uptoBulk]
      have := bulk_strs (H := H) (ss.take len)
      simp only [List.length_map]
      omega
theorem namesFresh_walk {a : Option Addr} {len cap : Nat} {names : List Str} (hP : PowW w) (h0 : ReadS w a (names.map S) ∧ names.length = len ∧ (∀ s ∈ names, s.length ≤ 9223372036854775807) ∧ len ≤ 9223372036854775807) {b : ByteArray} (hb : b.size ≤ maxLen) {n : Int} (hn : (Lit.int .i64 n).wf = true) :
    Calls Tryd.prog 3 #[.slice a len cap, .string b, .int .i64 n] w (fun e w' => e = .returned (.bool true) ∧ Below w.heap.size w w') := by
  obtain ⟨h1, rfl, h3, hm⟩ := h0
  exact (namesFresh_ret hP names h1 h3 hm b.data.toList (by simpa [maxLen] using hb) n (by simpa [Lit.wf, IntKind.min, IntKind.max, IntKind.signed, IntKind.bits] using hn)).calls
end Go.Vc
