/- The reference's Distance and Likeness. -/
import Derived.Test.YtghdpibdidfpbaaDoorQClNPlays13
namespace Go.Vc
open Go Go.Proofs
set_option maxRecDepth 10000
theorem rdistance_ret (s t : List UInt8) (w : World) : Ret Tryd.prog 48 [S s, S t] w (fun v w' => v = I (dist s t) ∧ Kp [] w w') := by
  refine enter Tryd.call48 Tryd.func48 rfl rfl rfl rfl ?_
  (repeat first|refine zA ?_|refine zg ?_|refine zo rfl rfl trivial ?_|refine zn ?_)
  refine o_call (rcounted_ret _ _) rfl rfl rfl ?_
  rintro v w' ⟨rfl, rfl⟩
  (repeat first|refine zA ?_|refine zg ?_|refine zo rfl rfl trivial ?_|refine zn ?_)
  refine o_call (rcounted_ret _ _) rfl rfl rfl ?_
  rintro v w0 ⟨rfl, rfl⟩
  have ha : (s.take 256).length ≤ 256 := List.length_take_le _ _
  have hb : (t.take 256).length ≤ 256 := List.length_take_le _ _
  have hdist : dist s t = lev (s.take 256).reverse (t.take 256).reverse := rfl
  generalize s.take 256 = a at *
  generalize t.take 256 = b at *
  (repeat first|refine zA ?_|refine zg ?_|refine zo rfl rfl (by first|exact trivial|(simp only[AllP];omega)) ?_|refine zn ?_)
  refine o_make rfl rfl rfl rfl rfl (by omega) (by omega) (by omega) (by omega) rfl rfl ?_
  intro br w1 hbr hw1
  have kp1 : Kp [] w0 w1 := hw1.kp [] (.inr (by omega))
  have hbr0 : w0.heap.size ≤ br := by omega
  have e1 : ((b.length : Int) + 1).toNat = b.length + 1 := by omega
  rw [e1, rowL_rep] at hw1
  rw [e1]
  have hB := hw1.blk
  clear hw1
  (repeat first|refine zo rfl rfl trivial ?_|refine zn ?_)
  refine r_seq ?_
  -- row[k] = k
  refine r_cut (α := Unit) [0, 1, 5] (fun _ => [S a, S b, .slice (some ⟨br, 0, none⟩) (b.length + 1) (b.length + 1)]) (fun _ w' => Kp [] w0 w' ∧ Blk w' br (rowL (b.length + 1) (fun j => I (D a b 0 j))) 3) ?_ ?_
  · (repeat first|refine zA ?_|refine zg ?_|refine zo rfl rfl trivial ?_|refine zn ?_|refine zb ?_)
    refine r_loop (α := Nat) [0, 1, 5, 6] (fun k => [S a, S b, .slice (some ⟨br, 0, none⟩) (b.length + 1) (b.length + 1), I k])
      (fun k w' => k ≤ b.length + 1 ∧ Kp [] w0 w' ∧ Blk w' br (rowL (b.length + 1) (fun j => if j < k then I j else I 0)) 3) (fun k => b.length + 1 - k) 0 rfl ⟨by omega, kp1, hB⟩ ?_
    rintro k e w' ⟨hk, kp, hB⟩
    (repeat first|refine zA ?_|refine zB ?_|refine zg ?_|refine zo rfl rfl trivial ?_|refine zn ?_)
    refine r_if rfl (fun hlt => ?_) (fun hge => ?_)
    · (repeat first|refine zC ?_|refine zg ?_|refine zo rfl rfl (by first|exact trivial|(simp only[AllP];omega)) ?_|refine zb ?_|refine zk ?_)
      refine o_store rfl hB (by rw [rowL_len]; omega) rfl rfl rfl rfl rfl rfl ?_
      intro w2 hu
      have kp2 := kp.since (hu.kp [br] (.inl (by simp))) (by simp; omega)
      have hB2 := hu.blk
      (repeat first|refine zg ?_|refine zo rfl rfl (by first|exact trivial|(simp only[AllP];omega)) ?_|refine zn ?_)
      refine ⟨k + 1, rfl, ⟨by omega, kp2, ?_⟩, by omega⟩
      rw [rowL_set] at hB2
      rw [rowL_congr (g := fun j => if j = 0 + (k : Int).toNat then I k else if j < k then I j else I 0)]
      · exact hB2
      · intro j hj
        by_cases h1 : j = k
        · subst h1; simp
        · have : (j < k + 1) = (j < k) := by simp; omega
          simp [h1, this]
    · (repeat refine ze rfl ?_)
      refine ⟨(), rfl, kp, ?_⟩
      rw [rowL_congr (g := fun j => if j < k then I j else I 0)]
      · exact hB
      · intro j hj
        rw [D_0 a b j (by omega), if_pos (by omega)]
  rintro _ e w2 ⟨kp2, hB2⟩
  clear hB kp1
  (repeat first|refine zA ?_|refine zB ?_|refine zg ?_|refine zo rfl rfl trivial ?_|refine zn ?_|refine zb ?_)
  refine r_loop (α := Nat × Nat) [0, 1, 5, 7] (fun g => [S a, S b, .slice (some ⟨g.2, 0, none⟩) (b.length + 1) (b.length + 1), I (g.1 + 1)])
    (fun g w' => g.1 ≤ a.length ∧ Kp [] w0 w' ∧ Blk w' g.2 (rowL (b.length + 1) (fun j => I (D a b g.1 j))) 3) (fun g => a.length - g.1) (0, br) rfl ⟨by omega, kp2, hB2⟩ ?_
  clear kp2 hB2
  rintro ⟨i, br⟩ e w2 ⟨hi, kp2, hB2⟩
  dsimp only at hi hB2
  (repeat first|refine zA ?_|refine zB ?_|refine zg ?_|refine zo rfl rfl trivial ?_|refine zn ?_)
  refine r_if rfl (fun hlt => ?_) (fun hge => ?_)
  · have hlt : i < a.length := by omega
    have h00 := D_i0 a b i hi
    have h10 := D_i0 a b (i + 1) hlt
    (repeat first|refine zA ?_|refine zC ?_|refine zg ?_|refine zo rfl rfl (by first|exact trivial|(simp only[AllP];omega)) ?_|refine zb ?_|refine zk ?_)
    refine o_make rfl rfl rfl rfl rfl (by omega) (by omega) (by omega) (by omega) rfl rfl ?_
    intro bn w3 hbn hu3
    rw [e1, rowL_rep] at hu3
    rw [e1]
    have kp3 : Kp [] w0 w3 := kp2.trans (hu3.kp [] (.inr (by omega)))
    have hbn0 : w0.heap.size ≤ bn := by have := kp2.size; omega
    have hne : br ≠ bn := by have := hB2.lt; omega
    have hB3 := hu3.kept hne hB2
    have hN3 := hu3.blk
    clear hu3
    (repeat first|refine zA ?_|refine zg ?_|refine zo rfl rfl (by first|exact trivial|(simp only[AllP];omega)) ?_|refine zn ?_)
    refine o_store rfl hN3 (by rw [rowL_len]; omega) rfl rfl rfl rfl rfl rfl ?_
    intro w4 hu
    have kp4 := kp3.since (hu.kp [bn] (.inl (by simp))) (by simp; omega)
    have hN4 := hu.blk
    have hB4 := hu.kept hne hB3
    rw [rowL_set, rowL_congr (g := fun j => I (if j ≤ 0 then (D a b (i + 1) j : Int) else 0))] at hN4
    · clear hu hN3 kp3 hB3
      (repeat first|refine zA ?_|refine zB ?_|refine zg ?_|refine zo rfl rfl trivial ?_|refine zn ?_|refine zb ?_)
      refine r_loop (α := Nat) [0, 1, 5, 7, 8, 9] (fun k => [S a, S b, .slice (some ⟨br, 0, none⟩) (b.length + 1) (b.length + 1), I (i + 1), .slice (some ⟨bn, 0, none⟩) (b.length + 1) (b.length + 1), I (k + 1)])
        (fun k w' => k ≤ b.length ∧ Kp [] w0 w' ∧ Blk w' br (rowL (b.length + 1) (fun j => I (D a b i j))) 3 ∧ Blk w' bn (rowL (b.length + 1) (fun j => I (if j ≤ k then (D a b (i + 1) j : Int) else 0))) 3) (fun k => b.length - k) 0 rfl ⟨by omega, kp4, hB4, hN4⟩ ?_
      clear kp4 hB4 hN4
      rintro k e w3 ⟨hk, kp3, hB3, hN3⟩
      (repeat first|refine zA ?_|refine zB ?_|refine zg ?_|refine zo rfl rfl trivial ?_|refine zn ?_)
      refine r_if rfl (fun hlt2 => ?_) (fun hge2 => ?_)
      · have hlt2 : k < b.length := by omega
        have hD := D_le a b i hi k hk
        have hD2 := D_le a b i hi (k + 1) hlt2
        have hD3 := D_le a b (i + 1) hlt k hk
        have ek : 0 + ((k : Int) + 1 - 1).toNat = k := by omega
        have ek1 : 0 + ((k : Int) + 1).toNat = k + 1 := by omega
        (repeat first|refine zA ?_|refine zC ?_|refine zg ?_|refine zo rfl rfl (by first|exact trivial|(simp only[AllP];omega)) ?_|refine zb ?_|refine zk ?_)
        rw [ek]
        refine o_load rfl hB3 (rowL_get _ (by omega)) rfl rfl rfl rfl ?_
        (repeat first|refine zo rfl rfl trivial ?_|refine zn ?_)
        refine r_seq ?_
        refine r_cut (α := Unit) [0, 1, 5, 7, 8, 9, 10] (fun _ => [S a, S b, .slice (some ⟨br, 0, none⟩) (b.length + 1) (b.length + 1), I (i + 1), .slice (some ⟨bn, 0, none⟩) (b.length + 1) (b.length + 1), I (k + 1), I (D a b i k + if a.getD i 0 = b.getD k 0 then 0 else 1 : Nat)]) (fun _ w' => Sm w3 w') ?_ ?_
        · refine r_seq ?_
          refine r_quietS follows_mixed (by kernel_rfl) ?_
          (repeat first|refine yo rfl rfl (by first|exact trivial|(simp only[AllP];omega)) ?_|refine yn ?_)
          intro w4 hs4
          have ei : ((i : Int) + 1 - 1).toNat = i := by omega
          have ej : ((k : Int) + 1 - 1).toNat = k := by omega
          refine r_ifn rfl (fun h => ?_) (fun h => ?_)
          · (repeat first|refine zg ?_|refine zo rfl rfl (by first|exact trivial|(simp only[AllP];omega)) ?_|refine zn ?_)
            refine ⟨(), ?_, hs4⟩
            have hne : ¬ a.getD i 0 = b.getD k 0 := fun h' => h (by rw [ei, ej, h'])
            rw [if_neg hne]
            rfl
          · (repeat refine zk ?_)
            refine ⟨(), ?_, hs4⟩
            have heq : a.getD i 0 = b.getD k 0 := by
              rw [ei, ej] at h
              exact UInt8.toNat_inj.1 (by omega)
            rw [if_pos heq]
            rfl
        rintro _ e w4 hs4
        have hB4 := hs4.blk hB3
        have hN4 := hs4.blk hN3
        have kp4 := kp3.trans (hs4.kp [])
        clear hB3 hN3 kp3 hs4
        have hn : D a b i k + (if a.getD i 0 = b.getD k 0 then 0 else 1 : Nat) ≤ i + k + 1 := by split <;> omega
        have hss := D_ss a b i k hlt hlt2
        generalize hne : D a b i k + (if a.getD i 0 = b.getD k 0 then 0 else 1 : Nat) = n1 at *
        refine r_seq ?_
        refine r_cut (α := Unit) [0, 1, 5, 7, 8, 9, 10] (fun _ => [S a, S b, .slice (some ⟨br, 0, none⟩) (b.length + 1) (b.length + 1), I (i + 1), .slice (some ⟨bn, 0, none⟩) (b.length + 1) (b.length + 1), I (k + 1), I (min n1 (D a b i (k + 1) + 1) : Nat)]) (fun _ w' => w' = w4) ?_ ?_
        · (repeat first|refine zA ?_|refine zg ?_|refine zo rfl rfl (by first|exact trivial|(simp only[AllP];omega)) ?_)
          rw [ek1]
          refine o_load rfl hB4 (rowL_get _ (by omega)) rfl rfl rfl rfl ?_
          (repeat first|refine zo rfl rfl (by first|exact trivial|(simp only[AllP];omega)) ?_|refine zn ?_)
          refine r_if rfl (fun h => ?_) (fun h => ?_)
          · (repeat first|refine zg ?_|refine zo rfl rfl (by first|exact trivial|(simp only[AllP];omega)) ?_)
            rw [ek1]
            refine o_load rfl hB4 (rowL_get _ (by omega)) rfl rfl rfl rfl ?_
            (repeat first|refine zo rfl rfl (by first|exact trivial|(simp only[AllP];omega)) ?_|refine zn ?_)
            refine ⟨(), ?_, rfl⟩
            have : (min n1 (D a b i (k + 1) + 1) : Nat) = D a b i (k + 1) + 1 := by omega
            rw [this]
            rfl
          · (repeat refine zk ?_)
            refine ⟨(), ?_, rfl⟩
            have : (min n1 (D a b i (k + 1) + 1) : Nat) = n1 := by omega
            rw [this]
            rfl
        rintro _ e w5 rfl
        generalize hn2 : (min n1 (D a b i (k + 1) + 1) : Nat) = n2 at *
        refine r_seq ?_
        refine r_cut (α := Unit) [0, 1, 5, 7, 8, 9, 10] (fun _ => [S a, S b, .slice (some ⟨br, 0, none⟩) (b.length + 1) (b.length + 1), I (i + 1), .slice (some ⟨bn, 0, none⟩) (b.length + 1) (b.length + 1), I (k + 1), I (min n2 (D a b (i + 1) k + 1) : Nat)]) (fun _ w' => w' = w5) ?_ ?_
        · (repeat first|refine zA ?_|refine zg ?_|refine zo rfl rfl (by first|exact trivial|(simp only[AllP];omega)) ?_)
          rw [ek]
          refine o_load rfl hN4 (rowL_get _ (by omega)) rfl rfl rfl rfl ?_
          rw [if_pos (Nat.le_refl k)]
          (repeat first|refine zo rfl rfl (by first|exact trivial|(simp only[AllP];omega)) ?_|refine zn ?_)
          refine r_if rfl (fun h => ?_) (fun h => ?_)
          · (repeat first|refine zg ?_|refine zo rfl rfl (by first|exact trivial|(simp only[AllP];omega)) ?_)
            rw [ek]
            refine o_load rfl hN4 (rowL_get _ (by omega)) rfl rfl rfl rfl ?_
            rw [if_pos (Nat.le_refl k)]
            (repeat first|refine zo rfl rfl (by first|exact trivial|(simp only[AllP];omega)) ?_|refine zn ?_)
            refine ⟨(), ?_, rfl⟩
            have : (min n2 (D a b (i + 1) k + 1) : Nat) = D a b (i + 1) k + 1 := by omega
            rw [this]
            rfl
          · (repeat refine zk ?_)
            refine ⟨(), ?_, rfl⟩
            have : (min n2 (D a b (i + 1) k + 1) : Nat) = n2 := by omega
            rw [this]
            rfl
        rintro _ e w6 rfl
        have hn3 : (min n2 (D a b (i + 1) k + 1) : Nat) = D a b (i + 1) (k + 1) := by rw [hss, ← hn2]
        rw [hn3]
        (repeat first|refine zg ?_|refine zo rfl rfl (by first|exact trivial|(simp only[AllP];omega)) ?_)
        rw [ek1]
        refine o_store rfl hN4 (by rw [rowL_len]; omega) rfl rfl rfl rfl rfl rfl ?_
        intro w7 hu
        have kp7 := kp4.since (hu.kp [bn] (.inl (by simp))) (by simp; omega)
        have hN7 := hu.blk
        have hne' : br ≠ bn := ‹br ≠ bn›
        have hB7 := hu.kept hne' hB4
        rw [rowL_set, rowL_congr (g := fun j => I (if j ≤ k + 1 then (D a b (i + 1) j : Int) else 0))] at hN7
        · (repeat first|refine zg ?_|refine zo rfl rfl (by first|exact trivial|(simp only[AllP];omega)) ?_|refine zn ?_)
          exact ⟨k + 1, rfl, ⟨hlt2, kp7, hB7, hN7⟩, by omega⟩
        · intro j hj
          by_cases h1 : j = k + 1
          · subst h1
            rw [if_pos rfl, if_pos (by omega)]
          · have : (j ≤ k + 1) = (j ≤ k) := by simp; omega
            rw [if_neg (by omega)]
            simp only [this]
      · (repeat first|refine zg ?_|refine zo rfl rfl (by first|exact trivial|(simp only[AllP];omega)) ?_|refine zn ?_|refine ze rfl ?_)
        refine ⟨(i + 1, bn), rfl, ⟨hlt, kp3, ?_⟩, by show _ - (i + 1) < _ - i; omega⟩
        rw [rowL_congr (g := fun j => I (if j ≤ k then (D a b (i + 1) j : Int) else 0))]
        · exact hN3
        · intro j hj
          rw [if_pos (by omega)]
    · intro j hj
      by_cases h1 : j = 0
      · subst h1
        simp [h10]
      · rw [if_neg (by simpa using h1), if_neg (by omega)]
  · (repeat first|refine zA ?_|refine zg ?_|refine zo rfl rfl (by first|exact trivial|(simp only[AllP];omega)) ?_|refine ze rfl ?_)
    refine o_load rfl hB2 (rowL_get _ (by omega)) rfl rfl rfl rfl ?_
    (repeat first|refine zo rfl rfl trivial ?_|refine zn ?_|refine zr ?_)
    refine ⟨_, rfl, ?_, kp2⟩
    have hi : i = a.length := by omega
    subst hi
    rw [hdist, ← D_full]
    simp
theorem rlikeness_ret (s t : List UInt8) (w : World) : Ret Tryd.prog 50 [S s, S t] w (fun v w' => v = .float .f64 (like s t) ∧ Kp [] w w') := by
  refine enter Tryd.call50 Tryd.func50 rfl rfl rfl rfl ?_
  (repeat first|refine zA ?_|refine zg ?_|refine zo rfl rfl trivial ?_|refine zn ?_)
  refine o_call (rcounted_ret _ _) rfl rfl rfl ?_
  rintro v w' ⟨rfl, rfl⟩
  have hlt := Nat.le_refl t.length
  have ha : (s.take 256).length ≤ 256 := List.length_take_le _ _
  have hb : (t.take 256).length ≤ 256 := List.length_take_le _ _
  have hl : like s t = likeF (dist s t) (max (s.take 256).length (t.take 256).length) := rfl
  have hd := dist_le' s t
  (repeat first|refine zo rfl rfl trivial ?_|refine zn ?_)
  refine r_seq ?_
  refine r_cut (α := Unit) [0, 1, 5] (fun _ => [S s, S t, I (max (s.take 256).length (t.take 256).length : Nat)]) (fun _ w1 => w1 = w') ?_ ?_
  · (repeat first|refine zA ?_|refine zg ?_|refine zo rfl rfl trivial ?_)
    refine o_call (rcounted_ret _ _) rfl rfl rfl ?_
    rintro v w0 ⟨rfl, rfl⟩
    (repeat first|refine zo rfl rfl trivial ?_|refine zn ?_)
    refine r_if rfl (fun h => ?_) (fun h => ?_)
    · (repeat first|refine zg ?_|refine zo rfl rfl trivial ?_)
      refine o_call (rcounted_ret _ _) rfl rfl rfl ?_
      rintro v w1 ⟨rfl, rfl⟩
      (repeat first|refine zo rfl rfl trivial ?_|refine zn ?_)
      refine ⟨(), ?_, rfl⟩
      have : max (s.take 256).length (t.take 256).length = (t.take 256).length := by omega
      rw [this]
      rfl
    · (repeat refine zk ?_)
      refine ⟨(), ?_, rfl⟩
      have : max (s.take 256).length (t.take 256).length = (s.take 256).length := by omega
      rw [this]
      rfl
  rintro _ e w0 rfl
  generalize hn : max (s.take 256).length (t.take 256).length = n at *
  have hn256 : n ≤ 256 := by omega
  (repeat first|refine zA ?_|refine zB ?_|refine zg ?_|refine zo rfl rfl trivial ?_|refine zn ?_)
  refine r_if rfl (fun h0 => ?_) (fun h0 => ?_)
  · (repeat first|refine zA ?_|refine zg ?_|refine zo rfl rfl trivial ?_|refine zn ?_|refine zr ?_)
    refine ⟨_, rfl, ?_, Kp.refl _ _⟩
    have : n = 0 := by omega
    rw [hl, likeF, if_pos this]
  · have h0 : n ≠ 0 := by omega
    have hc := fquo_cond (dist s t) n hd hn256 h0
    (repeat first|refine zA ?_|refine zg ?_|refine zo rfl rfl trivial ?_|refine zk ?_)
    refine o_call (rdistance_ret _ _ _) rfl rfl rfl ?_
    rintro v w1 ⟨rfl, kp⟩
    refine o_run rfl rfl hc.1 ?_
    refine o_nil ?_
    refine r_seqR ?_
    refine r_region ?_
    refine o_run rfl rfl hc.2 ?_
    (repeat first|refine zn ?_|refine zr ?_)
    refine ⟨_, rfl, ?_, kp⟩
    rw [hl, likeF, if_neg h0]
    rfl
end Go.Vc
/- The plain law: lev is a distance; one edit is at most 1. -/
namespace Go.Vc
/-- likenesses of short texts: from 0 to 1, and 1 at no distance alone -/
def likeOk (d n : Nat) : Bool :=
  (FloatKind.f64.format.order (likeF d n) 0 == some .gt || FloatKind.f64.format.order (likeF d n) 0 == some .eq) &&
  (FloatKind.f64.format.order (likeF d n) 4607182418800017408 == some .lt || FloatKind.f64.format.order (likeF d n) 4607182418800017408 == some .eq) &&
  ((FloatKind.f64.format.order (likeF d n) 4607182418800017408 == some .eq) == decide (d = 0))
end Go.Vc
/- The laws NamesTexts, NamesMetric, NamesEdits as calls. -/
namespace Go.Vc
open Go Go.Proofs
set_option maxRecDepth 10000
variable {w : World}
/-- a call of mine as the frame asks it -/
theorem Ret.calls {P : Program} {f : FuncId} {vs : List Value} {w : World} (h : Ret P f vs w (fun v w' => v = .bool true ∧ Kp [] w w')) : Calls P f ⟨vs⟩ w (fun e w' => e = .returned (.bool true) ∧ RowKit.Below w.heap.size w w') :=
  h.2.mono fun _ _ ⟨_, he, hv, kp⟩ => ⟨by rw [he, hv], kp.below⟩
theorem tmod_rng (x m : Int) (hm : 0 < m) : -m < x.tmod m ∧ x.tmod m < m := by
  refine ⟨?_, Int.tmod_lt_of_pos x hm⟩
  have := Int.tmod_lt_of_pos (-x) hm
  rw [Int.neg_tmod] at this
  omega
theorem tmod_nn (x m : Int) (hx : 0 ≤ x) (hm : 0 < m) : 0 ≤ x.tmod m ∧ x.tmod m < m := ⟨Int.tmod_nonneg m hx, Int.tmod_lt_of_pos x hm⟩
end Go.Vc
