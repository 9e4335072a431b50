/- names.Distance computes dist. -/
import Derived.Test.YtghdpibdidfpbaaNm1
import Derived.Test.YtghdpibdidfpbaaNmLev
namespace Go.Vc
open Go Go.Proofs
set_option maxRecDepth 10000
theorem follows_mixed : Try.prog.follows .mixedOrders = true := by kernel_rfl
theorem distance_ret (s t : List UInt8) (w : World) : Ret Try.prog 9 [S s, S t] w (fun v w' => v = I (dist s t) ∧ Kp [] w w') := by
  refine enter Try.call9 Try.func9 rfl rfl rfl rfl ?_
  (repeat first | refine r_seqR ?_ | refine r_seqS ?_ | refine r_seqB ?_ | refine r_seqC ?_ | refine r_seqSB ?_ | refine r_region ?_ | refine o_run rfl rfl (by first | exact trivial | (simp only [AllP]; omega)) ?_ | refine o_nil ?_ | refine r_block ?_ | refine r_exit rfl ?_ | refine r_ret ?_ | refine r_skip ?_ | refine o_know _ _ (some true) rfl rfl rfl ?_ | refine o_know _ _ (some false) rfl rfl rfl ?_ | refine o_know _ _ (none) rfl rfl rfl ?_)
  refine o_call (counted_ret _ _) rfl rfl rfl ?_
  rintro v w' ⟨rfl, rfl⟩
  (repeat first | refine r_seqR ?_ | refine r_seqS ?_ | refine r_seqB ?_ | refine r_seqC ?_ | refine r_seqSB ?_ | refine r_region ?_ | refine o_run rfl rfl (by first | exact trivial | (simp only [AllP]; omega)) ?_ | refine o_nil ?_ | refine r_block ?_ | refine r_exit rfl ?_ | refine r_ret ?_ | refine r_skip ?_ | refine o_know _ _ (some true) rfl rfl rfl ?_ | refine o_know _ _ (some false) rfl rfl rfl ?_ | refine o_know _ _ (none) rfl rfl rfl ?_)
  refine o_call (counted_ret _ _) rfl rfl rfl ?_
  rintro v w0 ⟨rfl, rfl⟩
  have ha : (s.take 256).length ≤ 256 := List.length_take_le _ _
  have hb : (t.take 256).length ≤ 256 := List.length_take_le _ _
  have hdist : dist s t = lev (s.take 256).reverse (t.take 256).reverse := rfl
  generalize s.take 256 = a at *
  generalize t.take 256 = b at *
  (repeat first | refine r_seqR ?_ | refine r_seqS ?_ | refine r_seqB ?_ | refine r_seqC ?_ | refine r_seqSB ?_ | refine r_region ?_ | refine o_run rfl rfl (by first | exact trivial | (simp only [AllP]; omega)) ?_ | refine o_nil ?_ | refine r_block ?_ | refine r_exit rfl ?_ | refine r_ret ?_ | refine r_skip ?_ | refine o_know _ _ (some true) rfl rfl rfl ?_ | refine o_know _ _ (some false) rfl rfl rfl ?_ | refine o_know _ _ (none) rfl rfl rfl ?_)
  refine o_make rfl rfl rfl rfl rfl (by omega) (by omega) (by omega) (by omega) rfl rfl ?_
  intro br w1 hbr hw1
  have kp1 : Kp [] w0 w1 := hw1.kp [] (.inr (by omega))
  have e1 : ((b.length : Int) + 1).toNat = b.length + 1 := by omega
  rw [e1, rowL_rep] at hw1
  rw [e1]
  have hB := hw1.blk
  clear hw1
  (repeat first | refine o_run rfl rfl (by first | exact trivial | (simp only [AllP]; omega)) ?_ | refine o_nil ?_ | refine o_know _ _ (some true) rfl rfl rfl ?_ | refine o_know _ _ (some false) rfl rfl rfl ?_ | refine o_know _ _ (none) rfl rfl rfl ?_)
  refine r_seq ?_
  -- row[k] = k
  refine r_cut (α := Unit) [0, 1, 5] (fun _ => [S a, S b, .slice (some ⟨br, 0, none⟩) (b.length + 1) (b.length + 1)]) (fun _ w' => Kp [] w0 w' ∧ Blk w' br (rowL (b.length + 1) (fun j => I (D a b 0 j))) 3) ?_ ?_
  · (repeat first | refine r_seqR ?_ | refine r_seqS ?_ | refine r_seqB ?_ | refine r_seqC ?_ | refine r_seqSB ?_ | refine r_region ?_ | refine o_run rfl rfl (by first | exact trivial | (simp only [AllP]; omega)) ?_ | refine o_nil ?_ | refine r_block ?_ | refine r_exit rfl ?_ | refine r_ret ?_ | refine r_skip ?_ | refine o_know _ _ (some true) rfl rfl rfl ?_ | refine o_know _ _ (some false) rfl rfl rfl ?_ | refine o_know _ _ (none) rfl rfl rfl ?_)
    refine r_loop (α := Nat) [0, 1, 5, 20, 21] (fun k => [S a, S b, .slice (some ⟨br, 0, none⟩) (b.length + 1) (b.length + 1), I (b.length + 1 : Nat), I k])
      (fun k w' => k ≤ b.length + 1 ∧ Kp [] w0 w' ∧ Blk w' br (rowL (b.length + 1) (fun j => if j < k then I j else I 0)) 3) (fun k => b.length + 1 - k) 0 rfl ⟨by omega, kp1, hB⟩ ?_
    rintro k e w' ⟨hk, kp, hB⟩
    (repeat first | refine r_seqR ?_ | refine r_seqS ?_ | refine r_seqB ?_ | refine r_seqC ?_ | refine r_seqSB ?_ | refine r_region ?_ | refine o_run rfl rfl (by first | exact trivial | (simp only [AllP]; omega)) ?_ | refine o_nil ?_ | refine r_block ?_ | refine r_exit rfl ?_ | refine r_ret ?_ | refine r_skip ?_ | refine o_know _ _ (some true) rfl rfl rfl ?_ | refine o_know _ _ (some false) rfl rfl rfl ?_ | refine o_know _ _ (none) rfl rfl rfl ?_)
    refine r_if rfl (fun hlt => ?_) (fun hge => ?_)
    · (repeat first | refine r_seqR ?_ | refine r_seqS ?_ | refine r_seqB ?_ | refine r_seqC ?_ | refine r_seqSB ?_ | refine r_region ?_ | refine o_run rfl rfl (by first | exact trivial | (simp only [AllP]; omega)) ?_ | refine o_nil ?_ | refine r_block ?_ | refine r_exit rfl ?_ | refine r_ret ?_ | refine r_skip ?_ | refine o_know _ _ (some true) rfl rfl rfl ?_ | refine o_know _ _ (some false) rfl rfl rfl ?_ | refine o_know _ _ (none) rfl rfl rfl ?_)
      refine o_store rfl hB (by rw [rowL_len]; omega) rfl rfl rfl rfl rfl rfl ?_
      intro w2 hu
      have kp2 := kp.since (hu.kp [br] (.inl (by simp))) (by simp; omega)
      have hB2 := hu.blk
      (repeat first | refine r_seqR ?_ | refine r_seqS ?_ | refine r_seqB ?_ | refine r_seqC ?_ | refine r_seqSB ?_ | refine r_region ?_ | refine o_run rfl rfl (by first | exact trivial | (simp only [AllP]; omega)) ?_ | refine o_nil ?_ | refine r_block ?_ | refine r_exit rfl ?_ | refine r_ret ?_ | refine r_skip ?_ | refine o_know _ _ (some true) rfl rfl rfl ?_ | refine o_know _ _ (some false) rfl rfl rfl ?_ | refine o_know _ _ (none) rfl rfl rfl ?_)
      refine ⟨k + 1, rfl, ⟨by omega, kp2, ?_⟩, by omega⟩
      rw [rowL_set] at hB2
      rw [rowL_congr (g := fun j => if j = 0 + (k : Int).toNat then I k else if j < k then I j else I 0)]
      · exact hB2
      · intro j hj
        by_cases h1 : j = k
        · subst h1; simp
        · have : (j < k + 1) = (j < k) := by simp; omega
          simp [h1, this]
    · (repeat first | refine r_seqR ?_ | refine r_seqS ?_ | refine r_seqB ?_ | refine r_seqC ?_ | refine r_seqSB ?_ | refine r_region ?_ | refine o_run rfl rfl (by first | exact trivial | (simp only [AllP]; omega)) ?_ | refine o_nil ?_ | refine r_block ?_ | refine r_exit rfl ?_ | refine r_ret ?_ | refine r_skip ?_ | refine o_know _ _ (some true) rfl rfl rfl ?_ | refine o_know _ _ (some false) rfl rfl rfl ?_ | refine o_know _ _ (none) rfl rfl rfl ?_)
      refine ⟨(), rfl, kp, ?_⟩
      rw [rowL_congr (g := fun j => if j < k then I j else I 0)]
      · exact hB
      · intro j hj
        rw [D_0 a b j (by omega), if_pos (by omega)]
  rintro _ e w2 ⟨kp2, hB2⟩
  clear hB kp1
  (repeat first | refine r_seqR ?_ | refine r_seqS ?_ | refine r_seqB ?_ | refine r_seqC ?_ | refine r_seqSB ?_ | refine r_region ?_ | refine o_run rfl rfl (by first | exact trivial | (simp only [AllP]; omega)) ?_ | refine o_nil ?_ | refine r_block ?_ | refine r_exit rfl ?_ | refine r_ret ?_ | refine r_skip ?_ | refine o_know _ _ (some true) rfl rfl rfl ?_ | refine o_know _ _ (some false) rfl rfl rfl ?_ | refine o_know _ _ (none) rfl rfl rfl ?_)
  refine r_loop (α := Nat) [0, 1, 5, 30, 31] (fun i => [S a, S b, .slice (some ⟨br, 0, none⟩) (b.length + 1) (b.length + 1), I a.length, I i])
    (fun i w' => i ≤ a.length ∧ Kp [] w0 w' ∧ Blk w' br (rowL (b.length + 1) (fun j => I (D a b i j))) 3) (fun i => a.length - i) 0 rfl ⟨by omega, kp2, hB2⟩ ?_
  clear kp2 hB2
  rintro i e w2 ⟨hi, kp2, hB2⟩
  (repeat first | refine r_seqR ?_ | refine r_seqS ?_ | refine r_seqB ?_ | refine r_seqC ?_ | refine r_seqSB ?_ | refine r_region ?_ | refine o_run rfl rfl (by first | exact trivial | (simp only [AllP]; omega)) ?_ | refine o_nil ?_ | refine r_block ?_ | refine r_exit rfl ?_ | refine r_ret ?_ | refine r_skip ?_ | refine o_know _ _ (some true) rfl rfl rfl ?_ | refine o_know _ _ (some false) rfl rfl rfl ?_ | refine o_know _ _ (none) rfl rfl rfl ?_)
  refine r_if rfl (fun hlt => ?_) (fun hge => ?_)
  · have hlt : i < a.length := by omega
    have h00 := D_i0 a b i hi
    have h10 := D_i0 a b (i + 1) hlt
    (repeat first | refine r_seqR ?_ | refine r_seqS ?_ | refine r_seqB ?_ | refine r_seqC ?_ | refine r_seqSB ?_ | refine r_region ?_ | refine o_run rfl rfl (by first | exact trivial | (simp only [AllP]; omega)) ?_ | refine o_nil ?_ | refine r_block ?_ | refine r_exit rfl ?_ | refine r_ret ?_ | refine r_skip ?_ | refine o_know _ _ (some true) rfl rfl rfl ?_ | refine o_know _ _ (some false) rfl rfl rfl ?_ | refine o_know _ _ (none) rfl rfl rfl ?_)
    refine o_load rfl hB2 (rowL_get _ (by omega)) rfl rfl rfl rfl ?_
    (repeat first | refine r_seqR ?_ | refine r_seqS ?_ | refine r_seqB ?_ | refine r_seqC ?_ | refine r_seqSB ?_ | refine r_region ?_ | refine o_run rfl rfl (by first | exact trivial | (simp only [AllP]; omega)) ?_ | refine o_nil ?_ | refine r_block ?_ | refine r_exit rfl ?_ | refine r_ret ?_ | refine r_skip ?_ | refine o_know _ _ (some true) rfl rfl rfl ?_ | refine o_know _ _ (some false) rfl rfl rfl ?_ | refine o_know _ _ (none) rfl rfl rfl ?_)
    refine o_store rfl hB2 (by rw [rowL_len]; omega) rfl rfl rfl rfl rfl rfl ?_
    intro w3 hu
    have kp3 := kp2.since (hu.kp [br] (.inl (by simp))) (by simp; omega)
    have hB3 := hu.blk
    rw [rowL_set, rowL_congr (g := fun j => I (if j ≤ 0 then D a b (i + 1) j else D a b i j : Nat))] at hB3
    · clear hu hB2 kp2
      (repeat first | refine r_seqR ?_ | refine r_seqS ?_ | refine r_seqB ?_ | refine r_seqC ?_ | refine r_seqSB ?_ | refine r_region ?_ | refine o_run rfl rfl (by first | exact trivial | (simp only [AllP]; omega)) ?_ | refine o_nil ?_ | refine r_block ?_ | refine r_exit rfl ?_ | refine r_ret ?_ | refine r_skip ?_ | refine o_know _ _ (some true) rfl rfl rfl ?_ | refine o_know _ _ (some false) rfl rfl rfl ?_ | refine o_know _ _ (none) rfl rfl rfl ?_)
      refine r_loop (α := Nat) [0, 1, 5, 7, 8, 30, 31, 42, 43] (fun k => [S a, S b, .slice (some ⟨br, 0, none⟩) (b.length + 1) (b.length + 1), I i, I (D a b i k), I a.length, I i, I b.length, I k])
        (fun k w' => k ≤ b.length ∧ Kp [] w0 w' ∧ Blk w' br (rowL (b.length + 1) (fun j => I (if j ≤ k then D a b (i + 1) j else D a b i j : Nat))) 3) (fun k => b.length - k) 0 rfl ⟨by omega, kp3, hB3⟩ ?_
      clear kp3 hB3
      rintro k e w3 ⟨hk, kp3, hB3⟩
      (repeat first | refine r_seqR ?_ | refine r_seqS ?_ | refine r_seqB ?_ | refine r_seqC ?_ | refine r_seqSB ?_ | refine r_region ?_ | refine o_run rfl rfl (by first | exact trivial | (simp only [AllP]; omega)) ?_ | refine o_nil ?_ | refine r_block ?_ | refine r_exit rfl ?_ | refine r_ret ?_ | refine r_skip ?_ | refine o_know _ _ (some true) rfl rfl rfl ?_ | refine o_know _ _ (some false) rfl rfl rfl ?_ | refine o_know _ _ (none) rfl rfl rfl ?_)
      refine r_if rfl (fun hlt2 => ?_) (fun hge2 => ?_)
      · have hlt2 : k < b.length := by omega
        have hD := D_le a b i hi k hk
        have hD2 := D_le a b i hi (k + 1) hlt2
        have hD3 := D_le a b (i + 1) hlt k hk
        (repeat first | refine r_seqR ?_ | refine r_seqS ?_ | refine r_seqB ?_ | refine r_seqC ?_ | refine r_seqSB ?_ | refine r_region ?_ | refine o_run rfl rfl (by first | exact trivial | (simp only [AllP]; omega)) ?_ | refine o_nil ?_ | refine r_block ?_ | refine r_exit rfl ?_ | refine r_ret ?_ | refine r_skip ?_ | refine o_know _ _ (some true) rfl rfl rfl ?_ | refine o_know _ _ (some false) rfl rfl rfl ?_ | refine o_know _ _ (none) rfl rfl rfl ?_)
        refine r_seq ?_
        refine r_cut (α := Unit) [0, 1, 5, 7, 8, 9, 10, 30, 31, 42, 43] (fun _ => [S a, S b, .slice (some ⟨br, 0, none⟩) (b.length + 1) (b.length + 1), I i, I (D a b i k), I k, I (D a b i k + if a.getD i 0 = b.getD k 0 then 0 else 1 : Nat), I a.length, I i, I b.length, I k]) (fun _ w' => Sm w3 w') ?_ ?_
        · refine r_seq ?_
          refine r_quietS follows_mixed (by kernel_rfl) ?_
          (repeat first | refine q_run rfl rfl (by first | exact trivial | (simp only [AllP]; omega)) ?_ | refine q_nil ?_ | refine q_know _ _ (some true) rfl rfl rfl ?_ | refine q_know _ _ (some false) rfl rfl rfl ?_ | refine q_know _ _ (none) rfl rfl rfl ?_)
          intro w4 hs4
          refine r_ifn rfl (fun h => ?_) (fun h => ?_)
          · (repeat first | refine r_seqR ?_ | refine r_seqS ?_ | refine r_seqB ?_ | refine r_seqC ?_ | refine r_seqSB ?_ | refine r_region ?_ | refine o_run rfl rfl (by first | exact trivial | (simp only [AllP]; omega)) ?_ | refine o_nil ?_ | refine r_block ?_ | refine r_exit rfl ?_ | refine r_ret ?_ | refine r_skip ?_ | refine o_know _ _ (some true) rfl rfl rfl ?_ | refine o_know _ _ (some false) rfl rfl rfl ?_ | refine o_know _ _ (none) rfl rfl rfl ?_)
            refine ⟨(), ?_, hs4⟩
            have hne : ¬ a.getD i 0 = b.getD k 0 := fun h' => h (by simp only [Int.toNat_natCast, h'])
            rw [if_neg hne]
            rfl
          · (repeat first | refine r_seqR ?_ | refine r_seqS ?_ | refine r_seqB ?_ | refine r_seqC ?_ | refine r_seqSB ?_ | refine r_region ?_ | refine o_run rfl rfl (by first | exact trivial | (simp only [AllP]; omega)) ?_ | refine o_nil ?_ | refine r_block ?_ | refine r_exit rfl ?_ | refine r_ret ?_ | refine r_skip ?_ | refine o_know _ _ (some true) rfl rfl rfl ?_ | refine o_know _ _ (some false) rfl rfl rfl ?_ | refine o_know _ _ (none) rfl rfl rfl ?_)
            refine ⟨(), ?_, hs4⟩
            have heq : a.getD i 0 = b.getD k 0 := by
              simp only [Int.toNat_natCast] at h
              exact UInt8.toNat_inj.1 (by omega)
            rw [if_pos heq]
            rfl
        · rintro _ e w4 hs4
          have hB4 := hs4.blk hB3
          have kp4 := kp3.trans (hs4.kp [])
          clear hB3 kp3 hs4
          have hn : D a b i k + (if a.getD i 0 = b.getD k 0 then 0 else 1 : Nat) ≤ i + k + 1 := by split <;> omega
          have hss := D_ss a b i k hlt hlt2
          generalize hne : D a b i k + (if a.getD i 0 = b.getD k 0 then 0 else 1 : Nat) = ne at *
          (repeat first | refine r_seqR ?_ | refine r_seqS ?_ | refine r_seqB ?_ | refine r_seqC ?_ | refine r_seqSB ?_ | refine r_region ?_ | refine o_run rfl rfl (by first | exact trivial | (simp only [AllP]; omega)) ?_ | refine o_nil ?_ | refine r_block ?_ | refine r_exit rfl ?_ | refine r_ret ?_ | refine r_skip ?_ | refine o_know _ _ (some true) rfl rfl rfl ?_ | refine o_know _ _ (some false) rfl rfl rfl ?_ | refine o_know _ _ (none) rfl rfl rfl ?_)
          refine o_load rfl hB4 (rowL_get _ (by omega)) rfl rfl rfl rfl ?_
          have ek : ((k : Int) + 1).toNat = k + 1 := by omega
          rw [ek, Nat.zero_add, if_neg (by omega)]
          (repeat first | refine r_seqR ?_ | refine r_seqS ?_ | refine r_seqB ?_ | refine r_seqC ?_ | refine r_seqSB ?_ | refine r_region ?_ | refine o_run rfl rfl (by first | exact trivial | (simp only [AllP]; omega)) ?_ | refine o_nil ?_ | refine r_block ?_ | refine r_exit rfl ?_ | refine r_ret ?_ | refine r_skip ?_ | refine o_know _ _ (some true) rfl rfl rfl ?_ | refine o_know _ _ (some false) rfl rfl rfl ?_ | refine o_know _ _ (none) rfl rfl rfl ?_)
          refine o_load rfl hB4 (rowL_get _ (by omega)) rfl rfl rfl rfl ?_
          rw [Int.toNat_natCast, Nat.zero_add, if_pos (Nat.le_refl _)]
          (repeat first | refine r_seqR ?_ | refine r_seqS ?_ | refine r_seqB ?_ | refine r_seqC ?_ | refine r_seqSB ?_ | refine r_region ?_ | refine o_run rfl rfl (by first | exact trivial | (simp only [AllP]; omega)) ?_ | refine o_nil ?_ | refine r_block ?_ | refine r_exit rfl ?_ | refine r_ret ?_ | refine r_skip ?_ | refine o_know _ _ (some true) rfl rfl rfl ?_ | refine o_know _ _ (some false) rfl rfl rfl ?_ | refine o_know _ _ (none) rfl rfl rfl ?_)
          refine o_store rfl hB4 (by rw [rowL_len]; omega) rfl rfl rfl rfl rfl rfl ?_
          intro w5 hu
          have kp5 := kp4.since (hu.kp [br] (.inl (by simp))) (by simp; omega)
          have hB5 := hu.blk
          rw [rowL_set, rowL_congr (g := fun j => I (if j ≤ k + 1 then D a b (i + 1) j else D a b i j : Nat))] at hB5
          · (repeat first | refine r_seqR ?_ | refine r_seqS ?_ | refine r_seqB ?_ | refine r_seqC ?_ | refine r_seqSB ?_ | refine r_region ?_ | refine o_run rfl rfl (by first | exact trivial | (simp only [AllP]; omega)) ?_ | refine o_nil ?_ | refine r_block ?_ | refine r_exit rfl ?_ | refine r_ret ?_ | refine r_skip ?_ | refine o_know _ _ (some true) rfl rfl rfl ?_ | refine o_know _ _ (some false) rfl rfl rfl ?_ | refine o_know _ _ (none) rfl rfl rfl ?_)
            exact ⟨k + 1, rfl, ⟨hlt2, kp5, hB5⟩, by omega⟩
          · intro j hj
            by_cases h1 : j = k + 1
            · subst h1
              rw [if_pos (by omega), if_pos (by omega), hss]
              congr 1
              omega
            · have : (j ≤ k + 1) = (j ≤ k) := by simp; omega
              rw [if_neg (by omega)]
              simp only [this]
      · (repeat first | refine r_seqR ?_ | refine r_seqS ?_ | refine r_seqB ?_ | refine r_seqC ?_ | refine r_seqSB ?_ | refine r_region ?_ | refine o_run rfl rfl (by first | exact trivial | (simp only [AllP]; omega)) ?_ | refine o_nil ?_ | refine r_block ?_ | refine r_exit rfl ?_ | refine r_ret ?_ | refine r_skip ?_ | refine o_know _ _ (some true) rfl rfl rfl ?_ | refine o_know _ _ (some false) rfl rfl rfl ?_ | refine o_know _ _ (none) rfl rfl rfl ?_)
        refine ⟨i + 1, rfl, ⟨hlt, kp3, ?_⟩, by omega⟩
        rw [rowL_congr (g := fun j => I (if j ≤ k then D a b (i + 1) j else D a b i j : Nat))]
        · exact hB3
        · intro j hj
          rw [if_pos (by omega)]
    · intro j hj
      by_cases h1 : j = 0
      · subst h1
        simp [h10]
      · rw [if_neg (by simpa using h1), if_neg (by omega)]
  · (repeat first | refine r_seqR ?_ | refine r_seqS ?_ | refine r_seqB ?_ | refine r_seqC ?_ | refine r_seqSB ?_ | refine r_region ?_ | refine o_run rfl rfl (by first | exact trivial | (simp only [AllP]; omega)) ?_ | refine o_nil ?_ | refine r_block ?_ | refine r_exit rfl ?_ | refine r_ret ?_ | refine r_skip ?_ | refine o_know _ _ (some true) rfl rfl rfl ?_ | refine o_know _ _ (some false) rfl rfl rfl ?_ | refine o_know _ _ (none) rfl rfl rfl ?_)
    refine o_load rfl hB2 (rowL_get _ (by omega)) rfl rfl rfl rfl ?_
    (repeat first | refine r_seqR ?_ | refine r_seqS ?_ | refine r_seqB ?_ | refine r_seqC ?_ | refine r_seqSB ?_ | refine r_region ?_ | refine o_run rfl rfl (by first | exact trivial | (simp only [AllP]; omega)) ?_ | refine o_nil ?_ | refine r_block ?_ | refine r_exit rfl ?_ | refine r_ret ?_ | refine r_skip ?_ | refine o_know _ _ (some true) rfl rfl rfl ?_ | refine o_know _ _ (some false) rfl rfl rfl ?_ | refine o_know _ _ (none) rfl rfl rfl ?_)
    refine ⟨_, rfl, ?_, kp2⟩
    have hi : i = a.length := by omega
    subst hi
    rw [hdist, ← D_full]
    simp
end Go.Vc
