/- The law NamesEdits as a call. -/
import Derived.Test.YtghdpibdidfpbaaNmLaw1
import Derived.Test.YtghdpibdidfpbaaVcArg
namespace Go.Vc
open Go Go.Proofs
set_option maxRecDepth 10000
variable {w : World}
theorem offS_lt {off l cap size : Nat} (h : l < cap) : offS off l cap size = off + l * size := by unfold offS; rw [if_neg (by omega)]
theorem Sm.cell {w w' : World} (h : Sm w w') (a : Addr) : w'.cell? a = w.cell? a := by unfold World.cell?; rw [h.heap]

theorem split_at {t : Str} {k : Nat} (h : k < t.length) : t = t.take k ++ t[k] :: t.drop (k + 1) := by
  conv => lhs; rw [← List.take_append_drop k t, List.drop_eq_getElem_cons h]

theorem namesEdits_ret (x : Str) {a1 a2 : Option Addr} {len1 cap1 len2 cap2 : Nat} {z1 z2 : List Int} (h1 : IsRow .i64 w a1 len1 cap1 z1) (h2 : IsRow .u8 w a2 len2 cap2 z2) :
    Ret Try.prog 3 [S x, .slice a1 len1 cap1, .slice a2 len2 cap2] w (fun v w' => v = .bool true ∧ Kp [] w w') := by
  obtain ⟨bs, rfl⟩ := h2.bytes
  have hr1 := h1.read
  have hr2 := h2.read
  have hl1 := h1.len_le
  have hl2 := h2.len_le
  have hz := h1.rng64
  clear h1 h2
  rw [List.length_map] at hl2
  refine enter Try.call3 Try.func3 rfl rfl rfl rfl ?_
  (repeat first | refine r_seqR ?_ | refine r_seqS ?_ | refine r_seqB ?_ | refine r_seqC ?_ | refine r_seqSB ?_ | refine r_region ?_ | refine o_run rfl rfl (by first | exact trivial | (simp only [AllP]; omega) | (simp only [AllP, List.length_take, List.length_drop, List.length_append, List.length_cons, List.length_nil]; omega)) ?_ | refine o_nil ?_ | refine r_block ?_ | refine r_exit rfl ?_ | refine r_ret ?_ | refine r_skip ?_ | refine o_know _ _ (some true) rfl rfl rfl ?_ | refine o_know _ _ (some false) rfl rfl rfl ?_ | refine o_know _ _ (none) rfl rfl rfl ?_ | refine r_cond_f rfl ?_ | refine r_cond_t rfl ?_)
  refine o_call (short_ret _) rfl rfl rfl ?_
  rintro v w0 ⟨rfl, rfl⟩
  have ha : (x.take 60).length ≤ 60 := List.length_take_le _ _
  generalize x.take 60 = s at *
  (repeat first | refine o_run rfl rfl (by first | exact trivial | (simp only [AllP]; omega) | (simp only [AllP, List.length_take, List.length_drop, List.length_append, List.length_cons, List.length_nil]; omega)) ?_ | refine o_nil ?_ | refine o_know _ _ (some true) rfl rfl rfl ?_ | refine o_know _ _ (some false) rfl rfl rfl ?_ | refine o_know _ _ (none) rfl rfl rfl ?_)
  refine r_seqR ?_
  refine r_region ?_
  (repeat first | refine o_run rfl rfl (by first | exact trivial | (simp only [AllP]; omega) | (simp only [AllP, List.length_take, List.length_drop, List.length_append, List.length_cons, List.length_nil]; omega)) ?_ | refine o_nil ?_ | refine o_know _ _ (some true) rfl rfl rfl ?_ | refine o_know _ _ (some false) rfl rfl rfl ?_ | refine o_know _ _ (none) rfl rfl rfl ?_)
  refine r_seqR ?_
  refine r_region ?_
  (repeat first | refine o_run rfl rfl (by first | exact trivial | (simp only [AllP]; omega) | (simp only [AllP, List.length_take, List.length_drop, List.length_append, List.length_cons, List.length_nil]; omega)) ?_ | refine o_nil ?_ | refine o_know _ _ (some true) rfl rfl rfl ?_ | refine o_know _ _ (some false) rfl rfl rfl ?_ | refine o_know _ _ (none) rfl rfl rfl ?_)
  refine r_seq ?_
  refine r_cut (α := Unit) [] (fun _ => []) (fun _ w' => Kp [] w0 w') ?_ ?_
  · (repeat first | refine r_seqR ?_ | refine r_seqS ?_ | refine r_seqB ?_ | refine r_seqC ?_ | refine r_seqSB ?_ | refine r_region ?_ | refine o_run rfl rfl (by first | exact trivial | (simp only [AllP]; omega) | (simp only [AllP, List.length_take, List.length_drop, List.length_append, List.length_cons, List.length_nil]; omega)) ?_ | refine o_nil ?_ | refine r_block ?_ | refine r_exit rfl ?_ | refine r_ret ?_ | refine r_skip ?_ | refine o_know _ _ (some true) rfl rfl rfl ?_ | refine o_know _ _ (some false) rfl rfl rfl ?_ | refine o_know _ _ (none) rfl rfl rfl ?_ | refine r_cond_f rfl ?_ | refine r_cond_t rfl ?_)
    refine r_loop (α := Nat × Str) [1, 2, 7, 8, 9, 10] (fun g => [.slice a1 len1 cap1, .slice a2 len2 cap2, S s, S g.2, I g.1, I g.1])
      (fun g w' => g.1 ≤ 20 ∧ g.2.length ≤ 60 + g.1 ∧ dist s g.2 ≤ g.1 ∧ Kp [] w0 w') (fun g => 20 - g.1) (0, s) rfl ⟨by omega, by simpa using ha, ?_, Kp.refl _ _⟩ ?_
    · have := (dist_zero (a := s) (b := s) (by omega) (by omega)).2 rfl
      show dist s s ≤ 0
      omega
    rintro ⟨i, t⟩ e w1 ⟨hi, ht, hd, kp⟩
    dsimp only at hi ht hd
    dsimp only
    (repeat first | refine r_seqR ?_ | refine r_seqS ?_ | refine r_seqB ?_ | refine r_seqC ?_ | refine r_seqSB ?_ | refine r_region ?_ | refine o_run rfl rfl (by first | exact trivial | (simp only [AllP]; omega) | (simp only [AllP, List.length_take, List.length_drop, List.length_append, List.length_cons, List.length_nil]; omega)) ?_ | refine o_nil ?_ | refine r_block ?_ | refine r_exit rfl ?_ | refine r_ret ?_ | refine r_skip ?_ | refine o_know _ _ (some true) rfl rfl rfl ?_ | refine o_know _ _ (some false) rfl rfl rfl ?_ | refine o_know _ _ (none) rfl rfl rfl ?_ | refine r_cond_f rfl ?_ | refine r_cond_t rfl ?_)
    refine o_split _ _ rfl rfl rfl (fun hc1 => ?_) (fun hc1 => ?_)
    · have hc1 := of_decide_eq_true hc1
      (repeat first | refine r_seqR ?_ | refine r_seqS ?_ | refine r_seqB ?_ | refine r_seqC ?_ | refine r_seqSB ?_ | refine r_region ?_ | refine o_run rfl rfl (by first | exact trivial | (simp only [AllP]; omega) | (simp only [AllP, List.length_take, List.length_drop, List.length_append, List.length_cons, List.length_nil]; omega)) ?_ | refine o_nil ?_ | refine r_block ?_ | refine r_exit rfl ?_ | refine r_ret ?_ | refine r_skip ?_ | refine o_know _ _ (some true) rfl rfl rfl ?_ | refine o_know _ _ (some false) rfl rfl rfl ?_ | refine o_know _ _ (none) rfl rfl rfl ?_ | refine r_cond_f rfl ?_ | refine r_cond_t rfl ?_)
      refine o_split _ _ rfl rfl rfl (fun hc2 => ?_) (fun hc2 => ?_)
      · have hc2 := of_decide_eq_true hc2
        (repeat first | refine r_seqR ?_ | refine r_seqS ?_ | refine r_seqB ?_ | refine r_seqC ?_ | refine r_seqSB ?_ | refine r_region ?_ | refine o_run rfl rfl (by first | exact trivial | (simp only [AllP]; omega) | (simp only [AllP, List.length_take, List.length_drop, List.length_append, List.length_cons, List.length_nil]; omega)) ?_ | refine o_nil ?_ | refine r_block ?_ | refine r_exit rfl ?_ | refine r_ret ?_ | refine r_skip ?_ | refine o_know _ _ (some true) rfl rfl rfl ?_ | refine o_know _ _ (some false) rfl rfl rfl ?_ | refine o_know _ _ (none) rfl rfl rfl ?_ | refine r_cond_f rfl ?_ | refine r_cond_t rfl ?_)
        refine r_if rfl (fun hc3 => ?_) (fun hc3 => ?_)
        · -- a round
          obtain ⟨b1, o1, rfl, _, hcell1⟩ := (hr1.kp kp (by simp)).at_ (by simp; omega)
          obtain ⟨b2, o2, rfl, _, hcell2⟩ := (hr2.kp kp (by simp)).at_ (by simp; omega)
          have hzi := hz i
          have hm0 : (0 : Int) < (t.length : Int) + 1 := by omega
          have hrg := tmod_rng (z1.getD i 0) ((t.length : Int) + 1) hm0
          have hk2 := tmod_nn ((z1.getD i 0).tmod ((t.length : Int) + 1) + t.length + 1) ((t.length : Int) + 1) (by omega) hm0
          have hi1 : i < z1.length := by omega
          (repeat first | refine r_seqR ?_ | refine r_seqS ?_ | refine r_seqB ?_ | refine r_seqC ?_ | refine r_seqSB ?_ | refine r_region ?_ | refine o_run rfl rfl (by first | exact trivial | (simp only [AllP]; omega) | (simp only [AllP, List.length_take, List.length_drop, List.length_append, List.length_cons, List.length_nil]; omega)) ?_ | refine o_nil ?_ | refine r_block ?_ | refine r_exit rfl ?_ | refine r_ret ?_ | refine r_skip ?_ | refine o_know _ _ (some true) rfl rfl rfl ?_ | refine o_know _ _ (some false) rfl rfl rfl ?_ | refine o_know _ _ (none) rfl rfl rfl ?_ | refine r_cond_f rfl ?_ | refine r_cond_t rfl ?_)
          refine o_loadc rfl (hcell1 i (I (z1.getD i 0)) (by simp [hi1, List.getD_eq_getElem?_getD])) rfl rfl rfl rfl ?_
          (repeat first | refine o_run rfl rfl (by first | exact trivial | (simp only [AllP]; omega) | (simp only [AllP, List.length_take, List.length_drop, List.length_append, List.length_cons, List.length_nil]; omega)) ?_ | refine o_nil ?_ | refine o_know _ _ (some true) rfl rfl rfl ?_ | refine o_know _ _ (some false) rfl rfl rfl ?_ | refine o_know _ _ (none) rfl rfl rfl ?_)
          generalize hkk : ((z1.getD i 0).tmod ((t.length : Int) + 1) + t.length + 1).tmod ((t.length : Int) + 1) = kk at *
          obtain ⟨k, rfl⟩ := Int.eq_ofNat_of_zero_le hk2.1
          have hkt : k ≤ t.length := by omega
          clear hkk hrg hk2 hzi
          refine r_seqR ?_
          refine r_region ?_
          (repeat first | refine o_run rfl rfl (by first | exact trivial | (simp only [AllP]; omega) | (simp only [AllP, List.length_take, List.length_drop, List.length_append, List.length_cons, List.length_nil]; omega)) ?_ | refine o_nil ?_ | refine o_know _ _ (some true) rfl rfl rfl ?_ | refine o_know _ _ (some false) rfl rfl rfl ?_ | refine o_know _ _ (none) rfl rfl rfl ?_)
          refine r_seq ?_
          have hci : i < bs.length := by omega
          have hcell2 : w1.cell? ⟨b2, o2 + i, none⟩ = some (.int .u8 ((bs.getD i 0).toNat : Int)) := hcell2 i _ (by simp [hci, List.getD_eq_getElem?_getD])
          refine r_cut (α := Str) [1, 2, 7, 8, 9, 10, 12] (fun t' => [.slice (some ⟨b1, o1, none⟩) len1 cap1, .slice (some ⟨b2, o2, none⟩) len2 cap2, S s, S t', I i, I i, S t]) (fun t' w' => Sm w1 w' ∧ t'.length ≤ t.length + 1 ∧ dist t t' ≤ 1) ?_ ?_
          · refine r_block ?_
            refine r_seqR ?_
            refine r_region ?_
            have hi3 := tmod_nn (i : Int) 3 (by omega) (by omega)
            have bytes1 : ∀ w', Sm w1 w' → ∀ j, j < ((i : Int) + 1).toNat - (i : Int).toNat → w'.cell? ⟨b2, offS o2 (i : Int).toNat cap2 1 + j, none⟩ = some (.int .u8 (([bs.getD i 0].getD j 0).toNat : Int)) := by
              intro w' hs j hj
              have hj0 : j = 0 := by omega
              subst hj0
              rw [hs.cell, offS_lt (by omega)]
              simpa using hcell2
            refine o_bool [1, 2, 7, 8, 9, 10, 11, 12] [.slice (some ⟨b1, o1, none⟩) len1 cap1, .slice (some ⟨b2, o2, none⟩) len2 cap2, S s, S t, I i, I i, I k, S t] 64 (decide ((i : Int).tmod 3 = 0) || decide (k = t.length)) (fun w' => w' = w1) ?_ ?_
            · (repeat first | refine r_seqR ?_ | refine r_seqS ?_ | refine r_seqB ?_ | refine r_seqC ?_ | refine r_seqSB ?_ | refine r_region ?_ | refine o_run rfl rfl (by first | exact trivial | (simp only [AllP]; omega) | (simp only [AllP, List.length_take, List.length_drop, List.length_append, List.length_cons, List.length_nil]; omega)) ?_ | refine o_nil ?_ | refine r_block ?_ | refine r_exit rfl ?_ | refine r_ret ?_ | refine r_skip ?_ | refine o_know _ _ (some true) rfl rfl rfl ?_ | refine o_know _ _ (some false) rfl rfl rfl ?_ | refine o_know _ _ (none) rfl rfl rfl ?_ | refine r_cond_f rfl ?_ | refine r_cond_t rfl ?_)
              refine o_split _ _ rfl rfl rfl (fun h => ?_) (fun h => ?_)
              · (repeat first | refine r_seqR ?_ | refine r_seqS ?_ | refine r_seqB ?_ | refine r_seqC ?_ | refine r_seqSB ?_ | refine r_region ?_ | refine o_run rfl rfl (by first | exact trivial | (simp only [AllP]; omega) | (simp only [AllP, List.length_take, List.length_drop, List.length_append, List.length_cons, List.length_nil]; omega)) ?_ | refine o_nil ?_ | refine r_block ?_ | refine r_exit rfl ?_ | refine r_ret ?_ | refine r_skip ?_ | refine o_know _ _ (some true) rfl rfl rfl ?_ | refine o_know _ _ (some false) rfl rfl rfl ?_ | refine o_know _ _ (none) rfl rfl rfl ?_ | refine r_cond_f rfl ?_ | refine r_cond_t rfl ?_)
                exact ⟨rfl, ⟨_, rfl, by rw [h]; rfl⟩, rfl⟩
              · (repeat first | refine r_seqR ?_ | refine r_seqS ?_ | refine r_seqB ?_ | refine r_seqC ?_ | refine r_seqSB ?_ | refine r_region ?_ | refine o_run rfl rfl (by first | exact trivial | (simp only [AllP]; omega) | (simp only [AllP, List.length_take, List.length_drop, List.length_append, List.length_cons, List.length_nil]; omega)) ?_ | refine o_nil ?_ | refine r_block ?_ | refine r_exit rfl ?_ | refine r_ret ?_ | refine r_skip ?_ | refine o_know _ _ (some true) rfl rfl rfl ?_ | refine o_know _ _ (some false) rfl rfl rfl ?_ | refine o_know _ _ (none) rfl rfl rfl ?_ | refine r_cond_f rfl ?_ | refine r_cond_t rfl ?_)
                refine ⟨rfl, ⟨_, rfl, ?_⟩, rfl⟩
                rw [h, Bool.false_or, decide_eq_decide]; omega
            rintro e w2 rfl
            refine r_cond rfl (fun hb => ?_) (fun hb => ?_)
            · refine r_quietS follows_mixed (by kernel_rfl) ?_
              (repeat first | refine q_run rfl rfl (by first | exact trivial | (simp only [AllP]; omega) | (simp only [AllP, List.length_take, List.length_drop, List.length_append, List.length_cons, List.length_nil]; omega)) ?_ | refine q_nil ?_ | refine q_know _ _ (some true) rfl rfl rfl ?_ | refine q_know _ _ (some false) rfl rfl rfl ?_ | refine q_know _ _ (none) rfl rfl rfl ?_)
              refine q_bytes [bs.getD i 0] rfl (by simp <;> omega) bytes1 rfl rfl rfl rfl rfl ?_
              (repeat first | refine q_run rfl rfl (by first | exact trivial | (simp only [AllP]; omega) | (simp only [AllP, List.length_take, List.length_drop, List.length_append, List.length_cons, List.length_nil]; omega)) ?_ | refine q_nil ?_ | refine q_know _ _ (some true) rfl rfl rfl ?_ | refine q_know _ _ (some false) rfl rfl rfl ?_ | refine q_know _ _ (none) rfl rfl rfl ?_)
              intro w3 hs3
              refine ⟨t.take k ++ [bs.getD i 0] ++ t.drop k, rfl, hs3, by simp <;> omega, ?_⟩
              have := dist_ins (bs.getD i 0) (t.take k) (t.drop k) (by simp; omega)
              rw [List.take_append_drop] at this
              simpa using this
            · have hkl : k < t.length := by
                simp only [Bool.or_eq_false_iff, decide_eq_false_iff_not] at hb; omega
              have hsp := split_at hkl
              have hk1 : ((k : Int) + 1).toNat = k + 1 := by omega
              have hlen : (t.take k ++ t[k] :: t.drop (k + 1)).length ≤ 256 := by rw [← hsp]; omega
              (repeat first | refine r_seqR ?_ | refine r_seqS ?_ | refine r_seqB ?_ | refine r_seqC ?_ | refine r_seqSB ?_ | refine r_region ?_ | refine o_run rfl rfl (by first | exact trivial | (simp only [AllP]; omega) | (simp only [AllP, List.length_take, List.length_drop, List.length_append, List.length_cons, List.length_nil]; omega)) ?_ | refine o_nil ?_ | refine r_block ?_ | refine r_exit rfl ?_ | refine r_ret ?_ | refine r_skip ?_ | refine o_know _ _ (some true) rfl rfl rfl ?_ | refine o_know _ _ (some false) rfl rfl rfl ?_ | refine o_know _ _ (none) rfl rfl rfl ?_ | refine r_cond_f rfl ?_ | refine r_cond_t rfl ?_)
              refine r_cond rfl (fun hb2 => ?_) (fun hb2 => ?_)
              · refine r_quietS follows_mixed (by kernel_rfl) ?_
                (repeat first | refine q_run rfl rfl (by first | exact trivial | (simp only [AllP]; omega) | (simp only [AllP, List.length_take, List.length_drop, List.length_append, List.length_cons, List.length_nil]; omega)) ?_ | refine q_nil ?_ | refine q_know _ _ (some true) rfl rfl rfl ?_ | refine q_know _ _ (some false) rfl rfl rfl ?_ | refine q_know _ _ (none) rfl rfl rfl ?_)
                rw [hk1]
                intro w3 hs3
                refine ⟨t.take k ++ t.drop (k + 1), rfl, hs3, by simp <;> omega, ?_⟩
                have := dist_del t[k] (t.take k) (t.drop (k + 1)) hlen
                rwa [← hsp] at this
              · refine r_quietS follows_mixed (by kernel_rfl) ?_
                (repeat first | refine q_run rfl rfl (by first | exact trivial | (simp only [AllP]; omega) | (simp only [AllP, List.length_take, List.length_drop, List.length_append, List.length_cons, List.length_nil]; omega)) ?_ | refine q_nil ?_ | refine q_know _ _ (some true) rfl rfl rfl ?_ | refine q_know _ _ (some false) rfl rfl rfl ?_ | refine q_know _ _ (none) rfl rfl rfl ?_)
                refine q_bytes [bs.getD i 0] rfl (by simp <;> omega) bytes1 rfl rfl rfl rfl rfl ?_
                (repeat first | refine q_run rfl rfl (by first | exact trivial | (simp only [AllP]; omega) | (simp only [AllP, List.length_take, List.length_drop, List.length_append, List.length_cons, List.length_nil]; omega)) ?_ | refine q_nil ?_ | refine q_know _ _ (some true) rfl rfl rfl ?_ | refine q_know _ _ (some false) rfl rfl rfl ?_ | refine q_know _ _ (none) rfl rfl rfl ?_)
                rw [hk1]
                intro w3 hs3
                refine ⟨t.take k ++ [bs.getD i 0] ++ t.drop (k + 1), rfl, hs3, by simp <;> omega, ?_⟩
                have := dist_sub t[k] (bs.getD i 0) (t.take k) (t.drop (k + 1)) hlen
                rw [← hsp] at this
                simpa using this
          · rintro t' e w2 ⟨hs2, ht', hd'⟩
            have htri := dist_tri s t' t
            (repeat first | refine r_seqR ?_ | refine r_seqS ?_ | refine r_seqB ?_ | refine r_seqC ?_ | refine r_seqSB ?_ | refine r_region ?_ | refine o_run rfl rfl (by first | exact trivial | (simp only [AllP]; omega) | (simp only [AllP, List.length_take, List.length_drop, List.length_append, List.length_cons, List.length_nil]; omega)) ?_ | refine o_nil ?_ | refine r_block ?_ | refine r_exit rfl ?_ | refine r_ret ?_ | refine r_skip ?_ | refine o_know _ _ (some true) rfl rfl rfl ?_ | refine o_know _ _ (some false) rfl rfl rfl ?_ | refine o_know _ _ (none) rfl rfl rfl ?_ | refine r_cond_f rfl ?_ | refine r_cond_t rfl ?_)
            refine o_call (distance_ret _ _ _) rfl rfl rfl ?_
            rintro v w3 ⟨rfl, kp3⟩
            (repeat first | refine r_seqR ?_ | refine r_seqS ?_ | refine r_seqB ?_ | refine r_seqC ?_ | refine r_seqSB ?_ | refine r_region ?_ | refine o_run rfl rfl (by first | exact trivial | (simp only [AllP]; omega) | (simp only [AllP, List.length_take, List.length_drop, List.length_append, List.length_cons, List.length_nil]; omega)) ?_ | refine o_nil ?_ | refine r_block ?_ | refine r_exit rfl ?_ | refine r_ret ?_ | refine r_skip ?_ | refine o_know _ _ (some true) rfl rfl rfl ?_ | refine o_know _ _ (some false) rfl rfl rfl ?_ | refine o_know _ _ (none) rfl rfl rfl ?_ | refine r_cond_f rfl ?_ | refine r_cond_t rfl ?_)
            refine o_is false _ _ rfl rfl rfl (decide_eq_false (by omega)) ?_
            (repeat first | refine r_seqR ?_ | refine r_seqS ?_ | refine r_seqB ?_ | refine r_seqC ?_ | refine r_seqSB ?_ | refine r_region ?_ | refine o_run rfl rfl (by first | exact trivial | (simp only [AllP]; omega) | (simp only [AllP, List.length_take, List.length_drop, List.length_append, List.length_cons, List.length_nil]; omega)) ?_ | refine o_nil ?_ | refine r_block ?_ | refine r_exit rfl ?_ | refine r_ret ?_ | refine r_skip ?_ | refine o_know _ _ (some true) rfl rfl rfl ?_ | refine o_know _ _ (some false) rfl rfl rfl ?_ | refine o_know _ _ (none) rfl rfl rfl ?_ | refine r_cond_f rfl ?_ | refine r_cond_t rfl ?_)
            refine o_call (distance_ret _ _ _) rfl rfl rfl ?_
            rintro v w4 ⟨rfl, kp4⟩
            (repeat first | refine r_seqR ?_ | refine r_seqS ?_ | refine r_seqB ?_ | refine r_seqC ?_ | refine r_seqSB ?_ | refine r_region ?_ | refine o_run rfl rfl (by first | exact trivial | (simp only [AllP]; omega) | (simp only [AllP, List.length_take, List.length_drop, List.length_append, List.length_cons, List.length_nil]; omega)) ?_ | refine o_nil ?_ | refine r_block ?_ | refine r_exit rfl ?_ | refine r_ret ?_ | refine r_skip ?_ | refine o_know _ _ (some true) rfl rfl rfl ?_ | refine o_know _ _ (some false) rfl rfl rfl ?_ | refine o_know _ _ (none) rfl rfl rfl ?_ | refine r_cond_f rfl ?_ | refine r_cond_t rfl ?_)
            refine r_no rfl (decide_eq_false (by omega)) ?_
            (repeat first | refine r_seqR ?_ | refine r_seqS ?_ | refine r_seqB ?_ | refine r_seqC ?_ | refine r_seqSB ?_ | refine r_region ?_ | refine o_run rfl rfl (by first | exact trivial | (simp only [AllP]; omega) | (simp only [AllP, List.length_take, List.length_drop, List.length_append, List.length_cons, List.length_nil]; omega)) ?_ | refine o_nil ?_ | refine r_block ?_ | refine r_exit rfl ?_ | refine r_ret ?_ | refine r_skip ?_ | refine o_know _ _ (some true) rfl rfl rfl ?_ | refine o_know _ _ (some false) rfl rfl rfl ?_ | refine o_know _ _ (none) rfl rfl rfl ?_ | refine r_cond_f rfl ?_ | refine r_cond_t rfl ?_)
            refine ⟨(i + 1, t'), rfl, ⟨by show i + 1 ≤ 20; omega, by show t'.length ≤ 60 + (i + 1); omega, by show dist s t' ≤ i + 1; omega, kp.trans ((hs2.kp []).trans (kp3.trans kp4))⟩, by show 20 - (i + 1) < 20 - i; omega⟩
        · (repeat first | refine r_seqR ?_ | refine r_seqS ?_ | refine r_seqB ?_ | refine r_seqC ?_ | refine r_seqSB ?_ | refine r_region ?_ | refine o_run rfl rfl (by first | exact trivial | (simp only [AllP]; omega) | (simp only [AllP, List.length_take, List.length_drop, List.length_append, List.length_cons, List.length_nil]; omega)) ?_ | refine o_nil ?_ | refine r_block ?_ | refine r_exit rfl ?_ | refine r_ret ?_ | refine r_skip ?_ | refine o_know _ _ (some true) rfl rfl rfl ?_ | refine o_know _ _ (some false) rfl rfl rfl ?_ | refine o_know _ _ (none) rfl rfl rfl ?_ | refine r_cond_f rfl ?_ | refine r_cond_t rfl ?_)
          exact ⟨(), rfl, kp⟩
      · (repeat first | refine r_seqR ?_ | refine r_seqS ?_ | refine r_seqB ?_ | refine r_seqC ?_ | refine r_seqSB ?_ | refine r_region ?_ | refine o_run rfl rfl (by first | exact trivial | (simp only [AllP]; omega) | (simp only [AllP, List.length_take, List.length_drop, List.length_append, List.length_cons, List.length_nil]; omega)) ?_ | refine o_nil ?_ | refine r_block ?_ | refine r_exit rfl ?_ | refine r_ret ?_ | refine r_skip ?_ | refine o_know _ _ (some true) rfl rfl rfl ?_ | refine o_know _ _ (some false) rfl rfl rfl ?_ | refine o_know _ _ (none) rfl rfl rfl ?_ | refine r_cond_f rfl ?_ | refine r_cond_t rfl ?_)
        exact ⟨(), rfl, kp⟩
    · (repeat first | refine r_seqR ?_ | refine r_seqS ?_ | refine r_seqB ?_ | refine r_seqC ?_ | refine r_seqSB ?_ | refine r_region ?_ | refine o_run rfl rfl (by first | exact trivial | (simp only [AllP]; omega) | (simp only [AllP, List.length_take, List.length_drop, List.length_append, List.length_cons, List.length_nil]; omega)) ?_ | refine o_nil ?_ | refine r_block ?_ | refine r_exit rfl ?_ | refine r_ret ?_ | refine r_skip ?_ | refine o_know _ _ (some true) rfl rfl rfl ?_ | refine o_know _ _ (some false) rfl rfl rfl ?_ | refine o_know _ _ (none) rfl rfl rfl ?_ | refine r_cond_f rfl ?_ | refine r_cond_t rfl ?_)
      exact ⟨(), rfl, kp⟩
  rintro _ e w1 kp
  (repeat first | refine r_seqR ?_ | refine r_seqS ?_ | refine r_seqB ?_ | refine r_seqC ?_ | refine r_seqSB ?_ | refine r_region ?_ | refine o_run rfl rfl (by first | exact trivial | (simp only [AllP]; omega) | (simp only [AllP, List.length_take, List.length_drop, List.length_append, List.length_cons, List.length_nil]; omega)) ?_ | refine o_nil ?_ | refine r_block ?_ | refine r_exit rfl ?_ | refine r_ret ?_ | refine r_skip ?_ | refine o_know _ _ (some true) rfl rfl rfl ?_ | refine o_know _ _ (some false) rfl rfl rfl ?_ | refine o_know _ _ (none) rfl rfl rfl ?_ | refine r_cond_f rfl ?_ | refine r_cond_t rfl ?_)
  refine o_call works_ret rfl rfl rfl ?_
  rintro v w2 ⟨rfl, kp2⟩
  (repeat first | refine r_seqR ?_ | refine r_seqS ?_ | refine r_seqB ?_ | refine r_seqC ?_ | refine r_seqSB ?_ | refine r_region ?_ | refine o_run rfl rfl (by first | exact trivial | (simp only [AllP]; omega) | (simp only [AllP, List.length_take, List.length_drop, List.length_append, List.length_cons, List.length_nil]; omega)) ?_ | refine o_nil ?_ | refine r_block ?_ | refine r_exit rfl ?_ | refine r_ret ?_ | refine r_skip ?_ | refine o_know _ _ (some true) rfl rfl rfl ?_ | refine o_know _ _ (some false) rfl rfl rfl ?_ | refine o_know _ _ (none) rfl rfl rfl ?_ | refine r_cond_f rfl ?_ | refine r_cond_t rfl ?_)
  exact ⟨_, rfl, rfl, kp.trans kp2⟩
end Go.Vc
