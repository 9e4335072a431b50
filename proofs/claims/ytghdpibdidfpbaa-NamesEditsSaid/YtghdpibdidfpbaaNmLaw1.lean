/- The laws NamesTexts, NamesMetric, NamesEdits as calls. -/
import Derived.Test.YtghdpibdidfpbaaNmRef2
import Derived.Test.YtghdpibdidfpbaaNmMet
namespace Go.Vc
open Go Go.Proofs
set_option maxRecDepth 10000
variable {w : World}
theorem namesTexts_ret (a b : Str) (ha : a.length ≤ 9223372036854775807) : Ret Try.prog 5 [S a, S b] w (fun v w' => v = .bool true ∧ Kp [] w w') := by
  refine enter Try.call5 Try.func5 rfl rfl rfl rfl ?_
  (repeat first | refine r_seqR ?_ | refine r_seqS ?_ | refine r_seqB ?_ | refine r_seqC ?_ | refine r_seqSB ?_ | refine r_region ?_ | refine o_run rfl rfl (by first | exact trivial | (simp only [AllP]; omega)) ?_ | refine o_nil ?_ | refine r_block ?_ | refine r_exit rfl ?_ | refine r_ret ?_ | refine r_skip ?_ | refine o_know _ _ (some true) rfl rfl rfl ?_ | refine o_know _ _ (some false) rfl rfl rfl ?_ | refine o_know _ _ (none) rfl rfl rfl ?_)
  refine o_call (check_ret a ha _) rfl rfl rfl ?_
  rintro v w1 ⟨rfl, rfl⟩
  refine o_call (num_ret _ _) rfl rfl rfl ?_
  rintro v w2 ⟨rfl, rfl⟩
  (repeat first | refine r_seqR ?_ | refine r_seqS ?_ | refine r_seqB ?_ | refine r_seqC ?_ | refine r_seqSB ?_ | refine r_region ?_ | refine o_run rfl rfl (by first | exact trivial | (simp only [AllP]; omega)) ?_ | refine o_nil ?_ | refine r_block ?_ | refine r_exit rfl ?_ | refine r_ret ?_ | refine r_skip ?_ | refine o_know _ _ (some true) rfl rfl rfl ?_ | refine o_know _ _ (some false) rfl rfl rfl ?_ | refine o_know _ _ (none) rfl rfl rfl ?_)
  refine o_call (rcheck_ret a ha _) rfl rfl rfl ?_
  rintro v w3 ⟨rfl, rfl⟩
  (repeat first | refine r_seqR ?_ | refine r_seqS ?_ | refine r_seqB ?_ | refine r_seqC ?_ | refine r_seqSB ?_ | refine r_region ?_ | refine o_run rfl rfl (by first | exact trivial | (simp only [AllP]; omega)) ?_ | refine o_nil ?_ | refine r_block ?_ | refine r_exit rfl ?_ | refine r_ret ?_ | refine r_skip ?_ | refine o_know _ _ (some true) rfl rfl rfl ?_ | refine o_know _ _ (some false) rfl rfl rfl ?_ | refine o_know _ _ (none) rfl rfl rfl ?_)
  refine o_is true _ _ rfl rfl rfl (by simp) ?_
  (repeat first | refine r_seqR ?_ | refine r_seqS ?_ | refine r_seqB ?_ | refine r_seqC ?_ | refine r_seqSB ?_ | refine r_region ?_ | refine o_run rfl rfl (by first | exact trivial | (simp only [AllP]; omega)) ?_ | refine o_nil ?_ | refine r_block ?_ | refine r_exit rfl ?_ | refine r_ret ?_ | refine r_skip ?_ | refine o_know _ _ (some true) rfl rfl rfl ?_ | refine o_know _ _ (some false) rfl rfl rfl ?_ | refine o_know _ _ (none) rfl rfl rfl ?_)
  refine o_call (distance_ret _ _ _) rfl rfl rfl ?_
  rintro v w4 ⟨rfl, kp4⟩
  (repeat first | refine r_seqR ?_ | refine r_seqS ?_ | refine r_seqB ?_ | refine r_seqC ?_ | refine r_seqSB ?_ | refine r_region ?_ | refine o_run rfl rfl (by first | exact trivial | (simp only [AllP]; omega)) ?_ | refine o_nil ?_ | refine r_block ?_ | refine r_exit rfl ?_ | refine r_ret ?_ | refine r_skip ?_ | refine o_know _ _ (some true) rfl rfl rfl ?_ | refine o_know _ _ (some false) rfl rfl rfl ?_ | refine o_know _ _ (none) rfl rfl rfl ?_)
  refine o_call (rdistance_ret _ _ _) rfl rfl rfl ?_
  rintro v w5 ⟨rfl, kp5⟩
  (repeat first | refine r_seqR ?_ | refine r_seqS ?_ | refine r_seqB ?_ | refine r_seqC ?_ | refine r_seqSB ?_ | refine r_region ?_ | refine o_run rfl rfl (by first | exact trivial | (simp only [AllP]; omega)) ?_ | refine o_nil ?_ | refine r_block ?_ | refine r_exit rfl ?_ | refine r_ret ?_ | refine r_skip ?_ | refine o_know _ _ (some true) rfl rfl rfl ?_ | refine o_know _ _ (some false) rfl rfl rfl ?_ | refine o_know _ _ (none) rfl rfl rfl ?_)
  refine o_is true _ _ rfl rfl rfl (by simp) ?_
  (repeat first | refine r_seqR ?_ | refine r_seqS ?_ | refine r_seqB ?_ | refine r_seqC ?_ | refine r_seqSB ?_ | refine r_region ?_ | refine o_run rfl rfl (by first | exact trivial | (simp only [AllP]; omega)) ?_ | refine o_nil ?_ | refine r_block ?_ | refine r_exit rfl ?_ | refine r_ret ?_ | refine r_skip ?_ | refine o_know _ _ (some true) rfl rfl rfl ?_ | refine o_know _ _ (some false) rfl rfl rfl ?_ | refine o_know _ _ (none) rfl rfl rfl ?_)
  refine o_call (likeness_ret _ _ _) rfl rfl rfl ?_
  rintro v w6 ⟨rfl, kp6⟩
  (repeat first | refine r_seqR ?_ | refine r_seqS ?_ | refine r_seqB ?_ | refine r_seqC ?_ | refine r_seqSB ?_ | refine r_region ?_ | refine o_run rfl rfl (by first | exact trivial | (simp only [AllP]; omega)) ?_ | refine o_nil ?_ | refine r_block ?_ | refine r_exit rfl ?_ | refine r_ret ?_ | refine r_skip ?_ | refine o_know _ _ (some true) rfl rfl rfl ?_ | refine o_know _ _ (some false) rfl rfl rfl ?_ | refine o_know _ _ (none) rfl rfl rfl ?_)
  refine o_call (rlikeness_ret _ _ _) rfl rfl rfl ?_
  rintro v w7 ⟨rfl, kp7⟩
  (repeat first | refine r_seqR ?_ | refine r_seqS ?_ | refine r_seqB ?_ | refine r_seqC ?_ | refine r_seqSB ?_ | refine r_region ?_ | refine o_run rfl rfl (by first | exact trivial | (simp only [AllP]; omega)) ?_ | refine o_nil ?_ | refine r_block ?_ | refine r_exit rfl ?_ | refine r_ret ?_ | refine r_skip ?_ | refine o_know _ _ (some true) rfl rfl rfl ?_ | refine o_know _ _ (some false) rfl rfl rfl ?_ | refine o_know _ _ (none) rfl rfl rfl ?_)
  refine o_is true _ _ rfl rfl rfl (order_self _ (likeF_num _ _ (dist_le' _ _) ?_)) ?_
  · have h1 : (a.take 256).length ≤ 256 := List.length_take_le _ _
    have h2 : (b.take 256).length ≤ 256 := List.length_take_le _ _
    omega
  refine o_call works_ret rfl rfl rfl ?_
  rintro v w8 ⟨rfl, kp8⟩
  (repeat first | refine r_seqR ?_ | refine r_seqS ?_ | refine r_seqB ?_ | refine r_seqC ?_ | refine r_seqSB ?_ | refine r_region ?_ | refine o_run rfl rfl (by first | exact trivial | (simp only [AllP]; omega)) ?_ | refine o_nil ?_ | refine r_block ?_ | refine r_exit rfl ?_ | refine r_ret ?_ | refine r_skip ?_ | refine o_know _ _ (some true) rfl rfl rfl ?_ | refine o_know _ _ (some false) rfl rfl rfl ?_ | refine o_know _ _ (none) rfl rfl rfl ?_)
  exact ⟨_, rfl, rfl, kp4.trans (kp5.trans (kp6.trans (kp7.trans kp8)))⟩

theorem namesMetric_ret (x y z : Str) : Ret Try.prog 6 [S x, S y, S z] w (fun v w' => v = .bool true ∧ Kp [] w w') := by
  refine enter Try.call6 Try.func6 rfl rfl rfl rfl ?_
  (repeat first | refine r_seqR ?_ | refine r_seqS ?_ | refine r_seqB ?_ | refine r_seqC ?_ | refine r_seqSB ?_ | refine r_region ?_ | refine o_run rfl rfl (by first | exact trivial | (simp only [AllP]; omega)) ?_ | refine o_nil ?_ | refine r_block ?_ | refine r_exit rfl ?_ | refine r_ret ?_ | refine r_skip ?_ | refine o_know _ _ (some true) rfl rfl rfl ?_ | refine o_know _ _ (some false) rfl rfl rfl ?_ | refine o_know _ _ (none) rfl rfl rfl ?_)
  refine o_call (short_ret _) rfl rfl rfl ?_
  rintro v w' ⟨rfl, rfl⟩
  (repeat first | refine r_seqR ?_ | refine r_seqS ?_ | refine r_seqB ?_ | refine r_seqC ?_ | refine r_seqSB ?_ | refine r_region ?_ | refine o_run rfl rfl (by first | exact trivial | (simp only [AllP]; omega)) ?_ | refine o_nil ?_ | refine r_block ?_ | refine r_exit rfl ?_ | refine r_ret ?_ | refine r_skip ?_ | refine o_know _ _ (some true) rfl rfl rfl ?_ | refine o_know _ _ (some false) rfl rfl rfl ?_ | refine o_know _ _ (none) rfl rfl rfl ?_)
  refine o_call (short_ret _) rfl rfl rfl ?_
  rintro v w' ⟨rfl, rfl⟩
  (repeat first | refine r_seqR ?_ | refine r_seqS ?_ | refine r_seqB ?_ | refine r_seqC ?_ | refine r_seqSB ?_ | refine r_region ?_ | refine o_run rfl rfl (by first | exact trivial | (simp only [AllP]; omega)) ?_ | refine o_nil ?_ | refine r_block ?_ | refine r_exit rfl ?_ | refine r_ret ?_ | refine r_skip ?_ | refine o_know _ _ (some true) rfl rfl rfl ?_ | refine o_know _ _ (some false) rfl rfl rfl ?_ | refine o_know _ _ (none) rfl rfl rfl ?_)
  refine o_call (short_ret _) rfl rfl rfl ?_
  rintro v w0 ⟨rfl, rfl⟩
  have ha : (x.take 60).length ≤ 60 := List.length_take_le _ _
  have hb : (y.take 60).length ≤ 60 := List.length_take_le _ _
  have hc : (z.take 60).length ≤ 60 := List.length_take_le _ _
  generalize x.take 60 = a at *
  generalize y.take 60 = b at *
  generalize z.take 60 = c at *
  have hz := dist_zero (a := a) (b := b) (by omega) (by omega)
  have hsy := dist_symm b a
  have htri := dist_tri a b c
  have hle := dist_len (a := a) (b := b) (by omega) (by omega)
  have hlike : like a b = likeF (dist a b) (max a.length b.length) := by
    unfold like; rw [List.take_of_length_le (by omega), List.take_of_length_le (by omega)]
  have hlike2 : like b a = like a b := by
    rw [hlike]; unfold like; rw [List.take_of_length_le (by omega), List.take_of_length_le (by omega), hsy, Nat.max_comm]
  have hok := likeOk_all (max a.length b.length) (dist a b) (by omega) (by omega)
  have hself := order_self _ (likeF_num (dist a b) (max a.length b.length) (by omega) (by omega))
  unfold likeOk at hok
  rw [← hlike] at hok hself
  simp only [Bool.and_eq_true] at hok
  (repeat first | refine r_seqR ?_ | refine r_seqS ?_ | refine r_seqB ?_ | refine r_seqC ?_ | refine r_seqSB ?_ | refine r_region ?_ | refine o_run rfl rfl (by first | exact trivial | (simp only [AllP]; omega)) ?_ | refine o_nil ?_ | refine r_block ?_ | refine r_exit rfl ?_ | refine r_ret ?_ | refine r_skip ?_ | refine o_know _ _ (some true) rfl rfl rfl ?_ | refine o_know _ _ (some false) rfl rfl rfl ?_ | refine o_know _ _ (none) rfl rfl rfl ?_)
  refine o_call (distance_ret _ _ _) rfl rfl rfl ?_
  rintro v w1 ⟨rfl, kp1⟩
  (repeat first | refine r_seqR ?_ | refine r_seqS ?_ | refine r_seqB ?_ | refine r_seqC ?_ | refine r_seqSB ?_ | refine r_region ?_ | refine o_run rfl rfl (by first | exact trivial | (simp only [AllP]; omega)) ?_ | refine o_nil ?_ | refine r_block ?_ | refine r_exit rfl ?_ | refine r_ret ?_ | refine r_skip ?_ | refine o_know _ _ (some true) rfl rfl rfl ?_ | refine o_know _ _ (some false) rfl rfl rfl ?_ | refine o_know _ _ (none) rfl rfl rfl ?_)
  refine o_call works_ret rfl rfl rfl ?_
  rintro v w2 ⟨rfl, kp2⟩
  (repeat first | refine r_seqR ?_ | refine r_seqS ?_ | refine r_seqB ?_ | refine r_seqC ?_ | refine r_seqSB ?_ | refine r_region ?_ | refine o_run rfl rfl (by first | exact trivial | (simp only [AllP]; omega)) ?_ | refine o_nil ?_ | refine r_block ?_ | refine r_exit rfl ?_ | refine r_ret ?_ | refine r_skip ?_ | refine o_know _ _ (some true) rfl rfl rfl ?_ | refine o_know _ _ (some false) rfl rfl rfl ?_ | refine o_know _ _ (none) rfl rfl rfl ?_)
  have hz2 : decide (((dist a b : Nat) : Int) = 0) = decide (a = b) := by
    rw [decide_eq_decide, ← hz]; omega
  have hd1 := dist_le' a b
  have hd2 := dist_le' a c
  have hd3 := dist_le' c b
  refine o_is false _ _ rfl rfl rfl (by rw [hz2]; simp) ?_
  (repeat first | refine r_seqR ?_ | refine r_seqS ?_ | refine r_seqB ?_ | refine r_seqC ?_ | refine r_seqSB ?_ | refine r_region ?_ | refine o_run rfl rfl (by first | exact trivial | (simp only [AllP]; omega)) ?_ | refine o_nil ?_ | refine r_block ?_ | refine r_exit rfl ?_ | refine r_ret ?_ | refine r_skip ?_ | refine o_know _ _ (some true) rfl rfl rfl ?_ | refine o_know _ _ (some false) rfl rfl rfl ?_ | refine o_know _ _ (none) rfl rfl rfl ?_)
  refine o_call (distance_ret _ _ _) rfl rfl rfl ?_
  rintro v w3 ⟨rfl, kp3⟩
  (repeat first | refine r_seqR ?_ | refine r_seqS ?_ | refine r_seqB ?_ | refine r_seqC ?_ | refine r_seqSB ?_ | refine r_region ?_ | refine o_run rfl rfl (by first | exact trivial | (simp only [AllP]; omega)) ?_ | refine o_nil ?_ | refine r_block ?_ | refine r_exit rfl ?_ | refine r_ret ?_ | refine r_skip ?_ | refine o_know _ _ (some true) rfl rfl rfl ?_ | refine o_know _ _ (some false) rfl rfl rfl ?_ | refine o_know _ _ (none) rfl rfl rfl ?_)
  refine o_is false _ _ rfl rfl rfl (by simp [hsy]) ?_
  (repeat first | refine r_seqR ?_ | refine r_seqS ?_ | refine r_seqB ?_ | refine r_seqC ?_ | refine r_seqSB ?_ | refine r_region ?_ | refine o_run rfl rfl (by first | exact trivial | (simp only [AllP]; omega)) ?_ | refine o_nil ?_ | refine r_block ?_ | refine r_exit rfl ?_ | refine r_ret ?_ | refine r_skip ?_ | refine o_know _ _ (some true) rfl rfl rfl ?_ | refine o_know _ _ (some false) rfl rfl rfl ?_ | refine o_know _ _ (none) rfl rfl rfl ?_)
  refine o_call (distance_ret _ _ _) rfl rfl rfl ?_
  rintro v w4 ⟨rfl, kp4⟩
  (repeat first | refine r_seqR ?_ | refine r_seqS ?_ | refine r_seqB ?_ | refine r_seqC ?_ | refine r_seqSB ?_ | refine r_region ?_ | refine o_run rfl rfl (by first | exact trivial | (simp only [AllP]; omega)) ?_ | refine o_nil ?_ | refine r_block ?_ | refine r_exit rfl ?_ | refine r_ret ?_ | refine r_skip ?_ | refine o_know _ _ (some true) rfl rfl rfl ?_ | refine o_know _ _ (some false) rfl rfl rfl ?_ | refine o_know _ _ (none) rfl rfl rfl ?_)
  refine o_call (distance_ret _ _ _) rfl rfl rfl ?_
  rintro v w5 ⟨rfl, kp5⟩
  (repeat first | refine r_seqR ?_ | refine r_seqS ?_ | refine r_seqB ?_ | refine r_seqC ?_ | refine r_seqSB ?_ | refine r_region ?_ | refine o_run rfl rfl (by first | exact trivial | (simp only [AllP]; omega)) ?_ | refine o_nil ?_ | refine r_block ?_ | refine r_exit rfl ?_ | refine r_ret ?_ | refine r_skip ?_ | refine o_know _ _ (some true) rfl rfl rfl ?_ | refine o_know _ _ (some false) rfl rfl rfl ?_ | refine o_know _ _ (none) rfl rfl rfl ?_)
  refine r_no rfl (decide_eq_false (by omega)) ?_
  (repeat first | refine r_seqR ?_ | refine r_seqS ?_ | refine r_seqB ?_ | refine r_seqC ?_ | refine r_seqSB ?_ | refine r_region ?_ | refine o_run rfl rfl (by first | exact trivial | (simp only [AllP]; omega)) ?_ | refine o_nil ?_ | refine r_block ?_ | refine r_exit rfl ?_ | refine r_ret ?_ | refine r_skip ?_ | refine o_know _ _ (some true) rfl rfl rfl ?_ | refine o_know _ _ (some false) rfl rfl rfl ?_ | refine o_know _ _ (none) rfl rfl rfl ?_)
  refine o_is false _ _ rfl rfl rfl (decide_eq_false (by omega)) ?_
  (repeat first | refine r_seqR ?_ | refine r_seqS ?_ | refine r_seqB ?_ | refine r_seqC ?_ | refine r_seqSB ?_ | refine r_region ?_ | refine o_run rfl rfl (by first | exact trivial | (simp only [AllP]; omega)) ?_ | refine o_nil ?_ | refine r_block ?_ | refine r_exit rfl ?_ | refine r_ret ?_ | refine r_skip ?_ | refine o_know _ _ (some true) rfl rfl rfl ?_ | refine o_know _ _ (some false) rfl rfl rfl ?_ | refine o_know _ _ (none) rfl rfl rfl ?_)
  refine o_is false _ _ rfl rfl rfl (decide_eq_false (by omega)) ?_
  (repeat first | refine r_seqR ?_ | refine r_seqS ?_ | refine r_seqB ?_ | refine r_seqC ?_ | refine r_seqSB ?_ | refine r_region ?_ | refine o_run rfl rfl (by first | exact trivial | (simp only [AllP]; omega)) ?_ | refine o_nil ?_ | refine r_block ?_ | refine r_exit rfl ?_ | refine r_ret ?_ | refine r_skip ?_ | refine o_know _ _ (some true) rfl rfl rfl ?_ | refine o_know _ _ (some false) rfl rfl rfl ?_ | refine o_know _ _ (none) rfl rfl rfl ?_)
  refine r_no rfl (decide_eq_false (by omega)) ?_
  (repeat first | refine r_seqR ?_ | refine r_seqS ?_ | refine r_seqB ?_ | refine r_seqC ?_ | refine r_seqSB ?_ | refine r_region ?_ | refine o_run rfl rfl (by first | exact trivial | (simp only [AllP]; omega)) ?_ | refine o_nil ?_ | refine r_block ?_ | refine r_exit rfl ?_ | refine r_ret ?_ | refine r_skip ?_ | refine o_know _ _ (some true) rfl rfl rfl ?_ | refine o_know _ _ (some false) rfl rfl rfl ?_ | refine o_know _ _ (none) rfl rfl rfl ?_)
  refine o_call (likeness_ret _ _ _) rfl rfl rfl ?_
  rintro v w6 ⟨rfl, kp6⟩
  (repeat first | refine r_seqR ?_ | refine r_seqS ?_ | refine r_seqB ?_ | refine r_seqC ?_ | refine r_seqSB ?_ | refine r_region ?_ | refine o_run rfl rfl (by first | exact trivial | (simp only [AllP]; omega)) ?_ | refine o_nil ?_ | refine r_block ?_ | refine r_exit rfl ?_ | refine r_ret ?_ | refine r_skip ?_ | refine o_know _ _ (some true) rfl rfl rfl ?_ | refine o_know _ _ (some false) rfl rfl rfl ?_ | refine o_know _ _ (none) rfl rfl rfl ?_)
  refine o_is true _ _ rfl rfl rfl hok.1.1 ?_
  (repeat first | refine r_seqR ?_ | refine r_seqS ?_ | refine r_seqB ?_ | refine r_seqC ?_ | refine r_seqSB ?_ | refine r_region ?_ | refine o_run rfl rfl (by first | exact trivial | (simp only [AllP]; omega)) ?_ | refine o_nil ?_ | refine r_block ?_ | refine r_exit rfl ?_ | refine r_ret ?_ | refine r_skip ?_ | refine o_know _ _ (some true) rfl rfl rfl ?_ | refine o_know _ _ (some false) rfl rfl rfl ?_ | refine o_know _ _ (none) rfl rfl rfl ?_)
  refine o_is true _ _ rfl rfl rfl hok.1.2 ?_
  (repeat first | refine r_seqR ?_ | refine r_seqS ?_ | refine r_seqB ?_ | refine r_seqC ?_ | refine r_seqSB ?_ | refine r_region ?_ | refine o_run rfl rfl (by first | exact trivial | (simp only [AllP]; omega)) ?_ | refine o_nil ?_ | refine r_block ?_ | refine r_exit rfl ?_ | refine r_ret ?_ | refine r_skip ?_ | refine o_know _ _ (some true) rfl rfl rfl ?_ | refine o_know _ _ (some false) rfl rfl rfl ?_ | refine o_know _ _ (none) rfl rfl rfl ?_)
  refine o_is true _ _ rfl rfl rfl ?_ ?_
  · have e1 : decide (((dist a b : Nat) : Int) = 0) = decide (dist a b = 0) := by rw [decide_eq_decide]; omega
    rw [e1]; exact hok.2
  (repeat first | refine r_seqR ?_ | refine r_seqS ?_ | refine r_seqB ?_ | refine r_seqC ?_ | refine r_seqSB ?_ | refine r_region ?_ | refine o_run rfl rfl (by first | exact trivial | (simp only [AllP]; omega)) ?_ | refine o_nil ?_ | refine r_block ?_ | refine r_exit rfl ?_ | refine r_ret ?_ | refine r_skip ?_ | refine o_know _ _ (some true) rfl rfl rfl ?_ | refine o_know _ _ (some false) rfl rfl rfl ?_ | refine o_know _ _ (none) rfl rfl rfl ?_)
  refine o_call (likeness_ret _ _ _) rfl rfl rfl ?_
  rintro v w7 ⟨rfl, kp7⟩
  rw [hlike2]
  (repeat first | refine r_seqR ?_ | refine r_seqS ?_ | refine r_seqB ?_ | refine r_seqC ?_ | refine r_seqSB ?_ | refine r_region ?_ | refine o_run rfl rfl (by first | exact trivial | (simp only [AllP]; omega)) ?_ | refine o_nil ?_ | refine r_block ?_ | refine r_exit rfl ?_ | refine r_ret ?_ | refine r_skip ?_ | refine o_know _ _ (some true) rfl rfl rfl ?_ | refine o_know _ _ (some false) rfl rfl rfl ?_ | refine o_know _ _ (none) rfl rfl rfl ?_)
  refine ⟨_, rfl, ?_, kp1.trans (kp2.trans (kp3.trans (kp4.trans (kp5.trans (kp6.trans kp7)))))⟩
  exact congrArg Value.bool hself

/-- a call of mine as the frame asks it -/
theorem Ret.calls {P : Program} {f : FuncId} {vs : List Value} {w : World} (h : Ret P f vs w (fun v w' => v = .bool true ∧ Kp [] w w')) : Calls P f ⟨vs⟩ w (fun e w' => e = .returned (.bool true) ∧ RowKit.Below w.heap.size w w') :=
  h.2.mono fun _ _ ⟨_, he, hv, kp⟩ => ⟨by rw [he, hv], kp.below⟩
theorem tmod_rng (x m : Int) (hm : 0 < m) : -m < x.tmod m ∧ x.tmod m < m := by
  refine ⟨?_, Int.tmod_lt_of_pos x hm⟩
  have := Int.tmod_lt_of_pos (-x) hm
  rw [Int.neg_tmod] at this
  omega
theorem tmod_nn (x m : Int) (hx : 0 ≤ x) (hm : 0 < m) : 0 ≤ x.tmod m ∧ x.tmod m < m := ⟨Int.tmod_nonneg m hx, Int.tmod_lt_of_pos x hm⟩
end Go.Vc
