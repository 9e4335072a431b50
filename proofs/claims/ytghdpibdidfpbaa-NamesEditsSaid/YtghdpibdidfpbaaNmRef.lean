/- The reference of layer 6: Check, Distance, Likeness; and the program's Likeness. -/
import Derived.Test.YtghdpibdidfpbaaNm4
import Derived.Test.YtghdpibdidfpbaaNmFlt
namespace Go.Vc
open Go Go.Proofs
set_option maxRecDepth 10000
variable {w : World}

def isLetterR (c : UInt8) : Bool := (decide (97 ≤ (c.toNat : Int)) && decide ((c.toNat : Int) ≤ 122)) || (decide (65 ≤ (c.toNat : Int)) && decide ((c.toNat : Int) ≤ 90))
theorem letters_alike (c : UInt8) : isLetterR c = isLetter c := by
  have h : ∀ n : Fin 256, ((decide (97 ≤ (n.1 : Int)) && decide ((n.1 : Int) ≤ 122)) || (decide (65 ≤ (n.1 : Int)) && decide ((n.1 : Int) ≤ 90))) =
    (decide (97 ≤ ibits .or .u8 (n.1 : Int) 32) && decide (ibits .or .u8 (n.1 : Int) 32 ≤ 122)) := by decide +kernel
  exact h ⟨c.toNat, c.toNat_lt⟩
theorem rletter_ret (c : UInt8) (w : World) : Ret Try.prog 36 [.int .u8 c.toNat] w (fun v w' => v = .bool (isLetter c) ∧ w' = w) := by
  rw [← letters_alike]
  refine enter Try.call36 Try.func36 rfl rfl rfl rfl ?_
  (repeat first | refine r_seqR ?_ | refine r_seqS ?_ | refine r_seqB ?_ | refine r_seqC ?_ | refine r_seqSB ?_ | refine r_region ?_ | refine o_run rfl rfl (by first | exact trivial | (simp only [AllP]; omega)) ?_ | refine o_nil ?_ | refine r_block ?_ | refine r_exit rfl ?_ | refine r_ret ?_ | refine r_skip ?_ | refine o_know _ _ (some true) rfl rfl rfl ?_ | refine o_know _ _ (some false) rfl rfl rfl ?_ | refine o_know _ _ (none) rfl rfl rfl ?_)
  refine o_split _ _ rfl rfl rfl (fun h1 => ?_) (fun h1 => ?_)
  · (repeat first | refine r_seqR ?_ | refine r_seqS ?_ | refine r_seqB ?_ | refine r_seqC ?_ | refine r_seqSB ?_ | refine r_region ?_ | refine o_run rfl rfl (by first | exact trivial | (simp only [AllP]; omega)) ?_ | refine o_nil ?_ | refine r_block ?_ | refine r_exit rfl ?_ | refine r_ret ?_ | refine r_skip ?_ | refine o_know _ _ (some true) rfl rfl rfl ?_ | refine o_know _ _ (some false) rfl rfl rfl ?_ | refine o_know _ _ (none) rfl rfl rfl ?_)
    refine o_split _ _ rfl rfl rfl (fun h2 => ?_) (fun h2 => ?_)
    · (repeat first | refine r_seqR ?_ | refine r_seqS ?_ | refine r_seqB ?_ | refine r_seqC ?_ | refine r_seqSB ?_ | refine r_region ?_ | refine o_run rfl rfl (by first | exact trivial | (simp only [AllP]; omega)) ?_ | refine o_nil ?_ | refine r_block ?_ | refine r_exit rfl ?_ | refine r_ret ?_ | refine r_skip ?_ | refine o_know _ _ (some true) rfl rfl rfl ?_ | refine o_know _ _ (some false) rfl rfl rfl ?_ | refine o_know _ _ (none) rfl rfl rfl ?_)
      exact ⟨_, rfl, by simp only [isLetterR, h1, h2]; rfl, rfl⟩
    · (repeat first | refine r_seqR ?_ | refine r_seqS ?_ | refine r_seqB ?_ | refine r_seqC ?_ | refine r_seqSB ?_ | refine r_region ?_ | refine o_run rfl rfl (by first | exact trivial | (simp only [AllP]; omega)) ?_ | refine o_nil ?_ | refine r_block ?_ | refine r_exit rfl ?_ | refine r_ret ?_ | refine r_skip ?_ | refine o_know _ _ (some true) rfl rfl rfl ?_ | refine o_know _ _ (some false) rfl rfl rfl ?_ | refine o_know _ _ (none) rfl rfl rfl ?_)
      refine o_split _ _ rfl rfl rfl (fun h3 => ?_) (fun h3 => ?_)
      · (repeat first | refine r_seqR ?_ | refine r_seqS ?_ | refine r_seqB ?_ | refine r_seqC ?_ | refine r_seqSB ?_ | refine r_region ?_ | refine o_run rfl rfl (by first | exact trivial | (simp only [AllP]; omega)) ?_ | refine o_nil ?_ | refine r_block ?_ | refine r_exit rfl ?_ | refine r_ret ?_ | refine r_skip ?_ | refine o_know _ _ (some true) rfl rfl rfl ?_ | refine o_know _ _ (some false) rfl rfl rfl ?_ | refine o_know _ _ (none) rfl rfl rfl ?_)
        exact ⟨_, rfl, by simp only [isLetterR, h1, h2, h3]; rfl, rfl⟩
      · (repeat first | refine r_seqR ?_ | refine r_seqS ?_ | refine r_seqB ?_ | refine r_seqC ?_ | refine r_seqSB ?_ | refine r_region ?_ | refine o_run rfl rfl (by first | exact trivial | (simp only [AllP]; omega)) ?_ | refine o_nil ?_ | refine r_block ?_ | refine r_exit rfl ?_ | refine r_ret ?_ | refine r_skip ?_ | refine o_know _ _ (some true) rfl rfl rfl ?_ | refine o_know _ _ (some false) rfl rfl rfl ?_ | refine o_know _ _ (none) rfl rfl rfl ?_)
        exact ⟨_, rfl, by simp only [isLetterR, h1, h2, h3]; rfl, rfl⟩
  · (repeat first | refine r_seqR ?_ | refine r_seqS ?_ | refine r_seqB ?_ | refine r_seqC ?_ | refine r_seqSB ?_ | refine r_region ?_ | refine o_run rfl rfl (by first | exact trivial | (simp only [AllP]; omega)) ?_ | refine o_nil ?_ | refine r_block ?_ | refine r_exit rfl ?_ | refine r_ret ?_ | refine r_skip ?_ | refine o_know _ _ (some true) rfl rfl rfl ?_ | refine o_know _ _ (some false) rfl rfl rfl ?_ | refine o_know _ _ (none) rfl rfl rfl ?_)
    refine o_split _ _ rfl rfl rfl (fun h3 => ?_) (fun h3 => ?_)
    · (repeat first | refine r_seqR ?_ | refine r_seqS ?_ | refine r_seqB ?_ | refine r_seqC ?_ | refine r_seqSB ?_ | refine r_region ?_ | refine o_run rfl rfl (by first | exact trivial | (simp only [AllP]; omega)) ?_ | refine o_nil ?_ | refine r_block ?_ | refine r_exit rfl ?_ | refine r_ret ?_ | refine r_skip ?_ | refine o_know _ _ (some true) rfl rfl rfl ?_ | refine o_know _ _ (some false) rfl rfl rfl ?_ | refine o_know _ _ (none) rfl rfl rfl ?_)
      exact ⟨_, rfl, by simp only [isLetterR, h1, h3]; rfl, rfl⟩
    · (repeat first | refine r_seqR ?_ | refine r_seqS ?_ | refine r_seqB ?_ | refine r_seqC ?_ | refine r_seqSB ?_ | refine r_region ?_ | refine o_run rfl rfl (by first | exact trivial | (simp only [AllP]; omega)) ?_ | refine o_nil ?_ | refine r_block ?_ | refine r_exit rfl ?_ | refine r_ret ?_ | refine r_skip ?_ | refine o_know _ _ (some true) rfl rfl rfl ?_ | refine o_know _ _ (some false) rfl rfl rfl ?_ | refine o_know _ _ (none) rfl rfl rfl ?_)
      exact ⟨_, rfl, by simp only [isLetterR, h1, h3]; rfl, rfl⟩
theorem rcounted_ret (s : List UInt8) (w : World) : Ret Try.prog 28 [S s] w (fun v w' => v = S (s.take 256) ∧ w' = w) := by
  refine enter Try.call28 Try.func28 rfl rfl rfl rfl ?_
  (repeat first | refine r_seqR ?_ | refine r_seqS ?_ | refine r_seqB ?_ | refine r_seqC ?_ | refine r_seqSB ?_ | refine r_region ?_ | refine o_run rfl rfl (by first | exact trivial | (simp only [AllP]; omega)) ?_ | refine o_nil ?_ | refine r_block ?_ | refine r_exit rfl ?_ | refine r_ret ?_ | refine r_skip ?_ | refine o_know _ _ (some true) rfl rfl rfl ?_ | refine o_know _ _ (some false) rfl rfl rfl ?_ | refine o_know _ _ (none) rfl rfl rfl ?_)
  refine r_if rfl (fun h => ?_) (fun h => ?_)
  · (repeat first | refine r_seqR ?_ | refine r_seqS ?_ | refine r_seqB ?_ | refine r_seqC ?_ | refine r_seqSB ?_ | refine r_region ?_ | refine o_run rfl rfl (by first | exact trivial | (simp only [AllP]; omega)) ?_ | refine o_nil ?_ | refine r_block ?_ | refine r_exit rfl ?_ | refine r_ret ?_ | refine r_skip ?_ | refine o_know _ _ (some true) rfl rfl rfl ?_ | refine o_know _ _ (some false) rfl rfl rfl ?_ | refine o_know _ _ (none) rfl rfl rfl ?_)
    exact ⟨_, rfl, rfl, rfl⟩
  · (repeat first | refine r_seqR ?_ | refine r_seqS ?_ | refine r_seqB ?_ | refine r_seqC ?_ | refine r_seqSB ?_ | refine r_region ?_ | refine o_run rfl rfl (by first | exact trivial | (simp only [AllP]; omega)) ?_ | refine o_nil ?_ | refine r_block ?_ | refine r_exit rfl ?_ | refine r_ret ?_ | refine r_skip ?_ | refine o_know _ _ (some true) rfl rfl rfl ?_ | refine o_know _ _ (some false) rfl rfl rfl ?_ | refine o_know _ _ (none) rfl rfl rfl ?_)
    exact ⟨_, rfl, by rw [List.take_of_length_le]; omega, rfl⟩

theorem rname_ret (l : List UInt8) (hl : l.length ≤ 9223372036854775807) (w : World) : Ret Try.prog 27 [S l] w (fun v w' => v = .bool (nameB l) ∧ w' = w) := by
  refine enter Try.call27 Try.func27 rfl rfl rfl rfl ?_
  (repeat first | refine r_seqR ?_ | refine r_seqS ?_ | refine r_seqB ?_ | refine r_seqC ?_ | refine r_seqSB ?_ | refine r_region ?_ | refine o_run rfl rfl (by first | exact trivial | (simp only [AllP]; omega)) ?_ | refine o_nil ?_ | refine r_block ?_ | refine r_exit rfl ?_ | refine r_ret ?_ | refine r_skip ?_ | refine o_know _ _ (some true) rfl rfl rfl ?_ | refine o_know _ _ (some false) rfl rfl rfl ?_ | refine o_know _ _ (none) rfl rfl rfl ?_)
  refine o_bool [0] [S l] 17 (!(decide (l ≠ []) && decide (l.length ≤ 24) && isLetter (l.getD 0 0))) (fun w' => w' = w) ?_ ?_
  · refine o_split _ _ rfl rfl rfl (fun h => ?_) (fun h => ?_)
    · (repeat first | refine r_seqR ?_ | refine r_seqS ?_ | refine r_seqB ?_ | refine r_seqC ?_ | refine r_seqSB ?_ | refine r_region ?_ | refine o_run rfl rfl (by first | exact trivial | (simp only [AllP]; omega)) ?_ | refine o_nil ?_ | refine r_block ?_ | refine r_exit rfl ?_ | refine r_ret ?_ | refine r_skip ?_ | refine o_know _ _ (some true) rfl rfl rfl ?_ | refine o_know _ _ (some false) rfl rfl rfl ?_ | refine o_know _ _ (none) rfl rfl rfl ?_)
      have h := of_decide_eq_true h
      have : l = [] := List.length_eq_zero_iff.1 (by omega)
      exact ⟨rfl, ⟨_, rfl, by simp [this]⟩, rfl⟩
    · have hne : 0 < l.length := by have := of_decide_eq_false h; omega
      have hn2 : l ≠ [] := List.length_pos_iff.1 hne
      (repeat first | refine r_seqR ?_ | refine r_seqS ?_ | refine r_seqB ?_ | refine r_seqC ?_ | refine r_seqSB ?_ | refine r_region ?_ | refine o_run rfl rfl (by first | exact trivial | (simp only [AllP]; omega)) ?_ | refine o_nil ?_ | refine r_block ?_ | refine r_exit rfl ?_ | refine r_ret ?_ | refine r_skip ?_ | refine o_know _ _ (some true) rfl rfl rfl ?_ | refine o_know _ _ (some false) rfl rfl rfl ?_ | refine o_know _ _ (none) rfl rfl rfl ?_)
      refine o_split _ _ rfl rfl rfl (fun h2 => ?_) (fun h2 => ?_)
      · (repeat first | refine r_seqR ?_ | refine r_seqS ?_ | refine r_seqB ?_ | refine r_seqC ?_ | refine r_seqSB ?_ | refine r_region ?_ | refine o_run rfl rfl (by first | exact trivial | (simp only [AllP]; omega)) ?_ | refine o_nil ?_ | refine r_block ?_ | refine r_exit rfl ?_ | refine r_ret ?_ | refine r_skip ?_ | refine o_know _ _ (some true) rfl rfl rfl ?_ | refine o_know _ _ (some false) rfl rfl rfl ?_ | refine o_know _ _ (none) rfl rfl rfl ?_)
        have h2 := of_decide_eq_true h2
        have h3 : ¬ l.length ≤ 24 := by omega
        exact ⟨rfl, ⟨_, rfl, by simp [h3]⟩, rfl⟩
      · (repeat first | refine r_seqR ?_ | refine r_seqS ?_ | refine r_seqB ?_ | refine r_seqC ?_ | refine r_seqSB ?_ | refine r_region ?_ | refine o_run rfl rfl (by first | exact trivial | (simp only [AllP]; omega)) ?_ | refine o_nil ?_ | refine r_block ?_ | refine r_exit rfl ?_ | refine r_ret ?_ | refine r_skip ?_ | refine o_know _ _ (some true) rfl rfl rfl ?_ | refine o_know _ _ (some false) rfl rfl rfl ?_ | refine o_know _ _ (none) rfl rfl rfl ?_)
        refine o_call (rletter_ret _ _) rfl rfl rfl ?_
        rintro v w' ⟨rfl, rfl⟩
        (repeat first | refine r_seqR ?_ | refine r_seqS ?_ | refine r_seqB ?_ | refine r_seqC ?_ | refine r_seqSB ?_ | refine r_region ?_ | refine o_run rfl rfl (by first | exact trivial | (simp only [AllP]; omega)) ?_ | refine o_nil ?_ | refine r_block ?_ | refine r_exit rfl ?_ | refine r_ret ?_ | refine r_skip ?_ | refine o_know _ _ (some true) rfl rfl rfl ?_ | refine o_know _ _ (some false) rfl rfl rfl ?_ | refine o_know _ _ (none) rfl rfl rfl ?_)
        have h2 := of_decide_eq_false h2
        have h3 : l.length ≤ 24 := by omega
        exact ⟨rfl, ⟨_, rfl, by simp [hn2, h3]⟩, rfl⟩
  rintro e w' rfl
  refine r_cond rfl (fun h => ?_) (fun h => ?_)
  · (repeat first | refine r_seqR ?_ | refine r_seqS ?_ | refine r_seqB ?_ | refine r_seqC ?_ | refine r_seqSB ?_ | refine r_region ?_ | refine o_run rfl rfl (by first | exact trivial | (simp only [AllP]; omega)) ?_ | refine o_nil ?_ | refine r_block ?_ | refine r_exit rfl ?_ | refine r_ret ?_ | refine r_skip ?_ | refine o_know _ _ (some true) rfl rfl rfl ?_ | refine o_know _ _ (some false) rfl rfl rfl ?_ | refine o_know _ _ (none) rfl rfl rfl ?_)
    refine ⟨_, rfl, ?_, rfl⟩
    have : nameB l = false := by simp only [nameB]; revert h; cases (decide (l ≠ []) && decide (l.length ≤ 24) && isLetter (l.getD 0 0)) <;> simp
    rw [this]
  · have hhead : (decide (l ≠ []) && decide (l.length ≤ 24) && isLetter (l.getD 0 0)) = true := by simpa using h
    have hne : 0 < l.length := by
      have : l ≠ [] := by simp at hhead; exact hhead.1.1
      exact List.length_pos_iff.2 this
    have hok0 : okc (l.getD 0 0) = true := by
      simp only [Bool.and_eq_true] at hhead
      simp only [okc, hhead.2, Bool.true_or]
    (repeat first | refine r_seqR ?_ | refine r_seqS ?_ | refine r_seqB ?_ | refine r_seqC ?_ | refine r_seqSB ?_ | refine r_region ?_ | refine o_run rfl rfl (by first | exact trivial | (simp only [AllP]; omega)) ?_ | refine o_nil ?_ | refine r_block ?_ | refine r_exit rfl ?_ | refine r_ret ?_ | refine r_skip ?_ | refine o_know _ _ (some true) rfl rfl rfl ?_ | refine o_know _ _ (some false) rfl rfl rfl ?_ | refine o_know _ _ (none) rfl rfl rfl ?_)
    refine r_loop (α := Nat) [0, 3] (fun k => [S l, I k]) (fun k w1 => w1 = w' ∧ 1 ≤ k ∧ k ≤ l.length ∧ (l.take k).all okc = true) (fun k => l.length - k) 1 rfl ⟨rfl, by omega, by omega, ?_⟩ ?_
    · rw [List.take_succ_eq_append_getElem hne]
      simp only [List.take_zero, List.nil_append, List.all_cons, List.all_nil, Bool.and_true]
      rw [List.getD_eq_getElem?_getD, List.getElem?_eq_getElem hne] at hok0
      exact hok0
    rintro k e w' ⟨rfl, hk1, hk, ha⟩
    (repeat first | refine r_seqR ?_ | refine r_seqS ?_ | refine r_seqB ?_ | refine r_seqC ?_ | refine r_seqSB ?_ | refine r_region ?_ | refine o_run rfl rfl (by first | exact trivial | (simp only [AllP]; omega)) ?_ | refine o_nil ?_ | refine r_block ?_ | refine r_exit rfl ?_ | refine r_ret ?_ | refine r_skip ?_ | refine o_know _ _ (some true) rfl rfl rfl ?_ | refine o_know _ _ (some false) rfl rfl rfl ?_ | refine o_know _ _ (none) rfl rfl rfl ?_)
    refine r_if rfl (fun hlt => ?_) (fun hge => ?_)
    · have hlt : k < l.length := by omega
      (repeat first | refine r_seqR ?_ | refine r_seqS ?_ | refine r_seqB ?_ | refine r_seqC ?_ | refine r_seqSB ?_ | refine r_region ?_ | refine o_run rfl rfl (by first | exact trivial | (simp only [AllP]; omega)) ?_ | refine o_nil ?_ | refine r_block ?_ | refine r_exit rfl ?_ | refine r_ret ?_ | refine r_skip ?_ | refine o_know _ _ (some true) rfl rfl rfl ?_ | refine o_know _ _ (some false) rfl rfl rfl ?_ | refine o_know _ _ (none) rfl rfl rfl ?_)
      refine o_bool [0, 3] [S l, I k] 46 (!okc (l.getD k 0)) (fun w1 => w1 = w') ?_ ?_
      · refine o_call (rletter_ret _ _) rfl rfl rfl ?_
        rintro v w1 ⟨rfl, rfl⟩
        (repeat first | refine r_seqR ?_ | refine r_seqS ?_ | refine r_seqB ?_ | refine r_seqC ?_ | refine r_seqSB ?_ | refine r_region ?_ | refine o_run rfl rfl (by first | exact trivial | (simp only [AllP]; omega)) ?_ | refine o_nil ?_ | refine r_block ?_ | refine r_exit rfl ?_ | refine r_ret ?_ | refine r_skip ?_ | refine o_know _ _ (some true) rfl rfl rfl ?_ | refine o_know _ _ (some false) rfl rfl rfl ?_ | refine o_know _ _ (none) rfl rfl rfl ?_)
        refine o_split _ _ rfl rfl rfl (fun h1 => ?_) (fun h1 => ?_)
        · (repeat first | refine r_seqR ?_ | refine r_seqS ?_ | refine r_seqB ?_ | refine r_seqC ?_ | refine r_seqSB ?_ | refine r_region ?_ | refine o_run rfl rfl (by first | exact trivial | (simp only [AllP]; omega)) ?_ | refine o_nil ?_ | refine r_block ?_ | refine r_exit rfl ?_ | refine r_ret ?_ | refine r_skip ?_ | refine o_know _ _ (some true) rfl rfl rfl ?_ | refine o_know _ _ (some false) rfl rfl rfl ?_ | refine o_know _ _ (none) rfl rfl rfl ?_)
          refine o_split _ _ rfl rfl rfl (fun h2 => ?_) (fun h2 => ?_)
          · (repeat first | refine r_seqR ?_ | refine r_seqS ?_ | refine r_seqB ?_ | refine r_seqC ?_ | refine r_seqSB ?_ | refine r_region ?_ | refine o_run rfl rfl (by first | exact trivial | (simp only [AllP]; omega)) ?_ | refine o_nil ?_ | refine r_block ?_ | refine r_exit rfl ?_ | refine r_ret ?_ | refine r_skip ?_ | refine o_know _ _ (some true) rfl rfl rfl ?_ | refine o_know _ _ (some false) rfl rfl rfl ?_ | refine o_know _ _ (none) rfl rfl rfl ?_)
            refine o_split _ _ rfl rfl rfl (fun h3 => ?_) (fun h3 => ?_)
            · (repeat first | refine r_seqR ?_ | refine r_seqS ?_ | refine r_seqB ?_ | refine r_seqC ?_ | refine r_seqSB ?_ | refine r_region ?_ | refine o_run rfl rfl (by first | exact trivial | (simp only [AllP]; omega)) ?_ | refine o_nil ?_ | refine r_block ?_ | refine r_exit rfl ?_ | refine r_ret ?_ | refine r_skip ?_ | refine o_know _ _ (some true) rfl rfl rfl ?_ | refine o_know _ _ (some false) rfl rfl rfl ?_ | refine o_know _ _ (none) rfl rfl rfl ?_)
              exact ⟨rfl, ⟨_, rfl, by simp at h1 h2 h3; simp [okc, h1, h2, h3]⟩, rfl⟩
            · (repeat first | refine r_seqR ?_ | refine r_seqS ?_ | refine r_seqB ?_ | refine r_seqC ?_ | refine r_seqSB ?_ | refine r_region ?_ | refine o_run rfl rfl (by first | exact trivial | (simp only [AllP]; omega)) ?_ | refine o_nil ?_ | refine r_block ?_ | refine r_exit rfl ?_ | refine r_ret ?_ | refine r_skip ?_ | refine o_know _ _ (some true) rfl rfl rfl ?_ | refine o_know _ _ (some false) rfl rfl rfl ?_ | refine o_know _ _ (none) rfl rfl rfl ?_)
              exact ⟨rfl, ⟨_, rfl, by simp at h1 h2 h3; simp [okc, h1, h2, h3]; rw [Bool.eq_iff_iff]; simp⟩, rfl⟩
          · (repeat first | refine r_seqR ?_ | refine r_seqS ?_ | refine r_seqB ?_ | refine r_seqC ?_ | refine r_seqSB ?_ | refine r_region ?_ | refine o_run rfl rfl (by first | exact trivial | (simp only [AllP]; omega)) ?_ | refine o_nil ?_ | refine r_block ?_ | refine r_exit rfl ?_ | refine r_ret ?_ | refine r_skip ?_ | refine o_know _ _ (some true) rfl rfl rfl ?_ | refine o_know _ _ (some false) rfl rfl rfl ?_ | refine o_know _ _ (none) rfl rfl rfl ?_)
            exact ⟨rfl, ⟨_, rfl, by simp at h1 h2; simp [okc, h2]⟩, rfl⟩
        · (repeat first | refine r_seqR ?_ | refine r_seqS ?_ | refine r_seqB ?_ | refine r_seqC ?_ | refine r_seqSB ?_ | refine r_region ?_ | refine o_run rfl rfl (by first | exact trivial | (simp only [AllP]; omega)) ?_ | refine o_nil ?_ | refine r_block ?_ | refine r_exit rfl ?_ | refine r_ret ?_ | refine r_skip ?_ | refine o_know _ _ (some true) rfl rfl rfl ?_ | refine o_know _ _ (some false) rfl rfl rfl ?_ | refine o_know _ _ (none) rfl rfl rfl ?_)
          exact ⟨rfl, ⟨_, rfl, by simp at h1; simp [okc, h1]⟩, rfl⟩
      · rintro e w1 rfl
        refine r_cond rfl (fun h => ?_) (fun h => ?_)
        · (repeat first | refine r_seqR ?_ | refine r_seqS ?_ | refine r_seqB ?_ | refine r_seqC ?_ | refine r_seqSB ?_ | refine r_region ?_ | refine o_run rfl rfl (by first | exact trivial | (simp only [AllP]; omega)) ?_ | refine o_nil ?_ | refine r_block ?_ | refine r_exit rfl ?_ | refine r_ret ?_ | refine r_skip ?_ | refine o_know _ _ (some true) rfl rfl rfl ?_ | refine o_know _ _ (some false) rfl rfl rfl ?_ | refine o_know _ _ (none) rfl rfl rfl ?_)
          refine ⟨_, rfl, ?_, rfl⟩
          have : nameB l = false := by
            simp only [nameB, Bool.and_eq_false_iff]
            refine .inr ?_
            rw [List.all_eq_false]
            exact ⟨l.getD k 0, by rw [List.getD_eq_getElem?_getD, List.getElem?_eq_getElem hlt]; simp, by simpa using h⟩
          rw [this]
        · (repeat first | refine r_seqR ?_ | refine r_seqS ?_ | refine r_seqB ?_ | refine r_seqC ?_ | refine r_seqSB ?_ | refine r_region ?_ | refine o_run rfl rfl (by first | exact trivial | (simp only [AllP]; omega)) ?_ | refine o_nil ?_ | refine r_block ?_ | refine r_exit rfl ?_ | refine r_ret ?_ | refine r_skip ?_ | refine o_know _ _ (some true) rfl rfl rfl ?_ | refine o_know _ _ (some false) rfl rfl rfl ?_ | refine o_know _ _ (none) rfl rfl rfl ?_)
          refine ⟨k + 1, rfl, ⟨rfl, by omega, hlt, ?_⟩, by omega⟩
          rw [List.take_succ_eq_append_getElem hlt, List.all_append, ha]
          rw [List.getD_eq_getElem?_getD, List.getElem?_eq_getElem hlt] at h
          simpa using h
    · (repeat first | refine r_seqR ?_ | refine r_seqS ?_ | refine r_seqB ?_ | refine r_seqC ?_ | refine r_seqSB ?_ | refine r_region ?_ | refine o_run rfl rfl (by first | exact trivial | (simp only [AllP]; omega)) ?_ | refine o_nil ?_ | refine r_block ?_ | refine r_exit rfl ?_ | refine r_ret ?_ | refine r_skip ?_ | refine o_know _ _ (some true) rfl rfl rfl ?_ | refine o_know _ _ (some false) rfl rfl rfl ?_ | refine o_know _ _ (none) rfl rfl rfl ?_)
      refine ⟨_, rfl, ?_, rfl⟩
      have hk : k = l.length := by omega
      subst hk
      rw [List.take_length] at ha
      have : nameB l = true := by simp only [nameB, ha, hhead]; rfl
      rw [this]

theorem rcheck_ret (l : List UInt8) (hl : l.length ≤ 9223372036854775807) (w : World) : Ret Try.prog 13 [S l] w (fun v w' => v = I (checkI l) ∧ w' = w) := by
  refine enter Try.call13 Try.func13 rfl rfl rfl rfl ?_
  (repeat first | refine r_seqR ?_ | refine r_seqS ?_ | refine r_seqB ?_ | refine r_seqC ?_ | refine r_seqSB ?_ | refine r_region ?_ | refine o_run rfl rfl (by first | exact trivial | (simp only [AllP]; omega)) ?_ | refine o_nil ?_ | refine r_block ?_ | refine r_exit rfl ?_ | refine r_ret ?_ | refine r_skip ?_ | refine o_know _ _ (some true) rfl rfl rfl ?_ | refine o_know _ _ (some false) rfl rfl rfl ?_ | refine o_know _ _ (none) rfl rfl rfl ?_)
  refine o_call (rname_ret l hl _) rfl rfl rfl ?_
  rintro v w' ⟨rfl, rfl⟩
  (repeat first | refine r_seqR ?_ | refine r_seqS ?_ | refine r_seqB ?_ | refine r_seqC ?_ | refine r_seqSB ?_ | refine r_region ?_ | refine o_run rfl rfl (by first | exact trivial | (simp only [AllP]; omega)) ?_ | refine o_nil ?_ | refine r_block ?_ | refine r_exit rfl ?_ | refine r_ret ?_ | refine r_skip ?_ | refine o_know _ _ (some true) rfl rfl rfl ?_ | refine o_know _ _ (some false) rfl rfl rfl ?_ | refine o_know _ _ (none) rfl rfl rfl ?_)
  refine r_cond rfl (fun h => ?_) (fun h => ?_)
  · (repeat first | refine r_seqR ?_ | refine r_seqS ?_ | refine r_seqB ?_ | refine r_seqC ?_ | refine r_seqSB ?_ | refine r_region ?_ | refine o_run rfl rfl (by first | exact trivial | (simp only [AllP]; omega)) ?_ | refine o_nil ?_ | refine r_block ?_ | refine r_exit rfl ?_ | refine r_ret ?_ | refine r_skip ?_ | refine o_know _ _ (some true) rfl rfl rfl ?_ | refine o_know _ _ (some false) rfl rfl rfl ?_ | refine o_know _ _ (none) rfl rfl rfl ?_)
    exact ⟨_, rfl, by simp at h; simp [checkI, h], rfl⟩
  · (repeat first | refine r_seqR ?_ | refine r_seqS ?_ | refine r_seqB ?_ | refine r_seqC ?_ | refine r_seqSB ?_ | refine r_region ?_ | refine o_run rfl rfl (by first | exact trivial | (simp only [AllP]; omega)) ?_ | refine o_nil ?_ | refine r_block ?_ | refine r_exit rfl ?_ | refine r_ret ?_ | refine r_skip ?_ | refine o_know _ _ (some true) rfl rfl rfl ?_ | refine o_know _ _ (some false) rfl rfl rfl ?_ | refine o_know _ _ (none) rfl rfl rfl ?_)
    exact ⟨_, rfl, by simp at h; simp [checkI, h], rfl⟩

theorem fquo_cond (d n : Nat) (hd : d ≤ 256) (hn : n ≤ 256) (h0 : n ≠ 0) : (FloatKind.f64.format.div (FloatKind.f64.nearest d) (FloatKind.f64.nearest n)).isSome = true ∧ (FloatKind.f64.format.sub 4607182418800017408 (fquo d n)).isSome = true := by
  obtain ⟨r, h1, h2⟩ := div_some d n hd hn h0
  obtain ⟨x, h3, _⟩ := sub_some r h2
  have : fquo d n = r := by simp [fquo, h1]
  rw [this, h1, h3]
  exact ⟨rfl, rfl⟩
theorem likeness_ret (s t : List UInt8) (w : World) : Ret Try.prog 15 [S s, S t] w (fun v w' => v = .float .f64 (like s t) ∧ Kp [] w w') := by
  refine enter Try.call15 Try.func15 rfl rfl rfl rfl ?_
  (repeat first | refine r_seqR ?_ | refine r_seqS ?_ | refine r_seqB ?_ | refine r_seqC ?_ | refine r_seqSB ?_ | refine r_region ?_ | refine o_run rfl rfl (by first | exact trivial | (simp only [AllP]; omega)) ?_ | refine o_nil ?_ | refine r_block ?_ | refine r_exit rfl ?_ | refine r_ret ?_ | refine r_skip ?_ | refine o_know _ _ (some true) rfl rfl rfl ?_ | refine o_know _ _ (some false) rfl rfl rfl ?_ | refine o_know _ _ (none) rfl rfl rfl ?_)
  refine o_call (counted_ret _ _) rfl rfl rfl ?_
  rintro v w' ⟨rfl, rfl⟩
  (repeat first | refine r_seqR ?_ | refine r_seqS ?_ | refine r_seqB ?_ | refine r_seqC ?_ | refine r_seqSB ?_ | refine r_region ?_ | refine o_run rfl rfl (by first | exact trivial | (simp only [AllP]; omega)) ?_ | refine o_nil ?_ | refine r_block ?_ | refine r_exit rfl ?_ | refine r_ret ?_ | refine r_skip ?_ | refine o_know _ _ (some true) rfl rfl rfl ?_ | refine o_know _ _ (some false) rfl rfl rfl ?_ | refine o_know _ _ (none) rfl rfl rfl ?_)
  refine o_call (counted_ret _ _) rfl rfl rfl ?_
  rintro v w0 ⟨rfl, rfl⟩
  have ha : (s.take 256).length ≤ 256 := List.length_take_le _ _
  have hb : (t.take 256).length ≤ 256 := List.length_take_le _ _
  have hl : like s t = likeF (dist s t) (max (s.take 256).length (t.take 256).length) := rfl
  have hd := dist_le' s t
  have hm : (max ((s.take 256).length : Int) ((t.take 256).length : Int)) = ((max (s.take 256).length (t.take 256).length : Nat) : Int) := by omega
  (repeat first | refine o_run rfl rfl (by first | exact trivial | (simp only [AllP]; omega)) ?_ | refine o_nil ?_ | refine o_know _ _ (some true) rfl rfl rfl ?_ | refine o_know _ _ (some false) rfl rfl rfl ?_ | refine o_know _ _ (none) rfl rfl rfl ?_)
  rw [hm]
  generalize hn : max (s.take 256).length (t.take 256).length = n at *
  have hn256 : n ≤ 256 := by omega
  (repeat first | refine r_seqR ?_ | refine r_seqS ?_ | refine r_seqB ?_ | refine r_seqC ?_ | refine r_seqSB ?_ | refine r_region ?_ | refine o_run rfl rfl (by first | exact trivial | (simp only [AllP]; omega)) ?_ | refine o_nil ?_ | refine r_block ?_ | refine r_exit rfl ?_ | refine r_ret ?_ | refine r_skip ?_ | refine o_know _ _ (some true) rfl rfl rfl ?_ | refine o_know _ _ (some false) rfl rfl rfl ?_ | refine o_know _ _ (none) rfl rfl rfl ?_)
  refine r_if rfl (fun h0 => ?_) (fun h0 => ?_)
  · (repeat first | refine r_seqR ?_ | refine r_seqS ?_ | refine r_seqB ?_ | refine r_seqC ?_ | refine r_seqSB ?_ | refine r_region ?_ | refine o_run rfl rfl (by first | exact trivial | (simp only [AllP]; omega)) ?_ | refine o_nil ?_ | refine r_block ?_ | refine r_exit rfl ?_ | refine r_ret ?_ | refine r_skip ?_ | refine o_know _ _ (some true) rfl rfl rfl ?_ | refine o_know _ _ (some false) rfl rfl rfl ?_ | refine o_know _ _ (none) rfl rfl rfl ?_)
    refine ⟨_, rfl, ?_, Kp.refl _ _⟩
    have : n = 0 := by omega
    rw [hl, likeF, if_pos this]
  · have h0 : n ≠ 0 := by omega
    have hc := fquo_cond (dist s t) n hd hn256 h0
    (repeat first | refine r_seqR ?_ | refine r_seqS ?_ | refine r_seqB ?_ | refine r_seqC ?_ | refine r_seqSB ?_ | refine r_region ?_ | refine o_run rfl rfl (by first | exact trivial | (simp only [AllP]; omega)) ?_ | refine o_nil ?_ | refine r_block ?_ | refine r_exit rfl ?_ | refine r_ret ?_ | refine r_skip ?_ | refine o_know _ _ (some true) rfl rfl rfl ?_ | refine o_know _ _ (some false) rfl rfl rfl ?_ | refine o_know _ _ (none) rfl rfl rfl ?_)
    refine o_call (distance_ret _ _ _) rfl rfl rfl ?_
    rintro v w1 ⟨rfl, kp⟩
    refine o_run rfl rfl hc.1 ?_
    refine o_nil ?_
    refine r_seqR ?_
    refine r_region ?_
    refine o_run rfl rfl hc.2 ?_
    (repeat first | refine r_seqR ?_ | refine r_seqS ?_ | refine r_seqB ?_ | refine r_seqC ?_ | refine r_seqSB ?_ | refine r_region ?_ | refine o_run rfl rfl (by first | exact trivial | (simp only [AllP]; omega)) ?_ | refine o_nil ?_ | refine r_block ?_ | refine r_exit rfl ?_ | refine r_ret ?_ | refine r_skip ?_ | refine o_know _ _ (some true) rfl rfl rfl ?_ | refine o_know _ _ (some false) rfl rfl rfl ?_ | refine o_know _ _ (none) rfl rfl rfl ?_)
    refine ⟨_, rfl, ?_, kp⟩
    rw [hl, likeF, if_neg h0]
    rfl
end Go.Vc
