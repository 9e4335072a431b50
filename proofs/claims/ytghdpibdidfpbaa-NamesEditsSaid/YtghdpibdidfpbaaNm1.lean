/- The small functions of names. -/
import Derived.Test.YtghdpibdidfpbaaVcMem
import Derived.Test.YtghdpibdidfpbaaProg
namespace Go.Vc
open Go Go.Proofs
set_option maxRecDepth 10000
theorem num_ret (n : Int) (w : World) : Ret Try.prog 11 [I n] w (fun v w' => v = I n ∧ w' = w) := by
  refine enter Try.call11 Try.func11 rfl rfl rfl rfl ?_
  (repeat first | refine r_seqR ?_ | refine r_seqS ?_ | refine r_seqB ?_ | refine r_seqC ?_ | refine r_seqSB ?_ | refine r_region ?_ | refine o_run rfl rfl (by first | exact trivial | (simp only [AllP]; omega)) ?_ | refine o_nil ?_ | refine r_block ?_ | refine r_exit rfl ?_ | refine r_ret ?_ | refine r_skip ?_ | refine o_know _ _ (some true) rfl rfl rfl ?_ | refine o_know _ _ (some false) rfl rfl rfl ?_ | refine o_know _ _ (none) rfl rfl rfl ?_)
  exact ⟨_, rfl, rfl, rfl⟩

def isLetter (c : UInt8) : Bool := decide (97 ≤ ibits .or .u8 (c.toNat : Int) 32) && decide (ibits .or .u8 (c.toNat : Int) 32 ≤ 122)
theorem letter_ret (c : UInt8) (w : World) : Ret Try.prog 26 [.int .u8 c.toNat] w (fun v w' => v = .bool (isLetter c) ∧ w' = w) := by
  refine enter Try.call26 Try.func26 rfl rfl rfl rfl ?_
  (repeat first | refine r_seqR ?_ | refine r_seqS ?_ | refine r_seqB ?_ | refine r_seqC ?_ | refine r_seqSB ?_ | refine r_region ?_ | refine o_run rfl rfl (by first | exact trivial | (simp only [AllP]; omega)) ?_ | refine o_nil ?_ | refine r_block ?_ | refine r_exit rfl ?_ | refine r_ret ?_ | refine r_skip ?_ | refine o_know _ _ (some true) rfl rfl rfl ?_ | refine o_know _ _ (some false) rfl rfl rfl ?_ | refine o_know _ _ (none) rfl rfl rfl ?_)
  refine o_split _ _ rfl rfl rfl (fun h => ?_) (fun h => ?_)
  · (repeat first | refine r_seqR ?_ | refine r_seqS ?_ | refine r_seqB ?_ | refine r_seqC ?_ | refine r_seqSB ?_ | refine r_region ?_ | refine o_run rfl rfl (by first | exact trivial | (simp only [AllP]; omega)) ?_ | refine o_nil ?_ | refine r_block ?_ | refine r_exit rfl ?_ | refine r_ret ?_ | refine r_skip ?_ | refine o_know _ _ (some true) rfl rfl rfl ?_ | refine o_know _ _ (some false) rfl rfl rfl ?_ | refine o_know _ _ (none) rfl rfl rfl ?_)
    exact ⟨_, rfl, by simp only [isLetter, h]; rfl, rfl⟩
  · (repeat first | refine r_seqR ?_ | refine r_seqS ?_ | refine r_seqB ?_ | refine r_seqC ?_ | refine r_seqSB ?_ | refine r_region ?_ | refine o_run rfl rfl (by first | exact trivial | (simp only [AllP]; omega)) ?_ | refine o_nil ?_ | refine r_block ?_ | refine r_exit rfl ?_ | refine r_ret ?_ | refine r_skip ?_ | refine o_know _ _ (some true) rfl rfl rfl ?_ | refine o_know _ _ (some false) rfl rfl rfl ?_ | refine o_know _ _ (none) rfl rfl rfl ?_)
    exact ⟨_, rfl, by simp only [isLetter, h]; rfl, rfl⟩
theorem counted_ret (s : List UInt8) (w : World) : Ret Try.prog 24 [S s] w (fun v w' => v = S (s.take 256) ∧ w' = w) := by
  refine enter Try.call24 Try.func24 rfl rfl rfl rfl ?_
  (repeat first | refine r_seqR ?_ | refine r_seqS ?_ | refine r_seqB ?_ | refine r_seqC ?_ | refine r_seqSB ?_ | refine r_region ?_ | refine o_run rfl rfl (by first | exact trivial | (simp only [AllP]; omega)) ?_ | refine o_nil ?_ | refine r_block ?_ | refine r_exit rfl ?_ | refine r_ret ?_ | refine r_skip ?_ | refine o_know _ _ (some true) rfl rfl rfl ?_ | refine o_know _ _ (some false) rfl rfl rfl ?_ | refine o_know _ _ (none) rfl rfl rfl ?_)
  exact ⟨_, rfl, by congr 3; rw [List.take_eq_take_iff]; omega, rfl⟩

def okc (c : UInt8) : Bool := isLetter c || decide ((c.toNat : Int) = 95) || (decide (48 ≤ (c.toNat : Int)) && decide ((c.toNat : Int) ≤ 57))
def nameB (l : List UInt8) : Bool := decide (l ≠ []) && decide (l.length ≤ 24) && isLetter (l.getD 0 0) && l.all okc
def checkI (l : List UInt8) : Int := if nameB l then 0 else 60
theorem check_ret (l : List UInt8) (hl : l.length ≤ 9223372036854775807) (w : World) : Ret Try.prog 12 [S l] w (fun v w' => v = I (checkI l) ∧ w' = w) := by
  refine enter Try.call12 Try.func12 rfl rfl rfl rfl ?_
  (repeat first | refine r_seqR ?_ | refine r_seqS ?_ | refine r_seqB ?_ | refine r_seqC ?_ | refine r_seqSB ?_ | refine r_region ?_ | refine o_run rfl rfl (by first | exact trivial | (simp only [AllP]; omega)) ?_ | refine o_nil ?_ | refine r_block ?_ | refine r_exit rfl ?_ | refine r_ret ?_ | refine r_skip ?_ | refine o_know _ _ (some true) rfl rfl rfl ?_ | refine o_know _ _ (some false) rfl rfl rfl ?_ | refine o_know _ _ (none) rfl rfl rfl ?_)
  refine o_bool [0] [S l] 17 (!(decide (l ≠ []) && decide (l.length ≤ 24) && isLetter (l.getD 0 0))) (fun w' => w' = w) ?_ ?_
  · refine o_split _ _ rfl rfl rfl (fun h => ?_) (fun h => ?_)
    · (repeat first | refine r_seqR ?_ | refine r_seqS ?_ | refine r_seqB ?_ | refine r_seqC ?_ | refine r_seqSB ?_ | refine r_region ?_ | refine o_run rfl rfl (by first | exact trivial | (simp only [AllP]; omega)) ?_ | refine o_nil ?_ | refine r_block ?_ | refine r_exit rfl ?_ | refine r_ret ?_ | refine r_skip ?_ | refine o_know _ _ (some true) rfl rfl rfl ?_ | refine o_know _ _ (some false) rfl rfl rfl ?_ | refine o_know _ _ (none) rfl rfl rfl ?_)
      exact ⟨rfl, ⟨_, rfl, by simp_all⟩, rfl⟩
    · (repeat first | refine r_seqR ?_ | refine r_seqS ?_ | refine r_seqB ?_ | refine r_seqC ?_ | refine r_seqSB ?_ | refine r_region ?_ | refine o_run rfl rfl (by first | exact trivial | (simp only [AllP]; omega)) ?_ | refine o_nil ?_ | refine r_block ?_ | refine r_exit rfl ?_ | refine r_ret ?_ | refine r_skip ?_ | refine o_know _ _ (some true) rfl rfl rfl ?_ | refine o_know _ _ (some false) rfl rfl rfl ?_ | refine o_know _ _ (none) rfl rfl rfl ?_)
      refine o_split _ _ rfl rfl rfl (fun h2 => ?_) (fun h2 => ?_)
      · (repeat first | refine r_seqR ?_ | refine r_seqS ?_ | refine r_seqB ?_ | refine r_seqC ?_ | refine r_seqSB ?_ | refine r_region ?_ | refine o_run rfl rfl (by first | exact trivial | (simp only [AllP]; omega)) ?_ | refine o_nil ?_ | refine r_block ?_ | refine r_exit rfl ?_ | refine r_ret ?_ | refine r_skip ?_ | refine o_know _ _ (some true) rfl rfl rfl ?_ | refine o_know _ _ (some false) rfl rfl rfl ?_ | refine o_know _ _ (none) rfl rfl rfl ?_)
        have h2 := of_decide_eq_true h2
        have h3 : ¬ l.length ≤ 24 := by omega
        exact ⟨rfl, ⟨_, rfl, by simp [h3]⟩, rfl⟩
      · have hne : l ≠ [] := by simpa using h
        have hlp := List.length_pos_iff.2 hne
        (repeat first | refine r_seqR ?_ | refine r_seqS ?_ | refine r_seqB ?_ | refine r_seqC ?_ | refine r_seqSB ?_ | refine r_region ?_ | refine o_run rfl rfl (by first | exact trivial | (simp only [AllP]; omega)) ?_ | refine o_nil ?_ | refine r_block ?_ | refine r_exit rfl ?_ | refine r_ret ?_ | refine r_skip ?_ | refine o_know _ _ (some true) rfl rfl rfl ?_ | refine o_know _ _ (some false) rfl rfl rfl ?_ | refine o_know _ _ (none) rfl rfl rfl ?_)
        refine o_call (letter_ret _ _) rfl rfl rfl ?_
        rintro v w' ⟨rfl, rfl⟩
        (repeat first | refine r_seqR ?_ | refine r_seqS ?_ | refine r_seqB ?_ | refine r_seqC ?_ | refine r_seqSB ?_ | refine r_region ?_ | refine o_run rfl rfl (by first | exact trivial | (simp only [AllP]; omega)) ?_ | refine o_nil ?_ | refine r_block ?_ | refine r_exit rfl ?_ | refine r_ret ?_ | refine r_skip ?_ | refine o_know _ _ (some true) rfl rfl rfl ?_ | refine o_know _ _ (some false) rfl rfl rfl ?_ | refine o_know _ _ (none) rfl rfl rfl ?_)
        have h2 := of_decide_eq_false h2
        have h3 : l.length ≤ 24 := by omega
        exact ⟨rfl, ⟨_, rfl, by simp [hne, h3]⟩, rfl⟩
  rintro e w' rfl
  refine r_cond rfl (fun h => ?_) (fun h => ?_)
  · (repeat first | refine r_seqR ?_ | refine r_seqS ?_ | refine r_seqB ?_ | refine r_seqC ?_ | refine r_seqSB ?_ | refine r_region ?_ | refine o_run rfl rfl (by first | exact trivial | (simp only [AllP]; omega)) ?_ | refine o_nil ?_ | refine r_block ?_ | refine r_exit rfl ?_ | refine r_ret ?_ | refine r_skip ?_ | refine o_know _ _ (some true) rfl rfl rfl ?_ | refine o_know _ _ (some false) rfl rfl rfl ?_ | refine o_know _ _ (none) rfl rfl rfl ?_)
    refine ⟨_, rfl, ?_, rfl⟩
    have : nameB l = false := by simp only [nameB]; revert h; cases (decide (l ≠ []) && decide (l.length ≤ 24) && isLetter (l.getD 0 0)) <;> simp
    simp [checkI, this]
  · (repeat first | refine r_seqR ?_ | refine r_seqS ?_ | refine r_seqB ?_ | refine r_seqC ?_ | refine r_seqSB ?_ | refine r_region ?_ | refine o_run rfl rfl (by first | exact trivial | (simp only [AllP]; omega)) ?_ | refine o_nil ?_ | refine r_block ?_ | refine r_exit rfl ?_ | refine r_ret ?_ | refine r_skip ?_ | refine o_know _ _ (some true) rfl rfl rfl ?_ | refine o_know _ _ (some false) rfl rfl rfl ?_ | refine o_know _ _ (none) rfl rfl rfl ?_)
    refine r_loop (α := Nat) [0, 19, 20] (fun k => [S l, I l.length, I k]) (fun k w1 => w1 = w' ∧ k ≤ l.length ∧ (l.take k).all okc = true) (fun k => l.length - k) 0 rfl ⟨rfl, by omega, rfl⟩ ?_
    rintro k e w' ⟨rfl, hk, ha⟩
    (repeat first | refine r_seqR ?_ | refine r_seqS ?_ | refine r_seqB ?_ | refine r_seqC ?_ | refine r_seqSB ?_ | refine r_region ?_ | refine o_run rfl rfl (by first | exact trivial | (simp only [AllP]; omega)) ?_ | refine o_nil ?_ | refine r_block ?_ | refine r_exit rfl ?_ | refine r_ret ?_ | refine r_skip ?_ | refine o_know _ _ (some true) rfl rfl rfl ?_ | refine o_know _ _ (some false) rfl rfl rfl ?_ | refine o_know _ _ (none) rfl rfl rfl ?_)
    refine r_if rfl (fun hlt => ?_) (fun hge => ?_)
    · have hlt : k < l.length := by omega
      (repeat first | refine r_seqR ?_ | refine r_seqS ?_ | refine r_seqB ?_ | refine r_seqC ?_ | refine r_seqSB ?_ | refine r_region ?_ | refine o_run rfl rfl (by first | exact trivial | (simp only [AllP]; omega)) ?_ | refine o_nil ?_ | refine r_block ?_ | refine r_exit rfl ?_ | refine r_ret ?_ | refine r_skip ?_ | refine o_know _ _ (some true) rfl rfl rfl ?_ | refine o_know _ _ (some false) rfl rfl rfl ?_ | refine o_know _ _ (none) rfl rfl rfl ?_)
      refine o_bool [0, 19, 20] [S l, I l.length, I k] 40 (!okc (l.getD k 0)) (fun w1 => w1 = w') ?_ ?_
      · refine o_call (letter_ret _ _) rfl rfl rfl ?_
        rintro v w1 ⟨rfl, rfl⟩
        (repeat first | refine r_seqR ?_ | refine r_seqS ?_ | refine r_seqB ?_ | refine r_seqC ?_ | refine r_seqSB ?_ | refine r_region ?_ | refine o_run rfl rfl (by first | exact trivial | (simp only [AllP]; omega)) ?_ | refine o_nil ?_ | refine r_block ?_ | refine r_exit rfl ?_ | refine r_ret ?_ | refine r_skip ?_ | refine o_know _ _ (some true) rfl rfl rfl ?_ | refine o_know _ _ (some false) rfl rfl rfl ?_ | refine o_know _ _ (none) rfl rfl rfl ?_)
        refine o_split _ _ rfl rfl rfl (fun h1 => ?_) (fun h1 => ?_)
        · (repeat first | refine r_seqR ?_ | refine r_seqS ?_ | refine r_seqB ?_ | refine r_seqC ?_ | refine r_seqSB ?_ | refine r_region ?_ | refine o_run rfl rfl (by first | exact trivial | (simp only [AllP]; omega)) ?_ | refine o_nil ?_ | refine r_block ?_ | refine r_exit rfl ?_ | refine r_ret ?_ | refine r_skip ?_ | refine o_know _ _ (some true) rfl rfl rfl ?_ | refine o_know _ _ (some false) rfl rfl rfl ?_ | refine o_know _ _ (none) rfl rfl rfl ?_)
          refine o_split _ _ rfl rfl rfl (fun h2 => ?_) (fun h2 => ?_)
          · (repeat first | refine r_seqR ?_ | refine r_seqS ?_ | refine r_seqB ?_ | refine r_seqC ?_ | refine r_seqSB ?_ | refine r_region ?_ | refine o_run rfl rfl (by first | exact trivial | (simp only [AllP]; omega)) ?_ | refine o_nil ?_ | refine r_block ?_ | refine r_exit rfl ?_ | refine r_ret ?_ | refine r_skip ?_ | refine o_know _ _ (some true) rfl rfl rfl ?_ | refine o_know _ _ (some false) rfl rfl rfl ?_ | refine o_know _ _ (none) rfl rfl rfl ?_)
            refine o_split _ _ rfl rfl rfl (fun h3 => ?_) (fun h3 => ?_)
            · (repeat first | refine r_seqR ?_ | refine r_seqS ?_ | refine r_seqB ?_ | refine r_seqC ?_ | refine r_seqSB ?_ | refine r_region ?_ | refine o_run rfl rfl (by first | exact trivial | (simp only [AllP]; omega)) ?_ | refine o_nil ?_ | refine r_block ?_ | refine r_exit rfl ?_ | refine r_ret ?_ | refine r_skip ?_ | refine o_know _ _ (some true) rfl rfl rfl ?_ | refine o_know _ _ (some false) rfl rfl rfl ?_ | refine o_know _ _ (none) rfl rfl rfl ?_)
              exact ⟨rfl, ⟨_, rfl, by simp at h1 h2 h3; simp [okc, h1, h2, h3]⟩, rfl⟩
            · (repeat first | refine r_seqR ?_ | refine r_seqS ?_ | refine r_seqB ?_ | refine r_seqC ?_ | refine r_seqSB ?_ | refine r_region ?_ | refine o_run rfl rfl (by first | exact trivial | (simp only [AllP]; omega)) ?_ | refine o_nil ?_ | refine r_block ?_ | refine r_exit rfl ?_ | refine r_ret ?_ | refine r_skip ?_ | refine o_know _ _ (some true) rfl rfl rfl ?_ | refine o_know _ _ (some false) rfl rfl rfl ?_ | refine o_know _ _ (none) rfl rfl rfl ?_)
              exact ⟨rfl, ⟨_, rfl, by simp at h1 h2 h3; simp [okc, h1, h2, h3]; rw [Bool.eq_iff_iff]; simp⟩, rfl⟩
          · (repeat first | refine r_seqR ?_ | refine r_seqS ?_ | refine r_seqB ?_ | refine r_seqC ?_ | refine r_seqSB ?_ | refine r_region ?_ | refine o_run rfl rfl (by first | exact trivial | (simp only [AllP]; omega)) ?_ | refine o_nil ?_ | refine r_block ?_ | refine r_exit rfl ?_ | refine r_ret ?_ | refine r_skip ?_ | refine o_know _ _ (some true) rfl rfl rfl ?_ | refine o_know _ _ (some false) rfl rfl rfl ?_ | refine o_know _ _ (none) rfl rfl rfl ?_)
            exact ⟨rfl, ⟨_, rfl, by simp at h1 h2; simp [okc, h2]⟩, rfl⟩
        · (repeat first | refine r_seqR ?_ | refine r_seqS ?_ | refine r_seqB ?_ | refine r_seqC ?_ | refine r_seqSB ?_ | refine r_region ?_ | refine o_run rfl rfl (by first | exact trivial | (simp only [AllP]; omega)) ?_ | refine o_nil ?_ | refine r_block ?_ | refine r_exit rfl ?_ | refine r_ret ?_ | refine r_skip ?_ | refine o_know _ _ (some true) rfl rfl rfl ?_ | refine o_know _ _ (some false) rfl rfl rfl ?_ | refine o_know _ _ (none) rfl rfl rfl ?_)
          exact ⟨rfl, ⟨_, rfl, by simp at h1; simp [okc, h1]⟩, rfl⟩
      · rintro e w1 rfl
        refine r_cond rfl (fun h => ?_) (fun h => ?_)
        · (repeat first | refine r_seqR ?_ | refine r_seqS ?_ | refine r_seqB ?_ | refine r_seqC ?_ | refine r_seqSB ?_ | refine r_region ?_ | refine o_run rfl rfl (by first | exact trivial | (simp only [AllP]; omega)) ?_ | refine o_nil ?_ | refine r_block ?_ | refine r_exit rfl ?_ | refine r_ret ?_ | refine r_skip ?_ | refine o_know _ _ (some true) rfl rfl rfl ?_ | refine o_know _ _ (some false) rfl rfl rfl ?_ | refine o_know _ _ (none) rfl rfl rfl ?_)
          refine ⟨_, rfl, ?_, rfl⟩
          have : nameB l = false := by
            simp only [nameB, Bool.and_eq_false_iff]
            refine .inr ?_
            rw [List.all_eq_false]
            exact ⟨l.getD k 0, by rw [List.getD_eq_getElem?_getD, List.getElem?_eq_getElem hlt]; simp, by simpa using h⟩
          simp [checkI, this]
        · (repeat first | refine r_seqR ?_ | refine r_seqS ?_ | refine r_seqB ?_ | refine r_seqC ?_ | refine r_seqSB ?_ | refine r_region ?_ | refine o_run rfl rfl (by first | exact trivial | (simp only [AllP]; omega)) ?_ | refine o_nil ?_ | refine r_block ?_ | refine r_exit rfl ?_ | refine r_ret ?_ | refine r_skip ?_ | refine o_know _ _ (some true) rfl rfl rfl ?_ | refine o_know _ _ (some false) rfl rfl rfl ?_ | refine o_know _ _ (none) rfl rfl rfl ?_)
          refine ⟨k + 1, rfl, ⟨rfl, hlt, ?_⟩, by omega⟩
          rw [List.take_succ_eq_append_getElem hlt, List.all_append, ha]
          rw [List.getD_eq_getElem?_getD, List.getElem?_eq_getElem hlt] at h
          simpa using h
    · (repeat first | refine r_seqR ?_ | refine r_seqS ?_ | refine r_seqB ?_ | refine r_seqC ?_ | refine r_seqSB ?_ | refine r_region ?_ | refine o_run rfl rfl (by first | exact trivial | (simp only [AllP]; omega)) ?_ | refine o_nil ?_ | refine r_block ?_ | refine r_exit rfl ?_ | refine r_ret ?_ | refine r_skip ?_ | refine o_know _ _ (some true) rfl rfl rfl ?_ | refine o_know _ _ (some false) rfl rfl rfl ?_ | refine o_know _ _ (none) rfl rfl rfl ?_)
      refine ⟨_, rfl, ?_, rfl⟩
      have hk : k = l.length := by omega
      subst hk
      rw [List.take_length] at ha
      have : nameB l = true := by simp only [nameB, ha]; revert h; cases (decide (l ≠ []) && decide (l.length ≤ 24) && isLetter (l.getD 0 0)) <;> simp
      simp [checkI, this]
end Go.Vc
