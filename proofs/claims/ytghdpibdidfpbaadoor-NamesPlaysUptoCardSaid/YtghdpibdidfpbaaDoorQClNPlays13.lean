/- The plain law of likenesses: floats of small whole numbers. -/
import Derived.Test.YtghdpibdidfpbaaDoorQClNPlays6
import GoSem.Core.Float
import Derived.Test.YtghdpibdidfpbaaDoorQClNPlays8
namespace Go.Vc
open Go
/-- what is no NaN -/
def isNum (x : Nat) : Bool := !(Ieee.double.read x).isNaN
theorem read_word (neg : Bool) (r : Nat) (h : r ≤ Ieee.double.infRung) : (Ieee.double.read (Ieee.double.word neg r)).isNaN = false := by
  have h1 : Ieee.double.infRung = 9218868437227405312 := by decide
  have h2 : Ieee.double.signWeight = 9223372036854775808 := by decide
  have h3 : Ieee.double.binade = 4503599627370496 := by decide
  have h4 : Ieee.double.word neg r % Ieee.double.signWeight = r := by
    unfold Ieee.Format.word
    rw [h1] at h
    rw [h2]
    split <;> omega
  unfold Ieee.Format.read
  rw [h4]
  dsimp only
  split
  · rfl
  · split
    · rfl
    · split
      · rfl
      · exfalso; omega
theorem nearest_num (neg : Bool) (mag : Nat) (place : Int) : (Ieee.double.read (Ieee.double.nearest neg mag place)).isNaN = false := by
  unfold Ieee.Format.nearest
  split
  · exact read_word _ _ (by decide)
  · exact read_word _ _ (Nat.min_le_right _ _)
theorem write_num (d : Ieee.Datum) (h : d.isNaN = false) : (Ieee.double.read (Ieee.double.write d)).isNaN = false := by
  cases d with
  | number s m p => exact nearest_num _ _ _
  | infinity s => exact read_word _ _ (Nat.le_refl _)
  | nan s t => cases h
/-- a whole number that is read again -/
def whole (n : Nat) : Bool := match Ieee.double.read (FloatKind.f64.nearest n) with
  | .number _ m _ => decide (m ≠ 0 ∨ n = 0)
  | _ => false
theorem whole_all : ∀ n, n ≤ 256 → whole n = true := by
  have h : ∀ n : Fin 257, whole n.1 = true := by decide +kernel
  intro n hn
  exact h ⟨n, by omega⟩
theorem div_some (d n : Nat) (hd : d ≤ 256) (hn : n ≤ 256) (h0 : n ≠ 0) : ∃ r, FloatKind.f64.format.div (FloatKind.f64.nearest d) (FloatKind.f64.nearest n) = some r ∧ (Ieee.double.read r).isNaN = false := by
  have h1 := whole_all d hd
  have h2 := whole_all n hn
  unfold whole at h1 h2
  show ∃ r, Option.map Ieee.double.write ((Ieee.double.read (FloatKind.f64.nearest d)).quotient _ (Ieee.double.read (FloatKind.f64.nearest n))) = some r ∧ _
  cases e1 : Ieee.double.read (FloatKind.f64.nearest d) with
  | number s m i =>
    cases e2 : Ieee.double.read (FloatKind.f64.nearest n) with
    | number t k j =>
      rw [e2] at h2
      have hk : k ≠ 0 := by
        have := of_decide_eq_true h2
        rcases this with h | h
        · exact h
        · exact absurd h h0
      simp only [Ieee.Datum.quotient, if_neg hk, Option.map_some]
      exact ⟨_, rfl, write_num _ rfl⟩
    | infinity t => rw [e2] at h2; cases h2
    | nan t f => rw [e2] at h2; cases h2
  | infinity s => rw [e1] at h1; cases h1
  | nan s f => rw [e1] at h1; cases h1
theorem sub_some (r : Nat) (h : (Ieee.double.read r).isNaN = false) : ∃ x, FloatKind.f64.format.sub 4607182418800017408 r = some x ∧ (Ieee.double.read x).isNaN = false := by
  show ∃ x, Option.map Ieee.double.write ((Ieee.double.read 4607182418800017408).sum (Ieee.double.read r).opposite) = some x ∧ _
  have e1 : Ieee.double.read 4607182418800017408 = .number false 4503599627370496 (-52) := by decide +kernel
  rw [e1]
  cases e2 : Ieee.double.read r with
  | number t k j => exact ⟨_, rfl, write_num _ rfl⟩
  | infinity t => exact ⟨_, rfl, write_num _ rfl⟩
  | nan t f => rw [e2] at h; cases h
def fquo (d n : Nat) : Nat := (FloatKind.f64.format.div (FloatKind.f64.nearest d) (FloatKind.f64.nearest n)).getD 0
/-- 1 less d by n, as the machine's numbers have it -/
def likeF (d n : Nat) : Nat := if n = 0 then 4607182418800017408 else (FloatKind.f64.format.sub 4607182418800017408 (fquo d n)).getD 0
theorem likeF_num (d n : Nat) (hd : d ≤ 256) (hn : n ≤ 256) : (Ieee.double.read (likeF d n)).isNaN = false := by
  unfold likeF
  split
  · decide +kernel
  · rename_i h0
    obtain ⟨r, h1, h2⟩ := div_some d n hd hn h0
    have : fquo d n = r := by simp [fquo, h1]
    rw [this]
    obtain ⟨x, h3, h4⟩ := sub_some r h2
    rw [h3]
    exact h4
/-- the likeness of two texts -/
def like (a b : List UInt8) : Nat := likeF (dist a b) (max (a.take 256).length (b.take 256).length)
theorem lev_le : ∀ a b : List UInt8, lev a b ≤ max a.length b.length
  | [], b => by rw [lev_nil]; exact Nat.le_max_right _ _
  | x :: a, [] => by rw [lev_nil']; exact Nat.le_max_left _ _
  | x :: a, y :: b => by
    rw [lev_cons]
    have := lev_le a b
    simp only [List.length_cons]
    split <;> omega
theorem dist_le (a b : List UInt8) : dist a b ≤ max (a.take 256).length (b.take 256).length := by
  have := lev_le (a.take 256).reverse (b.take 256).reverse
  simpa [dist] using this
theorem dist_le' (a b : List UInt8) : dist a b ≤ 256 := by
  have := dist_le a b
  have h1 : (a.take 256).length ≤ 256 := List.length_take_le _ _
  have h2 : (b.take 256).length ≤ 256 := List.length_take_le _ _
  omega
end Go.Vc
/- The reference of layer 6: Check, Distance, Likeness; and the program's Likeness. -/
namespace Go.Vc
open Go Go.Proofs
set_option maxRecDepth 10000
variable {w : World}

def isLetterR (c : UInt8) : Bool := (decide (97 ≤ (c.toNat : Int)) && decide ((c.toNat : Int) ≤ 122)) || (decide (65 ≤ (c.toNat : Int)) && decide ((c.toNat : Int) ≤ 90))
theorem letters_alike (c : UInt8) : isLetterR c = isLetter c := by
  have h : ∀ n : Fin 256, ((decide (97 ≤ (n.1 : Int)) && decide ((n.1 : Int) ≤ 122)) || (decide (65 ≤ (n.1 : Int)) && decide ((n.1 : Int) ≤ 90))) =
    (decide (97 ≤ ibits .or .u8 (n.1 : Int) 32) && decide (ibits .or .u8 (n.1 : Int) 32 ≤ 122)) := by decide +kernel
  exact h ⟨c.toNat, c.toNat_lt⟩
theorem rletter_ret (c : UInt8) (w : World) : Ret Tryd.prog 56 [.int .u8 c.toNat] w (fun v w' => v = .bool (isLetter c) ∧ w' = w) := by
  rw [← letters_alike]
  refine enter Tryd.call56 Tryd.func56 rfl rfl rfl rfl ?_
  (repeat first|refine zA ?_|refine zg ?_|refine zo rfl rfl trivial ?_|refine zn ?_)
  refine o_split _ _ rfl rfl rfl (fun h1 => ?_) (fun h1 => ?_)
  · (repeat refine zo rfl rfl trivial ?_)
    refine o_split _ _ rfl rfl rfl (fun h2 => ?_) (fun h2 => ?_)
    · (repeat first|refine zo rfl rfl trivial ?_|refine zn ?_|refine zr ?_|refine zV rfl rfl rfl ?_)
      exact ⟨_, rfl, by simp only [isLetterR, h1, h2]; rfl, rfl⟩
    · (repeat refine zo rfl rfl trivial ?_)
      refine o_split _ _ rfl rfl rfl (fun h3 => ?_) (fun h3 => ?_)
      · (repeat first|refine zo rfl rfl trivial ?_|refine zn ?_|refine zr ?_)
        exact ⟨_, rfl, by simp only [isLetterR, h1, h2, h3]; rfl, rfl⟩
      · (repeat first|refine zo rfl rfl trivial ?_|refine zn ?_|refine zr ?_)
        exact ⟨_, rfl, by simp only [isLetterR, h1, h2, h3]; rfl, rfl⟩
  · (repeat first|refine zo rfl rfl trivial ?_|refine zU rfl rfl rfl ?_)
    refine o_split _ _ rfl rfl rfl (fun h3 => ?_) (fun h3 => ?_)
    · (repeat first|refine zo rfl rfl trivial ?_|refine zn ?_|refine zr ?_)
      exact ⟨_, rfl, by simp only [isLetterR, h1, h3]; rfl, rfl⟩
    · (repeat first|refine zo rfl rfl trivial ?_|refine zn ?_|refine zr ?_)
      exact ⟨_, rfl, by simp only [isLetterR, h1, h3]; rfl, rfl⟩
theorem rcounted_ret (s : List UInt8) (w : World) : Ret Tryd.prog 60 [S s] w (fun v w' => v = S (s.take 256) ∧ w' = w) := by
  refine enter Tryd.call60 Tryd.func60 rfl rfl rfl rfl ?_
  (repeat first|refine zA ?_|refine zB ?_|refine zg ?_|refine zo rfl rfl trivial ?_|refine zn ?_)
  refine r_if rfl (fun h => ?_) (fun h => ?_)
  · (repeat first|refine zA ?_|refine zg ?_|refine zo rfl rfl (by first|exact trivial|(simp only[AllP];omega)) ?_|refine zn ?_|refine zr ?_)
    exact ⟨_, rfl, rfl, rfl⟩
  · (repeat first|refine zA ?_|refine zg ?_|refine zo rfl rfl trivial ?_|refine zn ?_|refine zr ?_|refine zk ?_)
    exact ⟨_, rfl, by rw [List.take_of_length_le]; omega, rfl⟩

theorem rname_ret (l : List UInt8) (hl : l.length ≤ 9223372036854775807) (w : World) : Ret Tryd.prog 44 [S l] w (fun v w' => v = .bool (nameB l) ∧ w' = w) := by
  refine enter Tryd.call44 Tryd.func44 rfl rfl rfl rfl ?_
  (repeat first|refine zA ?_|refine zB ?_|refine zg ?_|refine zo rfl rfl trivial ?_|refine zn ?_)
  refine o_bool [0] [S l] 17 (!(decide (l ≠ []) && decide (l.length ≤ 24) && isLetter (l.getD 0 0))) (fun w' => w' = w) ?_ ?_
  · refine o_split _ _ rfl rfl rfl (fun h => ?_) (fun h => ?_)
    · (repeat first|refine zo rfl rfl trivial ?_|refine zn ?_|refine zT rfl rfl rfl ?_)
      have h := of_decide_eq_true h
      have : l = [] := List.length_eq_zero_iff.1 (by omega)
      exact ⟨rfl, ⟨_, rfl, by simp [this]⟩, rfl⟩
    · have hne : 0 < l.length := by have := of_decide_eq_false h; omega
      have hn2 : l ≠ [] := List.length_pos_iff.1 hne
      (repeat refine zo rfl rfl trivial ?_)
      refine o_split _ _ rfl rfl rfl (fun h2 => ?_) (fun h2 => ?_)
      · (repeat first|refine zo rfl rfl trivial ?_|refine zn ?_)
        have h2 := of_decide_eq_true h2
        have h3 : ¬ l.length ≤ 24 := by omega
        exact ⟨rfl, ⟨_, rfl, by simp [h3]⟩, rfl⟩
      · (repeat refine zo rfl rfl (by first|exact trivial|(simp only[AllP];omega)) ?_)
        refine o_call (rletter_ret _ _) rfl rfl rfl ?_
        rintro v w' ⟨rfl, rfl⟩
        (repeat first|refine zo rfl rfl trivial ?_|refine zn ?_)
        have h2 := of_decide_eq_false h2
        have h3 : l.length ≤ 24 := by omega
        exact ⟨rfl, ⟨_, rfl, by simp [hn2, h3]⟩, rfl⟩
  rintro e w' rfl
  refine r_cond rfl (fun h => ?_) (fun h => ?_)
  · (repeat first|refine zA ?_|refine zg ?_|refine zo rfl rfl trivial ?_|refine zn ?_|refine zr ?_)
    refine ⟨_, rfl, ?_, rfl⟩
    have : nameB l = false := by simp only [nameB]; revert h; cases (decide (l ≠ []) && decide (l.length ≤ 24) && isLetter (l.getD 0 0)) <;> simp
    rw [this]
  · have hhead : (decide (l ≠ []) && decide (l.length ≤ 24) && isLetter (l.getD 0 0)) = true := by simpa using h
    have hne : 0 < l.length := by
      have : l ≠ [] := by simp at hhead; exact hhead.1.1
      exact List.length_pos_iff.2 this
    have hok0 : okc (l.getD 0 0) = true := by
      simp only [Bool.and_eq_true] at hhead
      simp only [okc, hhead.2, Bool.true_or]
    (repeat first|refine zA ?_|refine zB ?_|refine zg ?_|refine zo rfl rfl trivial ?_|refine zn ?_|refine zb ?_|refine zk ?_)
    refine r_loop (α := Nat) [0, 3] (fun k => [S l, I k]) (fun k w1 => w1 = w' ∧ 1 ≤ k ∧ k ≤ l.length ∧ (l.take k).all okc = true) (fun k => l.length - k) 1 rfl ⟨rfl, by omega, by omega, ?_⟩ ?_
    · rw [List.take_succ_eq_append_getElem hne]
      simp only [List.take_zero, List.nil_append, List.all_cons, List.all_nil, Bool.and_true]
      rw [List.getD_eq_getElem?_getD, List.getElem?_eq_getElem hne] at hok0
      exact hok0
    rintro k e w' ⟨rfl, hk1, hk, ha⟩
    (repeat first|refine zA ?_|refine zB ?_|refine zg ?_|refine zo rfl rfl trivial ?_|refine zn ?_)
    refine r_if rfl (fun hlt => ?_) (fun hge => ?_)
    · have hlt : k < l.length := by omega
      (repeat first|refine zA ?_|refine zC ?_|refine zg ?_|refine zo rfl rfl (by first|exact trivial|(simp only[AllP];omega)) ?_|refine zb ?_|refine zk ?_)
      refine o_bool [0, 3] [S l, I k] 46 (!okc (l.getD k 0)) (fun w1 => w1 = w') ?_ ?_
      · refine o_call (rletter_ret _ _) rfl rfl rfl ?_
        rintro v w1 ⟨rfl, rfl⟩
        (repeat refine zo rfl rfl trivial ?_)
        refine o_split _ _ rfl rfl rfl (fun h1 => ?_) (fun h1 => ?_)
        · (repeat refine zo rfl rfl (by first|exact trivial|(simp only[AllP];omega)) ?_)
          refine o_split _ _ rfl rfl rfl (fun h2 => ?_) (fun h2 => ?_)
          · (repeat refine zo rfl rfl (by first|exact trivial|(simp only[AllP];omega)) ?_)
            refine o_split _ _ rfl rfl rfl (fun h3 => ?_) (fun h3 => ?_)
            · (repeat first|refine zo rfl rfl trivial ?_|refine zn ?_)
              exact ⟨rfl, ⟨_, rfl, by simp at h1 h2 h3; simp [okc, h1, h2, h3]⟩, rfl⟩
            · (repeat first|refine zo rfl rfl (by first|exact trivial|(simp only[AllP];omega)) ?_|refine zn ?_)
              exact ⟨rfl, ⟨_, rfl, by simp at h1 h2 h3; simp [okc, h1, h2, h3]; rw [Bool.eq_iff_iff]; simp⟩, rfl⟩
          · (repeat first|refine zo rfl rfl trivial ?_|refine zn ?_|refine zV rfl rfl rfl ?_)
            exact ⟨rfl, ⟨_, rfl, by simp at h1 h2; simp [okc, h2]⟩, rfl⟩
        · (repeat first|refine zo rfl rfl trivial ?_|refine zn ?_|refine zU rfl rfl rfl ?_|refine zV rfl rfl rfl ?_)
          exact ⟨rfl, ⟨_, rfl, by simp at h1; simp [okc, h1]⟩, rfl⟩
      · rintro e w1 rfl
        refine r_cond rfl (fun h => ?_) (fun h => ?_)
        · (repeat first|refine zA ?_|refine zg ?_|refine zo rfl rfl trivial ?_|refine zn ?_|refine zr ?_)
          refine ⟨_, rfl, ?_, rfl⟩
          have : nameB l = false := by
            simp only [nameB, Bool.and_eq_false_iff]
            refine .inr ?_
            rw [List.all_eq_false]
            exact ⟨l.getD k 0, by rw [List.getD_eq_getElem?_getD, List.getElem?_eq_getElem hlt]; simp, by simpa using h⟩
          rw [this]
        · (repeat first|refine zg ?_|refine zo rfl rfl (by first|exact trivial|(simp only[AllP];omega)) ?_|refine zn ?_|refine zk ?_)
          refine ⟨k + 1, rfl, ⟨rfl, by omega, hlt, ?_⟩, by omega⟩
          rw [List.take_succ_eq_append_getElem hlt, List.all_append, ha]
          rw [List.getD_eq_getElem?_getD, List.getElem?_eq_getElem hlt] at h
          simpa using h
    · (repeat first|refine zA ?_|refine zg ?_|refine zo rfl rfl trivial ?_|refine zn ?_|refine ze rfl ?_|refine zr ?_)
      refine ⟨_, rfl, ?_, rfl⟩
      have hk : k = l.length := by omega
      subst hk
      rw [List.take_length] at ha
      have : nameB l = true := by simp only [nameB, ha, hhead]; rfl
      rw [this]

theorem fquo_cond (d n : Nat) (hd : d ≤ 256) (hn : n ≤ 256) (h0 : n ≠ 0) : (FloatKind.f64.format.div (FloatKind.f64.nearest d) (FloatKind.f64.nearest n)).isSome = true ∧ (FloatKind.f64.format.sub 4607182418800017408 (fquo d n)).isSome = true := by
  obtain ⟨r, h1, h2⟩ := div_some d n hd hn h0
  obtain ⟨x, h3, _⟩ := sub_some r h2
  have : fquo d n = r := by simp [fquo, h1]
  rw [this, h1, h3]
  exact ⟨rfl, rfl⟩
theorem likeness_ret (s t : List UInt8) (w : World) : Ret Tryd.prog 49 [S s, S t] w (fun v w' => v = .float .f64 (like s t) ∧ Kp [] w w') := by
  refine enter Tryd.call49 Tryd.func49 rfl rfl rfl rfl ?_
  (repeat first|refine zA ?_|refine zg ?_|refine zo rfl rfl trivial ?_|refine zn ?_)
  refine o_call (counted_ret _ _) rfl rfl rfl ?_
  rintro v w' ⟨rfl, rfl⟩
  (repeat refine zo rfl rfl trivial ?_)
  refine o_call (counted_ret _ _) rfl rfl rfl ?_
  rintro v w0 ⟨rfl, rfl⟩
  have ha : (s.take 256).length ≤ 256 := List.length_take_le _ _
  have hb : (t.take 256).length ≤ 256 := List.length_take_le _ _
  have hl : like s t = likeF (dist s t) (max (s.take 256).length (t.take 256).length) := rfl
  have hd := dist_le' s t
  have hm : (max ((s.take 256).length : Int) ((t.take 256).length : Int)) = ((max (s.take 256).length (t.take 256).length : Nat) : Int) := by omega
  (repeat first|refine zo rfl rfl trivial ?_|refine zn ?_)
  rw [hm]
  generalize hn : max (s.take 256).length (t.take 256).length = n at *
  have hn256 : n ≤ 256 := by omega
  (repeat first|refine zA ?_|refine zB ?_|refine zg ?_|refine zo rfl rfl trivial ?_|refine zn ?_)
  refine r_if rfl (fun h0 => ?_) (fun h0 => ?_)
  · (repeat first|refine zA ?_|refine zg ?_|refine zo rfl rfl trivial ?_|refine zn ?_|refine zr ?_)
    refine ⟨_, rfl, ?_, Kp.refl _ _⟩
    have : n = 0 := by omega
    rw [hl, likeF, if_pos this]
  · have h0 : n ≠ 0 := by omega
    have hc := fquo_cond (dist s t) n hd hn256 h0
    (repeat first|refine zA ?_|refine zg ?_|refine zo rfl rfl trivial ?_|refine zk ?_)
    refine o_call (distance_ret _ _ _) rfl rfl rfl ?_
    rintro v w1 ⟨rfl, kp⟩
    refine o_run rfl rfl hc.1 ?_
    refine o_nil ?_
    refine r_seqR ?_
    refine r_region ?_
    refine o_run rfl rfl hc.2 ?_
    (repeat first|refine zn ?_|refine zr ?_)
    refine ⟨_, rfl, ?_, kp⟩
    rw [hl, likeF, if_neg h0]
    rfl
end Go.Vc
