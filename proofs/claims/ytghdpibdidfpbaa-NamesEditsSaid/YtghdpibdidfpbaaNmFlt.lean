/- The plain law of likenesses: floats of small whole numbers. -/
import Derived.Test.YtghdpibdidfpbaaNmLev
import GoSem.Core.Float
namespace Go.Vc
open Go
/-- what is no NaN -/
def isNum (x : Nat) : Bool := !(Ieee.double.read x).isNaN
theorem read_word (neg : Bool) (r : Nat) (h : r ≤ Ieee.double.infRung) : (Ieee.double.read (Ieee.double.word neg r)).isNaN = false := by
  have h1 : Ieee.double.infRung = 9218868437227405312 := by decide
  have h2 : Ieee.double.signWeight = 9223372036854775808 := by decide
  have h3 : Ieee.double.binade = 4503599627370496 := by decide
  have h4 : Ieee.double.word neg r % Ieee.double.signWeight = r := by
    unfold Ieee.Format.word
    rw [h1] at h
    rw [h2]
    split <;> omega
  unfold Ieee.Format.read
  rw [h4]
  dsimp only
  split
  · rfl
  · split
    · rfl
    · split
      · rfl
      · exfalso; omega
theorem nearest_num (neg : Bool) (mag : Nat) (place : Int) : (Ieee.double.read (Ieee.double.nearest neg mag place)).isNaN = false := by
  unfold Ieee.Format.nearest
  split
  · exact read_word _ _ (by decide)
  · exact read_word _ _ (Nat.min_le_right _ _)
theorem write_num (d : Ieee.Datum) (h : d.isNaN = false) : (Ieee.double.read (Ieee.double.write d)).isNaN = false := by
  cases d with
  | number s m p => exact nearest_num _ _ _
  | infinity s => exact read_word _ _ (Nat.le_refl _)
  | nan s t => cases h
/-- a whole number that is read again -/
def whole (n : Nat) : Bool := match Ieee.double.read (FloatKind.f64.nearest n) with
  | .number _ m _ => decide (m ≠ 0 ∨ n = 0)
  | _ => false
theorem whole_all : ∀ n, n ≤ 256 → whole n = true := by
  have h : ∀ n : Fin 257, whole n.1 = true := by decide +kernel
  intro n hn
  exact h ⟨n, by omega⟩
theorem div_some (d n : Nat) (hd : d ≤ 256) (hn : n ≤ 256) (h0 : n ≠ 0) : ∃ r, FloatKind.f64.format.div (FloatKind.f64.nearest d) (FloatKind.f64.nearest n) = some r ∧ (Ieee.double.read r).isNaN = false := by
  have h1 := whole_all d hd
  have h2 := whole_all n hn
  unfold whole at h1 h2
  show ∃ r, Option.map Ieee.double.write ((Ieee.double.read (FloatKind.f64.nearest d)).quotient _ (Ieee.double.read (FloatKind.f64.nearest n))) = some r ∧ _
  cases e1 : Ieee.double.read (FloatKind.f64.nearest d) with
  | number s m i =>
    cases e2 : Ieee.double.read (FloatKind.f64.nearest n) with
    | number t k j =>
      rw [e2] at h2
      have hk : k ≠ 0 := by
        have := of_decide_eq_true h2
        rcases this with h | h
        · exact h
        · exact absurd h h0
      simp only [Ieee.Datum.quotient, if_neg hk, Option.map_some]
      exact ⟨_, rfl, write_num _ rfl⟩
    | infinity t => rw [e2] at h2; cases h2
    | nan t f => rw [e2] at h2; cases h2
  | infinity s => rw [e1] at h1; cases h1
  | nan s f => rw [e1] at h1; cases h1
theorem sub_some (r : Nat) (h : (Ieee.double.read r).isNaN = false) : ∃ x, FloatKind.f64.format.sub 4607182418800017408 r = some x ∧ (Ieee.double.read x).isNaN = false := by
  show ∃ x, Option.map Ieee.double.write ((Ieee.double.read 4607182418800017408).sum (Ieee.double.read r).opposite) = some x ∧ _
  have e1 : Ieee.double.read 4607182418800017408 = .number false 4503599627370496 (-52) := by decide +kernel
  rw [e1]
  cases e2 : Ieee.double.read r with
  | number t k j => exact ⟨_, rfl, write_num _ rfl⟩
  | infinity t => exact ⟨_, rfl, write_num _ rfl⟩
  | nan t f => rw [e2] at h; cases h
def fquo (d n : Nat) : Nat := (FloatKind.f64.format.div (FloatKind.f64.nearest d) (FloatKind.f64.nearest n)).getD 0
/-- 1 less d by n, as the machine's numbers have it -/
def likeF (d n : Nat) : Nat := if n = 0 then 4607182418800017408 else (FloatKind.f64.format.sub 4607182418800017408 (fquo d n)).getD 0
theorem likeF_num (d n : Nat) (hd : d ≤ 256) (hn : n ≤ 256) : (Ieee.double.read (likeF d n)).isNaN = false := by
  unfold likeF
  split
  · decide +kernel
  · rename_i h0
    obtain ⟨r, h1, h2⟩ := div_some d n hd hn h0
    have : fquo d n = r := by simp [fquo, h1]
    rw [this]
    obtain ⟨x, h3, h4⟩ := sub_some r h2
    rw [h3]
    exact h4
theorem order_self (x : Nat) (h : (Ieee.double.read x).isNaN = false) : (FloatKind.f64.format.order x x == some .eq) = true := by
  show ((Ieee.double.read x).order (Ieee.double.read x) == some .eq) = true
  cases e : Ieee.double.read x with
  | number s m p => simp [Ieee.Datum.order]
  | infinity s => cases s <;> rfl
  | nan s f => rw [e] at h; cases h
/-- the likeness of two texts -/
def like (a b : List UInt8) : Nat := likeF (dist a b) (max (a.take 256).length (b.take 256).length)
theorem lev_le : ∀ a b : List UInt8, lev a b ≤ max a.length b.length
  | [], b => by rw [lev_nil]; exact Nat.le_max_right _ _
  | x :: a, [] => by rw [lev_nil']; exact Nat.le_max_left _ _
  | x :: a, y :: b => by
    rw [lev_cons]
    have := lev_le a b
    simp only [List.length_cons]
    split <;> omega
theorem dist_le (a b : List UInt8) : dist a b ≤ max (a.take 256).length (b.take 256).length := by
  have := lev_le (a.take 256).reverse (b.take 256).reverse
  simpa [dist] using this
theorem dist_le' (a b : List UInt8) : dist a b ≤ 256 := by
  have := dist_le a b
  have h1 : (a.take 256).length ≤ 256 := List.length_take_le _ _
  have h2 : (b.take 256).length ≤ 256 := List.length_take_le _ _
  omega
end Go.Vc
