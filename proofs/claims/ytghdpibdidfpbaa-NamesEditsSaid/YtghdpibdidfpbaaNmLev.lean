/- The plain law of distances: no program in sight. -/
import Derived.Test.YtghdpibdidfpbaaVc
namespace Go.Vc
def levGo (x : UInt8) (n : Nat) (f : List UInt8 → Nat) : List UInt8 → Nat
  | [] => n + 1
  | y :: b => min (min (f b + if x = y then 0 else 1) (f (y :: b) + 1)) (levGo x n f b + 1)
def lev : List UInt8 → List UInt8 → Nat
  | [], b => b.length
  | x :: a, b => levGo x a.length (lev a) b
theorem lev_nil (b : List UInt8) : lev [] b = b.length := rfl
theorem lev_nil' (a : List UInt8) : lev a [] = a.length := by cases a <;> rfl
theorem lev_cons (x y : UInt8) (a b : List UInt8) : lev (x :: a) (y :: b) = min (min (lev a b + if x = y then 0 else 1) (lev a (y :: b) + 1)) (lev (x :: a) b + 1) := rfl
/-- how far the first i of a are from the first k of b -/
def D (a b : List UInt8) (i k : Nat) : Nat := lev (a.take i).reverse (b.take k).reverse
theorem D_0 (a b : List UInt8) (k : Nat) (h : k ≤ b.length) : D a b 0 k = k := by simp [D, lev_nil, h]
theorem D_i0 (a b : List UInt8) (i : Nat) (h : i ≤ a.length) : D a b i 0 = i := by simp [D, lev_nil', h]
theorem D_ss (a b : List UInt8) (i k : Nat) (hi : i < a.length) (hk : k < b.length) :
    D a b (i + 1) (k + 1) = min (min (D a b i k + if a.getD i 0 = b.getD k 0 then 0 else 1) (D a b i (k + 1) + 1)) (D a b (i + 1) k + 1) := by
  have ea : (a.take (i + 1)).reverse = a.getD i 0 :: (a.take i).reverse := by
    rw [List.take_succ_eq_append_getElem hi]; simp [List.getD_eq_getElem?_getD, List.getElem?_eq_getElem hi]
  have eb : (b.take (k + 1)).reverse = b.getD k 0 :: (b.take k).reverse := by
    rw [List.take_succ_eq_append_getElem hk]; simp [List.getD_eq_getElem?_getD, List.getElem?_eq_getElem hk]
  simp only [D, ea, eb, lev_cons]
theorem D_full (a b : List UInt8) : D a b a.length b.length = lev a.reverse b.reverse := by simp [D]
theorem D_le (a b : List UInt8) : ∀ i, i ≤ a.length → ∀ k, k ≤ b.length → D a b i k ≤ i + k
  | 0, _, k, hk => by rw [D_0 a b k hk]; omega
  | i + 1, hi, 0, _ => by rw [D_i0 a b _ hi]; omega
  | i + 1, hi, k + 1, hk => by
    rw [D_ss a b i k hi hk]
    have := D_le a b (i + 1) hi k (by omega)
    omega
/-- the distance of two texts, by their first 256 bytes -/
def dist (a b : List UInt8) : Nat := lev (a.take 256).reverse (b.take 256).reverse
end Go.Vc
