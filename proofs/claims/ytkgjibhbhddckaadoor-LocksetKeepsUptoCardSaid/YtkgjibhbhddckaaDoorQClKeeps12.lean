/- Counting the bits of a word, eight bits at a time. No program. -/
import Derived.Test.YtkgjibhbhddckaaDoorQClKeeps8
namespace Go.Vc
open Go

theorem testBit_byte {b y : Nat} (hb : b < 256) (j : Nat) : (b + 256 * y).testBit j = if j < 8 then b.testBit j else y.testBit (j - 8) := by
  have h : b + 256 * y = 2 ^ 8 * y + b := by omega
  rw [h, Nat.testBit_two_pow_mul_add y (by omega : b < 2 ^ 8)]
theorem byte_and {b y c M : Nat} (hb : b < 256) (hc : c < 256) : (b + 256 * y) &&& (c + 256 * M) = (b &&& c) + 256 * (y &&& M) := by
  have hbc : b &&& c < 256 := Nat.lt_of_le_of_lt Nat.and_le_left hb
  apply Nat.eq_of_testBit_eq
  intro j
  rw [Nat.testBit_and, testBit_byte hb, testBit_byte hc, testBit_byte hbc]
  split <;> rw [Nat.testBit_and]
/-- the mask of k bytes -/
def mask (c : Nat) : Nat → Nat
  | 0 => 0
  | k + 1 => c + 256 * mask c k
def s1 (s c k x : Nat) : Nat := ((x >>> s) &&& mask c k) + (x &&& mask c k)
def f1 (s c b : Nat) : Nat := ((b >>> s) &&& c) + (b &&& c)
theorem shr_and {s b y c M : Nat} (hb : b < 256) (hc : c < 256) (hd : ∀ j, j < 8 → 8 ≤ s + j → c.testBit j = false) : ((b + 256 * y) >>> s) &&& (c + 256 * M) = ((b >>> s) &&& c) + 256 * ((y >>> s) &&& M) := by
  have hbc : (b >>> s) &&& c < 256 := Nat.lt_of_le_of_lt Nat.and_le_right hc
  apply Nat.eq_of_testBit_eq
  intro j
  rw [Nat.testBit_and, Nat.testBit_shiftRight, testBit_byte hb, testBit_byte hc, testBit_byte hbc]
  by_cases hj : j < 8
  · rw [if_pos hj, if_pos hj, Nat.testBit_and, Nat.testBit_shiftRight]
    by_cases hs : s + j < 8
    · rw [if_pos hs]
    · rw [hd j hj (by omega)]; simp
  · rw [if_neg hj, if_neg hj, if_neg (by omega), Nat.testBit_and, Nat.testBit_shiftRight]
    have : s + j - 8 = s + (j - 8) := by omega
    rw [this]
theorem s1_cons {s c k b y : Nat} (hb : b < 256) (hc : c < 256) (hd : ∀ j, j < 8 → 8 ≤ s + j → c.testBit j = false) : s1 s c (k + 1) (b + 256 * y) = f1 s c b + 256 * s1 s c k y := by
  unfold s1 f1
  show ((b + 256 * y) >>> s &&& (c + 256 * mask c k)) + ((b + 256 * y) &&& (c + 256 * mask c k)) = _
  rw [shr_and hb hc hd, byte_and hb hc]
  omega
def s3 (k x : Nat) : Nat := ((x >>> 4) + x) &&& mask 15 k
theorem s3_cons {k c z : Nat} (hc : c < 256) (hc4 : c / 16 ≤ 4) (hz : z % 16 ≤ 4) : s3 (k + 1) (c + 256 * z) = ((c >>> 4) + c) % 16 + 256 * s3 k z := by
  unfold s3
  have e1 : ((c + 256 * z) >>> 4) + (c + 256 * z) = ((c / 16) + 16 * (z % 16) + c) + 256 * ((z >>> 4) + z) := by
    rw [Nat.shiftRight_eq_div_pow, Nat.shiftRight_eq_div_pow]
    show (c + 256 * z) / 16 + (c + 256 * z) = _ + 256 * (z / 16 + z)
    omega
  rw [e1]
  show _ &&& (15 + 256 * mask 15 k) = _
  have e3 : c >>> 4 = c / 16 := Nat.shiftRight_eq_div_pow c 4
  rw [byte_and (by omega) (by omega), e3]
  have e2 : ((c / 16) + 16 * (z % 16) + c) &&& 15 = ((c / 16) + 16 * (z % 16) + c) % 16 := Nat.and_two_pow_sub_one_eq_mod _ 4
  rw [e2]
  have e4 : (c / 16 + 16 * (z % 16) + c) % 16 = (c / 16 + c) % 16 := by omega
  rw [e4]
def byteN (x : Nat) (i : Nat) : Nat := x / 256 ^ i % 256
/-- what the count of a byte comes to -/
def pc (b : Nat) : Nat := ((f1 2 51 (f1 1 85 b) >>> 4) + f1 2 51 (f1 1 85 b)) % 16
theorem f_facts : ∀ b, b < 256 → f1 1 85 b < 256 ∧ f1 2 51 (f1 1 85 b) < 256 ∧ f1 2 51 (f1 1 85 b) / 16 ≤ 4 ∧ f1 2 51 (f1 1 85 b) % 16 ≤ 4 ∧ pc b = popN 8 b ∧ pc b ≤ 8 := by decide +kernel
/-- the three steps on k bytes -/
def sw (k x : Nat) : Nat := s3 k (s1 2 51 k (s1 1 85 k x))
theorem low16 {k b y : Nat} (hb : b < 256) : s1 2 51 (k + 1) (s1 1 85 (k + 1) (b + 256 * y)) % 16 ≤ 4 := by
  obtain ⟨h1, h2, h3, h4, _⟩ := f_facts b hb
  rw [s1_cons hb (by omega) (by decide), s1_cons h1 (by omega) (by decide)]
  omega
theorem sw_cons {k b y : Nat} (hb : b < 256) (hz : s1 2 51 k (s1 1 85 k y) % 16 ≤ 4) : sw (k + 1) (b + 256 * y) = pc b + 256 * sw k y := by
  obtain ⟨h1, h2, h3, h4, _⟩ := f_facts b hb
  unfold sw
  rw [s1_cons hb (by omega) (by decide), s1_cons h1 (by omega) (by decide), s3_cons h2 h3 hz]
  rfl
theorem sw_zero (y : Nat) : s1 2 51 0 (s1 1 85 0 y) % 16 ≤ 4 := by simp [s1, mask]
theorem sw_any {k x : Nat} : s1 2 51 k (s1 1 85 k x) % 16 ≤ 4 := by
  cases k with
  | zero => exact sw_zero x
  | succ k =>
    have : x = x % 256 + 256 * (x / 256) := by omega
    rw [this]; exact low16 (by omega)
theorem sw_step (k x : Nat) : sw (k + 1) x = pc (x % 256) + 256 * sw k (x / 256) := by
  conv => lhs; rw [show x = x % 256 + 256 * (x / 256) by omega]
  exact sw_cons (by omega) sw_any
theorem pop_step (k x : Nat) : popN (8 + k) x = popN 8 (x % 256) + popN k (x / 256) := by
  unfold popN
  rw [List.range_add, List.filter_append, List.length_append]
  have hx : x = x % 256 + 256 * (x / 256) := by omega
  congr 1
  · congr 1
    apply List.filter_congr
    intro j hj
    have hj : j < 8 := by simpa using hj
    conv => lhs; rw [hx]
    rw [testBit_byte (by omega), if_pos hj]
  · rw [List.filter_map, List.length_map]
    congr 1
    apply List.filter_congr
    intro j _
    simp only [Function.comp]
    conv => lhs; rw [hx]
    rw [testBit_byte (by omega), if_neg (by omega)]
    congr 1; omega
theorem pc_pop (x : Nat) : pc (x % 256) = popN 8 (x % 256) ∧ popN 8 (x % 256) ≤ 8 := by
  obtain ⟨_, _, _, _, h5, h6⟩ := f_facts (x % 256) (by omega)
  omega
theorem div_by {E A Q N : Nat} (hN : 0 < N) (h : E = A + N * Q) (hA : A < N) : E / N = Q := by
  subst h
  rw [Nat.add_mul_div_left _ _ hN, Nat.div_eq_of_lt hA, Nat.zero_add]
theorem pop_arith (p0 p1 p2 p3 p4 p5 p6 p7 : Nat) (h0 : p0 ≤ 8) (h1 : p1 ≤ 8) (h2 : p2 ≤ 8) (h3 : p3 ≤ 8) (h4 : p4 ≤ 8) (h5 : p5 ≤ 8) (h6 : p6 ≤ 8) (h7 : p7 ≤ 8) (x3 : Nat) (hx : x3 = p0 + 256 * (p1 + 256 * (p2 + 256 * (p3 + 256 * (p4 + 256 * (p5 + 256 * (p6 + 256 * (p7)))))))) :
    x3 < 2 ^ 61 ∧ x3 + x3 / 256 < 2 ^ 62 ∧
    (((x3 + x3 / 256) + (x3 + x3 / 256) / 65536) + ((x3 + x3 / 256) + (x3 + x3 / 256) / 65536) / 4294967296) % 128 = p0 + (p1 + (p2 + (p3 + (p4 + (p5 + (p6 + p7)))))) ∧
    ((x3 + x3 / 256) + (x3 + x3 / 256) / 65536) + ((x3 + x3 / 256) + (x3 + x3 / 256) / 65536) / 4294967296 < 2 ^ 63 := by
  have e1 : x3 / 256 = p1 + 256 * (p2 + 256 * (p3 + 256 * (p4 + 256 * (p5 + 256 * (p6 + 256 * (p7)))))) := div_by (by decide) (by rw [hx]) (by omega)
  have e2 : x3 + x3 / 256 = (p0 + p1) + 256 * ((p1 + p2) + 256 * ((p2 + p3) + 256 * ((p3 + p4) + 256 * ((p4 + p5) + 256 * ((p5 + p6) + 256 * ((p6 + p7) + 256 * (p7))))))) := by rw [e1, hx]; omega
  have e3 : (x3 + x3 / 256) / 65536 = (p2 + p3) + 256 * ((p3 + p4) + 256 * ((p4 + p5) + 256 * ((p5 + p6) + 256 * ((p6 + p7) + 256 * (p7))))) := by
    refine div_by (A := (p0 + p1) + 256 * (p1 + p2)) (by decide) ?_ (by omega)
    rw [e2]; omega
  have e4 : (x3 + x3 / 256) + (x3 + x3 / 256) / 65536 = (p0 + p1 + p2 + p3) + 256 * ((p1 + p2 + p3 + p4) + 256 * ((p2 + p3 + p4 + p5) + 256 * ((p3 + p4 + p5 + p6) + 256 * ((p4 + p5 + p6 + p7) + 256 * ((p5 + p6 + p7) + 256 * ((p6 + p7) + 256 * ((p7)))))))) := by rw [e3, e2]; omega
  have e5 : ((x3 + x3 / 256) + (x3 + x3 / 256) / 65536) / 4294967296 = (p4 + p5 + p6 + p7) + 256 * ((p5 + p6 + p7) + 256 * ((p6 + p7) + 256 * ((p7)))) := by
    refine div_by (A := (p0 + p1 + p2 + p3) + 256 * ((p1 + p2 + p3 + p4) + 256 * ((p2 + p3 + p4 + p5) + 256 * ((p3 + p4 + p5 + p6))))) (by decide) ?_ (by omega)
    rw [e4]; omega
  rw [e5, e4, e2]
  clear e1 e2 e3 e4 e5
  subst hx
  refine ⟨by omega, by omega, ?_, by omega⟩
  have e6 : ((p0 + p1 + p2 + p3) + 256 * ((p1 + p2 + p3 + p4) + 256 * ((p2 + p3 + p4 + p5) + 256 * ((p3 + p4 + p5 + p6) + 256 * ((p4 + p5 + p6 + p7) + 256 * ((p5 + p6 + p7) + 256 * ((p6 + p7) + 256 * ((p7))))))))) + ((p4 + p5 + p6 + p7) + 256 * ((p5 + p6 + p7) + 256 * ((p6 + p7) + 256 * ((p7))))) = (p0 + (p1 + (p2 + (p3 + (p4 + (p5 + (p6 + p7))))))) + 128 * (2 * ((p1 + p2 + p3 + p4) + 256 * ((p2 + p3 + p4 + p5) + 256 * ((p3 + p4 + p5 + p6) + 256 * ((p4 + p5 + p6 + p7) + 256 * ((p5 + p6 + p7) + 256 * ((p6 + p7) + 256 * ((p7)))))))) + 2 * ((p5 + p6 + p7) + 256 * ((p6 + p7) + 256 * ((p7))))) := by omega
  rw [e6, Nat.add_mul_mod_self_left, Nat.mod_eq_of_lt (by omega)]
theorem le_sum8 {p0 p1 p2 p3 p4 p5 p6 p7 : Nat} (h0 : p0 ≤ 8) (h1 : p1 ≤ 8) (h2 : p2 ≤ 8) (h3 : p3 ≤ 8) (h4 : p4 ≤ 8) (h5 : p5 ≤ 8) (h6 : p6 ≤ 8) (h7 : p7 ≤ 8) : p0 + (p1 + (p2 + (p3 + (p4 + (p5 + (p6 + p7)))))) ≤ 64 := by omega
/-- the sums behind the three steps -/
theorem pop_fin (x : Nat) : ∃ x3, sw 8 x = x3 ∧ x3 < 2 ^ 61 ∧ x3 + x3 / 256 < 2 ^ 62 ∧
    (((x3 + x3 / 256) + (x3 + x3 / 256) / 65536) + ((x3 + x3 / 256) + (x3 + x3 / 256) / 65536) / 4294967296) % 128 = pop x ∧
    ((x3 + x3 / 256) + (x3 + x3 / 256) / 65536) + ((x3 + x3 / 256) + (x3 + x3 / 256) / 65536) / 4294967296 < 2 ^ 63 ∧ pop x ≤ 64 := by
  have hp : pop x = popN 8 (x % 256) + (popN 8 (x / 256 % 256) + (popN 8 (x / 256 / 256 % 256) + (popN 8 (x / 256 / 256 / 256 % 256) + (popN 8 (x / 256 / 256 / 256 / 256 % 256) + (popN 8 (x / 256 / 256 / 256 / 256 / 256 % 256) + (popN 8 (x / 256 / 256 / 256 / 256 / 256 / 256 % 256) + (popN 8 (x / 256 / 256 / 256 / 256 / 256 / 256 / 256 % 256)))))))) := by
    have h64 : pop x = popN 64 x := rfl
    have q0 : popN 64 (x) = popN 8 (x % 256) + popN 56 (x / 256) := pop_step 56 (x)
    have q1 : popN 56 (x / 256) = popN 8 (x / 256 % 256) + popN 48 (x / 256 / 256) := pop_step 48 (x / 256)
    have q2 : popN 48 (x / 256 / 256) = popN 8 (x / 256 / 256 % 256) + popN 40 (x / 256 / 256 / 256) := pop_step 40 (x / 256 / 256)
    have q3 : popN 40 (x / 256 / 256 / 256) = popN 8 (x / 256 / 256 / 256 % 256) + popN 32 (x / 256 / 256 / 256 / 256) := pop_step 32 (x / 256 / 256 / 256)
    have q4 : popN 32 (x / 256 / 256 / 256 / 256) = popN 8 (x / 256 / 256 / 256 / 256 % 256) + popN 24 (x / 256 / 256 / 256 / 256 / 256) := pop_step 24 (x / 256 / 256 / 256 / 256)
    have q5 : popN 24 (x / 256 / 256 / 256 / 256 / 256) = popN 8 (x / 256 / 256 / 256 / 256 / 256 % 256) + popN 16 (x / 256 / 256 / 256 / 256 / 256 / 256) := pop_step 16 (x / 256 / 256 / 256 / 256 / 256)
    have q6 : popN 16 (x / 256 / 256 / 256 / 256 / 256 / 256) = popN 8 (x / 256 / 256 / 256 / 256 / 256 / 256 % 256) + popN 8 (x / 256 / 256 / 256 / 256 / 256 / 256 / 256) := pop_step 8 (x / 256 / 256 / 256 / 256 / 256 / 256)
    have q7 : popN 8 (x / 256 / 256 / 256 / 256 / 256 / 256 / 256) = popN 8 (x / 256 / 256 / 256 / 256 / 256 / 256 / 256 % 256) + popN 0 (x / 256 / 256 / 256 / 256 / 256 / 256 / 256 / 256) := pop_step 0 (x / 256 / 256 / 256 / 256 / 256 / 256 / 256)
    have q8 : popN 0 (x / 256 / 256 / 256 / 256 / 256 / 256 / 256 / 256) = 0 := rfl
    rw [h64, q0, q1, q2, q3, q4, q5, q6, q7, q8, Nat.add_zero]
  have hs : sw 8 x = pc (x % 256) + 256 * (pc (x / 256 % 256) + 256 * (pc (x / 256 / 256 % 256) + 256 * (pc (x / 256 / 256 / 256 % 256) + 256 * (pc (x / 256 / 256 / 256 / 256 % 256) + 256 * (pc (x / 256 / 256 / 256 / 256 / 256 % 256) + 256 * (pc (x / 256 / 256 / 256 / 256 / 256 / 256 % 256) + 256 * (pc (x / 256 / 256 / 256 / 256 / 256 / 256 / 256 % 256) + 256 * 0))))))) := by
    have q0 : sw 8 (x) = pc (x % 256) + 256 * sw 7 (x / 256) := sw_step 7 (x)
    have q1 : sw 7 (x / 256) = pc (x / 256 % 256) + 256 * sw 6 (x / 256 / 256) := sw_step 6 (x / 256)
    have q2 : sw 6 (x / 256 / 256) = pc (x / 256 / 256 % 256) + 256 * sw 5 (x / 256 / 256 / 256) := sw_step 5 (x / 256 / 256)
    have q3 : sw 5 (x / 256 / 256 / 256) = pc (x / 256 / 256 / 256 % 256) + 256 * sw 4 (x / 256 / 256 / 256 / 256) := sw_step 4 (x / 256 / 256 / 256)
    have q4 : sw 4 (x / 256 / 256 / 256 / 256) = pc (x / 256 / 256 / 256 / 256 % 256) + 256 * sw 3 (x / 256 / 256 / 256 / 256 / 256) := sw_step 3 (x / 256 / 256 / 256 / 256)
    have q5 : sw 3 (x / 256 / 256 / 256 / 256 / 256) = pc (x / 256 / 256 / 256 / 256 / 256 % 256) + 256 * sw 2 (x / 256 / 256 / 256 / 256 / 256 / 256) := sw_step 2 (x / 256 / 256 / 256 / 256 / 256)
    have q6 : sw 2 (x / 256 / 256 / 256 / 256 / 256 / 256) = pc (x / 256 / 256 / 256 / 256 / 256 / 256 % 256) + 256 * sw 1 (x / 256 / 256 / 256 / 256 / 256 / 256 / 256) := sw_step 1 (x / 256 / 256 / 256 / 256 / 256 / 256)
    have q7 : sw 1 (x / 256 / 256 / 256 / 256 / 256 / 256 / 256) = pc (x / 256 / 256 / 256 / 256 / 256 / 256 / 256 % 256) + 256 * sw 0 (x / 256 / 256 / 256 / 256 / 256 / 256 / 256 / 256) := sw_step 0 (x / 256 / 256 / 256 / 256 / 256 / 256 / 256)
    have q8 : sw 0 (x / 256 / 256 / 256 / 256 / 256 / 256 / 256 / 256) = 0 := by simp [sw, s3, mask]
    rw [q0, q1, q2, q3, q4, q5, q6, q7, q8]
  obtain ⟨a0, b0⟩ := pc_pop x
  obtain ⟨a1, b1⟩ := pc_pop (x / 256)
  obtain ⟨a2, b2⟩ := pc_pop (x / 256 / 256)
  obtain ⟨a3, b3⟩ := pc_pop (x / 256 / 256 / 256)
  obtain ⟨a4, b4⟩ := pc_pop (x / 256 / 256 / 256 / 256)
  obtain ⟨a5, b5⟩ := pc_pop (x / 256 / 256 / 256 / 256 / 256)
  obtain ⟨a6, b6⟩ := pc_pop (x / 256 / 256 / 256 / 256 / 256 / 256)
  obtain ⟨a7, b7⟩ := pc_pop (x / 256 / 256 / 256 / 256 / 256 / 256 / 256)
  rw [a0, a1, a2, a3, a4, a5, a6, a7, Nat.mul_zero, Nat.add_zero] at hs
  have hs' := pop_arith _ _ _ _ _ _ _ _ b0 b1 b2 b3 b4 b5 b6 b7 (sw 8 x) (by rw [hs])
  rw [← hp] at hs'
  refine ⟨sw 8 x, rfl, hs'.1, hs'.2.1, hs'.2.2.1, hs'.2.2.2, ?_⟩
  rw [hp]; exact le_sum8 b0 b1 b2 b3 b4 b5 b6 b7
end Go.Vc
