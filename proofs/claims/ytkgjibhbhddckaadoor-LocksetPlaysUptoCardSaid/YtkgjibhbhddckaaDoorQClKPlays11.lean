/- Counting the bits of a word, eight bits at a time. No program. -/
import Derived.Test.YtkgjibhbhddckaaDoorQClKPlays7
import Derived.Test.YtkgjibhbhddckaaDoorQClKPlays10
namespace Go.Vc
open Go

theorem testBit_byte {b y : Nat} (hb : b < 256) (j : Nat) : (b + 256 * y).testBit j = if j < 8 then b.testBit j else y.testBit (j - 8) := by
  have h : b + 256 * y = 2 ^ 8 * y + b := by omega
  rw [h, Nat.testBit_two_pow_mul_add y (by omega : b < 2 ^ 8)]
theorem byte_and {b y c M : Nat} (hb : b < 256) (hc : c < 256) : (b + 256 * y) &&& (c + 256 * M) = (b &&& c) + 256 * (y &&& M) := by
  have hbc : b &&& c < 256 := Nat.lt_of_le_of_lt Nat.and_le_left hb
  apply Nat.eq_of_testBit_eq
  intro j
  rw [Nat.testBit_and, testBit_byte hb, testBit_byte hc, testBit_byte hbc]
  split <;> rw [Nat.testBit_and]
/-- the mask of k bytes -/
def mask (c : Nat) : Nat → Nat
  | 0 => 0
  | k + 1 => c + 256 * mask c k
def s1 (s c k x : Nat) : Nat := ((x >>> s) &&& mask c k) + (x &&& mask c k)
def f1 (s c b : Nat) : Nat := ((b >>> s) &&& c) + (b &&& c)
theorem shr_and {s b y c M : Nat} (hb : b < 256) (hc : c < 256) (hd : ∀ j, j < 8 → 8 ≤ s + j → c.testBit j = false) : ((b + 256 * y) >>> s) &&& (c + 256 * M) = ((b >>> s) &&& c) + 256 * ((y >>> s) &&& M) := by
  have hbc : (b >>> s) &&& c < 256 := Nat.lt_of_le_of_lt Nat.and_le_right hc
  apply Nat.eq_of_testBit_eq
  intro j
  rw [Nat.testBit_and, Nat.testBit_shiftRight, testBit_byte hb, testBit_byte hc, testBit_byte hbc]
  by_cases hj : j < 8
  · rw [if_pos hj, if_pos hj, Nat.testBit_and, Nat.testBit_shiftRight]
    by_cases hs : s + j < 8
    · rw [if_pos hs]
    · rw [hd j hj (by omega)]; simp
  · rw [if_neg hj, if_neg hj, if_neg (by omega), Nat.testBit_and, Nat.testBit_shiftRight]
    have : s + j - 8 = s + (j - 8) := by omega
    rw [this]
theorem s1_cons {s c k b y : Nat} (hb : b < 256) (hc : c < 256) (hd : ∀ j, j < 8 → 8 ≤ s + j → c.testBit j = false) : s1 s c (k + 1) (b + 256 * y) = f1 s c b + 256 * s1 s c k y := by
  unfold s1 f1
  show ((b + 256 * y) >>> s &&& (c + 256 * mask c k)) + ((b + 256 * y) &&& (c + 256 * mask c k)) = _
  rw [shr_and hb hc hd, byte_and hb hc]
  omega
def s3 (k x : Nat) : Nat := ((x >>> 4) + x) &&& mask 15 k
theorem s3_cons {k c z : Nat} (hc : c < 256) (hc4 : c / 16 ≤ 4) (hz : z % 16 ≤ 4) : s3 (k + 1) (c + 256 * z) = ((c >>> 4) + c) % 16 + 256 * s3 k z := by
  unfold s3
  have e1 : ((c + 256 * z) >>> 4) + (c + 256 * z) = ((c / 16) + 16 * (z % 16) + c) + 256 * ((z >>> 4) + z) := by
    rw [Nat.shiftRight_eq_div_pow, Nat.shiftRight_eq_div_pow]
    show (c + 256 * z) / 16 + (c + 256 * z) = _ + 256 * (z / 16 + z)
    omega
  rw [e1]
  show _ &&& (15 + 256 * mask 15 k) = _
  have e3 : c >>> 4 = c / 16 := Nat.shiftRight_eq_div_pow c 4
  rw [byte_and (by omega) (by omega), e3]
  have e2 : ((c / 16) + 16 * (z % 16) + c) &&& 15 = ((c / 16) + 16 * (z % 16) + c) % 16 := Nat.and_two_pow_sub_one_eq_mod _ 4
  rw [e2]
  have e4 : (c / 16 + 16 * (z % 16) + c) % 16 = (c / 16 + c) % 16 := by omega
  rw [e4]
def byteN (x : Nat) (i : Nat) : Nat := x / 256 ^ i % 256
/-- what the count of a byte comes to -/
def pc (b : Nat) : Nat := ((f1 2 51 (f1 1 85 b) >>> 4) + f1 2 51 (f1 1 85 b)) % 16
theorem f_facts : ∀ b, b < 256 → f1 1 85 b < 256 ∧ f1 2 51 (f1 1 85 b) < 256 ∧ f1 2 51 (f1 1 85 b) / 16 ≤ 4 ∧ f1 2 51 (f1 1 85 b) % 16 ≤ 4 ∧ pc b = popN 8 b ∧ pc b ≤ 8 := by decide +kernel
/-- the three steps on k bytes -/
def sw (k x : Nat) : Nat := s3 k (s1 2 51 k (s1 1 85 k x))
theorem low16 {k b y : Nat} (hb : b < 256) : s1 2 51 (k + 1) (s1 1 85 (k + 1) (b + 256 * y)) % 16 ≤ 4 := by
  obtain ⟨h1, h2, h3, h4, _⟩ := f_facts b hb
  rw [s1_cons hb (by omega) (by decide), s1_cons h1 (by omega) (by decide)]
  omega
theorem sw_cons {k b y : Nat} (hb : b < 256) (hz : s1 2 51 k (s1 1 85 k y) % 16 ≤ 4) : sw (k + 1) (b + 256 * y) = pc b + 256 * sw k y := by
  obtain ⟨h1, h2, h3, h4, _⟩ := f_facts b hb
  unfold sw
  rw [s1_cons hb (by omega) (by decide), s1_cons h1 (by omega) (by decide), s3_cons h2 h3 hz]
  rfl
theorem sw_zero (y : Nat) : s1 2 51 0 (s1 1 85 0 y) % 16 ≤ 4 := by simp [s1, mask]
theorem sw_any {k x : Nat} : s1 2 51 k (s1 1 85 k x) % 16 ≤ 4 := by
  cases k with
  | zero => exact sw_zero x
  | succ k =>
    have : x = x % 256 + 256 * (x / 256) := by omega
    rw [this]; exact low16 (by omega)
theorem sw_step (k x : Nat) : sw (k + 1) x = pc (x % 256) + 256 * sw k (x / 256) := by
  conv => lhs; rw [show x = x % 256 + 256 * (x / 256) by omega]
  exact sw_cons (by omega) sw_any
theorem pop_step (k x : Nat) : popN (8 + k) x = popN 8 (x % 256) + popN k (x / 256) := by
  unfold popN
  rw [List.range_add, List.filter_append, List.length_append]
  have hx : x = x % 256 + 256 * (x / 256) := by omega
  congr 1
  · congr 1
    apply List.filter_congr
    intro j hj
    have hj : j < 8 := by simpa using hj
    conv => lhs; rw [hx]
    rw [testBit_byte (by omega), if_pos hj]
  · rw [List.filter_map, List.length_map]
    congr 1
    apply List.filter_congr
    intro j _
    simp only [Function.comp]
    conv => lhs; rw [hx]
    rw [testBit_byte (by omega), if_neg (by omega)]
    congr 1; omega
theorem pc_pop (x : Nat) : pc (x % 256) = popN 8 (x % 256) ∧ popN 8 (x % 256) ≤ 8 := by
  obtain ⟨_, _, _, _, h5, h6⟩ := f_facts (x % 256) (by omega)
  omega
theorem div_by {E A Q N : Nat} (hN : 0 < N) (h : E = A + N * Q) (hA : A < N) : E / N = Q := by
  subst h
  rw [Nat.add_mul_div_left _ _ hN, Nat.div_eq_of_lt hA, Nat.zero_add]
theorem pop_arith (p0 p1 p2 p3 p4 p5 p6 p7 : Nat) (h0 : p0 ≤ 8) (h1 : p1 ≤ 8) (h2 : p2 ≤ 8) (h3 : p3 ≤ 8) (h4 : p4 ≤ 8) (h5 : p5 ≤ 8) (h6 : p6 ≤ 8) (h7 : p7 ≤ 8) (x3 : Nat) (hx : x3 = p0 + 256 * (p1 + 256 * (p2 + 256 * (p3 + 256 * (p4 + 256 * (p5 + 256 * (p6 + 256 * (p7)))))))) :
    x3 < 2 ^ 61 ∧ x3 + x3 / 256 < 2 ^ 62 ∧
    (((x3 + x3 / 256) + (x3 + x3 / 256) / 65536) + ((x3 + x3 / 256) + (x3 + x3 / 256) / 65536) / 4294967296) % 128 = p0 + (p1 + (p2 + (p3 + (p4 + (p5 + (p6 + p7)))))) ∧
    ((x3 + x3 / 256) + (x3 + x3 / 256) / 65536) + ((x3 + x3 / 256) + (x3 + x3 / 256) / 65536) / 4294967296 < 2 ^ 63 := by
  have e1 : x3 / 256 = p1 + 256 * (p2 + 256 * (p3 + 256 * (p4 + 256 * (p5 + 256 * (p6 + 256 * (p7)))))) := div_by (by decide) (by rw [hx]) (by omega)
  have e2 : x3 + x3 / 256 = (p0 + p1) + 256 * ((p1 + p2) + 256 * ((p2 + p3) + 256 * ((p3 + p4) + 256 * ((p4 + p5) + 256 * ((p5 + p6) + 256 * ((p6 + p7) + 256 * (p7))))))) := by rw [e1, hx]; omega
  have e3 : (x3 + x3 / 256) / 65536 = (p2 + p3) + 256 * ((p3 + p4) + 256 * ((p4 + p5) + 256 * ((p5 + p6) + 256 * ((p6 + p7) + 256 * (p7))))) := by
    refine div_by (A := (p0 + p1) + 256 * (p1 + p2)) (by decide) ?_ (by omega)
    rw [e2]; omega
  have e4 : (x3 + x3 / 256) + (x3 + x3 / 256) / 65536 = (p0 + p1 + p2 + p3) + 256 * ((p1 + p2 + p3 + p4) + 256 * ((p2 + p3 + p4 + p5) + 256 * ((p3 + p4 + p5 + p6) + 256 * ((p4 + p5 + p6 + p7) + 256 * ((p5 + p6 + p7) + 256 * ((p6 + p7) + 256 * ((p7)))))))) := by rw [e3, e2]; omega
  have e5 : ((x3 + x3 / 256) + (x3 + x3 / 256) / 65536) / 4294967296 = (p4 + p5 + p6 + p7) + 256 * ((p5 + p6 + p7) + 256 * ((p6 + p7) + 256 * ((p7)))) := by
    refine div_by (A := (p0 + p1 + p2 + p3) + 256 * ((p1 + p2 + p3 + p4) + 256 * ((p2 + p3 + p4 + p5) + 256 * ((p3 + p4 + p5 + p6))))) (by decide) ?_ (by omega)
    rw [e4]; omega
  rw [e5, e4, e2]
  clear e1 e2 e3 e4 e5
  subst hx
  refine ⟨by omega, by omega, ?_, by omega⟩
  have e6 : ((p0 + p1 + p2 + p3) + 256 * ((p1 + p2 + p3 + p4) + 256 * ((p2 + p3 + p4 + p5) + 256 * ((p3 + p4 + p5 + p6) + 256 * ((p4 + p5 + p6 + p7) + 256 * ((p5 + p6 + p7) + 256 * ((p6 + p7) + 256 * ((p7))))))))) + ((p4 + p5 + p6 + p7) + 256 * ((p5 + p6 + p7) + 256 * ((p6 + p7) + 256 * ((p7))))) = (p0 + (p1 + (p2 + (p3 + (p4 + (p5 + (p6 + p7))))))) + 128 * (2 * ((p1 + p2 + p3 + p4) + 256 * ((p2 + p3 + p4 + p5) + 256 * ((p3 + p4 + p5 + p6) + 256 * ((p4 + p5 + p6 + p7) + 256 * ((p5 + p6 + p7) + 256 * ((p6 + p7) + 256 * ((p7)))))))) + 2 * ((p5 + p6 + p7) + 256 * ((p6 + p7) + 256 * ((p7))))) := by omega
  rw [e6, Nat.add_mul_mod_self_left, Nat.mod_eq_of_lt (by omega)]
theorem le_sum8 {p0 p1 p2 p3 p4 p5 p6 p7 : Nat} (h0 : p0 ≤ 8) (h1 : p1 ≤ 8) (h2 : p2 ≤ 8) (h3 : p3 ≤ 8) (h4 : p4 ≤ 8) (h5 : p5 ≤ 8) (h6 : p6 ≤ 8) (h7 : p7 ≤ 8) : p0 + (p1 + (p2 + (p3 + (p4 + (p5 + (p6 + p7)))))) ≤ 64 := by omega
/-- the sums behind the three steps -/
theorem pop_fin (x : Nat) : ∃ x3, sw 8 x = x3 ∧ x3 < 2 ^ 61 ∧ x3 + x3 / 256 < 2 ^ 62 ∧
    (((x3 + x3 / 256) + (x3 + x3 / 256) / 65536) + ((x3 + x3 / 256) + (x3 + x3 / 256) / 65536) / 4294967296) % 128 = pop x ∧
    ((x3 + x3 / 256) + (x3 + x3 / 256) / 65536) + ((x3 + x3 / 256) + (x3 + x3 / 256) / 65536) / 4294967296 < 2 ^ 63 ∧ pop x ≤ 64 := by
  have hp : pop x = popN 8 (x % 256) + (popN 8 (x / 256 % 256) + (popN 8 (x / 256 / 256 % 256) + (popN 8 (x / 256 / 256 / 256 % 256) + (popN 8 (x / 256 / 256 / 256 / 256 % 256) + (popN 8 (x / 256 / 256 / 256 / 256 / 256 % 256) + (popN 8 (x / 256 / 256 / 256 / 256 / 256 / 256 % 256) + (popN 8 (x / 256 / 256 / 256 / 256 / 256 / 256 / 256 % 256)))))))) := by
    have h64 : pop x = popN 64 x := rfl
    have q0 : popN 64 (x) = popN 8 (x % 256) + popN 56 (x / 256) := pop_step 56 (x)
    have q1 : popN 56 (x / 256) = popN 8 (x / 256 % 256) + popN 48 (x / 256 / 256) := pop_step 48 (x / 256)
    have q2 : popN 48 (x / 256 / 256) = popN 8 (x / 256 / 256 % 256) + popN 40 (x / 256 / 256 / 256) := pop_step 40 (x / 256 / 256)
    have q3 : popN 40 (x / 256 / 256 / 256) = popN 8 (x / 256 / 256 / 256 % 256) + popN 32 (x / 256 / 256 / 256 / 256) := pop_step 32 (x / 256 / 256 / 256)
    have q4 : popN 32 (x / 256 / 256 / 256 / 256) = popN 8 (x / 256 / 256 / 256 / 256 % 256) + popN 24 (x / 256 / 256 / 256 / 256 / 256) := pop_step 24 (x / 256 / 256 / 256 / 256)
    have q5 : popN 24 (x / 256 / 256 / 256 / 256 / 256) = popN 8 (x / 256 / 256 / 256 / 256 / 256 % 256) + popN 16 (x / 256 / 256 / 256 / 256 / 256 / 256) := pop_step 16 (x / 256 / 256 / 256 / 256 / 256)
    have q6 : popN 16 (x / 256 / 256 / 256 / 256 / 256 / 256) = popN 8 (x / 256 / 256 / 256 / 256 / 256 / 256 % 256) + popN 8 (x / 256 / 256 / 256 / 256 / 256 / 256 / 256) := pop_step 8 (x / 256 / 256 / 256 / 256 / 256 / 256)
    have q7 : popN 8 (x / 256 / 256 / 256 / 256 / 256 / 256 / 256) = popN 8 (x / 256 / 256 / 256 / 256 / 256 / 256 / 256 % 256) + popN 0 (x / 256 / 256 / 256 / 256 / 256 / 256 / 256 / 256) := pop_step 0 (x / 256 / 256 / 256 / 256 / 256 / 256 / 256)
    have q8 : popN 0 (x / 256 / 256 / 256 / 256 / 256 / 256 / 256 / 256) = 0 := rfl
    rw [h64, q0, q1, q2, q3, q4, q5, q6, q7, q8, Nat.add_zero]
  have hs : sw 8 x = pc (x % 256) + 256 * (pc (x / 256 % 256) + 256 * (pc (x / 256 / 256 % 256) + 256 * (pc (x / 256 / 256 / 256 % 256) + 256 * (pc (x / 256 / 256 / 256 / 256 % 256) + 256 * (pc (x / 256 / 256 / 256 / 256 / 256 % 256) + 256 * (pc (x / 256 / 256 / 256 / 256 / 256 / 256 % 256) + 256 * (pc (x / 256 / 256 / 256 / 256 / 256 / 256 / 256 % 256) + 256 * 0))))))) := by
    have q0 : sw 8 (x) = pc (x % 256) + 256 * sw 7 (x / 256) := sw_step 7 (x)
    have q1 : sw 7 (x / 256) = pc (x / 256 % 256) + 256 * sw 6 (x / 256 / 256) := sw_step 6 (x / 256)
    have q2 : sw 6 (x / 256 / 256) = pc (x / 256 / 256 % 256) + 256 * sw 5 (x / 256 / 256 / 256) := sw_step 5 (x / 256 / 256)
    have q3 : sw 5 (x / 256 / 256 / 256) = pc (x / 256 / 256 / 256 % 256) + 256 * sw 4 (x / 256 / 256 / 256 / 256) := sw_step 4 (x / 256 / 256 / 256)
    have q4 : sw 4 (x / 256 / 256 / 256 / 256) = pc (x / 256 / 256 / 256 / 256 % 256) + 256 * sw 3 (x / 256 / 256 / 256 / 256 / 256) := sw_step 3 (x / 256 / 256 / 256 / 256)
    have q5 : sw 3 (x / 256 / 256 / 256 / 256 / 256) = pc (x / 256 / 256 / 256 / 256 / 256 % 256) + 256 * sw 2 (x / 256 / 256 / 256 / 256 / 256 / 256) := sw_step 2 (x / 256 / 256 / 256 / 256 / 256)
    have q6 : sw 2 (x / 256 / 256 / 256 / 256 / 256 / 256) = pc (x / 256 / 256 / 256 / 256 / 256 / 256 % 256) + 256 * sw 1 (x / 256 / 256 / 256 / 256 / 256 / 256 / 256) := sw_step 1 (x / 256 / 256 / 256 / 256 / 256 / 256)
    have q7 : sw 1 (x / 256 / 256 / 256 / 256 / 256 / 256 / 256) = pc (x / 256 / 256 / 256 / 256 / 256 / 256 / 256 % 256) + 256 * sw 0 (x / 256 / 256 / 256 / 256 / 256 / 256 / 256 / 256) := sw_step 0 (x / 256 / 256 / 256 / 256 / 256 / 256 / 256)
    have q8 : sw 0 (x / 256 / 256 / 256 / 256 / 256 / 256 / 256 / 256) = 0 := by simp [sw, s3, mask]
    rw [q0, q1, q2, q3, q4, q5, q6, q7, q8]
  obtain ⟨a0, b0⟩ := pc_pop x
  obtain ⟨a1, b1⟩ := pc_pop (x / 256)
  obtain ⟨a2, b2⟩ := pc_pop (x / 256 / 256)
  obtain ⟨a3, b3⟩ := pc_pop (x / 256 / 256 / 256)
  obtain ⟨a4, b4⟩ := pc_pop (x / 256 / 256 / 256 / 256)
  obtain ⟨a5, b5⟩ := pc_pop (x / 256 / 256 / 256 / 256 / 256)
  obtain ⟨a6, b6⟩ := pc_pop (x / 256 / 256 / 256 / 256 / 256 / 256)
  obtain ⟨a7, b7⟩ := pc_pop (x / 256 / 256 / 256 / 256 / 256 / 256 / 256)
  rw [a0, a1, a2, a3, a4, a5, a6, a7, Nat.mul_zero, Nat.add_zero] at hs
  have hs' := pop_arith _ _ _ _ _ _ _ _ b0 b1 b2 b3 b4 b5 b6 b7 (sw 8 x) (by rw [hs])
  rw [← hp] at hs'
  refine ⟨sw 8 x, rfl, hs'.1, hs'.2.1, hs'.2.2.1, hs'.2.2.2, ?_⟩
  rw [hp]; exact le_sum8 b0 b1 b2 b3 b4 b5 b6 b7
end Go.Vc
/- bits: OnesCount64, Len; the law's small functions. -/
namespace Go.Vc
open Go Go.Proofs
set_option maxRecDepth 10000
variable {w : World}

theorem sum_and {s x M : Nat} (hx : x < 2 ^ 64) (hs : s ≤ 64) (hM : M + M < 2 ^ 64) :
    IntKind.u64.wrap (ibits .and .u64 (Int.fdiv (x : Int) (2 ^ (min s 64))) (M : Int) + ibits .and .u64 (x : Int) (M : Int)) = ((((x >>> s) &&& M) + (x &&& M) : Nat) : Int) := by
  have h1 : x >>> s < 2 ^ 64 := Nat.lt_of_le_of_lt (by rw [Nat.shiftRight_eq_div_pow]; exact Nat.div_le_self _ _) hx
  have h2 : (x >>> s) &&& M ≤ M := Nat.and_le_right
  have h3 : x &&& M ≤ M := Nat.and_le_right
  rw [shrU hs, ibits_and h1 (by omega), ibits_and hx (by omega), wrapU]
  generalize (x >>> s) &&& M = a at h2
  generalize x &&& M = b at h3
  omega
theorem mask85 : mask 85 8 = 6148914691236517205 := by decide
theorem mask51 : mask 51 8 = 3689348814741910323 := by decide
theorem mask15 : mask 15 8 = 1085102592571150095 := by decide
theorem and127 {n : Nat} (h : n < 2 ^ 63) : ibits .and .i64 (n : Int) 127 = ((n % 128 : Nat) : Int) := by
  show IntKind.i64.wrap ((BitVec.ofInt 64 (n : Int) &&& BitVec.ofInt 64 127).toNat : Int) = _
  rw [BitVec.toNat_and, bvU n (by omega)]
  have e1 : (BitVec.ofInt 64 127).toNat = 2 ^ 7 - 1 := by decide
  rw [e1, Nat.and_two_pow_sub_one_eq_mod, IntKind.wrap_i64]
  omega
theorem ones_ret {x : Nat} (hx : x < 2 ^ 64) : Ret Tryd.prog 93 [U x] w (fun v w' => v = I (pop x) ∧ w' = w) := by
  obtain ⟨x3, h3, hb1, hb2, hres, hb3, hle⟩ := pop_fin x
  have hs1 : s1 1 85 8 x ≤ 2 * 6148914691236517205 := by
    unfold s1; rw [mask85]
    have := Nat.and_le_right (n := x >>> 1) (m := 6148914691236517205); have := Nat.and_le_right (n := x) (m := 6148914691236517205); omega
  have hs2 : s1 2 51 8 (s1 1 85 8 x) ≤ 2 * 3689348814741910323 := by
    unfold s1; rw [mask51]
    have := Nat.and_le_right (n := (((x >>> 1) &&& mask 85 8) + (x &&& mask 85 8)) >>> 2) (m := 3689348814741910323); have := Nat.and_le_right (n := (((x >>> 1) &&& mask 85 8) + (x &&& mask 85 8))) (m := 3689348814741910323); omega
  refine enter Tryd.call93 Tryd.func93 rfl rfl rfl rfl ?_
  refine r_seq ?_
  refine r_cut (α := Unit) [0] (fun _ => [U x]) (fun _ w1 => w = w1) ?_ ?_
  · (repeat first|refine zg ?_|refine zo rfl rfl trivial ?_|refine zn ?_)
    exact ⟨(), rfl, rfl⟩
  rintro ⟨⟩ e w1 rfl
  have q1 := sum_and (s := 1) hx (by omega) (M := 6148914691236517205) (by decide)
  have q1' : ((x >>> 1) &&& 6148914691236517205) + (x &&& 6148914691236517205) = s1 1 85 8 x := by unfold s1; rw [mask85]
  rw [q1'] at q1
  refine r_seq ?_
  refine r_cut (α := Unit) [0] (fun _ => [U (s1 1 85 8 x)]) (fun _ w1 => w = w1) ?_ ?_
  · (repeat first|refine zg ?_|refine zo rfl rfl (by first|exact trivial|(simp only[AllP];omega)) ?_|refine zn ?_)
    refine ⟨(), ?_, rfl⟩
    exact congrArg (fun z => [Value.int .u64 z]) q1
  rintro ⟨⟩ e w1 rfl
  have q2 := sum_and (x := s1 1 85 8 x) (s := 2) (by omega) (by omega) (M := 3689348814741910323) (by decide)
  have q2' : ((s1 1 85 8 x >>> 2) &&& 3689348814741910323) + (s1 1 85 8 x &&& 3689348814741910323) = s1 2 51 8 (s1 1 85 8 x) := by
    conv => rhs; unfold s1
    rw [mask51]; rfl
  rw [q2'] at q2
  refine r_seq ?_
  refine r_cut (α := Unit) [0] (fun _ => [U (s1 2 51 8 (s1 1 85 8 x))]) (fun _ w1 => w = w1) ?_ ?_
  · (repeat first|refine zg ?_|refine zo rfl rfl (by first|exact trivial|(simp only[AllP];omega)) ?_|refine zn ?_)
    refine ⟨(), ?_, rfl⟩
    exact congrArg (fun z => [Value.int .u64 z]) q2
  rintro ⟨⟩ e w1 rfl
  have hy : ∀ y : Nat, y < 2 ^ 63 → y >>> 4 = y / 16 := fun y _ => Nat.shiftRight_eq_div_pow y 4
  have q3 : ibits .and .u64 (IntKind.u64.wrap (Int.fdiv ((s1 2 51 8 (s1 1 85 8 x) : Nat) : Int) (2 ^ (min 4 64)) + ((s1 2 51 8 (s1 1 85 8 x) : Nat) : Int))) 1085102592571150095 = ((x3 : Nat) : Int) := by
    rw [shrU (by omega), ← h3]
    have e1 : IntKind.u64.wrap ((((s1 2 51 8 (s1 1 85 8 x)) >>> 4 : Nat) : Int) + ((s1 2 51 8 (s1 1 85 8 x) : Nat) : Int)) = (((s1 2 51 8 (s1 1 85 8 x)) >>> 4 + s1 2 51 8 (s1 1 85 8 x) : Nat) : Int) := by
      rw [wrapU, Nat.shiftRight_eq_div_pow]
      generalize s1 2 51 8 (s1 1 85 8 x) = y at hs2
      omega
    rw [e1]
    have e2 : (s1 2 51 8 (s1 1 85 8 x)) >>> 4 + s1 2 51 8 (s1 1 85 8 x) < 2 ^ 64 := by
      rw [Nat.shiftRight_eq_div_pow]
      generalize s1 2 51 8 (s1 1 85 8 x) = y at hs2
      omega
    have e3 := ibits_and e2 (b := 1085102592571150095) (by decide)
    unfold sw s3
    rw [mask15]
    exact e3
  refine r_seq ?_
  refine r_cut (α := Unit) [0] (fun _ => [U (x3)]) (fun _ w1 => w = w1) ?_ ?_
  · (repeat first|refine zg ?_|refine zo rfl rfl (by first|exact trivial|(simp only[AllP];omega)) ?_|refine zn ?_)
    refine ⟨(), ?_, rfl⟩
    exact congrArg (fun z => [Value.int .u64 z]) q3
  rintro ⟨⟩ e w1 rfl
  have q4 : ∀ (s y : Nat), s ≤ 64 → y + y / 2 ^ s < 2 ^ 64 → IntKind.u64.wrap ((y : Int) + Int.fdiv (y : Int) (2 ^ (min s 64))) = ((y + y / 2 ^ s : Nat) : Int) := by
    intro s y hs hy
    rw [shrU hs, wrapU, Nat.shiftRight_eq_div_pow]
    generalize y / 2 ^ s = z at hy
    omega
  refine r_seq ?_
  refine r_cut (α := Unit) [0] (fun _ => [U (x3 + x3 / 256)]) (fun _ w1 => w = w1) ?_ ?_
  · (repeat first|refine zg ?_|refine zo rfl rfl (by first|exact trivial|(simp only[AllP];omega)) ?_|refine zn ?_)
    refine ⟨(), ?_, rfl⟩
    exact congrArg (fun z => [Value.int .u64 z]) (q4 8 x3 (by omega) (by show x3 + x3 / 256 < _; omega))
  rintro ⟨⟩ e w1 rfl
  refine r_seq ?_
  refine r_cut (α := Unit) [0] (fun _ => [U ((x3 + x3 / 256) + (x3 + x3 / 256) / 65536)]) (fun _ w1 => w = w1) ?_ ?_
  · (repeat first|refine zg ?_|refine zo rfl rfl (by first|exact trivial|(simp only[AllP];omega)) ?_|refine zn ?_)
    refine ⟨(), ?_, rfl⟩
    exact congrArg (fun z => [Value.int .u64 z]) (q4 16 (x3 + x3 / 256) (by omega) (by show x3 + x3 / 256 + (x3 + x3 / 256) / 65536 < _; omega))
  rintro ⟨⟩ e w1 rfl
  refine r_seq ?_
  refine r_cut (α := Unit) [0] (fun _ => [U (((x3 + x3 / 256) + (x3 + x3 / 256) / 65536) + ((x3 + x3 / 256) + (x3 + x3 / 256) / 65536) / 4294967296)]) (fun _ w1 => w = w1) ?_ ?_
  · (repeat first|refine zg ?_|refine zo rfl rfl (by first|exact trivial|(simp only[AllP];omega)) ?_|refine zn ?_)
    refine ⟨(), ?_, rfl⟩
    exact congrArg (fun z => [Value.int .u64 z]) (q4 32 ((x3 + x3 / 256) + (x3 + x3 / 256) / 65536) (by omega) (by show x3 + x3 / 256 + (x3 + x3 / 256) / 65536 + (x3 + x3 / 256 + (x3 + x3 / 256) / 65536) / 4294967296 < _; omega))
  rintro ⟨⟩ e w1 rfl
  generalize (x3 + x3 / 256) + (x3 + x3 / 256) / 65536 + ((x3 + x3 / 256) + (x3 + x3 / 256) / 65536) / 4294967296 = y at hres hb3 ⊢
  (repeat first|refine zA ?_|refine zg ?_|refine zo rfl rfl (by first|exact trivial|(simp only[AllP];omega)) ?_|refine zn ?_|refine zr ?_)
  refine ⟨_, rfl, ?_, rfl⟩
  rw [← hres]
  exact congrArg (fun z => Value.int .i64 z) (and127 hb3)

/-! ### Len -/
def lenW (ws : List Nat) : Nat := (ws.map pop).sum
theorem lenW_snoc (l : List Nat) (x : Nat) : lenW (l ++ [x]) = lenW l + pop x := by simp [lenW]
theorem pop_le (x : Nat) : pop x ≤ 64 := by
  unfold pop popN
  have := List.length_filter_le x.testBit (List.range 64)
  simpa using this
theorem lenW_le (l : List Nat) : lenW l ≤ 64 * l.length := by
  induction l with
  | nil => simp [lenW]
  | cons x r ih => have := pop_le x; simp only [lenW, List.map_cons, List.sum_cons, List.length_cons] at *; omega
theorem elems_snoc (l : List Nat) (x : Nat) : (elems (l ++ [x])).length = (elems l).length + pop x := by
  unfold elems
  have e1 : 64 * (l ++ [x]).length = 64 * l.length + 64 := by simp; omega
  rw [e1, List.range_add, List.filter_append, List.length_append]
  congr 1
  · congr 1
    apply List.filter_congr
    intro j hj
    have hj : j < 64 * l.length := by simpa using hj
    unfold bit
    rw [List.getD_eq_getElem?_getD, List.getD_eq_getElem?_getD, List.getElem?_append_left (by omega)]
  · rw [List.filter_map, List.length_map]
    unfold pop popN
    congr 1
    apply List.filter_congr
    intro j hj
    have hj : j < 64 := by simpa using hj
    simp only [Function.comp]
    unfold bit
    have h1 : (64 * l.length + j) / 64 = l.length := by omega
    have h2 : (64 * l.length + j) % 64 = j := by omega
    rw [h1, h2, List.getD_eq_getElem?_getD]; simp
theorem lenW_elems (ws : List Nat) : lenW ws = (elems ws).length := by
  have key : ∀ n, n ≤ ws.length → lenW (ws.take n) = (elems (ws.take n)).length := by
    intro n
    induction n with
    | zero => intro _; simp [lenW, elems]
    | succ n ih =>
      intro hn
      have h1 : ws.take (n + 1) = ws.take n ++ [ws[n]] := by rw [List.take_add_one, List.getElem?_eq_getElem (by omega)]; rfl
      rw [h1, lenW_snoc, elems_snoc, ih (by omega)]
  have := key ws.length (Nat.le_refl _)
  rwa [List.take_length] at this
theorem Len_ret {p : Nat} {ws : List Nat} {ad : Option Addr} {cap : Nat} (h : SetAt w p ws ad cap) :
    Ret Tryd.prog 69 [ptr p] w (fun v w' => v = I (elems ws).length ∧ w' = w) := by
  have hlen := h.len
  rw [← lenW_elems]
  refine enter Tryd.call69 Tryd.func69 rfl rfl rfl rfl ?_
  (repeat first|refine zA ?_|refine zB ?_|refine zg ?_|refine zo rfl rfl trivial ?_|refine zn ?_)
  refine o_call (there_ret h) rfl rfl rfl ?_
  rintro v w' ⟨rfl, rfl⟩
  (repeat first|refine zA ?_|refine zB ?_|refine zg ?_|refine zo rfl rfl trivial ?_|refine zn ?_|refine zk ?_|refine zf rfl ?_)
  refine o_load rfl h.hdr rfl rfl rfl rfl rfl ?_
  (repeat first|refine zo rfl rfl trivial ?_|refine zn ?_|refine zb ?_)
  refine r_loop (α := Nat) [3, 12, 13, 14] (fun i => [I (lenW (ws.take i)), .slice ad ws.length cap, I ws.length, I i]) (fun i w1 => w' = w1 ∧ i ≤ ws.length) (fun i => ws.length - i) 0 rfl ⟨rfl, by omega⟩ ?_
  rintro i e w1 ⟨rfl, hi⟩
  (repeat first|refine zA ?_|refine zD ?_|refine zg ?_|refine zo rfl rfl trivial ?_|refine zn ?_)
  refine r_if rfl (fun hc => ?_) (fun hc => ?_)
  · have hlt : i < ws.length := by omega
    obtain ⟨b, off, rfl, _, hcell⟩ := h.own.read.at_ (by simp; omega)
    have htk : ws.take (i + 1) = ws.take i ++ [ws[i]] := by rw [List.take_add_one, List.getElem?_eq_getElem hlt]; rfl
    have hle := lenW_le (ws.take i)
    have hle2 := pop_le ws[i]
    have hlt2 : (ws.take i).length ≤ 16384 := by simp; omega
    (repeat first|refine zA ?_|refine zC ?_|refine zg ?_|refine zo rfl rfl (by first|exact trivial|(simp only[AllP];omega)) ?_|refine zb ?_|refine zk ?_)
    refine o_loadc (v := U ws[i]) rfl (hcell i _ (by simp [hlt])) rfl rfl rfl rfl ?_
    (repeat first|refine zg ?_|refine zo rfl rfl trivial ?_|refine zn ?_)
    refine o_call (ones_ret (h.ok _ (List.getElem_mem hlt))) rfl rfl rfl ?_
    rintro v w2 ⟨rfl, rfl⟩
    (repeat first|refine zg ?_|refine zo rfl rfl (by first|exact trivial|(simp only[AllP];omega)) ?_|refine zn ?_)
    refine ⟨i + 1, ?_, ⟨rfl, by omega⟩, by omega⟩
    rw [htk, lenW_snoc]; rfl
  · have : i = ws.length := by omega
    subst this
    rw [List.take_length]
    (repeat first|refine zA ?_|refine zg ?_|refine zo rfl rfl trivial ?_|refine zn ?_|refine ze rfl ?_|refine zr ?_)
    exact ⟨_, rfl, rfl, rfl⟩
/-! ### The law's small functions -/
def nearL (l : List Int) : List Int := l.map fun x => Int.tmod (Int.tmod x 1048576 + 1048576) 1048576
end Go.Vc
/- bits: lives. -/
namespace Go.Vc
open Go Go.Proofs
set_option maxRecDepth 10000
variable {w : World}

theorem map_encI (l : List Nat) : l.map encI = (l.map (fun k : Nat => (k : Int))).map I := by rw [List.map_map]; rfl

end Go.Vc
/- bits: Copy, Within, Meets, Equal. -/
namespace Go.Vc
open Go Go.Proofs
set_option maxRecDepth 10000
variable {w : World}

theorem NewS.noth {T : TypeId} {ad : Option Addr} {n cap : Nat} {xs : List Value} {w' : World} (h : NewS w T w' ad n cap xs) (hT : TabW w) : 0 ∉ blkOf ad := fun hb => by
  have := h.new _ hb; have := hT.lt; omega
theorem Copy_ret (hT : TabW w) {p : Nat} {ws : List Nat} {ad : Option Addr} {cap : Nat} (h : SetAt w p ws ad cap) :
    Ret Tryd.prog 51 [ptr p] w (fun v w' => ∃ p' ad' cap', v = ptr p' ∧ NewSet w p' w' ws ad' cap') := by
  refine enter Tryd.call51 Tryd.func51 rfl rfl rfl rfl ?_
  (repeat first|refine zA ?_|refine zB ?_|refine zg ?_|refine zo rfl rfl trivial ?_|refine zn ?_)
  refine o_call (there_ret h) rfl rfl rfl ?_
  rintro v w' ⟨rfl, rfl⟩
  (repeat first|refine zA ?_|refine zg ?_|refine zo rfl rfl trivial ?_|refine zn ?_|refine zk ?_|refine zf rfl ?_)
  refine o_call (Words_ret h) rfl rfl rfl ?_
  rintro v w2 ⟨ad2, cap2, rfl, hn⟩
  refine o_build [B true, .slice ad2 ws.length cap2] rfl rfl rfl rfl rfl rfl rfl ?_
  refine o_box rfl rfl rfl ?_
  intro p' w3 hp hu
  have hk := hn.kp.size
  have hne : p' ∉ blkOf ad2 := fun hb => by have := hn.own.lt p' hb; omega
  (repeat first|refine zo rfl rfl trivial ?_|refine zn ?_|refine zr ?_)
  refine ⟨_, rfl, p', ad2, cap2, rfl, ⟨hu.blk, hn.own.upd hu hne, h.ok, h.len, ?_⟩, hn.kp.trans (hu.kp [] (.inr (by omega))), ?_⟩
  · intro hb
    rcases List.mem_cons.1 hb with hb | hb
    · have := hT.lt; omega
    · exact hn.noth hT hb
  · intro b hb
    rcases List.mem_cons.1 hb with rfl | hb
    · omega
    · exact hn.new b hb
theorem Copy_nil : Ret Tryd.prog 51 [.pointer none] w (fun v w' => v = .pointer none ∧ w' = w) := by
  refine enter Tryd.call51 Tryd.func51 rfl rfl rfl rfl ?_
  (repeat first|refine zA ?_|refine zB ?_|refine zg ?_|refine zo rfl rfl trivial ?_|refine zn ?_)
  refine o_call there_nil rfl rfl rfl ?_
  rintro v w' ⟨rfl, rfl⟩
  (repeat first|refine zA ?_|refine zg ?_|refine zo rfl rfl trivial ?_|refine zn ?_|refine zr ?_|refine zt rfl ?_)
  exact ⟨_, rfl, rfl, rfl⟩

theorem SetAt.word {p : Nat} {ws : List Nat} {ad : Option Addr} {cap : Nat} (h : SetAt w p ws ad cap) {i : Nat} (hi : i < ws.length) : ∃ b junk, ad = some ⟨b, 0, none⟩ ∧ Blk w b (ws.map U ++ junk) 151 ∧ (ws.map U ++ junk)[i]? = some (U (ws.getD i 0)) := by
  obtain ⟨b, junk, h1, h2⟩ := h.blk (by omega)
  refine ⟨b, junk, h1, h2, ?_⟩
  rw [List.getElem?_append_left (by simpa using hi), List.getElem?_map, List.getD_eq_getElem?_getD, List.getElem?_eq_getElem hi]; rfl
def withinW (a b : List Nat) : Bool := decide (a.length ≤ b.length) && (List.range a.length).all fun i => decide (andn (a.getD i 0) (b.getD i 0) = 0)
def meetsW (a b : List Nat) : Bool := (List.range (min a.length b.length)).any fun i => decide (a.getD i 0 &&& b.getD i 0 ≠ 0)
/-! ### Equal -/
end Go.Vc
