/- Counting the bits of a word, eight bits at a time. No program. -/
import Derived.Test.YtkgjibhbhddckaaQClStrict12
import Derived.Test.YtkgjibhbhddckaaQClStrict8
namespace Go.Vc
open Go

theorem testBit_byte {b y : Nat} (hb : b < 256) (j : Nat) : (b + 256 * y).testBit j = if j < 8 then b.testBit j else y.testBit (j - 8) := by
  have h : b + 256 * y = 2 ^ 8 * y + b := by omega
  rw [h, Nat.testBit_two_pow_mul_add y (by omega : b < 2 ^ 8)]
theorem byte_and {b y c M : Nat} (hb : b < 256) (hc : c < 256) : (b + 256 * y) &&& (c + 256 * M) = (b &&& c) + 256 * (y &&& M) := by
  have hbc : b &&& c < 256 := Nat.lt_of_le_of_lt Nat.and_le_left hb
  apply Nat.eq_of_testBit_eq
  intro j
  rw [Nat.testBit_and, testBit_byte hb, testBit_byte hc, testBit_byte hbc]
  split <;> rw [Nat.testBit_and]
/-- the mask of k bytes -/
def mask (c : Nat) : Nat → Nat
  | 0 => 0
  | k + 1 => c + 256 * mask c k
def s1 (s c k x : Nat) : Nat := ((x >>> s) &&& mask c k) + (x &&& mask c k)
def f1 (s c b : Nat) : Nat := ((b >>> s) &&& c) + (b &&& c)
theorem shr_and {s b y c M : Nat} (hb : b < 256) (hc : c < 256) (hd : ∀ j, j < 8 → 8 ≤ s + j → c.testBit j = false) : ((b + 256 * y) >>> s) &&& (c + 256 * M) = ((b >>> s) &&& c) + 256 * ((y >>> s) &&& M) := by
  have hbc : (b >>> s) &&& c < 256 := Nat.lt_of_le_of_lt Nat.and_le_right hc
  apply Nat.eq_of_testBit_eq
  intro j
  rw [Nat.testBit_and, Nat.testBit_shiftRight, testBit_byte hb, testBit_byte hc, testBit_byte hbc]
  by_cases hj : j < 8
  · rw [if_pos hj, if_pos hj, Nat.testBit_and, Nat.testBit_shiftRight]
    by_cases hs : s + j < 8
    · rw [if_pos hs]
    · rw [hd j hj (by omega)]; simp
  · rw [if_neg hj, if_neg hj, if_neg (by omega), Nat.testBit_and, Nat.testBit_shiftRight]
    have : s + j - 8 = s + (j - 8) := by omega
    rw [this]
theorem s1_cons {s c k b y : Nat} (hb : b < 256) (hc : c < 256) (hd : ∀ j, j < 8 → 8 ≤ s + j → c.testBit j = false) : s1 s c (k + 1) (b + 256 * y) = f1 s c b + 256 * s1 s c k y := by
  unfold s1 f1
  show ((b + 256 * y) >>> s &&& (c + 256 * mask c k)) + ((b + 256 * y) &&& (c + 256 * mask c k)) = _
  rw [shr_and hb hc hd, byte_and hb hc]
  omega
def s3 (k x : Nat) : Nat := ((x >>> 4) + x) &&& mask 15 k
theorem s3_cons {k c z : Nat} (hc : c < 256) (hc4 : c / 16 ≤ 4) (hz : z % 16 ≤ 4) : s3 (k + 1) (c + 256 * z) = ((c >>> 4) + c) % 16 + 256 * s3 k z := by
  unfold s3
  have e1 : ((c + 256 * z) >>> 4) + (c + 256 * z) = ((c / 16) + 16 * (z % 16) + c) + 256 * ((z >>> 4) + z) := by
    rw [Nat.shiftRight_eq_div_pow, Nat.shiftRight_eq_div_pow]
    show (c + 256 * z) / 16 + (c + 256 * z) = _ + 256 * (z / 16 + z)
    omega
  rw [e1]
  show _ &&& (15 + 256 * mask 15 k) = _
  have e3 : c >>> 4 = c / 16 := Nat.shiftRight_eq_div_pow c 4
  rw [byte_and (by omega) (by omega), e3]
  have e2 : ((c / 16) + 16 * (z % 16) + c) &&& 15 = ((c / 16) + 16 * (z % 16) + c) % 16 := Nat.and_two_pow_sub_one_eq_mod _ 4
  rw [e2]
  have e4 : (c / 16 + 16 * (z % 16) + c) % 16 = (c / 16 + c) % 16 := by omega
  rw [e4]
def byteN (x : Nat) (i : Nat) : Nat := x / 256 ^ i % 256
/-- what the count of a byte comes to -/
def pc (b : Nat) : Nat := ((f1 2 51 (f1 1 85 b) >>> 4) + f1 2 51 (f1 1 85 b)) % 16
theorem f_facts : ∀ b, b < 256 → f1 1 85 b < 256 ∧ f1 2 51 (f1 1 85 b) < 256 ∧ f1 2 51 (f1 1 85 b) / 16 ≤ 4 ∧ f1 2 51 (f1 1 85 b) % 16 ≤ 4 ∧ pc b = popN 8 b ∧ pc b ≤ 8 := by decide +kernel
/-- the three steps on k bytes -/
def sw (k x : Nat) : Nat := s3 k (s1 2 51 k (s1 1 85 k x))
theorem low16 {k b y : Nat} (hb : b < 256) : s1 2 51 (k + 1) (s1 1 85 (k + 1) (b + 256 * y)) % 16 ≤ 4 := by
  obtain ⟨h1, h2, h3, h4, _⟩ := f_facts b hb
  rw [s1_cons hb (by omega) (by decide), s1_cons h1 (by omega) (by decide)]
  omega
theorem sw_cons {k b y : Nat} (hb : b < 256) (hz : s1 2 51 k (s1 1 85 k y) % 16 ≤ 4) : sw (k + 1) (b + 256 * y) = pc b + 256 * sw k y := by
  obtain ⟨h1, h2, h3, h4, _⟩ := f_facts b hb
  unfold sw
  rw [s1_cons hb (by omega) (by decide), s1_cons h1 (by omega) (by decide), s3_cons h2 h3 hz]
  rfl
theorem sw_zero (y : Nat) : s1 2 51 0 (s1 1 85 0 y) % 16 ≤ 4 := by simp [s1, mask]
theorem sw_any {k x : Nat} : s1 2 51 k (s1 1 85 k x) % 16 ≤ 4 := by
  cases k with
  | zero => exact sw_zero x
  | succ k =>
    have : x = x % 256 + 256 * (x / 256) := by omega
    rw [this]; exact low16 (by omega)
theorem sw_step (k x : Nat) : sw (k + 1) x = pc (x % 256) + 256 * sw k (x / 256) := by
  conv => lhs; rw [show x = x % 256 + 256 * (x / 256) by omega]
  exact sw_cons (by omega) sw_any
theorem pop_step (k x : Nat) : popN (8 + k) x = popN 8 (x % 256) + popN k (x / 256) := by
  unfold popN
  rw [List.range_add, List.filter_append, List.length_append]
  have hx : x = x % 256 + 256 * (x / 256) := by omega
  congr 1
  · congr 1
    apply List.filter_congr
    intro j hj
    have hj : j < 8 := by simpa using hj
    conv => lhs; rw [hx]
    rw [testBit_byte (by omega), if_pos hj]
  · rw [List.filter_map, List.length_map]
    congr 1
    apply List.filter_congr
    intro j _
    simp only [Function.comp]
    conv => lhs; rw [hx]
    rw [testBit_byte (by omega), if_neg (by omega)]
    congr 1; omega
theorem pc_pop (x : Nat) : pc (x % 256) = popN 8 (x % 256) ∧ popN 8 (x % 256) ≤ 8 := by
  obtain ⟨_, _, _, _, h5, h6⟩ := f_facts (x % 256) (by omega)
  omega
theorem div_by {E A Q N : Nat} (hN : 0 < N) (h : E = A + N * Q) (hA : A < N) : E / N = Q := by
  subst h
  rw [Nat.add_mul_div_left _ _ hN, Nat.div_eq_of_lt hA, Nat.zero_add]
theorem pop_arith (p0 p1 p2 p3 p4 p5 p6 p7 : Nat) (h0 : p0 ≤ 8) (h1 : p1 ≤ 8) (h2 : p2 ≤ 8) (h3 : p3 ≤ 8) (h4 : p4 ≤ 8) (h5 : p5 ≤ 8) (h6 : p6 ≤ 8) (h7 : p7 ≤ 8) (x3 : Nat) (hx : x3 = p0 + 256 * (p1 + 256 * (p2 + 256 * (p3 + 256 * (p4 + 256 * (p5 + 256 * (p6 + 256 * (p7)))))))) :
    x3 < 2 ^ 61 ∧ x3 + x3 / 256 < 2 ^ 62 ∧
    (((x3 + x3 / 256) + (x3 + x3 / 256) / 65536) + ((x3 + x3 / 256) + (x3 + x3 / 256) / 65536) / 4294967296) % 128 = p0 + (p1 + (p2 + (p3 + (p4 + (p5 + (p6 + p7)))))) ∧
    ((x3 + x3 / 256) + (x3 + x3 / 256) / 65536) + ((x3 + x3 / 256) + (x3 + x3 / 256) / 65536) / 4294967296 < 2 ^ 63 := by
  have e1 : x3 / 256 = p1 + 256 * (p2 + 256 * (p3 + 256 * (p4 + 256 * (p5 + 256 * (p6 + 256 * (p7)))))) := div_by (by decide) (by rw [hx]) (by omega)
  have e2 : x3 + x3 / 256 = (p0 + p1) + 256 * ((p1 + p2) + 256 * ((p2 + p3) + 256 * ((p3 + p4) + 256 * ((p4 + p5) + 256 * ((p5 + p6) + 256 * ((p6 + p7) + 256 * (p7))))))) := by rw [e1, hx]; omega
  have e3 : (x3 + x3 / 256) / 65536 = (p2 + p3) + 256 * ((p3 + p4) + 256 * ((p4 + p5) + 256 * ((p5 + p6) + 256 * ((p6 + p7) + 256 * (p7))))) := by
    refine div_by (A := (p0 + p1) + 256 * (p1 + p2)) (by decide) ?_ (by omega)
    rw [e2]; omega
  have e4 : (x3 + x3 / 256) + (x3 + x3 / 256) / 65536 = (p0 + p1 + p2 + p3) + 256 * ((p1 + p2 + p3 + p4) + 256 * ((p2 + p3 + p4 + p5) + 256 * ((p3 + p4 + p5 + p6) + 256 * ((p4 + p5 + p6 + p7) + 256 * ((p5 + p6 + p7) + 256 * ((p6 + p7) + 256 * ((p7)))))))) := by rw [e3, e2]; omega
  have e5 : ((x3 + x3 / 256) + (x3 + x3 / 256) / 65536) / 4294967296 = (p4 + p5 + p6 + p7) + 256 * ((p5 + p6 + p7) + 256 * ((p6 + p7) + 256 * ((p7)))) := by
    refine div_by (A := (p0 + p1 + p2 + p3) + 256 * ((p1 + p2 + p3 + p4) + 256 * ((p2 + p3 + p4 + p5) + 256 * ((p3 + p4 + p5 + p6))))) (by decide) ?_ (by omega)
    rw [e4]; omega
  rw [e5, e4, e2]
  clear e1 e2 e3 e4 e5
  subst hx
  refine ⟨by omega, by omega, ?_, by omega⟩
  have e6 : ((p0 + p1 + p2 + p3) + 256 * ((p1 + p2 + p3 + p4) + 256 * ((p2 + p3 + p4 + p5) + 256 * ((p3 + p4 + p5 + p6) + 256 * ((p4 + p5 + p6 + p7) + 256 * ((p5 + p6 + p7) + 256 * ((p6 + p7) + 256 * ((p7))))))))) + ((p4 + p5 + p6 + p7) + 256 * ((p5 + p6 + p7) + 256 * ((p6 + p7) + 256 * ((p7))))) = (p0 + (p1 + (p2 + (p3 + (p4 + (p5 + (p6 + p7))))))) + 128 * (2 * ((p1 + p2 + p3 + p4) + 256 * ((p2 + p3 + p4 + p5) + 256 * ((p3 + p4 + p5 + p6) + 256 * ((p4 + p5 + p6 + p7) + 256 * ((p5 + p6 + p7) + 256 * ((p6 + p7) + 256 * ((p7)))))))) + 2 * ((p5 + p6 + p7) + 256 * ((p6 + p7) + 256 * ((p7))))) := by omega
  rw [e6, Nat.add_mul_mod_self_left, Nat.mod_eq_of_lt (by omega)]
theorem le_sum8 {p0 p1 p2 p3 p4 p5 p6 p7 : Nat} (h0 : p0 ≤ 8) (h1 : p1 ≤ 8) (h2 : p2 ≤ 8) (h3 : p3 ≤ 8) (h4 : p4 ≤ 8) (h5 : p5 ≤ 8) (h6 : p6 ≤ 8) (h7 : p7 ≤ 8) : p0 + (p1 + (p2 + (p3 + (p4 + (p5 + (p6 + p7)))))) ≤ 64 := by omega
/-- the sums behind the three steps -/
theorem pop_fin (x : Nat) : ∃ x3, sw 8 x = x3 ∧ x3 < 2 ^ 61 ∧ x3 + x3 / 256 < 2 ^ 62 ∧
    (((x3 + x3 / 256) + (x3 + x3 / 256) / 65536) + ((x3 + x3 / 256) + (x3 + x3 / 256) / 65536) / 4294967296) % 128 = pop x ∧
    ((x3 + x3 / 256) + (x3 + x3 / 256) / 65536) + ((x3 + x3 / 256) + (x3 + x3 / 256) / 65536) / 4294967296 < 2 ^ 63 ∧ pop x ≤ 64 := by
  have hp : pop x = popN 8 (x % 256) + (popN 8 (x / 256 % 256) + (popN 8 (x / 256 / 256 % 256) + (popN 8 (x / 256 / 256 / 256 % 256) + (popN 8 (x / 256 / 256 / 256 / 256 % 256) + (popN 8 (x / 256 / 256 / 256 / 256 / 256 % 256) + (popN 8 (x / 256 / 256 / 256 / 256 / 256 / 256 % 256) + (popN 8 (x / 256 / 256 / 256 / 256 / 256 / 256 / 256 % 256)))))))) := by
    have h64 : pop x = popN 64 x := rfl
    have q0 : popN 64 (x) = popN 8 (x % 256) + popN 56 (x / 256) := pop_step 56 (x)
    have q1 : popN 56 (x / 256) = popN 8 (x / 256 % 256) + popN 48 (x / 256 / 256) := pop_step 48 (x / 256)
    have q2 : popN 48 (x / 256 / 256) = popN 8 (x / 256 / 256 % 256) + popN 40 (x / 256 / 256 / 256) := pop_step 40 (x / 256 / 256)
    have q3 : popN 40 (x / 256 / 256 / 256) = popN 8 (x / 256 / 256 / 256 % 256) + popN 32 (x / 256 / 256 / 256 / 256) := pop_step 32 (x / 256 / 256 / 256)
    have q4 : popN 32 (x / 256 / 256 / 256 / 256) = popN 8 (x / 256 / 256 / 256 / 256 % 256) + popN 24 (x / 256 / 256 / 256 / 256 / 256) := pop_step 24 (x / 256 / 256 / 256 / 256)
    have q5 : popN 24 (x / 256 / 256 / 256 / 256 / 256) = popN 8 (x / 256 / 256 / 256 / 256 / 256 % 256) + popN 16 (x / 256 / 256 / 256 / 256 / 256 / 256) := pop_step 16 (x / 256 / 256 / 256 / 256 / 256)
    have q6 : popN 16 (x / 256 / 256 / 256 / 256 / 256 / 256) = popN 8 (x / 256 / 256 / 256 / 256 / 256 / 256 % 256) + popN 8 (x / 256 / 256 / 256 / 256 / 256 / 256 / 256) := pop_step 8 (x / 256 / 256 / 256 / 256 / 256 / 256)
    have q7 : popN 8 (x / 256 / 256 / 256 / 256 / 256 / 256 / 256) = popN 8 (x / 256 / 256 / 256 / 256 / 256 / 256 / 256 % 256) + popN 0 (x / 256 / 256 / 256 / 256 / 256 / 256 / 256 / 256) := pop_step 0 (x / 256 / 256 / 256 / 256 / 256 / 256 / 256)
    have q8 : popN 0 (x / 256 / 256 / 256 / 256 / 256 / 256 / 256 / 256) = 0 := rfl
    rw [h64, q0, q1, q2, q3, q4, q5, q6, q7, q8, Nat.add_zero]
  have hs : sw 8 x = pc (x % 256) + 256 * (pc (x / 256 % 256) + 256 * (pc (x / 256 / 256 % 256) + 256 * (pc (x / 256 / 256 / 256 % 256) + 256 * (pc (x / 256 / 256 / 256 / 256 % 256) + 256 * (pc (x / 256 / 256 / 256 / 256 / 256 % 256) + 256 * (pc (x / 256 / 256 / 256 / 256 / 256 / 256 % 256) + 256 * (pc (x / 256 / 256 / 256 / 256 / 256 / 256 / 256 % 256) + 256 * 0))))))) := by
    have q0 : sw 8 (x) = pc (x % 256) + 256 * sw 7 (x / 256) := sw_step 7 (x)
    have q1 : sw 7 (x / 256) = pc (x / 256 % 256) + 256 * sw 6 (x / 256 / 256) := sw_step 6 (x / 256)
    have q2 : sw 6 (x / 256 / 256) = pc (x / 256 / 256 % 256) + 256 * sw 5 (x / 256 / 256 / 256) := sw_step 5 (x / 256 / 256)
    have q3 : sw 5 (x / 256 / 256 / 256) = pc (x / 256 / 256 / 256 % 256) + 256 * sw 4 (x / 256 / 256 / 256 / 256) := sw_step 4 (x / 256 / 256 / 256)
    have q4 : sw 4 (x / 256 / 256 / 256 / 256) = pc (x / 256 / 256 / 256 / 256 % 256) + 256 * sw 3 (x / 256 / 256 / 256 / 256 / 256) := sw_step 3 (x / 256 / 256 / 256 / 256)
    have q5 : sw 3 (x / 256 / 256 / 256 / 256 / 256) = pc (x / 256 / 256 / 256 / 256 / 256 % 256) + 256 * sw 2 (x / 256 / 256 / 256 / 256 / 256 / 256) := sw_step 2 (x / 256 / 256 / 256 / 256 / 256)
    have q6 : sw 2 (x / 256 / 256 / 256 / 256 / 256 / 256) = pc (x / 256 / 256 / 256 / 256 / 256 / 256 % 256) + 256 * sw 1 (x / 256 / 256 / 256 / 256 / 256 / 256 / 256) := sw_step 1 (x / 256 / 256 / 256 / 256 / 256 / 256)
    have q7 : sw 1 (x / 256 / 256 / 256 / 256 / 256 / 256 / 256) = pc (x / 256 / 256 / 256 / 256 / 256 / 256 / 256 % 256) + 256 * sw 0 (x / 256 / 256 / 256 / 256 / 256 / 256 / 256 / 256) := sw_step 0 (x / 256 / 256 / 256 / 256 / 256 / 256 / 256)
    have q8 : sw 0 (x / 256 / 256 / 256 / 256 / 256 / 256 / 256 / 256) = 0 := by simp [sw, s3, mask]
    rw [q0, q1, q2, q3, q4, q5, q6, q7, q8]
  obtain ⟨a0, b0⟩ := pc_pop x
  obtain ⟨a1, b1⟩ := pc_pop (x / 256)
  obtain ⟨a2, b2⟩ := pc_pop (x / 256 / 256)
  obtain ⟨a3, b3⟩ := pc_pop (x / 256 / 256 / 256)
  obtain ⟨a4, b4⟩ := pc_pop (x / 256 / 256 / 256 / 256)
  obtain ⟨a5, b5⟩ := pc_pop (x / 256 / 256 / 256 / 256 / 256)
  obtain ⟨a6, b6⟩ := pc_pop (x / 256 / 256 / 256 / 256 / 256 / 256)
  obtain ⟨a7, b7⟩ := pc_pop (x / 256 / 256 / 256 / 256 / 256 / 256 / 256)
  rw [a0, a1, a2, a3, a4, a5, a6, a7, Nat.mul_zero, Nat.add_zero] at hs
  have hs' := pop_arith _ _ _ _ _ _ _ _ b0 b1 b2 b3 b4 b5 b6 b7 (sw 8 x) (by rw [hs])
  rw [← hp] at hs'
  refine ⟨sw 8 x, rfl, hs'.1, hs'.2.1, hs'.2.2.1, hs'.2.2.2, ?_⟩
  rw [hp]; exact le_sum8 b0 b1 b2 b3 b4 b5 b6 b7
end Go.Vc
/- bits: OnesCount64, Len; the law's small functions. -/
namespace Go.Vc
open Go Go.Proofs
set_option maxRecDepth 10000
variable {w : World}

theorem sum_and {s x M : Nat} (hx : x < 2 ^ 64) (hs : s ≤ 64) (hM : M + M < 2 ^ 64) :
    IntKind.u64.wrap (ibits .and .u64 (Int.fdiv (x : Int) (2 ^ (min s 64))) (M : Int) + ibits .and .u64 (x : Int) (M : Int)) = ((((x >>> s) &&& M) + (x &&& M) : Nat) : Int) := by
  have h1 : x >>> s < 2 ^ 64 := Nat.lt_of_le_of_lt (by rw [Nat.shiftRight_eq_div_pow]; exact Nat.div_le_self _ _) hx
  have h2 : (x >>> s) &&& M ≤ M := Nat.and_le_right
  have h3 : x &&& M ≤ M := Nat.and_le_right
  rw [shrU hs, ibits_and h1 (by omega), ibits_and hx (by omega), wrapU]
  generalize (x >>> s) &&& M = a at h2
  generalize x &&& M = b at h3
  omega
theorem mask85 : mask 85 8 = 6148914691236517205 := by decide
theorem mask51 : mask 51 8 = 3689348814741910323 := by decide
theorem mask15 : mask 15 8 = 1085102592571150095 := by decide
theorem and127 {n : Nat} (h : n < 2 ^ 63) : ibits .and .i64 (n : Int) 127 = ((n % 128 : Nat) : Int) := by
  show IntKind.i64.wrap ((BitVec.ofInt 64 (n : Int) &&& BitVec.ofInt 64 127).toNat : Int) = _
  rw [BitVec.toNat_and, bvU n (by omega)]
  have e1 : (BitVec.ofInt 64 127).toNat = 2 ^ 7 - 1 := by decide
  rw [e1, Nat.and_two_pow_sub_one_eq_mod, IntKind.wrap_i64]
  omega
/-! ### Len -/
def lenW (ws : List Nat) : Nat := (ws.map pop).sum
theorem lenW_snoc (l : List Nat) (x : Nat) : lenW (l ++ [x]) = lenW l + pop x := by simp [lenW]
theorem pop_le (x : Nat) : pop x ≤ 64 := by
  unfold pop popN
  have := List.length_filter_le x.testBit (List.range 64)
  simpa using this
theorem lenW_le (l : List Nat) : lenW l ≤ 64 * l.length := by
  induction l with
  | nil => simp [lenW]
  | cons x r ih => have := pop_le x; simp only [lenW, List.map_cons, List.sum_cons, List.length_cons] at *; omega
theorem elems_snoc (l : List Nat) (x : Nat) : (elems (l ++ [x])).length = (elems l).length + pop x := by
  unfold elems
  have e1 : 64 * (l ++ [x]).length = 64 * l.length + 64 := by simp; omega
  rw [e1, List.range_add, List.filter_append, List.length_append]
  congr 1
  · congr 1
    apply List.filter_congr
    intro j hj
    have hj : j < 64 * l.length := by simpa using hj
    unfold bit
    rw [List.getD_eq_getElem?_getD, List.getD_eq_getElem?_getD, List.getElem?_append_left (by omega)]
  · rw [List.filter_map, List.length_map]
    unfold pop popN
    congr 1
    apply List.filter_congr
    intro j hj
    have hj : j < 64 := by simpa using hj
    simp only [Function.comp]
    unfold bit
    have h1 : (64 * l.length + j) / 64 = l.length := by omega
    have h2 : (64 * l.length + j) % 64 = j := by omega
    rw [h1, h2, List.getD_eq_getElem?_getD]; simp
theorem lenW_elems (ws : List Nat) : lenW ws = (elems ws).length := by
  have key : ∀ n, n ≤ ws.length → lenW (ws.take n) = (elems (ws.take n)).length := by
    intro n
    induction n with
    | zero => intro _; simp [lenW, elems]
    | succ n ih =>
      intro hn
      have h1 : ws.take (n + 1) = ws.take n ++ [ws[n]] := by rw [List.take_add_one, List.getElem?_eq_getElem (by omega)]; rfl
      rw [h1, lenW_snoc, elems_snoc, ih (by omega)]
  have := key ws.length (Nat.le_refl _)
  rwa [List.take_length] at this
/-! ### The law's small functions -/
def nearL (l : List Int) : List Int := l.map fun x => Int.tmod (Int.tmod x 1048576 + 1048576) 1048576
theorem near_ok (l : List Int) : allOk (nearL l) = true := by
  unfold allOk nearL
  rw [List.all_eq_true]
  intro x hx
  obtain ⟨y, _, rfl⟩ := List.mem_map.1 hx
  have h1 := Int.tmod_lt_of_pos y (b := 1048576) (by omega)
  have h2 := Int.tmod_lt_of_pos (-y) (b := 1048576) (by omega)
  rw [Int.neg_tmod] at h2
  have h3 := Int.tmod_lt_of_pos (Int.tmod y 1048576 + 1048576) (b := 1048576) (by omega)
  have h4 : 0 ≤ Int.tmod (Int.tmod y 1048576 + 1048576) 1048576 := Int.tmod_nonneg _ (by omega)
  simp; omega
end Go.Vc
/- bits: lives. -/
namespace Go.Vc
open Go Go.Proofs
set_option maxRecDepth 10000
variable {w : World}

theorem map_encI (l : List Nat) : l.map encI = (l.map (fun k : Nat => (k : Int))).map I := by rw [List.map_map]; rfl

end Go.Vc
/- bits: Copy, Within, Meets, Equal. -/
namespace Go.Vc
open Go Go.Proofs
set_option maxRecDepth 10000
variable {w : World}

def withinW (a b : List Nat) : Bool := decide (a.length ≤ b.length) && (List.range a.length).all fun i => decide (andn (a.getD i 0) (b.getD i 0) = 0)
def meetsW (a b : List Nat) : Bool := (List.range (min a.length b.length)).any fun i => decide (a.getD i 0 &&& b.getD i 0 ≠ 0)
/-! ### Equal -/
end Go.Vc
/- bits: Keep, Drop, Turn (of another set). -/
namespace Go.Vc
open Go Go.Proofs
set_option maxRecDepth 10000
variable {w : World}

/-- the first i words turned -/
def updW (f : Nat → Nat → Nat) (ws vs : List Nat) (i : Nat) : List Nat := (List.range ws.length).map fun j => if j < i then f (ws.getD j 0) (vs.getD j 0) else ws.getD j 0
theorem updW_len (f : Nat → Nat → Nat) (ws vs : List Nat) (i : Nat) : (updW f ws vs i).length = ws.length := by simp [updW]
theorem updW_getD (f : Nat → Nat → Nat) (ws vs : List Nat) (i j : Nat) (hj : j < ws.length) : (updW f ws vs i).getD j 0 = if j < i then f (ws.getD j 0) (vs.getD j 0) else ws.getD j 0 := by
  unfold updW
  rw [List.getD_eq_getElem?_getD, List.getElem?_map, List.getElem?_range hj]; rfl
theorem updW_zero (f : Nat → Nat → Nat) (ws vs : List Nat) : updW f ws vs 0 = ws := by
  apply List.ext_getElem?
  intro j
  unfold updW
  rw [List.getElem?_map]
  by_cases hj : j < ws.length
  · rw [List.getElem?_range hj, List.getElem?_eq_getElem hj]
    simp [List.getD_eq_getElem?_getD, hj]
  · rw [List.getElem?_eq_none (by simpa using hj), List.getElem?_eq_none (by omega)]; rfl
theorem updW_set (f : Nat → Nat → Nat) (ws vs : List Nat) (i : Nat) (hi : i < ws.length) : (updW f ws vs i).set i (f (ws.getD i 0) (vs.getD i 0)) = updW f ws vs (i + 1) := by
  apply List.ext_getElem?
  intro j
  rw [List.getElem?_set, updW_len]
  unfold updW
  rw [List.getElem?_map, List.getElem?_map]
  by_cases hj : j < ws.length
  · rw [List.getElem?_range hj]
    by_cases hij : i = j
    · subst hij; simp [hi]
    · have h1 : (j < i) = (j < i + 1) := by rw [eq_iff_iff]; omega
      simp [hij, h1]
  · by_cases hij : i = j
    · omega
    · rw [if_neg hij, List.getElem?_eq_none (by simpa using hj)]; rfl
/-- two sets that share nothing -/
def Apart (p : Nat) (ad : Option Addr) (q : Nat) (bd : Option Addr) : Prop := ∀ b, b ∈ q :: blkOf bd → b ∉ p :: blkOf ad
theorem and_lt {a b : Nat} (ha : a < 2 ^ 64) : a &&& b < 2 ^ 64 := Nat.lt_of_le_of_lt Nat.and_le_left ha

def keepW (ws vs : List Nat) : List Nat := trim (updW (· &&& ·) (ws.take (min ws.length vs.length)) vs (min ws.length vs.length))
def dropW (ws vs : List Nat) : List Nat := trim (updW andn ws vs (min ws.length vs.length))
def growW (ws : List Nat) (n : Nat) : List Nat := ws ++ List.replicate (n - ws.length) 0
def turnW (ws vs : List Nat) : List Nat := trim (updW (· ^^^ ·) (growW ws vs.length) vs vs.length)
end Go.Vc
/- bits: Join. -/
namespace Go.Vc
open Go Go.Proofs
set_option maxRecDepth 10000
variable {w : World}

def joinW (ws vs : List Nat) : List Nat := updW (· ||| ·) (growW ws vs.length) vs vs.length
def moreN (ws vs : List Nat) (n : Nat) : Bool := (List.range n).any fun i => decide (andn (vs.getD i 0) (ws.getD i 0) ≠ 0)
def joinStep (p : Nat) (F : Nat → List Nat) (s : List Nat × Bool) (q : Nat) : List Nat × Bool :=
  (joinW s.1 (if q = p then s.1 else F q), s.2 || moreN (growW s.1 (if q = p then s.1 else F q).length) (if q = p then s.1 else F q) (if q = p then s.1 else F q).length)
theorem moreN_succ (ws vs : List Nat) (n : Nat) : moreN ws vs (n + 1) = (moreN ws vs n || decide (andn (vs.getD n 0) (ws.getD n 0) ≠ 0)) := by
  unfold moreN; rw [List.range_succ, List.any_append]; simp
theorem growW_self (us : List Nat) : growW us us.length = us := by simp [growW]
theorem updW_or_self (us : List Nat) (i : Nat) : updW (· ||| ·) us us i = us := by
  have : updW (· ||| ·) us us i = updW (· ||| ·) us us 0 := by
    unfold updW
    apply List.map_congr_left
    intro j _
    simp
  rw [this, updW_zero]
theorem growW_len (us : List Nat) (n : Nat) : (growW us n).length = max us.length n := by unfold growW; simp; omega

end Go.Vc
/- bits: the document's sets (reference): Of, List, Words; sameWords. -/
namespace Go.Vc
open Go Go.Proofs
set_option maxRecDepth 10000
variable {w : World}

section
variable {p : Nat} {l : List Nat} {ad : Option Addr} {cap : Nat}
end

/-- the numbers below m -/
def elemsTo (ws : List Nat) (m : Nat) : List Nat := (List.range m).filter (bit ws)
theorem elemsTo_succ (ws : List Nat) (m : Nat) : elemsTo ws (m + 1) = elemsTo ws m ++ if bit ws m then [m] else [] := by
  unfold elemsTo
  rw [List.range_succ, List.filter_append]
  congr 1
  simp [List.filter_cons]
theorem elemsTo_all (ws : List Nat) : elemsTo ws (64 * ws.length) = elems ws := rfl
theorem elemsTo_len (ws : List Nat) (m : Nat) : (elemsTo ws m).length ≤ m := by
  have := List.length_filter_le (bit ws) (List.range m)
  simpa [elemsTo] using this
def Big (ws : List Nat) : Prop := ∃ k, 1048576 ≤ k ∧ bit ws k = true

theorem shr_mod2 (x k : Nat) : (x >>> k) % 2 = 1 ↔ x.testBit k = true := by
  rw [Nat.testBit_eq_decide_div_mod_eq, Nat.shiftRight_eq_div_pow]; simp
end Go.Vc
/- bits: what the document's words are; trim's last word. No program. -/
namespace Go.Vc
open Go

theorem trim_last : ∀ (ws : List Nat), trim ws = [] ∨ ∃ l x, trim ws = l ++ [x] ∧ x ≠ 0
  | [] => .inl rfl
  | x :: r => by
    have hh : trim (x :: r) = match trim r with | [] => if x = 0 then [] else [x] | y :: s => x :: y :: s := rfl
    cases ht : trim r with
    | nil =>
      rw [ht] at hh
      dsimp only at hh
      rw [hh]
      by_cases h0 : x = 0
      · left; simp [h0]
      · right; exact ⟨[], x, by simp [h0], h0⟩
    | cons y s =>
      rw [ht] at hh
      dsimp only at hh
      right
      rcases trim_last r with h1 | ⟨l, z, h1, h2⟩
      · rw [h1] at ht; cases ht
      · rw [hh, ← ht, h1]
        exact ⟨x :: l, z, by simp, h2⟩
theorem WOk.trim {ws : List Nat} (h : WOk ws) : WOk (trim ws) := fun x hx => by
  rw [trim_take] at hx; exact h x (List.mem_of_mem_take hx)
theorem bits_ext {a b : List Nat} (ha : WOk a) (hb : WOk b) (hl : a.length = b.length) (h : ∀ k, bit a k = bit b k) : a = b := by
  apply List.ext_getElem hl
  intro i h1 h2
  have e1 : a[i] = a.getD i 0 := by simp [List.getD_eq_getElem?_getD, h1]
  have e2 : b[i] = b.getD i 0 := by simp [List.getD_eq_getElem?_getD, h2]
  rw [e1, e2]
  apply Nat.eq_of_testBit_eq
  intro j
  by_cases hj : j < 64
  · have := h (64 * i + j)
    unfold bit at this
    have q1 : (64 * i + j) / 64 = i := by omega
    have q2 : (64 * i + j) % 64 = j := by omega
    rwa [q1, q2] at this
  · have p1 : a.getD i 0 < 2 ^ j := Nat.lt_of_lt_of_le (ha.getD i) (Nat.pow_le_pow_right (by omega) (by omega))
    have p2 : b.getD i 0 < 2 ^ j := Nat.lt_of_lt_of_le (hb.getD i) (Nat.pow_le_pow_right (by omega) (by omega))
    rw [Nat.testBit_lt_two_pow p1, Nat.testBit_lt_two_pow p2]
/-- the length of what is trimmed: the last number's word -/
theorem trim_len_bit {ws : List Nat} (hok : WOk ws) {k : Nat} (hb : bit ws k = true) : k / 64 < (trim ws).length := by
  rw [← bit_trim] at hb
  have := bit_lt hb; omega
theorem trim_has {ws : List Nat} (hok : WOk ws) (hne : trim ws ≠ []) : ∃ k, bit ws k = true ∧ k / 64 + 1 = (trim ws).length := by
  rcases trim_last ws with h | ⟨l, x, h, hx⟩
  · exact absurd h hne
  · have hxl : x < 2 ^ 64 := hok.trim x (by rw [h]; simp)
    obtain ⟨i, hi, h1, _⟩ := least_bit hxl hx
    refine ⟨64 * l.length + i, ?_, ?_⟩
    · rw [← bit_trim, h]
      unfold bit
      have q1 : (64 * l.length + i) / 64 = l.length := by omega
      have q2 : (64 * l.length + i) % 64 = i := by omega
      rw [q1, q2, List.getD_eq_getElem?_getD]
      simp [h1]
    · rw [h, List.length_append]
      simp; omega
theorem big_iff {ws : List Nat} (hok : WOk ws) : Big ws ↔ 16384 < (trim ws).length := by
  constructor
  · rintro ⟨k, h1, h2⟩
    have := trim_len_bit hok h2; omega
  · intro h
    obtain ⟨k, h1, h2⟩ := trim_has hok (by intro h0; rw [h0] at h; simp at h)
    exact ⟨k, by omega, h1⟩
theorem elems_trim (ws : List Nat) : elems (trim ws) = elems ws := by
  have hl := trim_len ws
  have e1 : elems (trim ws) = (List.range (64 * (trim ws).length)).filter (bit ws) := by
    unfold elems
    apply List.filter_congr
    intro j _
    exact bit_trim ws j
  have e2 : 64 * ws.length = 64 * (trim ws).length + (64 * ws.length - 64 * (trim ws).length) := by omega
  rw [e1]
  conv => rhs; unfold elems
  rw [e2, List.range_add, List.filter_append]
  have : (List.map (fun x => 64 * (trim ws).length + x) (List.range (64 * ws.length - 64 * (trim ws).length))).filter (bit ws) = [] := by
    rw [List.filter_eq_nil_iff]
    intro x hx
    obtain ⟨y, _, rfl⟩ := List.mem_map.1 hx
    intro hb
    rw [← bit_trim] at hb
    have := bit_lt hb; omega
  rw [this, List.append_nil]
theorem elems_sorted (ws : List Nat) : (elems ws).Pairwise (· < ·) := List.Pairwise.filter _ List.pairwise_lt_range

/-! ### The document's words -/
def owW (n : Nat) (l : List Nat) : List Nat := l.foldl (fun ws k => ws.set (k / 64) (ws.getD (k / 64) 0 + 2 ^ (k % 64))) (List.replicate n 0)
def refW (l : List Nat) : List Nat := match l.getLast? with
  | none => []
  | some k => owW (k / 64 + 1) l
theorem owW_snoc (n : Nat) (l : List Nat) (k : Nat) : owW n (l ++ [k]) = (owW n l).set (k / 64) ((owW n l).getD (k / 64) 0 + 2 ^ (k % 64)) := by
  unfold owW; rw [List.foldl_append]; rfl
theorem owW_len (n : Nat) (l : List Nat) : (owW n l).length = n := by
  unfold owW
  have : ∀ (l ws : List Nat), (l.foldl (fun ws k => ws.set (k / 64) (ws.getD (k / 64) 0 + 2 ^ (k % 64))) ws).length = ws.length := by
    intro l
    induction l with
    | nil => intro ws; rfl
    | cons k r ih => intro ws; simp only [List.foldl_cons]; rw [ih]; simp
  rw [this]; simp
theorem owW_take {n : Nat} {l : List Nat} (hs : l.Pairwise (· < ·)) (hn : ∀ k ∈ l, k / 64 < n) (i : Nat) (hi : i ≤ l.length) :
    WOk (owW n (l.take i)) ∧ ∀ j, bit (owW n (l.take i)) j = decide (j ∈ l.take i) := by
  induction i with
  | zero =>
    refine ⟨WOk.zeros n, fun j => ?_⟩
    unfold bit owW
    simp [List.getD_eq_getElem?_getD, List.getElem?_replicate]
    split <;> simp
  | succ i ih =>
    obtain ⟨h1, h2⟩ := ih (by omega)
    have hlt : i < l.length := by omega
    have htk : l.take (i + 1) = l.take i ++ [l[i]] := by rw [List.take_add_one, List.getElem?_eq_getElem hlt]; rfl
    have hlow : ∀ j, j ∈ l.take i → j < l[i] := by
      intro j hj
      have hp := hs
      rw [← List.take_append_drop (i + 1) l, htk] at hp
      exact (List.pairwise_append.1 (List.pairwise_append.1 hp).1).2.2 j hj _ (by simp)
    have hk := hn l[i] (List.getElem_mem hlt)
    rw [htk, owW_snoc]
    generalize l[i] = k at hlow hk
    have hx : (owW n (l.take i)).getD (k / 64) 0 < 2 ^ (k % 64) := by
      apply Nat.lt_pow_two_of_testBit
      intro j hj
      by_cases hj64 : j < 64
      · have := h2 (64 * (k / 64) + j)
        unfold bit at this
        have q1 : (64 * (k / 64) + j) / 64 = k / 64 := by omega
        have q2 : (64 * (k / 64) + j) % 64 = j := by omega
        rw [q1, q2] at this
        rw [this, decide_eq_false]
        intro hm
        have := hlow _ hm; omega
      · exact Nat.testBit_lt_two_pow (Nat.lt_of_lt_of_le (h1.getD _) (Nat.pow_le_pow_right (by omega) (by omega)))
    have hadd : (owW n (l.take i)).getD (k / 64) 0 + 2 ^ (k % 64) = (owW n (l.take i)).getD (k / 64) 0 ||| 2 ^ (k % 64) := by
      have := Nat.two_pow_add_eq_or_of_lt hx 1
      rw [Nat.mul_one] at this
      rw [Nat.add_comm, this, Nat.or_comm]
    rw [hadd]
    have hlen := owW_len n (l.take i)
    refine ⟨h1.set (Nat.or_lt_two_pow (h1.getD _) (Nat.pow_lt_pow_right (by omega) (by omega))), fun j => ?_⟩
    unfold bit
    rw [getD_set _ _ _ _ (by omega)]
    have h2j := h2 j
    unfold bit at h2j
    by_cases hjk : k / 64 = j / 64
    · rw [if_pos hjk, Nat.testBit_or, Nat.testBit_two_pow, hjk, h2j, Bool.eq_iff_iff]
      simp
      constructor
      · rintro (h | h)
        · exact .inl h
        · right; omega
      · rintro (h | h)
        · exact .inl h
        · right; omega
    · rw [if_neg hjk, h2j, decide_eq_decide]
      constructor
      · intro h; exact List.mem_append_left _ h
      · intro h
        rcases List.mem_append.1 h with h | h
        · exact h
        · simp at h; subst h; exact absurd rfl hjk
theorem refW_elems {ws : List Nat} (hok : WOk ws) : refW (elems ws) = trim ws := by
  unfold refW
  cases hl : (elems ws).getLast? with
  | none =>
    have he : elems ws = [] := by simpa using hl
    by_cases hne : trim ws = []
    · exact hne.symm
    · obtain ⟨k, h1, _⟩ := trim_has hok hne
      have := mem_elems.2 h1
      rw [he] at this; cases this
  | some k =>
    dsimp only
    have hmem : k ∈ elems ws := List.mem_of_getLast? hl
    have hmax : ∀ j ∈ elems ws, j ≤ k := by
      intro j hj
      have hs := elems_sorted ws
      obtain ⟨pre, hp⟩ : ∃ pre, elems ws = pre ++ [k] := List.getLast?_eq_some_iff.1 hl
      rw [hp] at hs hj
      rcases List.mem_append.1 hj with h | h
      · exact Nat.le_of_lt ((List.pairwise_append.1 hs).2.2 j h k (by simp))
      · simp at h; omega
    have h1 := trim_len_bit hok (mem_elems.1 hmem)
    obtain ⟨k', h2, h3⟩ := trim_has hok (by intro h0; rw [h0] at h1; simp at h1)
    have h4 := hmax k' (mem_elems.2 h2)
    have hlen : (trim ws).length = k / 64 + 1 := by omega
    have ho := owW_take (n := k / 64 + 1) (elems_sorted ws) (fun j hj => by have := hmax j hj; omega) (elems ws).length (Nat.le_refl _)
    rw [List.take_length] at ho
    refine bits_ext ho.1 hok.trim (by rw [owW_len, hlen]) (fun j => ?_)
    rw [ho.2 j, bit_trim]
    cases hb : bit ws j with
    | true => exact decide_eq_true (mem_elems.2 hb)
    | false => exact decide_eq_false (fun h => by have := mem_elems.1 h; rw [hb] at this; cases this)
end Go.Vc
/- bits: Of; the document's Words; sameWords. -/
namespace Go.Vc
open Go Go.Proofs
set_option maxRecDepth 10000
variable {w : World}

/-! ### A set of any length, and trim -/
section
variable {p : Nat} {ws : List Nat} {ad : Option Addr} {cap : Nat}
end

/-! ### The document's Words -/
theorem shl_weight {k : Nat} (hk : k < 63) : IntKind.u64.wrap (((2 ^ k : Nat) : Int) * 2) = ((2 ^ (k + 1) : Nat) : Int) := by
  rw [wrapU, Nat.pow_succ]
  have : 2 ^ k < 2 ^ 63 := Nat.pow_lt_pow_right (by omega) hk
  generalize 2 ^ k = z at this ⊢
  omega
end Go.Vc
