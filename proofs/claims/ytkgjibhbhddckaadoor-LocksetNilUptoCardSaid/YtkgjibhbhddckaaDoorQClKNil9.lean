/- Plain laws of words of 64 bits. No program. -/
import Derived.Test.YtkgjibhbhddckaaDoorQClKNil8
namespace Go.Vc
open Go

abbrev U (n : Nat) : Value := .int .u64 (n : Int)

theorem wrapU (x : Int) : IntKind.u64.wrap x = x % 18446744073709551616 := rfl

theorem bvU (n : Nat) (h : n < 2 ^ 64) : (BitVec.ofInt 64 (n : Int)).toNat = n := by
  rw [BitVec.toNat_ofInt]; simp; omega
theorem ibits_and {a b : Nat} (ha : a < 2 ^ 64) (hb : b < 2 ^ 64) : ibits .and .u64 (a : Int) (b : Int) = ((a &&& b : Nat) : Int) := by
  have hlt : a &&& b < 2 ^ 64 := Nat.and_lt_two_pow a hb
  show IntKind.u64.wrap ((BitVec.ofInt 64 (a : Int) &&& BitVec.ofInt 64 (b : Int)).toNat : Int) = _
  rw [BitVec.toNat_and, bvU a ha, bvU b hb, wrapU]; omega
theorem ibits_or {a b : Nat} (ha : a < 2 ^ 64) (hb : b < 2 ^ 64) : ibits .or .u64 (a : Int) (b : Int) = ((a ||| b : Nat) : Int) := by
  have hlt : a ||| b < 2 ^ 64 := Nat.or_lt_two_pow ha hb
  show IntKind.u64.wrap ((BitVec.ofInt 64 (a : Int) ||| BitVec.ofInt 64 (b : Int)).toNat : Int) = _
  rw [BitVec.toNat_or, bvU a ha, bvU b hb, wrapU]; omega
theorem ibits_xor {a b : Nat} (ha : a < 2 ^ 64) (hb : b < 2 ^ 64) : ibits .xor .u64 (a : Int) (b : Int) = ((a ^^^ b : Nat) : Int) := by
  have hlt : a ^^^ b < 2 ^ 64 := Nat.xor_lt_two_pow ha hb
  show IntKind.u64.wrap ((BitVec.ofInt 64 (a : Int) ^^^ BitVec.ofInt 64 (b : Int)).toNat : Int) = _
  rw [BitVec.toNat_xor, bvU a ha, bvU b hb, wrapU]; omega
/-- and not -/
def andn (a b : Nat) : Nat := a &&& (2 ^ 64 - 1 - b)
theorem andn_lt {a b : Nat} (ha : a < 2 ^ 64) : andn a b < 2 ^ 64 := Nat.lt_of_le_of_lt Nat.and_le_left ha
theorem testBit_andn {a b i : Nat} (hb : b < 2 ^ 64) (hi : i < 64) : (andn a b).testBit i = (a.testBit i && !b.testBit i) := by
  unfold andn
  rw [Nat.testBit_and]
  have h2 : 2 ^ 64 - 1 - b = 2 ^ 64 - (b + 1) := by omega
  rw [h2, Nat.testBit_two_pow_sub_succ hb]; simp [hi]
theorem ibits_andn {a b : Nat} (ha : a < 2 ^ 64) (hb : b < 2 ^ 64) : ibits .andNot .u64 (a : Int) (b : Int) = ((andn a b : Nat) : Int) := by
  have hlt : andn a b < 2 ^ 64 := andn_lt ha
  show IntKind.u64.wrap ((BitVec.ofInt 64 (a : Int) &&& ~~~ BitVec.ofInt 64 (b : Int)).toNat : Int) = _
  rw [BitVec.toNat_and, BitVec.toNat_not, bvU a ha, bvU b hb, wrapU]
  unfold andn at hlt ⊢; omega
theorem shl_one {k : Nat} (hk : k < 64) : IntKind.u64.wrap (1 * 2 ^ (min k 64)) = ((2 ^ k : Nat) : Int) := by
  rw [wrapU, Nat.min_eq_left (by omega)]
  have : 2 ^ k < 2 ^ 64 := Nat.pow_lt_pow_right (by omega) hk
  have h2 : ((2 : Int) ^ k) = ((2 ^ k : Nat) : Int) := by simp
  rw [Int.one_mul, h2]
  generalize 2 ^ k = z at this ⊢
  omega
theorem shrU {a k : Nat} (hk : k ≤ 64) : Int.fdiv (a : Int) (2 ^ (min k 64)) = ((a >>> k : Nat) : Int) := by
  rw [Nat.min_eq_left hk, Nat.shiftRight_eq_div_pow]
  have h2 : ((2 : Int) ^ k) = ((2 ^ k : Nat) : Int) := by simp
  rw [h2, Int.fdiv_eq_ediv_of_nonneg _ (Int.natCast_nonneg _)]; simp
theorem tmod64 (k : Nat) : Int.tmod (k : Int) 64 = ((k % 64 : Nat) : Int) := by
  rw [Int.tmod_eq_emod_of_nonneg (by omega)]; omega
theorem tdiv64 (k : Nat) : Int.tdiv (k : Int) 64 = ((k / 64 : Nat) : Int) := by
  rw [Int.tdiv_eq_ediv_of_nonneg (by omega)]; omega
theorem testBit_pow (k i : Nat) : (2 ^ k).testBit i = decide (k = i) := by rw [Nat.testBit_two_pow]

/-! ### The lowest bit -/
theorem and_disj (k m : Nat) (h : m < 2 ^ k) : m &&& (2 ^ k - 1 - m) = 0 := by
  apply Nat.eq_of_testBit_eq
  intro i
  have h2 : 2 ^ k - 1 - m = 2 ^ k - (m + 1) := by omega
  rw [Nat.testBit_and, h2, Nat.testBit_two_pow_sub_succ h]
  cases m.testBit i <;> simp
theorem low_bit {x i : Nat} (hx : x < 2 ^ 64) (hi : i < 64) (h1 : x.testBit i = true) (h0 : ∀ j, j < i → x.testBit j = false) : x &&& (2 ^ 64 - x) = 2 ^ i := by
  have hz : x % 2 ^ i = 0 := by
    apply Nat.eq_of_testBit_eq
    intro j
    rw [Nat.testBit_mod_two_pow, Nat.zero_testBit]
    by_cases hj : j < i
    · simp [h0 j hj]
    · simp [hj]
  obtain ⟨q, hq⟩ : ∃ q, x = q * 2 ^ i := ⟨x / 2 ^ i, by have := Nat.div_add_mod x (2 ^ i); rw [hz, Nat.mul_comm] at this; omega⟩
  have hq1 : q.testBit 0 = true := by
    have : x.testBit i = q.testBit 0 := by
      rw [hq, Nat.mul_comm, Nat.testBit_two_pow_mul]; simp
    rw [← this]; exact h1
  have hodd : q % 2 = 1 := by simpa [Nat.testBit_zero] using hq1
  have hpow : (2 : Nat) ^ 64 = 2 ^ (64 - i) * 2 ^ i := by rw [← Nat.pow_add]; congr 1; omega
  have hpos : 0 < 2 ^ i := Nat.two_pow_pos i
  have hqlt : q < 2 ^ (64 - i) := by
    rw [hq, hpow] at hx; exact Nat.lt_of_mul_lt_mul_right hx
  have hsub : 2 ^ 64 - x = (2 ^ (64 - i) - q) * 2 ^ i := by rw [hpow, hq, Nat.sub_mul]
  rw [hsub, hq]
  obtain ⟨m, hm⟩ : ∃ m, q = 2 * m + 1 := ⟨q / 2, by omega⟩
  obtain ⟨k, hk⟩ : ∃ k, 64 - i = k + 1 := ⟨63 - i, by omega⟩
  rw [hk] at hqlt ⊢
  rw [Nat.pow_succ] at hqlt ⊢
  have hmlt : m < 2 ^ k := by omega
  have h2 : 2 ^ k * 2 - q = 2 * (2 ^ k - 1 - m) + 1 := by omega
  rw [h2, hm]
  have key : (2 * m + 1) &&& (2 * (2 ^ k - 1 - m) + 1) = 1 := by
    apply Nat.eq_of_testBit_eq
    intro j
    cases j with
    | zero => simp
    | succ j =>
      have hd := congrArg (fun x => x.testBit j) (and_disj k m hmlt)
      simp only [Nat.testBit_and, Nat.zero_testBit] at hd
      rw [Nat.testBit_and, Nat.testBit_succ, Nat.testBit_succ, Nat.testBit_succ]
      have e1 : (2 * m + 1) / 2 = m := by omega
      have e2 : (2 * (2 ^ k - 1 - m) + 1) / 2 = 2 ^ k - 1 - m := by omega
      rw [e1, e2, hd]; simp
  have : (2 * m + 1) * 2 ^ i &&& (2 * (2 ^ k - 1 - m) + 1) * 2 ^ i = ((2 * m + 1) &&& (2 * (2 ^ k - 1 - m) + 1)) * 2 ^ i := by
    apply Nat.eq_of_testBit_eq
    intro j
    rw [Nat.testBit_and, Nat.mul_comm, Nat.testBit_two_pow_mul, Nat.mul_comm _ (2 ^ i), Nat.testBit_two_pow_mul, Nat.mul_comm _ (2 ^ i), Nat.testBit_two_pow_mul, Nat.testBit_and]
    cases decide (i ≤ j) <;> simp
  rw [this, key, Nat.one_mul]
/-- the deBruijn table -/
def dbt : List Nat := [0, 1, 56, 2, 57, 49, 28, 3, 61, 58, 42, 50, 38, 29, 17, 4, 62, 47, 59, 36, 45, 43, 51, 22, 53, 39, 33, 30, 24, 18, 12, 5, 63, 55, 48, 27, 60, 41, 37, 16, 46, 35, 44, 21, 52, 32, 23, 11, 54, 26, 40, 15, 34, 20, 31, 10, 25, 14, 19, 9, 13, 8, 7, 6]
theorem dbt_ok : ∀ i, i < 64 → dbt[(2 ^ i * 285870213051353865 % 18446744073709551616) >>> 58]? = some i := by decide +kernel
theorem dbt_lt : ∀ i, i < 64 → (2 ^ i * 285870213051353865 % 18446744073709551616) >>> 58 < 64 := by decide +kernel

/-! ### Counting -/
def popN (n x : Nat) : Nat := ((List.range n).filter x.testBit).length
def pop (x : Nat) : Nat := popN 64 x

/-! ### The words as a set -/
def bit (ws : List Nat) (k : Nat) : Bool := (ws.getD (k / 64) 0).testBit (k % 64)
def WOk (ws : List Nat) : Prop := ∀ x ∈ ws, x < 2 ^ 64
theorem WOk.getD {ws : List Nat} (h : WOk ws) (i : Nat) : ws.getD i 0 < 2 ^ 64 := by
  rw [List.getD_eq_getElem?_getD]
  cases hh : ws[i]? with
  | none => simp
  | some x => exact h x (List.mem_of_getElem? hh)
theorem bit_lt {ws : List Nat} {k : Nat} (h : bit ws k = true) : k < 64 * ws.length := by
  unfold bit at h
  by_cases hk : k / 64 < ws.length
  · omega
  · rw [List.getD_eq_getElem?_getD, List.getElem?_eq_none (by omega)] at h; simp at h
/-- the least number from n on -/
def nxt (ws : List Nat) (n : Nat) : Option Nat := ((List.range (64 * ws.length)).filter fun k => decide (n ≤ k) && bit ws k).head?
def nxI (ws : List Nat) (n : Int) : Int := match nxt ws n.toNat with | some k => (k : Int) | none => -1
theorem head_filter_range (p : Nat → Bool) (N k : Nat) (hk : k < N) (hp : p k = true) (hl : ∀ j, j < k → p j = false) : ((List.range N).filter p).head? = some k := by
  have e : List.range N = List.range k ++ (k :: (List.range (N - k - 1)).map (· + (k + 1))) := by
    have h1 : N = k + (1 + (N - k - 1)) := by omega
    conv => lhs; rw [h1, List.range_add, List.range_add]
    simp [Nat.add_comm, Nat.add_left_comm]
  have h0 : (List.range k).filter p = [] := by
    rw [List.filter_eq_nil_iff]
    intro x hx
    simp [hl x (by simpa using hx)]
  rw [e, List.filter_append, h0, List.nil_append, List.filter_cons, if_pos hp]
  rfl
theorem nxt_some {ws : List Nat} {n k : Nat} (h1 : n ≤ k) (h2 : bit ws k = true) (h3 : ∀ j, n ≤ j → j < k → bit ws j = false) : nxt ws n = some k := by
  refine head_filter_range _ _ _ (bit_lt h2) (by simp [h1, h2]) (fun j hj => ?_)
  by_cases hn : n ≤ j
  · simp [h3 j hn hj]
  · simp [hn]
theorem nxt_none {ws : List Nat} {n : Nat} (h : ∀ j, n ≤ j → bit ws j = false) : nxt ws n = none := by
  unfold nxt
  rw [List.head?_eq_none_iff, List.filter_eq_nil_iff]
  intro x _
  by_cases hn : n ≤ x
  · simp [h x hn]
  · simp [hn]
theorem nxt_cases (ws : List Nat) (n : Nat) : (nxt ws n = none ∧ ∀ j, n ≤ j → bit ws j = false) ∨ ∃ k, nxt ws n = some k ∧ n ≤ k ∧ bit ws k = true ∧ ∀ j, n ≤ j → j < k → bit ws j = false := by
  by_cases h : ∃ k, n ≤ k ∧ bit ws k = true
  · obtain ⟨k, hk⟩ := h
    right
    have key : ∀ d k, k - n = d → n ≤ k → bit ws k = true → ∃ k, n ≤ k ∧ bit ws k = true ∧ ∀ j, n ≤ j → j < k → bit ws j = false := by
      intro d
      induction d using Nat.strongRecOn with
      | _ d ih =>
        intro k hd h1 h2
        by_cases h3 : ∃ j, n ≤ j ∧ j < k ∧ bit ws j = true
        · obtain ⟨j, hj1, hj2, hj3⟩ := h3
          exact ih (j - n) (by omega) j rfl hj1 hj3
        · exact ⟨k, h1, h2, fun j hj1 hj2 => by
            cases hb : bit ws j with
            | false => rfl
            | true => exact absurd ⟨j, hj1, hj2, hb⟩ h3⟩
    obtain ⟨k, h1, h2, h3⟩ := key _ k rfl hk.1 hk.2
    exact ⟨k, nxt_some h1 h2 h3, h1, h2, h3⟩
  · left
    have h' : ∀ j, n ≤ j → bit ws j = false := fun j hj => by
      cases hb : bit ws j with
      | false => rfl
      | true => exact absurd ⟨j, hj, hb⟩ h
    exact ⟨nxt_none h', h'⟩
end Go.Vc
