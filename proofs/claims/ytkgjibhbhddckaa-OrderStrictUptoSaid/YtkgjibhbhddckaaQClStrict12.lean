/- rows of events. -/
import Derived.Test.YtkgjibhbhddckaaQClStrict11
import Derived.Test.YtkgjibhbhddckaaQClStrict7
import Derived.Test.YtkgjibhbhddckaaChecked
import Derived.Test.YtkgjibhbhddckaaQClStrict10
namespace Go.Vc
open Go Go.Proofs
def evsC (l : List Ev) : List Value := l.flatMap evC
theorem evsC_len (l : List Ev) : (evsC l).length = l.length * 3 := by
  induction l with
  | nil => rfl
  | cons x r ih => unfold evsC at *; rw [List.flatMap_cons, List.length_append, ih]; simp [evC]; omega
theorem evsC_get : ∀ {l : List Ev} {i : Nat} {x : Ev}, l[i]? = some x → ∀ j v, (evC x)[j]? = some v → (evsC l)[i * 3 + j]? = some v
  | [], i, x, h, _, _, _ => by simp at h
  | y :: r, 0, x, h, j, v, hv => by
    simp at h; subst h
    have e1 : evsC (y :: r) = evC y ++ evsC r := by simp [evsC]
    rw [e1, Nat.zero_mul, Nat.zero_add, List.getElem?_append_left ((List.getElem?_eq_some_iff.1 hv).1)]
    exact hv
  | y :: r, i + 1, x, h, j, v, hv => by
    have ih := evsC_get (l := r) (i := i) (x := x) (by simpa using h) j v hv
    have e1 : evsC (y :: r) = evC y ++ evsC r := by simp [evsC]
    have l3 : (evC y).length = 3 := rfl
    rw [e1, List.getElem?_append_right (by omega)]
    have e2 : (i + 1) * 3 + j - (evC y).length = i * 3 + j := by omega
    rw [e2]; exact ih
end Go.Vc
/- Plain laws of words of 64 bits. No program. -/
namespace Go.Vc
open Go

abbrev U (n : Nat) : Value := .int .u64 (n : Int)

theorem wrapU (x : Int) : IntKind.u64.wrap x = x % 18446744073709551616 := rfl

theorem bvU (n : Nat) (h : n < 2 ^ 64) : (BitVec.ofInt 64 (n : Int)).toNat = n := by
  rw [BitVec.toNat_ofInt]; simp; omega
theorem ibits_and {a b : Nat} (ha : a < 2 ^ 64) (hb : b < 2 ^ 64) : ibits .and .u64 (a : Int) (b : Int) = ((a &&& b : Nat) : Int) := by
  have hlt : a &&& b < 2 ^ 64 := Nat.and_lt_two_pow a hb
  show IntKind.u64.wrap ((BitVec.ofInt 64 (a : Int) &&& BitVec.ofInt 64 (b : Int)).toNat : Int) = _
  rw [BitVec.toNat_and, bvU a ha, bvU b hb, wrapU]; omega
theorem ibits_or {a b : Nat} (ha : a < 2 ^ 64) (hb : b < 2 ^ 64) : ibits .or .u64 (a : Int) (b : Int) = ((a ||| b : Nat) : Int) := by
  have hlt : a ||| b < 2 ^ 64 := Nat.or_lt_two_pow ha hb
  show IntKind.u64.wrap ((BitVec.ofInt 64 (a : Int) ||| BitVec.ofInt 64 (b : Int)).toNat : Int) = _
  rw [BitVec.toNat_or, bvU a ha, bvU b hb, wrapU]; omega
theorem ibits_xor {a b : Nat} (ha : a < 2 ^ 64) (hb : b < 2 ^ 64) : ibits .xor .u64 (a : Int) (b : Int) = ((a ^^^ b : Nat) : Int) := by
  have hlt : a ^^^ b < 2 ^ 64 := Nat.xor_lt_two_pow ha hb
  show IntKind.u64.wrap ((BitVec.ofInt 64 (a : Int) ^^^ BitVec.ofInt 64 (b : Int)).toNat : Int) = _
  rw [BitVec.toNat_xor, bvU a ha, bvU b hb, wrapU]; omega
/-- and not -/
def andn (a b : Nat) : Nat := a &&& (2 ^ 64 - 1 - b)
theorem andn_lt {a b : Nat} (ha : a < 2 ^ 64) : andn a b < 2 ^ 64 := Nat.lt_of_le_of_lt Nat.and_le_left ha
theorem testBit_andn {a b i : Nat} (hb : b < 2 ^ 64) (hi : i < 64) : (andn a b).testBit i = (a.testBit i && !b.testBit i) := by
  unfold andn
  rw [Nat.testBit_and]
  have h2 : 2 ^ 64 - 1 - b = 2 ^ 64 - (b + 1) := by omega
  rw [h2, Nat.testBit_two_pow_sub_succ hb]; simp [hi]
theorem ibits_andn {a b : Nat} (ha : a < 2 ^ 64) (hb : b < 2 ^ 64) : ibits .andNot .u64 (a : Int) (b : Int) = ((andn a b : Nat) : Int) := by
  have hlt : andn a b < 2 ^ 64 := andn_lt ha
  show IntKind.u64.wrap ((BitVec.ofInt 64 (a : Int) &&& ~~~ BitVec.ofInt 64 (b : Int)).toNat : Int) = _
  rw [BitVec.toNat_and, BitVec.toNat_not, bvU a ha, bvU b hb, wrapU]
  unfold andn at hlt ⊢; omega
theorem shl_one {k : Nat} (hk : k < 64) : IntKind.u64.wrap (1 * 2 ^ (min k 64)) = ((2 ^ k : Nat) : Int) := by
  rw [wrapU, Nat.min_eq_left (by omega)]
  have : 2 ^ k < 2 ^ 64 := Nat.pow_lt_pow_right (by omega) hk
  have h2 : ((2 : Int) ^ k) = ((2 ^ k : Nat) : Int) := by simp
  rw [Int.one_mul, h2]
  generalize 2 ^ k = z at this ⊢
  omega
theorem shrU {a k : Nat} (hk : k ≤ 64) : Int.fdiv (a : Int) (2 ^ (min k 64)) = ((a >>> k : Nat) : Int) := by
  rw [Nat.min_eq_left hk, Nat.shiftRight_eq_div_pow]
  have h2 : ((2 : Int) ^ k) = ((2 ^ k : Nat) : Int) := by simp
  rw [h2, Int.fdiv_eq_ediv_of_nonneg _ (Int.natCast_nonneg _)]; simp
theorem tmod64 (k : Nat) : Int.tmod (k : Int) 64 = ((k % 64 : Nat) : Int) := by
  rw [Int.tmod_eq_emod_of_nonneg (by omega)]; omega
theorem tdiv64 (k : Nat) : Int.tdiv (k : Int) 64 = ((k / 64 : Nat) : Int) := by
  rw [Int.tdiv_eq_ediv_of_nonneg (by omega)]; omega
theorem testBit_pow (k i : Nat) : (2 ^ k).testBit i = decide (k = i) := by rw [Nat.testBit_two_pow]

/-! ### The lowest bit -/
theorem and_disj (k m : Nat) (h : m < 2 ^ k) : m &&& (2 ^ k - 1 - m) = 0 := by
  apply Nat.eq_of_testBit_eq
  intro i
  have h2 : 2 ^ k - 1 - m = 2 ^ k - (m + 1) := by omega
  rw [Nat.testBit_and, h2, Nat.testBit_two_pow_sub_succ h]
  cases m.testBit i <;> simp
theorem low_bit {x i : Nat} (hx : x < 2 ^ 64) (hi : i < 64) (h1 : x.testBit i = true) (h0 : ∀ j, j < i → x.testBit j = false) : x &&& (2 ^ 64 - x) = 2 ^ i := by
  have hz : x % 2 ^ i = 0 := by
    apply Nat.eq_of_testBit_eq
    intro j
    rw [Nat.testBit_mod_two_pow, Nat.zero_testBit]
    by_cases hj : j < i
    · simp [h0 j hj]
    · simp [hj]
  obtain ⟨q, hq⟩ : ∃ q, x = q * 2 ^ i := ⟨x / 2 ^ i, by have := Nat.div_add_mod x (2 ^ i); rw [hz, Nat.mul_comm] at this; omega⟩
  have hq1 : q.testBit 0 = true := by
    have : x.testBit i = q.testBit 0 := by
      rw [hq, Nat.mul_comm, Nat.testBit_two_pow_mul]; simp
    rw [← this]; exact h1
  have hodd : q % 2 = 1 := by simpa [Nat.testBit_zero] using hq1
  have hpow : (2 : Nat) ^ 64 = 2 ^ (64 - i) * 2 ^ i := by rw [← Nat.pow_add]; congr 1; omega
  have hpos : 0 < 2 ^ i := Nat.two_pow_pos i
  have hqlt : q < 2 ^ (64 - i) := by
    rw [hq, hpow] at hx; exact Nat.lt_of_mul_lt_mul_right hx
  have hsub : 2 ^ 64 - x = (2 ^ (64 - i) - q) * 2 ^ i := by rw [hpow, hq, Nat.sub_mul]
  rw [hsub, hq]
  obtain ⟨m, hm⟩ : ∃ m, q = 2 * m + 1 := ⟨q / 2, by omega⟩
  obtain ⟨k, hk⟩ : ∃ k, 64 - i = k + 1 := ⟨63 - i, by omega⟩
  rw [hk] at hqlt ⊢
  rw [Nat.pow_succ] at hqlt ⊢
  have hmlt : m < 2 ^ k := by omega
  have h2 : 2 ^ k * 2 - q = 2 * (2 ^ k - 1 - m) + 1 := by omega
  rw [h2, hm]
  have key : (2 * m + 1) &&& (2 * (2 ^ k - 1 - m) + 1) = 1 := by
    apply Nat.eq_of_testBit_eq
    intro j
    cases j with
    | zero => simp
    | succ j =>
      have hd := congrArg (fun x => x.testBit j) (and_disj k m hmlt)
      simp only [Nat.testBit_and, Nat.zero_testBit] at hd
      rw [Nat.testBit_and, Nat.testBit_succ, Nat.testBit_succ, Nat.testBit_succ]
      have e1 : (2 * m + 1) / 2 = m := by omega
      have e2 : (2 * (2 ^ k - 1 - m) + 1) / 2 = 2 ^ k - 1 - m := by omega
      rw [e1, e2, hd]; simp
  have : (2 * m + 1) * 2 ^ i &&& (2 * (2 ^ k - 1 - m) + 1) * 2 ^ i = ((2 * m + 1) &&& (2 * (2 ^ k - 1 - m) + 1)) * 2 ^ i := by
    apply Nat.eq_of_testBit_eq
    intro j
    rw [Nat.testBit_and, Nat.mul_comm, Nat.testBit_two_pow_mul, Nat.mul_comm _ (2 ^ i), Nat.testBit_two_pow_mul, Nat.mul_comm _ (2 ^ i), Nat.testBit_two_pow_mul, Nat.testBit_and]
    cases decide (i ≤ j) <;> simp
  rw [this, key, Nat.one_mul]
/-- the deBruijn table -/
def dbt : List Nat := [0, 1, 56, 2, 57, 49, 28, 3, 61, 58, 42, 50, 38, 29, 17, 4, 62, 47, 59, 36, 45, 43, 51, 22, 53, 39, 33, 30, 24, 18, 12, 5, 63, 55, 48, 27, 60, 41, 37, 16, 46, 35, 44, 21, 52, 32, 23, 11, 54, 26, 40, 15, 34, 20, 31, 10, 25, 14, 19, 9, 13, 8, 7, 6]
theorem dbt_ok : ∀ i, i < 64 → dbt[(2 ^ i * 285870213051353865 % 18446744073709551616) >>> 58]? = some i := by decide +kernel
theorem dbt_lt : ∀ i, i < 64 → (2 ^ i * 285870213051353865 % 18446744073709551616) >>> 58 < 64 := by decide +kernel

/-! ### Counting -/
def popN (n x : Nat) : Nat := ((List.range n).filter x.testBit).length
def pop (x : Nat) : Nat := popN 64 x

/-! ### The words as a set -/
def bit (ws : List Nat) (k : Nat) : Bool := (ws.getD (k / 64) 0).testBit (k % 64)
def WOk (ws : List Nat) : Prop := ∀ x ∈ ws, x < 2 ^ 64
theorem WOk.getD {ws : List Nat} (h : WOk ws) (i : Nat) : ws.getD i 0 < 2 ^ 64 := by
  rw [List.getD_eq_getElem?_getD]
  cases hh : ws[i]? with
  | none => simp
  | some x => exact h x (List.mem_of_getElem? hh)
theorem bit_lt {ws : List Nat} {k : Nat} (h : bit ws k = true) : k < 64 * ws.length := by
  unfold bit at h
  by_cases hk : k / 64 < ws.length
  · omega
  · rw [List.getD_eq_getElem?_getD, List.getElem?_eq_none (by omega)] at h; simp at h
/-- the least number from n on -/
def nxt (ws : List Nat) (n : Nat) : Option Nat := ((List.range (64 * ws.length)).filter fun k => decide (n ≤ k) && bit ws k).head?
def nxI (ws : List Nat) (n : Int) : Int := match nxt ws n.toNat with | some k => (k : Int) | none => -1
theorem head_filter_range (p : Nat → Bool) (N k : Nat) (hk : k < N) (hp : p k = true) (hl : ∀ j, j < k → p j = false) : ((List.range N).filter p).head? = some k := by
  have e : List.range N = List.range k ++ (k :: (List.range (N - k - 1)).map (· + (k + 1))) := by
    have h1 : N = k + (1 + (N - k - 1)) := by omega
    conv => lhs; rw [h1, List.range_add, List.range_add]
    simp [Nat.add_comm, Nat.add_left_comm]
  have h0 : (List.range k).filter p = [] := by
    rw [List.filter_eq_nil_iff]
    intro x hx
    simp [hl x (by simpa using hx)]
  rw [e, List.filter_append, h0, List.nil_append, List.filter_cons, if_pos hp]
  rfl
theorem nxt_some {ws : List Nat} {n k : Nat} (h1 : n ≤ k) (h2 : bit ws k = true) (h3 : ∀ j, n ≤ j → j < k → bit ws j = false) : nxt ws n = some k := by
  refine head_filter_range _ _ _ (bit_lt h2) (by simp [h1, h2]) (fun j hj => ?_)
  by_cases hn : n ≤ j
  · simp [h3 j hn hj]
  · simp [hn]
theorem nxt_none {ws : List Nat} {n : Nat} (h : ∀ j, n ≤ j → bit ws j = false) : nxt ws n = none := by
  unfold nxt
  rw [List.head?_eq_none_iff, List.filter_eq_nil_iff]
  intro x _
  by_cases hn : n ≤ x
  · simp [h x hn]
  · simp [hn]
theorem nxt_cases (ws : List Nat) (n : Nat) : (nxt ws n = none ∧ ∀ j, n ≤ j → bit ws j = false) ∨ ∃ k, nxt ws n = some k ∧ n ≤ k ∧ bit ws k = true ∧ ∀ j, n ≤ j → j < k → bit ws j = false := by
  by_cases h : ∃ k, n ≤ k ∧ bit ws k = true
  · obtain ⟨k, hk⟩ := h
    right
    have key : ∀ d k, k - n = d → n ≤ k → bit ws k = true → ∃ k, n ≤ k ∧ bit ws k = true ∧ ∀ j, n ≤ j → j < k → bit ws j = false := by
      intro d
      induction d using Nat.strongRecOn with
      | _ d ih =>
        intro k hd h1 h2
        by_cases h3 : ∃ j, n ≤ j ∧ j < k ∧ bit ws j = true
        · obtain ⟨j, hj1, hj2, hj3⟩ := h3
          exact ih (j - n) (by omega) j rfl hj1 hj3
        · exact ⟨k, h1, h2, fun j hj1 hj2 => by
            cases hb : bit ws j with
            | false => rfl
            | true => exact absurd ⟨j, hj1, hj2, hb⟩ h3⟩
    obtain ⟨k, h1, h2, h3⟩ := key _ k rfl hk.1 hk.2
    exact ⟨k, nxt_some h1 h2 h3, h1, h2, h3⟩
  · left
    have h' : ∀ j, n ≤ j → bit ws j = false := fun j hj => by
      cases hb : bit ws j with
      | false => rfl
      | true => exact absurd ⟨j, hj, hb⟩ h
    exact ⟨nxt_none h', h'⟩
end Go.Vc
/- bits: the lowest bit, next, there, check. -/
namespace Go.Vc
open Go Go.Proofs
set_option maxRecDepth 10000
variable {w : World}

/-! ### next -/
/-- the word's value is read as this -/
theorem mask_bits {x n i : Nat} (hx : x < 2 ^ 64) (hn : n < 64) (hi : i < 64) : (x &&& (2 ^ 64 - 2 ^ n)).testBit i = (x.testBit i && decide (n ≤ i)) := by
  rw [Nat.testBit_and]
  have h1 : 2 ^ 64 - 2 ^ n = (2 ^ (64 - n) - 1) * 2 ^ n := by
    rw [Nat.sub_mul, ← Nat.pow_add, Nat.one_mul]; congr 2; omega
  rw [h1, Nat.mul_comm, Nat.testBit_two_pow_mul, Nat.testBit_two_pow_sub_one]
  by_cases h : n ≤ i
  · have : i - n < 64 - n := by omega
    simp [h, this]
  · simp [h]
theorem least_bit {x : Nat} (hx : x < 2 ^ 64) (h0 : x ≠ 0) : ∃ i, i < 64 ∧ x.testBit i = true ∧ ∀ j, j < i → x.testBit j = false := by
  have hb : ∃ i, x.testBit i = true := Nat.exists_testBit_of_ne_zero h0
  have key : ∀ i, x.testBit i = true → ∃ i, x.testBit i = true ∧ ∀ j, j < i → x.testBit j = false := by
    intro i
    induction i using Nat.strongRecOn with
    | _ i ih =>
      intro hi
      by_cases h : ∃ j, j < i ∧ x.testBit j = true
      · obtain ⟨j, hj, hb⟩ := h; exact ih j hj hb
      · exact ⟨i, hi, fun j hj => by
          cases hb : x.testBit j with
          | false => rfl
          | true => exact absurd ⟨j, hj, hb⟩ h⟩
  obtain ⟨i, hi⟩ := hb
  obtain ⟨i, h1, h2⟩ := key i hi
  refine ⟨i, ?_, h1, h2⟩
  apply Classical.byContradiction
  intro hge
  have : x < 2 ^ i := Nat.lt_of_lt_of_le hx (Nat.pow_le_pow_right (by omega) (by omega))
  rw [Nat.testBit_lt_two_pow this] at h1; cases h1
theorem shl_all {n : Nat} (hn : n < 64) : IntKind.u64.wrap (18446744073709551615 * 2 ^ (min n 64)) = ((2 ^ 64 - 2 ^ n : Nat) : Int) := by
  have hp : 2 ^ n < 2 ^ 64 := Nat.pow_lt_pow_right (by omega) hn
  have hp1 : 0 < 2 ^ n := Nat.two_pow_pos n
  rw [wrapU, Nat.min_eq_left (by omega)]
  have h2 : ((2 : Int) ^ n) = ((2 ^ n : Nat) : Int) := by simp
  rw [h2]
  generalize 2 ^ n = z at hp hp1 ⊢
  omega

/-- words that are read: a slice's header and its cells -/
structure RdW (w : World) (ad : Option Addr) (ws : List Nat) : Prop where
  read : ReadS w ad (ws.map U)
  ok : WOk ws
  len : ws.length ≤ 140737488355328
theorem RdW.kp {w w' : World} {ad : Option Addr} {ws : List Nat} (h : RdW w ad ws) {S : List Nat} (hk : Kp S w w') (hd : ∀ b, b ∈ blkOf ad → b ∉ S) : RdW w' ad ws := ⟨h.read.kp hk hd, h.ok, h.len⟩

end Go.Vc
/- bits: a set in memory; there, check, Next, Has, trim, Put. -/
namespace Go.Vc
open Go Go.Proofs
set_option maxRecDepth 10000
variable {w : World}

def chk (n : Int) : Int := if 0 ≤ n ∧ n < 1048576 then 0 else 2
def nextV (ws : List Nat) (n : Int) : Value := .tuple #[I (max (nxI ws n) 0), .bool (decide (0 ≤ nxI ws n))]
def hasB (ws : List Nat) (n : Int) : Bool := decide (0 ≤ n) && bit ws n.toNat
theorem bit_shr {x : Nat} (hx : x < 2 ^ 64) (k : Nat) : ibits .and .u64 (Int.fdiv (x : Int) (2 ^ (min (Int.tmod (k : Int) 64).toNat 64))) 1 = (((x >>> (k % 64)) &&& 1 : Nat) : Int) := by
  rw [tmod64, Int.toNat_natCast, shrU (by omega)]
  exact ibits_and (b := 1) (Nat.lt_of_le_of_lt (by rw [Nat.shiftRight_eq_div_pow]; exact Nat.div_le_self _ _) hx) (by decide)
theorem bit_and1 (x j : Nat) : ((((x >>> j) &&& 1 : Nat) : Int) = 0) ↔ x.testBit j = false := by
  rw [Nat.testBit, Nat.and_comm]
  generalize 1 &&& x >>> j = z
  by_cases h : z = 0 <;> simp [h]
end Go.Vc
/- bits: trim, Put, Del, New. -/
namespace Go.Vc
open Go Go.Proofs
set_option maxRecDepth 10000
variable {w : World}

theorem WOk.append {a b : List Nat} (ha : WOk a) (hb : WOk b) : WOk (a ++ b) := fun x hx => by
  rcases List.mem_append.1 hx with h | h
  · exact ha x h
  · exact hb x h
theorem WOk.zeros (n : Nat) : WOk (List.replicate n 0) := fun x hx => by simp at hx; rw [hx.2]; decide
theorem WOk.set {a : List Nat} (ha : WOk a) {i x : Nat} (hx : x < 2 ^ 64) : WOk (a.set i x) := fun y hy => by
  rcases List.mem_or_eq_of_mem_set hy with h | h
  · exact ha y h
  · rw [h]; exact hx

def putW (ws : List Nat) (k : Nat) : List Nat :=
  let l := ws ++ List.replicate (k / 64 + 1 - ws.length) 0
  l.set (k / 64) (l.getD (k / 64) 0 ||| 2 ^ (k % 64))
/-! ### trim -/
def trim : List Nat → List Nat
  | [] => []
  | x :: r => match trim r with
    | [] => if x = 0 then [] else [x]
    | y :: s => x :: y :: s
theorem trim_len (ws : List Nat) : (trim ws).length ≤ ws.length := by
  induction ws with
  | nil => simp [trim]
  | cons x r ih =>
    unfold trim
    split
    · split <;> simp
    · rename_i y s hh; rw [hh] at ih; simp at ih ⊢; exact ih
theorem trim_take (ws : List Nat) : trim ws = ws.take (trim ws).length := by
  induction ws with
  | nil => simp [trim]
  | cons x r ih =>
    have hh : trim (x :: r) = match trim r with | [] => if x = 0 then [] else [x] | y :: s => x :: y :: s := rfl
    cases ht : trim r with
    | nil =>
      rw [ht] at hh
      dsimp only at hh
      rw [hh]; split <;> simp
    | cons y s =>
      rw [ht] at hh
      dsimp only at hh
      rw [hh]
      rw [ht] at ih
      simp only [List.length_cons, List.take_succ_cons]
      simp only [List.length_cons] at ih
      rw [← ih]
theorem trim_snoc0 (l : List Nat) : trim (l ++ [0]) = trim l := by
  induction l with
  | nil => rfl
  | cons x r ih => simp only [List.cons_append, trim, ih]
theorem trim_snoc {l : List Nat} {x : Nat} (hx : x ≠ 0) : trim (l ++ [x]) = l ++ [x] := by
  induction l with
  | nil => simp [trim, hx]
  | cons y r ih =>
    simp only [List.cons_append, trim, ih]
    cases r <;> simp
end Go.Vc
/- bits: Del, New. -/
namespace Go.Vc
open Go Go.Proofs
set_option maxRecDepth 10000
variable {w : World}

def delW (ws : List Nat) (k : Nat) : List Nat := if k / 64 < ws.length then trim (ws.set (k / 64) (andn (ws.getD (k / 64) 0) (2 ^ (k % 64)))) else ws
/-- what New makes of numbers -/
def newW (l : List Int) (ws : List Nat) : List Nat := l.foldl (fun ws n => putW ws n.toNat) ws
def allOk (l : List Int) : Bool := l.all fun n => decide (0 ≤ n) && decide (n < 1048576)
/-! ### Numbers in and out: the words' laws -/
theorem getD_zeros (ws : List Nat) (n i : Nat) : (ws ++ List.replicate n 0).getD i 0 = ws.getD i 0 := by
  rw [List.getD_eq_getElem?_getD, List.getD_eq_getElem?_getD]
  by_cases h : i < ws.length
  · rw [List.getElem?_append_left h]
  · rw [List.getElem?_append_right (by omega), List.getElem?_replicate, List.getElem?_eq_none (l := ws) (by omega)]
    split <;> rfl
theorem getD_set (ws : List Nat) (i j x : Nat) (hi : i < ws.length) : (ws.set i x).getD j 0 = if i = j then x else ws.getD j 0 := by
  rw [List.getD_eq_getElem?_getD, List.getD_eq_getElem?_getD, List.getElem?_set]
  by_cases h : i = j
  · subst h; simp [hi]
  · simp [h]
theorem bit_putW (ws : List Nat) (k j : Nat) : bit (putW ws k) j = (bit ws j || decide (k = j)) := by
  unfold putW bit
  dsimp only
  rw [getD_set _ _ _ _ (by simp; omega), getD_zeros, getD_zeros]
  by_cases h : k / 64 = j / 64
  · rw [if_pos h, Nat.testBit_or, Nat.testBit_two_pow, h]
    congr 1
    rw [decide_eq_decide]; omega
  · rw [if_neg h]
    have : k ≠ j := by rintro rfl; exact h rfl
    simp [this]
theorem getD_trim (ws : List Nat) (i : Nat) : (trim ws).getD i 0 = ws.getD i 0 := by
  induction ws generalizing i with
  | nil => rfl
  | cons x r ih =>
    have hh : trim (x :: r) = match trim r with | [] => if x = 0 then [] else [x] | y :: s => x :: y :: s := rfl
    cases ht : trim r with
    | nil =>
      rw [ht] at hh
      dsimp only at hh
      rw [hh]
      have ih' : ∀ i, r.getD i 0 = 0 := fun i => by rw [← ih i, ht]; rfl
      cases i with
      | zero => split <;> simp_all
      | succ i =>
        rw [List.getD_cons_succ, ih' i]
        split <;> rfl
    | cons y s =>
      rw [ht] at hh
      dsimp only at hh
      rw [hh]
      cases i with
      | zero => rfl
      | succ i => rw [List.getD_cons_succ, List.getD_cons_succ, ← ih i, ht]
theorem bit_trim (ws : List Nat) (j : Nat) : bit (trim ws) j = bit ws j := by unfold bit; rw [getD_trim]
theorem bit_delW {ws : List Nat} (hok : WOk ws) (k j : Nat) : bit (delW ws k) j = (bit ws j && !decide (k = j)) := by
  unfold delW
  split
  · rename_i hlt
    rw [bit_trim]
    unfold bit
    rw [getD_set _ _ _ _ hlt]
    by_cases h : k / 64 = j / 64
    · rw [if_pos h, testBit_andn (Nat.pow_lt_pow_right (by omega) (by omega)) (by omega), Nat.testBit_two_pow, h]
      congr 2
      rw [decide_eq_decide]; omega
    · rw [if_neg h]
      have : k ≠ j := by rintro rfl; exact h rfl
      simp [this]
  · rename_i hlt
    by_cases h : k = j
    · subst h
      cases hb : bit ws k with
      | false => rfl
      | true => have := bit_lt hb; omega
    · simp [h]
theorem bit_newW (l : List Int) : ∀ (ws : List Nat) (j : Nat), allOk l = true → bit (newW l ws) j = (bit ws j || l.contains (j : Int)) := by
  induction l with
  | nil => intro ws j _; simp [newW]
  | cons n r ih =>
    intro ws j hok
    have h0 : (0 ≤ n ∧ n < 1048576) ∧ allOk r = true := by
      unfold allOk at hok ⊢; simpa only [List.all_cons, Bool.and_eq_true, decide_eq_true_eq] using hok
    have h1 := h0.2
    have h2 := h0.1
    show bit (newW r (putW ws n.toNat)) j = _
    rw [ih _ _ h1, bit_putW, Bool.or_assoc, List.contains_cons]
    congr 2
    rw [Bool.eq_iff_iff]; simp; omega
/-- the numbers, rising -/
def elems (ws : List Nat) : List Nat := (List.range (64 * ws.length)).filter (bit ws)
end Go.Vc
/- bits: Clone, Words, All, List; gone. -/
namespace Go.Vc
open Go Go.Proofs
set_option maxRecDepth 10000
variable {w : World}

/-! ### All: the iterator -/
abbrev encN (k : Nat) : List Value := [I (k : Int)]
theorem elems_split {ws : List Nat} {pre post : List Nat} {k : Nat} (h : elems ws = pre ++ k :: post) : bit ws k = true ∧ (∀ j, j ∈ pre → j < k) ∧ ∀ j, bit ws j = true → j < k → j ∈ pre := by
  have hs : (elems ws).Pairwise (· < ·) := List.Pairwise.filter _ List.pairwise_lt_range
  have hm : ∀ j, j ∈ elems ws ↔ bit ws j = true := fun j => by
    unfold elems
    rw [List.mem_filter, List.mem_range]
    exact ⟨fun h => h.2, fun h => ⟨bit_lt h, h⟩⟩
  rw [h] at hs hm
  rw [List.pairwise_append] at hs
  refine ⟨(hm k).1 (by simp), fun j hj => hs.2.2 j hj k (by simp), fun j hj hlt => ?_⟩
  rcases List.mem_append.1 ((hm j).2 hj) with h1 | h1
  · exact h1
  · rcases List.mem_cons.1 h1 with h1 | h1
    · omega
    · have := (List.pairwise_cons.1 hs.2.1).1 j h1; omega
theorem mem_elems {ws : List Nat} {j : Nat} : j ∈ elems ws ↔ bit ws j = true := by
  unfold elems
  rw [List.mem_filter, List.mem_range]
  exact ⟨fun h => h.2, fun h => ⟨bit_lt h, h⟩⟩
/-- what next tells behind the first ones -/
theorem nxt_elems {ws : List Nat} {pre post : List Nat} (h : elems ws = pre ++ post) (n : Nat) (hn : ∀ j, j ∈ pre → j < n) (hn2 : ∀ j, bit ws j = true → j < n → j ∈ pre) : nxt ws n = post.head? := by
  cases post with
  | nil =>
    refine nxt_none fun j hj => ?_
    cases hb : bit ws j with
    | false => rfl
    | true => have := mem_elems.2 hb; rw [h, List.append_nil] at this; have := hn j this; omega
  | cons k post =>
    obtain ⟨h1, h2, h3⟩ := elems_split h
    refine nxt_some ?_ h1 (fun j hj1 hj2 => ?_)
    · apply Classical.byContradiction
      intro hlt
      have := hn2 k h1 (by omega)
      have := h2 k this; omega
    · cases hb : bit ws j with
      | false => rfl
      | true => have := hn j (h3 j hb hj2); omega

def hdI (l : List Nat) : Int := match l.head? with | some k => (k : Int) | none => -1
theorem nxI_elems {ws : List Nat} {pre post : List Nat} (h : elems ws = pre ++ post) (n : Int) (hn : ∀ j, j ∈ pre → (j : Int) < n) (h0 : 0 ≤ n) (hn2 : ∀ j, bit ws j = true → (j : Int) < n → j ∈ pre) : nxI ws n = hdI post := by
  unfold nxI hdI
  rw [nxt_elems h n.toNat (fun j hj => by have := hn j hj; omega) (fun j hb hj => hn2 j hb (by omega))]
  all_goals (cases post.head? <;> rfl)
end Go.Vc
/- bits: All, Collect, List; gone. -/
namespace Go.Vc
open Go Go.Proofs
set_option maxRecDepth 10000
variable {w : World}

def encI (k : Nat) : Value := I (k : Int)
theorem Keeps.ne {D l : Nat} {r : Loop} {Fp : List Nat} {w W : World} (h : Keeps D l r Fp w W) {b : Nat} {L : List Value} {T : TypeId} (hb : Blk W b L T) : b ≠ l ∧ b ≠ D := by
  constructor
  · rintro rfl; have := h.loop; unfold Blk at hb; rw [hb] at this; cases this
  · rintro rfl; have := h.shut; unfold Blk at hb; rw [hb] at this; cases this
theorem Keeps.ne_own {D l : Nat} {r : Loop} {Fp : List Nat} {w W : World} (h : Keeps D l r Fp w W) {T : TypeId} {size : Nat} {ad : Option Addr} {n cap : Nat} {xs : List Value} (ho : OwnS W T size ad n cap xs) : l ∉ blkOf ad ∧ D ∉ blkOf ad := by
  cases ad with
  | none => simp [blkOf]
  | some ad =>
    obtain ⟨_, _, _, _, junk, h5, _⟩ := ho.2
    have := h.ne h5
    simp only [blkOf, List.mem_singleton]
    exact ⟨Ne.symm this.1, Ne.symm this.2⟩

/-- a sequence of numbers: a function value that tells them -/
structure SeqIs (w : World) (v : Value) (Fp : List Nat) (xs : List Nat) : Prop where
  is : ∃ f lb, v = .func (.func f) #[] ⟨lb⟩ ∧ Iter Try.prog f lb Fp encN xs w
theorem SeqIs.kp {w w' : World} {v : Value} {Fp xs : List Nat} (h : SeqIs w v Fp xs) {S : List Nat} (hk : Kp S w w') (hd : ∀ b, b ∈ Fp → b ∉ S) : SeqIs w' v Fp xs := by
  obtain ⟨f, lb, h1, h2⟩ := h.is
  exact ⟨f, lb, h1, h2.kp hk.size (fun b hb => hk.at_ b (h2.1 b hb) (hd b hb))⟩
theorem SeqIs.lt {v : Value} {Fp xs : List Nat} (h : SeqIs w v Fp xs) : ∀ b, b ∈ Fp → b < w.heap.size := by
  obtain ⟨f, lb, h1, h2⟩ := h.is
  exact h2.1

theorem elems_len (ws : List Nat) : (elems ws).length ≤ 64 * ws.length := by
  unfold elems
  have := List.length_filter_le (bit ws) (List.range (64 * ws.length))
  simpa using this
/-! ### gone: the law's reading of an iterator -/
def goneL (xs : List Nat) (most : Int) : List Nat := if 0 ≤ most then xs.take most.toNat else xs
structure GoneI (w : World) (bm bx : Nat) (most : Int) (pre : List Nat) (W : World) (ad : Option Addr) (cap : Nat) : Prop where
  bm_ : Blk W bm [I most] 3
  bx_ : Blk W bx [.slice ad pre.length cap] 22
  own : OwnS W 3 1 ad pre.length cap (pre.map encI)
  kp : Kp [] w W
  ne : bx ∉ blkOf ad
  nm : bm ∉ bx :: blkOf ad
  new : ∀ b, b ∈ blkOf ad → w.heap.size ≤ b
  few : 0 ≤ most → (pre.length : Int) ≤ most
theorem GoneI.nc {bm bx : Nat} {most : Int} {pre : List Nat} {W W' : World} {ad : Option Addr} {cap B : Nat} (h : GoneI w bm bx most pre W ad cap) (hn : Nc B W W') (hB : w.heap.size ≤ B) : GoneI w bm bx most pre W' ad cap :=
  ⟨hn.blk h.bm_, hn.blk h.bx_, hn.own h.own, hn.kp h.kp hB, h.ne, h.nm, h.new, h.few⟩
end Go.Vc
