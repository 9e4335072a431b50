/- Plain laws of words of 64 bits. No program. -/
import Derived.Test.YtkgjibhbhddckaaDoorQClKeeps7
import Derived.Test.YtkgjibhbhddckaaDoorChecked
namespace Go.Vc
open Go

abbrev U (n : Nat) : Value := .int .u64 (n : Int)

theorem wrapU (x : Int) : IntKind.u64.wrap x = x % 18446744073709551616 := rfl

theorem bvU (n : Nat) (h : n < 2 ^ 64) : (BitVec.ofInt 64 (n : Int)).toNat = n := by
  rw [BitVec.toNat_ofInt]; simp; omega
theorem ibits_and {a b : Nat} (ha : a < 2 ^ 64) (hb : b < 2 ^ 64) : ibits .and .u64 (a : Int) (b : Int) = ((a &&& b : Nat) : Int) := by
  have hlt : a &&& b < 2 ^ 64 := Nat.and_lt_two_pow a hb
  show IntKind.u64.wrap ((BitVec.ofInt 64 (a : Int) &&& BitVec.ofInt 64 (b : Int)).toNat : Int) = _
  rw [BitVec.toNat_and, bvU a ha, bvU b hb, wrapU]; omega
theorem ibits_or {a b : Nat} (ha : a < 2 ^ 64) (hb : b < 2 ^ 64) : ibits .or .u64 (a : Int) (b : Int) = ((a ||| b : Nat) : Int) := by
  have hlt : a ||| b < 2 ^ 64 := Nat.or_lt_two_pow ha hb
  show IntKind.u64.wrap ((BitVec.ofInt 64 (a : Int) ||| BitVec.ofInt 64 (b : Int)).toNat : Int) = _
  rw [BitVec.toNat_or, bvU a ha, bvU b hb, wrapU]; omega
/-- and not -/
def andn (a b : Nat) : Nat := a &&& (2 ^ 64 - 1 - b)
theorem andn_lt {a b : Nat} (ha : a < 2 ^ 64) : andn a b < 2 ^ 64 := Nat.lt_of_le_of_lt Nat.and_le_left ha
theorem testBit_andn {a b i : Nat} (hb : b < 2 ^ 64) (hi : i < 64) : (andn a b).testBit i = (a.testBit i && !b.testBit i) := by
  unfold andn
  rw [Nat.testBit_and]
  have h2 : 2 ^ 64 - 1 - b = 2 ^ 64 - (b + 1) := by omega
  rw [h2, Nat.testBit_two_pow_sub_succ hb]; simp [hi]
theorem ibits_andn {a b : Nat} (ha : a < 2 ^ 64) (hb : b < 2 ^ 64) : ibits .andNot .u64 (a : Int) (b : Int) = ((andn a b : Nat) : Int) := by
  have hlt : andn a b < 2 ^ 64 := andn_lt ha
  show IntKind.u64.wrap ((BitVec.ofInt 64 (a : Int) &&& ~~~ BitVec.ofInt 64 (b : Int)).toNat : Int) = _
  rw [BitVec.toNat_and, BitVec.toNat_not, bvU a ha, bvU b hb, wrapU]
  unfold andn at hlt ⊢; omega
theorem shl_one {k : Nat} (hk : k < 64) : IntKind.u64.wrap (1 * 2 ^ (min k 64)) = ((2 ^ k : Nat) : Int) := by
  rw [wrapU, Nat.min_eq_left (by omega)]
  have : 2 ^ k < 2 ^ 64 := Nat.pow_lt_pow_right (by omega) hk
  have h2 : ((2 : Int) ^ k) = ((2 ^ k : Nat) : Int) := by simp
  rw [Int.one_mul, h2]
  generalize 2 ^ k = z at this ⊢
  omega
theorem shrU {a k : Nat} (hk : k ≤ 64) : Int.fdiv (a : Int) (2 ^ (min k 64)) = ((a >>> k : Nat) : Int) := by
  rw [Nat.min_eq_left hk, Nat.shiftRight_eq_div_pow]
  have h2 : ((2 : Int) ^ k) = ((2 ^ k : Nat) : Int) := by simp
  rw [h2, Int.fdiv_eq_ediv_of_nonneg _ (Int.natCast_nonneg _)]; simp
theorem tmod64 (k : Nat) : Int.tmod (k : Int) 64 = ((k % 64 : Nat) : Int) := by
  rw [Int.tmod_eq_emod_of_nonneg (by omega)]; omega
theorem tdiv64 (k : Nat) : Int.tdiv (k : Int) 64 = ((k / 64 : Nat) : Int) := by
  rw [Int.tdiv_eq_ediv_of_nonneg (by omega)]; omega
/-! ### The lowest bit -/
theorem and_disj (k m : Nat) (h : m < 2 ^ k) : m &&& (2 ^ k - 1 - m) = 0 := by
  apply Nat.eq_of_testBit_eq
  intro i
  have h2 : 2 ^ k - 1 - m = 2 ^ k - (m + 1) := by omega
  rw [Nat.testBit_and, h2, Nat.testBit_two_pow_sub_succ h]
  cases m.testBit i <;> simp
theorem low_bit {x i : Nat} (hx : x < 2 ^ 64) (hi : i < 64) (h1 : x.testBit i = true) (h0 : ∀ j, j < i → x.testBit j = false) : x &&& (2 ^ 64 - x) = 2 ^ i := by
  have hz : x % 2 ^ i = 0 := by
    apply Nat.eq_of_testBit_eq
    intro j
    rw [Nat.testBit_mod_two_pow, Nat.zero_testBit]
    by_cases hj : j < i
    · simp [h0 j hj]
    · simp [hj]
  obtain ⟨q, hq⟩ : ∃ q, x = q * 2 ^ i := ⟨x / 2 ^ i, by have := Nat.div_add_mod x (2 ^ i); rw [hz, Nat.mul_comm] at this; omega⟩
  have hq1 : q.testBit 0 = true := by
    have : x.testBit i = q.testBit 0 := by
      rw [hq, Nat.mul_comm, Nat.testBit_two_pow_mul]; simp
    rw [← this]; exact h1
  have hodd : q % 2 = 1 := by simpa [Nat.testBit_zero] using hq1
  have hpow : (2 : Nat) ^ 64 = 2 ^ (64 - i) * 2 ^ i := by rw [← Nat.pow_add]; congr 1; omega
  have hpos : 0 < 2 ^ i := Nat.two_pow_pos i
  have hqlt : q < 2 ^ (64 - i) := by
    rw [hq, hpow] at hx; exact Nat.lt_of_mul_lt_mul_right hx
  have hsub : 2 ^ 64 - x = (2 ^ (64 - i) - q) * 2 ^ i := by rw [hpow, hq, Nat.sub_mul]
  rw [hsub, hq]
  obtain ⟨m, hm⟩ : ∃ m, q = 2 * m + 1 := ⟨q / 2, by omega⟩
  obtain ⟨k, hk⟩ : ∃ k, 64 - i = k + 1 := ⟨63 - i, by omega⟩
  rw [hk] at hqlt ⊢
  rw [Nat.pow_succ] at hqlt ⊢
  have hmlt : m < 2 ^ k := by omega
  have h2 : 2 ^ k * 2 - q = 2 * (2 ^ k - 1 - m) + 1 := by omega
  rw [h2, hm]
  have key : (2 * m + 1) &&& (2 * (2 ^ k - 1 - m) + 1) = 1 := by
    apply Nat.eq_of_testBit_eq
    intro j
    cases j with
    | zero => simp
    | succ j =>
      have hd := congrArg (fun x => x.testBit j) (and_disj k m hmlt)
      simp only [Nat.testBit_and, Nat.zero_testBit] at hd
      rw [Nat.testBit_and, Nat.testBit_succ, Nat.testBit_succ, Nat.testBit_succ]
      have e1 : (2 * m + 1) / 2 = m := by omega
      have e2 : (2 * (2 ^ k - 1 - m) + 1) / 2 = 2 ^ k - 1 - m := by omega
      rw [e1, e2, hd]; simp
  have : (2 * m + 1) * 2 ^ i &&& (2 * (2 ^ k - 1 - m) + 1) * 2 ^ i = ((2 * m + 1) &&& (2 * (2 ^ k - 1 - m) + 1)) * 2 ^ i := by
    apply Nat.eq_of_testBit_eq
    intro j
    rw [Nat.testBit_and, Nat.mul_comm, Nat.testBit_two_pow_mul, Nat.mul_comm _ (2 ^ i), Nat.testBit_two_pow_mul, Nat.mul_comm _ (2 ^ i), Nat.testBit_two_pow_mul, Nat.testBit_and]
    cases decide (i ≤ j) <;> simp
  rw [this, key, Nat.one_mul]
/-- the deBruijn table -/
def dbt : List Nat := [0, 1, 56, 2, 57, 49, 28, 3, 61, 58, 42, 50, 38, 29, 17, 4, 62, 47, 59, 36, 45, 43, 51, 22, 53, 39, 33, 30, 24, 18, 12, 5, 63, 55, 48, 27, 60, 41, 37, 16, 46, 35, 44, 21, 52, 32, 23, 11, 54, 26, 40, 15, 34, 20, 31, 10, 25, 14, 19, 9, 13, 8, 7, 6]
theorem dbt_ok : ∀ i, i < 64 → dbt[(2 ^ i * 285870213051353865 % 18446744073709551616) >>> 58]? = some i := by decide +kernel
theorem dbt_lt : ∀ i, i < 64 → (2 ^ i * 285870213051353865 % 18446744073709551616) >>> 58 < 64 := by decide +kernel

/-! ### Counting -/
def popN (n x : Nat) : Nat := ((List.range n).filter x.testBit).length
def pop (x : Nat) : Nat := popN 64 x

/-! ### The words as a set -/
def bit (ws : List Nat) (k : Nat) : Bool := (ws.getD (k / 64) 0).testBit (k % 64)
def WOk (ws : List Nat) : Prop := ∀ x ∈ ws, x < 2 ^ 64
theorem WOk.getD {ws : List Nat} (h : WOk ws) (i : Nat) : ws.getD i 0 < 2 ^ 64 := by
  rw [List.getD_eq_getElem?_getD]
  cases hh : ws[i]? with
  | none => simp
  | some x => exact h x (List.mem_of_getElem? hh)
theorem bit_lt {ws : List Nat} {k : Nat} (h : bit ws k = true) : k < 64 * ws.length := by
  unfold bit at h
  by_cases hk : k / 64 < ws.length
  · omega
  · rw [List.getD_eq_getElem?_getD, List.getElem?_eq_none (by omega)] at h; simp at h
/-- the least number from n on -/
def nxt (ws : List Nat) (n : Nat) : Option Nat := ((List.range (64 * ws.length)).filter fun k => decide (n ≤ k) && bit ws k).head?
def nxI (ws : List Nat) (n : Int) : Int := match nxt ws n.toNat with | some k => (k : Int) | none => -1
theorem head_filter_range (p : Nat → Bool) (N k : Nat) (hk : k < N) (hp : p k = true) (hl : ∀ j, j < k → p j = false) : ((List.range N).filter p).head? = some k := by
  have e : List.range N = List.range k ++ (k :: (List.range (N - k - 1)).map (· + (k + 1))) := by
    have h1 : N = k + (1 + (N - k - 1)) := by omega
    conv => lhs; rw [h1, List.range_add, List.range_add]
    simp [Nat.add_comm, Nat.add_left_comm]
  have h0 : (List.range k).filter p = [] := by
    rw [List.filter_eq_nil_iff]
    intro x hx
    simp [hl x (by simpa using hx)]
  rw [e, List.filter_append, h0, List.nil_append, List.filter_cons, if_pos hp]
  rfl
theorem nxt_some {ws : List Nat} {n k : Nat} (h1 : n ≤ k) (h2 : bit ws k = true) (h3 : ∀ j, n ≤ j → j < k → bit ws j = false) : nxt ws n = some k := by
  refine head_filter_range _ _ _ (bit_lt h2) (by simp [h1, h2]) (fun j hj => ?_)
  by_cases hn : n ≤ j
  · simp [h3 j hn hj]
  · simp [hn]
theorem nxt_none {ws : List Nat} {n : Nat} (h : ∀ j, n ≤ j → bit ws j = false) : nxt ws n = none := by
  unfold nxt
  rw [List.head?_eq_none_iff, List.filter_eq_nil_iff]
  intro x _
  by_cases hn : n ≤ x
  · simp [h x hn]
  · simp [hn]
end Go.Vc
/- bits: the lowest bit, next, there, check. -/
namespace Go.Vc
open Go Go.Proofs
set_option maxRecDepth 10000
variable {w : World}

/-- the table that TrailingZeros64 reads -/
def TabW (w : World) : Prop := ∀ i z : Nat, dbt[i]? = some z → w.cell? ⟨0, i, none⟩ = some (.int .u8 (z : Int))
theorem TabW.heap {w w' : World} (h : TabW w) (hk : w'.heap[0]? = w.heap[0]?) : TabW w' := fun i z hz => by
  rw [← h i z hz]; exact World.cell?_of_block hk
theorem TabW.lt (h : TabW w) : 0 < w.heap.size := by
  have := h 0 0 rfl
  unfold World.cell? at this
  cases hb : w.heap[0]? with
  | none => simp [hb] at this
  | some o => exact (Array.getElem?_eq_some_iff.1 hb).1
theorem TabW.kp {w w' : World} (h : TabW w) {S : List Nat} (hk : Kp S w w') (hS : 0 ∉ S) : TabW w' := h.heap (hk.at_ _ h.lt hS)
theorem TabW.sm {w w' : World} (h : TabW w) (hs : Sm w w') : TabW w' := h.heap (by rw [hs.heap])
theorem TabW.upd {w w' : World} (h : TabW w) {b : Nat} {o : Obj} (hu : Upd w b o w') (hb : b ≠ 0) : TabW w' := h.heap (hu.other _ (Ne.symm hb))
theorem TabW.ne (h : TabW w) {b : Nat} {L : List Value} {T : TypeId} (hb : Blk w b L T) (hL : ∀ z : Nat, L.head? ≠ some (.int .u8 (z : Int))) : b ≠ 0 := by
  rintro rfl
  have h0 := h 0 0 rfl
  unfold Blk at hb
  simp only [World.cell?, hb] at h0
  refine hL 0 ?_
  cases L with
  | nil => simp at h0
  | cons v l => simpa using h0

theorem tz_ret (hT : TabW w) {x i : Nat} (hx : x < 2 ^ 64) (hi : i < 64) (h1 : x.testBit i = true) (h0 : ∀ j, j < i → x.testBit j = false) : Ret Tryd.prog 103 [U x] w (fun v w' => v = I i ∧ w' = w) := by
  have hpos : 0 < x := by
    cases x with
    | zero => simp at h1
    | succ n => omega
  have hlow := low_bit hx hi h1 h0
  refine enter Tryd.call103 Tryd.func103 rfl rfl rfl rfl ?_
  (repeat first|refine zA ?_|refine zB ?_|refine zg ?_|refine zo rfl rfl trivial ?_|refine zn ?_)
  refine r_no rfl ?_ ?_
  · simp; omega
  (repeat first|refine zA ?_|refine zg ?_|refine zk ?_)
  have e1 : IntKind.u64.wrap (0 - (x : Int)) = ((2 ^ 64 - x : Nat) : Int) := by rw [wrapU]; omega
  have e2 : ibits .and .u64 (x : Int) (IntKind.u64.wrap (0 - (x : Int))) = ((2 ^ i : Nat) : Int) := by
    rw [e1, ibits_and hx (by omega), hlow]
  have e3 : IntKind.u64.wrap (ibits .and .u64 (x : Int) (IntKind.u64.wrap (0 - (x : Int))) * 285870213051353865) = ((2 ^ i * 285870213051353865 % 18446744073709551616 : Nat) : Int) := by
    rw [e2, wrapU]; generalize 2 ^ i = z; omega
  have e4 : Int.fdiv (IntKind.u64.wrap (ibits .and .u64 (x : Int) (IntKind.u64.wrap (0 - (x : Int))) * 285870213051353865)) (2 ^ (min 58 64)) = (((2 ^ i * 285870213051353865 % 18446744073709551616) >>> 58 : Nat) : Int) := by
    rw [e3]; exact shrU (by omega)
  have e5 := dbt_lt i hi
  refine o_run rfl rfl ?_ ?_
  · show AllP [0 ≤ Int.fdiv (IntKind.u64.wrap (ibits .and .u64 (x : Int) (IntKind.u64.wrap (0 - (x : Int))) * 285870213051353865)) (2 ^ (min 58 64)) ∧ Int.fdiv (IntKind.u64.wrap (ibits .and .u64 (x : Int) (IntKind.u64.wrap (0 - (x : Int))) * 285870213051353865)) (2 ^ (min 58 64)) < ((64 : Nat) : Int), (0 : Int) ≤ 58]
    rw [e4]
    generalize (2 ^ i * 285870213051353865 % 18446744073709551616) >>> 58 = z at e5
    exact ⟨⟨Int.natCast_nonneg _, Int.ofNat_lt.2 e5⟩, (by omega : (0 : Int) ≤ 58)⟩
  refine o_loadc (v := .int .u8 (i : Int)) rfl ?_ rfl rfl rfl rfl ?_
  · show w.cell? ⟨0, 0 + (Int.fdiv (IntKind.u64.wrap (ibits .and .u64 (x : Int) (IntKind.u64.wrap (0 - (x : Int))) * 285870213051353865)) (2 ^ (min 58 64))).toNat, none⟩ = _
    rw [e4, Int.toNat_natCast, Nat.zero_add]
    exact hT _ _ (dbt_ok i hi)
  (repeat first|refine zo rfl rfl (by first|exact trivial|(simp only[AllP];omega)) ?_|refine zn ?_|refine zr ?_)
  exact ⟨_, rfl, rfl, rfl⟩

/-! ### next -/
/-- the word's value is read as this -/
theorem mask_bits {x n i : Nat} (hx : x < 2 ^ 64) (hn : n < 64) (hi : i < 64) : (x &&& (2 ^ 64 - 2 ^ n)).testBit i = (x.testBit i && decide (n ≤ i)) := by
  rw [Nat.testBit_and]
  have h1 : 2 ^ 64 - 2 ^ n = (2 ^ (64 - n) - 1) * 2 ^ n := by
    rw [Nat.sub_mul, ← Nat.pow_add, Nat.one_mul]; congr 2; omega
  rw [h1, Nat.mul_comm, Nat.testBit_two_pow_mul, Nat.testBit_two_pow_sub_one]
  by_cases h : n ≤ i
  · have : i - n < 64 - n := by omega
    simp [h, this]
  · simp [h]
theorem least_bit {x : Nat} (hx : x < 2 ^ 64) (h0 : x ≠ 0) : ∃ i, i < 64 ∧ x.testBit i = true ∧ ∀ j, j < i → x.testBit j = false := by
  have hb : ∃ i, x.testBit i = true := Nat.exists_testBit_of_ne_zero h0
  have key : ∀ i, x.testBit i = true → ∃ i, x.testBit i = true ∧ ∀ j, j < i → x.testBit j = false := by
    intro i
    induction i using Nat.strongRecOn with
    | _ i ih =>
      intro hi
      by_cases h : ∃ j, j < i ∧ x.testBit j = true
      · obtain ⟨j, hj, hb⟩ := h; exact ih j hj hb
      · exact ⟨i, hi, fun j hj => by
          cases hb : x.testBit j with
          | false => rfl
          | true => exact absurd ⟨j, hj, hb⟩ h⟩
  obtain ⟨i, hi⟩ := hb
  obtain ⟨i, h1, h2⟩ := key i hi
  refine ⟨i, ?_, h1, h2⟩
  apply Classical.byContradiction
  intro hge
  have : x < 2 ^ i := Nat.lt_of_lt_of_le hx (Nat.pow_le_pow_right (by omega) (by omega))
  rw [Nat.testBit_lt_two_pow this] at h1; cases h1
theorem shl_all {n : Nat} (hn : n < 64) : IntKind.u64.wrap (18446744073709551615 * 2 ^ (min n 64)) = ((2 ^ 64 - 2 ^ n : Nat) : Int) := by
  have hp : 2 ^ n < 2 ^ 64 := Nat.pow_lt_pow_right (by omega) hn
  have hp1 : 0 < 2 ^ n := Nat.two_pow_pos n
  rw [wrapU, Nat.min_eq_left (by omega)]
  have h2 : ((2 : Int) ^ n) = ((2 ^ n : Nat) : Int) := by simp
  rw [h2]
  generalize 2 ^ n = z at hp hp1 ⊢
  omega

/-- words that are read: a slice's header and its cells -/
structure RdW (w : World) (ad : Option Addr) (ws : List Nat) : Prop where
  read : ReadS w ad (ws.map U)
  ok : WOk ws
  len : ws.length ≤ 140737488355328
theorem RdW.kp {w w' : World} {ad : Option Addr} {ws : List Nat} (h : RdW w ad ws) {S : List Nat} (hk : Kp S w w') (hd : ∀ b, b ∈ blkOf ad → b ∉ S) : RdW w' ad ws := ⟨h.read.kp hk hd, h.ok, h.len⟩

theorem next_ret (hT : TabW w) {ad : Option Addr} {ws : List Nat} {cap : Nat} (h : RdW w ad ws) {n : Int} (hn : -9223372036854775808 ≤ n ∧ n ≤ 9223372036854775807) :
    Ret Tryd.prog 96 [.slice ad ws.length cap, I n] w (fun v w' => v = I (nxI ws n) ∧ w' = w) := by
  obtain ⟨m, hm⟩ : ∃ m : Nat, max n 0 = (m : Int) := ⟨n.toNat, by omega⟩
  have hmn : n.toNat = m := by omega
  have hlen := h.len
  refine enter Tryd.call96 Tryd.func96 rfl rfl rfl rfl ?_
  (repeat first|refine zA ?_|refine zB ?_|refine zg ?_|refine zo rfl rfl (by first|exact trivial|(simp(discharger:=omega)only[AllP,cA,cB];omega)) ?_|refine zn ?_|refine zb ?_)
  refine r_loop (α := Nat) [0, 1, 5] (fun a => [.slice ad ws.length cap, I m, I a]) (fun a w' => w' = w ∧ m / 64 ≤ a ∧ ∀ j, m ≤ j → j < 64 * a → bit ws j = false) (fun a => ws.length - a) (m / 64) ?_ ⟨rfl, Nat.le_refl _, fun j h1 h2 => by omega⟩ ?_
  · show [.slice ad ws.length cap, I (max n 0), I (Int.tdiv (max n 0) 64)] = _
    rw [hm, tdiv64]
  rintro a e w' ⟨rfl, ha, hbits⟩
  (repeat first|refine zA ?_|refine zB ?_|refine zg ?_|refine zo rfl rfl trivial ?_|refine zn ?_)
  refine r_if rfl (fun hlt => ?_) (fun hge => ?_)
  rotate_left
  · -- there is none
    (repeat first|refine zA ?_|refine zg ?_|refine zo rfl rfl trivial ?_|refine zn ?_|refine ze rfl ?_|refine zr ?_)
    refine ⟨_, rfl, ?_, rfl⟩
    have : nxt ws n.toNat = none := nxt_none fun j hj => by
      cases hb : bit ws j with
      | false => rfl
      | true => have := bit_lt hb; have := hbits j (by omega) (by omega); rw [hb] at this; cases this
    simp only [nxI, this]
  have hlt' : a < ws.length := by omega
  (repeat first|refine zA ?_|refine zC ?_|refine zg ?_|refine zb ?_|refine zk ?_)
  obtain ⟨b, off, rfl, hb, hcell⟩ := h.read.at_ (by simp; omega)
  have hwa : ws[a]? = some (ws.getD a 0) := by simp [List.getD_eq_getElem?_getD, hlt']
  have hxok : ws.getD a 0 < 2 ^ 64 := h.ok.getD a
  have hc := hcell a (U (ws.getD a 0)) (by simp [hlt'])
  (repeat refine zo rfl rfl (by first|exact trivial|(simp only[AllP];omega)) ?_)
  refine o_loadc rfl hc rfl rfl rfl rfl ?_
  (repeat first|refine zA ?_|refine zB ?_|refine zg ?_|refine zo rfl rfl (by first|exact trivial|(simp(discharger:=omega)only[AllP,cA,cB];omega)) ?_|refine zn ?_)
  -- the word that is looked at
  refine r_cut (α := Unit) [0, 1, 5, 6] (fun _ => [.slice (some ⟨b, off, none⟩) ws.length cap, I m, I a, U (if a = m / 64 then ws.getD a 0 &&& (2 ^ 64 - 2 ^ (m % 64)) else ws.getD a 0)]) (fun _ w => w = w') ?_ ?_
  · refine r_if (p := (a : Int) = Int.tdiv (m : Int) 64) rfl (fun heq => ?_) (fun hne => ?_)
    · have heq' : a = m / 64 := by rw [tdiv64] at heq; omega
      (repeat first|refine zg ?_|refine zo rfl rfl (by first|exact trivial|(simp(discharger:=omega)only[AllP,cA,cB];omega)) ?_|refine zn ?_)
      have e6 : ibits .and .u64 (ws.getD a 0 : Int) (IntKind.u64.wrap (18446744073709551615 * 2 ^ (min (Int.tmod (m : Int) 64).toNat 64))) = ((ws.getD a 0 &&& (2 ^ 64 - 2 ^ (m % 64)) : Nat) : Int) := by
        rw [tmod64, Int.toNat_natCast, shl_all (by omega), ibits_and hxok (by have := Nat.two_pow_pos (m % 64); omega)]
      exact ⟨(), by rw [if_pos heq']; exact congrArg (fun z => [_, _, _, Value.int .u64 z]) e6, rfl⟩
    · have hne' : a ≠ m / 64 := by rw [tdiv64] at hne; omega
      (repeat refine zk ?_)
      exact ⟨(), by rw [if_neg hne']; rfl, rfl⟩
  rintro ⟨⟩ e w'' rfl
  have hxlt : (if a = m / 64 then ws.getD a 0 &&& (2 ^ 64 - 2 ^ (m % 64)) else ws.getD a 0) < 2 ^ 64 := by
    split
    · exact Nat.lt_of_le_of_lt Nat.and_le_left hxok
    · exact hxok
  have hxb : ∀ i, i < 64 → (if a = m / 64 then ws.getD a 0 &&& (2 ^ 64 - 2 ^ (m % 64)) else ws.getD a 0).testBit i = (decide (m ≤ 64 * a + i) && bit ws (64 * a + i)) := by
    intro i hi
    have hbit : bit ws (64 * a + i) = (ws.getD a 0).testBit i := by
      unfold bit; congr 1
      · congr 1; omega
      · omega
    rw [hbit]
    split
    · rw [mask_bits hxok (by omega) hi, Bool.and_comm]; congr 1; rw [decide_eq_decide]; omega
    · have : m ≤ 64 * a + i := by omega
      simp [this]
  generalize (if a = m / 64 then ws.getD a 0 &&& (2 ^ 64 - 2 ^ (m % 64)) else ws.getD a 0) = x at hxlt hxb ⊢
  (repeat first|refine zA ?_|refine zg ?_|refine zo rfl rfl trivial ?_|refine zn ?_)
  refine r_ifn (p := (x : Int) = 0) rfl (fun hx0 => ?_) (fun hx0 => ?_)
  · -- here it is
    obtain ⟨i, hi, h1, h0⟩ := least_bit hxlt (by omega)
    (repeat first|refine zA ?_|refine zg ?_|refine zo rfl rfl (by first|exact trivial|(simp only[AllP];omega)) ?_)
    refine o_call (tz_ret hT hxlt hi h1 h0) rfl rfl rfl ?_
    rintro v w2 ⟨rfl, rfl⟩
    (repeat first|refine zo rfl rfl (by first|exact trivial|(simp only[AllP];omega)) ?_|refine zn ?_|refine zr ?_)
    refine ⟨_, rfl, ?_, rfl⟩
    have hb1 := hxb i hi
    rw [h1] at hb1
    have hb2 : m ≤ 64 * a + i ∧ bit ws (64 * a + i) = true := by simpa using hb1.symm
    have : nxt ws n.toNat = some (64 * a + i) := by
      rw [hmn]
      refine nxt_some hb2.1 hb2.2 fun j hj1 hj2 => ?_
      by_cases hj : j < 64 * a
      · exact hbits j hj1 hj
      · have hb3 := hxb (j - 64 * a) (by omega)
        rw [h0 _ (by omega)] at hb3
        have e1 : 64 * a + (j - 64 * a) = j := by omega
        rw [e1] at hb3
        simpa [hj1] using hb3.symm
    simp only [nxI, this]
    push_cast; rfl
  · have hx0' : x = 0 := by omega
    subst hx0'
    (repeat first|refine zg ?_|refine zo rfl rfl (by first|exact trivial|(simp only[AllP];omega)) ?_|refine zn ?_|refine zk ?_)
    refine ⟨a + 1, rfl, ⟨rfl, by omega, fun j hj1 hj2 => ?_⟩, by omega⟩
    by_cases hj : j < 64 * a
    · exact hbits j hj1 hj
    · have hb3 := hxb (j - 64 * a) (by omega)
      have e1 : 64 * a + (j - 64 * a) = j := by omega
      rw [e1, Nat.zero_testBit] at hb3
      simpa [hj1] using hb3.symm
end Go.Vc
