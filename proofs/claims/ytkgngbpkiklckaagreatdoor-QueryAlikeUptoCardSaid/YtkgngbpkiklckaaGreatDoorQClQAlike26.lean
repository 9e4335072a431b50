/- Plain laws of words of 64 bits. No program. -/
import Derived.Test.YtkgngbpkiklckaaGreatDoorQClQAlike6
import Derived.Test.YtkgngbpkiklckaaGreatDoorChecked
import Derived.Test.YtkgngbpkiklckaaGreatDoorQClQAlike5
import Derived.Test.YtkgngbpkiklckaaGreatDoorQClQAlike7
import Derived.Test.YtkgngbpkiklckaaGreatDoorQClQAlike17
namespace Go.Vc
open Go

abbrev U (n : Nat) : Value := .int .u64 (n : Int)

theorem wrapU (x : Int) : IntKind.u64.wrap x = x % 18446744073709551616 := rfl

theorem bvU (n : Nat) (h : n < 2 ^ 64) : (BitVec.ofInt 64 (n : Int)).toNat = n := by
  rw [BitVec.toNat_ofInt]; simp; omega
theorem ibits_and {a b : Nat} (ha : a < 2 ^ 64) (hb : b < 2 ^ 64) : ibits .and .u64 (a : Int) (b : Int) = ((a &&& b : Nat) : Int) := by
  have hlt : a &&& b < 2 ^ 64 := Nat.and_lt_two_pow a hb
  show IntKind.u64.wrap ((BitVec.ofInt 64 (a : Int) &&& BitVec.ofInt 64 (b : Int)).toNat : Int) = _
  rw [BitVec.toNat_and, bvU a ha, bvU b hb, wrapU]; omega
theorem ibits_or {a b : Nat} (ha : a < 2 ^ 64) (hb : b < 2 ^ 64) : ibits .or .u64 (a : Int) (b : Int) = ((a ||| b : Nat) : Int) := by
  have hlt : a ||| b < 2 ^ 64 := Nat.or_lt_two_pow ha hb
  show IntKind.u64.wrap ((BitVec.ofInt 64 (a : Int) ||| BitVec.ofInt 64 (b : Int)).toNat : Int) = _
  rw [BitVec.toNat_or, bvU a ha, bvU b hb, wrapU]; omega
/-- and not -/
def andn (a b : Nat) : Nat := a &&& (2 ^ 64 - 1 - b)
theorem shl_one {k : Nat} (hk : k < 64) : IntKind.u64.wrap (1 * 2 ^ (min k 64)) = ((2 ^ k : Nat) : Int) := by
  rw [wrapU, Nat.min_eq_left (by omega)]
  have : 2 ^ k < 2 ^ 64 := Nat.pow_lt_pow_right (by omega) hk
  have h2 : ((2 : Int) ^ k) = ((2 ^ k : Nat) : Int) := by simp
  rw [Int.one_mul, h2]
  generalize 2 ^ k = z at this ⊢
  omega
theorem shrU {a k : Nat} (hk : k ≤ 64) : Int.fdiv (a : Int) (2 ^ (min k 64)) = ((a >>> k : Nat) : Int) := by
  rw [Nat.min_eq_left hk, Nat.shiftRight_eq_div_pow]
  have h2 : ((2 : Int) ^ k) = ((2 ^ k : Nat) : Int) := by simp
  rw [h2, Int.fdiv_eq_ediv_of_nonneg _ (Int.natCast_nonneg _)]; simp
theorem tmod64 (k : Nat) : Int.tmod (k : Int) 64 = ((k % 64 : Nat) : Int) := by
  rw [Int.tmod_eq_emod_of_nonneg (by omega)]; omega
theorem tdiv64 (k : Nat) : Int.tdiv (k : Int) 64 = ((k / 64 : Nat) : Int) := by
  rw [Int.tdiv_eq_ediv_of_nonneg (by omega)]; omega
/-! ### The lowest bit -/
/-- the deBruijn table -/
def dbt : List Nat := [0, 1, 56, 2, 57, 49, 28, 3, 61, 58, 42, 50, 38, 29, 17, 4, 62, 47, 59, 36, 45, 43, 51, 22, 53, 39, 33, 30, 24, 18, 12, 5, 63, 55, 48, 27, 60, 41, 37, 16, 46, 35, 44, 21, 52, 32, 23, 11, 54, 26, 40, 15, 34, 20, 31, 10, 25, 14, 19, 9, 13, 8, 7, 6]
/-! ### Counting -/
def popN (n x : Nat) : Nat := ((List.range n).filter x.testBit).length
def pop (x : Nat) : Nat := popN 64 x

/-! ### The words as a set -/
def bit (ws : List Nat) (k : Nat) : Bool := (ws.getD (k / 64) 0).testBit (k % 64)
def WOk (ws : List Nat) : Prop := ∀ x ∈ ws, x < 2 ^ 64
theorem WOk.getD {ws : List Nat} (h : WOk ws) (i : Nat) : ws.getD i 0 < 2 ^ 64 := by
  rw [List.getD_eq_getElem?_getD]
  cases hh : ws[i]? with
  | none => simp
  | some x => exact h x (List.mem_of_getElem? hh)
/-- the least number from n on -/
def nxt (ws : List Nat) (n : Nat) : Option Nat := ((List.range (64 * ws.length)).filter fun k => decide (n ≤ k) && bit ws k).head?
def nxI (ws : List Nat) (n : Int) : Int := match nxt ws n.toNat with | some k => (k : Int) | none => -1
end Go.Vc
/- bits: the lowest bit, next, there, check. -/
namespace Go.Vc
open Go Go.Proofs
set_option maxRecDepth 10000
variable {w : World}

/-- the table that TrailingZeros64 reads -/
def TabW (w : World) : Prop := ∀ i z : Nat, dbt[i]? = some z → w.cell? ⟨4, i, none⟩ = some (.int .u8 (z : Int))
theorem TabW.heap {w w' : World} (h : TabW w) (hk : w'.heap[4]? = w.heap[4]?) : TabW w' := fun i z hz => by
  rw [← h i z hz]; exact World.cell?_of_block hk
theorem TabW.lt (h : TabW w) : 4 < w.heap.size := by
  have := h 0 0 rfl
  unfold World.cell? at this
  cases hb : w.heap[4]? with
  | none => simp [hb] at this
  | some o => exact (Array.getElem?_eq_some_iff.1 hb).1
theorem TabW.kp {w w' : World} (h : TabW w) {S : List Nat} (hk : Kp S w w') (hS : 4 ∉ S) : TabW w' := h.heap (hk.at_ _ h.lt hS)
theorem TabW.sm {w w' : World} (h : TabW w) (hs : Sm w w') : TabW w' := h.heap (by rw [hs.heap])
theorem TabW.upd {w w' : World} (h : TabW w) {b : Nat} {o : Obj} (hu : Upd w b o w') (hb : b ≠ 4) : TabW w' := h.heap (hu.other _ (Ne.symm hb))
theorem TabW.ne (h : TabW w) {b : Nat} {L : List Value} {T : TypeId} (hb : Blk w b L T) (hL : ∀ z : Nat, L.head? ≠ some (.int .u8 (z : Int))) : b ≠ 4 := by
  rintro rfl
  have h0 := h 0 0 rfl
  unfold Blk at hb
  simp only [World.cell?, hb] at h0
  refine hL 0 ?_
  cases L with
  | nil => simp at h0
  | cons v l => simpa using h0

/-! ### next -/
/-- words that are read: a slice's header and its cells -/
structure RdW (w : World) (ad : Option Addr) (ws : List Nat) : Prop where
  read : ReadS w ad (ws.map U)
  ok : WOk ws
  len : ws.length ≤ 140737488355328
theorem RdW.kp {w w' : World} {ad : Option Addr} {ws : List Nat} (h : RdW w ad ws) {S : List Nat} (hk : Kp S w w') (hd : ∀ b, b ∈ blkOf ad → b ∉ S) : RdW w' ad ws := ⟨h.read.kp hk hd, h.ok, h.len⟩

end Go.Vc
/- bits: a set in memory; there, check, Next, Has, trim, Put. -/
namespace Go.Vc
open Go Go.Proofs
set_option maxRecDepth 10000
variable {w : World}

def chk (n : Int) : Int := if 0 ≤ n ∧ n < 1048576 then 0 else 2
def nextV (ws : List Nat) (n : Int) : Value := .tuple #[I (max (nxI ws n) 0), .bool (decide (0 ≤ nxI ws n))]
def hasB (ws : List Nat) (n : Int) : Bool := decide (0 ≤ n) && bit ws n.toNat
theorem bit_shr {x : Nat} (hx : x < 2 ^ 64) (k : Nat) : ibits .and .u64 (Int.fdiv (x : Int) (2 ^ (min (Int.tmod (k : Int) 64).toNat 64))) 1 = (((x >>> (k % 64)) &&& 1 : Nat) : Int) := by
  rw [tmod64, Int.toNat_natCast, shrU (by omega)]
  exact ibits_and (b := 1) (Nat.lt_of_le_of_lt (by rw [Nat.shiftRight_eq_div_pow]; exact Nat.div_le_self _ _) hx) (by decide)
theorem bit_and1 (x j : Nat) : ((((x >>> j) &&& 1 : Nat) : Int) = 0) ↔ x.testBit j = false := by
  rw [Nat.testBit, Nat.and_comm]
  generalize 1 &&& x >>> j = z
  by_cases h : z = 0 <;> simp [h]
end Go.Vc
/- bits: trim, Put, Del, New. -/
namespace Go.Vc
open Go Go.Proofs
set_option maxRecDepth 10000
variable {w : World}

theorem WOk.append {a b : List Nat} (ha : WOk a) (hb : WOk b) : WOk (a ++ b) := fun x hx => by
  rcases List.mem_append.1 hx with h | h
  · exact ha x h
  · exact hb x h
theorem WOk.zeros (n : Nat) : WOk (List.replicate n 0) := fun x hx => by simp at hx; rw [hx.2]; decide
theorem WOk.set {a : List Nat} (ha : WOk a) {i x : Nat} (hx : x < 2 ^ 64) : WOk (a.set i x) := fun y hy => by
  rcases List.mem_or_eq_of_mem_set hy with h | h
  · exact ha y h
  · rw [h]; exact hx

def putW (ws : List Nat) (k : Nat) : List Nat :=
  let l := ws ++ List.replicate (k / 64 + 1 - ws.length) 0
  l.set (k / 64) (l.getD (k / 64) 0 ||| 2 ^ (k % 64))
/-! ### trim -/
def trim : List Nat → List Nat
  | [] => []
  | x :: r => match trim r with
    | [] => if x = 0 then [] else [x]
    | y :: s => x :: y :: s
theorem trim_take (ws : List Nat) : trim ws = ws.take (trim ws).length := by
  induction ws with
  | nil => simp [trim]
  | cons x r ih =>
    have hh : trim (x :: r) = match trim r with | [] => if x = 0 then [] else [x] | y :: s => x :: y :: s := rfl
    cases ht : trim r with
    | nil =>
      rw [ht] at hh
      dsimp only at hh
      rw [hh]; split <;> simp
    | cons y s =>
      rw [ht] at hh
      dsimp only at hh
      rw [hh]
      rw [ht] at ih
      simp only [List.length_cons, List.take_succ_cons]
      simp only [List.length_cons] at ih
      rw [← ih]
end Go.Vc
/- bits: Del, New. -/
namespace Go.Vc
open Go Go.Proofs
set_option maxRecDepth 10000
variable {w : World}

def delW (ws : List Nat) (k : Nat) : List Nat := if k / 64 < ws.length then trim (ws.set (k / 64) (andn (ws.getD (k / 64) 0) (2 ^ (k % 64)))) else ws
/-- what New makes of numbers -/
def newW (l : List Int) (ws : List Nat) : List Nat := l.foldl (fun ws n => putW ws n.toNat) ws
def allOk (l : List Int) : Bool := l.all fun n => decide (0 ≤ n) && decide (n < 1048576)
/-! ### Numbers in and out: the words' laws -/
theorem getD_zeros (ws : List Nat) (n i : Nat) : (ws ++ List.replicate n 0).getD i 0 = ws.getD i 0 := by
  rw [List.getD_eq_getElem?_getD, List.getD_eq_getElem?_getD]
  by_cases h : i < ws.length
  · rw [List.getElem?_append_left h]
  · rw [List.getElem?_append_right (by omega), List.getElem?_replicate, List.getElem?_eq_none (l := ws) (by omega)]
    split <;> rfl
theorem getD_set (ws : List Nat) (i j x : Nat) (hi : i < ws.length) : (ws.set i x).getD j 0 = if i = j then x else ws.getD j 0 := by
  rw [List.getD_eq_getElem?_getD, List.getD_eq_getElem?_getD, List.getElem?_set]
  by_cases h : i = j
  · subst h; simp [hi]
  · simp [h]
/-- the numbers, rising -/
def elems (ws : List Nat) : List Nat := (List.range (64 * ws.length)).filter (bit ws)
end Go.Vc
/- bits: Clone, Words, All, List; gone. -/
namespace Go.Vc
open Go Go.Proofs
set_option maxRecDepth 10000
variable {w : World}

/-! ### All: the iterator -/
abbrev encN (k : Nat) : List Value := [I (k : Int)]
def hdI (l : List Nat) : Int := match l.head? with | some k => (k : Int) | none => -1
end Go.Vc
/- bits: All, Collect, List; gone. -/
namespace Go.Vc
open Go Go.Proofs
set_option maxRecDepth 10000
variable {w : World}

def encI (k : Nat) : Value := I (k : Int)
theorem Keeps.ne {D l : Nat} {r : Loop} {Fp : List Nat} {w W : World} (h : Keeps D l r Fp w W) {b : Nat} {L : List Value} {T : TypeId} (hb : Blk W b L T) : b ≠ l ∧ b ≠ D := by
  constructor
  · rintro rfl; have := h.loop; unfold Blk at hb; rw [hb] at this; cases this
  · rintro rfl; have := h.shut; unfold Blk at hb; rw [hb] at this; cases this
/-- a sequence of numbers: a function value that tells them -/
structure SeqIs (w : World) (v : Value) (Fp : List Nat) (xs : List Nat) : Prop where
  is : ∃ f lb, v = .func (.func f) #[] ⟨lb⟩ ∧ Iter Tryz.prog f lb Fp encN xs w
theorem SeqIs.kp {w w' : World} {v : Value} {Fp xs : List Nat} (h : SeqIs w v Fp xs) {S : List Nat} (hk : Kp S w w') (hd : ∀ b, b ∈ Fp → b ∉ S) : SeqIs w' v Fp xs := by
  obtain ⟨f, lb, h1, h2⟩ := h.is
  exact ⟨f, lb, h1, h2.kp hk.size (fun b hb => hk.at_ b (h2.1 b hb) (hd b hb))⟩
theorem SeqIs.lt {v : Value} {Fp xs : List Nat} (h : SeqIs w v Fp xs) : ∀ b, b ∈ Fp → b < w.heap.size := by
  obtain ⟨f, lb, h1, h2⟩ := h.is
  exact h2.1

/-! ### gone: the law's reading of an iterator -/
def goneL (xs : List Nat) (most : Int) : List Nat := if 0 ≤ most then xs.take most.toNat else xs
structure GoneI (w : World) (bm bx : Nat) (most : Int) (pre : List Nat) (W : World) (ad : Option Addr) (cap : Nat) : Prop where
  bm_ : Blk W bm [I most] 3
  bx_ : Blk W bx [.slice ad pre.length cap] 25
  own : OwnS W 3 1 ad pre.length cap (pre.map encI)
  kp : Kp [] w W
  ne : bx ∉ blkOf ad
  nm : bm ∉ bx :: blkOf ad
  new : ∀ b, b ∈ blkOf ad → w.heap.size ≤ b
  few : 0 ≤ most → (pre.length : Int) ≤ most
end Go.Vc
/- Counting the bits of a word, eight bits at a time. No program. -/
namespace Go.Vc
open Go

/-- the mask of k bytes -/
def mask (c : Nat) : Nat → Nat
  | 0 => 0
  | k + 1 => c + 256 * mask c k
def s1 (s c k x : Nat) : Nat := ((x >>> s) &&& mask c k) + (x &&& mask c k)
def f1 (s c b : Nat) : Nat := ((b >>> s) &&& c) + (b &&& c)
def s3 (k x : Nat) : Nat := ((x >>> 4) + x) &&& mask 15 k
def byteN (x : Nat) (i : Nat) : Nat := x / 256 ^ i % 256
/-- what the count of a byte comes to -/
def pc (b : Nat) : Nat := ((f1 2 51 (f1 1 85 b) >>> 4) + f1 2 51 (f1 1 85 b)) % 16
/-- the three steps on k bytes -/
def sw (k x : Nat) : Nat := s3 k (s1 2 51 k (s1 1 85 k x))
end Go.Vc
/- bits: OnesCount64, Len; the law's small functions. -/
namespace Go.Vc
open Go Go.Proofs
set_option maxRecDepth 10000
variable {w : World}

/-! ### Len -/
def lenW (ws : List Nat) : Nat := (ws.map pop).sum
/-! ### The law's small functions -/
def nearL (l : List Int) : List Int := l.map fun x => Int.tmod (Int.tmod x 1048576 + 1048576) 1048576
end Go.Vc
/- bits: lives. -/
namespace Go.Vc
open Go Go.Proofs
set_option maxRecDepth 10000
variable {w : World}

end Go.Vc
/- bits: Copy, Within, Meets, Equal. -/
namespace Go.Vc
open Go Go.Proofs
set_option maxRecDepth 10000
variable {w : World}

def withinW (a b : List Nat) : Bool := decide (a.length ≤ b.length) && (List.range a.length).all fun i => decide (andn (a.getD i 0) (b.getD i 0) = 0)
def meetsW (a b : List Nat) : Bool := (List.range (min a.length b.length)).any fun i => decide (a.getD i 0 &&& b.getD i 0 ≠ 0)
/-! ### Equal -/
end Go.Vc
/- bits: Keep, Drop, Turn (of another set). -/
namespace Go.Vc
open Go Go.Proofs
set_option maxRecDepth 10000
variable {w : World}

/-- the first i words turned -/
def updW (f : Nat → Nat → Nat) (ws vs : List Nat) (i : Nat) : List Nat := (List.range ws.length).map fun j => if j < i then f (ws.getD j 0) (vs.getD j 0) else ws.getD j 0
theorem updW_len (f : Nat → Nat → Nat) (ws vs : List Nat) (i : Nat) : (updW f ws vs i).length = ws.length := by simp [updW]
theorem updW_getD (f : Nat → Nat → Nat) (ws vs : List Nat) (i j : Nat) (hj : j < ws.length) : (updW f ws vs i).getD j 0 = if j < i then f (ws.getD j 0) (vs.getD j 0) else ws.getD j 0 := by
  unfold updW
  rw [List.getD_eq_getElem?_getD, List.getElem?_map, List.getElem?_range hj]; rfl
theorem updW_zero (f : Nat → Nat → Nat) (ws vs : List Nat) : updW f ws vs 0 = ws := by
  apply List.ext_getElem?
  intro j
  unfold updW
  rw [List.getElem?_map]
  by_cases hj : j < ws.length
  · rw [List.getElem?_range hj, List.getElem?_eq_getElem hj]
    simp [List.getD_eq_getElem?_getD, hj]
  · rw [List.getElem?_eq_none (by simpa using hj), List.getElem?_eq_none (by omega)]; rfl
theorem updW_set (f : Nat → Nat → Nat) (ws vs : List Nat) (i : Nat) (hi : i < ws.length) : (updW f ws vs i).set i (f (ws.getD i 0) (vs.getD i 0)) = updW f ws vs (i + 1) := by
  apply List.ext_getElem?
  intro j
  rw [List.getElem?_set, updW_len]
  unfold updW
  rw [List.getElem?_map, List.getElem?_map]
  by_cases hj : j < ws.length
  · rw [List.getElem?_range hj]
    by_cases hij : i = j
    · subst hij; simp [hi]
    · have h1 : (j < i) = (j < i + 1) := by rw [eq_iff_iff]; omega
      simp [hij, h1]
  · by_cases hij : i = j
    · omega
    · rw [if_neg hij, List.getElem?_eq_none (by simpa using hj)]; rfl
/-- two sets that share nothing -/
def Apart (p : Nat) (ad : Option Addr) (q : Nat) (bd : Option Addr) : Prop := ∀ b, b ∈ q :: blkOf bd → b ∉ p :: blkOf ad
def keepW (ws vs : List Nat) : List Nat := trim (updW (· &&& ·) (ws.take (min ws.length vs.length)) vs (min ws.length vs.length))
def dropW (ws vs : List Nat) : List Nat := trim (updW andn ws vs (min ws.length vs.length))
def growW (ws : List Nat) (n : Nat) : List Nat := ws ++ List.replicate (n - ws.length) 0
def turnW (ws vs : List Nat) : List Nat := trim (updW (· ^^^ ·) (growW ws vs.length) vs vs.length)
end Go.Vc
/- bits: Join. -/
namespace Go.Vc
open Go Go.Proofs
set_option maxRecDepth 10000
variable {w : World}

def joinW (ws vs : List Nat) : List Nat := updW (· ||| ·) (growW ws vs.length) vs vs.length
def moreN (ws vs : List Nat) (n : Nat) : Bool := (List.range n).any fun i => decide (andn (vs.getD i 0) (ws.getD i 0) ≠ 0)
def joinStep (p : Nat) (F : Nat → List Nat) (s : List Nat × Bool) (q : Nat) : List Nat × Bool :=
  (joinW s.1 (if q = p then s.1 else F q), s.2 || moreN (growW s.1 (if q = p then s.1 else F q).length) (if q = p then s.1 else F q) (if q = p then s.1 else F q).length)
theorem updW_or_self (us : List Nat) (i : Nat) : updW (· ||| ·) us us i = us := by
  have : updW (· ||| ·) us us i = updW (· ||| ·) us us 0 := by
    unfold updW
    apply List.map_congr_left
    intro j _
    simp
  rw [this, updW_zero]
end Go.Vc
/- bits: the document's sets (reference): Of, List, Words; sameWords. -/
namespace Go.Vc
open Go Go.Proofs
set_option maxRecDepth 10000
variable {w : World}

section
variable {p : Nat} {l : List Nat} {ad : Option Addr} {cap : Nat}
end

/-- the numbers below m -/
def elemsTo (ws : List Nat) (m : Nat) : List Nat := (List.range m).filter (bit ws)
def Big (ws : List Nat) : Prop := ∃ k, 1048576 ≤ k ∧ bit ws k = true

end Go.Vc
/- bits: what the document's words are; trim's last word. No program. -/
namespace Go.Vc
open Go

theorem WOk.trim {ws : List Nat} (h : WOk ws) : WOk (trim ws) := fun x hx => by
  rw [trim_take] at hx; exact h x (List.mem_of_mem_take hx)
/-! ### The document's words -/
def owW (n : Nat) (l : List Nat) : List Nat := l.foldl (fun ws k => ws.set (k / 64) (ws.getD (k / 64) 0 + 2 ^ (k % 64))) (List.replicate n 0)
def refW (l : List Nat) : List Nat := match l.getLast? with
  | none => []
  | some k => owW (k / 64 + 1) l
end Go.Vc
/- bits: Of; the document's Words; sameWords. -/
namespace Go.Vc
open Go Go.Proofs
set_option maxRecDepth 10000
variable {w : World}

/-! ### A set of any length, and trim -/
section
variable {p : Nat} {ws : List Nat} {ad : Option Addr} {cap : Nat}
end

/-! ### The document's Words -/
end Go.Vc
/- bits: what the operations on words do to the numbers. No program. -/
namespace Go.Vc
open Go

/-- its last word is not 0 -/
def Tr (ws : List Nat) : Prop := trim ws = ws
theorem WOk.putW {ws : List Nat} (hok : WOk ws) (k : Nat) : WOk (putW ws k) := by
  unfold Vc.putW
  exact (hok.append (WOk.zeros _)).set (Nat.or_lt_two_pow ((hok.append (WOk.zeros _)).getD _) (Nat.pow_lt_pow_right (by omega) (by omega)))
theorem updW_getD' (f : Nat → Nat → Nat) (ws vs : List Nat) (n i : Nat) : (updW f ws vs n).getD i 0 = if i < ws.length then (if i < n then f (ws.getD i 0) (vs.getD i 0) else ws.getD i 0) else 0 := by
  by_cases hi : i < ws.length
  · rw [if_pos hi, updW_getD _ _ _ _ _ hi]
  · rw [if_neg hi, List.getD_eq_getElem?_getD, List.getElem?_eq_none (by rw [updW_len]; omega)]; rfl
theorem getD_beyond {ws : List Nat} {i : Nat} (h : ws.length ≤ i) : ws.getD i 0 = 0 := by
  rw [List.getD_eq_getElem?_getD, List.getElem?_eq_none h]; rfl
theorem growW_getD (ws : List Nat) (n i : Nat) : (growW ws n).getD i 0 = ws.getD i 0 := getD_zeros ws _ i
theorem WOk.joinW {ws vs : List Nat} (h : WOk ws) (k : WOk vs) : WOk (joinW ws vs) := by
  intro x hx
  unfold Vc.joinW updW at hx
  obtain ⟨i, _, rfl⟩ := List.mem_map.1 hx
  rw [growW_getD]
  split
  · exact Nat.or_lt_two_pow (h.getD _) (k.getD _)
  · exact h.getD _
/-! ### Counting -/
end Go.Vc
/- bits: BitsOrder. -/
namespace Go.Vc
open Go Go.Proofs
set_option maxRecDepth 10000
variable {w : World}

def atI (pre : List Nat) : Int := match pre.getLast? with | some k => (k : Int) | none => -1
/-! ### As the rows want it -/
theorem Ret.calls {P : Program} {f : FuncId} {vs : List Value} {w : World} (h : Ret P f vs w (fun v w' => v = .bool true ∧ Kp [] w w')) : Calls P f ⟨vs⟩ w (fun e w' => e = .returned (.bool true) ∧ RowKit.Below w.heap.size w w') :=
  h.2.mono fun _ _ ⟨_, he, hv, kp⟩ => ⟨by rw [he, hv], kp.below⟩
theorem IsRow.ints {w : World} {a : Option Addr} {len cap : Nat} {zs : List Int} (h : IsRow .i64 w a len cap zs) : ReadS w a ((zs.take len).map I) ∧ (zs.take len).length = len ∧ ∀ x ∈ zs.take len, -9223372036854775808 ≤ x ∧ x ≤ 9223372036854775807 := by
  have hl := h.len_le
  refine ⟨?_, by simp; omega, fun x hx => ?_⟩
  · rw [List.map_take]; exact h.read.take len
  · obtain ⟨i, hi⟩ := List.getElem?_of_mem (List.mem_of_mem_take hx)
    have := h.rng64 i
    rw [List.getD_eq_getElem?_getD, hi] at this
    exact this
end Go.Vc
/- bits: BitsWords. -/
namespace Go.Vc
open Go Go.Proofs
set_option maxRecDepth 10000
variable {w : World}

section
variable {P : Program} {n : Nat} {e : Env} {K : EPost} {all : List Oper} {G : List Nat} {ro : Ro} {dst : Option Tmp} {ty : TypeId} {pos : String} {after : Array Edge} {g : Option (Nat × Bool)} {l : List Oper} {t : TypeId} {x y : Operand}
end
theorem wfU {x : Int} (h : (Lit.int .u64 x).wf = true) : 0 ≤ x ∧ x < 18446744073709551616 := by
  have := h
  simp [Lit.wf, IntKind.min, IntKind.max, IntKind.signed, IntKind.bits] at this
  omega
theorem IsRow.words {w : World} {a : Option Addr} {len cap : Nat} {zs : List Int} (h : IsRow .u64 w a len cap zs) : ∃ ws : List Nat, ReadS w a (ws.map U) ∧ ws.length = len ∧ WOk ws ∧ zs.take len = ws.map (fun (n : Nat) => (n : Int)) := by
  have hl := h.len_le
  have hw : ∀ x ∈ zs, 0 ≤ x ∧ x < 18446744073709551616 := by
    rcases h with ⟨_, _, _, rfl⟩ | ⟨x, _, _, _, _, _, hw⟩
    · simp
    · exact fun n hn => wfU (hw n hn)
  have hr := h.read.take len
  rw [← List.map_take] at hr
  have e1 : zs.take len = ((zs.take len).map Int.toNat).map (fun (n : Nat) => (n : Int)) := by
    rw [List.map_map]
    conv => lhs; rw [show zs.take len = (zs.take len).map id by simp]
    apply List.map_congr_left
    intro x hx
    have := hw x (List.mem_of_mem_take hx)
    simp only [id, Function.comp]; omega
  refine ⟨(zs.take len).map Int.toNat, ?_, by simp; omega, ?_, e1⟩
  · rw [e1] at hr
    rw [List.map_map] at hr
    have : (Value.int IntKind.u64 ∘ fun (n : Nat) => (n : Int)) = U := rfl
    rw [this] at hr; exact hr
  · intro y hy
    obtain ⟨x, hx, rfl⟩ := List.mem_map.1 hy
    have := hw x (List.mem_of_mem_take hx)
    omega
end Go.Vc
/- bits: families of sets that share nothing; BitsAlgebra. -/
namespace Go.Vc
open Go Go.Proofs
set_option maxRecDepth 10000
variable {w : World}

/-- a set's place and words -/
structure S4 where
  p : Nat
  ws : List Nat
  ad : Option Addr
  cap : Nat
def S4.blks (s : S4) : List Nat := s.p :: blkOf s.ad
end Go.Vc
/- bits: a relation in memory; NewRelation, Size, Link, Linked. -/
namespace Go.Vc
open Go Go.Proofs
set_option maxRecDepth 10000
variable {w : World}

def wid (n : Nat) : Nat := (n + 63) / 64
abbrev rowV (W : Nat) (b : Nat) : Value := .slice (some ⟨b, 0, none⟩) W W
/-- a relation at p: of n nodes, its rows' blocks bs, its words M -/
structure RelAt (w : World) (p n : Nat) (bs : List Nat) (M : List (List Nat)) (ad : Option Addr) (cap : Nat) : Prop where
  hdr : Blk w p [B true, I n, .slice ad n cap] 241
  own : OwnS w 242 1 ad n cap (bs.map (rowV (wid n)))
  nb : bs.length = n
  nM : M.length = n
  small : n ≤ 2048
  row : ∀ (i b : Nat) (ws : List Nat), bs[i]? = some b → M[i]? = some ws → Blk w b (ws.map U) 174 ∧ ws.length = wid n ∧ WOk ws
  nodup : bs.Nodup
  far : 4 ∉ p :: (blkOf ad ++ bs)
def relBlks (p : Nat) (ad : Option Addr) (bs : List Nat) : List Nat := p :: (blkOf ad ++ bs)
section
variable {p n : Nat} {bs : List Nat} {M : List (List Nat)} {ad : Option Addr} {cap : Nat}
theorem RelAt.at_row (h : RelAt w p n bs M ad cap) {i : Nat} (hi : i < n) : ∃ b ws, bs[i]? = some b ∧ M[i]? = some ws ∧ Blk w b (ws.map U) 174 ∧ ws.length = wid n ∧ WOk ws := by
  have h1 : bs[i]? = some (bs[i]'(by rw [h.nb]; exact hi)) := List.getElem?_eq_getElem _
  have h2 : M[i]? = some (M[i]'(by rw [h.nM]; exact hi)) := List.getElem?_eq_getElem _
  exact ⟨_, _, h1, h2, h.row i _ _ h1 h2⟩
theorem RelAt.kp {w' : World} (h : RelAt w p n bs M ad cap) {S : List Nat} (hk : Kp S w w') (hd : ∀ b, b ∈ relBlks p ad bs → b ∉ S) : RelAt w' p n bs M ad cap :=
  ⟨hk.blk (hd p (by simp [relBlks])) h.hdr, h.own.kp hk (fun b hb => hd b (by simp [relBlks, hb])), h.nb, h.nM, h.small,
    fun i b ws h1 h2 => ⟨hk.blk (hd b (by simp [relBlks, List.mem_of_getElem? h1])) (h.row i b ws h1 h2).1, (h.row i b ws h1 h2).2⟩, h.nodup, h.far⟩
theorem RelAt.kp0 {w' : World} (h : RelAt w p n bs M ad cap) (hk : Kp [] w w') : RelAt w' p n bs M ad cap := h.kp hk (by simp)
theorem RelAt.sm {w' : World} (h : RelAt w p n bs M ad cap) (hs : Sm w w') : RelAt w' p n bs M ad cap := h.kp0 (hs.kp [])
theorem RelAt.lt (h : RelAt w p n bs M ad cap) : ∀ b, b ∈ relBlks p ad bs → b < w.heap.size := by
  intro b hb
  rcases List.mem_cons.1 hb with rfl | hb
  · exact h.hdr.lt
  · rcases List.mem_append.1 hb with hb | hb
    · exact h.own.lt b hb
    · obtain ⟨i, hi⟩ := List.getElem?_of_mem hb
      have hlt : i < n := by rw [← h.nb]; exact (List.getElem?_eq_some_iff.1 hi).1
      obtain ⟨b', ws, h1, _, h3, _⟩ := h.at_row hlt
      rw [hi] at h1; cases h1; exact h3.lt
/-- the relation has been turned in place -/
structure RelTo (w : World) (p n : Nat) (bs : List Nat) (ad : Option Addr) (cap : Nat) (w' : World) (M' : List (List Nat)) : Prop where
  at_ : RelAt w' p n bs M' ad cap
  kp : Kp (relBlks p ad bs) w w'
theorem RelTo.refl (h : RelAt w p n bs M ad cap) : RelTo w p n bs ad cap w M := ⟨h, Kp.refl _ _⟩
theorem RelTo.trans {w1 w2 : World} {M1 M2 : List (List Nat)} (h : RelTo w p n bs ad cap w1 M1) (k : RelTo w1 p n bs ad cap w2 M2) : RelTo w p n bs ad cap w2 M2 := ⟨k.at_, h.kp.trans k.kp⟩
theorem RelTo.sm {w1 w2 : World} {M1 : List (List Nat)} (h : RelTo w p n bs ad cap w1 M1) (hs : Sm w1 w2) : RelTo w p n bs ad cap w2 M1 := ⟨h.at_.sm hs, h.kp.trans (hs.kp _)⟩
theorem relRow_ne {b1 b2 : Nat} {l1 l2 : List Value} {T1 T2 : TypeId} (h1 : Blk w b1 l1 T1) (h2 : Blk w b2 l2 T2) (hT : T1 ≠ T2) : b1 ≠ b2 := by
  rintro rfl
  unfold Blk at h1 h2
  rw [h1] at h2
  simp at h2
  exact hT h2.2
theorem RelAt.ad_blk (h : RelAt w p n bs M ad cap) {b : Nat} (hb : b ∈ blkOf ad) : ∃ l, Blk w b l 242 := by
  have ho := h.own.2
  cases ad with
  | none => simp [blkOf] at hb
  | some ad =>
    simp [blkOf] at hb; subst hb
    obtain ⟨_, _, _, _, junk, h5, _⟩ := ho
    exact ⟨_, h5⟩
/-- a word of a row is stored -/
theorem RelAt.stored {w1 w2 : World} (h : RelAt w p n bs M ad cap) (hs : Sm w w1) {i b k x : Nat} {ws : List Nat} (hb : bs[i]? = some b) (hM : M[i]? = some ws) (hx : x < 2 ^ 64)
    (hu : Upd w1 b (.cells ⟨(ws.map U).set k (U x)⟩ 174 (0, 0)) w2) : RelTo w p n bs ad cap w2 (M.set i (ws.set k x)) := by
  obtain ⟨hB, hl, hok⟩ := h.row i b ws hb hM
  have hmem : b ∈ bs := List.mem_of_getElem? hb
  have hpb : p ≠ b := relRow_ne h.hdr hB (by decide)
  have hi : i < M.length := (List.getElem?_eq_some_iff.1 hM).1
  refine ⟨⟨hu.kept hpb (hs.blk h.hdr), ?_, h.nb, by simpa using h.nM, h.small, ?_, h.nodup, h.far⟩, (hs.kp _).trans (hu.kp _ (.inl (by simp [relBlks, hmem])))⟩
  · refine (h.own.sm hs).upd hu fun hb2 => ?_
    obtain ⟨l, hl2⟩ := h.ad_blk hb2
    exact relRow_ne hl2 hB (by decide) rfl
  · intro j b' ws' h1 h2
    by_cases hij : i = j
    · subst hij
      rw [hb] at h1; cases h1
      rw [List.getElem?_set_self hi] at h2
      cases h2
      refine ⟨?_, by simpa using hl, hok.set hx⟩
      have := hu.blk
      rwa [List.map_set]
    · rw [List.getElem?_set_ne hij] at h2
      obtain ⟨g1, g2⟩ := h.row j b' ws' h1 h2
      refine ⟨hu.kept (fun e => ?_) (hs.blk g1), g2⟩
      subst e
      obtain ⟨e1, e3⟩ := (List.getElem?_eq_some_iff.1 hb)
      obtain ⟨e2, e4⟩ := (List.getElem?_eq_some_iff.1 h1)
      have hp := List.pairwise_iff_getElem.1 h.nodup
      rcases Nat.lt_or_gt_of_ne hij with hlt | hlt
      · exact hp i j e1 e2 hlt (by rw [e3, e4])
      · exact hp j i e2 e1 hlt (by rw [e3, e4])
end
/-- is i linked to j -/
def bitM (M : List (List Nat)) (i j : Nat) : Bool := bit (M.getD i []) j
theorem bitM_row {M : List (List Nat)} {i : Nat} {ws : List Nat} (h : M[i]? = some ws) (j : Nat) : bitM M i j = bit ws j := by unfold bitM; rw [List.getD_eq_getElem?_getD, h]; rfl
def nodeB (n : Nat) (i : Int) : Bool := decide (0 ≤ i) && decide (i < n)
/-! ### NewRelation -/
def zeroM (n : Nat) : List (List Nat) := List.replicate n (List.replicate (wid n) 0)
theorem bitM_zero (n i j : Nat) : bitM (zeroM n) i j = false := by
  unfold bitM zeroM bit
  rw [List.getD_eq_getElem?_getD (l := List.replicate n _), List.getElem?_replicate]
  split
  · simp only [Option.getD_some]
    rw [List.getD_eq_getElem?_getD, List.getElem?_replicate]
    split <;> simp
  · simp
structure NewRel (w : World) (p n : Nat) (w' : World) (bs : List Nat) (M : List (List Nat)) (ad : Option Addr) (cap : Nat) : Prop where
  at_ : RelAt w' p n bs M ad cap
  kp : Kp [] w w'
  new : ∀ b, b ∈ relBlks p ad bs → w.heap.size ≤ b
theorem NewRel.to {w1 w2 : World} {p n : Nat} {bs : List Nat} {M M' : List (List Nat)} {ad : Option Addr} {cap : Nat} (h : NewRel w p n w1 bs M ad cap) (k : RelTo w1 p n bs ad cap w2 M') : NewRel w p n w2 bs M' ad cap :=
  ⟨k.at_, h.kp.since k.kp h.new, h.new⟩
end Go.Vc
