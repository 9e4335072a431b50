/- Parts of a proof. -/
import Derived.Test.YtkgngbpkiklckaaGreatDoorQClQExact18
import Derived.Test.YtkgngbpkiklckaaGreatDoorChecked
set_option maxHeartbeats 12800000
namespace Go.Vc
open Go Go.Proofs
set_option maxRecDepth 20000
section
def evsC (l : List Ev) : List Value := l.flatMap evC
theorem Jt5 (l : List Ev) : (evsC l).length = l.length * 3 := by
 induction l with
 | nil => rfl
 | cons x r ih => unfold evsC at *; rw [List.flatMap_cons, List.length_append, ih]; simp [evC]; omega
theorem Jq0 : ∀ {l : List Ev} {i : Nat} {x : Ev}, l[i]? = some x → ∀ j v, (evC x)[j]? = some v → (evsC l)[i * 3 + j]? = some v
 | [], i, x, h, _, _, _ => by simp at h
 | y :: r, 0, x, h, j, v, hv => by
  simp at h; subst h
  have e1 : evsC (y :: r) = evC y ++ evsC r := by simp [evsC]
  rw [e1, Nat.zero_mul, Nat.zero_add, List.getElem?_append_left ((List.getElem?_eq_some_iff.1 hv).1)]
  exact hv
 | y :: r, i + 1, x, h, j, v, hv => by
  have ih := Jq0 (l := r) (i := i) (x := x) (by simpa using h) j v hv
  have e1 : evsC (y :: r) = evC y ++ evsC r := by simp [evsC]
  have l3 : (evC y).length = 3 := rfl
  rw [e1, List.getElem?_append_right oM]
  have e2 : (i + 1) * 3 + j - (evC y).length = i * 3 + j := oM
  rw [e2]; exact ih
end
end Go.Vc
namespace Go.Vc
open Go
abbrev U (n : Nat) : Value := .int .u64 (n : Int)
theorem wrapU (x : Int) : IntKind.u64.wrap x = x % 18446744073709551616 := rfl
theorem bvU (n : Nat) (h : n < 2 ^ 64) : (BitVec.ofInt 64 (n : Int)).toNat = n := by
 rw [BitVec.toNat_ofInt]; simp; omega
theorem ibits_and {a b : Nat} (ha : a < 2 ^ 64) (hb : b < 2 ^ 64) : Qf1 .and .u64 (a : Int) (b : Int) = ((a &&& b : Nat) : Int) := by
 have hlt : a &&& b < 2 ^ 64 := Nat.and_lt_two_pow a hb
 show IntKind.u64.wrap ((BitVec.ofInt 64 (a : Int) &&& BitVec.ofInt 64 (b : Int)).toNat : Int) = _
 rw [BitVec.toNat_and, bvU a ha, bvU b hb, wrapU]; omega
theorem ibits_or {a b : Nat} (ha : a < 2 ^ 64) (hb : b < 2 ^ 64) : Qf1 .or .u64 (a : Int) (b : Int) = ((a ||| b : Nat) : Int) := by
 have hlt : a ||| b < 2 ^ 64 := Nat.or_lt_two_pow ha hb
 show IntKind.u64.wrap ((BitVec.ofInt 64 (a : Int) ||| BitVec.ofInt 64 (b : Int)).toNat : Int) = _
 rw [BitVec.toNat_or, bvU a ha, bvU b hb, wrapU]; omega
theorem shl_one {k : Nat} (hk : k < 64) : IntKind.u64.wrap (1 * 2 ^ (min k 64)) = ((2 ^ k : Nat) : Int) := by
 rw [wrapU, Nat.min_eq_left oM]
 have : 2 ^ k < 2 ^ 64 := Nat.pow_lt_pow_right oM hk
 have h2 : ((2 : Int) ^ k) = ((2 ^ k : Nat) : Int) := sI
 rw [Int.one_mul, h2]
 generalize 2 ^ k = z at this ⊢
 omega
theorem shrU {a k : Nat} (hk : k ≤ 64) : Int.fdiv (a : Int) (2 ^ (min k 64)) = ((a >>> k : Nat) : Int) := by
 rw [Nat.min_eq_left hk, Nat.shiftRight_eq_div_pow]
 have h2 : ((2 : Int) ^ k) = ((2 ^ k : Nat) : Int) := sI
 rw [h2, Int.fdiv_eq_ediv_of_nonneg _ (Int.natCast_nonneg _)]; simp
theorem tmod64 (k : Nat) : Int.tmod (k : Int) 64 = ((k % 64 : Nat) : Int) := by
 rw [Int.tmod_eq_emod_of_nonneg oM]; omega
theorem tdiv64 (k : Nat) : Int.tdiv (k : Int) 64 = ((k / 64 : Nat) : Int) := by
 rw [Int.tdiv_eq_ediv_of_nonneg oM]; omega
def dbt : List Nat := [0, 1, 56, 2, 57, 49, 28, 3, 61, 58, 42, 50, 38, 29, 17, 4, 62, 47, 59, 36, 45, 43, 51, 22, 53, 39, 33, 30, 24, 18, 12, 5, 63, 55, 48, 27, 60, 41, 37, 16, 46, 35, 44, 21, 52, 32, 23, 11, 54, 26, 40, 15, 34, 20, 31, 10, 25, 14, 19, 9, 13, 8, 7, 6]
def bit (ws : List Nat) (k : Nat) : Bool := (ws.getD (k / 64) 0).testBit (k % 64)
def WOk (ws : List Nat) : Prop := ∀ x ∈ ws, x < 2 ^ 64
theorem WOk.getD {ws : List Nat} (h : WOk ws) (i : Nat) : ws.getD i 0 < 2 ^ 64 := by
 rw [List.getD_eq_getElem?_getD]
 cases hh : ws[i]? with
 | none => simp
 | some x => exact h x (List.mem_of_getElem? hh)
end Go.Vc

namespace Go.Vc
open Go Go.Proofs
set_option maxRecDepth 20000
section
variable {w : World}
def TabW (w : World) : Prop := ∀ i z : Nat, dbt[i]? = some z → w.cell? ⟨4, i, none⟩ = some (.int .u8 (z : Int))
theorem TabW.heap {w w' : World} (h : TabW w) (hk : w'.heap[4]? = w.heap[4]?) : TabW w' := fun i z hz => by
 rw [← h i z hz]; exact World.cell?_of_block hk
theorem TabW.lt (h : TabW w) : 4 < w.heap.size := by
 have := h 0 0 rfl
 unfold World.cell? at this
 cases hb : w.heap[4]? with
 | none => simp [hb] at this
 | some o => exact (Array.getElem?_eq_some_iff.1 hb).1
theorem TabW.kp {w w' : World} (h : TabW w) {S : List Nat} (hk : Kp S w w') (hS : 4 ∉ S) : TabW w' := h.heap (hk.at_ _ h.lt hS)
theorem TabW.sm {w w' : World} (h : TabW w) (hs : Sm w w') : TabW w' := h.heap (by rw [hs.heap])
theorem TabW.upd {w w' : World} (h : TabW w) {b : Nat} {o : Obj} (hu : Upd w b o w') (hb : b ≠ 4) : TabW w' := h.heap (hu.other _ (Ne.symm hb))
theorem TabW.ne (h : TabW w) {b : Nat} {L : List Value} {T : TypeId} (hb : Blk w b L T) (hL : ∀ z : Nat, L.head? ≠ some (.int .u8 (z : Int))) : b ≠ 4 := by
 rintro rfl
 have h0 := h 0 0 rfl
 unfold Blk at hb
 simp only [World.cell?, hb] at h0
 refine hL 0 ?_
 cases L with
 | nil => simp at h0
 | cons v l => simpa using h0
theorem least_bit {x : Nat} (hx : x < 2 ^ 64) (h0 : x ≠ 0) : ∃ i, i < 64 ∧ x.testBit i = true ∧ ∀ j, j < i → x.testBit j = false := by
 have hb : ∃ i, x.testBit i = true := Nat.exists_testBit_of_ne_zero h0
 have key : ∀ i, x.testBit i = true → ∃ i, x.testBit i = true ∧ ∀ j, j < i → x.testBit j = false := by
  intro i
  induction i using Nat.strongRecOn with
  | _ i ih =>
   intro hi
   by_cases h : ∃ j, j < i ∧ x.testBit j = true
   ·obtain ⟨j, hj, hb⟩ := h; exact ih j hj hb
   ·exact ⟨i, hi, fun j hj => by
     cases hb : x.testBit j with
     | false => rfl
     | true => exact absurd ⟨j, hj, hb⟩ h⟩
 obtain ⟨i, hi⟩ := hb
 obtain ⟨i, h1, h2⟩ := key i hi
 refine ⟨i, ?_, h1, h2⟩
 apply Classical.byContradiction
 intro hge
 have : x < 2 ^ i := Nat.lt_of_lt_of_le hx (Nat.pow_le_pow_right oM oM)
 rw [Nat.testBit_lt_two_pow this] at h1; cases h1
structure RdW (w : World) (ad : Option Addr) (ws : List Nat) : Prop where
 read : Ja7 w ad (ws.map U)
 ok : WOk ws
 len : ws.length ≤ 140737488355328
theorem RdW.kp {w w' : World} {ad : Option Addr} {ws : List Nat} (h : RdW w ad ws) {S : List Nat} (hk : Kp S w w') (hd : ∀ b, b ∈ Ja1 ad → b ∉ S) : RdW w' ad ws := ⟨h.read.kp hk hd, h.ok, h.len⟩
end
section
variable {w : World}
theorem bit_shr {x : Nat} (hx : x < 2 ^ 64) (k : Nat) : Qf1 .and .u64 (Int.fdiv (x : Int) (2 ^ (min (Int.tmod (k : Int) 64).toNat 64))) 1 = (((x >>> (k % 64)) &&& 1 : Nat) : Int) := by
 rw [tmod64, Int.toNat_natCast, shrU oM]
 exact ibits_and (b := 1) (Nat.lt_of_le_of_lt (by rw [Nat.shiftRight_eq_div_pow]; exact Nat.div_le_self _ _) hx) dE
theorem bit_and1 (x j : Nat) : ((((x >>> j) &&& 1 : Nat) : Int) = 0) ↔ x.testBit j = false := by
 rw [Nat.testBit, Nat.and_comm]
 generalize 1 &&& x >>> j = z
 by_cases h : z = 0 <;> simp [h]
end
section
variable {w : World}
theorem WOk.append {a b : List Nat} (ha : WOk a) (hb : WOk b) : WOk (a ++ b) := fun x hx => by
 rcases List.mem_append.1 hx with h | h
 ·exact ha x h
 ·exact hb x h
theorem WOk.zeros (n : Nat) : WOk (List.replicate n 0) := fun x hx => by simp at hx; rw [hx.2]; decide
theorem WOk.set {a : List Nat} (ha : WOk a) {i x : Nat} (hx : x < 2 ^ 64) : WOk (a.set i x) := fun y hy => by
 rcases List.mem_or_eq_of_mem_set hy with h | h
 ·exact ha y h
 ·rw [h]; exact hx
def trim : List Nat → List Nat
 | [] => []
 | x :: r => match trim r with
  | [] => if x = 0 then [] else [x]
  | y :: s => x :: y :: s
theorem trim_take (ws : List Nat) : trim ws = ws.take (trim ws).length := by
 induction ws with
 | nil => simp [trim]
 | cons x r ih =>
  have hh : trim (x :: r) = match trim r with | [] => if x = 0 then [] else [x] | y :: s => x :: y :: s := rfl
  cases ht : trim r with
  | nil =>
   rw [ht] at hh
   dsimp only at hh
   rw [hh]; split <;> simp
  | cons y s =>
   rw [ht] at hh
   dsimp only at hh
   rw [hh]
   rw [ht] at ih
   simp only [List.length_cons, List.take_succ_cons]
   simp only [List.length_cons] at ih
   rw [← ih]
end
section
variable {w : World}
theorem getD_set (ws : List Nat) (i j x : Nat) (hi : i < ws.length) : (ws.set i x).getD j 0 = if i = j then x else ws.getD j 0 := by
 rw [List.getD_eq_getElem?_getD, List.getD_eq_getElem?_getD, List.getElem?_set]
 by_cases h : i = j
 ·subst h; simp [hi]
 ·simp [h]
theorem getD_trim (ws : List Nat) (i : Nat) : (trim ws).getD i 0 = ws.getD i 0 := by
 induction ws generalizing i with
 | nil => rfl
 | cons x r ih =>
  have hh : trim (x :: r) = match trim r with | [] => if x = 0 then [] else [x] | y :: s => x :: y :: s := rfl
  cases ht : trim r with
  | nil =>
   rw [ht] at hh
   dsimp only at hh
   rw [hh]
   have ih' : ∀ i, r.getD i 0 = 0 := fun i => by rw [← ih i, ht]; rfl
   cases i with
   | zero => split <;> simp_all
   | succ i =>
    rw [List.getD_cons_succ, ih' i]
    split <;> rfl
  | cons y s =>
   rw [ht] at hh
   dsimp only at hh
   rw [hh]
   cases i with
   | zero => rfl
   | succ i => rw [List.getD_cons_succ, List.getD_cons_succ, ← ih i, ht]
theorem bit_trim (ws : List Nat) (j : Nat) : bit (trim ws) j = bit ws j := by unfold bit; rw [getD_trim]
end
section
variable {w : World}
abbrev encN (k : Nat) : List Value := [I (k : Int)]
end
section
variable {w : World}
theorem Keeps.ne {D l : Nat} {r : Loop} {Fp : List Nat} {w W : World} (h : Keeps D l r Fp w W) {b : Nat} {L : List Value} {T : TypeId} (hb : Blk W b L T) : b ≠ l ∧ b ≠ D := by
 constructor
 ·rintro rfl; have := h.loop; unfold Blk at hb; rw [hb] at this; cases this
 ·rintro rfl; have := h.shut; unfold Blk at hb; rw [hb] at this; cases this
structure SeqIs (w : World) (v : Value) (Fp : List Nat) (xs : List Nat) : Prop where
 is : ∃ f lb, v = .func (.func f) #[] ⟨lb⟩ ∧ Iter Tryz.prog f lb Fp encN xs w
theorem SeqIs.kp {w w' : World} {v : Value} {Fp xs : List Nat} (h : SeqIs w v Fp xs) {S : List Nat} (hk : Kp S w w') (hd : ∀ b, b ∈ Fp → b ∉ S) : SeqIs w' v Fp xs := by
 obtain ⟨f, lb, h1, h2⟩ := h.is
 exact ⟨f, lb, h1, h2.kp hk.size (fun b hb => hk.at_ b (h2.1 b hb) (hd b hb))⟩
theorem SeqIs.lt {v : Value} {Fp xs : List Nat} (h : SeqIs w v Fp xs) : ∀ b, b ∈ Fp → b < w.heap.size := by
 obtain ⟨f, lb, h1, h2⟩ := h.is
 exact h2.1
end
end Go.Vc
namespace Go.Vc
open Go
def mask (c : Nat) : Nat → Nat
 | 0 => 0
 | k + 1 => c + 256 * mask c k
def s1 (s c k x : Nat) : Nat := ((x >>> s) &&& mask c k) + (x &&& mask c k)
def f1 (s c b : Nat) : Nat := ((b >>> s) &&& c) + (b &&& c)
def s3 (k x : Nat) : Nat := ((x >>> 4) + x) &&& mask 15 k
end Go.Vc

namespace Go.Vc
open Go Go.Proofs
set_option maxRecDepth 20000
section
variable {w : World}
end
section
variable {w : World}
end
section
variable {w : World}
end
section
variable {w : World}
def updW (f : Nat → Nat → Nat) (ws vs : List Nat) (i : Nat) : List Nat := (List.range ws.length).map fun j => if j < i then f (ws.getD j 0) (vs.getD j 0) else ws.getD j 0
theorem updW_len (f : Nat → Nat → Nat) (ws vs : List Nat) (i : Nat) : (updW f ws vs i).length = ws.length := by simp [updW]
theorem updW_getD (f : Nat → Nat → Nat) (ws vs : List Nat) (i j : Nat) (hj : j < ws.length) : (updW f ws vs i).getD j 0 = if j < i then f (ws.getD j 0) (vs.getD j 0) else ws.getD j 0 := by
 unfold updW
 rw [List.getD_eq_getElem?_getD, List.getElem?_map, List.getElem?_range hj]; rfl
theorem updW_zero (f : Nat → Nat → Nat) (ws vs : List Nat) : updW f ws vs 0 = ws := by
 apply List.ext_getElem?
 intro j
 unfold updW
 rw [List.getElem?_map]
 by_cases hj : j < ws.length
 ·rw [List.getElem?_range hj, List.getElem?_eq_getElem hj]
  simp [List.getD_eq_getElem?_getD, hj]
 ·rw [List.getElem?_eq_none (by simpa using hj), List.getElem?_eq_none oM]; rfl
theorem updW_set (f : Nat → Nat → Nat) (ws vs : List Nat) (i : Nat) (hi : i < ws.length) : (updW f ws vs i).set i (f (ws.getD i 0) (vs.getD i 0)) = updW f ws vs (i + 1) := by
 apply List.ext_getElem?
 intro j
 rw [List.getElem?_set, updW_len]
 unfold updW
 rw [List.getElem?_map, List.getElem?_map]
 by_cases hj : j < ws.length
 ·rw [List.getElem?_range hj]
  by_cases hij : i = j
  ·subst hij; simp [hi]
  ·have h1 : (j < i) = (j < i + 1) := by rw [eq_iff_iff]; omega
   simp [hij, h1]
 ·by_cases hij : i = j
  ·omega
  ·rw [if_neg hij, List.getElem?_eq_none (by simpa using hj)]; rfl
def keepW (ws vs : List Nat) : List Nat := trim (updW (· &&& ·) (ws.take (min ws.length vs.length)) vs (min ws.length vs.length))
end
section
variable {w : World}
theorem updW_or_self (us : List Nat) (i : Nat) : updW (· ||| ·) us us i = us := by
 have : updW (· ||| ·) us us i = updW (· ||| ·) us us 0 := by
  unfold updW
  apply List.map_congr_left
  intro j _
  simp
 rw [this, updW_zero]
end
section
variable {w : World}
section
variable {p : Nat} {l : List Nat} {ad : Option Addr} {cap : Nat}
end
end
end Go.Vc
namespace Go.Vc
open Go
theorem trim_last : ∀ (ws : List Nat), trim ws = [] ∨ ∃ l x, trim ws = l ++ [x] ∧ x ≠ 0
 | [] => .inl rfl
 | x :: r => by
  have hh : trim (x :: r) = match trim r with | [] => if x = 0 then [] else [x] | y :: s => x :: y :: s := rfl
  cases ht : trim r with
  | nil =>
   rw [ht] at hh
   dsimp only at hh
   rw [hh]
   by_cases h0 : x = 0
   ·left; simp [h0]
   ·right; exact ⟨[], x, by simp [h0], h0⟩
  | cons y s =>
   rw [ht] at hh
   dsimp only at hh
   right
   rcases trim_last r with h1 | ⟨l, z, h1, h2⟩
   ·rw [h1] at ht; cases ht
   ·rw [hh, ← ht, h1]
    exact ⟨x :: l, z, sI, h2⟩
theorem WOk.trim {ws : List Nat} (h : WOk ws) : WOk (trim ws) := fun x hx => by
 rw [trim_take] at hx; exact h x (List.mem_of_mem_take hx)
theorem trim_has {ws : List Nat} (hok : WOk ws) (hne : trim ws ≠ []) : ∃ k, bit ws k = true ∧ k / 64 + 1 = (trim ws).length := by
 rcases trim_last ws with h | ⟨l, x, h, hx⟩
 ·exact absurd h hne
 ·have hxl : x < 2 ^ 64 := hok.trim x (by rw [h]; simp)
  obtain ⟨i, hi, h1, _⟩ := least_bit hxl hx
  refine ⟨64 * l.length + i, ?_, ?_⟩
  ·rw [← bit_trim, h]
   unfold bit
   have q1 : (64 * l.length + i) / 64 = l.length := oM
   have q2 : (64 * l.length + i) % 64 = i := oM
   rw [q1, q2, List.getD_eq_getElem?_getD]
   simp [h1]
  ·rw [h, List.length_append]
   simp; omega
end Go.Vc

namespace Go.Vc
open Go Go.Proofs
set_option maxRecDepth 20000
section
variable {w : World}
section
variable {p : Nat} {ws : List Nat} {ad : Option Addr} {cap : Nat}
end
end
end Go.Vc
namespace Go.Vc
open Go
def Tr (ws : List Nat) : Prop := trim ws = ws
theorem Tr.top {ws : List Nat} (h : Tr ws) (hok : WOk ws) (hne : ws ≠ []) : ∃ k, bit ws k = true ∧ k / 64 + 1 = ws.length := by
 have := trim_has hok (by rw [h]; exact hne)
 rwa [h] at this
theorem updW_getD' (f : Nat → Nat → Nat) (ws vs : List Nat) (n i : Nat) : (updW f ws vs n).getD i 0 = if i < ws.length then (if i < n then f (ws.getD i 0) (vs.getD i 0) else ws.getD i 0) else 0 := by
 by_cases hi : i < ws.length
 ·rw [if_pos hi, updW_getD _ _ _ _ _ hi]
 ·rw [if_neg hi, List.getD_eq_getElem?_getD, List.getElem?_eq_none (by rw [updW_len]; omega)]; rfl
theorem Jv7 {ws : List Nat} {i : Nat} (h : ws.length ≤ i) : ws.getD i 0 = 0 := by
 rw [List.getD_eq_getElem?_getD, List.getElem?_eq_none h]; rfl
end Go.Vc

namespace Go.Vc
open Go Go.Proofs
set_option maxRecDepth 20000
section
variable {w : World}
theorem Ret.calls {P : Program} {f : FuncId} {vs : List Value} {w : World} (h : Ret P f vs w (fun v w' => v = .bool true ∧ Kp [] w w')) : Calls P f ⟨vs⟩ w (fun e w' => e = .returned (.bool true) ∧ RowKit.Below w.heap.size w w') :=
 h.2.mono fun _ _ ⟨_, he, hv, kp⟩ => ⟨by rw [he, hv], kp.below⟩
end
section
variable {w : World}
section
variable {P : Program} {n : Nat} {e : Env} {K : Jc0} {all : List Oper} {G : List Nat} {ro : Ro} {dst : Option Tmp} {ty : TypeId} {pos : String} {after : Array Edge} {g : Option (Nat × Bool)} {l : List Oper} {t : TypeId} {x y : Operand}
end
end
section
variable {w : World}
end
section
variable {w : World}
def wid (n : Nat) : Nat := (n + 63) / 64
abbrev rowV (W : Nat) (b : Nat) : Value := .slice (some ⟨b, 0, none⟩) W W
structure Jn5 (w : World) (p n : Nat) (bs : List Nat) (M : List (List Nat)) (ad : Option Addr) (cap : Nat) : Prop where
 hdr : Blk w p [B true, I n, .slice ad n cap] 241
 own : OwnS w 242 1 ad n cap (bs.map (rowV (wid n)))
 nb : bs.length = n
 nM : M.length = n
 small : n ≤ 2048
 row : ∀ (i b : Nat) (ws : List Nat), bs[i]? = some b → M[i]? = some ws → Blk w b (ws.map U) 174 ∧ ws.length = wid n ∧ WOk ws
 nodup : bs.Nodup
 far : 4 ∉ p :: (Ja1 ad ++ bs)
def Jd3 (p : Nat) (ad : Option Addr) (bs : List Nat) : List Nat := p :: (Ja1 ad ++ bs)
section
variable {p n : Nat} {bs : List Nat} {M : List (List Nat)} {ad : Option Addr} {cap : Nat}
theorem Jn5.at_row (h : Jn5 w p n bs M ad cap) {i : Nat} (hi : i < n) : ∃ b ws, bs[i]? = some b ∧ M[i]? = some ws ∧ Blk w b (ws.map U) 174 ∧ ws.length = wid n ∧ WOk ws := by
 have h1 : bs[i]? = some (bs[i]'(by rw [h.nb]; exact hi)) := List.getElem?_eq_getElem _
 have h2 : M[i]? = some (M[i]'(by rw [h.nM]; exact hi)) := List.getElem?_eq_getElem _
 exact ⟨_, _, h1, h2, h.row i _ _ h1 h2⟩
theorem Jn5.kp {w' : World} (h : Jn5 w p n bs M ad cap) {S : List Nat} (hk : Kp S w w') (hd : ∀ b, b ∈ Jd3 p ad bs → b ∉ S) : Jn5 w' p n bs M ad cap :=
 ⟨hk.blk (hd p (by simp [Jd3])) h.hdr, h.own.kp hk (fun b hb => hd b (by simp [Jd3, hb])), h.nb, h.nM, h.small,
  fun i b ws h1 h2 => ⟨hk.blk (hd b (by simp [Jd3, List.mem_of_getElem? h1])) (h.row i b ws h1 h2).1, (h.row i b ws h1 h2).2⟩, h.nodup, h.far⟩
theorem Jn5.kp0 {w' : World} (h : Jn5 w p n bs M ad cap) (hk : Kp [] w w') : Jn5 w' p n bs M ad cap := h.kp hk sI
theorem Jn5.sm {w' : World} (h : Jn5 w p n bs M ad cap) (hs : Sm w w') : Jn5 w' p n bs M ad cap := h.kp0 (hs.kp [])
theorem Jn5.lt (h : Jn5 w p n bs M ad cap) : ∀ b, b ∈ Jd3 p ad bs → b < w.heap.size := by
 intro b hb
 rcases List.mem_cons.1 hb with rfl | hb
 ·exact h.hdr.lt
 ·rcases List.mem_append.1 hb with hb | hb
  ·exact h.own.lt b hb
  ·obtain ⟨i, hi⟩ := List.getElem?_of_mem hb
   have hlt : i < n := by rw [← h.nb]; exact (List.getElem?_eq_some_iff.1 hi).1
   obtain ⟨b', ws, h1, _, h3, _⟩ := h.at_row hlt
   rw [hi] at h1; cases h1; exact h3.lt
structure Qk0 (w : World) (p n : Nat) (bs : List Nat) (ad : Option Addr) (cap : Nat) (w' : World) (M' : List (List Nat)) : Prop where
 at_ : Jn5 w' p n bs M' ad cap
 kp : Kp (Jd3 p ad bs) w w'
theorem Qk0.refl (h : Jn5 w p n bs M ad cap) : Qk0 w p n bs ad cap w M := ⟨h, Kp.refl _ _⟩
theorem Qk0.trans {w1 w2 : World} {M1 M2 : List (List Nat)} (h : Qk0 w p n bs ad cap w1 M1) (k : Qk0 w1 p n bs ad cap w2 M2) : Qk0 w p n bs ad cap w2 M2 := ⟨k.at_, h.kp.trans k.kp⟩
theorem Qk0.sm {w1 w2 : World} {M1 : List (List Nat)} (h : Qk0 w p n bs ad cap w1 M1) (hs : Sm w1 w2) : Qk0 w p n bs ad cap w2 M1 := ⟨h.at_.sm hs, h.kp.trans (hs.kp _)⟩
theorem Jn6 {b1 b2 : Nat} {l1 l2 : List Value} {T1 T2 : TypeId} (h1 : Blk w b1 l1 T1) (h2 : Blk w b2 l2 T2) (hT : T1 ≠ T2) : b1 ≠ b2 := by
 rintro rfl
 unfold Blk at h1 h2
 rw [h1] at h2
 simp at h2
 exact hT h2.2
theorem Jn5.ad_blk (h : Jn5 w p n bs M ad cap) {b : Nat} (hb : b ∈ Ja1 ad) : ∃ l, Blk w b l 242 := by
 have ho := h.own.2
 cases ad with
 | none => simp [Ja1] at hb
 | some ad =>
  simp [Ja1] at hb; subst hb
  obtain ⟨_, _, _, _, junk, h5, _⟩ := ho
  exact ⟨_, h5⟩
theorem Jn5.stored {w1 w2 : World} (h : Jn5 w p n bs M ad cap) (hs : Sm w w1) {i b k x : Nat} {ws : List Nat} (hb : bs[i]? = some b) (hM : M[i]? = some ws) (hx : x < 2 ^ 64)
  (hu : Upd w1 b (.cells ⟨(ws.map U).set k (U x)⟩ 174 (0, 0)) w2) : Qk0 w p n bs ad cap w2 (M.set i (ws.set k x)) := by
 obtain ⟨hB, hl, hok⟩ := h.row i b ws hb hM
 have hmem : b ∈ bs := List.mem_of_getElem? hb
 have hpb : p ≠ b := Jn6 h.hdr hB dE
 have hi : i < M.length := (List.getElem?_eq_some_iff.1 hM).1
 refine ⟨⟨hu.kept hpb (hs.blk h.hdr), ?_, h.nb, by simpa using h.nM, h.small, ?_, h.nodup, h.far⟩, (hs.kp _).trans (hu.kp _ (.inl (by simp [Jd3, hmem])))⟩
 ·refine (h.own.sm hs).upd hu fun hb2 => ?_
  obtain ⟨l, hl2⟩ := h.ad_blk hb2
  exact Jn6 hl2 hB dE rfl
 ·intro j b' ws' h1 h2
  by_cases hij : i = j
  ·subst hij
   rw [hb] at h1; cases h1
   rw [List.getElem?_set_self hi] at h2
   cases h2
   refine ⟨?_, by simpa using hl, hok.set hx⟩
   have := hu.blk
   rwa [List.map_set]
  ·rw [List.getElem?_set_ne hij] at h2
   obtain ⟨g1, g2⟩ := h.row j b' ws' h1 h2
   refine ⟨hu.kept (fun e => ?_) (hs.blk g1), g2⟩
   subst e
   obtain ⟨e1, e3⟩ := (List.getElem?_eq_some_iff.1 hb)
   obtain ⟨e2, e4⟩ := (List.getElem?_eq_some_iff.1 h1)
   have hp := List.pairwise_iff_getElem.1 h.nodup
   rcases Nat.lt_or_gt_of_ne hij with hlt | hlt
   ·exact hp i j e1 e2 hlt (by rw [e3, e4])
   ·exact hp j i e2 e1 hlt (by rw [e3, e4])
end
def bitM (M : List (List Nat)) (i j : Nat) : Bool := bit (M.getD i []) j
theorem bitM_row {M : List (List Nat)} {i : Nat} {ws : List Nat} (h : M[i]? = some ws) (j : Nat) : bitM M i j = bit ws j := by unfold bitM; rw [List.getD_eq_getElem?_getD, h]; rfl
def Jv2 (n : Nat) (i : Int) : Bool := decide (0 ≤ i) && decide (i < n)
def zeroM (n : Nat) : List (List Nat) := List.replicate n (List.replicate (wid n) 0)
theorem bitM_zero (n i j : Nat) : bitM (zeroM n) i j = false := by
 unfold bitM zeroM bit
 rw [List.getD_eq_getElem?_getD (l := List.replicate n _), List.getElem?_replicate]
 split
 ·simp only [Option.getD_some]
  rw [List.getD_eq_getElem?_getD, List.getElem?_replicate]
  split <;> simp
 ·simp
end
section
variable {w : World}
section
variable {p n : Nat} {bs : List Nat} {M : List (List Nat)} {ad : Option Addr} {cap : Nat}
theorem Jn5.cells (h : Jn5 w p n bs M ad cap) {i : Nat} (hi : i < n) : ∃ ba b ws, ad = some ⟨ba, 0, none⟩ ∧ bs[i]? = some b ∧ M[i]? = some ws ∧ Blk w b (ws.map U) 174 ∧ ws.length = wid n ∧ WOk ws ∧ w.cell? ⟨ba, i, none⟩ = some (rowV (wid n) b) ∧ ∀ k, k < wid n → w.cell? ⟨b, k, none⟩ = some (U (ws.getD k 0)) := by
 obtain ⟨b, ws, h1, h2, h3, h4, h5⟩ := h.at_row hi
 have ho := h.own
 cases ad with
 | none => have := ho.2.1; omega
 | some ad =>
  obtain ⟨ba, off, spot⟩ := ad
  obtain ⟨e1, e2, _⟩ := ho.2
  cases e1; cases e2
  refine ⟨ba, b, ws, rfl, h1, h2, h3, h4, h5, ?_, fun k hk => ?_⟩
  ·exact ho.get (by rw [List.getElem?_map, h1]; rfl)
  ·refine h3.cell ?_
   rw [List.getElem?_map, List.getD_eq_getElem?_getD, List.getElem?_eq_getElem oM]; rfl
theorem nodeB_nat {x : Int} (h : Jv2 n x = true) : ∃ k : Nat, x = (k : Int) ∧ k < n := by
 unfold Jv2 at h
 simp only [Bool.and_eq_true, decide_eq_true_eq] at h
 exact ⟨x.toNat, oM, oM⟩
def linkM (M : List (List Nat)) (i j : Nat) : List (List Nat) := M.set i ((M.getD i []).set (j / 64) ((M.getD i []).getD (j / 64) 0 ||| 2 ^ (j % 64)))
theorem wid_lt {j : Nat} (h : j < n) : j / 64 < wid n := by unfold wid; omega
def Jr7 (n : Nat) (M : List (List Nat)) (i j : Int) : Bool := Jv2 n i && Jv2 n j && bitM M i.toNat j.toNat
structure RowsAt (w : World) (bc n : Nat) (As : List (Option Addr × Nat)) (M : List (List Nat)) : Prop where
 blk : Blk w bc (As.map fun x => Value.slice x.1 (wid n) x.2) 242
 nA : As.length = n
 nM : M.length = n
 row : ∀ (i : Nat) (x : Option Addr × Nat) (ws : List Nat), As[i]? = some x → M[i]? = some ws → OwnS w 174 1 x.1 (wid n) x.2 (ws.map U) ∧ WOk ws ∧ ws.length = wid n
def Qd5 (bc : Nat) (As : List (Option Addr × Nat)) : List Nat := bc :: As.flatMap fun x => Ja1 x.1
theorem RowsAt.keep {w' : World} {bc : Nat} {As : List (Option Addr × Nat)} (h : RowsAt w bc n As M) (hk : ∀ b, b ∈ Qd5 bc As → w'.heap[b]? = w.heap[b]?) : RowsAt w' bc n As M :=
 ⟨by unfold Blk; rw [hk bc (by simp [Qd5])]; exact h.blk, h.nA, h.nM, fun i x ws h1 h2 => ⟨(h.row i x ws h1 h2).1.keep (fun b hb => hk b (by
  unfold Qd5
  refine List.mem_cons_of_mem _ (List.mem_flatMap.2 ⟨x, List.mem_of_getElem? h1, hb⟩))), (h.row i x ws h1 h2).2⟩⟩
theorem RowsAt.lt {bc : Nat} {As : List (Option Addr × Nat)} (h : RowsAt w bc n As M) : ∀ b, b ∈ Qd5 bc As → b < w.heap.size := by
 intro b hb
 rcases List.mem_cons.1 hb with rfl | hb
 ·exact h.blk.lt
 ·obtain ⟨x, hx, hb⟩ := List.mem_flatMap.1 hb
  obtain ⟨i, hi⟩ := List.getElem?_of_mem hx
  have hlt : i < M.length := by rw [h.nM, ← h.nA]; exact (List.getElem?_eq_some_iff.1 hi).1
  exact (h.row i x M[i] hi (List.getElem?_eq_getElem hlt)).1.lt b hb
end
end
section
variable {w : World}
abbrev encP (x : Nat × Nat) : List Value := [I (x.1 : Int), I (x.2 : Int)]
structure SeqP (w : World) (v : Value) (Fp : List Nat) (xs : List (Nat × Nat)) : Prop where
 is : ∃ f lb, v = .func (.func f) #[] ⟨lb⟩ ∧ Iter Tryz.prog f lb Fp encP xs w
theorem SeqP.kp {w w' : World} {v : Value} {Fp : List Nat} {xs : List (Nat × Nat)} (h : SeqP w v Fp xs) {S : List Nat} (hk : Kp S w w') (hd : ∀ b, b ∈ Fp → b ∉ S) : SeqP w' v Fp xs := by
 obtain ⟨f, lb, h1, h2⟩ := h.is
 exact ⟨f, lb, h1, h2.kp hk.size (fun b hb => hk.at_ b (h2.1 b hb) (hd b hb))⟩
theorem SeqP.lt {v : Value} {Fp : List Nat} {xs : List (Nat × Nat)} (h : SeqP w v Fp xs) : ∀ b, b ∈ Fp → b < w.heap.size := by
 obtain ⟨f, lb, h1, h2⟩ := h.is
 exact h2.1
end
section
variable {w : World}
section
variable {p n : Nat} {bs : List Nat} {M : List (List Nat)} {ad : Option Addr} {cap : Nat}
def orRow (a b : List Nat) : List Nat := updW (· ||| ·) a b b.length
def Jq4 (n : Nat) (M : List (List Nat)) (k : Nat) (m : Nat) : List (List Nat) := (List.range m).foldl (fun T i => if bitM T i k then T.set i (orRow (T.getD i []) (T.getD k [])) else T) M
def Jg9 (n : Nat) (M : List (List Nat)) (m : Nat) : List (List Nat) := (List.range m).foldl (fun T k => Jq4 n T k n) M
def Ql0 (n : Nat) (M : List (List Nat)) : List (List Nat) := Jg9 n M n
theorem Qn8 (n : Nat) (M : List (List Nat)) (k m : Nat) : Jq4 n M k (m + 1) = if bitM (Jq4 n M k m) m k then (Jq4 n M k m).set m (orRow ((Jq4 n M k m).getD m []) ((Jq4 n M k m).getD k [])) else Jq4 n M k m := by
 unfold Jq4; rw [List.range_succ, List.foldl_append]; rfl
theorem Jr8 (n : Nat) (M : List (List Nat)) (m : Nat) : Jg9 n M (m + 1) = Jq4 n (Jg9 n M m) m n := by
 unfold Jg9; rw [List.range_succ, List.foldl_append]; rfl
theorem set_self {M : List (List Nat)} {i : Nat} {ws : List Nat} (h : M[i]? = some ws) : M.set i ws = M := by
 apply List.ext_getElem?
 intro j
 rw [List.getElem?_set]
 split
 ·rename_i e; subst e
  split
  ·exact h.symm
  ·rename_i hl; rw [List.getElem?_eq_none oM]
 ·rfl
end
end
end Go.Vc
