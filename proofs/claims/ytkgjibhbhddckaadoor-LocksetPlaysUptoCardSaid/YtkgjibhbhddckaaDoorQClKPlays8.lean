/- bits: the lowest bit, next, there, check. -/
import Derived.Test.YtkgjibhbhddckaaDoorQClKPlays7
import Derived.Test.YtkgjibhbhddckaaDoorChecked
namespace Go.Vc
open Go Go.Proofs
set_option maxRecDepth 10000
variable {w : World}

/-- the table that TrailingZeros64 reads -/
def TabW (w : World) : Prop := ∀ i z : Nat, dbt[i]? = some z → w.cell? ⟨0, i, none⟩ = some (.int .u8 (z : Int))
theorem TabW.heap {w w' : World} (h : TabW w) (hk : w'.heap[0]? = w.heap[0]?) : TabW w' := fun i z hz => by
  rw [← h i z hz]; exact World.cell?_of_block hk
theorem TabW.lt (h : TabW w) : 0 < w.heap.size := by
  have := h 0 0 rfl
  unfold World.cell? at this
  cases hb : w.heap[0]? with
  | none => simp [hb] at this
  | some o => exact (Array.getElem?_eq_some_iff.1 hb).1
theorem TabW.kp {w w' : World} (h : TabW w) {S : List Nat} (hk : Kp S w w') (hS : 0 ∉ S) : TabW w' := h.heap (hk.at_ _ h.lt hS)
theorem TabW.sm {w w' : World} (h : TabW w) (hs : Sm w w') : TabW w' := h.heap (by rw [hs.heap])
theorem TabW.upd {w w' : World} (h : TabW w) {b : Nat} {o : Obj} (hu : Upd w b o w') (hb : b ≠ 0) : TabW w' := h.heap (hu.other _ (Ne.symm hb))
theorem TabW.ne (h : TabW w) {b : Nat} {L : List Value} {T : TypeId} (hb : Blk w b L T) (hL : ∀ z : Nat, L.head? ≠ some (.int .u8 (z : Int))) : b ≠ 0 := by
  rintro rfl
  have h0 := h 0 0 rfl
  unfold Blk at hb
  simp only [World.cell?, hb] at h0
  refine hL 0 ?_
  cases L with
  | nil => simp at h0
  | cons v l => simpa using h0

theorem tz_ret (hT : TabW w) {x i : Nat} (hx : x < 2 ^ 64) (hi : i < 64) (h1 : x.testBit i = true) (h0 : ∀ j, j < i → x.testBit j = false) : Ret Tryd.prog 103 [U x] w (fun v w' => v = I i ∧ w' = w) := by
  have hpos : 0 < x := by
    cases x with
    | zero => simp at h1
    | succ n => omega
  have hlow := low_bit hx hi h1 h0
  refine enter Tryd.call103 Tryd.func103 rfl rfl rfl rfl ?_
  (repeat first|refine zA ?_|refine zB ?_|refine zg ?_|refine zo rfl rfl trivial ?_|refine zn ?_)
  refine r_no rfl ?_ ?_
  · simp; omega
  (repeat first|refine zA ?_|refine zg ?_|refine zk ?_)
  have e1 : IntKind.u64.wrap (0 - (x : Int)) = ((2 ^ 64 - x : Nat) : Int) := by rw [wrapU]; omega
  have e2 : ibits .and .u64 (x : Int) (IntKind.u64.wrap (0 - (x : Int))) = ((2 ^ i : Nat) : Int) := by
    rw [e1, ibits_and hx (by omega), hlow]
  have e3 : IntKind.u64.wrap (ibits .and .u64 (x : Int) (IntKind.u64.wrap (0 - (x : Int))) * 285870213051353865) = ((2 ^ i * 285870213051353865 % 18446744073709551616 : Nat) : Int) := by
    rw [e2, wrapU]; generalize 2 ^ i = z; omega
  have e4 : Int.fdiv (IntKind.u64.wrap (ibits .and .u64 (x : Int) (IntKind.u64.wrap (0 - (x : Int))) * 285870213051353865)) (2 ^ (min 58 64)) = (((2 ^ i * 285870213051353865 % 18446744073709551616) >>> 58 : Nat) : Int) := by
    rw [e3]; exact shrU (by omega)
  have e5 := dbt_lt i hi
  refine o_run rfl rfl ?_ ?_
  · show AllP [0 ≤ Int.fdiv (IntKind.u64.wrap (ibits .and .u64 (x : Int) (IntKind.u64.wrap (0 - (x : Int))) * 285870213051353865)) (2 ^ (min 58 64)) ∧ Int.fdiv (IntKind.u64.wrap (ibits .and .u64 (x : Int) (IntKind.u64.wrap (0 - (x : Int))) * 285870213051353865)) (2 ^ (min 58 64)) < ((64 : Nat) : Int), (0 : Int) ≤ 58]
    rw [e4]
    generalize (2 ^ i * 285870213051353865 % 18446744073709551616) >>> 58 = z at e5
    exact ⟨⟨Int.natCast_nonneg _, Int.ofNat_lt.2 e5⟩, (by omega : (0 : Int) ≤ 58)⟩
  refine o_loadc (v := .int .u8 (i : Int)) rfl ?_ rfl rfl rfl rfl ?_
  · show w.cell? ⟨0, 0 + (Int.fdiv (IntKind.u64.wrap (ibits .and .u64 (x : Int) (IntKind.u64.wrap (0 - (x : Int))) * 285870213051353865)) (2 ^ (min 58 64))).toNat, none⟩ = _
    rw [e4, Int.toNat_natCast, Nat.zero_add]
    exact hT _ _ (dbt_ok i hi)
  (repeat first|refine zo rfl rfl (by first|exact trivial|(simp only[AllP];omega)) ?_|refine zn ?_|refine zr ?_)
  exact ⟨_, rfl, rfl, rfl⟩

/-! ### next -/
/-- the word's value is read as this -/
theorem mask_bits {x n i : Nat} (hx : x < 2 ^ 64) (hn : n < 64) (hi : i < 64) : (x &&& (2 ^ 64 - 2 ^ n)).testBit i = (x.testBit i && decide (n ≤ i)) := by
  rw [Nat.testBit_and]
  have h1 : 2 ^ 64 - 2 ^ n = (2 ^ (64 - n) - 1) * 2 ^ n := by
    rw [Nat.sub_mul, ← Nat.pow_add, Nat.one_mul]; congr 2; omega
  rw [h1, Nat.mul_comm, Nat.testBit_two_pow_mul, Nat.testBit_two_pow_sub_one]
  by_cases h : n ≤ i
  · have : i - n < 64 - n := by omega
    simp [h, this]
  · simp [h]
theorem least_bit {x : Nat} (hx : x < 2 ^ 64) (h0 : x ≠ 0) : ∃ i, i < 64 ∧ x.testBit i = true ∧ ∀ j, j < i → x.testBit j = false := by
  have hb : ∃ i, x.testBit i = true := Nat.exists_testBit_of_ne_zero h0
  have key : ∀ i, x.testBit i = true → ∃ i, x.testBit i = true ∧ ∀ j, j < i → x.testBit j = false := by
    intro i
    induction i using Nat.strongRecOn with
    | _ i ih =>
      intro hi
      by_cases h : ∃ j, j < i ∧ x.testBit j = true
      · obtain ⟨j, hj, hb⟩ := h; exact ih j hj hb
      · exact ⟨i, hi, fun j hj => by
          cases hb : x.testBit j with
          | false => rfl
          | true => exact absurd ⟨j, hj, hb⟩ h⟩
  obtain ⟨i, hi⟩ := hb
  obtain ⟨i, h1, h2⟩ := key i hi
  refine ⟨i, ?_, h1, h2⟩
  apply Classical.byContradiction
  intro hge
  have : x < 2 ^ i := Nat.lt_of_lt_of_le hx (Nat.pow_le_pow_right (by omega) (by omega))
  rw [Nat.testBit_lt_two_pow this] at h1; cases h1
theorem shl_all {n : Nat} (hn : n < 64) : IntKind.u64.wrap (18446744073709551615 * 2 ^ (min n 64)) = ((2 ^ 64 - 2 ^ n : Nat) : Int) := by
  have hp : 2 ^ n < 2 ^ 64 := Nat.pow_lt_pow_right (by omega) hn
  have hp1 : 0 < 2 ^ n := Nat.two_pow_pos n
  rw [wrapU, Nat.min_eq_left (by omega)]
  have h2 : ((2 : Int) ^ n) = ((2 ^ n : Nat) : Int) := by simp
  rw [h2]
  generalize 2 ^ n = z at hp hp1 ⊢
  omega

/-- words that are read: a slice's header and its cells -/
structure RdW (w : World) (ad : Option Addr) (ws : List Nat) : Prop where
  read : ReadS w ad (ws.map U)
  ok : WOk ws
  len : ws.length ≤ 140737488355328
theorem RdW.kp {w w' : World} {ad : Option Addr} {ws : List Nat} (h : RdW w ad ws) {S : List Nat} (hk : Kp S w w') (hd : ∀ b, b ∈ blkOf ad → b ∉ S) : RdW w' ad ws := ⟨h.read.kp hk hd, h.ok, h.len⟩

theorem next_ret (hT : TabW w) {ad : Option Addr} {ws : List Nat} {cap : Nat} (h : RdW w ad ws) {n : Int} (hn : -9223372036854775808 ≤ n ∧ n ≤ 9223372036854775807) :
    Ret Tryd.prog 96 [.slice ad ws.length cap, I n] w (fun v w' => v = I (nxI ws n) ∧ w' = w) := by
  obtain ⟨m, hm⟩ : ∃ m : Nat, max n 0 = (m : Int) := ⟨n.toNat, by omega⟩
  have hmn : n.toNat = m := by omega
  have hlen := h.len
  refine enter Tryd.call96 Tryd.func96 rfl rfl rfl rfl ?_
  (repeat first|refine zA ?_|refine zB ?_|refine zg ?_|refine zo rfl rfl (by first|exact trivial|(simp(discharger:=omega)only[AllP,cA,cB];omega)) ?_|refine zn ?_|refine zb ?_)
  refine r_loop (α := Nat) [0, 1, 5] (fun a => [.slice ad ws.length cap, I m, I a]) (fun a w' => w' = w ∧ m / 64 ≤ a ∧ ∀ j, m ≤ j → j < 64 * a → bit ws j = false) (fun a => ws.length - a) (m / 64) ?_ ⟨rfl, Nat.le_refl _, fun j h1 h2 => by omega⟩ ?_
  · show [.slice ad ws.length cap, I (max n 0), I (Int.tdiv (max n 0) 64)] = _
    rw [hm, tdiv64]
  rintro a e w' ⟨rfl, ha, hbits⟩
  (repeat first|refine zA ?_|refine zB ?_|refine zg ?_|refine zo rfl rfl trivial ?_|refine zn ?_)
  refine r_if rfl (fun hlt => ?_) (fun hge => ?_)
  rotate_left
  · -- there is none
    (repeat first|refine zA ?_|refine zg ?_|refine zo rfl rfl trivial ?_|refine zn ?_|refine ze rfl ?_|refine zr ?_)
    refine ⟨_, rfl, ?_, rfl⟩
    have : nxt ws n.toNat = none := nxt_none fun j hj => by
      cases hb : bit ws j with
      | false => rfl
      | true => have := bit_lt hb; have := hbits j (by omega) (by omega); rw [hb] at this; cases this
    simp only [nxI, this]
  have hlt' : a < ws.length := by omega
  (repeat first|refine zA ?_|refine zC ?_|refine zg ?_|refine zb ?_|refine zk ?_)
  obtain ⟨b, off, rfl, hb, hcell⟩ := h.read.at_ (by simp; omega)
  have hwa : ws[a]? = some (ws.getD a 0) := by simp [List.getD_eq_getElem?_getD, hlt']
  have hxok : ws.getD a 0 < 2 ^ 64 := h.ok.getD a
  have hc := hcell a (U (ws.getD a 0)) (by simp [hlt'])
  (repeat refine zo rfl rfl (by first|exact trivial|(simp only[AllP];omega)) ?_)
  refine o_loadc rfl hc rfl rfl rfl rfl ?_
  (repeat first|refine zA ?_|refine zB ?_|refine zg ?_|refine zo rfl rfl (by first|exact trivial|(simp(discharger:=omega)only[AllP,cA,cB];omega)) ?_|refine zn ?_)
  -- the word that is looked at
  refine r_cut (α := Unit) [0, 1, 5, 6] (fun _ => [.slice (some ⟨b, off, none⟩) ws.length cap, I m, I a, U (if a = m / 64 then ws.getD a 0 &&& (2 ^ 64 - 2 ^ (m % 64)) else ws.getD a 0)]) (fun _ w => w = w') ?_ ?_
  · refine r_if (p := (a : Int) = Int.tdiv (m : Int) 64) rfl (fun heq => ?_) (fun hne => ?_)
    · have heq' : a = m / 64 := by rw [tdiv64] at heq; omega
      (repeat first|refine zg ?_|refine zo rfl rfl (by first|exact trivial|(simp(discharger:=omega)only[AllP,cA,cB];omega)) ?_|refine zn ?_)
      have e6 : ibits .and .u64 (ws.getD a 0 : Int) (IntKind.u64.wrap (18446744073709551615 * 2 ^ (min (Int.tmod (m : Int) 64).toNat 64))) = ((ws.getD a 0 &&& (2 ^ 64 - 2 ^ (m % 64)) : Nat) : Int) := by
        rw [tmod64, Int.toNat_natCast, shl_all (by omega), ibits_and hxok (by have := Nat.two_pow_pos (m % 64); omega)]
      exact ⟨(), by rw [if_pos heq']; exact congrArg (fun z => [_, _, _, Value.int .u64 z]) e6, rfl⟩
    · have hne' : a ≠ m / 64 := by rw [tdiv64] at hne; omega
      (repeat refine zk ?_)
      exact ⟨(), by rw [if_neg hne']; rfl, rfl⟩
  rintro ⟨⟩ e w'' rfl
  have hxlt : (if a = m / 64 then ws.getD a 0 &&& (2 ^ 64 - 2 ^ (m % 64)) else ws.getD a 0) < 2 ^ 64 := by
    split
    · exact Nat.lt_of_le_of_lt Nat.and_le_left hxok
    · exact hxok
  have hxb : ∀ i, i < 64 → (if a = m / 64 then ws.getD a 0 &&& (2 ^ 64 - 2 ^ (m % 64)) else ws.getD a 0).testBit i = (decide (m ≤ 64 * a + i) && bit ws (64 * a + i)) := by
    intro i hi
    have hbit : bit ws (64 * a + i) = (ws.getD a 0).testBit i := by
      unfold bit; congr 1
      · congr 1; omega
      · omega
    rw [hbit]
    split
    · rw [mask_bits hxok (by omega) hi, Bool.and_comm]; congr 1; rw [decide_eq_decide]; omega
    · have : m ≤ 64 * a + i := by omega
      simp [this]
  generalize (if a = m / 64 then ws.getD a 0 &&& (2 ^ 64 - 2 ^ (m % 64)) else ws.getD a 0) = x at hxlt hxb ⊢
  (repeat first|refine zA ?_|refine zg ?_|refine zo rfl rfl trivial ?_|refine zn ?_)
  refine r_ifn (p := (x : Int) = 0) rfl (fun hx0 => ?_) (fun hx0 => ?_)
  · -- here it is
    obtain ⟨i, hi, h1, h0⟩ := least_bit hxlt (by omega)
    (repeat first|refine zA ?_|refine zg ?_|refine zo rfl rfl (by first|exact trivial|(simp only[AllP];omega)) ?_)
    refine o_call (tz_ret hT hxlt hi h1 h0) rfl rfl rfl ?_
    rintro v w2 ⟨rfl, rfl⟩
    (repeat first|refine zo rfl rfl (by first|exact trivial|(simp only[AllP];omega)) ?_|refine zn ?_|refine zr ?_)
    refine ⟨_, rfl, ?_, rfl⟩
    have hb1 := hxb i hi
    rw [h1] at hb1
    have hb2 : m ≤ 64 * a + i ∧ bit ws (64 * a + i) = true := by simpa using hb1.symm
    have : nxt ws n.toNat = some (64 * a + i) := by
      rw [hmn]
      refine nxt_some hb2.1 hb2.2 fun j hj1 hj2 => ?_
      by_cases hj : j < 64 * a
      · exact hbits j hj1 hj
      · have hb3 := hxb (j - 64 * a) (by omega)
        rw [h0 _ (by omega)] at hb3
        have e1 : 64 * a + (j - 64 * a) = j := by omega
        rw [e1] at hb3
        simpa [hj1] using hb3.symm
    simp only [nxI, this]
    push_cast; rfl
  · have hx0' : x = 0 := by omega
    subst hx0'
    (repeat first|refine zg ?_|refine zo rfl rfl (by first|exact trivial|(simp only[AllP];omega)) ?_|refine zn ?_|refine zk ?_)
    refine ⟨a + 1, rfl, ⟨rfl, by omega, fun j hj1 hj2 => ?_⟩, by omega⟩
    by_cases hj : j < 64 * a
    · exact hbits j hj1 hj
    · have hb3 := hxb (j - 64 * a) (by omega)
      have e1 : 64 * a + (j - 64 * a) = j := by omega
      rw [e1, Nat.zero_testBit] at hb3
      simpa [hj1] using hb3.symm
end Go.Vc
/- bits: a set in memory; there, check, Next, Has, trim, Put. -/
namespace Go.Vc
open Go Go.Proofs
set_option maxRecDepth 10000
variable {w : World}

/-- a set at p: its words, where they lie -/
structure SetAt (w : World) (p : Nat) (ws : List Nat) (ad : Option Addr) (cap : Nat) : Prop where
  hdr : Blk w p [B true, .slice ad ws.length cap] 150
  own : OwnS w 151 1 ad ws.length cap (ws.map U)
  ok : WOk ws
  len : ws.length ≤ 16384
  far : 0 ∉ p :: blkOf ad
theorem SetAt.rd {p : Nat} {ws : List Nat} {ad : Option Addr} {cap : Nat} (h : SetAt w p ws ad cap) : RdW w ad ws := ⟨h.own.read, h.ok, by have := h.len; omega⟩
theorem SetAt.p_ad {p : Nat} {ws : List Nat} {ad : Option Addr} {cap : Nat} (h : SetAt w p ws ad cap) : p ∉ blkOf ad := by
  intro hb
  have h1 := h.hdr; have h2 := h.own.2
  cases ad with
  | none => simp [blkOf] at hb
  | some ad =>
    simp [blkOf] at hb; subst hb
    obtain ⟨_, _, _, _, junk, h5, _⟩ := h2
    unfold Blk at h1 h5; rw [h1] at h5; simp at h5
theorem SetAt.kp {w w' : World} {p : Nat} {ws : List Nat} {ad : Option Addr} {cap : Nat} (h : SetAt w p ws ad cap) {S : List Nat} (hk : Kp S w w') (hd : ∀ b, b ∈ p :: blkOf ad → b ∉ S) : SetAt w' p ws ad cap :=
  ⟨hk.blk (hd p (by simp)) h.hdr, h.own.kp hk (fun b hb => hd b (by simp [hb])), h.ok, h.len, h.far⟩
theorem SetAt.sm {w w' : World} {p : Nat} {ws : List Nat} {ad : Option Addr} {cap : Nat} (h : SetAt w p ws ad cap) (hs : Sm w w') : SetAt w' p ws ad cap := h.kp (hs.kp []) (by simp)
theorem SetAt.lt {p : Nat} {ws : List Nat} {ad : Option Addr} {cap : Nat} (h : SetAt w p ws ad cap) : ∀ b, b ∈ p :: blkOf ad → b < w.heap.size := by
  intro b hb
  rcases List.mem_cons.1 hb with rfl | hb
  · exact h.hdr.lt
  · exact h.own.lt b hb
theorem there_ret {p : Nat} {ws : List Nat} {ad : Option Addr} {cap : Nat} (h : SetAt w p ws ad cap) : Ret Tryd.prog 80 [ptr p] w (fun v w' => v = .bool true ∧ w' = w) := by
  refine enter Tryd.call80 Tryd.func80 rfl rfl rfl rfl ?_
  (repeat first|refine zA ?_|refine zg ?_|refine zo rfl rfl trivial ?_|refine zn ?_|refine zT rfl rfl rfl ?_)
  refine o_load rfl h.hdr rfl rfl rfl rfl rfl ?_
  (repeat first|refine zo rfl rfl trivial ?_|refine zn ?_|refine zr ?_)
  exact ⟨_, rfl, rfl, rfl⟩
theorem there_nil : Ret Tryd.prog 80 [.pointer none] w (fun v w' => v = .bool false ∧ w' = w) := by
  refine enter Tryd.call80 Tryd.func80 rfl rfl rfl rfl ?_
  (repeat first|refine zA ?_|refine zg ?_|refine zo rfl rfl trivial ?_|refine zn ?_|refine zr ?_|refine zU rfl rfl rfl ?_)
  exact ⟨_, rfl, rfl, rfl⟩

def chk (n : Int) : Int := if 0 ≤ n ∧ n < 1048576 then 0 else 2
theorem check_ret {p : Nat} {ws : List Nat} {ad : Option Addr} {cap : Nat} (h : SetAt w p ws ad cap) (n : Int) : Ret Tryd.prog 66 [ptr p, I n] w (fun v w' => v = I (chk n) ∧ w' = w) := by
  refine enter Tryd.call66 Tryd.func66 rfl rfl rfl rfl ?_
  (repeat first|refine zA ?_|refine zC ?_|refine zg ?_|refine zo rfl rfl trivial ?_|refine zn ?_|refine zb ?_)
  refine o_call (there_ret h) rfl rfl rfl ?_
  rintro v w' ⟨rfl, rfl⟩
  (repeat first|refine zA ?_|refine zg ?_|refine zo rfl rfl trivial ?_|refine zn ?_|refine zf rfl ?_)
  try refine r_no rfl rfl ?_
  refine o_bool [0] [ptr p] 9 (decide (n < 0 ∨ 1048576 ≤ n)) (fun w => w = w') ?_ ?_
  · refine o_split 2 false rfl rfl rfl (fun hb => ?_) (fun hb => ?_)
    · have hb' : n < 0 := by simpa using hb
      (repeat first|refine zo rfl rfl trivial ?_|refine zn ?_)
      exact ⟨rfl, ⟨_, rfl, by simp [hb']⟩, rfl⟩
    · have hb' : ¬ n < 0 := by simpa using hb
      (repeat first|refine zo rfl rfl trivial ?_|refine zn ?_)
      exact ⟨rfl, ⟨_, rfl, by simp [hb']⟩, rfl⟩
  rintro e w' rfl
  refine r_if rfl (fun hc => ?_) (fun hc => ?_)
  · (repeat first|refine zA ?_|refine zg ?_|refine zo rfl rfl trivial ?_|refine zn ?_|refine zr ?_)
    exact ⟨_, rfl, by unfold chk; rw [if_neg (by omega)], rfl⟩
  · (repeat first|refine zA ?_|refine zg ?_|refine zo rfl rfl trivial ?_|refine zn ?_|refine zr ?_|refine zk ?_)
    exact ⟨_, rfl, by unfold chk; rw [if_pos (by omega)], rfl⟩
def nextV (ws : List Nat) (n : Int) : Value := .tuple #[I (max (nxI ws n) 0), .bool (decide (0 ≤ nxI ws n))]
def hasB (ws : List Nat) (n : Int) : Bool := decide (0 ≤ n) && bit ws n.toNat
end Go.Vc
