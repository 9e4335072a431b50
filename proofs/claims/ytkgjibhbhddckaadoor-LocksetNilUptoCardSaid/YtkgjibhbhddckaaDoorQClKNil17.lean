/- bits: OnesCount64, Len; the law's small functions. -/
import Derived.Test.YtkgjibhbhddckaaDoorQClKNil15
import Derived.Test.YtkgjibhbhddckaaDoorQClKNil16
namespace Go.Vc
open Go Go.Proofs
set_option maxRecDepth 10000
variable {w : World}

theorem sum_and {s x M : Nat} (hx : x < 2 ^ 64) (hs : s ≤ 64) (hM : M + M < 2 ^ 64) :
    IntKind.u64.wrap (ibits .and .u64 (Int.fdiv (x : Int) (2 ^ (min s 64))) (M : Int) + ibits .and .u64 (x : Int) (M : Int)) = ((((x >>> s) &&& M) + (x &&& M) : Nat) : Int) := by
  have h1 : x >>> s < 2 ^ 64 := Nat.lt_of_le_of_lt (by rw [Nat.shiftRight_eq_div_pow]; exact Nat.div_le_self _ _) hx
  have h2 : (x >>> s) &&& M ≤ M := Nat.and_le_right
  have h3 : x &&& M ≤ M := Nat.and_le_right
  rw [shrU hs, ibits_and h1 (by omega), ibits_and hx (by omega), wrapU]
  generalize (x >>> s) &&& M = a at h2
  generalize x &&& M = b at h3
  omega
theorem mask85 : mask 85 8 = 6148914691236517205 := by decide
theorem mask51 : mask 51 8 = 3689348814741910323 := by decide
theorem mask15 : mask 15 8 = 1085102592571150095 := by decide
theorem and127 {n : Nat} (h : n < 2 ^ 63) : ibits .and .i64 (n : Int) 127 = ((n % 128 : Nat) : Int) := by
  show IntKind.i64.wrap ((BitVec.ofInt 64 (n : Int) &&& BitVec.ofInt 64 127).toNat : Int) = _
  rw [BitVec.toNat_and, bvU n (by omega)]
  have e1 : (BitVec.ofInt 64 127).toNat = 2 ^ 7 - 1 := by decide
  rw [e1, Nat.and_two_pow_sub_one_eq_mod, IntKind.wrap_i64]
  omega
theorem ones_ret {x : Nat} (hx : x < 2 ^ 64) : Ret Tryd.prog 93 [U x] w (fun v w' => v = I (pop x) ∧ w' = w) := by
  obtain ⟨x3, h3, hb1, hb2, hres, hb3, hle⟩ := pop_fin x
  have hs1 : s1 1 85 8 x ≤ 2 * 6148914691236517205 := by
    unfold s1; rw [mask85]
    have := Nat.and_le_right (n := x >>> 1) (m := 6148914691236517205); have := Nat.and_le_right (n := x) (m := 6148914691236517205); omega
  have hs2 : s1 2 51 8 (s1 1 85 8 x) ≤ 2 * 3689348814741910323 := by
    unfold s1; rw [mask51]
    have := Nat.and_le_right (n := (((x >>> 1) &&& mask 85 8) + (x &&& mask 85 8)) >>> 2) (m := 3689348814741910323); have := Nat.and_le_right (n := (((x >>> 1) &&& mask 85 8) + (x &&& mask 85 8))) (m := 3689348814741910323); omega
  refine enter Tryd.call93 Tryd.func93 rfl rfl rfl rfl ?_
  refine r_seq ?_
  refine r_cut (α := Unit) [0] (fun _ => [U x]) (fun _ w1 => w = w1) ?_ ?_
  · (repeat first|refine zA ?_|refine zB ?_|refine zC ?_|refine zD ?_|refine zE ?_|refine zg ?_|refine zo rfl rfl (by first|exact trivial|(simp only[AllP];omega)|(simp(discharger:=omega)only[AllP,cA,cB];omega)|(simp only[AllP,cC,cD,cE,cF,cG];omega)) ?_|refine zn ?_|refine zb ?_|refine ze rfl ?_|refine zr ?_|refine zk ?_|refine zT rfl rfl rfl ?_|refine zU rfl rfl rfl ?_|refine zV rfl rfl rfl ?_|refine zf rfl ?_|refine zt rfl ?_)
    exact ⟨(), rfl, rfl⟩
  rintro ⟨⟩ e w1 rfl
  have q1 := sum_and (s := 1) hx (by omega) (M := 6148914691236517205) (by decide)
  have q1' : ((x >>> 1) &&& 6148914691236517205) + (x &&& 6148914691236517205) = s1 1 85 8 x := by unfold s1; rw [mask85]
  rw [q1'] at q1
  refine r_seq ?_
  refine r_cut (α := Unit) [0] (fun _ => [U (s1 1 85 8 x)]) (fun _ w1 => w = w1) ?_ ?_
  · (repeat first|refine zA ?_|refine zB ?_|refine zC ?_|refine zD ?_|refine zE ?_|refine zg ?_|refine zo rfl rfl (by first|exact trivial|(simp only[AllP];omega)|(simp(discharger:=omega)only[AllP,cA,cB];omega)|(simp only[AllP,cC,cD,cE,cF,cG];omega)) ?_|refine zn ?_|refine zb ?_|refine ze rfl ?_|refine zr ?_|refine zk ?_|refine zT rfl rfl rfl ?_|refine zU rfl rfl rfl ?_|refine zV rfl rfl rfl ?_|refine zf rfl ?_|refine zt rfl ?_)
    refine ⟨(), ?_, rfl⟩
    exact congrArg (fun z => [Value.int .u64 z]) q1
  rintro ⟨⟩ e w1 rfl
  have q2 := sum_and (x := s1 1 85 8 x) (s := 2) (by omega) (by omega) (M := 3689348814741910323) (by decide)
  have q2' : ((s1 1 85 8 x >>> 2) &&& 3689348814741910323) + (s1 1 85 8 x &&& 3689348814741910323) = s1 2 51 8 (s1 1 85 8 x) := by
    conv => rhs; unfold s1
    rw [mask51]; rfl
  rw [q2'] at q2
  refine r_seq ?_
  refine r_cut (α := Unit) [0] (fun _ => [U (s1 2 51 8 (s1 1 85 8 x))]) (fun _ w1 => w = w1) ?_ ?_
  · (repeat first|refine zA ?_|refine zB ?_|refine zC ?_|refine zD ?_|refine zE ?_|refine zg ?_|refine zo rfl rfl (by first|exact trivial|(simp only[AllP];omega)|(simp(discharger:=omega)only[AllP,cA,cB];omega)|(simp only[AllP,cC,cD,cE,cF,cG];omega)) ?_|refine zn ?_|refine zb ?_|refine ze rfl ?_|refine zr ?_|refine zk ?_|refine zT rfl rfl rfl ?_|refine zU rfl rfl rfl ?_|refine zV rfl rfl rfl ?_|refine zf rfl ?_|refine zt rfl ?_)
    refine ⟨(), ?_, rfl⟩
    exact congrArg (fun z => [Value.int .u64 z]) q2
  rintro ⟨⟩ e w1 rfl
  have hy : ∀ y : Nat, y < 2 ^ 63 → y >>> 4 = y / 16 := fun y _ => Nat.shiftRight_eq_div_pow y 4
  have q3 : ibits .and .u64 (IntKind.u64.wrap (Int.fdiv ((s1 2 51 8 (s1 1 85 8 x) : Nat) : Int) (2 ^ (min 4 64)) + ((s1 2 51 8 (s1 1 85 8 x) : Nat) : Int))) 1085102592571150095 = ((x3 : Nat) : Int) := by
    rw [shrU (by omega), ← h3]
    have e1 : IntKind.u64.wrap ((((s1 2 51 8 (s1 1 85 8 x)) >>> 4 : Nat) : Int) + ((s1 2 51 8 (s1 1 85 8 x) : Nat) : Int)) = (((s1 2 51 8 (s1 1 85 8 x)) >>> 4 + s1 2 51 8 (s1 1 85 8 x) : Nat) : Int) := by
      rw [wrapU, Nat.shiftRight_eq_div_pow]
      generalize s1 2 51 8 (s1 1 85 8 x) = y at hs2
      omega
    rw [e1]
    have e2 : (s1 2 51 8 (s1 1 85 8 x)) >>> 4 + s1 2 51 8 (s1 1 85 8 x) < 2 ^ 64 := by
      rw [Nat.shiftRight_eq_div_pow]
      generalize s1 2 51 8 (s1 1 85 8 x) = y at hs2
      omega
    have e3 := ibits_and e2 (b := 1085102592571150095) (by decide)
    unfold sw s3
    rw [mask15]
    exact e3
  refine r_seq ?_
  refine r_cut (α := Unit) [0] (fun _ => [U (x3)]) (fun _ w1 => w = w1) ?_ ?_
  · (repeat first|refine zA ?_|refine zB ?_|refine zC ?_|refine zD ?_|refine zE ?_|refine zg ?_|refine zo rfl rfl (by first|exact trivial|(simp only[AllP];omega)|(simp(discharger:=omega)only[AllP,cA,cB];omega)|(simp only[AllP,cC,cD,cE,cF,cG];omega)) ?_|refine zn ?_|refine zb ?_|refine ze rfl ?_|refine zr ?_|refine zk ?_|refine zT rfl rfl rfl ?_|refine zU rfl rfl rfl ?_|refine zV rfl rfl rfl ?_|refine zf rfl ?_|refine zt rfl ?_)
    refine ⟨(), ?_, rfl⟩
    exact congrArg (fun z => [Value.int .u64 z]) q3
  rintro ⟨⟩ e w1 rfl
  have q4 : ∀ (s y : Nat), s ≤ 64 → y + y / 2 ^ s < 2 ^ 64 → IntKind.u64.wrap ((y : Int) + Int.fdiv (y : Int) (2 ^ (min s 64))) = ((y + y / 2 ^ s : Nat) : Int) := by
    intro s y hs hy
    rw [shrU hs, wrapU, Nat.shiftRight_eq_div_pow]
    generalize y / 2 ^ s = z at hy
    omega
  refine r_seq ?_
  refine r_cut (α := Unit) [0] (fun _ => [U (x3 + x3 / 256)]) (fun _ w1 => w = w1) ?_ ?_
  · (repeat first|refine zA ?_|refine zB ?_|refine zC ?_|refine zD ?_|refine zE ?_|refine zg ?_|refine zo rfl rfl (by first|exact trivial|(simp only[AllP];omega)|(simp(discharger:=omega)only[AllP,cA,cB];omega)|(simp only[AllP,cC,cD,cE,cF,cG];omega)) ?_|refine zn ?_|refine zb ?_|refine ze rfl ?_|refine zr ?_|refine zk ?_|refine zT rfl rfl rfl ?_|refine zU rfl rfl rfl ?_|refine zV rfl rfl rfl ?_|refine zf rfl ?_|refine zt rfl ?_)
    refine ⟨(), ?_, rfl⟩
    exact congrArg (fun z => [Value.int .u64 z]) (q4 8 x3 (by omega) (by show x3 + x3 / 256 < _; omega))
  rintro ⟨⟩ e w1 rfl
  refine r_seq ?_
  refine r_cut (α := Unit) [0] (fun _ => [U ((x3 + x3 / 256) + (x3 + x3 / 256) / 65536)]) (fun _ w1 => w = w1) ?_ ?_
  · (repeat first|refine zA ?_|refine zB ?_|refine zC ?_|refine zD ?_|refine zE ?_|refine zg ?_|refine zo rfl rfl (by first|exact trivial|(simp only[AllP];omega)|(simp(discharger:=omega)only[AllP,cA,cB];omega)|(simp only[AllP,cC,cD,cE,cF,cG];omega)) ?_|refine zn ?_|refine zb ?_|refine ze rfl ?_|refine zr ?_|refine zk ?_|refine zT rfl rfl rfl ?_|refine zU rfl rfl rfl ?_|refine zV rfl rfl rfl ?_|refine zf rfl ?_|refine zt rfl ?_)
    refine ⟨(), ?_, rfl⟩
    exact congrArg (fun z => [Value.int .u64 z]) (q4 16 (x3 + x3 / 256) (by omega) (by show x3 + x3 / 256 + (x3 + x3 / 256) / 65536 < _; omega))
  rintro ⟨⟩ e w1 rfl
  refine r_seq ?_
  refine r_cut (α := Unit) [0] (fun _ => [U (((x3 + x3 / 256) + (x3 + x3 / 256) / 65536) + ((x3 + x3 / 256) + (x3 + x3 / 256) / 65536) / 4294967296)]) (fun _ w1 => w = w1) ?_ ?_
  · (repeat first|refine zA ?_|refine zB ?_|refine zC ?_|refine zD ?_|refine zE ?_|refine zg ?_|refine zo rfl rfl (by first|exact trivial|(simp only[AllP];omega)|(simp(discharger:=omega)only[AllP,cA,cB];omega)|(simp only[AllP,cC,cD,cE,cF,cG];omega)) ?_|refine zn ?_|refine zb ?_|refine ze rfl ?_|refine zr ?_|refine zk ?_|refine zT rfl rfl rfl ?_|refine zU rfl rfl rfl ?_|refine zV rfl rfl rfl ?_|refine zf rfl ?_|refine zt rfl ?_)
    refine ⟨(), ?_, rfl⟩
    exact congrArg (fun z => [Value.int .u64 z]) (q4 32 ((x3 + x3 / 256) + (x3 + x3 / 256) / 65536) (by omega) (by show x3 + x3 / 256 + (x3 + x3 / 256) / 65536 + (x3 + x3 / 256 + (x3 + x3 / 256) / 65536) / 4294967296 < _; omega))
  rintro ⟨⟩ e w1 rfl
  generalize (x3 + x3 / 256) + (x3 + x3 / 256) / 65536 + ((x3 + x3 / 256) + (x3 + x3 / 256) / 65536) / 4294967296 = y at hres hb3 ⊢
  (repeat first|refine zA ?_|refine zB ?_|refine zC ?_|refine zD ?_|refine zE ?_|refine zg ?_|refine zo rfl rfl (by first|exact trivial|(simp only[AllP];omega)|(simp(discharger:=omega)only[AllP,cA,cB];omega)|(simp only[AllP,cC,cD,cE,cF,cG];omega)) ?_|refine zn ?_|refine zb ?_|refine ze rfl ?_|refine zr ?_|refine zk ?_|refine zT rfl rfl rfl ?_|refine zU rfl rfl rfl ?_|refine zV rfl rfl rfl ?_|refine zf rfl ?_|refine zt rfl ?_)
  refine ⟨_, rfl, ?_, rfl⟩
  rw [← hres]
  exact congrArg (fun z => Value.int .i64 z) (and127 hb3)

/-! ### Len -/
def lenW (ws : List Nat) : Nat := (ws.map pop).sum
theorem lenW_snoc (l : List Nat) (x : Nat) : lenW (l ++ [x]) = lenW l + pop x := by simp [lenW]
theorem pop_le (x : Nat) : pop x ≤ 64 := by
  unfold pop popN
  have := List.length_filter_le x.testBit (List.range 64)
  simpa using this
theorem lenW_le (l : List Nat) : lenW l ≤ 64 * l.length := by
  induction l with
  | nil => simp [lenW]
  | cons x r ih => have := pop_le x; simp only [lenW, List.map_cons, List.sum_cons, List.length_cons] at *; omega
theorem elems_snoc (l : List Nat) (x : Nat) : (elems (l ++ [x])).length = (elems l).length + pop x := by
  unfold elems
  have e1 : 64 * (l ++ [x]).length = 64 * l.length + 64 := by simp; omega
  rw [e1, List.range_add, List.filter_append, List.length_append]
  congr 1
  · congr 1
    apply List.filter_congr
    intro j hj
    have hj : j < 64 * l.length := by simpa using hj
    unfold bit
    rw [List.getD_eq_getElem?_getD, List.getD_eq_getElem?_getD, List.getElem?_append_left (by omega)]
  · rw [List.filter_map, List.length_map]
    unfold pop popN
    congr 1
    apply List.filter_congr
    intro j hj
    have hj : j < 64 := by simpa using hj
    simp only [Function.comp]
    unfold bit
    have h1 : (64 * l.length + j) / 64 = l.length := by omega
    have h2 : (64 * l.length + j) % 64 = j := by omega
    rw [h1, h2, List.getD_eq_getElem?_getD]; simp
theorem lenW_elems (ws : List Nat) : lenW ws = (elems ws).length := by
  have key : ∀ n, n ≤ ws.length → lenW (ws.take n) = (elems (ws.take n)).length := by
    intro n
    induction n with
    | zero => intro _; simp [lenW, elems]
    | succ n ih =>
      intro hn
      have h1 : ws.take (n + 1) = ws.take n ++ [ws[n]] := by rw [List.take_add_one, List.getElem?_eq_getElem (by omega)]; rfl
      rw [h1, lenW_snoc, elems_snoc, ih (by omega)]
  have := key ws.length (Nat.le_refl _)
  rwa [List.take_length] at this
theorem Len_ret {p : Nat} {ws : List Nat} {ad : Option Addr} {cap : Nat} (h : SetAt w p ws ad cap) :
    Ret Tryd.prog 69 [ptr p] w (fun v w' => v = I (elems ws).length ∧ w' = w) := by
  have hlen := h.len
  rw [← lenW_elems]
  refine enter Tryd.call69 Tryd.func69 rfl rfl rfl rfl ?_
  (repeat first|refine zA ?_|refine zB ?_|refine zC ?_|refine zD ?_|refine zE ?_|refine zg ?_|refine zo rfl rfl (by first|exact trivial|(simp only[AllP];omega)|(simp(discharger:=omega)only[AllP,cA,cB];omega)|(simp only[AllP,cC,cD,cE,cF,cG];omega)) ?_|refine zn ?_|refine zb ?_|refine ze rfl ?_|refine zr ?_|refine zk ?_|refine zT rfl rfl rfl ?_|refine zU rfl rfl rfl ?_|refine zV rfl rfl rfl ?_|refine zf rfl ?_|refine zt rfl ?_)
  refine o_call (there_ret h) rfl rfl rfl ?_
  rintro v w' ⟨rfl, rfl⟩
  (repeat first|refine zA ?_|refine zB ?_|refine zC ?_|refine zD ?_|refine zE ?_|refine zg ?_|refine zo rfl rfl (by first|exact trivial|(simp only[AllP];omega)|(simp(discharger:=omega)only[AllP,cA,cB];omega)|(simp only[AllP,cC,cD,cE,cF,cG];omega)) ?_|refine zn ?_|refine zb ?_|refine ze rfl ?_|refine zr ?_|refine zk ?_|refine zT rfl rfl rfl ?_|refine zU rfl rfl rfl ?_|refine zV rfl rfl rfl ?_|refine zf rfl ?_|refine zt rfl ?_)
  refine o_load rfl h.hdr rfl rfl rfl rfl rfl ?_
  (repeat first|refine zA ?_|refine zB ?_|refine zC ?_|refine zD ?_|refine zE ?_|refine zg ?_|refine zo rfl rfl (by first|exact trivial|(simp only[AllP];omega)|(simp(discharger:=omega)only[AllP,cA,cB];omega)|(simp only[AllP,cC,cD,cE,cF,cG];omega)) ?_|refine zn ?_|refine zb ?_|refine ze rfl ?_|refine zr ?_|refine zk ?_|refine zT rfl rfl rfl ?_|refine zU rfl rfl rfl ?_|refine zV rfl rfl rfl ?_|refine zf rfl ?_|refine zt rfl ?_)
  refine r_loop (α := Nat) [3, 12, 13, 14] (fun i => [I (lenW (ws.take i)), .slice ad ws.length cap, I ws.length, I i]) (fun i w1 => w' = w1 ∧ i ≤ ws.length) (fun i => ws.length - i) 0 rfl ⟨rfl, by omega⟩ ?_
  rintro i e w1 ⟨rfl, hi⟩
  (repeat first|refine zA ?_|refine zB ?_|refine zC ?_|refine zD ?_|refine zE ?_|refine zg ?_|refine zo rfl rfl (by first|exact trivial|(simp only[AllP];omega)|(simp(discharger:=omega)only[AllP,cA,cB];omega)|(simp only[AllP,cC,cD,cE,cF,cG];omega)) ?_|refine zn ?_|refine zb ?_|refine ze rfl ?_|refine zr ?_|refine zk ?_|refine zT rfl rfl rfl ?_|refine zU rfl rfl rfl ?_|refine zV rfl rfl rfl ?_|refine zf rfl ?_|refine zt rfl ?_)
  refine r_if rfl (fun hc => ?_) (fun hc => ?_)
  · have hlt : i < ws.length := by omega
    obtain ⟨b, off, rfl, _, hcell⟩ := h.own.read.at_ (by simp; omega)
    have htk : ws.take (i + 1) = ws.take i ++ [ws[i]] := by rw [List.take_add_one, List.getElem?_eq_getElem hlt]; rfl
    have hle := lenW_le (ws.take i)
    have hle2 := pop_le ws[i]
    have hlt2 : (ws.take i).length ≤ 16384 := by simp; omega
    (repeat first|refine zA ?_|refine zB ?_|refine zC ?_|refine zD ?_|refine zE ?_|refine zg ?_|refine zo rfl rfl (by first|exact trivial|(simp only[AllP];omega)|(simp(discharger:=omega)only[AllP,cA,cB];omega)|(simp only[AllP,cC,cD,cE,cF,cG];omega)) ?_|refine zn ?_|refine zb ?_|refine ze rfl ?_|refine zr ?_|refine zk ?_|refine zT rfl rfl rfl ?_|refine zU rfl rfl rfl ?_|refine zV rfl rfl rfl ?_|refine zf rfl ?_|refine zt rfl ?_)
    refine o_loadc (v := U ws[i]) rfl (hcell i _ (by simp [hlt])) rfl rfl rfl rfl ?_
    (repeat first|refine zA ?_|refine zB ?_|refine zC ?_|refine zD ?_|refine zE ?_|refine zg ?_|refine zo rfl rfl (by first|exact trivial|(simp only[AllP];omega)|(simp(discharger:=omega)only[AllP,cA,cB];omega)|(simp only[AllP,cC,cD,cE,cF,cG];omega)) ?_|refine zn ?_|refine zb ?_|refine ze rfl ?_|refine zr ?_|refine zk ?_|refine zT rfl rfl rfl ?_|refine zU rfl rfl rfl ?_|refine zV rfl rfl rfl ?_|refine zf rfl ?_|refine zt rfl ?_)
    refine o_call (ones_ret (h.ok _ (List.getElem_mem hlt))) rfl rfl rfl ?_
    rintro v w2 ⟨rfl, rfl⟩
    (repeat first|refine zA ?_|refine zB ?_|refine zC ?_|refine zD ?_|refine zE ?_|refine zg ?_|refine zo rfl rfl (by first|exact trivial|(simp only[AllP];omega)|(simp(discharger:=omega)only[AllP,cA,cB];omega)|(simp only[AllP,cC,cD,cE,cF,cG];omega)) ?_|refine zn ?_|refine zb ?_|refine ze rfl ?_|refine zr ?_|refine zk ?_|refine zT rfl rfl rfl ?_|refine zU rfl rfl rfl ?_|refine zV rfl rfl rfl ?_|refine zf rfl ?_|refine zt rfl ?_)
    refine ⟨i + 1, ?_, ⟨rfl, by omega⟩, by omega⟩
    rw [htk, lenW_snoc]; rfl
  · have : i = ws.length := by omega
    subst this
    rw [List.take_length]
    (repeat first|refine zA ?_|refine zB ?_|refine zC ?_|refine zD ?_|refine zE ?_|refine zg ?_|refine zo rfl rfl (by first|exact trivial|(simp only[AllP];omega)|(simp(discharger:=omega)only[AllP,cA,cB];omega)|(simp only[AllP,cC,cD,cE,cF,cG];omega)) ?_|refine zn ?_|refine zb ?_|refine ze rfl ?_|refine zr ?_|refine zk ?_|refine zT rfl rfl rfl ?_|refine zU rfl rfl rfl ?_|refine zV rfl rfl rfl ?_|refine zf rfl ?_|refine zt rfl ?_)
    exact ⟨_, rfl, rfl, rfl⟩
theorem Len_nil : Ret Tryd.prog 69 [.pointer none] w (fun v w' => v = I 0 ∧ w' = w) := by
  refine enter Tryd.call69 Tryd.func69 rfl rfl rfl rfl ?_
  (repeat first|refine zA ?_|refine zB ?_|refine zC ?_|refine zD ?_|refine zE ?_|refine zg ?_|refine zo rfl rfl (by first|exact trivial|(simp only[AllP];omega)|(simp(discharger:=omega)only[AllP,cA,cB];omega)|(simp only[AllP,cC,cD,cE,cF,cG];omega)) ?_|refine zn ?_|refine zb ?_|refine ze rfl ?_|refine zr ?_|refine zk ?_|refine zT rfl rfl rfl ?_|refine zU rfl rfl rfl ?_|refine zV rfl rfl rfl ?_|refine zf rfl ?_|refine zt rfl ?_)
  refine o_call there_nil rfl rfl rfl ?_
  rintro v w' ⟨rfl, rfl⟩
  (repeat first|refine zA ?_|refine zB ?_|refine zC ?_|refine zD ?_|refine zE ?_|refine zg ?_|refine zo rfl rfl (by first|exact trivial|(simp only[AllP];omega)|(simp(discharger:=omega)only[AllP,cA,cB];omega)|(simp only[AllP,cC,cD,cE,cF,cG];omega)) ?_|refine zn ?_|refine zb ?_|refine ze rfl ?_|refine zr ?_|refine zk ?_|refine zT rfl rfl rfl ?_|refine zU rfl rfl rfl ?_|refine zV rfl rfl rfl ?_|refine zf rfl ?_|refine zt rfl ?_)
  exact ⟨_, rfl, rfl, rfl⟩

/-! ### The law's small functions -/
def nearL (l : List Int) : List Int := l.map fun x => Int.tmod (Int.tmod x 1048576 + 1048576) 1048576
theorem near_ok (l : List Int) : allOk (nearL l) = true := by
  unfold allOk nearL
  rw [List.all_eq_true]
  intro x hx
  obtain ⟨y, _, rfl⟩ := List.mem_map.1 hx
  have h1 := Int.tmod_lt_of_pos y (b := 1048576) (by omega)
  have h2 := Int.tmod_lt_of_pos (-y) (b := 1048576) (by omega)
  rw [Int.neg_tmod] at h2
  have h3 := Int.tmod_lt_of_pos (Int.tmod y 1048576 + 1048576) (b := 1048576) (by omega)
  have h4 : 0 ≤ Int.tmod (Int.tmod y 1048576 + 1048576) 1048576 := Int.tmod_nonneg _ (by omega)
  simp; omega
end Go.Vc
/- bits: lives. -/
namespace Go.Vc
open Go Go.Proofs
set_option maxRecDepth 10000
variable {w : World}

theorem map_encI (l : List Nat) : l.map encI = (l.map (fun k : Nat => (k : Int))).map I := by rw [List.map_map]; rfl

end Go.Vc
