/- bits: OnesCount64, Len; the law's small functions. -/
import Derived.Test.YtkgjibhbhddckaaDoorQClKeeps11
import Derived.Test.YtkgjibhbhddckaaDoorQClKeeps12
namespace Go.Vc
open Go Go.Proofs
set_option maxRecDepth 10000
variable {w : World}

theorem sum_and {s x M : Nat} (hx : x < 2 ^ 64) (hs : s ≤ 64) (hM : M + M < 2 ^ 64) :
    IntKind.u64.wrap (ibits .and .u64 (Int.fdiv (x : Int) (2 ^ (min s 64))) (M : Int) + ibits .and .u64 (x : Int) (M : Int)) = ((((x >>> s) &&& M) + (x &&& M) : Nat) : Int) := by
  have h1 : x >>> s < 2 ^ 64 := Nat.lt_of_le_of_lt (by rw [Nat.shiftRight_eq_div_pow]; exact Nat.div_le_self _ _) hx
  have h2 : (x >>> s) &&& M ≤ M := Nat.and_le_right
  have h3 : x &&& M ≤ M := Nat.and_le_right
  rw [shrU hs, ibits_and h1 (by omega), ibits_and hx (by omega), wrapU]
  generalize (x >>> s) &&& M = a at h2
  generalize x &&& M = b at h3
  omega
theorem mask85 : mask 85 8 = 6148914691236517205 := by decide
theorem mask51 : mask 51 8 = 3689348814741910323 := by decide
theorem mask15 : mask 15 8 = 1085102592571150095 := by decide
theorem and127 {n : Nat} (h : n < 2 ^ 63) : ibits .and .i64 (n : Int) 127 = ((n % 128 : Nat) : Int) := by
  show IntKind.i64.wrap ((BitVec.ofInt 64 (n : Int) &&& BitVec.ofInt 64 127).toNat : Int) = _
  rw [BitVec.toNat_and, bvU n (by omega)]
  have e1 : (BitVec.ofInt 64 127).toNat = 2 ^ 7 - 1 := by decide
  rw [e1, Nat.and_two_pow_sub_one_eq_mod, IntKind.wrap_i64]
  omega
theorem ones_ret {x : Nat} (hx : x < 2 ^ 64) : Ret Tryd.prog 93 [U x] w (fun v w' => v = I (pop x) ∧ w' = w) := by
  obtain ⟨x3, h3, hb1, hb2, hres, hb3, hle⟩ := pop_fin x
  have hs1 : s1 1 85 8 x ≤ 2 * 6148914691236517205 := by
    unfold s1; rw [mask85]
    have := Nat.and_le_right (n := x >>> 1) (m := 6148914691236517205); have := Nat.and_le_right (n := x) (m := 6148914691236517205); omega
  have hs2 : s1 2 51 8 (s1 1 85 8 x) ≤ 2 * 3689348814741910323 := by
    unfold s1; rw [mask51]
    have := Nat.and_le_right (n := (((x >>> 1) &&& mask 85 8) + (x &&& mask 85 8)) >>> 2) (m := 3689348814741910323); have := Nat.and_le_right (n := (((x >>> 1) &&& mask 85 8) + (x &&& mask 85 8))) (m := 3689348814741910323); omega
  refine enter Tryd.call93 Tryd.func93 rfl rfl rfl rfl ?_
  refine r_seq ?_
  refine r_cut (α := Unit) [0] (fun _ => [U x]) (fun _ w1 => w = w1) ?_ ?_
  · (repeat first|refine zg ?_|refine zo rfl rfl trivial ?_|refine zn ?_)
    exact ⟨(), rfl, rfl⟩
  rintro ⟨⟩ e w1 rfl
  have q1 := sum_and (s := 1) hx (by omega) (M := 6148914691236517205) (by decide)
  have q1' : ((x >>> 1) &&& 6148914691236517205) + (x &&& 6148914691236517205) = s1 1 85 8 x := by unfold s1; rw [mask85]
  rw [q1'] at q1
  refine r_seq ?_
  refine r_cut (α := Unit) [0] (fun _ => [U (s1 1 85 8 x)]) (fun _ w1 => w = w1) ?_ ?_
  · (repeat first|refine zg ?_|refine zo rfl rfl (by first|exact trivial|(simp only[AllP];omega)) ?_|refine zn ?_)
    refine ⟨(), ?_, rfl⟩
    exact congrArg (fun z => [Value.int .u64 z]) q1
  rintro ⟨⟩ e w1 rfl
  have q2 := sum_and (x := s1 1 85 8 x) (s := 2) (by omega) (by omega) (M := 3689348814741910323) (by decide)
  have q2' : ((s1 1 85 8 x >>> 2) &&& 3689348814741910323) + (s1 1 85 8 x &&& 3689348814741910323) = s1 2 51 8 (s1 1 85 8 x) := by
    conv => rhs; unfold s1
    rw [mask51]; rfl
  rw [q2'] at q2
  refine r_seq ?_
  refine r_cut (α := Unit) [0] (fun _ => [U (s1 2 51 8 (s1 1 85 8 x))]) (fun _ w1 => w = w1) ?_ ?_
  · (repeat first|refine zg ?_|refine zo rfl rfl (by first|exact trivial|(simp only[AllP];omega)) ?_|refine zn ?_)
    refine ⟨(), ?_, rfl⟩
    exact congrArg (fun z => [Value.int .u64 z]) q2
  rintro ⟨⟩ e w1 rfl
  have hy : ∀ y : Nat, y < 2 ^ 63 → y >>> 4 = y / 16 := fun y _ => Nat.shiftRight_eq_div_pow y 4
  have q3 : ibits .and .u64 (IntKind.u64.wrap (Int.fdiv ((s1 2 51 8 (s1 1 85 8 x) : Nat) : Int) (2 ^ (min 4 64)) + ((s1 2 51 8 (s1 1 85 8 x) : Nat) : Int))) 1085102592571150095 = ((x3 : Nat) : Int) := by
    rw [shrU (by omega), ← h3]
    have e1 : IntKind.u64.wrap ((((s1 2 51 8 (s1 1 85 8 x)) >>> 4 : Nat) : Int) + ((s1 2 51 8 (s1 1 85 8 x) : Nat) : Int)) = (((s1 2 51 8 (s1 1 85 8 x)) >>> 4 + s1 2 51 8 (s1 1 85 8 x) : Nat) : Int) := by
      rw [wrapU, Nat.shiftRight_eq_div_pow]
      generalize s1 2 51 8 (s1 1 85 8 x) = y at hs2
      omega
    rw [e1]
    have e2 : (s1 2 51 8 (s1 1 85 8 x)) >>> 4 + s1 2 51 8 (s1 1 85 8 x) < 2 ^ 64 := by
      rw [Nat.shiftRight_eq_div_pow]
      generalize s1 2 51 8 (s1 1 85 8 x) = y at hs2
      omega
    have e3 := ibits_and e2 (b := 1085102592571150095) (by decide)
    unfold sw s3
    rw [mask15]
    exact e3
  refine r_seq ?_
  refine r_cut (α := Unit) [0] (fun _ => [U (x3)]) (fun _ w1 => w = w1) ?_ ?_
  · (repeat first|refine zg ?_|refine zo rfl rfl (by first|exact trivial|(simp only[AllP];omega)) ?_|refine zn ?_)
    refine ⟨(), ?_, rfl⟩
    exact congrArg (fun z => [Value.int .u64 z]) q3
  rintro ⟨⟩ e w1 rfl
  have q4 : ∀ (s y : Nat), s ≤ 64 → y + y / 2 ^ s < 2 ^ 64 → IntKind.u64.wrap ((y : Int) + Int.fdiv (y : Int) (2 ^ (min s 64))) = ((y + y / 2 ^ s : Nat) : Int) := by
    intro s y hs hy
    rw [shrU hs, wrapU, Nat.shiftRight_eq_div_pow]
    generalize y / 2 ^ s = z at hy
    omega
  refine r_seq ?_
  refine r_cut (α := Unit) [0] (fun _ => [U (x3 + x3 / 256)]) (fun _ w1 => w = w1) ?_ ?_
  · (repeat first|refine zg ?_|refine zo rfl rfl (by first|exact trivial|(simp only[AllP];omega)) ?_|refine zn ?_)
    refine ⟨(), ?_, rfl⟩
    exact congrArg (fun z => [Value.int .u64 z]) (q4 8 x3 (by omega) (by show x3 + x3 / 256 < _; omega))
  rintro ⟨⟩ e w1 rfl
  refine r_seq ?_
  refine r_cut (α := Unit) [0] (fun _ => [U ((x3 + x3 / 256) + (x3 + x3 / 256) / 65536)]) (fun _ w1 => w = w1) ?_ ?_
  · (repeat first|refine zg ?_|refine zo rfl rfl (by first|exact trivial|(simp only[AllP];omega)) ?_|refine zn ?_)
    refine ⟨(), ?_, rfl⟩
    exact congrArg (fun z => [Value.int .u64 z]) (q4 16 (x3 + x3 / 256) (by omega) (by show x3 + x3 / 256 + (x3 + x3 / 256) / 65536 < _; omega))
  rintro ⟨⟩ e w1 rfl
  refine r_seq ?_
  refine r_cut (α := Unit) [0] (fun _ => [U (((x3 + x3 / 256) + (x3 + x3 / 256) / 65536) + ((x3 + x3 / 256) + (x3 + x3 / 256) / 65536) / 4294967296)]) (fun _ w1 => w = w1) ?_ ?_
  · (repeat first|refine zg ?_|refine zo rfl rfl (by first|exact trivial|(simp only[AllP];omega)) ?_|refine zn ?_)
    refine ⟨(), ?_, rfl⟩
    exact congrArg (fun z => [Value.int .u64 z]) (q4 32 ((x3 + x3 / 256) + (x3 + x3 / 256) / 65536) (by omega) (by show x3 + x3 / 256 + (x3 + x3 / 256) / 65536 + (x3 + x3 / 256 + (x3 + x3 / 256) / 65536) / 4294967296 < _; omega))
  rintro ⟨⟩ e w1 rfl
  generalize (x3 + x3 / 256) + (x3 + x3 / 256) / 65536 + ((x3 + x3 / 256) + (x3 + x3 / 256) / 65536) / 4294967296 = y at hres hb3 ⊢
  (repeat first|refine zA ?_|refine zg ?_|refine zo rfl rfl (by first|exact trivial|(simp only[AllP];omega)) ?_|refine zn ?_|refine zr ?_)
  refine ⟨_, rfl, ?_, rfl⟩
  rw [← hres]
  exact congrArg (fun z => Value.int .i64 z) (and127 hb3)

/-! ### Len -/
def lenW (ws : List Nat) : Nat := (ws.map pop).sum
theorem lenW_snoc (l : List Nat) (x : Nat) : lenW (l ++ [x]) = lenW l + pop x := by simp [lenW]
theorem pop_le (x : Nat) : pop x ≤ 64 := by
  unfold pop popN
  have := List.length_filter_le x.testBit (List.range 64)
  simpa using this
theorem lenW_le (l : List Nat) : lenW l ≤ 64 * l.length := by
  induction l with
  | nil => simp [lenW]
  | cons x r ih => have := pop_le x; simp only [lenW, List.map_cons, List.sum_cons, List.length_cons] at *; omega
theorem elems_snoc (l : List Nat) (x : Nat) : (elems (l ++ [x])).length = (elems l).length + pop x := by
  unfold elems
  have e1 : 64 * (l ++ [x]).length = 64 * l.length + 64 := by simp; omega
  rw [e1, List.range_add, List.filter_append, List.length_append]
  congr 1
  · congr 1
    apply List.filter_congr
    intro j hj
    have hj : j < 64 * l.length := by simpa using hj
    unfold bit
    rw [List.getD_eq_getElem?_getD, List.getD_eq_getElem?_getD, List.getElem?_append_left (by omega)]
  · rw [List.filter_map, List.length_map]
    unfold pop popN
    congr 1
    apply List.filter_congr
    intro j hj
    have hj : j < 64 := by simpa using hj
    simp only [Function.comp]
    unfold bit
    have h1 : (64 * l.length + j) / 64 = l.length := by omega
    have h2 : (64 * l.length + j) % 64 = j := by omega
    rw [h1, h2, List.getD_eq_getElem?_getD]; simp
theorem lenW_elems (ws : List Nat) : lenW ws = (elems ws).length := by
  have key : ∀ n, n ≤ ws.length → lenW (ws.take n) = (elems (ws.take n)).length := by
    intro n
    induction n with
    | zero => intro _; simp [lenW, elems]
    | succ n ih =>
      intro hn
      have h1 : ws.take (n + 1) = ws.take n ++ [ws[n]] := by rw [List.take_add_one, List.getElem?_eq_getElem (by omega)]; rfl
      rw [h1, lenW_snoc, elems_snoc, ih (by omega)]
  have := key ws.length (Nat.le_refl _)
  rwa [List.take_length] at this
theorem Len_ret {p : Nat} {ws : List Nat} {ad : Option Addr} {cap : Nat} (h : SetAt w p ws ad cap) :
    Ret Tryd.prog 69 [ptr p] w (fun v w' => v = I (elems ws).length ∧ w' = w) := by
  have hlen := h.len
  rw [← lenW_elems]
  refine enter Tryd.call69 Tryd.func69 rfl rfl rfl rfl ?_
  (repeat first|refine zA ?_|refine zB ?_|refine zg ?_|refine zo rfl rfl trivial ?_|refine zn ?_)
  refine o_call (there_ret h) rfl rfl rfl ?_
  rintro v w' ⟨rfl, rfl⟩
  (repeat first|refine zA ?_|refine zB ?_|refine zg ?_|refine zo rfl rfl trivial ?_|refine zn ?_|refine zk ?_|refine zf rfl ?_)
  refine o_load rfl h.hdr rfl rfl rfl rfl rfl ?_
  (repeat first|refine zo rfl rfl trivial ?_|refine zn ?_|refine zb ?_)
  refine r_loop (α := Nat) [3, 12, 13, 14] (fun i => [I (lenW (ws.take i)), .slice ad ws.length cap, I ws.length, I i]) (fun i w1 => w' = w1 ∧ i ≤ ws.length) (fun i => ws.length - i) 0 rfl ⟨rfl, by omega⟩ ?_
  rintro i e w1 ⟨rfl, hi⟩
  (repeat first|refine zA ?_|refine zD ?_|refine zg ?_|refine zo rfl rfl trivial ?_|refine zn ?_)
  refine r_if rfl (fun hc => ?_) (fun hc => ?_)
  · have hlt : i < ws.length := by omega
    obtain ⟨b, off, rfl, _, hcell⟩ := h.own.read.at_ (by simp; omega)
    have htk : ws.take (i + 1) = ws.take i ++ [ws[i]] := by rw [List.take_add_one, List.getElem?_eq_getElem hlt]; rfl
    have hle := lenW_le (ws.take i)
    have hle2 := pop_le ws[i]
    have hlt2 : (ws.take i).length ≤ 16384 := by simp; omega
    (repeat first|refine zA ?_|refine zC ?_|refine zg ?_|refine zo rfl rfl (by first|exact trivial|(simp only[AllP];omega)) ?_|refine zb ?_|refine zk ?_)
    refine o_loadc (v := U ws[i]) rfl (hcell i _ (by simp [hlt])) rfl rfl rfl rfl ?_
    (repeat first|refine zg ?_|refine zo rfl rfl trivial ?_|refine zn ?_)
    refine o_call (ones_ret (h.ok _ (List.getElem_mem hlt))) rfl rfl rfl ?_
    rintro v w2 ⟨rfl, rfl⟩
    (repeat first|refine zg ?_|refine zo rfl rfl (by first|exact trivial|(simp only[AllP];omega)) ?_|refine zn ?_)
    refine ⟨i + 1, ?_, ⟨rfl, by omega⟩, by omega⟩
    rw [htk, lenW_snoc]; rfl
  · have : i = ws.length := by omega
    subst this
    rw [List.take_length]
    (repeat first|refine zA ?_|refine zg ?_|refine zo rfl rfl trivial ?_|refine zn ?_|refine ze rfl ?_|refine zr ?_)
    exact ⟨_, rfl, rfl, rfl⟩
/-! ### The law's small functions -/
def nearL (l : List Int) : List Int := l.map fun x => Int.tmod (Int.tmod x 1048576 + 1048576) 1048576
end Go.Vc
/- bits: lives. -/
namespace Go.Vc
open Go Go.Proofs
set_option maxRecDepth 10000
variable {w : World}

theorem map_encI (l : List Nat) : l.map encI = (l.map (fun k : Nat => (k : Int))).map I := by rw [List.map_map]; rfl

end Go.Vc
/- bits: Copy, Within, Meets, Equal. -/
namespace Go.Vc
open Go Go.Proofs
set_option maxRecDepth 10000
variable {w : World}

theorem NewS.noth {T : TypeId} {ad : Option Addr} {n cap : Nat} {xs : List Value} {w' : World} (h : NewS w T w' ad n cap xs) (hT : TabW w) : 0 ∉ blkOf ad := fun hb => by
  have := h.new _ hb; have := hT.lt; omega
theorem Copy_ret (hT : TabW w) {p : Nat} {ws : List Nat} {ad : Option Addr} {cap : Nat} (h : SetAt w p ws ad cap) :
    Ret Tryd.prog 51 [ptr p] w (fun v w' => ∃ p' ad' cap', v = ptr p' ∧ NewSet w p' w' ws ad' cap') := by
  refine enter Tryd.call51 Tryd.func51 rfl rfl rfl rfl ?_
  (repeat first|refine zA ?_|refine zB ?_|refine zg ?_|refine zo rfl rfl trivial ?_|refine zn ?_)
  refine o_call (there_ret h) rfl rfl rfl ?_
  rintro v w' ⟨rfl, rfl⟩
  (repeat first|refine zA ?_|refine zg ?_|refine zo rfl rfl trivial ?_|refine zn ?_|refine zk ?_|refine zf rfl ?_)
  refine o_call (Words_ret h) rfl rfl rfl ?_
  rintro v w2 ⟨ad2, cap2, rfl, hn⟩
  refine o_build [B true, .slice ad2 ws.length cap2] rfl rfl rfl rfl rfl rfl rfl ?_
  refine o_box rfl rfl rfl ?_
  intro p' w3 hp hu
  have hk := hn.kp.size
  have hne : p' ∉ blkOf ad2 := fun hb => by have := hn.own.lt p' hb; omega
  (repeat first|refine zo rfl rfl trivial ?_|refine zn ?_|refine zr ?_)
  refine ⟨_, rfl, p', ad2, cap2, rfl, ⟨hu.blk, hn.own.upd hu hne, h.ok, h.len, ?_⟩, hn.kp.trans (hu.kp [] (.inr (by omega))), ?_⟩
  · intro hb
    rcases List.mem_cons.1 hb with hb | hb
    · have := hT.lt; omega
    · exact hn.noth hT hb
  · intro b hb
    rcases List.mem_cons.1 hb with rfl | hb
    · omega
    · exact hn.new b hb
theorem SetAt.word {p : Nat} {ws : List Nat} {ad : Option Addr} {cap : Nat} (h : SetAt w p ws ad cap) {i : Nat} (hi : i < ws.length) : ∃ b junk, ad = some ⟨b, 0, none⟩ ∧ Blk w b (ws.map U ++ junk) 151 ∧ (ws.map U ++ junk)[i]? = some (U (ws.getD i 0)) := by
  obtain ⟨b, junk, h1, h2⟩ := h.blk (by omega)
  refine ⟨b, junk, h1, h2, ?_⟩
  rw [List.getElem?_append_left (by simpa using hi), List.getElem?_map, List.getD_eq_getElem?_getD, List.getElem?_eq_getElem hi]; rfl
def withinW (a b : List Nat) : Bool := decide (a.length ≤ b.length) && (List.range a.length).all fun i => decide (andn (a.getD i 0) (b.getD i 0) = 0)
def meetsW (a b : List Nat) : Bool := (List.range (min a.length b.length)).any fun i => decide (a.getD i 0 &&& b.getD i 0 ≠ 0)
/-! ### Equal -/
end Go.Vc
/- bits: Keep, Drop, Turn (of another set). -/
namespace Go.Vc
open Go Go.Proofs
set_option maxRecDepth 10000
variable {w : World}

/-- the first i words turned -/
def updW (f : Nat → Nat → Nat) (ws vs : List Nat) (i : Nat) : List Nat := (List.range ws.length).map fun j => if j < i then f (ws.getD j 0) (vs.getD j 0) else ws.getD j 0
theorem updW_len (f : Nat → Nat → Nat) (ws vs : List Nat) (i : Nat) : (updW f ws vs i).length = ws.length := by simp [updW]
theorem updW_getD (f : Nat → Nat → Nat) (ws vs : List Nat) (i j : Nat) (hj : j < ws.length) : (updW f ws vs i).getD j 0 = if j < i then f (ws.getD j 0) (vs.getD j 0) else ws.getD j 0 := by
  unfold updW
  rw [List.getD_eq_getElem?_getD, List.getElem?_map, List.getElem?_range hj]; rfl
theorem updW_zero (f : Nat → Nat → Nat) (ws vs : List Nat) : updW f ws vs 0 = ws := by
  apply List.ext_getElem?
  intro j
  unfold updW
  rw [List.getElem?_map]
  by_cases hj : j < ws.length
  · rw [List.getElem?_range hj, List.getElem?_eq_getElem hj]
    simp [List.getD_eq_getElem?_getD, hj]
  · rw [List.getElem?_eq_none (by simpa using hj), List.getElem?_eq_none (by omega)]; rfl
theorem updW_set (f : Nat → Nat → Nat) (ws vs : List Nat) (i : Nat) (hi : i < ws.length) : (updW f ws vs i).set i (f (ws.getD i 0) (vs.getD i 0)) = updW f ws vs (i + 1) := by
  apply List.ext_getElem?
  intro j
  rw [List.getElem?_set, updW_len]
  unfold updW
  rw [List.getElem?_map, List.getElem?_map]
  by_cases hj : j < ws.length
  · rw [List.getElem?_range hj]
    by_cases hij : i = j
    · subst hij; simp [hi]
    · have h1 : (j < i) = (j < i + 1) := by rw [eq_iff_iff]; omega
      simp [hij, h1]
  · by_cases hij : i = j
    · omega
    · rw [if_neg hij, List.getElem?_eq_none (by simpa using hj)]; rfl
/-- two sets that share nothing -/
def Apart (p : Nat) (ad : Option Addr) (q : Nat) (bd : Option Addr) : Prop := ∀ b, b ∈ q :: blkOf bd → b ∉ p :: blkOf ad
theorem SetTo.other {p q : Nat} {ad ad' bd : Option Addr} {w' : World} {ws' vs : List Nat} {cap' bap : Nat} (h : SetTo w p ad w' ws' ad' cap') (hd : Apart p ad q bd) (k : SetAt w q vs bd bap) : SetAt w' q vs bd bap := k.kp h.kp hd
theorem and_lt {a b : Nat} (ha : a < 2 ^ 64) : a &&& b < 2 ^ 64 := Nat.lt_of_le_of_lt Nat.and_le_left ha

def keepW (ws vs : List Nat) : List Nat := trim (updW (· &&& ·) (ws.take (min ws.length vs.length)) vs (min ws.length vs.length))
theorem Keep_ret {p q : Nat} {ws vs : List Nat} {ad bd : Option Addr} {cap bap : Nat} (h : SetAt w p ws ad cap) (k : SetAt w q vs bd bap) (hd : Apart p ad q bd) :
    Ret Tryd.prog 68 [ptr p, ptr q] w (fun v w' => v = I 0 ∧ SetTo w p ad w' (keepW ws vs) ad cap) := by
  have hl1 := h.len
  have hl2 := k.len
  have hcap := h.own.le_cap
  refine enter Tryd.call68 Tryd.func68 rfl rfl rfl rfl ?_
  (repeat first|refine zA ?_|refine zB ?_|refine zg ?_|refine zo rfl rfl trivial ?_|refine zn ?_)
  refine o_call (there_ret h) rfl rfl rfl ?_
  rintro v w1 ⟨rfl, rfl⟩
  (repeat first|refine zo rfl rfl trivial ?_|refine zU rfl rfl rfl ?_)
  refine o_call (there_ret k) rfl rfl rfl ?_
  rintro v w2 ⟨rfl, rfl⟩
  (repeat first|refine zo rfl rfl trivial ?_|refine zn ?_|refine zk ?_|refine zf rfl ?_)
  refine r_seq ?_
  refine r_lastL follows_mixed rfl (by kernel_rfl) (by kernel_rfl) ?_
  dsimp only [List.dropLast]
  (repeat refine yo rfl rfl trivial ?_)
  refine q_load rfl (fun w hs => (hs.blk h.hdr).cell rfl) rfl rfl rfl rfl ?_
  (repeat refine yo rfl rfl trivial ?_)
  refine q_load rfl (fun w hs => (hs.blk h.hdr).cell rfl) rfl rfl rfl rfl ?_
  (repeat refine yo rfl rfl trivial ?_)
  refine q_load rfl (fun w hs => (hs.blk k.hdr).cell rfl) rfl rfl rfl rfl ?_
  (repeat first|refine yo rfl rfl (by first|exact trivial|(simp only[AllP];omega)) ?_|refine yn ?_)
  intro w3 hs3
  have hmin : (min (ws.length : Int) vs.length).toNat = min ws.length vs.length := by omega
  refine o_store (v := .slice ad (min ws.length vs.length) cap) (c := none) rfl (hs3.blk h.hdr) (by simp) ?_ rfl rfl rfl rfl rfl ?_
  · exact congrArg (fun z => some (none, Value.slice ad z cap)) hmin
  intro w4 hu4
  have hto := h.short hs3 (Nat.min_le_left _ _) hu4
  have hn : (ws.take (min ws.length vs.length)).length = min ws.length vs.length := by simp
  generalize hws : ws.take (min ws.length vs.length) = us at hto hn
  generalize hnn : min ws.length vs.length = n at hn
  have hnv : n ≤ vs.length := by omega
  (repeat first|refine zA ?_|refine zB ?_|refine zg ?_|refine zo rfl rfl trivial ?_|refine zn ?_)
  refine o_load rfl hto.at_.hdr rfl rfl rfl rfl rfl ?_
  (repeat first|refine zo rfl rfl trivial ?_|refine zn ?_|refine zb ?_)
  refine r_loop (α := Nat) [0, 1, 37, 38] (fun i => [ptr p, ptr q, I us.length, I i]) (fun i w5 => SetTo w2 p ad w5 (updW (· &&& ·) us vs i) ad cap ∧ i ≤ n) (fun i => n - i) 0 rfl ⟨by rw [updW_zero]; exact hto, by omega⟩ ?_
  rintro i e w5 ⟨hto5, hi⟩
  have k5 := hto5.other hd k
  have h5 := hto5.at_
  have hul := updW_len (· &&& ·) us vs i
  (repeat first|refine zA ?_|refine zD ?_|refine zg ?_|refine zo rfl rfl trivial ?_|refine zn ?_)
  refine r_if rfl (fun hc => ?_) (fun hc => ?_)
  · have hlt : i < us.length := by omega
    have hlt2 : i < vs.length := by omega
    obtain ⟨b1, j1, rfl, hb1, c1⟩ := h5.word (i := i) (by omega)
    obtain ⟨b2, j2, rfl, hb2, c2⟩ := k5.word hlt2
    rw [updW_getD _ _ _ _ _ hlt, if_neg (by omega)] at c1
    have hx1 : us.getD i 0 < 2 ^ 64 := hto.at_.ok.getD i
    have hx2 : vs.getD i 0 < 2 ^ 64 := k.ok.getD i
    (repeat first|refine zA ?_|refine zC ?_|refine zg ?_|refine zo rfl rfl trivial ?_|refine zn ?_|refine zb ?_|refine zk ?_)
    refine r_lastL follows_mixed rfl (by kernel_rfl) (by kernel_rfl) ?_
    dsimp only [List.dropLast]
    (repeat refine yo rfl rfl trivial ?_)
    refine q_load rfl (fun w hs => (hs.blk h5.hdr).cell rfl) rfl rfl rfl rfl ?_
    (repeat refine yo rfl rfl (by first|exact trivial|(simp only[AllP];omega)) ?_)
    refine q_load (v := U (us.getD i 0)) rfl (fun w hs => ?_) rfl rfl rfl rfl ?_
    · show w.cell? ⟨b1, 0 + i, none⟩ = _
      rw [Nat.zero_add]; exact (hs.blk hb1).cell c1
    (repeat refine yo rfl rfl trivial ?_)
    refine q_load rfl (fun w hs => (hs.blk k5.hdr).cell rfl) rfl rfl rfl rfl ?_
    (repeat refine yo rfl rfl (by first|exact trivial|(simp only[AllP];omega)) ?_)
    refine q_load (v := U (vs.getD i 0)) rfl (fun w hs => ?_) rfl rfl rfl rfl ?_
    · show w.cell? ⟨b2, 0 + i, none⟩ = _
      rw [Nat.zero_add]; exact (hs.blk hb2).cell c2
    (repeat first|refine yo rfl rfl (by first|exact trivial|(simp only[AllP];omega)) ?_|refine yn ?_)
    intro w6 hs6
    have e1 := ibits_and hx1 hx2
    refine o_store (b := b1) (off := i) (v := U (us.getD i 0 &&& vs.getD i 0)) (c := none) ?_ (hs6.blk hb1) (by simp; omega) ?_ rfl rfl rfl rfl rfl ?_
    · show Value.pointer (some ⟨b1, 0 + i, none⟩) = _
      rw [Nat.zero_add]
    · exact congrArg (fun z => some (none, Value.int .u64 z)) e1
    intro w7 hu7
    have hst := h5.stored hs6 (i := i) (by omega) (and_lt hx1) hb1 hu7
    rw [updW_set _ _ _ _ hlt] at hst
    (repeat first|refine zg ?_|refine zo rfl rfl (by first|exact trivial|(simp only[AllP];omega)) ?_|refine zn ?_)
    exact ⟨i + 1, rfl, ⟨hto5.trans hst, by omega⟩, by omega⟩
  · have hin : i = n := by omega
    subst hin
    (repeat first|refine zA ?_|refine zg ?_|refine zo rfl rfl trivial ?_|refine ze rfl ?_)
    refine o_call (trim_ret h5) rfl rfl rfl ?_
    rintro v w6 ⟨rfl, hto6⟩
    (repeat first|refine zA ?_|refine zg ?_|refine zo rfl rfl trivial ?_|refine zn ?_|refine zr ?_)
    refine ⟨_, rfl, rfl, ?_⟩
    unfold keepW
    rw [hws, hnn]
    exact hto5.trans hto6

def dropW (ws vs : List Nat) : List Nat := trim (updW andn ws vs (min ws.length vs.length))
def growW (ws : List Nat) (n : Nat) : List Nat := ws ++ List.replicate (n - ws.length) 0
def turnW (ws vs : List Nat) : List Nat := trim (updW (· ^^^ ·) (growW ws vs.length) vs vs.length)
theorem SetTo.tab {p : Nat} {ws : List Nat} {ad ad1 : Option Addr} {cap cap1 : Nat} {w1 : World} {ws1 : List Nat} (hT : TabW w) (h : SetAt w p ws ad cap) (k : SetTo w p ad w1 ws1 ad1 cap1) : TabW w1 := hT.kp k.kp h.far
end Go.Vc
