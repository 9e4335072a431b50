/- bits: BitsWords. -/
import Derived.Test.YtkgjibhbhddckaaQClONil14
namespace Go.Vc
open Go Go.Proofs
set_option maxRecDepth 10000
variable {w : World}

section
variable {P : Program} {n : Nat} {e : Env} {K : EPost} {all : List Oper} {G : List Nat} {ro : Option Nat} {dst : Option Tmp} {ty : TypeId} {pos : String} {after : Array Edge} {g : Option (Nat × Bool)} {l : List Oper} {t : TypeId} {x y : Operand}
/-- append(nil, s...): a copy of one's own -/
theorem o_appendNil {T : TypeId} {td : TypeDesc} {tn : String} {tby : Nat} {thp : Bool} {tal tfa : Nat} {z : Value} {tcm : Bool} {tms : Array Method}
    {ad : Option Addr} {m cy : Nat} (news : List Value) (hx : ev e x = .slice none 0 0) (hy : ev e y = .slice ad m cy) (hr : ReadS w ad news)
    (hu : P.underlying t = some (.slice T)) (hi : P.info? T = some ⟨td, tn, 1, tby, thp, tal, tfa, some z, tcm, tms⟩) (hzs : z.cells.size = 1)
    (hl : news.length = m) (h1 : ∀ v ∈ news, v.oneCell' = true) (h63 : m ≤ maxLen) (hby : m * tby ≤ 140737488355328) (hd : dOk n dst = true) (hm : may all G e g = some true)
    (kk : ∀ ad' cap' w', NewS w T w' ad' m cap' news → Ops ro P n all G K l (put e dst (.slice ad' m cap')) w') :
    Ops ro P n all G K (⟨dst, .call ⟨.builtin .append, #[x, y], #[t, t]⟩, ty, pos, after, g⟩ :: l) e w := by
  by_cases h0 : m = 0
  · subst h0
    have : news = [] := List.eq_nil_of_length_eq_zero hl
    subst this
    exact o_append0 hx hy (Nat.le_refl _) hu hi hd hm (kk none 0 w ⟨ownS_nil _ _ _, Kp.refl _ _, by simp [blkOf]⟩)
  · obtain ⟨b, off, rfl, _, hc⟩ := hr.at_ (by omega)
    refine o_append news hx hy (ownS_nil _ _ _) (fun j v hv => by rw [addr_lit]; exact hc j v hv) hu hi hzs (by omega) (by omega) (by omega) h1 (by omega) (by rw [Nat.zero_add]; exact hby) hd hm ?_
    intro ad' cap' w' ho hk hnew
    rw [Nat.zero_add] at ho ⊢
    refine kk ad' cap' w' ⟨ho, hk, fun b hb => ?_⟩
    rcases hnew b hb with h | h
    · simp [blkOf] at h
    · exact h
end
theorem trim_trim (ws : List Nat) : trim (trim ws) = trim ws := by
  rcases trim_last ws with h | ⟨l, x, h, hx⟩
  · rw [h]; rfl
  · rw [h]; exact trim_snoc hx
theorem elems_lt {ws : List Nat} (h : ws.length ≤ 16384) : ∀ k ∈ elems ws, k < 1048576 := fun k hk => by have := bit_lt (mem_elems.1 hk); omega

theorem wfU {x : Int} (h : (Lit.int .u64 x).wf = true) : 0 ≤ x ∧ x < 18446744073709551616 := by
  have := h
  simp [Lit.wf, IntKind.min, IntKind.max, IntKind.signed, IntKind.bits] at this
  omega
theorem IsRow.words {w : World} {a : Option Addr} {len cap : Nat} {zs : List Int} (h : IsRow .u64 w a len cap zs) : ∃ ws : List Nat, ReadS w a (ws.map U) ∧ ws.length = len ∧ WOk ws ∧ zs.take len = ws.map (fun (n : Nat) => (n : Int)) := by
  have hl := h.len_le
  have hw : ∀ x ∈ zs, 0 ≤ x ∧ x < 18446744073709551616 := by
    rcases h with ⟨_, _, _, rfl⟩ | ⟨x, _, _, _, _, _, hw⟩
    · simp
    · exact fun n hn => wfU (hw n hn)
  have hr := h.read.take len
  rw [← List.map_take] at hr
  have e1 : zs.take len = ((zs.take len).map Int.toNat).map (fun (n : Nat) => (n : Int)) := by
    rw [List.map_map]
    conv => lhs; rw [show zs.take len = (zs.take len).map id by simp]
    apply List.map_congr_left
    intro x hx
    have := hw x (List.mem_of_mem_take hx)
    simp only [id, Function.comp]; omega
  refine ⟨(zs.take len).map Int.toNat, ?_, by simp; omega, ?_, e1⟩
  · rw [e1] at hr
    rw [List.map_map] at hr
    have : (Value.int IntKind.u64 ∘ fun (n : Nat) => (n : Int)) = U := rfl
    rw [this] at hr; exact hr
  · intro y hy
    obtain ⟨x, hx, rfl⟩ := List.mem_map.1 hy
    have := hw x (List.mem_of_mem_take hx)
    omega
end Go.Vc
/- bits: families of sets that share nothing; BitsAlgebra. -/
namespace Go.Vc
open Go Go.Proofs
set_option maxRecDepth 10000
variable {w : World}

/-- a set's place and words -/
structure S4 where
  p : Nat
  ws : List Nat
  ad : Option Addr
  cap : Nat
def S4.blks (s : S4) : List Nat := s.p :: blkOf s.ad
end Go.Vc
/- bits: a relation in memory; NewRelation, Size, Link, Linked. -/
namespace Go.Vc
open Go Go.Proofs
set_option maxRecDepth 10000
variable {w : World}

def wid (n : Nat) : Nat := (n + 63) / 64
abbrev rowV (W : Nat) (b : Nat) : Value := .slice (some ⟨b, 0, none⟩) W W
def relBlks (p : Nat) (ad : Option Addr) (bs : List Nat) : List Nat := p :: (blkOf ad ++ bs)
section
variable {p n : Nat} {bs : List Nat} {M : List (List Nat)} {ad : Option Addr} {cap : Nat}
theorem relRow_ne {b1 b2 : Nat} {l1 l2 : List Value} {T1 T2 : TypeId} (h1 : Blk w b1 l1 T1) (h2 : Blk w b2 l2 T2) (hT : T1 ≠ T2) : b1 ≠ b2 := by
  rintro rfl
  unfold Blk at h1 h2
  rw [h1] at h2
  simp at h2
  exact hT h2.2
end
/-- is i linked to j -/
def bitM (M : List (List Nat)) (i j : Nat) : Bool := bit (M.getD i []) j
theorem bitM_row {M : List (List Nat)} {i : Nat} {ws : List Nat} (h : M[i]? = some ws) (j : Nat) : bitM M i j = bit ws j := by unfold bitM; rw [List.getD_eq_getElem?_getD, h]; rfl
theorem rthere_nil : Ret Try.prog 83 [.pointer none] w (fun v w' => v = .bool false ∧ w' = w) := by
  refine enter Try.call83 Try.func83 rfl rfl rfl rfl ?_
  (repeat first|refine zA ?_|refine zB ?_|refine zC ?_|refine zD ?_|refine zE ?_|refine zg ?_|refine zo rfl rfl (by first|exact trivial|(simp only[AllP];omega)|(simp(discharger:=omega)only[AllP,cA,cB];omega)|(simp only[AllP,cC,cD,cE,cF,cG];omega)) ?_|refine zn ?_|refine zb ?_|refine ze rfl ?_|refine zr ?_|refine zk ?_|refine zT rfl rfl rfl ?_|refine zU rfl rfl rfl ?_|refine zV rfl rfl rfl ?_|refine zf rfl ?_|refine zt rfl ?_)
  exact ⟨_, rfl, rfl, rfl⟩
def nodeB (n : Nat) (i : Int) : Bool := decide (0 ≤ i) && decide (i < n)
/-! ### NewRelation -/
def zeroM (n : Nat) : List (List Nat) := List.replicate n (List.replicate (wid n) 0)
theorem bitM_zero (n i j : Nat) : bitM (zeroM n) i j = false := by
  unfold bitM zeroM bit
  rw [List.getD_eq_getElem?_getD (l := List.replicate n _), List.getElem?_replicate]
  split
  · simp only [Option.getD_some]
    rw [List.getD_eq_getElem?_getD, List.getElem?_replicate]
    split <;> simp
  · simp
theorem NewRelation_bad {x : Int} (hx : x < 0 ∨ 2048 < x) : Ret Try.prog 52 [I x] w (fun v w' => v = .tuple #[.pointer none, I 2] ∧ w' = w) := by
  refine enter Try.call52 Try.func52 rfl rfl rfl rfl ?_
  (repeat first|refine zA ?_|refine zB ?_|refine zC ?_|refine zD ?_|refine zE ?_|refine zg ?_|refine zo rfl rfl (by first|exact trivial|(simp only[AllP];omega)|(simp(discharger:=omega)only[AllP,cA,cB];omega)|(simp only[AllP,cC,cD,cE,cF,cG];omega)) ?_|refine zn ?_|refine zb ?_|refine ze rfl ?_|refine zr ?_|refine zk ?_|refine zT rfl rfl rfl ?_|refine zU rfl rfl rfl ?_|refine zV rfl rfl rfl ?_|refine zf rfl ?_|refine zt rfl ?_)
  refine o_bool [0] [I x] 10 true (fun w' => w' = w) ?_ ?_
  · refine o_split 2 false rfl rfl rfl (fun hb => ?_) (fun hb => ?_)
    · (repeat first|refine zo rfl rfl (by first|exact trivial|(simp only[AllP];omega)|(simp(discharger:=omega)only[AllP,cA,cB];omega)|(simp only[AllP,cC,cD,cE,cF,cG];omega)) ?_|refine zn ?_|refine zT rfl rfl rfl ?_|refine zU rfl rfl rfl ?_|refine zV rfl rfl rfl ?_)
      exact ⟨rfl, ⟨_, rfl, rfl⟩, rfl⟩
    · have hb' : ¬ x < 0 := by simpa using hb
      (repeat first|refine zo rfl rfl (by first|exact trivial|(simp only[AllP];omega)|(simp(discharger:=omega)only[AllP,cA,cB];omega)|(simp only[AllP,cC,cD,cE,cF,cG];omega)) ?_|refine zn ?_|refine zT rfl rfl rfl ?_|refine zU rfl rfl rfl ?_|refine zV rfl rfl rfl ?_)
      exact ⟨rfl, ⟨_, rfl, by simp; omega⟩, rfl⟩
  rintro e w' rfl
  (repeat first|refine zA ?_|refine zB ?_|refine zC ?_|refine zD ?_|refine zE ?_|refine zg ?_|refine zo rfl rfl (by first|exact trivial|(simp only[AllP];omega)|(simp(discharger:=omega)only[AllP,cA,cB];omega)|(simp only[AllP,cC,cD,cE,cF,cG];omega)) ?_|refine zn ?_|refine zb ?_|refine ze rfl ?_|refine zr ?_|refine zk ?_|refine zT rfl rfl rfl ?_|refine zU rfl rfl rfl ?_|refine zV rfl rfl rfl ?_|refine zf rfl ?_|refine zt rfl ?_)
  exact ⟨_, rfl, rfl, rfl⟩
end Go.Vc
/- bits: relations: Link, Linked, Row, the copy of the rows, the pairs' iterator. -/
namespace Go.Vc
open Go Go.Proofs
set_option maxRecDepth 10000
variable {w : World}

section
variable {p n : Nat} {bs : List Nat} {M : List (List Nat)} {ad : Option Addr} {cap : Nat}
theorem nodeB_nat {x : Int} (h : nodeB n x = true) : ∃ k : Nat, x = (k : Int) ∧ k < n := by
  unfold nodeB at h
  simp only [Bool.and_eq_true, decide_eq_true_eq] at h
  exact ⟨x.toNat, by omega, by omega⟩
def linkM (M : List (List Nat)) (i j : Nat) : List (List Nat) := M.set i ((M.getD i []).set (j / 64) ((M.getD i []).getD (j / 64) 0 ||| 2 ^ (j % 64)))
theorem wid_lt {j : Nat} (h : j < n) : j / 64 < wid n := by unfold wid; omega
theorem Link_nil {i j : Int} : Ret Try.prog 53 [.pointer none, I i, I j] w (fun v w' => v = I 1 ∧ w' = w) := by
  refine enter Try.call53 Try.func53 rfl rfl rfl rfl ?_
  (repeat first|refine zA ?_|refine zB ?_|refine zC ?_|refine zD ?_|refine zE ?_|refine zg ?_|refine zo rfl rfl (by first|exact trivial|(simp only[AllP];omega)|(simp(discharger:=omega)only[AllP,cA,cB];omega)|(simp only[AllP,cC,cD,cE,cF,cG];omega)) ?_|refine zn ?_|refine zb ?_|refine ze rfl ?_|refine zr ?_|refine zk ?_|refine zT rfl rfl rfl ?_|refine zU rfl rfl rfl ?_|refine zV rfl rfl rfl ?_|refine zf rfl ?_|refine zt rfl ?_)
  refine o_call rthere_nil rfl rfl rfl ?_
  rintro v w1 ⟨rfl, rfl⟩
  (repeat first|refine zA ?_|refine zB ?_|refine zC ?_|refine zD ?_|refine zE ?_|refine zg ?_|refine zo rfl rfl (by first|exact trivial|(simp only[AllP];omega)|(simp(discharger:=omega)only[AllP,cA,cB];omega)|(simp only[AllP,cC,cD,cE,cF,cG];omega)) ?_|refine zn ?_|refine zb ?_|refine ze rfl ?_|refine zr ?_|refine zk ?_|refine zT rfl rfl rfl ?_|refine zU rfl rfl rfl ?_|refine zV rfl rfl rfl ?_|refine zf rfl ?_|refine zt rfl ?_)
  exact ⟨_, rfl, rfl, rfl⟩
def linkedB (n : Nat) (M : List (List Nat)) (i j : Int) : Bool := nodeB n i && nodeB n j && bitM M i.toNat j.toNat
theorem Linked_nil (i j : Int) : Ret Try.prog 69 [.pointer none, I i, I j] w (fun v w' => v = .bool false ∧ w' = w) := by
  refine enter Try.call69 Try.func69 rfl rfl rfl rfl ?_
  (repeat first|refine zA ?_|refine zB ?_|refine zC ?_|refine zD ?_|refine zE ?_|refine zg ?_|refine zo rfl rfl (by first|exact trivial|(simp only[AllP];omega)|(simp(discharger:=omega)only[AllP,cA,cB];omega)|(simp only[AllP,cC,cD,cE,cF,cG];omega)) ?_|refine zn ?_|refine zb ?_|refine ze rfl ?_|refine zr ?_|refine zk ?_|refine zT rfl rfl rfl ?_|refine zU rfl rfl rfl ?_|refine zV rfl rfl rfl ?_|refine zf rfl ?_|refine zt rfl ?_)
  refine o_call rthere_nil rfl rfl rfl ?_
  rintro v w1 ⟨rfl, rfl⟩
  (repeat first|refine zA ?_|refine zB ?_|refine zC ?_|refine zD ?_|refine zE ?_|refine zg ?_|refine zo rfl rfl (by first|exact trivial|(simp only[AllP];omega)|(simp(discharger:=omega)only[AllP,cA,cB];omega)|(simp only[AllP,cC,cD,cE,cF,cG];omega)) ?_|refine zn ?_|refine zb ?_|refine ze rfl ?_|refine zr ?_|refine zk ?_|refine zT rfl rfl rfl ?_|refine zU rfl rfl rfl ?_|refine zV rfl rfl rfl ?_|refine zf rfl ?_|refine zt rfl ?_)
  exact ⟨_, rfl, rfl, rfl⟩
/-! ### The copy of the rows -/
/-- rows that lie in a block: their slices As, their words M -/
structure RowsAt (w : World) (bc n : Nat) (As : List (Option Addr × Nat)) (M : List (List Nat)) : Prop where
  blk : Blk w bc (As.map fun x => Value.slice x.1 (wid n) x.2) 135
  nA : As.length = n
  nM : M.length = n
  row : ∀ (i : Nat) (x : Option Addr × Nat) (ws : List Nat), As[i]? = some x → M[i]? = some ws → OwnS w 136 1 x.1 (wid n) x.2 (ws.map U) ∧ WOk ws ∧ ws.length = wid n
def rowsBlks (bc : Nat) (As : List (Option Addr × Nat)) : List Nat := bc :: As.flatMap fun x => blkOf x.1
theorem RowsAt.keep {w' : World} {bc : Nat} {As : List (Option Addr × Nat)} (h : RowsAt w bc n As M) (hk : ∀ b, b ∈ rowsBlks bc As → w'.heap[b]? = w.heap[b]?) : RowsAt w' bc n As M :=
  ⟨by unfold Blk; rw [hk bc (by simp [rowsBlks])]; exact h.blk, h.nA, h.nM, fun i x ws h1 h2 => ⟨(h.row i x ws h1 h2).1.keep (fun b hb => hk b (by
    unfold rowsBlks
    refine List.mem_cons_of_mem _ (List.mem_flatMap.2 ⟨x, List.mem_of_getElem? h1, hb⟩))), (h.row i x ws h1 h2).2⟩⟩
theorem RowsAt.lt {bc : Nat} {As : List (Option Addr × Nat)} (h : RowsAt w bc n As M) : ∀ b, b ∈ rowsBlks bc As → b < w.heap.size := by
  intro b hb
  rcases List.mem_cons.1 hb with rfl | hb
  · exact h.blk.lt
  · obtain ⟨x, hx, hb⟩ := List.mem_flatMap.1 hb
    obtain ⟨i, hi⟩ := List.getElem?_of_mem hx
    have hlt : i < M.length := by rw [h.nM, ← h.nA]; exact (List.getElem?_eq_some_iff.1 hi).1
    exact (h.row i x M[i] hi (List.getElem?_eq_getElem hlt)).1.lt b hb
end
end Go.Vc
/- bits: relations: the pairs' iterator, the law's pairs, Turned, Close. -/
namespace Go.Vc
open Go Go.Proofs
set_option maxRecDepth 10000
variable {w : World}

def rowPairs (M : List (List Nat)) (i : Nat) : List (Nat × Nat) := (elems (M.getD i [])).map fun j => (i, j)
def pairsL (n : Nat) (M : List (List Nat)) : List (Nat × Nat) := (List.range n).flatMap (rowPairs M)
theorem pairsL_succ (n : Nat) (M : List (List Nat)) : pairsL (n + 1) M = pairsL n M ++ rowPairs M n := by
  unfold pairsL; rw [List.range_succ, List.flatMap_append]; simp
theorem pairsL_split {n i : Nat} (M : List (List Nat)) (h : i < n) : ∃ tail, pairsL n M = pairsL i M ++ rowPairs M i ++ tail := by
  obtain ⟨d, rfl⟩ : ∃ d, n = i + 1 + d := ⟨n - (i + 1), by omega⟩
  induction d with
  | zero => exact ⟨[], by rw [Nat.add_zero, pairsL_succ, List.append_nil]⟩
  | succ d ih =>
    obtain ⟨t, ht⟩ := ih (by omega)
    exact ⟨t ++ rowPairs M (i + 1 + d), by rw [← Nat.add_assoc, pairsL_succ, ht, List.append_assoc]⟩
abbrev encP (x : Nat × Nat) : List Value := [I (x.1 : Int), I (x.2 : Int)]
/-- a sequence of pairs: a function value that tells them -/
structure SeqP (w : World) (v : Value) (Fp : List Nat) (xs : List (Nat × Nat)) : Prop where
  is : ∃ f lb, v = .func (.func f) #[] ⟨lb⟩ ∧ Iter Try.prog f lb Fp encP xs w
theorem SeqP.kp {w w' : World} {v : Value} {Fp : List Nat} {xs : List (Nat × Nat)} (h : SeqP w v Fp xs) {S : List Nat} (hk : Kp S w w') (hd : ∀ b, b ∈ Fp → b ∉ S) : SeqP w' v Fp xs := by
  obtain ⟨f, lb, h1, h2⟩ := h.is
  exact ⟨f, lb, h1, h2.kp hk.size (fun b hb => hk.at_ b (h2.1 b hb) (hd b hb))⟩
theorem SeqP.lt {v : Value} {Fp : List Nat} {xs : List (Nat × Nat)} (h : SeqP w v Fp xs) : ∀ b, b ∈ Fp → b < w.heap.size := by
  obtain ⟨f, lb, h1, h2⟩ := h.is
  exact h2.1
/-! ### pairs: the law's reading -/
def pairsN (xs : List (Nat × Nat)) (most : Int) : List (Nat × Nat) := if 0 ≤ most then xs.take most.toNat else xs
def flatP (xs : List (Nat × Nat)) : List Nat := xs.flatMap fun x => [x.1, x.2]
theorem flatP_len (xs : List (Nat × Nat)) : (flatP xs).length = 2 * xs.length := by
  induction xs with
  | nil => rfl
  | cons x r ih => unfold flatP at *; rw [List.flatMap_cons, List.length_append, ih]; simp; omega
theorem flatP_snoc (xs : List (Nat × Nat)) (x : Nat × Nat) : flatP (xs ++ [x]) = flatP xs ++ [x.1, x.2] := by unfold flatP; rw [List.flatMap_append]; simp
structure PairsI (w : World) (bm bx bn : Nat) (most : Int) (pre : List (Nat × Nat)) (W : World) (ad : Option Addr) (cap : Nat) : Prop where
  bm_ : Blk W bm [I most] 3
  bn_ : Blk W bn [I pre.length] 3
  bx_ : Blk W bx [.slice ad (flatP pre).length cap] 22
  own : OwnS W 3 1 ad (flatP pre).length cap ((flatP pre).map encI)
  kp : Kp [] w W
  ne : bx ∉ blkOf ad
  nn : bn ∉ bm :: bx :: blkOf ad
  nm : bm ∉ bx :: blkOf ad
  new : ∀ b, b ∈ blkOf ad → w.heap.size ≤ b
  new3 : w.heap.size ≤ bm ∧ w.heap.size ≤ bx ∧ w.heap.size ≤ bn
  few : 0 ≤ most → (pre.length : Int) ≤ most
theorem PairsI.nc {bm bx bn : Nat} {most : Int} {pre : List (Nat × Nat)} {W W' : World} {ad : Option Addr} {cap B : Nat} (h : PairsI w bm bx bn most pre W ad cap) (hn : Nc B W W') (hB : w.heap.size ≤ B) : PairsI w bm bx bn most pre W' ad cap :=
  ⟨hn.blk h.bm_, hn.blk h.bn_, hn.blk h.bx_, hn.own h.own, hn.kp h.kp hB, h.ne, h.nn, h.nm, h.new, h.new3, h.few⟩
end Go.Vc
/- bits: relations: Turned, Close. -/
namespace Go.Vc
open Go Go.Proofs
set_option maxRecDepth 10000
variable {w : World}

section
variable {p n : Nat} {bs : List Nat} {M : List (List Nat)} {ad : Option Addr} {cap : Nat}
/-- each link stays among the nodes -/
def InB (n : Nat) (M : List (List Nat)) : Prop := ∀ i j, bitM M i j = true → j < n
def turnedM (n : Nat) (xs : List (Nat × Nat)) : List (List Nat) := xs.foldl (fun T x => linkM T x.2 x.1) (zeroM n)
theorem mem_pairsL {n : Nat} {M : List (List Nat)} {i j : Nat} : (i, j) ∈ pairsL n M ↔ i < n ∧ bitM M i j = true := by
  unfold pairsL rowPairs
  rw [List.mem_flatMap]
  constructor
  · rintro ⟨k, hk, h⟩
    obtain ⟨j', hj', he⟩ := List.mem_map.1 h
    cases he
    exact ⟨by simpa using hk, mem_elems.1 hj'⟩
  · rintro ⟨h1, h2⟩
    exact ⟨i, by simpa using h1, List.mem_map.2 ⟨j, mem_elems.2 h2, rfl⟩⟩
theorem pairsL_len (n : Nat) (M : List (List Nat)) (h : ∀ i, i < n → (M.getD i []).length ≤ 32) : (pairsL n M).length ≤ n * 2048 := by
  induction n with
  | zero => simp [pairsL]
  | succ n ih =>
    rw [pairsL_succ, List.length_append]
    have h1 := ih (fun i hi => h i (by omega))
    have h2 := h n (by omega)
    have h3 := elems_len (M.getD n [])
    unfold rowPairs
    rw [List.length_map]; omega
/-! ### Close -/
def orRow (a b : List Nat) : List Nat := updW (· ||| ·) a b b.length
def stepK (n : Nat) (M : List (List Nat)) (k : Nat) (m : Nat) : List (List Nat) := (List.range m).foldl (fun T i => if bitM T i k then T.set i (orRow (T.getD i []) (T.getD k [])) else T) M
def closeTo (n : Nat) (M : List (List Nat)) (m : Nat) : List (List Nat) := (List.range m).foldl (fun T k => stepK n T k n) M
def closeM (n : Nat) (M : List (List Nat)) : List (List Nat) := closeTo n M n
theorem stepK_succ (n : Nat) (M : List (List Nat)) (k m : Nat) : stepK n M k (m + 1) = if bitM (stepK n M k m) m k then (stepK n M k m).set m (orRow ((stepK n M k m).getD m []) ((stepK n M k m).getD k [])) else stepK n M k m := by
  unfold stepK; rw [List.range_succ, List.foldl_append]; rfl
theorem closeTo_succ (n : Nat) (M : List (List Nat)) (m : Nat) : closeTo n M (m + 1) = stepK n (closeTo n M m) m n := by
  unfold closeTo; rw [List.range_succ, List.foldl_append]; rfl
theorem set_self {M : List (List Nat)} {i : Nat} {ws : List Nat} (h : M[i]? = some ws) : M.set i ws = M := by
  apply List.ext_getElem?
  intro j
  rw [List.getElem?_set]
  split
  · rename_i e; subst e
    split
    · exact h.symm
    · rename_i hl; rw [List.getElem?_eq_none (by omega)]
  · rfl
theorem Close_nil : Ret Try.prog 54 [.pointer none] w (fun v w' => v = I 1 ∧ w' = w) := by
  refine enter Try.call54 Try.func54 rfl rfl rfl rfl ?_
  (repeat first|refine zA ?_|refine zB ?_|refine zC ?_|refine zD ?_|refine zE ?_|refine zg ?_|refine zo rfl rfl (by first|exact trivial|(simp only[AllP];omega)|(simp(discharger:=omega)only[AllP,cA,cB];omega)|(simp only[AllP,cC,cD,cE,cF,cG];omega)) ?_|refine zn ?_|refine zb ?_|refine ze rfl ?_|refine zr ?_|refine zk ?_|refine zT rfl rfl rfl ?_|refine zU rfl rfl rfl ?_|refine zV rfl rfl rfl ?_|refine zf rfl ?_|refine zt rfl ?_)
  refine o_call rthere_nil rfl rfl rfl ?_
  rintro v w1 ⟨rfl, rfl⟩
  (repeat first|refine zA ?_|refine zB ?_|refine zC ?_|refine zD ?_|refine zE ?_|refine zg ?_|refine zo rfl rfl (by first|exact trivial|(simp only[AllP];omega)|(simp(discharger:=omega)only[AllP,cA,cB];omega)|(simp only[AllP,cC,cD,cE,cF,cG];omega)) ?_|refine zn ?_|refine zb ?_|refine ze rfl ?_|refine zr ?_|refine zk ?_|refine zT rfl rfl rfl ?_|refine zU rfl rfl rfl ?_|refine zV rfl rfl rfl ?_|refine zf rfl ?_|refine zt rfl ?_)
  exact ⟨_, rfl, rfl, rfl⟩
end
end Go.Vc
