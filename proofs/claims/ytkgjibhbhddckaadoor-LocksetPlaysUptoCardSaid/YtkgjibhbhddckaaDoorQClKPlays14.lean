/- bits: what the operations on words do to the numbers. No program. -/
import Derived.Test.YtkgjibhbhddckaaDoorQClKPlays13
import Derived.Test.YtkgjibhbhddckaaDoorQClKPlays5
import Derived.OpenShut
import Derived.Test.YtkgjibhbhddckaaDoorQClKPlays11
namespace Go.Vc
open Go

/-- its last word is not 0 -/
def Tr (ws : List Nat) : Prop := trim ws = ws
theorem tr_trim (ws : List Nat) : Tr (trim ws) := by
  rcases trim_last ws with h | ⟨l, x, h, hx⟩
  · unfold Tr; rw [h]; rfl
  · unfold Tr; rw [h]; exact trim_snoc hx
theorem Tr.top {ws : List Nat} (h : Tr ws) (hok : WOk ws) (hne : ws ≠ []) : ∃ k, bit ws k = true ∧ k / 64 + 1 = ws.length := by
  have := trim_has hok (by rw [h]; exact hne)
  rwa [h] at this
theorem tr_of_top {ws : List Nat} (hok : WOk ws) {k : Nat} (hb : bit ws k = true) (hk : k / 64 + 1 = ws.length) : Tr ws := by
  have h1 := trim_len_bit hok hb
  have h2 := trim_len ws
  unfold Tr
  rw [trim_take, List.take_of_length_le (by omega)]
theorem tr_nil : Tr [] := rfl
theorem putW_len (ws : List Nat) (k : Nat) : (putW ws k).length = max ws.length (k / 64 + 1) := by
  unfold putW; simp; omega
theorem tr_putW {ws : List Nat} (hok : WOk ws) (h : Tr ws) (k : Nat) : Tr (putW ws k) := by
  have hok' : WOk (putW ws k) := by
    unfold putW
    exact (hok.append (WOk.zeros _)).set (Nat.or_lt_two_pow ((hok.append (WOk.zeros _)).getD _) (Nat.pow_lt_pow_right (by omega) (by omega)))
  have hl := putW_len ws k
  by_cases hk : ws.length ≤ k / 64 + 1
  · exact tr_of_top hok' (k := k) (by rw [bit_putW]; simp) (by omega)
  · obtain ⟨k', h1, h2⟩ := h.top hok (by rintro rfl; simp at hk)
    exact tr_of_top hok' (k := k') (by rw [bit_putW, h1]; rfl) (by omega)
theorem WOk.putW {ws : List Nat} (hok : WOk ws) (k : Nat) : WOk (putW ws k) := by
  unfold Vc.putW
  exact (hok.append (WOk.zeros _)).set (Nat.or_lt_two_pow ((hok.append (WOk.zeros _)).getD _) (Nat.pow_lt_pow_right (by omega) (by omega)))
theorem tr_delW {ws : List Nat} (h : Tr ws) (k : Nat) : Tr (delW ws k) := by
  unfold delW
  split
  · exact tr_trim _
  · exact h

theorem updW_getD' (f : Nat → Nat → Nat) (ws vs : List Nat) (n i : Nat) : (updW f ws vs n).getD i 0 = if i < ws.length then (if i < n then f (ws.getD i 0) (vs.getD i 0) else ws.getD i 0) else 0 := by
  by_cases hi : i < ws.length
  · rw [if_pos hi, updW_getD _ _ _ _ _ hi]
  · rw [if_neg hi, List.getD_eq_getElem?_getD, List.getElem?_eq_none (by rw [updW_len]; omega)]; rfl
theorem getD_beyond {ws : List Nat} {i : Nat} (h : ws.length ≤ i) : ws.getD i 0 = 0 := by
  rw [List.getD_eq_getElem?_getD, List.getElem?_eq_none h]; rfl
theorem growW_getD (ws : List Nat) (n i : Nat) : (growW ws n).getD i 0 = ws.getD i 0 := getD_zeros ws _ i
theorem take_getD (ws : List Nat) (n i : Nat) : (ws.take n).getD i 0 = if i < n then ws.getD i 0 else 0 := by
  rw [List.getD_eq_getElem?_getD, List.getD_eq_getElem?_getD, List.getElem?_take]
  split <;> rfl
theorem bit_keepW (ws vs : List Nat) (j : Nat) : bit (keepW ws vs) j = (bit ws j && bit vs j) := by
  unfold keepW
  rw [bit_trim]
  unfold bit
  rw [updW_getD']
  have hl : (ws.take (min ws.length vs.length)).length = min ws.length vs.length := by simp
  rw [hl, take_getD]
  by_cases h : j / 64 < min ws.length vs.length
  · rw [if_pos h, if_pos h, if_pos h, Nat.testBit_and]
  · rw [if_neg h, Nat.zero_testBit]
    by_cases h2 : j / 64 < ws.length
    · rw [getD_beyond (ws := vs) (by omega), Nat.zero_testBit, Bool.and_false]
    · rw [getD_beyond (ws := ws) (by omega), Nat.zero_testBit, Bool.false_and]
theorem WOk.joinW {ws vs : List Nat} (h : WOk ws) (k : WOk vs) : WOk (joinW ws vs) := by
  intro x hx
  unfold Vc.joinW updW at hx
  obtain ⟨i, _, rfl⟩ := List.mem_map.1 hx
  rw [growW_getD]
  split
  · exact Nat.or_lt_two_pow (h.getD _) (k.getD _)
  · exact h.getD _
/-! ### Counting -/
end Go.Vc
/- What a slice of numbers that came in reads as. -/
namespace Go.Vc
open Go
/-- what the frame tells of a slice of integers that came in: nil; or a row of 'cap' cells, the numbers 'zs' (the first 'len' are its elements), each fitting its kind -/
def IsRow (k : IntKind) (w : World) (a : Option Addr) (len cap : Nat) (zs : List Int) : Prop :=
  (a = none ∧ len = 0 ∧ cap = 0 ∧ zs = []) ∨
  ∃ x, a = some x ∧ len ≤ cap ∧ cap ≤ maxLen ∧ zs.length = cap ∧ (∀ i, i < zs.length → w.cell? (x.add i) = some (.int k (zs.getD i 0))) ∧ ∀ n ∈ zs, (Lit.int k n).wf = true
theorem IsRow.read {k : IntKind} {w : World} {a : Option Addr} {len cap : Nat} {zs : List Int} (h : IsRow k w a len cap zs) : ReadS w a (zs.map (Value.int k)) := by
  rcases h with ⟨rfl, _, _, rfl⟩ | ⟨x, rfl, _, _, _, hc, _⟩
  · rfl
  · intro i v hv
    have hi : i < zs.length := by have := (List.getElem?_eq_some_iff.1 hv).1; simpa using this
    rw [hc i hi]
    simp [hi] at hv
    subst hv
    simp [List.getD_eq_getElem?_getD, hi]
theorem IsRow.len_le {k : IntKind} {w : World} {a : Option Addr} {len cap : Nat} {zs : List Int} (h : IsRow k w a len cap zs) : len ≤ zs.length ∧ zs.length = cap ∧ cap ≤ 9223372036854775807 := by
  rcases h with ⟨_, rfl, rfl, rfl⟩ | ⟨x, _, h1, h2, h3, _⟩
  · simp
  · simp only [maxLen] at h2; omega
theorem IsRow.rng64 {w : World} {a : Option Addr} {len cap : Nat} {zs : List Int} (h : IsRow .i64 w a len cap zs) (i : Nat) : -9223372036854775808 ≤ zs.getD i 0 ∧ zs.getD i 0 ≤ 9223372036854775807 := by
  rcases h with ⟨_, _, _, rfl⟩ | ⟨x, _, _, _, _, _, hw⟩
  · simp
  · rw [List.getD_eq_getElem?_getD]; exact range_i64 hw i
theorem IsRow.bytes {w : World} {a : Option Addr} {len cap : Nat} {zs : List Int} (h : IsRow .u8 w a len cap zs) : ∃ bs : List UInt8, zs = bs.map fun c => (c.toNat : Int) := by
  have hw : ∀ n ∈ zs, 0 ≤ n ∧ n ≤ 255 := by
    rcases h with ⟨_, _, _, rfl⟩ | ⟨x, _, _, _, _, _, hw⟩
    · simp
    · exact fun n hn => bounds_u8 (hw n hn)
  refine ⟨zs.map fun n => UInt8.ofNat n.toNat, ?_⟩
  rw [List.map_map]
  conv => lhs; rw [show zs = zs.map id from by simp]
  apply List.map_congr_left
  intro n hn
  have := hw n hn
  simp only [id, Function.comp, UInt8.toNat_ofNat']
  omega
end Go.Vc
/- bits: BitsOrder. -/
namespace Go.Vc
open Go Go.Proofs
set_option maxRecDepth 10000
variable {w : World}

def atI (pre : List Nat) : Int := match pre.getLast? with | some k => (k : Int) | none => -1
/-! ### As the rows want it -/
theorem Ret.calls {P : Program} {f : FuncId} {vs : List Value} {w : World} (h : Ret P f vs w (fun v w' => v = .bool true ∧ Kp [] w w')) : Calls P f ⟨vs⟩ w (fun e w' => e = .returned (.bool true) ∧ RowKit.Below w.heap.size w w') :=
  h.2.mono fun _ _ ⟨_, he, hv, kp⟩ => ⟨by rw [he, hv], kp.below⟩
theorem IsRow.ints {w : World} {a : Option Addr} {len cap : Nat} {zs : List Int} (h : IsRow .i64 w a len cap zs) : ReadS w a ((zs.take len).map I) ∧ (zs.take len).length = len ∧ ∀ x ∈ zs.take len, -9223372036854775808 ≤ x ∧ x ≤ 9223372036854775807 := by
  have hl := h.len_le
  refine ⟨?_, by simp; omega, fun x hx => ?_⟩
  · rw [List.map_take]; exact h.read.take len
  · obtain ⟨i, hi⟩ := List.getElem?_of_mem (List.mem_of_mem_take hx)
    have := h.rng64 i
    rw [List.getD_eq_getElem?_getD, hi] at this
    exact this
end Go.Vc
/- bits: BitsWords. -/
namespace Go.Vc
open Go Go.Proofs
set_option maxRecDepth 10000
variable {w : World}

section
variable {P : Program} {n : Nat} {e : Env} {K : EPost} {all : List Oper} {G : List Nat} {ro : Option Nat} {dst : Option Tmp} {ty : TypeId} {pos : String} {after : Array Edge} {g : Option (Nat × Bool)} {l : List Oper} {t : TypeId} {x y : Operand}
end
theorem wfU {x : Int} (h : (Lit.int .u64 x).wf = true) : 0 ≤ x ∧ x < 18446744073709551616 := by
  have := h
  simp [Lit.wf, IntKind.min, IntKind.max, IntKind.signed, IntKind.bits] at this
  omega
theorem IsRow.words {w : World} {a : Option Addr} {len cap : Nat} {zs : List Int} (h : IsRow .u64 w a len cap zs) : ∃ ws : List Nat, ReadS w a (ws.map U) ∧ ws.length = len ∧ WOk ws ∧ zs.take len = ws.map (fun (n : Nat) => (n : Int)) := by
  have hl := h.len_le
  have hw : ∀ x ∈ zs, 0 ≤ x ∧ x < 18446744073709551616 := by
    rcases h with ⟨_, _, _, rfl⟩ | ⟨x, _, _, _, _, _, hw⟩
    · simp
    · exact fun n hn => wfU (hw n hn)
  have hr := h.read.take len
  rw [← List.map_take] at hr
  have e1 : zs.take len = ((zs.take len).map Int.toNat).map (fun (n : Nat) => (n : Int)) := by
    rw [List.map_map]
    conv => lhs; rw [show zs.take len = (zs.take len).map id by simp]
    apply List.map_congr_left
    intro x hx
    have := hw x (List.mem_of_mem_take hx)
    simp only [id, Function.comp]; omega
  refine ⟨(zs.take len).map Int.toNat, ?_, by simp; omega, ?_, e1⟩
  · rw [e1] at hr
    rw [List.map_map] at hr
    have : (Value.int IntKind.u64 ∘ fun (n : Nat) => (n : Int)) = U := rfl
    rw [this] at hr; exact hr
  · intro y hy
    obtain ⟨x, hx, rfl⟩ := List.mem_map.1 hy
    have := hw x (List.mem_of_mem_take hx)
    omega
end Go.Vc
/- bits: families of sets that share nothing; BitsAlgebra. -/
namespace Go.Vc
open Go Go.Proofs
set_option maxRecDepth 10000
variable {w : World}

/-- a set's place and words -/
structure S4 where
  p : Nat
  ws : List Nat
  ad : Option Addr
  cap : Nat
def S4.blks (s : S4) : List Nat := s.p :: blkOf s.ad
def S4.At (w : World) (s : S4) : Prop := SetAt w s.p s.ws s.ad s.cap
/-- sets that share nothing -/
structure Fam (w : World) (L : List S4) : Prop where
  all : ∀ s ∈ L, S4.At w s
  apart : L.Pairwise fun s t => ∀ b, b ∈ s.blks → b ∉ t.blks
theorem Fam.kp {w' : World} {L : List S4} (h : Fam w L) {S : List Nat} (hk : Kp S w w') (hd : ∀ s ∈ L, ∀ b, b ∈ s.blks → b ∉ S) : Fam w' L := ⟨fun s hs => (h.all s hs).kp hk (hd s hs), h.apart⟩
theorem Fam.kp0 {w' : World} {L : List S4} (h : Fam w L) (hk : Kp [] w w') : Fam w' L := h.kp hk (by simp)
theorem Fam.sm {w' : World} {L : List S4} (h : Fam w L) (hs : Sm w w') : Fam w' L := h.kp0 (hs.kp [])
theorem Fam.nil : Fam w [] := ⟨by simp, List.Pairwise.nil⟩
theorem Fam.new {w' : World} {L : List S4} (h : Fam w L) {p : Nat} {ws : List Nat} {ad : Option Addr} {cap : Nat} (k : NewSet w p w' ws ad cap) : Fam w' (L ++ [⟨p, ws, ad, cap⟩]) := by
  have h' := h.kp0 k.kp
  refine ⟨fun s hs => ?_, ?_⟩
  · rcases List.mem_append.1 hs with h1 | h1
    · exact h'.all s h1
    · simp at h1; subst h1; exact k.at_
  · rw [List.pairwise_append]
    refine ⟨h.apart, by simp, fun s hs t ht b hb hb2 => ?_⟩
    simp at ht; subst ht
    have h1 := (h.all s hs).lt b hb
    have h2 := k.new b hb2
    omega
theorem Fam.to {w' : World} {L1 L2 : List S4} {s : S4} {ws : List Nat} {ad : Option Addr} {cap : Nat} (h : Fam w (L1 ++ s :: L2)) (k : SetTo w s.p s.ad w' ws ad cap) : Fam w' (L1 ++ ⟨s.p, ws, ad, cap⟩ :: L2) := by
  have ha := h.apart
  rw [List.pairwise_append, List.pairwise_cons] at ha
  obtain ⟨a1, ⟨a2, a3⟩, a4⟩ := ha
  have sub : ∀ b, b ∈ (S4.blks ⟨s.p, ws, ad, cap⟩) → b ∈ s.blks ∨ w.heap.size ≤ b := fun b hb => by
    rcases List.mem_cons.1 hb with rfl | hb
    · exact .inl (by simp [S4.blks])
    · rcases k.new b hb with h1 | h1
      · exact .inl (by simp [S4.blks, h1])
      · exact .inr h1
  have lt : ∀ t ∈ L1 ++ s :: L2, ∀ b, b ∈ t.blks → b < w.heap.size := fun t ht b hb => (h.all t ht).lt b hb
  refine ⟨fun t ht => ?_, ?_⟩
  · rcases List.mem_append.1 ht with h1 | h1
    · exact (h.all t (by simp [h1])).kp k.kp (fun b hb hb2 => a4 t h1 s (by simp) b hb hb2)
    · rcases List.mem_cons.1 h1 with rfl | h1
      · exact k.at_
      · exact (h.all t (by simp [h1])).kp k.kp (fun b hb hb2 => a2 t h1 b hb2 hb)
  · rw [List.pairwise_append, List.pairwise_cons]
    refine ⟨a1, ⟨fun t ht b hb hb2 => ?_, a3⟩, fun t ht u hu b hb hb2 => ?_⟩
    · rcases sub b hb with h1 | h1
      · exact a2 t ht b h1 hb2
      · have := lt t (by simp [ht]) b hb2; omega
    · rcases List.mem_cons.1 hu with rfl | hu
      · rcases sub b hb2 with h1 | h1
        · exact a4 t ht s (by simp) b hb h1
        · have := lt t (by simp [ht]) b hb; omega
      · exact a4 t ht u (by simp [hu]) b hb hb2
theorem Fam.two {L : List S4} (h : Fam w L) {s t : S4} {i j : Nat} (hi : L[i]? = some s) (hj : L[j]? = some t) (hne : i ≠ j) : Apart s.p s.ad t.p t.ad := by
  have ha := h.apart
  intro b hb hb2
  obtain ⟨h1, e1⟩ := List.getElem?_eq_some_iff.1 hi
  obtain ⟨h2, e2⟩ := List.getElem?_eq_some_iff.1 hj
  rw [List.pairwise_iff_getElem] at ha
  rcases Nat.lt_or_gt_of_ne hne with hlt | hlt
  · exact ha i j h1 h2 hlt b (by rw [e1]; exact hb2) (by rw [e2]; exact hb)
  · exact ha j i h2 h1 hlt b (by rw [e2]; exact hb) (by rw [e1]; exact hb2)
theorem Fam.get {L : List S4} (h : Fam w L) {s : S4} (i : Nat) (hi : L[i]? = some s) : SetAt w s.p s.ws s.ad s.cap := h.all s (List.mem_of_getElem? hi)

end Go.Vc
/- Loads and stores of structs and arrays: many cells at once. -/
namespace Go.Vc
open Go
variable {P : Program} {n : Nat} {a : Act} {e : Env} {w : World} {K : EPost} {X : List (Nat × EPost)} {R : EPost} {all : List Oper} {G : List Nat} {ro : Option Nat}

theorem Upd.trans {w1 w2 : World} {b : Nat} {o1 o2 : Obj} (h : Upd w b o1 w1) (k : Upd w1 b o2 w2) : Upd w b o2 w2 :=
  ⟨k.os.trans h.os, k.tape.trans h.tape, k.output.trans h.output, k.at_, fun c hc => (k.other c hc).trans (h.other c hc), Nat.le_trans h.size k.size, by have := h.size'; have := k.size'; omega⟩
theorem isAgg_run' {ty : TypeId} {d : TypeDesc} (hd : P.underlying ty = some d) (ha : aggD d = true) : (isAgg ty).run P w = .ok true w := by
  simp only [isAgg, Sem.run_bind, run_underlying hd, Result.andThen_ok]
  cases d <;> first | rfl | (cases ha)
theorem run_loadCells {ad : Addr} : ∀ (vs : List Value) (i : Nat) (acc : Array Value), (∀ j v, vs[j]? = some v → w.cell? (ad.add (i + j)) = some v) → (loadCellsFrom ad i vs.length acc).run P w = .ok (acc ++ ⟨vs⟩) w
  | [], i, acc, _ => by simp [loadCellsFrom]
  | v :: vs, i, acc, h => by
    have h0 := h 0 v rfl
    rw [Nat.add_zero] at h0
    have ih := run_loadCells vs (i + 1) (acc.push v) (fun j u hu => by
      have := h (j + 1) u (by simpa using hu)
      rwa [show i + (j + 1) = i + 1 + j by omega] at this)
    simp only [List.length_cons, loadCellsFrom, Sem.run_bind, run_load, h0, Result.andThen_ok, ih]
    congr 1
    apply Array.ext'
    simp
section
variable {dst : Option Tmp} {ty : TypeId} {pos : String} {after : Array Edge} {g : Option (Nat × Bool)} {l : List Oper} {t : TypeId} {x y : Operand} {b off : Nat} {d : TypeDesc} {i : TypeInfo}
theorem exec_loadA {vs : List Value} (hp : ev e x = .pointer (some ⟨b, off, none⟩)) (hu : P.underlying t = some d) (ha : aggD d = true) (hi : P.info? t = some i) (hs : i.size = vs.length) (hc : ∀ j v, vs[j]? = some v → w.cell? ⟨b, off + j, none⟩ = some v) :
    (execOp (ev e) ⟨dst, .load t x, ty, pos, after, g⟩).run P w = .ok (.value (.agg ⟨vs⟩)) w := by
  have hl := run_loadCells (P := P) (w := w) (ad := ⟨b, off, none⟩) vs 0 #[] (fun j v hv => by rw [addr_lit, Nat.zero_add]; exact hc j v hv)
  simp [execOp, hp, Instr.loadAt, Instr.sureAddr, loadVar, isAgg_run' hu ha, loadCells, sizeOf, typeInfo, hi, hs, hl]
theorem o_loadA {vs : List Value} (hp : ev e x = .pointer (some ⟨b, off, none⟩)) (hc : ∀ j v, vs[j]? = some v → w.cell? ⟨b, off + j, none⟩ = some v) (hu : P.underlying t = some d) (ha : aggD d = true) (hi : P.info? t = some i) (hs : i.size = vs.length) (hd : dOk n dst = true) (hm : may all G e g = some true)
    (k : Ops ro P n all G K l (put e dst (.agg ⟨vs⟩)) w) : Ops ro P n all G K (⟨dst, .load t x, ty, pos, after, g⟩ :: l) e w :=
  ops_does hd hm (exec_loadA hp hu ha hi hs hc) k
theorem q_loadA {C : World → Prop} {K : Env → Prop} {vs : List Value} (hp : ev e x = .pointer (some ⟨b, off, none⟩)) (hc : ∀ w, C w → ∀ j v, vs[j]? = some v → w.cell? ⟨b, off + j, none⟩ = some v) (hu : P.underlying t = some d) (ha : aggD d = true) (hi : P.info? t = some i) (hs : i.size = vs.length) (hd : dOk n dst = true) (hm : may all G e g = some true)
    (k : QOps P n all G C K l (put e dst (.agg ⟨vs⟩))) : QOps P n all G C K (⟨dst, .load t x, ty, pos, after, g⟩ :: l) e :=
  qops_does hd hm (fun w hw => exec_loadA hp hu ha hi hs (hc w hw)) k
theorem x_loadA {Fl : World → Prop} {r : List (Nat × Bool)} {j : Nat} {vs : List Value} (ho : nthO all j = some ⟨dst, .load t x, ty, pos, after, g⟩) (hp : ev e x = .pointer (some ⟨b, off, none⟩)) (hc : ∀ w, Fl w → ∀ j v, vs[j]? = some v → w.cell? ⟨b, off + j, none⟩ = some v) (hu : P.underlying t = some d) (ha : aggD d = true) (hi : P.info? t = some i) (hs : i.size = vs.length) (hd : dOk n dst = true) (hm : may all G e g = some true)
    (k : MOps ro P n all G Fl K r (put e dst (.agg ⟨vs⟩)) w) : MOps ro P n all G Fl K ((j, false) :: r) e w :=
  x_does ho hd hm (fun w hw => exec_loadA hp hu ha hi hs (hc w hw)) k
/-- these cells laid over a row from a place on -/
def setMany : List Value → Nat → List Value → List Value
  | L, _, [] => L
  | L, i, v :: r => setMany (L.set i v) (i + 1) r
theorem setMany_get : ∀ (cs L : List Value) (i j : Nat), i + cs.length ≤ L.length → (setMany L i cs)[j]? = if i ≤ j ∧ j < i + cs.length then cs[j - i]? else L[j]?
  | [], L, i, j, _ => by
    unfold setMany
    rw [if_neg (by simp only [List.length_nil]; omega)]
  | v :: r, L, i, j, h => by
    simp only [List.length_cons] at h
    unfold setMany
    rw [setMany_get r (L.set i v) (i + 1) j (by simp; omega)]
    by_cases h1 : i + 1 ≤ j ∧ j < i + 1 + r.length
    · rw [if_pos h1, if_pos (by simp only [List.length_cons]; omega)]
      obtain ⟨m, rfl⟩ : ∃ m, j = i + 1 + m := ⟨j - (i + 1), by omega⟩
      rw [show i + 1 + m - (i + 1) = m by omega, show i + 1 + m - i = m + 1 by omega]; rfl
    · rw [if_neg h1, List.getElem?_set]
      by_cases h2 : i = j
      · subst h2
        rw [if_pos rfl, if_pos (by omega), if_pos (by simp only [List.length_cons]; omega), Nat.sub_self]; rfl
      · rw [if_neg h2, if_neg (by simp only [List.length_cons]; omega)]
theorem run_storeCells {ad : Nat} {T : TypeId} : ∀ (cs : List Value) (L : List Value) (off i : Nat) (w : World), Blk w ad L T → off + i + cs.length ≤ L.length → (∀ v ∈ cs, v.oneCell' = true) →
    ∃ w', (storeCells ⟨ad, off, none⟩ cs i).run P w = .ok () w' ∧ Upd w ad (.cells ⟨setMany L (off + i) cs⟩ T (0, 0)) w'
  | [], L, off, i, w, hb, _, _ => ⟨w, rfl, ⟨rfl, rfl, rfl, hb, fun _ _ => rfl, Nat.le_refl _, by omega⟩⟩
  | v :: r, L, off, i, w, hb, hl, h1 => by
    simp only [List.length_cons] at hl
    have hv := h1 v (by simp)
    have hc : w.cell? ⟨ad, off + i, none⟩ = some L[off + i] := hb.cell (by rw [List.getElem?_eq_getElem])
    have hu := upd_setCell (off := off + i) hb v
    obtain ⟨w', hr, hu'⟩ := run_storeCells r (L.set (off + i) v) off (i + 1) _ hu.blk (by simp; omega) (fun u hu => h1 u (by simp [hu]))
    refine ⟨w', ?_, hu.trans hu'⟩
    simp only [storeCells, Sem.run_bind, addr_lit, run_store P w _ v _ hv, hc, hb.free]
    simpa using hr
/-- a struct is stored -/
theorem o_storeA {cs : List Value} {L : List Value} {T : TypeId} {c : Option Prop} (hp : ev e x = .pointer (some ⟨b, off, none⟩)) (hb : Blk w b L T) (ho : off + cs.length ≤ L.length) (hx : same (ev e y) = some (c, .agg ⟨cs⟩)) (h1 : ∀ v ∈ cs, v.oneCell' = true) (hi : P.info? t = some i) (hs : i.size = cs.length) (hd : dOk n dst = true) (hm : may all G e g = some true)
    (k : ∀ w', Upd w b (.cells ⟨setMany L off cs⟩ T (0, 0)) w' → Ops ro P n all G K l (put e dst undef) w') : Ops ro P n all G K (⟨dst, .store t x y, ty, pos, after, g⟩ :: l) e w := by
  obtain ⟨w', hr, hu⟩ := run_storeCells (P := P) cs L off 0 w hb (by omega) h1
  refine ops_skips (w' := w') hd hm ?_ (k _ hu)
  have hst : (storeVar t ⟨b, off, none⟩ (.agg ⟨cs⟩)).run P w = .ok () w' := by
    simp [storeVar, Value.cells, sizeOf, typeInfo, hi, hs, hr]
  simp [execOp, hp, ← same_eq hx, Instr.storeAt, Instr.sureAddr, hst]
end
end Go.Vc
/- bits: the document's lists: with, without, in, Copy; relations of the document in memory. -/
namespace Go.Vc
open Go Go.Proofs
set_option maxRecDepth 10000
variable {w : World}

/-! ### Rising lists -/
theorem sorted_ext : ∀ {a b : List Nat}, a.Pairwise (· < ·) → b.Pairwise (· < ·) → (∀ x, x ∈ a ↔ x ∈ b) → a = b
  | [], [], _, _, _ => rfl
  | [], y :: b, _, _, h => by have := (h y).2 (by simp); simp at this
  | x :: a, [], _, _, h => by have := (h x).1 (by simp); simp at this
  | x :: a, y :: b, ha, hb, h => by
    rw [List.pairwise_cons] at ha hb
    have hxy : x = y := by
      have h1 := (h x).1 (by simp)
      have h2 := (h y).2 (by simp)
      rcases List.mem_cons.1 h1 with e | h1
      · exact e
      · rcases List.mem_cons.1 h2 with e | h2
        · exact e.symm
        · have := ha.1 y h2; have := hb.1 x h1; omega
    subst hxy
    congr 1
    refine sorted_ext ha.2 hb.2 fun z => ?_
    constructor
    · intro hz
      rcases List.mem_cons.1 ((h z).1 (by simp [hz])) with e | h1
      · have := ha.1 z hz; omega
      · exact h1
    · intro hz
      rcases List.mem_cons.1 ((h z).2 (by simp [hz])) with e | h1
      · have := hb.1 z hz; omega
      · exact h1
def withL (l : List Nat) (n : Nat) : List Nat := l.filter (fun x => decide (x < n)) ++ n :: l.filter (fun x => decide (n < x))
theorem mem_withL {l : List Nat} {n x : Nat} : x ∈ withL l n ↔ x ∈ l ∨ x = n := by
  unfold withL
  simp only [List.mem_append, List.mem_cons, List.mem_filter, decide_eq_true_eq]
  constructor
  · rintro (⟨h, _⟩ | h | ⟨h, _⟩)
    · exact .inl h
    · exact .inr h
    · exact .inl h
  · rintro (h | h)
    · rcases Nat.lt_trichotomy x n with h1 | h1 | h1
      · exact .inl ⟨h, h1⟩
      · exact .inr (.inl h1)
      · exact .inr (.inr ⟨h, h1⟩)
    · exact .inr (.inl h)
theorem sorted_withL {l : List Nat} (h : l.Pairwise (· < ·)) (n : Nat) : (withL l n).Pairwise (· < ·) := by
  unfold withL
  rw [List.pairwise_append, List.pairwise_cons]
  refine ⟨h.filter _, ⟨fun x hx => ?_, h.filter _⟩, fun x hx y hy => ?_⟩
  · simpa using (List.mem_filter.1 hx).2
  · have h1 : x < n := by simpa using (List.mem_filter.1 hx).2
    rcases List.mem_cons.1 hy with rfl | hy
    · exact h1
    · have h2 : n < y := by simpa using (List.mem_filter.1 hy).2
      omega
theorem elems_withL {ws ws' : List Nat} {n : Nat} (h : ∀ j, bit ws' j = (bit ws j || decide (j = n))) : elems ws' = withL (elems ws) n :=
  sorted_ext (elems_sorted _) (sorted_withL (elems_sorted _) n) fun x => by
    rw [mem_withL, mem_elems, mem_elems, h, Bool.or_eq_true, decide_eq_true_eq]
end Go.Vc
/- bits: the document's sets: right, New, Put, Del, Has, Len, Next. -/
namespace Go.Vc
open Go Go.Proofs
set_option maxRecDepth 10000
variable {w : World}

/-- a set's pointer, or nil -/
def optr : Option Nat → Value
  | none => .pointer none
  | some q => ptr q
def rightB (n : Int) : Bool := decide (0 ≤ n) && decide (n < 1048576)
/-- rising, and each below the bound -/
structure Ris (l : List Nat) : Prop where
  sorted : l.Pairwise (· < ·)
  lt : ∀ x ∈ l, x < 1048576
theorem sorted_len {l : List Nat} {N : Nat} (hs : l.Pairwise (· < ·)) (hl : ∀ x ∈ l, x < N) : l.length ≤ N := by
  have e : l = (List.range N).filter (fun x => decide (x ∈ l)) :=
    sorted_ext hs (List.Pairwise.filter _ List.pairwise_lt_range) fun x =>
      ⟨fun hx => List.mem_filter.2 ⟨List.mem_range.2 (hl x hx), decide_eq_true hx⟩, fun hx => of_decide_eq_true (List.mem_filter.1 hx).2⟩
  rw [e]
  refine Nat.le_trans (List.length_filter_le _ _) ?_
  rw [List.length_range]; exact Nat.le_refl _
theorem Ris.len {l : List Nat} (h : Ris l) : l.length ≤ 1048576 := sorted_len h.sorted h.lt
theorem Ris.nil : Ris [] := ⟨List.Pairwise.nil, by simp⟩
theorem Ris.put {l : List Nat} (h : Ris l) {k : Nat} (hk : k < 1048576) : Ris (withL l k) :=
  ⟨sorted_withL h.sorted k, fun x hx => by
    rcases mem_withL.1 hx with hx | rfl
    · exact h.lt x hx
    · exact hk⟩
theorem Ris.filter {l : List Nat} (h : Ris l) (p : Nat → Bool) : Ris (l.filter p) := ⟨h.sorted.filter _, fun x hx => h.lt x (List.mem_filter.1 hx).1⟩
theorem elems_putW (ws : List Nat) (k : Nat) : elems (putW ws k) = withL (elems ws) k :=
  elems_withL fun j => by rw [bit_putW]; congr 1; simp [eq_comm]
theorem elems_delW {ws : List Nat} (hok : WOk ws) (k : Nat) : elems (delW ws k) = (elems ws).filter (fun x => decide (x ≠ k)) :=
  sorted_ext (elems_sorted _) ((elems_sorted _).filter _) fun x => by
    rw [List.mem_filter, mem_elems, mem_elems, bit_delW hok, Bool.and_eq_true, Bool.not_eq_true', decide_eq_false_iff_not, decide_eq_true_eq]
    exact and_congr_right fun _ => ⟨fun h e => h e.symm, fun h e => h e.symm⟩

section
variable {p : Nat} {l : List Nat} {ad : Option Addr} {cap : Nat}
/-- the first that is not below n -/
def nextL (l : List Nat) (n : Int) : Value := match l.find? (fun (x : Nat) => decide (n ≤ (x : Int))) with
  | some x => .tuple #[I x, .bool true]
  | none => .tuple #[I 0, .bool false]
end
end Go.Vc
