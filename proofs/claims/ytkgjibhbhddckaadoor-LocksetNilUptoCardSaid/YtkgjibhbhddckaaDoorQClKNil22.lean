/- bits: families of sets that share nothing; BitsAlgebra. -/
import Derived.Test.YtkgjibhbhddckaaDoorQClKNil21
import Derived.Test.YtkgjibhbhddckaaDoorQClKNil19
namespace Go.Vc
open Go Go.Proofs
set_option maxRecDepth 10000
variable {w : World}

/-- a set's place and words -/
structure S4 where
  p : Nat
  ws : List Nat
  ad : Option Addr
  cap : Nat
def S4.blks (s : S4) : List Nat := s.p :: blkOf s.ad
def S4.At (w : World) (s : S4) : Prop := SetAt w s.p s.ws s.ad s.cap
/-- sets that share nothing -/
structure Fam (w : World) (L : List S4) : Prop where
  all : ∀ s ∈ L, S4.At w s
  apart : L.Pairwise fun s t => ∀ b, b ∈ s.blks → b ∉ t.blks
theorem Fam.kp {w' : World} {L : List S4} (h : Fam w L) {S : List Nat} (hk : Kp S w w') (hd : ∀ s ∈ L, ∀ b, b ∈ s.blks → b ∉ S) : Fam w' L := ⟨fun s hs => (h.all s hs).kp hk (hd s hs), h.apart⟩
theorem Fam.kp0 {w' : World} {L : List S4} (h : Fam w L) (hk : Kp [] w w') : Fam w' L := h.kp hk (by simp)
theorem Fam.sm {w' : World} {L : List S4} (h : Fam w L) (hs : Sm w w') : Fam w' L := h.kp0 (hs.kp [])
theorem Fam.nil : Fam w [] := ⟨by simp, List.Pairwise.nil⟩
theorem Fam.new {w' : World} {L : List S4} (h : Fam w L) {p : Nat} {ws : List Nat} {ad : Option Addr} {cap : Nat} (k : NewSet w p w' ws ad cap) : Fam w' (L ++ [⟨p, ws, ad, cap⟩]) := by
  have h' := h.kp0 k.kp
  refine ⟨fun s hs => ?_, ?_⟩
  · rcases List.mem_append.1 hs with h1 | h1
    · exact h'.all s h1
    · simp at h1; subst h1; exact k.at_
  · rw [List.pairwise_append]
    refine ⟨h.apart, by simp, fun s hs t ht b hb hb2 => ?_⟩
    simp at ht; subst ht
    have h1 := (h.all s hs).lt b hb
    have h2 := k.new b hb2
    omega
theorem Fam.to {w' : World} {L1 L2 : List S4} {s : S4} {ws : List Nat} {ad : Option Addr} {cap : Nat} (h : Fam w (L1 ++ s :: L2)) (k : SetTo w s.p s.ad w' ws ad cap) : Fam w' (L1 ++ ⟨s.p, ws, ad, cap⟩ :: L2) := by
  have ha := h.apart
  rw [List.pairwise_append, List.pairwise_cons] at ha
  obtain ⟨a1, ⟨a2, a3⟩, a4⟩ := ha
  have sub : ∀ b, b ∈ (S4.blks ⟨s.p, ws, ad, cap⟩) → b ∈ s.blks ∨ w.heap.size ≤ b := fun b hb => by
    rcases List.mem_cons.1 hb with rfl | hb
    · exact .inl (by simp [S4.blks])
    · rcases k.new b hb with h1 | h1
      · exact .inl (by simp [S4.blks, h1])
      · exact .inr h1
  have lt : ∀ t ∈ L1 ++ s :: L2, ∀ b, b ∈ t.blks → b < w.heap.size := fun t ht b hb => (h.all t ht).lt b hb
  refine ⟨fun t ht => ?_, ?_⟩
  · rcases List.mem_append.1 ht with h1 | h1
    · exact (h.all t (by simp [h1])).kp k.kp (fun b hb hb2 => a4 t h1 s (by simp) b hb hb2)
    · rcases List.mem_cons.1 h1 with rfl | h1
      · exact k.at_
      · exact (h.all t (by simp [h1])).kp k.kp (fun b hb hb2 => a2 t h1 b hb2 hb)
  · rw [List.pairwise_append, List.pairwise_cons]
    refine ⟨a1, ⟨fun t ht b hb hb2 => ?_, a3⟩, fun t ht u hu b hb hb2 => ?_⟩
    · rcases sub b hb with h1 | h1
      · exact a2 t ht b h1 hb2
      · have := lt t (by simp [ht]) b hb2; omega
    · rcases List.mem_cons.1 hu with rfl | hu
      · rcases sub b hb2 with h1 | h1
        · exact a4 t ht s (by simp) b hb h1
        · have := lt t (by simp [ht]) b hb; omega
      · exact a4 t ht u (by simp [hu]) b hb hb2
theorem Fam.two {L : List S4} (h : Fam w L) {s t : S4} {i j : Nat} (hi : L[i]? = some s) (hj : L[j]? = some t) (hne : i ≠ j) : Apart s.p s.ad t.p t.ad := by
  have ha := h.apart
  intro b hb hb2
  obtain ⟨h1, e1⟩ := List.getElem?_eq_some_iff.1 hi
  obtain ⟨h2, e2⟩ := List.getElem?_eq_some_iff.1 hj
  rw [List.pairwise_iff_getElem] at ha
  rcases Nat.lt_or_gt_of_ne hne with hlt | hlt
  · exact ha i j h1 h2 hlt b (by rw [e1]; exact hb2) (by rw [e2]; exact hb)
  · exact ha j i h2 h1 hlt b (by rw [e2]; exact hb) (by rw [e1]; exact hb2)
theorem Fam.get {L : List S4} (h : Fam w L) {s : S4} (i : Nat) (hi : L[i]? = some s) : SetAt w s.p s.ws s.ad s.cap := h.all s (List.mem_of_getElem? hi)

end Go.Vc
/- Loads and stores of structs and arrays: many cells at once. -/
namespace Go.Vc
open Go
variable {P : Program} {n : Nat} {a : Act} {e : Env} {w : World} {K : EPost} {X : List (Nat × EPost)} {R : EPost} {all : List Oper} {G : List Nat} {ro : Option Nat}

theorem Upd.trans {w1 w2 : World} {b : Nat} {o1 o2 : Obj} (h : Upd w b o1 w1) (k : Upd w1 b o2 w2) : Upd w b o2 w2 :=
  ⟨k.os.trans h.os, k.tape.trans h.tape, k.output.trans h.output, k.at_, fun c hc => (k.other c hc).trans (h.other c hc), Nat.le_trans h.size k.size, by have := h.size'; have := k.size'; omega⟩
theorem isAgg_run' {ty : TypeId} {d : TypeDesc} (hd : P.underlying ty = some d) (ha : aggD d = true) : (isAgg ty).run P w = .ok true w := by
  simp only [isAgg, Sem.run_bind, run_underlying hd, Result.andThen_ok]
  cases d <;> first | rfl | (cases ha)
theorem run_loadCells {ad : Addr} : ∀ (vs : List Value) (i : Nat) (acc : Array Value), (∀ j v, vs[j]? = some v → w.cell? (ad.add (i + j)) = some v) → (loadCellsFrom ad i vs.length acc).run P w = .ok (acc ++ ⟨vs⟩) w
  | [], i, acc, _ => by simp [loadCellsFrom]
  | v :: vs, i, acc, h => by
    have h0 := h 0 v rfl
    rw [Nat.add_zero] at h0
    have ih := run_loadCells vs (i + 1) (acc.push v) (fun j u hu => by
      have := h (j + 1) u (by simpa using hu)
      rwa [show i + (j + 1) = i + 1 + j by omega] at this)
    simp only [List.length_cons, loadCellsFrom, Sem.run_bind, run_load, h0, Result.andThen_ok, ih]
    congr 1
    apply Array.ext'
    simp
section
variable {dst : Option Tmp} {ty : TypeId} {pos : String} {after : Array Edge} {g : Option (Nat × Bool)} {l : List Oper} {t : TypeId} {x y : Operand} {b off : Nat} {d : TypeDesc} {i : TypeInfo}
theorem exec_loadA {vs : List Value} (hp : ev e x = .pointer (some ⟨b, off, none⟩)) (hu : P.underlying t = some d) (ha : aggD d = true) (hi : P.info? t = some i) (hs : i.size = vs.length) (hc : ∀ j v, vs[j]? = some v → w.cell? ⟨b, off + j, none⟩ = some v) :
    (execOp (ev e) ⟨dst, .load t x, ty, pos, after, g⟩).run P w = .ok (.value (.agg ⟨vs⟩)) w := by
  have hl := run_loadCells (P := P) (w := w) (ad := ⟨b, off, none⟩) vs 0 #[] (fun j v hv => by rw [addr_lit, Nat.zero_add]; exact hc j v hv)
  simp [execOp, hp, Instr.loadAt, Instr.sureAddr, loadVar, isAgg_run' hu ha, loadCells, sizeOf, typeInfo, hi, hs, hl]
theorem o_loadA {vs : List Value} (hp : ev e x = .pointer (some ⟨b, off, none⟩)) (hc : ∀ j v, vs[j]? = some v → w.cell? ⟨b, off + j, none⟩ = some v) (hu : P.underlying t = some d) (ha : aggD d = true) (hi : P.info? t = some i) (hs : i.size = vs.length) (hd : dOk n dst = true) (hm : may all G e g = some true)
    (k : Ops ro P n all G K l (put e dst (.agg ⟨vs⟩)) w) : Ops ro P n all G K (⟨dst, .load t x, ty, pos, after, g⟩ :: l) e w :=
  ops_does hd hm (exec_loadA hp hu ha hi hs hc) k
theorem q_loadA {C : World → Prop} {K : Env → Prop} {vs : List Value} (hp : ev e x = .pointer (some ⟨b, off, none⟩)) (hc : ∀ w, C w → ∀ j v, vs[j]? = some v → w.cell? ⟨b, off + j, none⟩ = some v) (hu : P.underlying t = some d) (ha : aggD d = true) (hi : P.info? t = some i) (hs : i.size = vs.length) (hd : dOk n dst = true) (hm : may all G e g = some true)
    (k : QOps P n all G C K l (put e dst (.agg ⟨vs⟩))) : QOps P n all G C K (⟨dst, .load t x, ty, pos, after, g⟩ :: l) e :=
  qops_does hd hm (fun w hw => exec_loadA hp hu ha hi hs (hc w hw)) k
theorem x_loadA {Fl : World → Prop} {r : List (Nat × Bool)} {j : Nat} {vs : List Value} (ho : nthO all j = some ⟨dst, .load t x, ty, pos, after, g⟩) (hp : ev e x = .pointer (some ⟨b, off, none⟩)) (hc : ∀ w, Fl w → ∀ j v, vs[j]? = some v → w.cell? ⟨b, off + j, none⟩ = some v) (hu : P.underlying t = some d) (ha : aggD d = true) (hi : P.info? t = some i) (hs : i.size = vs.length) (hd : dOk n dst = true) (hm : may all G e g = some true)
    (k : MOps ro P n all G Fl K r (put e dst (.agg ⟨vs⟩)) w) : MOps ro P n all G Fl K ((j, false) :: r) e w :=
  x_does ho hd hm (fun w hw => exec_loadA hp hu ha hi hs (hc w hw)) k
/-- these cells laid over a row from a place on -/
def setMany : List Value → Nat → List Value → List Value
  | L, _, [] => L
  | L, i, v :: r => setMany (L.set i v) (i + 1) r
theorem setMany_len : ∀ (cs L : List Value) (i : Nat), (setMany L i cs).length = L.length
  | [], _, _ => rfl
  | v :: r, L, i => by unfold setMany; rw [setMany_len r]; simp
theorem setMany_get : ∀ (cs L : List Value) (i j : Nat), i + cs.length ≤ L.length → (setMany L i cs)[j]? = if i ≤ j ∧ j < i + cs.length then cs[j - i]? else L[j]?
  | [], L, i, j, _ => by
    unfold setMany
    rw [if_neg (by simp only [List.length_nil]; omega)]
  | v :: r, L, i, j, h => by
    simp only [List.length_cons] at h
    unfold setMany
    rw [setMany_get r (L.set i v) (i + 1) j (by simp; omega)]
    by_cases h1 : i + 1 ≤ j ∧ j < i + 1 + r.length
    · rw [if_pos h1, if_pos (by simp only [List.length_cons]; omega)]
      obtain ⟨m, rfl⟩ : ∃ m, j = i + 1 + m := ⟨j - (i + 1), by omega⟩
      rw [show i + 1 + m - (i + 1) = m by omega, show i + 1 + m - i = m + 1 by omega]; rfl
    · rw [if_neg h1, List.getElem?_set]
      by_cases h2 : i = j
      · subst h2
        rw [if_pos rfl, if_pos (by omega), if_pos (by simp only [List.length_cons]; omega), Nat.sub_self]; rfl
      · rw [if_neg h2, if_neg (by simp only [List.length_cons]; omega)]
theorem run_storeCells {ad : Nat} {T : TypeId} : ∀ (cs : List Value) (L : List Value) (off i : Nat) (w : World), Blk w ad L T → off + i + cs.length ≤ L.length → (∀ v ∈ cs, v.oneCell' = true) →
    ∃ w', (storeCells ⟨ad, off, none⟩ cs i).run P w = .ok () w' ∧ Upd w ad (.cells ⟨setMany L (off + i) cs⟩ T (0, 0)) w'
  | [], L, off, i, w, hb, _, _ => ⟨w, rfl, ⟨rfl, rfl, rfl, hb, fun _ _ => rfl, Nat.le_refl _, by omega⟩⟩
  | v :: r, L, off, i, w, hb, hl, h1 => by
    simp only [List.length_cons] at hl
    have hv := h1 v (by simp)
    have hc : w.cell? ⟨ad, off + i, none⟩ = some L[off + i] := hb.cell (by rw [List.getElem?_eq_getElem])
    have hu := upd_setCell (off := off + i) hb v
    obtain ⟨w', hr, hu'⟩ := run_storeCells r (L.set (off + i) v) off (i + 1) _ hu.blk (by simp; omega) (fun u hu => h1 u (by simp [hu]))
    refine ⟨w', ?_, hu.trans hu'⟩
    simp only [storeCells, Sem.run_bind, addr_lit, run_store P w _ v _ hv, hc, hb.free]
    simpa using hr
/-- a struct is stored -/
theorem o_storeA {cs : List Value} {L : List Value} {T : TypeId} {c : Option Prop} (hp : ev e x = .pointer (some ⟨b, off, none⟩)) (hb : Blk w b L T) (ho : off + cs.length ≤ L.length) (hx : same (ev e y) = some (c, .agg ⟨cs⟩)) (h1 : ∀ v ∈ cs, v.oneCell' = true) (hi : P.info? t = some i) (hs : i.size = cs.length) (hd : dOk n dst = true) (hm : may all G e g = some true)
    (k : ∀ w', Upd w b (.cells ⟨setMany L off cs⟩ T (0, 0)) w' → Ops ro P n all G K l (put e dst undef) w') : Ops ro P n all G K (⟨dst, .store t x y, ty, pos, after, g⟩ :: l) e w := by
  obtain ⟨w', hr, hu⟩ := run_storeCells (P := P) cs L off 0 w hb (by omega) h1
  refine ops_skips (w' := w') hd hm ?_ (k _ hu)
  have hst : (storeVar t ⟨b, off, none⟩ (.agg ⟨cs⟩)).run P w = .ok () w' := by
    simp [storeVar, Value.cells, sizeOf, typeInfo, hi, hs, hr]
  simp [execOp, hp, ← same_eq hx, Instr.storeAt, Instr.sureAddr, hst]
end
end Go.Vc
/- bits: the document's lists: with, without, in, Copy; relations of the document in memory. -/
namespace Go.Vc
open Go Go.Proofs
set_option maxRecDepth 10000
variable {w : World}

/-! ### Rising lists -/
theorem sorted_ext : ∀ {a b : List Nat}, a.Pairwise (· < ·) → b.Pairwise (· < ·) → (∀ x, x ∈ a ↔ x ∈ b) → a = b
  | [], [], _, _, _ => rfl
  | [], y :: b, _, _, h => by have := (h y).2 (by simp); simp at this
  | x :: a, [], _, _, h => by have := (h x).1 (by simp); simp at this
  | x :: a, y :: b, ha, hb, h => by
    rw [List.pairwise_cons] at ha hb
    have hxy : x = y := by
      have h1 := (h x).1 (by simp)
      have h2 := (h y).2 (by simp)
      rcases List.mem_cons.1 h1 with e | h1
      · exact e
      · rcases List.mem_cons.1 h2 with e | h2
        · exact e.symm
        · have := ha.1 y h2; have := hb.1 x h1; omega
    subst hxy
    congr 1
    refine sorted_ext ha.2 hb.2 fun z => ?_
    constructor
    · intro hz
      rcases List.mem_cons.1 ((h z).1 (by simp [hz])) with e | h1
      · have := ha.1 z hz; omega
      · exact h1
    · intro hz
      rcases List.mem_cons.1 ((h z).2 (by simp [hz])) with e | h1
      · have := hb.1 z hz; omega
      · exact h1
def withL (l : List Nat) (n : Nat) : List Nat := l.filter (fun x => decide (x < n)) ++ n :: l.filter (fun x => decide (n < x))
theorem mem_withL {l : List Nat} {n x : Nat} : x ∈ withL l n ↔ x ∈ l ∨ x = n := by
  unfold withL
  simp only [List.mem_append, List.mem_cons, List.mem_filter, decide_eq_true_eq]
  constructor
  · rintro (⟨h, _⟩ | h | ⟨h, _⟩)
    · exact .inl h
    · exact .inr h
    · exact .inl h
  · rintro (h | h)
    · rcases Nat.lt_trichotomy x n with h1 | h1 | h1
      · exact .inl ⟨h, h1⟩
      · exact .inr (.inl h1)
      · exact .inr (.inr ⟨h, h1⟩)
    · exact .inr (.inl h)
theorem sorted_withL {l : List Nat} (h : l.Pairwise (· < ·)) (n : Nat) : (withL l n).Pairwise (· < ·) := by
  unfold withL
  rw [List.pairwise_append, List.pairwise_cons]
  refine ⟨h.filter _, ⟨fun x hx => ?_, h.filter _⟩, fun x hx y hy => ?_⟩
  · simpa using (List.mem_filter.1 hx).2
  · have h1 : x < n := by simpa using (List.mem_filter.1 hx).2
    rcases List.mem_cons.1 hy with rfl | hy
    · exact h1
    · have h2 : n < y := by simpa using (List.mem_filter.1 hy).2
      omega
theorem withL_len (l : List Nat) (n : Nat) : (withL l n).length ≤ l.length + 1 := by
  unfold withL
  rw [List.length_append, List.length_cons]
  have : (l.filter fun x => decide (x < n)).length + (l.filter fun x => decide (n < x)).length ≤ l.length := by
    induction l with
    | nil => simp
    | cons y r ih =>
      simp only [List.filter_cons]
      by_cases h1 : y < n
      · have : ¬ n < y := by omega
        simp [h1, this]; omega
      · by_cases h2 : n < y
        · simp [h1, h2]; omega
        · simp [h1, h2]; omega
  omega
theorem elems_withL {ws ws' : List Nat} {n : Nat} (h : ∀ j, bit ws' j = (bit ws j || decide (j = n))) : elems ws' = withL (elems ws) n :=
  sorted_ext (elems_sorted _) (sorted_withL (elems_sorted _) n) fun x => by
    rw [mem_withL, mem_elems, mem_elems, h, Bool.or_eq_true, decide_eq_true_eq]
end Go.Vc
/- bits: the document's sets: right, New, Put, Del, Has, Len, Next. -/
namespace Go.Vc
open Go Go.Proofs
set_option maxRecDepth 10000
variable {w : World}

/-- a set's pointer, or nil -/
def optr : Option Nat → Value
  | none => .pointer none
  | some q => ptr q
def rightB (n : Int) : Bool := decide (0 ≤ n) && decide (n < 1048576)
theorem rightB_nat {n : Int} (h : rightB n = true) : ∃ k : Nat, n = (k : Int) ∧ k < 1048576 := by
  unfold rightB at h
  simp at h
  exact ⟨n.toNat, by omega, by omega⟩
theorem rightB_bad {n : Int} (h : rightB n = false) : n < 0 ∨ 1048576 ≤ n := by
  unfold rightB at h
  simp at h
  omega
theorem rightB_of {k : Nat} (h : k < 1048576) : rightB (k : Int) = true := by
  unfold rightB; simp; omega
theorem allOk_iff (l : List Int) : allOk l = l.all rightB := rfl
/-- rising, and each below the bound -/
structure Ris (l : List Nat) : Prop where
  sorted : l.Pairwise (· < ·)
  lt : ∀ x ∈ l, x < 1048576
theorem sorted_len {l : List Nat} {N : Nat} (hs : l.Pairwise (· < ·)) (hl : ∀ x ∈ l, x < N) : l.length ≤ N := by
  have e : l = (List.range N).filter (fun x => decide (x ∈ l)) :=
    sorted_ext hs (List.Pairwise.filter _ List.pairwise_lt_range) fun x =>
      ⟨fun hx => List.mem_filter.2 ⟨List.mem_range.2 (hl x hx), decide_eq_true hx⟩, fun hx => of_decide_eq_true (List.mem_filter.1 hx).2⟩
  rw [e]
  refine Nat.le_trans (List.length_filter_le _ _) ?_
  rw [List.length_range]; exact Nat.le_refl _
theorem Ris.len {l : List Nat} (h : Ris l) : l.length ≤ 1048576 := sorted_len h.sorted h.lt
theorem Ris.nil : Ris [] := ⟨List.Pairwise.nil, by simp⟩
theorem Ris.put {l : List Nat} (h : Ris l) {k : Nat} (hk : k < 1048576) : Ris (withL l k) :=
  ⟨sorted_withL h.sorted k, fun x hx => by
    rcases mem_withL.1 hx with hx | rfl
    · exact h.lt x hx
    · exact hk⟩
theorem Ris.filter {l : List Nat} (h : Ris l) (p : Nat → Bool) : Ris (l.filter p) := ⟨h.sorted.filter _, fun x hx => h.lt x (List.mem_filter.1 hx).1⟩
theorem ris_elems {ws : List Nat} (h : ws.length ≤ 16384) : Ris (elems ws) := ⟨elems_sorted ws, elems_lt h⟩
theorem elems_putW (ws : List Nat) (k : Nat) : elems (putW ws k) = withL (elems ws) k :=
  elems_withL fun j => by rw [bit_putW]; congr 1; simp [eq_comm]
theorem elems_delW {ws : List Nat} (hok : WOk ws) (k : Nat) : elems (delW ws k) = (elems ws).filter (fun x => decide (x ≠ k)) :=
  sorted_ext (elems_sorted _) ((elems_sorted _).filter _) fun x => by
    rw [List.mem_filter, mem_elems, mem_elems, bit_delW hok, Bool.and_eq_true, Bool.not_eq_true', decide_eq_false_iff_not, decide_eq_true_eq]
    exact and_congr_right fun _ => ⟨fun h e => h e.symm, fun h e => h e.symm⟩

section
variable {p : Nat} {l : List Nat} {ad : Option Addr} {cap : Nat}
/-- the first that is not below n -/
def nextL (l : List Nat) (n : Int) : Value := match l.find? (fun (x : Nat) => decide (n ≤ (x : Int))) with
  | some x => .tuple #[I x, .bool true]
  | none => .tuple #[I 0, .bool false]
end
end Go.Vc
