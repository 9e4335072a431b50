/- Parts of a proof. -/
import Derived.Test.YtkgngbpkiklckaaGreatDoorQClQExact6
set_option maxHeartbeats 12800000
namespace Go.Vc
open Go
variable {P : Program} {n : Nat} {a : Act} {e : Env} {w : World} {K : Jc0} {X : List (Nat × Jc0)} {R : Jc0} {all : List Oper} {G : List Nat} {ro : Ro}
theorem Upd.trans {w1 w2 : World} {b : Nat} {o1 o2 : Obj} (h : Upd w b o1 w1) (k : Upd w1 b o2 w2) : Upd w b o2 w2 :=
 ⟨k.os.trans h.os, k.tape.trans h.tape, k.output.trans h.output, k.at_, fun c hc => (k.other c hc).trans (h.other c hc), Nat.le_trans h.size k.size, by have := h.size'; have := k.size'; omega⟩
theorem Qm2 {ty : TypeId} {d : TypeDesc} (hd : P.underlying ty = some d) (ha : aggD d = true) : (isAgg ty).run P w = .ok true w := by
 simp only [isAgg, Sem.run_bind, run_underlying hd, Result.andThen_ok]
 cases d <;> first | rfl | (cases ha)
theorem Jp9 {ad : Addr} : ∀ (vs : List Value) (i : Nat) (acc : Array Value), (∀ j v, vs[j]? = some v → w.cell? (ad.add (i + j)) = some v) → (loadCellsFrom ad i vs.length acc).run P w = .ok (acc ++ ⟨vs⟩) w
 | [], i, acc, _ => by simp [loadCellsFrom]
 | v :: vs, i, acc, h => by
  have h0 := h 0 v rfl
  rw [Nat.add_zero] at h0
  have ih := Jp9 vs (i + 1) (acc.push v) (fun j u hu => by
   have := h (j + 1) u (by simpa using hu)
   rwa [show i + (j + 1) = i + 1 + j by omega] at this)
  simp only [List.length_cons, loadCellsFrom, Sem.run_bind, run_load, h0, Result.andThen_ok, ih]
  congr 1
  apply Array.ext'
  simp
section
variable {dst : Option Tmp} {ty : TypeId} {pos : String} {after : Array Edge} {g : Option (Nat × Bool)} {l : List Oper} {t : TypeId} {x y : Operand} {b off : Nat} {d : TypeDesc} {i : TypeInfo}
theorem Qb1 {vs : List Value} (hp : ev e x = .pointer (some ⟨b, off, none⟩)) (hu : P.underlying t = some d) (ha : aggD d = true) (hi : P.info? t = some i) (hs : i.size = vs.length) (hc : ∀ j v, vs[j]? = some v → w.cell? ⟨b, off + j, none⟩ = some v) :
  (execOp (ev e) ⟨dst, .load t x, ty, pos, after, g⟩).run P w = .ok (.value (.agg ⟨vs⟩)) w := by
 have hl := Jp9 (P := P) (w := w) (ad := ⟨b, off, none⟩) vs 0 #[] (fun j v hv => by rw [Jc1, Nat.zero_add]; exact hc j v hv)
 simp [execOp, hp, Instr.loadAt, Instr.sureAddr, loadVar, Qm2 hu ha, loadCells, sizeOf, typeInfo, hi, hs, hl]
theorem Jq2 {vs : List Value} (hp : ev e x = .pointer (some ⟨b, off, none⟩)) (hc : ∀ j v, vs[j]? = some v → w.cell? ⟨b, off + j, none⟩ = some v) (hu : P.underlying t = some d) (ha : aggD d = true) (hi : P.info? t = some i) (hs : i.size = vs.length) (hd : dOk n dst = true) (hm : may all G e g = some true)
  (k : Ops ro P n all G K l (put e dst (.agg ⟨vs⟩)) w) : Ops ro P n all G K (⟨dst, .load t x, ty, pos, after, g⟩ :: l) e w :=
 Jb5 hd hm (Qb1 hp hu ha hi hs hc) k
theorem Zm {vs : List Value} (hp : ev e x = .pointer (some ⟨b, off, none⟩)) (hc : ∀ j v, vs[j]? = some v → w.cell? ⟨b, off + j, none⟩ = some v) (k : Ops ro P n all G K l (put e dst (.agg ⟨vs⟩)) w) (hu : P.underlying t = some d := by exact rfl) (ha : aggD d = true := by exact rfl) (hi : P.info? t = some i := by exact rfl) (hs : i.size = vs.length := by exact rfl) (hd : dOk n dst = true := by exact rfl) (hm : may all G e g = some true := by exact rfl) : Ops ro P n all G K (⟨dst, .load t x, ty, pos, after, g⟩ :: l) e w := Jq2 hp hc hu ha hi hs hd hm k
theorem q_loadA {C : World → Prop} {K : Env → Prop} {vs : List Value} (hp : ev e x = .pointer (some ⟨b, off, none⟩)) (hc : ∀ w, C w → ∀ j v, vs[j]? = some v → w.cell? ⟨b, off + j, none⟩ = some v) (hu : P.underlying t = some d) (ha : aggD d = true) (hi : P.info? t = some i) (hs : i.size = vs.length) (hd : dOk n dst = true) (hm : may all G e g = some true)
  (k : QOps P n all G C K l (put e dst (.agg ⟨vs⟩))) : QOps P n all G C K (⟨dst, .load t x, ty, pos, after, g⟩ :: l) e :=
 Jl1 hd hm (fun w hw => Qb1 hp hu ha hi hs (hc w hw)) k
theorem Zw {C : World → Prop} {K : Env → Prop} {vs : List Value} (hp : ev e x = .pointer (some ⟨b, off, none⟩)) (hc : ∀ w, C w → ∀ j v, vs[j]? = some v → w.cell? ⟨b, off + j, none⟩ = some v) (k : QOps P n all G C K l (put e dst (.agg ⟨vs⟩))) (hu : P.underlying t = some d := by exact rfl) (ha : aggD d = true := by exact rfl) (hi : P.info? t = some i := by exact rfl) (hs : i.size = vs.length := by exact rfl) (hd : dOk n dst = true := by exact rfl) (hm : may all G e g = some true := by exact rfl) : QOps P n all G C K (⟨dst, .load t x, ty, pos, after, g⟩ :: l) e := q_loadA hp hc hu ha hi hs hd hm k
theorem x_loadA {Fl : World → Prop} {r : List (Nat × Bool)} {j : Nat} {vs : List Value} (ho : nthO all j = some ⟨dst, .load t x, ty, pos, after, g⟩) (hp : ev e x = .pointer (some ⟨b, off, none⟩)) (hc : ∀ w, Fl w → ∀ j v, vs[j]? = some v → w.cell? ⟨b, off + j, none⟩ = some v) (hu : P.underlying t = some d) (ha : aggD d = true) (hi : P.info? t = some i) (hs : i.size = vs.length) (hd : dOk n dst = true) (hm : may all G e g = some true)
  (k : MOps ro P n all G Fl K r (put e dst (.agg ⟨vs⟩)) w) : MOps ro P n all G Fl K ((j, false) :: r) e w :=
 Qf0 ho hd hm (fun w hw => Qb1 hp hu ha hi hs (hc w hw)) k
theorem Zz {Fl : World → Prop} {r : List (Nat × Bool)} {j : Nat} {vs : List Value} (ho : nthO all j = some ⟨dst, .load t x, ty, pos, after, g⟩) (hp : ev e x = .pointer (some ⟨b, off, none⟩)) (hc : ∀ w, Fl w → ∀ j v, vs[j]? = some v → w.cell? ⟨b, off + j, none⟩ = some v) (k : MOps ro P n all G Fl K r (put e dst (.agg ⟨vs⟩)) w) (hu : P.underlying t = some d := by exact rfl) (ha : aggD d = true := by exact rfl) (hi : P.info? t = some i := by exact rfl) (hs : i.size = vs.length := by exact rfl) (hd : dOk n dst = true := by exact rfl) (hm : may all G e g = some true := by exact rfl) : MOps ro P n all G Fl K ((j, false) :: r) e w := x_loadA ho hp hc hu ha hi hs hd hm k
def Jg0 : List Value → Nat → List Value → List Value
 | L, _, [] => L
 | L, i, v :: r => Jg0 (L.set i v) (i + 1) r
theorem Jv4 : ∀ (cs L : List Value) (i j : Nat), i + cs.length ≤ L.length → (Jg0 L i cs)[j]? = if i ≤ j ∧ j < i + cs.length then cs[j - i]? else L[j]?
 | [], L, i, j, _ => by
  unfold Jg0
  rw [if_neg (by simp only [List.length_nil]; omega)]
 | v :: r, L, i, j, h => by
  simp only [List.length_cons] at h
  unfold Jg0
  rw [Jv4 r (L.set i v) (i + 1) j (by simp; omega)]
  by_cases h1 : i + 1 ≤ j ∧ j < i + 1 + r.length
  ·rw [if_pos h1, if_pos (by simp only [List.length_cons]; omega)]
   obtain ⟨m, rfl⟩ : ∃ m, j = i + 1 + m := ⟨j - (i + 1), oM⟩
   rw [show i + 1 + m - (i + 1) = m by omega, show i + 1 + m - i = m + 1 by omega]; rfl
  ·rw [if_neg h1, List.getElem?_set]
   by_cases h2 : i = j
   ·subst h2
    rw [if_pos rfl, if_pos oM, if_pos (by simp only [List.length_cons]; omega), Nat.sub_self]; rfl
   ·rw [if_neg h2, if_neg (by simp only [List.length_cons]; omega)]
theorem Ju4 {ad : Nat} {T : TypeId} : ∀ (cs : List Value) (L : List Value) (off i : Nat) (w : World), Blk w ad L T → off + i + cs.length ≤ L.length → (∀ v ∈ cs, v.oneCell' = true) →
  ∃ w', (storeCells ⟨ad, off, none⟩ cs i).run P w = .ok () w' ∧ Upd w ad (.cells ⟨Jg0 L (off + i) cs⟩ T (0, 0)) w'
 | [], L, off, i, w, hb, _, _ => ⟨w, rfl, ⟨rfl, rfl, rfl, hb, fun _ _ => rfl, lR, oM⟩⟩
 | v :: r, L, off, i, w, hb, hl, h1 => by
  simp only [List.length_cons] at hl
  have hv := h1 v sI
  have hc : w.cell? ⟨ad, off + i, none⟩ = some L[off + i] := hb.cell (by rw [List.getElem?_eq_getElem])
  have hu := Qj0 (off := off + i) hb v
  obtain ⟨w', hr, hu'⟩ := Ju4 r (L.set (off + i) v) off (i + 1) _ hu.blk (by simp; omega) (fun u hu => h1 u (by simp [hu]))
  refine ⟨w', ?_, hu.trans hu'⟩
  simp only [storeCells, Sem.run_bind, Jc1, run_store P w _ v _ hv, hc, hb.free]
  simpa using hr
theorem o_storeA {cs : List Value} {L : List Value} {T : TypeId} {c : Option Prop} (hp : ev e x = .pointer (some ⟨b, off, none⟩)) (hb : Blk w b L T) (ho : off + cs.length ≤ L.length) (hx : same (ev e y) = some (c, .agg ⟨cs⟩)) (h1 : ∀ v ∈ cs, v.oneCell' = true) (hi : P.info? t = some i) (hs : i.size = cs.length) (hd : dOk n dst = true) (hm : may all G e g = some true)
  (k : ∀ w', Upd w b (.cells ⟨Jg0 L off cs⟩ T (0, 0)) w' → Ops ro P n all G K l (put e dst undef) w') : Ops ro P n all G K (⟨dst, .store t x y, ty, pos, after, g⟩ :: l) e w := by
 obtain ⟨w', hr, hu⟩ := Ju4 (P := P) cs L off 0 w hb oM h1
 refine Jo8 (w' := w') hd hm ?_ (k _ hu)
 have hst : (storeVar t ⟨b, off, none⟩ (.agg ⟨cs⟩)).run P w = .ok () w' := by
  simp [storeVar, Value.cells, sizeOf, typeInfo, hi, hs, hr]
 simp [execOp, hp, ← Jg1 hx, Instr.storeAt, Instr.sureAddr, hst]
theorem Zs {cs : List Value} {L : List Value} {T : TypeId} {c : Option Prop} (hp : ev e x = .pointer (some ⟨b, off, none⟩)) (hb : Blk w b L T) (ho : off + cs.length ≤ L.length) (hx : same (ev e y) = some (c, .agg ⟨cs⟩)) (h1 : ∀ v ∈ cs, v.oneCell' = true) (k : ∀ w', Upd w b (.cells ⟨Jg0 L off cs⟩ T (0, 0)) w' → Ops ro P n all G K l (put e dst undef) w') (hi : P.info? t = some i := by exact rfl) (hs : i.size = cs.length := by exact rfl) (hd : dOk n dst = true := by exact rfl) (hm : may all G e g = some true := by exact rfl) : Ops ro P n all G K (⟨dst, .store t x y, ty, pos, after, g⟩ :: l) e w := o_storeA hp hb ho hx h1 hi hs hd hm k
end
end Go.Vc

namespace Go.Vc
open Go
variable {P : Program} {n : Nat} {a : Act} {e : Env} {w : World} {K : Jc0} {X : List (Nat × Jc0)} {R : Jc0} {all : List Oper} {G : List Nat} {ro : Ro}
structure Jv3 (l : List MapEntry) (clock : Nat) (f : Int → Option Value) : Prop where
 key : ∀ x ∈ l, ∃ k : Int, x.key = I k
 nod : (l.map (·.key)).Nodup
 born : (l.map (·.born)).Nodup
 old : ∀ x ∈ l, x.born < clock
 val : ∀ k v, f k = some v ↔ ∃ x ∈ l, x.key = I k ∧ x.val = v
def MapI (w : World) (m : Nat) (f : Int → Option Value) : Prop := ∃ es clock, w.heap[m]? = some (.map es clock) ∧ Jv3 es.toList clock f
theorem MapI.lt {m : Nat} {f : Int → Option Value} (h : MapI w m f) : m < w.heap.size := by
 obtain ⟨es, c, h1, _⟩ := h
 exact (Array.getElem?_eq_some_iff.1 h1).1
theorem MapI.kp {w' : World} {S : List Nat} {m : Nat} {f : Int → Option Value} (h : MapI w m f) (hk : Kp S w w') (hS : m ∉ S) : MapI w' m f := by
 have hl := h.lt
 obtain ⟨es, c, h1, h2⟩ := h
 exact ⟨es, c, by rw [hk.at_ m hl hS]; exact h1, h2⟩
theorem MapI.heap {w' : World} {m : Nat} {f : Int → Option Value} (h : MapI w m f) (hk : w'.heap[m]? = w.heap[m]?) : MapI w' m f := by
 obtain ⟨es, c, h1, h2⟩ := h
 exact ⟨es, c, by rw [hk]; exact h1, h2⟩
theorem Jv3.nil : Jv3 [] 0 (fun _ => none) := ⟨sI, sI, sI, sI, fun k v => sI⟩
theorem find_int : ∀ {l : List MapEntry} {k : Int} (i : Nat), (∀ x ∈ l, ∃ k : Int, x.key = I k) →
  (Instr.findNow (.int .i64) (I k) l i = some none ∧ ∀ x ∈ l, x.key ≠ I k) ∨ ∃ j x, Instr.findNow (.int .i64) (I k) l i = some (some (i + j, x.val)) ∧ l[j]? = some x ∧ x.key = I k
 | [], k, i, _ => .inl ⟨rfl, sI⟩
 | x :: r, k, i, h => by
  obtain ⟨kx, hx⟩ := h x sI
  by_cases hk : k = kx
  ·subst hk
   refine .inr ⟨0, x, ?_, rfl, hx⟩
   simp [Instr.findNow, Instr.sameNow, hx]
  ·have hs : Instr.sameNow (.int .i64) (I k) x.key = some false := by rw [hx]; simp [Instr.sameNow, hk]
   rcases find_int (l := r) (k := k) (i + 1) (fun y hy => h y (by simp [hy])) with ⟨h1, h2⟩ | ⟨j, y, h1, h2, h3⟩
   ·refine .inl ⟨by simp only [Instr.findNow, hs]; exact h1, fun y hy => ?_⟩
    rcases List.mem_cons.1 hy with rfl | hy
    ·rw [hx]; simp; omega
    ·exact h2 y hy
   ·refine .inr ⟨j + 1, y, ?_, by simpa using h2, h3⟩
    simp only [Instr.findNow, hs, h1]
    congr 3; omega
theorem Jy2 {l : List MapEntry} (h : (l.map (·.key)).Nodup) {x y : MapEntry} (hx : x ∈ l) (hy : y ∈ l) (e : x.key = y.key) : x = y := by
 induction l with
 | nil => simp at hx
 | cons z r ih =>
  simp only [List.map_cons, List.nodup_cons, List.mem_map, not_exists, not_and] at h
  rcases List.mem_cons.1 hx with rfl | hx' <;> rcases List.mem_cons.1 hy with rfl | hy'
  ·rfl
  ·exact absurd e.symm (h.1 y hy')
  ·exact absurd e (h.1 x hx')
  ·exact ih h.2 hx' hy'
theorem Jv3.find {l : List MapEntry} {c : Nat} {f : Int → Option Value} (h : Jv3 l c f) (k : Int) :
  (f k = none ∧ Instr.findNow (.int .i64) (I k) l 0 = some none) ∨ ∃ j x, f k = some x.val ∧ Instr.findNow (.int .i64) (I k) l 0 = some (some (j, x.val)) ∧ l[j]? = some x ∧ x.key = I k := by
 rcases find_int (l := l) (k := k) 0 h.key with ⟨h1, h2⟩ | ⟨j, x, h1, h2, h3⟩
 ·refine .inl ⟨?_, h1⟩
  cases hf : f k with
  | none => rfl
  | some v =>
   obtain ⟨x, hx, hk, _⟩ := (h.val k v).1 hf
   exact absurd hk (h2 x hx)
 ·rw [Nat.zero_add] at h1
  exact .inr ⟨j, x, (h.val k _).2 ⟨x, List.mem_of_getElem? h2, h3, rfl⟩, h1, h2, h3⟩
def upF (f : Int → Option Value) (k : Int) (v : Option Value) (x : Int) : Option Value := if x = k then v else f x
theorem Jv3.push {l : List MapEntry} {c : Nat} {f : Int → Option Value} (h : Jv3 l c f) {k : Int} {v : Value} (hk : f k = none) : Jv3 (l ++ [⟨I k, v, c⟩]) (c + 1) (upF f k (some v)) := by
 have hno : ∀ x ∈ l, x.key ≠ I k := fun x hx e => by
  have := (h.val k x.val).2 ⟨x, hx, e, rfl⟩
  rw [hk] at this; cases this
 refine ⟨fun x hx => ?_, ?_, ?_, fun x hx => ?_, fun k' v' => ?_⟩
 ·rcases List.mem_append.1 hx with hx | hx
  ·exact h.key x hx
  ·simp at hx; subst hx; exact ⟨k, rfl⟩
 ·rw [List.map_append, List.nodup_append]
  refine ⟨h.nod, sI, fun y hy z hz => ?_⟩
  obtain ⟨x, hx, rfl⟩ := List.mem_map.1 hy
  simp at hz; subst hz
  exact hno x hx
 ·rw [List.map_append, List.nodup_append]
  refine ⟨h.born, sI, fun y hy z hz => ?_⟩
  obtain ⟨x, hx, rfl⟩ := List.mem_map.1 hy
  simp at hz; subst hz
  have := h.old x hx
  omega
 ·rcases List.mem_append.1 hx with hx | hx
  ·have := h.old x hx; omega
  ·simp at hx; subst hx; simp
 ·unfold upF
  by_cases hkk : k' = k
  ·subst hkk
   rw [if_pos rfl]
   refine ⟨fun e => ⟨⟨I k', v, c⟩, sI, rfl, by simpa using e⟩, fun ⟨x, hx, h1, h2⟩ => ?_⟩
   rcases List.mem_append.1 hx with hx | hx
   ·exact absurd h1 (hno x hx)
   ·simp at hx; subst hx; rw [← h2]
  ·rw [if_neg hkk, h.val]
   refine ⟨fun ⟨x, hx, h1, h2⟩ => ⟨x, by simp [hx], h1, h2⟩, fun ⟨x, hx, h1, h2⟩ => ?_⟩
   rcases List.mem_append.1 hx with hx | hx
   ·exact ⟨x, hx, h1, h2⟩
   ·simp at hx; subst hx
    simp at h1
    exact absurd h1.symm hkk
theorem Jw2 : ∀ {l : List MapEntry} {j : Nat} {x y : MapEntry}, l[j]? = some x → y.key = x.key → y.born = x.born → (l.set j y).map (·.key) = l.map (·.key) ∧ (l.set j y).map (·.born) = l.map (·.born)
 | [], j, x, y, h, _, _ => by simp at h
 | z :: r, 0, x, y, h, h1, h2 => by simp at h; subst h; simp [h1, h2]
 | z :: r, j + 1, x, y, h, h1, h2 => by
  obtain ⟨g1, g2⟩ := Jw2 (l := r) (j := j) (by simpa using h) h1 h2
  simp [g1, g2]
theorem Jv3.set {l : List MapEntry} {c : Nat} {f : Int → Option Value} (h : Jv3 l c f) {k : Int} {v : Value} {j : Nat} {x : MapEntry} (hx : l[j]? = some x) (hk : x.key = I k) : Jv3 (l.set j ⟨I k, v, x.born⟩) c (upF f k (some v)) := by
 obtain ⟨g1, g2⟩ := Jw2 (y := ⟨I k, v, x.born⟩) hx hk.symm rfl
 have hm : x ∈ l := List.mem_of_getElem? hx
 have hj : j < l.length := (List.getElem?_eq_some_iff.1 hx).1
 refine ⟨fun y hy => ?_, by rw [g1]; exact h.nod, by rw [g2]; exact h.born, fun y hy => ?_, fun k' v' => ?_⟩
 ·rcases List.mem_or_eq_of_mem_set hy with hy | rfl
  ·exact h.key y hy
  ·exact ⟨k, rfl⟩
 ·rcases List.mem_or_eq_of_mem_set hy with hy | rfl
  ·exact h.old y hy
  ·exact h.old x hm
 ·have hin : (⟨I k, v, x.born⟩ : MapEntry) ∈ l.set j ⟨I k, v, x.born⟩ := List.mem_set oM _
  unfold upF
  by_cases hkk : k' = k
  ·subst hkk
   rw [if_pos rfl]
   refine ⟨fun e => ⟨_, hin, rfl, by simpa using e⟩, fun ⟨y, hy, h1, h2⟩ => ?_⟩
   have := Jy2 (by rw [g1]; exact h.nod) hy hin h1
   rw [← h2, this]
  ·rw [if_neg hkk, h.val]
   refine ⟨fun ⟨y, hy, h1, h2⟩ => ?_, fun ⟨y, hy, h1, h2⟩ => ?_⟩
   ·obtain ⟨i, hi⟩ := List.getElem?_of_mem hy
    have hij : i ≠ j := fun e => by
     subst e; rw [hx] at hi; cases hi
     rw [hk] at h1; simp at h1; exact hkk h1.symm
    exact ⟨y, List.mem_of_getElem? (i := i) (by rw [List.getElem?_set_ne (fun e => hij e.symm)]; exact hi), h1, h2⟩
   ·rcases List.mem_or_eq_of_mem_set hy with hy | rfl
    ·exact ⟨y, hy, h1, h2⟩
    ·simp at h1; exact absurd h1.symm hkk
theorem Jv3.erase {l : List MapEntry} {c : Nat} {f : Int → Option Value} (h : Jv3 l c f) {k : Int} {j : Nat} {x : MapEntry} (hx : l[j]? = some x) (hk : x.key = I k) : Jv3 (l.eraseIdx j) c (upF f k none) := by
 have hsub : (l.eraseIdx j).Sublist l := List.eraseIdx_sublist l j
 refine ⟨fun y hy => h.key y (hsub.mem hy), h.nod.sublist (hsub.map _), h.born.sublist (hsub.map _), fun y hy => h.old y (hsub.mem hy), fun k' v' => ?_⟩
 unfold upF
 by_cases hkk : k' = k
 ·subst hkk
  rw [if_pos rfl]
  refine ⟨fun e => (by cases e), fun ⟨y, hy, h1, _⟩ => ?_⟩
  exfalso
  have hyl := hsub.mem hy
  have e := Jy2 h.nod hyl (List.mem_of_getElem? hx) (by rw [h1, hk])
  subst e
  obtain ⟨i, hij, hi⟩ := List.mem_eraseIdx_iff_getElem?.1 hy
  have hn := h.nod
  have hi2 : i < l.length := (List.getElem?_eq_some_iff.1 hi).1
  have hj2 : j < l.length := (List.getElem?_eq_some_iff.1 hx).1
  have hp := List.pairwise_iff_getElem.1 hn
  have ei : l[i] = y := by rw [List.getElem?_eq_getElem hi2] at hi; exact Option.some.inj hi
  have ej : l[j] = y := by rw [List.getElem?_eq_getElem hj2] at hx; exact Option.some.inj hx
  rcases Nat.lt_or_gt_of_ne hij with hlt | hlt
  ·exact hp i j (by simpa using hi2) (by simpa using hj2) hlt (by simp [ei, ej])
  ·exact hp j i (by simpa using hj2) (by simpa using hi2) hlt (by simp [ei, ej])
 ·rw [if_neg hkk, h.val]
  refine ⟨fun ⟨y, hy, h1, h2⟩ => ?_, fun ⟨y, hy, h1, h2⟩ => ⟨y, hsub.mem hy, h1, h2⟩⟩
  obtain ⟨i, hi⟩ := List.getElem?_of_mem hy
  have hij : i ≠ j := fun e => by
   subst e; rw [hx] at hi; cases hi
   rw [hk] at h1; simp at h1; exact hkk h1.symm
  exact ⟨y, List.mem_eraseIdx_iff_getElem?.2 ⟨i, hij, hi⟩, h1, h2⟩
section
variable {dst : Option Tmp} {ty : TypeId} {pos : String} {after : Array Edge} {g : Option (Nat × Bool)} {l : List Oper} {t : TypeId} {x y : Operand}
theorem Jd5 {m : Nat} {es : Array MapEntry} {clock : Nat} (hb : w.heap[m]? = some (.map es clock)) : (getObj m).run P w = .ok (.map es clock) w := by simp [getObj, Sem.run, hb]
theorem Jf8 {kt : TypeId} {d : TypeDesc} {key : Value} {es : List MapEntry} {r : Option (Nat × Value)} (hk : P.underlying kt = some d) (hr : Instr.findNow d key es 0 = some r) : (Instr.findKey kt key es).run P w = .ok r w := by
 simp only [Instr.findKey, Sem.run_bind, run_underlying hk, Result.andThen_ok, hr, Sem.run_pure]
theorem Qb5 {kt et : TypeId} {z : Value} {i : TypeInfo} {m : Nat} {k : Int} {f : Int → Option Value} (hx : ev e x = .map (some m)) (hy : ev e y = I k) (hb : MapI w m f)
  (hu : P.underlying t = some (.map kt et)) (hk : P.underlying kt = some (.int .i64)) (hi : P.info? et = some i) (hz : i.zero = some z) : (execOp (ev e) ⟨dst, .lookup t x y false, ty, pos, after, g⟩).run P w = .ok (.value ((f k).getD z)) w := by
 obtain ⟨es, c, hb, hf⟩ := hb
 rcases hf.find k with ⟨h1, h2⟩ | ⟨j, e, h1, h2, _, _⟩
 ·simp [execOp, Instr.lookup, hx, hy, run_underlying hu, Jd5 hb, Jb8 hk (.inr ⟨_, rfl⟩), Jf8 hk h2, zeroValue, typeInfo, hi, hz, h1]
 ·simp [execOp, Instr.lookup, hx, hy, run_underlying hu, Jd5 hb, Jb8 hk (.inr ⟨_, rfl⟩), Jf8 hk h2, h1]
def lookV (z : Value) : Option Value → Value
 | some v => .tuple #[v, .bool true]
 | none => .tuple #[z, .bool false]
theorem exec_lookup2 {kt et : TypeId} {z : Value} {i : TypeInfo} {m : Nat} {k : Int} {f : Int → Option Value} (hx : ev e x = .map (some m)) (hy : ev e y = I k) (hb : MapI w m f)
  (hu : P.underlying t = some (.map kt et)) (hk : P.underlying kt = some (.int .i64)) (hi : P.info? et = some i) (hz : i.zero = some z) : (execOp (ev e) ⟨dst, .lookup t x y true, ty, pos, after, g⟩).run P w = .ok (.value (lookV z (f k))) w := by
 obtain ⟨es, c, hb, hf⟩ := hb
 rcases hf.find k with ⟨h1, h2⟩ | ⟨j, e, h1, h2, _, _⟩
 ·simp [execOp, Instr.lookup, hx, hy, run_underlying hu, Jd5 hb, Jb8 hk (.inr ⟨_, rfl⟩), Jf8 hk h2, zeroValue, typeInfo, hi, hz, h1, lookV]
 ·simp [execOp, Instr.lookup, hx, hy, run_underlying hu, Jd5 hb, Jb8 hk (.inr ⟨_, rfl⟩), Jf8 hk h2, h1, lookV]
theorem o_lookI {kt et : TypeId} {z : Value} {i : TypeInfo} {m : Nat} {k : Int} {f : Int → Option Value} (u : Value) (hx : ev e x = .map (some m)) (hy : ev e y = I k) (hb : MapI w m f) (hf : (f k).getD z = u)
  (hu : P.underlying t = some (.map kt et)) (hk : P.underlying kt = some (.int .i64)) (hi : P.info? et = some i) (hz : i.zero = some z) (hd : dOk n dst = true) (hm : may all G e g = some true)
  (q : Ops ro P n all G K l (put e dst u) w) : Ops ro P n all G K (⟨dst, .lookup t x y false, ty, pos, after, g⟩ :: l) e w :=
 Jb5 hd hm (by rw [← hf]; exact Qb5 hx hy hb hu hk hi hz) q
structure MUpd (w : World) (m : Nat) (f : Int → Option Value) (w' : World) : Prop where
 at_ : MapI w' m f
 os : w'.os = w.os
 tape : w'.tape = w.tape
 output : w'.output = w.output
 other : ∀ k, k ≠ m → w'.heap[k]? = w.heap[k]?
 size : w'.heap.size = w.heap.size
theorem MUpd.of {m : Nat} {o : Obj} {w' : World} {f : Int → Option Value} (h : Upd w m o w') (hl : m < w.heap.size) (hm : MapI w' m f) : MUpd w m f w' :=
 ⟨hm, h.os, h.tape, h.output, h.other, Nat.le_antisymm (by have := h.size'; omega) h.size⟩
theorem MUpd.kp {m : Nat} {w' : World} {f : Int → Option Value} (h : MUpd w m f w') (S : List Nat) (hb : m ∈ S ∨ w.heap.size ≤ m) : Kp S w w' :=
 ⟨h.os, h.tape, h.output, by rw [h.size]; exact lR, fun k hk hS => h.other k (fun e => by subst e; rcases hb with hb | hb; exact hS hb; omega)⟩
theorem same_bits_int (k : Int) : Instr.sameBits 10000 (I k) (I k) = true := by simp [Instr.sameBits]
theorem Qo4 {kt et : TypeId} {m : Nat} {k : Int} {v : Value} {f : Int → Option Value} (hb : MapI w m f) (hk : P.underlying kt = some (.int .i64)) (hu : P.underlying t = some (.map kt et)) :
  ∃ w', (Instr.mapUpdate t (.map (some m)) (I k) v).run P w = .ok () w' ∧ MUpd w m (upF f k (some v)) w' := by
 have hlt := hb.lt
 obtain ⟨es, c, hb, hf⟩ := hb
 have hso : ∀ o, (setObj m o).run P w = .ok () { w with heap := w.heap.setIfInBounds m o } := fun o => by simp [setObj, Sem.run, hb]
 rcases hf.find k with ⟨h1, h2⟩ | ⟨j, e', h1, h2, h3, h4⟩
 ·have hu' := Jh4 (o' := .map (es.push ⟨I k, v, c⟩) (c + 1)) hb
  refine ⟨{ w with heap := w.heap.setIfInBounds m (.map (es.push ⟨I k, v, c⟩) (c + 1)) }, ?_, MUpd.of hu' hlt ⟨_, _, hu'.at_, ?_⟩⟩
  ·simp only [Instr.mapUpdate, Sem.run_bind, run_underlying hu, Result.andThen_ok, Jd5 hb, Jb8 hk (.inr ⟨_, rfl⟩), Jf8 hk h2, hso, Sem.run_pure]
  ·rw [Array.toList_push]; exact hf.push h1
 ·have hu' := Jh4 (o' := .map (es.modify j fun e => { e with key := I k, val := v }) c) hb
  refine ⟨{ w with heap := w.heap.setIfInBounds m (.map (es.modify j fun e => { e with key := I k, val := v }) c) }, ?_, MUpd.of hu' hlt ⟨_, _, hu'.at_, ?_⟩⟩
  ·have hj : es[j]? = some e' := by rw [← h3]; simp
   have hkey : (((es[j]?).map (·.key)).getD (I k)) = I k := by rw [hj]; simp [h4]
   simp only [Instr.mapUpdate, Sem.run_bind, run_underlying hu, Result.andThen_ok, Jd5 hb, Jb8 hk (.inr ⟨_, rfl⟩), Jf8 hk h2, hkey, Instr.keyThatStays, same_bits_int, if_true, hso, Sem.run_pure]
  ·have hj : j < es.toList.length := (List.getElem?_eq_some_iff.1 h3).1
   have e1 : (es.modify j fun e => { e with key := I k, val := v }).toList = es.toList.set j ⟨I k, v, e'.born⟩ := by
    rw [Array.toList_modify]
    apply List.ext_getElem?
    intro i
    rw [List.getElem?_modify, List.getElem?_set]
    by_cases hij : j = i
    ·subst hij
     rw [if_pos rfl, if_pos hj, h3]; simp
    ·rw [if_neg hij]; simp [hij]
   rw [e1]; exact hf.set h3 h4
theorem Jx9 {kt et : TypeId} {m : Nat} {k : Int} {v : Value} {z : Operand} {f : Int → Option Value} {c2 : Option Prop} (hx : ev e x = .map (some m)) (hy : ev e y = I k) (hv : same (ev e z) = some (c2, v)) (hb : MapI w m f)
  (hu : P.underlying t = some (.map kt et)) (hk : P.underlying kt = some (.int .i64)) (hd : dOk n dst = true) (hm : may all G e g = some true)
  (q : ∀ w', MUpd w m (upF f k (some v)) w' → Ops ro P n all G K l (put e dst undef) w') : Ops ro P n all G K (⟨dst, .mapUpdate t x y z, ty, pos, after, g⟩ :: l) e w := by
 obtain ⟨w', hr, hw'⟩ := Qo4 (P := P) (v := v) hb hk (t := t) (k := k) hu
 refine Jo8 (w' := w') hd hm ?_ (q _ hw')
 simp only [execOp, hx, hy, ← Jg1 hv, Sem.run_bind, hr, Result.andThen_ok, Sem.run_pure]
theorem o_delete {kt et at1 : TypeId} {m : Nat} {k : Int} {f : Int → Option Value} (hx : ev e x = .map (some m)) (hy : ev e y = I k) (hb : MapI w m f)
  (hu : P.underlying t = some (.map kt et)) (hk : P.underlying kt = some (.int .i64)) (hd : dOk n dst = true) (hm : may all G e g = some true)
  (q : ∀ w', MUpd w m (upF f k none) w' → Ops ro P n all G K l (put e dst (.tuple #[])) w') : Ops ro P n all G K (⟨dst, .call ⟨.builtin .delete, #[x, y], #[t, at1]⟩, ty, pos, after, g⟩ :: l) e w := by
 have hlt := hb.lt
 obtain ⟨es, c, hb, hf⟩ := hb
 have hso : ∀ o, (setObj m o).run P w = .ok () { w with heap := w.heap.setIfInBounds m o } := fun o => by simp [setObj, Sem.run, hb]
 rcases hf.find k with ⟨h1, h2⟩ | ⟨j, e', h1, h2, h3, h4⟩
 ·have hu' := Jh4 (o' := .map es c) hb
  refine Jb5 (v := .tuple #[]) (w' := { w with heap := w.heap.setIfInBounds m (.map es c) }) hd hm ?_ (q _ (MUpd.of hu' hlt ⟨_, _, hu'.at_, ?_⟩))
  ·simp [execOp, resolve, invoke, builtin, hx, hy, Builtin.delete_, run_underlying hu, Jd5 hb, Jb8 hk (.inr ⟨_, rfl⟩), Jf8 hk h2, hso]
  ·have e1 : upF f k none = f := by
    funext z; unfold upF
    by_cases hz : z = k
    ·rw [if_pos hz, hz, h1]
    ·rw [if_neg hz]
   rw [e1]; exact hf
 ·have hu' := Jh4 (o' := .map (es.eraseIdxIfInBounds j) c) hb
  refine Jb5 (v := .tuple #[]) (w' := { w with heap := w.heap.setIfInBounds m (.map (es.eraseIdxIfInBounds j) c) }) hd hm ?_ (q _ (MUpd.of hu' hlt ⟨_, _, hu'.at_, ?_⟩))
  ·simp [execOp, resolve, invoke, builtin, hx, hy, Builtin.delete_, run_underlying hu, Jd5 hb, Jb8 hk (.inr ⟨_, rfl⟩), Jf8 hk h2, hso]
  ·have e1 : (es.eraseIdxIfInBounds j).toList = es.toList.eraseIdx j := sI
   rw [e1]; exact hf.erase h3 h4
end
end Go.Vc

