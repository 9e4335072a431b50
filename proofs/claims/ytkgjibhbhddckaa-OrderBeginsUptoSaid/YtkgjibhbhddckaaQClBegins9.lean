/- Loads and stores of structs and arrays: many cells at once. -/
import Derived.Test.YtkgjibhbhddckaaQClBegins8
namespace Go.Vc
open Go
variable {P : Program} {n : Nat} {a : Act} {e : Env} {w : World} {K : EPost} {X : List (Nat × EPost)} {R : EPost} {all : List Oper} {G : List Nat} {ro : Option Nat}

theorem Upd.trans {w1 w2 : World} {b : Nat} {o1 o2 : Obj} (h : Upd w b o1 w1) (k : Upd w1 b o2 w2) : Upd w b o2 w2 :=
  ⟨k.os.trans h.os, k.tape.trans h.tape, k.output.trans h.output, k.at_, fun c hc => (k.other c hc).trans (h.other c hc), Nat.le_trans h.size k.size, by have := h.size'; have := k.size'; omega⟩
theorem isAgg_run' {ty : TypeId} {d : TypeDesc} (hd : P.underlying ty = some d) (ha : aggD d = true) : (isAgg ty).run P w = .ok true w := by
  simp only [isAgg, Sem.run_bind, run_underlying hd, Result.andThen_ok]
  cases d <;> first | rfl | (cases ha)
theorem run_loadCells {ad : Addr} : ∀ (vs : List Value) (i : Nat) (acc : Array Value), (∀ j v, vs[j]? = some v → w.cell? (ad.add (i + j)) = some v) → (loadCellsFrom ad i vs.length acc).run P w = .ok (acc ++ ⟨vs⟩) w
  | [], i, acc, _ => by simp [loadCellsFrom]
  | v :: vs, i, acc, h => by
    have h0 := h 0 v rfl
    rw [Nat.add_zero] at h0
    have ih := run_loadCells vs (i + 1) (acc.push v) (fun j u hu => by
      have := h (j + 1) u (by simpa using hu)
      rwa [show i + (j + 1) = i + 1 + j by omega] at this)
    simp only [List.length_cons, loadCellsFrom, Sem.run_bind, run_load, h0, Result.andThen_ok, ih]
    congr 1
    apply Array.ext'
    simp
section
variable {dst : Option Tmp} {ty : TypeId} {pos : String} {after : Array Edge} {g : Option (Nat × Bool)} {l : List Oper} {t : TypeId} {x y : Operand} {b off : Nat} {d : TypeDesc} {i : TypeInfo}
theorem exec_loadA {vs : List Value} (hp : ev e x = .pointer (some ⟨b, off, none⟩)) (hu : P.underlying t = some d) (ha : aggD d = true) (hi : P.info? t = some i) (hs : i.size = vs.length) (hc : ∀ j v, vs[j]? = some v → w.cell? ⟨b, off + j, none⟩ = some v) :
    (execOp (ev e) ⟨dst, .load t x, ty, pos, after, g⟩).run P w = .ok (.value (.agg ⟨vs⟩)) w := by
  have hl := run_loadCells (P := P) (w := w) (ad := ⟨b, off, none⟩) vs 0 #[] (fun j v hv => by rw [addr_lit, Nat.zero_add]; exact hc j v hv)
  simp [execOp, hp, Instr.loadAt, Instr.sureAddr, loadVar, isAgg_run' hu ha, loadCells, sizeOf, typeInfo, hi, hs, hl]
theorem o_loadA {vs : List Value} (hp : ev e x = .pointer (some ⟨b, off, none⟩)) (hc : ∀ j v, vs[j]? = some v → w.cell? ⟨b, off + j, none⟩ = some v) (hu : P.underlying t = some d) (ha : aggD d = true) (hi : P.info? t = some i) (hs : i.size = vs.length) (hd : dOk n dst = true) (hm : may all G e g = some true)
    (k : Ops ro P n all G K l (put e dst (.agg ⟨vs⟩)) w) : Ops ro P n all G K (⟨dst, .load t x, ty, pos, after, g⟩ :: l) e w :=
  ops_does hd hm (exec_loadA hp hu ha hi hs hc) k
theorem q_loadA {C : World → Prop} {K : Env → Prop} {vs : List Value} (hp : ev e x = .pointer (some ⟨b, off, none⟩)) (hc : ∀ w, C w → ∀ j v, vs[j]? = some v → w.cell? ⟨b, off + j, none⟩ = some v) (hu : P.underlying t = some d) (ha : aggD d = true) (hi : P.info? t = some i) (hs : i.size = vs.length) (hd : dOk n dst = true) (hm : may all G e g = some true)
    (k : QOps P n all G C K l (put e dst (.agg ⟨vs⟩))) : QOps P n all G C K (⟨dst, .load t x, ty, pos, after, g⟩ :: l) e :=
  qops_does hd hm (fun w hw => exec_loadA hp hu ha hi hs (hc w hw)) k
theorem x_loadA {Fl : World → Prop} {r : List (Nat × Bool)} {j : Nat} {vs : List Value} (ho : nthO all j = some ⟨dst, .load t x, ty, pos, after, g⟩) (hp : ev e x = .pointer (some ⟨b, off, none⟩)) (hc : ∀ w, Fl w → ∀ j v, vs[j]? = some v → w.cell? ⟨b, off + j, none⟩ = some v) (hu : P.underlying t = some d) (ha : aggD d = true) (hi : P.info? t = some i) (hs : i.size = vs.length) (hd : dOk n dst = true) (hm : may all G e g = some true)
    (k : MOps ro P n all G Fl K r (put e dst (.agg ⟨vs⟩)) w) : MOps ro P n all G Fl K ((j, false) :: r) e w :=
  x_does ho hd hm (fun w hw => exec_loadA hp hu ha hi hs (hc w hw)) k
/-- these cells laid over a row from a place on -/
def setMany : List Value → Nat → List Value → List Value
  | L, _, [] => L
  | L, i, v :: r => setMany (L.set i v) (i + 1) r
theorem run_storeCells {ad : Nat} {T : TypeId} : ∀ (cs : List Value) (L : List Value) (off i : Nat) (w : World), Blk w ad L T → off + i + cs.length ≤ L.length → (∀ v ∈ cs, v.oneCell' = true) →
    ∃ w', (storeCells ⟨ad, off, none⟩ cs i).run P w = .ok () w' ∧ Upd w ad (.cells ⟨setMany L (off + i) cs⟩ T (0, 0)) w'
  | [], L, off, i, w, hb, _, _ => ⟨w, rfl, ⟨rfl, rfl, rfl, hb, fun _ _ => rfl, Nat.le_refl _, by omega⟩⟩
  | v :: r, L, off, i, w, hb, hl, h1 => by
    simp only [List.length_cons] at hl
    have hv := h1 v (by simp)
    have hc : w.cell? ⟨ad, off + i, none⟩ = some L[off + i] := hb.cell (by rw [List.getElem?_eq_getElem])
    have hu := upd_setCell (off := off + i) hb v
    obtain ⟨w', hr, hu'⟩ := run_storeCells r (L.set (off + i) v) off (i + 1) _ hu.blk (by simp; omega) (fun u hu => h1 u (by simp [hu]))
    refine ⟨w', ?_, hu.trans hu'⟩
    simp only [storeCells, Sem.run_bind, addr_lit, run_store P w _ v _ hv, hc, hb.free]
    simpa using hr
/-- a struct is stored -/
theorem o_storeA {cs : List Value} {L : List Value} {T : TypeId} {c : Option Prop} (hp : ev e x = .pointer (some ⟨b, off, none⟩)) (hb : Blk w b L T) (ho : off + cs.length ≤ L.length) (hx : same (ev e y) = some (c, .agg ⟨cs⟩)) (h1 : ∀ v ∈ cs, v.oneCell' = true) (hi : P.info? t = some i) (hs : i.size = cs.length) (hd : dOk n dst = true) (hm : may all G e g = some true)
    (k : ∀ w', Upd w b (.cells ⟨setMany L off cs⟩ T (0, 0)) w' → Ops ro P n all G K l (put e dst undef) w') : Ops ro P n all G K (⟨dst, .store t x y, ty, pos, after, g⟩ :: l) e w := by
  obtain ⟨w', hr, hu⟩ := run_storeCells (P := P) cs L off 0 w hb (by omega) h1
  refine ops_skips (w' := w') hd hm ?_ (k _ hu)
  have hst : (storeVar t ⟨b, off, none⟩ (.agg ⟨cs⟩)).run P w = .ok () w' := by
    simp [storeVar, Value.cells, sizeOf, typeInfo, hi, hs, hr]
  simp [execOp, hp, ← same_eq hx, Instr.storeAt, Instr.sureAddr, hst]
end
end Go.Vc
