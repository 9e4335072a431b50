/- Parts of a proof. -/
import Derived.Test.YtkgngbpkiklckaaGreatDoorQClQExact3
import Derived.Laws.MakeOwn
import Derived.Laws.AppendOwn
import Derived.Laws.CopyRow
set_option maxHeartbeats 12800000
namespace Go.Vc
open Go
variable {P : Program} {n : Nat} {a : Act} {e : Env} {w : World} {K : Jc0} {X : List (Nat × Jc0)} {R : Jc0} {all : List Oper} {G : List Nat} {ro : Ro}
def Blk (w : World) (b : Nat) (l : List Value) (T : TypeId) : Prop := w.heap[b]? = some (.cells ⟨l⟩ T (0, 0))
theorem Blk.lt {b : Nat} {l : List Value} {T : TypeId} (h : Blk w b l T) : b < w.heap.size := (Array.getElem?_eq_some_iff.1 h).1
structure Sm (w w' : World) : Prop where
 os : w'.os = w.os
 tape : w'.tape = w.tape
 output : w'.output = w.output
 heap : w'.heap = w.heap
structure Upd (w : World) (b : Nat) (o : Obj) (w' : World) : Prop where
 os : w'.os = w.os
 tape : w'.tape = w.tape
 output : w'.output = w.output
 at_ : w'.heap[b]? = some o
 other : ∀ k, k ≠ b → w'.heap[k]? = w.heap[k]?
 size : w.heap.size ≤ w'.heap.size
 size' : w'.heap.size ≤ max w.heap.size (b + 1)
structure Kp (S : List Nat) (w w' : World) : Prop where
 os : w'.os = w.os
 tape : w'.tape = w.tape
 output : w'.output = w.output
 size : w.heap.size ≤ w'.heap.size
 at_ : ∀ k, k < w.heap.size → k ∉ S → w'.heap[k]? = w.heap[k]?
theorem Sm.refl (w : World) : Sm w w := ⟨rfl, rfl, rfl, rfl⟩
theorem Sm.trans {w1 w2 w3 : World} (h : Sm w1 w2) (k : Sm w2 w3) : Sm w1 w3 := ⟨k.os.trans h.os, k.tape.trans h.tape, k.output.trans h.output, k.heap.trans h.heap⟩
theorem Sm.drew (w : World) : Sm w { w with drawn := w.drawn + 1 } := ⟨rfl, rfl, rfl, rfl⟩
theorem Sm.blk {w w' : World} (h : Sm w w') {b : Nat} {l : List Value} {T : TypeId} (k : Blk w b l T) : Blk w' b l T := by unfold Blk; rw [h.heap]; exact k
theorem Sm.kp {w w' : World} (h : Sm w w') (S : List Nat) : Kp S w w' := ⟨h.os, h.tape, h.output, by rw [h.heap]; exact lR, fun k _ _ => by rw [h.heap]⟩
theorem Upd.blk {w w' : World} {b : Nat} {l : List Value} {T : TypeId} (h : Upd w b (.cells ⟨l⟩ T (0, 0)) w') : Blk w' b l T := h.at_
theorem Upd.keep {w w' : World} {b : Nat} {o : Obj} (h : Upd w b o w') {c : Nat} {x : Obj} (hne : c ≠ b) (k : w.heap[c]? = some x) : w'.heap[c]? = some x := by rw [h.other c hne]; exact k
theorem Upd.kept {w w' : World} {b : Nat} {o : Obj} (h : Upd w b o w') {c : Nat} {l : List Value} {T : TypeId} (hne : c ≠ b) (k : Blk w c l T) : Blk w' c l T := by unfold Blk; rw [h.other c hne]; exact k
theorem Upd.kp {w w' : World} {b : Nat} {o : Obj} (h : Upd w b o w') (S : List Nat) (hb : b ∈ S ∨ w.heap.size ≤ b) : Kp S w w' :=
 ⟨h.os, h.tape, h.output, h.size, fun k hk hS => h.other k (fun e => by subst e; rcases hb with hb | hb; exact hS hb; omega)⟩
theorem Upd.lt {w w' : World} {b : Nat} {o : Obj} (h : Upd w b o w') : b < w'.heap.size := (Array.getElem?_eq_some_iff.1 h.at_).1
theorem Kp.refl (S : List Nat) (w : World) : Kp S w w := ⟨rfl, rfl, rfl, lR, fun _ _ _ => rfl⟩
theorem Kp.trans {S : List Nat} {w1 w2 w3 : World} (h : Kp S w1 w2) (k : Kp S w2 w3) : Kp S w1 w3 :=
 ⟨k.os.trans h.os, k.tape.trans h.tape, k.output.trans h.output, Nat.le_trans h.size k.size, fun i hi hS => (k.at_ i (Nat.lt_of_lt_of_le hi h.size) hS).trans (h.at_ i hi hS)⟩
theorem Kp.mono {S S' : List Nat} {w w' : World} (h : Kp S w w') (hs : ∀ b, b ∈ S → b ∈ S') : Kp S' w w' := ⟨h.os, h.tape, h.output, h.size, fun k hk hS => h.at_ k hk (fun hm => hS (hs k hm))⟩
theorem Kp.since {S : List Nat} {w0 w w' : World} (h0 : Kp [] w0 w) (h : Kp S w w') (hs : ∀ b, b ∈ S → w0.heap.size ≤ b) : Kp [] w0 w' :=
 ⟨h.os.trans h0.os, h.tape.trans h0.tape, h.output.trans h0.output, Nat.le_trans h0.size h.size, fun k hk hS => (h.at_ k (Nat.lt_of_lt_of_le hk h0.size) (fun hm => by have := hs k hm; omega)).trans (h0.at_ k hk hS)⟩
theorem Kp.blk {S : List Nat} {w w' : World} (h : Kp S w w') {b : Nat} {l : List Value} {T : TypeId} (hS : b ∉ S) (k : Blk w b l T) : Blk w' b l T := by
 unfold Blk; rw [h.at_ b k.lt hS]; exact k
theorem Kp.below {w w' : World} (h : Kp [] w w') : RowKit.Below w.heap.size w w' := ⟨h.os, h.tape, h.output, h.size, fun k hk => h.at_ k hk sI⟩
theorem Je2 (w : World) (o : Obj) : Upd w w.heap.size o (w.alloc o) :=
 ⟨rfl, rfl, rfl, by show (w.heap.push o)[w.heap.size]? = _; simp, fun k hk => by
  show (w.heap.push o)[k]? = _
  rw [Array.getElem?_push]; simp [hk], by show _ ≤ (w.heap.push o).size; simp, by show (w.heap.push o).size ≤ _; simp⟩
theorem Upd.drew {w w' : World} {b : Nat} {o : Obj} (h : Upd w.drew b o w') : Upd w b o w' := ⟨h.os, h.tape, h.output, h.at_, h.other, h.size, h.size'⟩
theorem Ql1 {w : World} {b : Nat} {l l' : List Value} {T : TypeId} (h : Blk w b l T) : Upd w b (.cells ⟨l'⟩ T (0, 0)) (w.setRow b ⟨l'⟩) :=
 ⟨rfl, rfl, rfl, setRow_heap w b ⟨l⟩ _ T _ h, fun k hk => setRow_other w b k _ hk, by simp [World.setRow], by simp [World.setRow]; omega⟩
theorem Qj0 {w : World} {b off : Nat} {l : List Value} {T : TypeId} (h : Blk w b l T) (v : Value) : Upd w b (.cells ⟨l.set off v⟩ T (0, 0)) (w.setCell ⟨b, off, none⟩ v) := by
 have e := setCell_eq_setRow w b off ⟨l⟩ T (0, 0) v h
 rw [e]
 have : (⟨l⟩ : Array Value).setIfInBounds off v = ⟨l.set off v⟩ := by apply Array.ext'; simp
 rw [this]
 exact Ql1 h
theorem Jd1 {id : Nat} {l : List Oper} (hm : P.follows .mixedOrders = true) (hB : Region.lexB .any l.toArray = true) (h : QOps P n l [] (Sm w) (fun e' => ∀ w', Sm w w' → K e' w') l e) : Wp ro P n (.region id l.toArray true) K X R e w :=
 r_quiet (Sm w) hm hB (Sm.drew w) h
theorem Jc9 {id : Nat} {l : List Oper} (hm : P.follows .mixedOrders = true) (hB : Region.lexB .any l.toArray = true) (h : QOps P n l [] (Kp [] w) (fun e' => ∀ w', Kp [] w w' → K e' w') l e) : Wp ro P n (.region id l.toArray true) K X R e w :=
 r_quiet (Kp [] w) hm hB ((Sm.drew w).kp []) h
theorem Blk.cell {b off : Nat} {l : List Value} {T : TypeId} {v : Value} (h : Blk w b l T) (hv : l[off]? = some v) : w.cell? ⟨b, off, none⟩ = some v := by
 unfold Blk at h
 simp [World.cell?, h, hv]
theorem Blk.free {b off : Nat} {l : List Value} {T : TypeId} (h : Blk w b l T) : w.frozen? ⟨b, off, none⟩ = false := by
 unfold Blk at h
 simp [World.frozen?, h]
section
variable {dst : Option Tmp} {ty : TypeId} {pos : String} {after : Array Edge} {g : Option (Nat × Bool)} {l : List Oper} {t : TypeId} {x y : Operand} {b off : Nat} {d : TypeDesc}
theorem Jz2 {v : Value} (hp : ev e x = .pointer (some ⟨b, off, none⟩)) (hu : P.underlying t = some d) (ha : aggD d = false) (hc : w.cell? ⟨b, off, none⟩ = some v) :
  (execOp (ev e) ⟨dst, .load t x, ty, pos, after, g⟩).run P w = .ok (.value v) w := by
 simp [execOp, hp, Instr.loadAt, Instr.sureAddr, loadVar, Jn4 hu ha, hc]
theorem o_loadc {v : Value} (hp : ev e x = .pointer (some ⟨b, off, none⟩)) (hc : w.cell? ⟨b, off, none⟩ = some v) (hu : P.underlying t = some d) (ha : aggD d = false) (hd : dOk n dst = true) (hm : may all G e g = some true)
  (k : Ops ro P n all G K l (put e dst v) w) : Ops ro P n all G K (⟨dst, .load t x, ty, pos, after, g⟩ :: l) e w :=
 Jb5 hd hm (Jz2 hp hu ha hc) k
theorem Zo {v : Value} (hp : ev e x = .pointer (some ⟨b, off, none⟩)) (hc : w.cell? ⟨b, off, none⟩ = some v) (k : Ops ro P n all G K l (put e dst v) w) (hu : P.underlying t = some d := by exact rfl) (ha : aggD d = false := by exact rfl) (hd : dOk n dst = true := by exact rfl) (hm : may all G e g = some true := by exact rfl) : Ops ro P n all G K (⟨dst, .load t x, ty, pos, after, g⟩ :: l) e w := o_loadc hp hc hu ha hd hm k
theorem Jf4 {v : Value} {L : List Value} {T : TypeId} (hp : ev e x = .pointer (some ⟨b, off, none⟩)) (hb : Blk w b L T) (hv : L[off]? = some v) (hu : P.underlying t = some d) (ha : aggD d = false) (hd : dOk n dst = true) (hm : may all G e g = some true)
  (k : Ops ro P n all G K l (put e dst v) w) : Ops ro P n all G K (⟨dst, .load t x, ty, pos, after, g⟩ :: l) e w :=
 Jb5 hd hm (Jz2 hp hu ha (hb.cell hv)) k
theorem Zl {v : Value} {L : List Value} {T : TypeId} (hp : ev e x = .pointer (some ⟨b, off, none⟩)) (hb : Blk w b L T) (k : Ops ro P n all G K l (put e dst v) w) (hv : L[off]? = some v := by exact rfl) (hu : P.underlying t = some d := by exact rfl) (ha : aggD d = false := by exact rfl) (hd : dOk n dst = true := by exact rfl) (hm : may all G e g = some true := by exact rfl) : Ops ro P n all G K (⟨dst, .load t x, ty, pos, after, g⟩ :: l) e w := Jf4 hp hb hv hu ha hd hm k
theorem q_load {C : World → Prop} {K : Env → Prop} {v : Value} (hp : ev e x = .pointer (some ⟨b, off, none⟩)) (hc : ∀ w, C w → w.cell? ⟨b, off, none⟩ = some v) (hu : P.underlying t = some d) (ha : aggD d = false) (hd : dOk n dst = true) (hm : may all G e g = some true)
  (k : QOps P n all G C K l (put e dst v)) : QOps P n all G C K (⟨dst, .load t x, ty, pos, after, g⟩ :: l) e :=
 Jl1 hd hm (fun w hw => Jz2 hp hu ha (hc w hw)) k
theorem Zq {C : World → Prop} {K : Env → Prop} {v : Value} (hp : ev e x = .pointer (some ⟨b, off, none⟩)) (hc : ∀ w, C w → w.cell? ⟨b, off, none⟩ = some v) (k : QOps P n all G C K l (put e dst v)) (hu : P.underlying t = some d := by exact rfl) (ha : aggD d = false := by exact rfl) (hd : dOk n dst = true := by exact rfl) (hm : may all G e g = some true := by exact rfl) : QOps P n all G C K (⟨dst, .load t x, ty, pos, after, g⟩ :: l) e := q_load hp hc hu ha hd hm k
theorem exec_store {v : Value} {L : List Value} {T : TypeId} {i : TypeInfo} (hp : ev e x = .pointer (some ⟨b, off, none⟩)) (hx : ev e y = v) (h1 : v.oneCell' = true) (hi : P.info? t = some i) (hs : i.size = 1) (hb : Blk w b L T) (ho : off < L.length) :
  (execOp (ev e) ⟨dst, .store t x y, ty, pos, after, g⟩).run P w = .ok .skip (w.setCell ⟨b, off, none⟩ v) := by
 have hcs : v.cells = #[v] := by cases v <;> first | rfl | cases h1
 have hc : w.cell? ⟨b, off, none⟩ = some L[off] := hb.cell (by simp [ho])
 have hst : (storeVar t ⟨b, off, none⟩ v).run P w = .ok () (w.setCell ⟨b, off, none⟩ v) := by
  simp only [storeVar, hcs, sizeOf, typeInfo, Sem.run_bind, run_program, Result.andThen_ok, hi, Sem.run_pure, hs]
  simp only [storeCells, Addr.add, Sem.run_bind, List.size_toArray, List.length_singleton, ne_eq, not_true_eq_false, if_false, if_true]
  rw [run_store P w _ v _ h1, hc]
  simp [hb.free]
 simp [execOp, hp, hx, Instr.storeAt, Instr.sureAddr, hst]
theorem o_store {v : Value} {L : List Value} {T : TypeId} {i : TypeInfo} {c : Option Prop} (hp : ev e x = .pointer (some ⟨b, off, none⟩)) (hb : Blk w b L T) (ho : off < L.length) (hx : same (ev e y) = some (c, v)) (h1 : v.oneCell' = true) (hi : P.info? t = some i) (hs : i.size = 1) (hd : dOk n dst = true) (hm : may all G e g = some true)
  (k : ∀ w', Upd w b (.cells ⟨L.set off v⟩ T (0, 0)) w' → Ops ro P n all G K l (put e dst undef) w') : Ops ro P n all G K (⟨dst, .store t x y, ty, pos, after, g⟩ :: l) e w :=
 Jo8 hd hm (exec_store hp (Jg1 hx).symm h1 hi hs hb ho) (k _ (Qj0 hb v))
theorem Zt {v : Value} {L : List Value} {T : TypeId} {i : TypeInfo} {c : Option Prop} (hp : ev e x = .pointer (some ⟨b, off, none⟩)) (hb : Blk w b L T) (ho : off < L.length) (k : ∀ w', Upd w b (.cells ⟨L.set off v⟩ T (0, 0)) w' → Ops ro P n all G K l (put e dst undef) w') (hx : same (ev e y) = some (c, v) := by exact rfl) (h1 : v.oneCell' = true := by exact rfl) (hi : P.info? t = some i := by exact rfl) (hs : i.size = 1 := by exact rfl) (hd : dOk n dst = true := by exact rfl) (hm : may all G e g = some true := by exact rfl) : Ops ro P n all G K (⟨dst, .store t x y, ty, pos, after, g⟩ :: l) e w := o_store hp hb ho hx h1 hi hs hd hm k
theorem o_alloc {z : Value} {i : TypeInfo} (hi : P.info? t = some i) (hz : i.zero = some z) (hd : dOk n dst = true) (hm : may all G e g = some true)
  (k : ∀ b w', b = w.heap.size → Upd w b (.cells ⟨z.cells.toList⟩ t (0, 0)) w' → Ops ro P n all G K l (put e dst (.pointer (some ⟨b, 0, none⟩))) w') : Ops ro P n all G K (⟨dst, .alloc t, ty, pos, after, g⟩ :: l) e w := by
 refine Jb5 (v := .pointer (some ⟨w.heap.size, 0, none⟩)) (w' := w.alloc (.cells z.cells t)) hd hm ?_ (k _ _ rfl (Je2 w _))
 simp [execOp, Instr.alloc, zeroValue, typeInfo, hi, hz, newVar, newRow]
theorem Za {z : Value} {i : TypeInfo} (k : ∀ b w', b = w.heap.size → Upd w b (.cells ⟨z.cells.toList⟩ t (0, 0)) w' → Ops ro P n all G K l (put e dst (.pointer (some ⟨b, 0, none⟩))) w') (hi : P.info? t = some i := by exact rfl) (hz : i.zero = some z := by exact rfl) (hd : dOk n dst = true := by exact rfl) (hm : may all G e g = some true := by exact rfl) : Ops ro P n all G K (⟨dst, .alloc t, ty, pos, after, g⟩ :: l) e w := o_alloc hi hz hd hm k
theorem o_box {v : Value} {c : Option Prop} (hx : same (ev e x) = some (c, v)) (hd : dOk n dst = true) (hm : may all G e g = some true)
  (k : ∀ b w', b = w.heap.size → Upd w b (.cells ⟨v.cells.toList⟩ t (0, 0)) w' → Ops ro P n all G K l (put e dst (.pointer (some ⟨b, 0, none⟩))) w') : Ops ro P n all G K (⟨dst, .box t x, ty, pos, after, g⟩ :: l) e w := by
 refine Jb5 (v := .pointer (some ⟨w.heap.size, 0, none⟩)) (w' := w.alloc (.cells v.cells t)) hd hm ?_ (k _ _ rfl (Je2 w _))
 rw [Jg1 hx]
 simp [execOp, Instr.box, newVar, newRow]
theorem Zx {v : Value} {c : Option Prop} (k : ∀ b w', b = w.heap.size → Upd w b (.cells ⟨v.cells.toList⟩ t (0, 0)) w' → Ops ro P n all G K l (put e dst (.pointer (some ⟨b, 0, none⟩))) w') (hx : same (ev e x) = some (c, v) := by exact rfl) (hd : dOk n dst = true := by exact rfl) (hm : may all G e g = some true := by exact rfl) : Ops ro P n all G K (⟨dst, .box t x, ty, pos, after, g⟩ :: l) e w := o_box hx hd hm k
theorem madeCells_one (z : Value) (n : Nat) : madeCells #[z] n = ⟨List.replicate n z⟩ := by
 apply Array.ext'
 apply List.ext_getElem
 ·simp [madeCells]
 ·intro i h1 h2
  simp [madeCells, Nat.mod_one]
theorem o_make {T : TypeId} {z : Value} {td : TypeDesc} {tn : String} {tby : Nat} {thp : Bool} {tal tfa : Nat} {tcm : Bool} {tms : Array Method} {kl kc : IntKind} {len cap : Int} (hl : ev e x = .int kl len) (hc : ev e y = .int kc cap) (hu : P.underlying t = some (.slice T)) (hi : P.info? T = some ⟨td, tn, 1, tby, thp, tal, tfa, some z, tcm, tms⟩) (hzc : z.cells = #[z])
  (h0 : 0 ≤ len) (hlc : len ≤ cap) (hby : (tby : Int) * cap ≤ 281474976710656) (h63 : cap ≤ 9223372036854775807) (hd : dOk n dst = true) (hm : may all G e g = some true)
  (k : ∀ b w', b = w.heap.size → Upd w b (.cells ⟨List.replicate cap.toNat z⟩ T (0, 0)) w' → Ops ro P n all G K l (put e dst (.slice (some ⟨b, 0, none⟩) len.toNat cap.toNat)) w') : Ops ro P n all G K (⟨dst, .makeSlice t x y, ty, pos, after, g⟩ :: l) e w := by
 refine Jb5 (v := .slice (some ⟨w.heap.size, 0, none⟩) len.toNat cap.toNat) (w' := w.alloc (.cells (madeCells z.cells (cap.toNat * 1)) T)) hd hm ?_ (k _ _ rfl ?_)
 ·have := run_make (P := P) w t T _ z hu hi rfl kl kc len cap h0 hlc hby h63
  simp only [execOp, Sem.run_bind, hl, hc, this, Result.andThen_ok, Sem.run_pure]
 ·rw [Nat.mul_one, hzc, madeCells_one]
  exact Je2 w _
theorem fill_one : ∀ (vs : List Value) (k : Nat) (cells : Array Value), k + vs.length ≤ cells.size → (∀ v ∈ vs, v.oneCell' = true) →
  Instr.fill (fun i => some (i * 1, 1)) cells ((vs.zipIdx k).map fun p => (p.2, p.1)) = some ⟨cells.toList.take k ++ vs ++ cells.toList.drop (k + vs.length)⟩
 | [], k, cells, h, _ => by simp [Instr.fill]
 | v :: vs, k, cells, h, h1 => by
  have hcs : v.cells = #[v] := by
   have := h1 v sI
   cases v <;> first | rfl | cases this
  simp only [List.length_cons] at h
  have hsz : (#[v] : Array Value).size = 1 := rfl
  simp only [List.zipIdx_cons, List.map_cons, Instr.fill, hcs, Nat.mul_one, hsz]
  rw [if_neg (by simp; omega)]
  have hz : Array.foldl (fun (cs : Array Value) (x : Value × Nat) => cs.setIfInBounds (k + x.2) x.1) cells (#[v].zipIdx) = cells.setIfInBounds k v := by simp [Array.zipIdx]
  have hz' : Array.foldl (fun (cs : Array Value) (x : Value × Nat) => match x with | (c, j) => cs.setIfInBounds (k + j) c) cells (#[v].zipIdx) = cells.setIfInBounds k v := hz
  rw [hz']
  have ih := fill_one vs (k + 1) (cells.setIfInBounds k v) (by simp; omega) (fun x hx => h1 x (by simp [hx]))
  simp only [Nat.mul_one] at ih
  rw [ih]
  congr 2
  have hk : k < cells.toList.length := by simp; omega
  simp only [Array.toList_setIfInBounds, List.length_cons]
  have e1 : List.take (k + 1) (cells.toList.set k v) = cells.toList.take k ++ [v] := by
   have hk' : (cells.toList.take k).length = k := by rw [List.length_take]; omega
   rw [List.set_eq_take_append_cons_drop, if_pos hk, List.take_append, hk']
   have : k + 1 - k = 1 := oM
   rw [this, List.take_of_length_le oM]
   simp
  rw [e1, List.drop_set_of_lt oM]
  have e2 : k + 1 + vs.length = k + (vs.length + 1) := oM
  rw [e2]
  simp
theorem o_buildSlice {T : TypeId} {z : Value} {td : TypeDesc} {tn : String} {tby : Nat} {thp : Bool} {tal tfa : Nat} {tcm : Bool} {tms : Array Method} {len : Nat} {parts : Array (Nat × Operand)} (vs : List Value) (hv : parts.toList.map (fun p => (p.1, ev e p.2)) = (vs.zipIdx 0).map fun p => (p.2, p.1)) (h1 : ∀ v ∈ vs, v.oneCell' = true) (hl : vs.length = len) (h0 : 0 < len) (hsz : len ≤ 16777216)
  (hu : P.underlying t = some (.slice T)) (hi : P.info? T = some ⟨td, tn, 1, tby, thp, tal, tfa, some z, tcm, tms⟩) (hzc : z.cells = #[z]) (hd : dOk n dst = true) (hm : may all G e g = some true)
  (k : ∀ b w', b = w.heap.size → Upd w b (.cells ⟨vs⟩ T (0, 0)) w' → Ops ro P n all G K l (put e dst (.slice (some ⟨b, 0, none⟩) len len)) w') : Ops ro P n all G K (⟨dst, .buildSlice t len parts, ty, pos, after, g⟩ :: l) e w := by
 refine Jb5 (v := .slice (some ⟨w.heap.size, 0, none⟩) len len) (w' := w.alloc (.cells ⟨vs⟩ T)) hd hm ?_ (k _ _ rfl (Je2 w _))
 have h3 : ¬ (len * 1 > 2 ^ 24) := oM
 have h2 : ¬ (len * 1 = 0) := oM
 have hm : (Array.map (fun x : Nat × Operand => (x.fst, ev e x.snd)) parts).toList = (vs.zipIdx 0).map fun p => (p.2, p.1) := by rw [← hv]; simp
 have hf := fill_one vs 0 ((Array.range (len * 1)).map (z.cells[· % z.cells.size]!)) (by simp; omega) h1
 have hd0 : (Array.map (fun x => z.cells[x % z.cells.size]!) (Array.range (len * 1))).toList.drop (0 + vs.length) = [] := by
  apply List.drop_of_length_le; simp; omega
 rw [hd0] at hf
 simp only [List.take_zero, List.nil_append, List.append_nil] at hf
 simp only [execOp, Sem.run_bind, Instr.buildSlice, run_underlying hu, Result.andThen_ok, sizeOf, typeInfo, run_program, hi, Sem.run_pure, if_neg h3, if_neg h2, zeroValue, hm, hf, newRow, run_newObj]
 rfl
theorem Zu {T : TypeId} {z : Value} {td : TypeDesc} {tn : String} {tby : Nat} {thp : Bool} {tal tfa : Nat} {tcm : Bool} {tms : Array Method} {len : Nat} {parts : Array (Nat × Operand)} (vs : List Value) (hv : parts.toList.map (fun p => (p.1, ev e p.2)) = (vs.zipIdx 0).map fun p => (p.2, p.1)) (h1 : ∀ v ∈ vs, v.oneCell' = true) (hl : vs.length = len) (h0 : 0 < len) (hsz : len ≤ 16777216) (k : ∀ b w', b = w.heap.size → Upd w b (.cells ⟨vs⟩ T (0, 0)) w' → Ops ro P n all G K l (put e dst (.slice (some ⟨b, 0, none⟩) len len)) w') (hu : P.underlying t = some (.slice T) := by exact rfl) (hi : P.info? T = some ⟨td, tn, 1, tby, thp, tal, tfa, some z, tcm, tms⟩ := by exact rfl) (hzc : z.cells = #[z] := by exact rfl) (hd : dOk n dst = true := by exact rfl) (hm : may all G e g = some true := by exact rfl) : Ops ro P n all G K (⟨dst, .buildSlice t len parts, ty, pos, after, g⟩ :: l) e w := o_buildSlice vs hv h1 hl h0 hsz hu hi hzc hd hm k
end
theorem zL {b : Nat} {w : World} {l : List Value} {T : TypeId} (g : Blk w b l T) {A B : Prop} (k : B) (h : Blk w b l T → Hid B → A := by intro g k; (repeat first|refine zA ?_|refine zB ?_|refine zC ?_|refine zD ?_|refine zE ?_|refine zg ?_|refine zo rfl rfl (by first|exact trivial|(simp only[AllP];omega)|(simp(discharger:=omega)only[AllP,cA,cB];omega)|(simp only[AllP,cC,cD,cE,cF,cG];omega)) ?_|refine zn ?_|refine zb ?_|refine ze rfl ?_|refine zr ?_|refine zk ?_|refine zT rfl rfl rfl ?_|refine zU rfl rfl rfl ?_|refine zV rfl rfl rfl ?_|refine zf rfl ?_|refine zt rfl ?_|refine Jf4 rfl g rfl rfl rfl rfl rfl ?_); exact k.1) : A := h g ⟨k⟩
theorem zM {b : Nat} {w : World} {l : List Value} {T : TypeId} (g : Blk w b l T) {A B : Prop} (k : B) (h : Blk w b l T → Hid B → A := by intro g k; (repeat first|refine yo rfl rfl (by first|exact trivial|(simp only[AllP];omega)|(simp(discharger:=omega)only[AllP,cA,cB];omega)|(simp only[AllP,cC,cD,cE,cF,cG];omega)) ?_|refine yn ?_|refine Jx3 _ _ (some true) rfl rfl rfl ?_|refine Jx3 _ _ (some false) rfl rfl rfl ?_|refine Jx3 _ _ none rfl rfl rfl ?_|refine q_load rfl (fun _ hs => (Sm.blk hs g).cell rfl) rfl rfl rfl rfl ?_); exact k.1) : A := h g ⟨k⟩
theorem zN {b : Nat} {w : World} {l : List Value} {T : TypeId} (g : Blk w b l T) {A B : Prop} (k : B) (h : Blk w b l T → Hid B → A := by intro g k; (repeat first|refine yo rfl rfl (by first|exact trivial|(simp only[AllP];omega)|(simp(discharger:=omega)only[AllP,cA,cB];omega)|(simp only[AllP,cC,cD,cE,cF,cG];omega)) ?_|refine yn ?_|refine Jx3 _ _ (some true) rfl rfl rfl ?_|refine Jx3 _ _ (some false) rfl rfl rfl ?_|refine Jx3 _ _ none rfl rfl rfl ?_|refine q_load rfl (fun _ hs => (Kp.blk hs sI g).cell rfl) rfl rfl rfl rfl ?_); exact k.1) : A := h g ⟨k⟩
theorem Blk.cs {w : World} {b : Nat} {vs : List Value} {T : TypeId} (h : Blk w b vs T) : ∀ j v, vs[j]? = some v → w.cell? ⟨b, 0 + j, none⟩ = some v := fun j v hv => by rw [Nat.zero_add]; exact h.cell hv
theorem Kp.b0 {w w' : World} (h : Kp [] w w') {b : Nat} {l : List Value} {T : TypeId} (k : Blk w b l T) : Blk w' b l T := h.blk sI k
theorem Upd.new {w w' : World} {b : Nat} {o : Obj} (h : Upd w b o w') (hb : w.heap.size ≤ b) : Kp [] w w' := h.kp [] (.inr hb)
end Go.Vc

