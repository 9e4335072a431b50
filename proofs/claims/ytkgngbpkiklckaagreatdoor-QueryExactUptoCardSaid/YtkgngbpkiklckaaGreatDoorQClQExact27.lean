/- Parts of a proof. -/
import Derived.Test.YtkgngbpkiklckaaGreatDoorQClQExact26
set_option maxHeartbeats 12800000
namespace Go.Vc
open Go
variable {P : Program} {n : Nat} {a : Act} {e : Env} {w : World} {K : Jc0} {X : List (Nat × Jc0)} {R : Jc0} {all : List Oper} {G : List Nat} {ro : Ro}
structure Jn3 (l : List MapEntry) (clock : Nat) (f : List UInt8 → Option Value) : Prop where
 key : ∀ x ∈ l, ∃ k : List UInt8, x.key = S k
 nod : (l.map (·.key)).Nodup
 born : (l.map (·.born)).Nodup
 old : ∀ x ∈ l, x.born < clock
 val : ∀ k v, f k = some v ↔ ∃ x ∈ l, x.key = S k ∧ x.val = v
def MapT (w : World) (m : Nat) (f : List UInt8 → Option Value) : Prop := ∃ es clock, w.heap[m]? = some (.map es clock) ∧ Jn3 es.toList clock f
theorem MapT.lt {m : Nat} {f : List UInt8 → Option Value} (h : MapT w m f) : m < w.heap.size := by
 obtain ⟨es, c, h1, _⟩ := h
 exact (Array.getElem?_eq_some_iff.1 h1).1
theorem MapT.kp {w' : World} {S : List Nat} {m : Nat} {f : List UInt8 → Option Value} (h : MapT w m f) (hk : Kp S w w') (hS : m ∉ S) : MapT w' m f := by
 have hl := h.lt
 obtain ⟨es, c, h1, h2⟩ := h
 exact ⟨es, c, by rw [hk.at_ m hl hS]; exact h1, h2⟩
theorem MapT.heap {w' : World} {m : Nat} {f : List UInt8 → Option Value} (h : MapT w m f) (hk : w'.heap[m]? = w.heap[m]?) : MapT w' m f := by
 obtain ⟨es, c, h1, h2⟩ := h
 exact ⟨es, c, by rw [hk]; exact h1, h2⟩
theorem Jn3.nil : Jn3 [] 0 (fun _ => none) := ⟨sI, sI, sI, sI, fun k v => sI⟩
theorem S_inj {a b : List UInt8} : S a = S b ↔ a = b := by
 constructor
 ·intro h; simpa using h
 ·rintro rfl; rfl
theorem beq_text (a b : List UInt8) : ((ByteArray.mk ⟨a⟩) == (ByteArray.mk ⟨b⟩)) = decide (a = b) := by
 have : ((ByteArray.mk ⟨a⟩) == (ByteArray.mk ⟨b⟩)) = ((Array.mk a) == (Array.mk b)) := rfl
 rw [this, Bool.eq_iff_iff]; simp
theorem same_key (a b : List UInt8) : Instr.sameNow .string (S a) (S b) = some (decide (a = b)) := by
 show some _ = some _
 rw [← beq_text]
theorem find_str : ∀ {l : List MapEntry} {k : List UInt8} (i : Nat), (∀ x ∈ l, ∃ k : List UInt8, x.key = S k) →
  (Instr.findNow (.string) (S k) l i = some none ∧ ∀ x ∈ l, x.key ≠ S k) ∨ ∃ j x, Instr.findNow (.string) (S k) l i = some (some (i + j, x.val)) ∧ l[j]? = some x ∧ x.key = S k
 | [], k, i, _ => .inl ⟨rfl, sI⟩
 | x :: r, k, i, h => by
  obtain ⟨kx, hx⟩ := h x sI
  by_cases hk : k = kx
  ·subst hk
   refine .inr ⟨0, x, ?_, rfl, hx⟩
   simp [Instr.findNow, same_key, hx]
  ·have hs : Instr.sameNow (.string) (S k) x.key = some false := by rw [hx, same_key]; simp [hk]
   rcases find_str (l := r) (k := k) (i + 1) (fun y hy => h y (by simp [hy])) with ⟨h1, h2⟩ | ⟨j, y, h1, h2, h3⟩
   ·refine .inl ⟨by simp only [Instr.findNow, hs]; exact h1, fun y hy => ?_⟩
    rcases List.mem_cons.1 hy with rfl | hy
    ·rw [hx]; exact fun h => hk (S_inj.1 h).symm
    ·exact h2 y hy
   ·refine .inr ⟨j + 1, y, ?_, by simpa using h2, h3⟩
    simp only [Instr.findNow, hs, h1]
    congr 3; omega
theorem Jn3.find {l : List MapEntry} {c : Nat} {f : List UInt8 → Option Value} (h : Jn3 l c f) (k : List UInt8) :
  (f k = none ∧ Instr.findNow (.string) (S k) l 0 = some none) ∨ ∃ j x, f k = some x.val ∧ Instr.findNow (.string) (S k) l 0 = some (some (j, x.val)) ∧ l[j]? = some x ∧ x.key = S k := by
 rcases find_str (l := l) (k := k) 0 h.key with ⟨h1, h2⟩ | ⟨j, x, h1, h2, h3⟩
 ·refine .inl ⟨?_, h1⟩
  cases hf : f k with
  | none => rfl
  | some v =>
   obtain ⟨x, hx, hk, _⟩ := (h.val k v).1 hf
   exact absurd hk (h2 x hx)
 ·rw [Nat.zero_add] at h1
  exact .inr ⟨j, x, (h.val k _).2 ⟨x, List.mem_of_getElem? h2, h3, rfl⟩, h1, h2, h3⟩
def upTx (f : List UInt8 → Option Value) (k : List UInt8) (v : Option Value) (x : List UInt8) : Option Value := if x = k then v else f x
theorem Jn3.push {l : List MapEntry} {c : Nat} {f : List UInt8 → Option Value} (h : Jn3 l c f) {k : List UInt8} {v : Value} (hk : f k = none) : Jn3 (l ++ [⟨S k, v, c⟩]) (c + 1) (upTx f k (some v)) := by
 have hno : ∀ x ∈ l, x.key ≠ S k := fun x hx e => by
  have := (h.val k x.val).2 ⟨x, hx, e, rfl⟩
  rw [hk] at this; cases this
 refine ⟨fun x hx => ?_, ?_, ?_, fun x hx => ?_, fun k' v' => ?_⟩
 ·rcases List.mem_append.1 hx with hx | hx
  ·exact h.key x hx
  ·simp at hx; subst hx; exact ⟨k, rfl⟩
 ·rw [List.map_append, List.nodup_append]
  refine ⟨h.nod, sI, fun y hy z hz => ?_⟩
  obtain ⟨x, hx, rfl⟩ := List.mem_map.1 hy
  simp at hz; subst hz
  exact hno x hx
 ·rw [List.map_append, List.nodup_append]
  refine ⟨h.born, sI, fun y hy z hz => ?_⟩
  obtain ⟨x, hx, rfl⟩ := List.mem_map.1 hy
  simp at hz; subst hz
  have := h.old x hx
  omega
 ·rcases List.mem_append.1 hx with hx | hx
  ·have := h.old x hx; omega
  ·simp at hx; subst hx; simp
 ·unfold upTx
  by_cases hkk : k' = k
  ·subst hkk
   rw [if_pos rfl]
   refine ⟨fun e => ⟨⟨S k', v, c⟩, sI, rfl, by simpa using e⟩, fun ⟨x, hx, h1, h2⟩ => ?_⟩
   rcases List.mem_append.1 hx with hx | hx
   ·exact absurd h1 (hno x hx)
   ·simp at hx; subst hx; rw [← h2]
  ·rw [if_neg hkk, h.val]
   refine ⟨fun ⟨x, hx, h1, h2⟩ => ⟨x, by simp [hx], h1, h2⟩, fun ⟨x, hx, h1, h2⟩ => ?_⟩
   rcases List.mem_append.1 hx with hx | hx
   ·exact ⟨x, hx, h1, h2⟩
   ·simp at hx; subst hx
    exact absurd (S_inj.1 h1).symm hkk
theorem Jn3.set {l : List MapEntry} {c : Nat} {f : List UInt8 → Option Value} (h : Jn3 l c f) {k : List UInt8} {v : Value} {j : Nat} {x : MapEntry} (hx : l[j]? = some x) (hk : x.key = S k) : Jn3 (l.set j ⟨S k, v, x.born⟩) c (upTx f k (some v)) := by
 obtain ⟨g1, g2⟩ := Jw2 (y := ⟨S k, v, x.born⟩) hx hk.symm rfl
 have hm : x ∈ l := List.mem_of_getElem? hx
 have hj : j < l.length := (List.getElem?_eq_some_iff.1 hx).1
 refine ⟨fun y hy => ?_, by rw [g1]; exact h.nod, by rw [g2]; exact h.born, fun y hy => ?_, fun k' v' => ?_⟩
 ·rcases List.mem_or_eq_of_mem_set hy with hy | rfl
  ·exact h.key y hy
  ·exact ⟨k, rfl⟩
 ·rcases List.mem_or_eq_of_mem_set hy with hy | rfl
  ·exact h.old y hy
  ·exact h.old x hm
 ·have hin : (⟨S k, v, x.born⟩ : MapEntry) ∈ l.set j ⟨S k, v, x.born⟩ := List.mem_set oM _
  unfold upTx
  by_cases hkk : k' = k
  ·subst hkk
   rw [if_pos rfl]
   refine ⟨fun e => ⟨_, hin, rfl, by simpa using e⟩, fun ⟨y, hy, h1, h2⟩ => ?_⟩
   have := Jy2 (by rw [g1]; exact h.nod) hy hin h1
   rw [← h2, this]
  ·rw [if_neg hkk, h.val]
   refine ⟨fun ⟨y, hy, h1, h2⟩ => ?_, fun ⟨y, hy, h1, h2⟩ => ?_⟩
   ·obtain ⟨i, hi⟩ := List.getElem?_of_mem hy
    have hij : i ≠ j := fun e => by
     subst e; rw [hx] at hi; cases hi
     rw [hk] at h1; exact hkk (S_inj.1 h1).symm
    exact ⟨y, List.mem_of_getElem? (i := i) (by rw [List.getElem?_set_ne (fun e => hij e.symm)]; exact hi), h1, h2⟩
   ·rcases List.mem_or_eq_of_mem_set hy with hy | rfl
    ·exact ⟨y, hy, h1, h2⟩
    ·exact absurd (S_inj.1 h1).symm hkk
theorem Jn3.erase {l : List MapEntry} {c : Nat} {f : List UInt8 → Option Value} (h : Jn3 l c f) {k : List UInt8} {j : Nat} {x : MapEntry} (hx : l[j]? = some x) (hk : x.key = S k) : Jn3 (l.eraseIdx j) c (upTx f k none) := by
 have hsub : (l.eraseIdx j).Sublist l := List.eraseIdx_sublist l j
 refine ⟨fun y hy => h.key y (hsub.mem hy), h.nod.sublist (hsub.map _), h.born.sublist (hsub.map _), fun y hy => h.old y (hsub.mem hy), fun k' v' => ?_⟩
 unfold upTx
 by_cases hkk : k' = k
 ·subst hkk
  rw [if_pos rfl]
  refine ⟨fun e => (by cases e), fun ⟨y, hy, h1, _⟩ => ?_⟩
  exfalso
  have hyl := hsub.mem hy
  have e := Jy2 h.nod hyl (List.mem_of_getElem? hx) (by rw [h1, hk])
  subst e
  obtain ⟨i, hij, hi⟩ := List.mem_eraseIdx_iff_getElem?.1 hy
  have hn := h.nod
  have hi2 : i < l.length := (List.getElem?_eq_some_iff.1 hi).1
  have hj2 : j < l.length := (List.getElem?_eq_some_iff.1 hx).1
  have hp := List.pairwise_iff_getElem.1 hn
  have ei : l[i] = y := by rw [List.getElem?_eq_getElem hi2] at hi; exact Option.some.inj hi
  have ej : l[j] = y := by rw [List.getElem?_eq_getElem hj2] at hx; exact Option.some.inj hx
  rcases Nat.lt_or_gt_of_ne hij with hlt | hlt
  ·exact hp i j (by simpa using hi2) (by simpa using hj2) hlt (by simp [ei, ej])
  ·exact hp j i (by simpa using hj2) (by simpa using hi2) hlt (by simp [ei, ej])
 ·rw [if_neg hkk, h.val]
  refine ⟨fun ⟨y, hy, h1, h2⟩ => ?_, fun ⟨y, hy, h1, h2⟩ => ⟨y, hsub.mem hy, h1, h2⟩⟩
  obtain ⟨i, hi⟩ := List.getElem?_of_mem hy
  have hij : i ≠ j := fun e => by
   subst e; rw [hx] at hi; cases hi
   rw [hk] at h1; exact hkk (S_inj.1 h1).symm
  exact ⟨y, List.mem_eraseIdx_iff_getElem?.2 ⟨i, hij, hi⟩, h1, h2⟩
section
variable {dst : Option Tmp} {ty : TypeId} {pos : String} {after : Array Edge} {g : Option (Nat × Bool)} {l : List Oper} {t : TypeId} {x y : Operand}
theorem exec_lookT1 {kt et : TypeId} {z : Value} {i : TypeInfo} {m : Nat} {k : List UInt8} {f : List UInt8 → Option Value} (hx : ev e x = .map (some m)) (hy : ev e y = S k) (hb : MapT w m f)
  (hu : P.underlying t = some (.map kt et)) (hk : P.underlying kt = some (.string)) (hi : P.info? et = some i) (hz : i.zero = some z) : (execOp (ev e) ⟨dst, .lookup t x y false, ty, pos, after, g⟩).run P w = .ok (.value ((f k).getD z)) w := by
 obtain ⟨es, c, hb, hf⟩ := hb
 rcases hf.find k with ⟨h1, h2⟩ | ⟨j, e, h1, h2, _, _⟩
 ·simp [execOp, Instr.lookup, hx, hy, run_underlying hu, Jd5 hb, Jb8 hk (.inl rfl), Jf8 hk h2, zeroValue, typeInfo, hi, hz, h1]
 ·simp [execOp, Instr.lookup, hx, hy, run_underlying hu, Jd5 hb, Jb8 hk (.inl rfl), Jf8 hk h2, h1]
theorem exec_lookT2 {kt et : TypeId} {z : Value} {i : TypeInfo} {m : Nat} {k : List UInt8} {f : List UInt8 → Option Value} (hx : ev e x = .map (some m)) (hy : ev e y = S k) (hb : MapT w m f)
  (hu : P.underlying t = some (.map kt et)) (hk : P.underlying kt = some (.string)) (hi : P.info? et = some i) (hz : i.zero = some z) : (execOp (ev e) ⟨dst, .lookup t x y true, ty, pos, after, g⟩).run P w = .ok (.value (lookV z (f k))) w := by
 obtain ⟨es, c, hb, hf⟩ := hb
 rcases hf.find k with ⟨h1, h2⟩ | ⟨j, e, h1, h2, _, _⟩
 ·simp [execOp, Instr.lookup, hx, hy, run_underlying hu, Jd5 hb, Jb8 hk (.inl rfl), Jf8 hk h2, zeroValue, typeInfo, hi, hz, h1, lookV]
 ·simp [execOp, Instr.lookup, hx, hy, run_underlying hu, Jd5 hb, Jb8 hk (.inl rfl), Jf8 hk h2, h1, lookV]
structure Qc3 (w : World) (m : Nat) (f : List UInt8 → Option Value) (w' : World) : Prop where
 at_ : MapT w' m f
 os : w'.os = w.os
 tape : w'.tape = w.tape
 output : w'.output = w.output
 other : ∀ k, k ≠ m → w'.heap[k]? = w.heap[k]?
 size : w'.heap.size = w.heap.size
theorem Qc3.of {m : Nat} {o : Obj} {w' : World} {f : List UInt8 → Option Value} (h : Upd w m o w') (hl : m < w.heap.size) (hm : MapT w' m f) : Qc3 w m f w' :=
 ⟨hm, h.os, h.tape, h.output, h.other, Nat.le_antisymm (by have := h.size'; omega) h.size⟩
theorem Qc3.kp {m : Nat} {w' : World} {f : List UInt8 → Option Value} (h : Qc3 w m f w') (S : List Nat) (hb : m ∈ S ∨ w.heap.size ≤ m) : Kp S w w' :=
 ⟨h.os, h.tape, h.output, by rw [h.size]; exact lR, fun k hk hS => h.other k (fun e => by subst e; rcases hb with hb | hb; exact hS hb; omega)⟩
theorem same_bits_str (k : List UInt8) : Instr.sameBits 10000 (S k) (S k) = true := by simp [Instr.sameBits, beq_text]
theorem mapSetT_run {kt et : TypeId} {m : Nat} {k : List UInt8} {v : Value} {f : List UInt8 → Option Value} (hb : MapT w m f) (hk : P.underlying kt = some (.string)) (hu : P.underlying t = some (.map kt et)) :
  ∃ w', (Instr.mapUpdate t (.map (some m)) (S k) v).run P w = .ok () w' ∧ Qc3 w m (upTx f k (some v)) w' := by
 have hlt := hb.lt
 obtain ⟨es, c, hb, hf⟩ := hb
 have hso : ∀ o, (setObj m o).run P w = .ok () { w with heap := w.heap.setIfInBounds m o } := fun o => by simp [setObj, Sem.run, hb]
 rcases hf.find k with ⟨h1, h2⟩ | ⟨j, e', h1, h2, h3, h4⟩
 ·have hu' := Jh4 (o' := .map (es.push ⟨S k, v, c⟩) (c + 1)) hb
  refine ⟨{ w with heap := w.heap.setIfInBounds m (.map (es.push ⟨S k, v, c⟩) (c + 1)) }, ?_, Qc3.of hu' hlt ⟨_, _, hu'.at_, ?_⟩⟩
  ·simp only [Instr.mapUpdate, Sem.run_bind, run_underlying hu, Result.andThen_ok, Jd5 hb, Jb8 hk (.inl rfl), Jf8 hk h2, hso, Sem.run_pure]
  ·rw [Array.toList_push]; exact hf.push h1
 ·have hu' := Jh4 (o' := .map (es.modify j fun e => { e with key := S k, val := v }) c) hb
  refine ⟨{ w with heap := w.heap.setIfInBounds m (.map (es.modify j fun e => { e with key := S k, val := v }) c) }, ?_, Qc3.of hu' hlt ⟨_, _, hu'.at_, ?_⟩⟩
  ·have hj : es[j]? = some e' := by rw [← h3]; simp
   have hkey : (((es[j]?).map (·.key)).getD (S k)) = S k := by rw [hj]; simp [h4]
   simp only [Instr.mapUpdate, Sem.run_bind, run_underlying hu, Result.andThen_ok, Jd5 hb, Jb8 hk (.inl rfl), Jf8 hk h2, hkey, Instr.keyThatStays, same_bits_str, if_true, hso, Sem.run_pure]
  ·have hj : j < es.toList.length := (List.getElem?_eq_some_iff.1 h3).1
   have e1 : (es.modify j fun e => { e with key := S k, val := v }).toList = es.toList.set j ⟨S k, v, e'.born⟩ := by
    rw [Array.toList_modify]
    apply List.ext_getElem?
    intro i
    rw [List.getElem?_modify, List.getElem?_set]
    by_cases hij : j = i
    ·subst hij
     rw [if_pos rfl, if_pos hj, h3]; simp
    ·rw [if_neg hij]; simp [hij]
   rw [e1]; exact hf.set h3 h4
theorem o_mapSetT {kt et : TypeId} {m : Nat} {k : List UInt8} {v : Value} {z : Operand} {f : List UInt8 → Option Value} {c2 : Option Prop} (hx : ev e x = .map (some m)) (hy : ev e y = S k) (hv : same (ev e z) = some (c2, v)) (hb : MapT w m f)
  (hu : P.underlying t = some (.map kt et)) (hk : P.underlying kt = some (.string)) (hd : dOk n dst = true) (hm : may all G e g = some true)
  (q : ∀ w', Qc3 w m (upTx f k (some v)) w' → Ops ro P n all G K l (put e dst undef) w') : Ops ro P n all G K (⟨dst, .mapUpdate t x y z, ty, pos, after, g⟩ :: l) e w := by
 obtain ⟨w', hr, hw'⟩ := mapSetT_run (P := P) (v := v) hb hk (t := t) (k := k) hu
 refine Jo8 (w' := w') hd hm ?_ (q _ hw')
 simp only [execOp, hx, hy, ← Jg1 hv, Sem.run_bind, hr, Result.andThen_ok, Sem.run_pure]
theorem o_deleteT {kt et at1 : TypeId} {m : Nat} {k : List UInt8} {f : List UInt8 → Option Value} (hx : ev e x = .map (some m)) (hy : ev e y = S k) (hb : MapT w m f)
  (hu : P.underlying t = some (.map kt et)) (hk : P.underlying kt = some (.string)) (hd : dOk n dst = true) (hm : may all G e g = some true)
  (q : ∀ w', Qc3 w m (upTx f k none) w' → Ops ro P n all G K l (put e dst (.tuple #[])) w') : Ops ro P n all G K (⟨dst, .call ⟨.builtin .delete, #[x, y], #[t, at1]⟩, ty, pos, after, g⟩ :: l) e w := by
 have hlt := hb.lt
 obtain ⟨es, c, hb, hf⟩ := hb
 have hso : ∀ o, (setObj m o).run P w = .ok () { w with heap := w.heap.setIfInBounds m o } := fun o => by simp [setObj, Sem.run, hb]
 rcases hf.find k with ⟨h1, h2⟩ | ⟨j, e', h1, h2, h3, h4⟩
 ·have hu' := Jh4 (o' := .map es c) hb
  refine Jb5 (v := .tuple #[]) (w' := { w with heap := w.heap.setIfInBounds m (.map es c) }) hd hm ?_ (q _ (Qc3.of hu' hlt ⟨_, _, hu'.at_, ?_⟩))
  ·simp [execOp, resolve, invoke, builtin, hx, hy, Builtin.delete_, run_underlying hu, Jd5 hb, Jb8 hk (.inl rfl), Jf8 hk h2, hso]
  ·have e1 : upTx f k none = f := by
    funext z; unfold upTx
    by_cases hz : z = k
    ·rw [if_pos hz, hz, h1]
    ·rw [if_neg hz]
   rw [e1]; exact hf
 ·have hu' := Jh4 (o' := .map (es.eraseIdxIfInBounds j) c) hb
  refine Jb5 (v := .tuple #[]) (w' := { w with heap := w.heap.setIfInBounds m (.map (es.eraseIdxIfInBounds j) c) }) hd hm ?_ (q _ (Qc3.of hu' hlt ⟨_, _, hu'.at_, ?_⟩))
  ·simp [execOp, resolve, invoke, builtin, hx, hy, Builtin.delete_, run_underlying hu, Jd5 hb, Jb8 hk (.inl rfl), Jf8 hk h2, hso]
  ·have e1 : (es.eraseIdxIfInBounds j).toList = es.toList.eraseIdx j := sI
   rw [e1]; exact hf.erase h3 h4
theorem q_lookT {C : World → Prop} {K : Env → Prop} {kt et : TypeId} {z : Value} {i : TypeInfo} {m : Nat} {k : List UInt8} {f : List UInt8 → Option Value} (u : Value) (hx : ev e x = .map (some m)) (hy : ev e y = S k) (hb : ∀ w, C w → MapT w m f) (hf : (f k).getD z = u)
  (hu : P.underlying t = some (.map kt et)) (hk : P.underlying kt = some (.string)) (hi : P.info? et = some i) (hz : i.zero = some z) (hd : dOk n dst = true) (hm : may all G e g = some true)
  (q : QOps P n all G C K l (put e dst u)) : QOps P n all G C K (⟨dst, .lookup t x y false, ty, pos, after, g⟩ :: l) e :=
 Jl1 hd hm (fun w hw => by rw [← hf]; exact exec_lookT1 hx hy (hb w hw) hu hk hi hz) q
theorem x_lookT2 {Fl : World → Prop} {r : List (Nat × Bool)} {j : Nat} {kt et : TypeId} {z : Value} {i : TypeInfo} {m : Nat} {k : List UInt8} {f : List UInt8 → Option Value} (u : Value) (ho : nthO all j = some ⟨dst, .lookup t x y true, ty, pos, after, g⟩) (hx : ev e x = .map (some m)) (hy : ev e y = S k) (hb : ∀ w, Fl w → MapT w m f) (hf : lookV z (f k) = u)
  (hu : P.underlying t = some (.map kt et)) (hk : P.underlying kt = some (.string)) (hi : P.info? et = some i) (hz : i.zero = some z) (hd : dOk n dst = true) (hm : may all G e g = some true)
  (q : MOps ro P n all G Fl K r (put e dst u) w) : MOps ro P n all G Fl K ((j, false) :: r) e w :=
 Qf0 ho hd hm (fun w hw => by rw [← hf]; exact exec_lookT2 hx hy (hb w hw) hu hk hi hz) q
end
end Go.Vc

namespace Go.Vc
open Go Go.Proofs
set_option maxRecDepth 20000
section
section
variable {P : Program} {n : Nat} {w : World} {e : Env} {K : Jc0} {all : List Oper} {G : List Nat} {ro : Ro} {dst : Option Tmp} {ty : TypeId} {pos : String} {after : Array Edge} {g : Option (Nat × Bool)} {l : List Oper} {t : TypeId} {x y : Operand}
theorem o_pure1 {op : Op} {v : Value} (hp : Jr2 P e op = some (none, v)) (hd : dOk n dst = true) (hm : may all G e g = some true) (k : Ops ro P n all G K l (put e dst v) w) : Ops ro P n all G K (⟨dst, op, ty, pos, after, g⟩ :: l) e w :=
 Jb5 (o := ⟨dst, op, ty, pos, after, g⟩) hd hm (Jf1 hp trivial) k
theorem Zr {op : Op} {v : Value} (k : Ops ro P n all G K l (put e dst v) w) (hp : Jr2 P e op = some (none, v) := by exact rfl) (hd : dOk n dst = true := by exact rfl) (hm : may all G e g = some true := by exact rfl) : Ops ro P n all G K (⟨dst, op, ty, pos, after, g⟩ :: l) e w := o_pure1 hp hd hm k
theorem o_addW {yt : TypeId} {a b : Int} (hx : ev e x = I a) (hy : ev e y = I b) (hd : dOk n dst = true) (hm : may all G e g = some true) (k : Ops ro P n all G K l (put e dst (I (IntKind.i64.wrap (a + b)))) w) : Ops ro P n all G K (⟨dst, .binOp .add t x y yt, ty, pos, after, g⟩ :: l) e w := by
 refine Jb5 hd hm ?_ k
 simp [execOp, hx, hy, eqGuard, binOp, Op.intArith]
theorem o_subW {yt : TypeId} {a b : Int} (hx : ev e x = I a) (hy : ev e y = I b) (hd : dOk n dst = true) (hm : may all G e g = some true) (k : Ops ro P n all G K l (put e dst (I (IntKind.i64.wrap (a - b)))) w) : Ops ro P n all G K (⟨dst, .binOp .sub t x y yt, ty, pos, after, g⟩ :: l) e w := by
 refine Jb5 hd hm ?_ k
 simp [execOp, hx, hy, eqGuard, binOp, Op.intArith]
theorem o_mulW {yt : TypeId} {a b : Int} (hx : ev e x = I a) (hy : ev e y = I b) (hd : dOk n dst = true) (hm : may all G e g = some true) (k : Ops ro P n all G K l (put e dst (I (IntKind.i64.wrap (a * b)))) w) : Ops ro P n all G K (⟨dst, .binOp .mul t x y yt, ty, pos, after, g⟩ :: l) e w := by
 refine Jb5 hd hm ?_ k
 simp [execOp, hx, hy, eqGuard, binOp, Op.intArith]
theorem o_negW {a : Int} (hx : ev e x = I a) (hd : dOk n dst = true) (hm : may all G e g = some true) (k : Ops ro P n all G K l (put e dst (I (IntKind.i64.wrap (0 - a)))) w) : Ops ro P n all G K (⟨dst, .unOp .neg t x, ty, pos, after, g⟩ :: l) e w := by
 refine Jb5 hd hm ?_ k
 simp [execOp, hx, Op.unary, Op.intArith]
end
variable {w : World}
def partQ (E : List Ev) (op n : Int) : Int := if op = 9 then (evI E n).k else if 0 ≤ n ∧ n < E.length then (if op = 8 then (evI E n).t else (evI E n).o) else -1
def accQ (k : Int) : Bool := decide (k = 1) || decide (k = 2)
noncomputable def Qk2 (E : List Ev) (R : List Int) (x y : Int) : Bool :=
 decide (0 ≤ x ∧ x < E.length) && decide (0 ≤ y ∧ y < E.length) && Qm8 E R x y && accQ (evI E x).k && accQ (evI E y).k && decide ((evI E x).o = (evI E y).o) && !decide ((evI E x).t = (evI E y).t) && (decide ((evI E x).k = 2) || decide ((evI E y).k = 2))
noncomputable def qwO (E : List Ev) (R : List Int) : QW := ⟨E.length, partQ E, befI E R, Qk2 E R⟩
structure MG where
 p : Nat
 mm : Nat
 og : OrG
 E : List Ev
 R : List Int
 fuel : Nat
def MG.F (g : MG) : List Nat := [g.p, g.mm]
structure MG.Ok (g : MG) : Prop where
 ne : g.p ≠ g.mm
 op : ∀ b ∈ g.og.F, b ∉ g.F
 fu : g.fuel ≤ 67108864
structure MAt (w : World) (g : MG) (f : List UInt8 → Option Int) (s : Nat) : Prop where
 hdr : Blk w g.p [ptr g.og.p, .map (some g.mm), I s, I g.fuel] 114
 map : MapT w g.mm (fun k => (f k).map fun x => I x)
 ord : OrAt w g.og g.E g.R
theorem MAt.kp {w' : World} {S' : List Nat} {g : MG} {f : List UInt8 → Option Int} {s : Nat} (h : MAt w g f s) (hk : Kp S' w w') (h1 : ∀ b ∈ S', b ∉ g.F) (h2 : ∀ b ∈ S', b ∉ g.og.F) : MAt w' g f s :=
 ⟨hk.blk (fun hb => h1 _ hb (by simp [MG.F])) h.hdr, h.map.kp hk (fun hb => h1 _ hb (by simp [MG.F])), h.ord.kp hk (fun b hb hS => h2 b hS hb)⟩
theorem MAt.kp0 {w' : World} {g : MG} {f : List UInt8 → Option Int} {s : Nat} (h : MAt w g f s) (hk : Kp [] w w') : MAt w' g f s := h.kp hk sI sI
theorem Jg3 (b : Bool) : Ret Tryz.prog 169 [.bool b] w (fun v w' => v = I (trI b) ∧ w' = w) := by
 refine Ze Tryz.call169 Tryz.func169 ?_
 refine zS ?_
 refine Je1 rfl (fun h => ?_) (fun h => ?_)
 ·subst h
  refine zS ?_
  exact ⟨_, rfl, rfl, rfl⟩
 ·subst h
  refine zS ?_
  exact ⟨_, rfl, rfl, rfl⟩
theorem acc_ret (k : Int) : Ret Tryz.prog 198 [I k] w (fun v w' => v = .bool (accQ k) ∧ w' = w) := by
 refine Ze Tryz.call198 Tryz.func198 ?_
 refine zS ?_
 refine Ja5 _ _ rfl rfl rfl (fun h => ?_) (fun h => ?_)
 ·refine zS ?_
  exact ⟨_, rfl, by unfold accQ; rw [h]; rfl, rfl⟩
 ·refine zS ?_
  exact ⟨_, rfl, by unfold accQ; rw [h]; rfl, rfl⟩
theorem part_ret {g : MG} {f : List UInt8 → Option Int} {s : Nat} (h : MAt w g f s) (op n : Int) : Ret Tryz.prog 172 [ptr g.p, I op, I n] w (fun v w' => v = I (partQ g.E op n) ∧ Kp [] w w') := by
 have hB := h.hdr
 refine Ze Tryz.call172 Tryz.func172 ?_
 refine zL hB ?_
 refine Zc (Jk4 h.ord.toOrB n) ?_
 rintro v w1 ⟨rfl, k1⟩
 refine zS ?_
 refine Za ?_
 intro b w2 hb hu2
 refine Zs (b := b) (cs := evC (evI g.E n)) rfl hu2.blk lR rfl (by simp [Value.oneCell', evC]) ?_
 intro w3 hu3
 have hb3 : Blk w3 b (evC (evI g.E n)) 86 := hu3.blk
 have k3 : Kp [] w w3 := k1.trans ((hu2.new oM).since (hu3.kp [b] (.inl sI)) (by simp; omega))
 unfold partQ
 refine zS ?_
 refine r_if rfl (fun h9 => ?_) (fun h9 => ?_)
 ·rw [if_pos h9]
  refine zL hb3 ?_
  exact ⟨_, rfl, rfl, k3⟩
 rw [if_neg h9]
 refine zS ?_
 refine Jn8 rfl (fun hin => ?_) (fun hin => ?_)
 ·rw [if_neg hin]
  refine zS ?_
  exact ⟨_, rfl, rfl, k3⟩
 rw [if_pos hin]
 refine zS ?_
 refine r_if rfl (fun h8 => ?_) (fun h8 => ?_)
 ·rw [if_pos h8]
  refine zL hb3 ?_
  exact ⟨_, rfl, rfl, k3⟩
 ·rw [if_neg h8]
  refine zL hb3 ?_
  exact ⟨_, rfl, rfl, k3⟩
theorem race_ret {g : MG} {f : List UInt8 → Option Int} {s : Nat} (h : MAt w g f s) (x y : Int) : Ret Tryz.prog 189 [ptr g.p, I x, I y] w (fun v w' => v = .bool (Qk2 g.E g.R x y) ∧ Kp [] w w') := by
 have hB := h.hdr
 refine Ze Tryz.call189 Tryz.func189 ?_
 refine zL hB ?_
 refine Zc (Jk4 h.ord.toOrB x) ?_
 rintro v w1 ⟨rfl, k1⟩
 refine zS ?_
 refine Za ?_
 intro b w2 hb hu2
 refine Zs (b := b) (cs := evC (evI g.E x)) rfl hu2.blk lR rfl (by simp [Value.oneCell', evC]) ?_
 intro w3 hu3
 have hb3 : Blk w3 b (evC (evI g.E x)) 86 := hu3.blk
 have k3 : Kp [] w w3 := k1.trans ((hu2.new oM).since (hu3.kp [b] (.inl sI)) (by simp; omega))
 clear hu2 hu3
 have hB3 := k3.b0 hB
 refine zL hB3 ?_
 refine Zc (Jk4 (h.kp0 k3).ord.toOrB y) ?_
 rintro v w4 ⟨rfl, k4⟩
 refine zS ?_
 refine Za ?_
 intro d w5 hd hu5
 refine Zs (b := d) (cs := evC (evI g.E y)) rfl hu5.blk lR rfl (by simp [Value.oneCell', evC]) ?_
 intro w6 hu6
 have hd6 : Blk w6 d (evC (evI g.E y)) 86 := hu6.blk
 have k46 : Kp [] w3 w6 := k4.trans ((hu5.new oM).since (hu6.kp [d] (.inl sI)) (by simp; omega))
 clear hu5 hu6
 have hb6 := k46.b0 hb3
 have k6 := k3.trans k46
 have hB6 := k6.b0 hB
 have hM6 := h.kp0 k6
 unfold Qk2
 generalize hia : decide (0 ≤ x ∧ x < (g.E.length : Int)) = ia
 generalize hib : decide (0 ≤ y ∧ y < (g.E.length : Int)) = ib
 generalize evI g.E x = ea at hb6 ⊢
 generalize evI g.E y = eb at hd6 ⊢
 refine zS ?_
 refine Ja5 _ _ rfl rfl rfl (fun h1 => ?_) (fun h1 => ?_)
 rotate_left
 ·subst h1
  refine zS ?_
  exact ⟨_, rfl, sI, k6⟩
 subst h1
 refine zS ?_
 refine Ja5 _ _ rfl rfl rfl (fun h1 => ?_) (fun h1 => ?_)
 rotate_left
 ·subst h1
  refine zS ?_
  exact ⟨_, rfl, sI, k6⟩
 subst h1
 refine zL hB6 ?_
 refine Zc (oAside_ret hM6.ord x y) ?_
 rintro v w7 ⟨rfl, k7⟩
 have k07 := k6.trans k7
 have hb7 := k7.b0 hb6
 have hd7 := k7.b0 hd6
 generalize Qm8 g.E g.R x y = ic
 refine zS ?_
 refine Ja5 _ _ rfl rfl rfl (fun h1 => ?_) (fun h1 => ?_)
 rotate_left
 ·subst h1
  refine zS ?_
  exact ⟨_, rfl, sI, k07⟩
 subst h1
 refine zL hb7 ?_
 refine Jq3 (first := #[]) (cap := #[]) (acc_ret ea.k) rfl rfl rfl rfl ?_
 rintro v w8 ⟨rfl, rfl⟩
 refine zS ?_
 refine Ja5 _ _ rfl rfl rfl (fun h1 => ?_) (fun h1 => ?_)
 rotate_left
 ·refine zS ?_
  exact ⟨_, rfl, by simp [h1], k07⟩
 refine zL hd7 ?_
 refine Jq3 (first := #[]) (cap := #[]) (acc_ret eb.k) rfl rfl rfl rfl ?_
 rintro v w9 ⟨rfl, rfl⟩
 refine zS ?_
 refine Ja5 _ _ rfl rfl rfl (fun h2 => ?_) (fun h2 => ?_)
 rotate_left
 ·refine zS ?_
  exact ⟨_, rfl, by simp [h2], k07⟩
 rw [h1, h2]
 refine zL hb7 ?_
 refine zL hd7 ?_
 refine Ja5 _ _ rfl rfl rfl (fun h3 => ?_) (fun h3 => ?_)
 rotate_left
 ·refine zS ?_
  exact ⟨_, rfl, by simp [h3], k07⟩
 rw [h3]
 refine zL hb7 ?_
 refine zL hd7 ?_
 refine Ja5 _ _ rfl rfl rfl (fun h4 => ?_) (fun h4 => ?_)
 rotate_left
 ·refine zS ?_
  exact ⟨_, rfl, by simp [h4], k07⟩
 rw [h4]
 refine zL hb7 ?_
 refine Ja5 _ _ rfl rfl rfl (fun h5 => ?_) (fun h5 => ?_)
 ·refine zS ?_
  exact ⟨_, rfl, by simp [h5], k07⟩
 rw [h5]
 refine zL hd7 ?_
 exact ⟨_, rfl, sI, k07⟩
theorem pair_ret {g : MG} {f : List UInt8 → Option Int} {s : Nat} (h : MAt w g f s) (op x y : Int) : Ret Tryz.prog 174 [ptr g.p, I op, I x, I y] w (fun v w' => v = I (Qj5 (qwO g.E g.R) op x y) ∧ Kp [] w w') := by
 have hB := h.hdr
 unfold Qj5
 refine Ze Tryz.call174 Tryz.func174 ?_
 refine zS ?_
 refine r_if rfl (fun c => ?_) (fun c => ?_)
 ·rw [if_pos c]
  refine zA ?_
  refine zg ?_
  refine Zr ?_
  refine Zr ?_
  refine o_addW rfl rfl rfl rfl ?_
  refine zS ?_
  exact ⟨_, rfl, rfl, Kp.refl _ _⟩
 rw [if_neg c]
 refine zS ?_
 refine r_if rfl (fun c => ?_) (fun c => ?_)
 ·rw [if_pos c]
  refine zA ?_
  refine zg ?_
  refine Zr ?_
  refine Zr ?_
  refine o_subW rfl rfl rfl rfl ?_
  refine zS ?_
  exact ⟨_, rfl, rfl, Kp.refl _ _⟩
 rw [if_neg c]
 refine zS ?_
 refine r_if rfl (fun c => ?_) (fun c => ?_)
 ·rw [if_pos c]
  refine zA ?_
  refine zg ?_
  refine Zr ?_
  refine Zr ?_
  refine o_mulW rfl rfl rfl rfl ?_
  refine zS ?_
  exact ⟨_, rfl, rfl, Kp.refl _ _⟩
 rw [if_neg c]
 refine zS ?_
 refine r_if rfl (fun c => ?_) (fun c => ?_)
 ·rw [if_pos c]
  refine zS ?_
  refine Zc (Jg3 _) ?_
  rintro v w1 ⟨rfl, rfl⟩
  refine zS ?_
  exact ⟨_, rfl, rfl, Kp.refl _ _⟩
 rw [if_neg c]
 refine zS ?_
 refine r_if rfl (fun c => ?_) (fun c => ?_)
 ·rw [if_pos c]
  refine zS ?_
  refine Zc (Jg3 _) ?_
  rintro v w1 ⟨rfl, rfl⟩
  refine zS ?_
  exact ⟨_, rfl, rfl, Kp.refl _ _⟩
 rw [if_neg c]
 refine zS ?_
 refine r_if rfl (fun c => ?_) (fun c => ?_)
 ·rw [if_pos c]
  refine zS ?_
  refine Zc (Jg3 _) ?_
  rintro v w1 ⟨rfl, rfl⟩
  refine zS ?_
  exact ⟨_, rfl, rfl, Kp.refl _ _⟩
 rw [if_neg c]
 refine zS ?_
 refine r_if rfl (fun c => ?_) (fun c => ?_)
 ·rw [if_pos c]
  refine zS ?_
  refine Zc (Jg3 _) ?_
  rintro v w1 ⟨rfl, rfl⟩
  refine zS ?_
  exact ⟨_, rfl, rfl, Kp.refl _ _⟩
 rw [if_neg c]
 refine zS ?_
 refine r_if rfl (fun c => ?_) (fun c => ?_)
 ·rw [if_pos c]
  refine zS ?_
  refine Zc (Jg3 _) ?_
  rintro v w1 ⟨rfl, rfl⟩
  refine zS ?_
  exact ⟨_, rfl, rfl, Kp.refl _ _⟩
 rw [if_neg c]
 refine zS ?_
 refine r_if rfl (fun c => ?_) (fun c => ?_)
 ·rw [if_pos c]
  refine zS ?_
  refine Zc (Jg3 _) ?_
  rintro v w1 ⟨rfl, rfl⟩
  refine zS ?_
  exact ⟨_, rfl, rfl, Kp.refl _ _⟩
 rw [if_neg c]
 refine zS ?_
 refine r_if rfl (fun c => ?_) (fun c => ?_)
 ·rw [if_pos c]
  refine zL hB ?_
  refine Zc (Jv6 h.ord x y) ?_
  rintro v w1 ⟨rfl, rfl⟩
  refine zS ?_
  refine Zc (Jg3 _) ?_
  rintro v w1 ⟨rfl, rfl⟩
  refine zS ?_
  exact ⟨_, rfl, rfl, Kp.refl _ _⟩
 rw [if_neg c]
 refine zS ?_
 refine Zc (race_ret h x y) ?_
 rintro v w1 ⟨rfl, k1⟩
 refine zS ?_
 refine Zc (Jg3 _) ?_
 rintro v w2 ⟨rfl, rfl⟩
 refine zS ?_
 exact ⟨_, rfl, rfl, k1⟩
end
end Go.Vc
