/- Maps with integers for keys: told by a function; look-ups, stores, deletes. -/
import Derived.Test.YtkgngbpkiklckaaGreatDoorQClQRaces7
namespace Go.Vc
open Go
variable {P : Program} {n : Nat} {a : Act} {e : Env} {w : World} {K : EPost} {X : List (Nat × EPost)} {R : EPost} {all : List Oper} {G : List Nat} {ro : Ro}

/-- what the entries of a map tell -/
structure MapFn (l : List MapEntry) (clock : Nat) (f : Int → Option Value) : Prop where
  key : ∀ x ∈ l, ∃ k : Int, x.key = I k
  nod : (l.map (·.key)).Nodup
  born : (l.map (·.born)).Nodup
  old : ∀ x ∈ l, x.born < clock
  val : ∀ k v, f k = some v ↔ ∃ x ∈ l, x.key = I k ∧ x.val = v
/-- block m is a map that tells f -/
def MapI (w : World) (m : Nat) (f : Int → Option Value) : Prop := ∃ es clock, w.heap[m]? = some (.map es clock) ∧ MapFn es.toList clock f
theorem MapI.lt {m : Nat} {f : Int → Option Value} (h : MapI w m f) : m < w.heap.size := by
  obtain ⟨es, c, h1, _⟩ := h
  exact (Array.getElem?_eq_some_iff.1 h1).1
theorem MapI.kp {w' : World} {S : List Nat} {m : Nat} {f : Int → Option Value} (h : MapI w m f) (hk : Kp S w w') (hS : m ∉ S) : MapI w' m f := by
  have hl := h.lt
  obtain ⟨es, c, h1, h2⟩ := h
  exact ⟨es, c, by rw [hk.at_ m hl hS]; exact h1, h2⟩
theorem MapI.heap {w' : World} {m : Nat} {f : Int → Option Value} (h : MapI w m f) (hk : w'.heap[m]? = w.heap[m]?) : MapI w' m f := by
  obtain ⟨es, c, h1, h2⟩ := h
  exact ⟨es, c, by rw [hk]; exact h1, h2⟩
theorem MapFn.nil : MapFn [] 0 (fun _ => none) := ⟨by simp, by simp, by simp, by simp, fun k v => by simp⟩
theorem find_int : ∀ {l : List MapEntry} {k : Int} (i : Nat), (∀ x ∈ l, ∃ k : Int, x.key = I k) →
    (Instr.findNow (.int .i64) (I k) l i = some none ∧ ∀ x ∈ l, x.key ≠ I k) ∨ ∃ j x, Instr.findNow (.int .i64) (I k) l i = some (some (i + j, x.val)) ∧ l[j]? = some x ∧ x.key = I k
  | [], k, i, _ => .inl ⟨rfl, by simp⟩
  | x :: r, k, i, h => by
    obtain ⟨kx, hx⟩ := h x (by simp)
    by_cases hk : k = kx
    · subst hk
      refine .inr ⟨0, x, ?_, rfl, hx⟩
      simp [Instr.findNow, Instr.sameNow, hx]
    · have hs : Instr.sameNow (.int .i64) (I k) x.key = some false := by rw [hx]; simp [Instr.sameNow, hk]
      rcases find_int (l := r) (k := k) (i + 1) (fun y hy => h y (by simp [hy])) with ⟨h1, h2⟩ | ⟨j, y, h1, h2, h3⟩
      · refine .inl ⟨by simp only [Instr.findNow, hs]; exact h1, fun y hy => ?_⟩
        rcases List.mem_cons.1 hy with rfl | hy
        · rw [hx]; simp; omega
        · exact h2 y hy
      · refine .inr ⟨j + 1, y, ?_, by simpa using h2, h3⟩
        simp only [Instr.findNow, hs, h1]
        congr 3; omega
theorem nodup_key {l : List MapEntry} (h : (l.map (·.key)).Nodup) {x y : MapEntry} (hx : x ∈ l) (hy : y ∈ l) (e : x.key = y.key) : x = y := by
  induction l with
  | nil => simp at hx
  | cons z r ih =>
    simp only [List.map_cons, List.nodup_cons, List.mem_map, not_exists, not_and] at h
    rcases List.mem_cons.1 hx with rfl | hx' <;> rcases List.mem_cons.1 hy with rfl | hy'
    · rfl
    · exact absurd e.symm (h.1 y hy')
    · exact absurd e (h.1 x hx')
    · exact ih h.2 hx' hy'
/-- a look-up answers by the function -/
theorem MapFn.find {l : List MapEntry} {c : Nat} {f : Int → Option Value} (h : MapFn l c f) (k : Int) :
    (f k = none ∧ Instr.findNow (.int .i64) (I k) l 0 = some none) ∨ ∃ j x, f k = some x.val ∧ Instr.findNow (.int .i64) (I k) l 0 = some (some (j, x.val)) ∧ l[j]? = some x ∧ x.key = I k := by
  rcases find_int (l := l) (k := k) 0 h.key with ⟨h1, h2⟩ | ⟨j, x, h1, h2, h3⟩
  · refine .inl ⟨?_, h1⟩
    cases hf : f k with
    | none => rfl
    | some v =>
      obtain ⟨x, hx, hk, _⟩ := (h.val k v).1 hf
      exact absurd hk (h2 x hx)
  · rw [Nat.zero_add] at h1
    exact .inr ⟨j, x, (h.val k _).2 ⟨x, List.mem_of_getElem? h2, h3, rfl⟩, h1, h2, h3⟩
def upF (f : Int → Option Value) (k : Int) (v : Option Value) (x : Int) : Option Value := if x = k then v else f x
theorem MapFn.push {l : List MapEntry} {c : Nat} {f : Int → Option Value} (h : MapFn l c f) {k : Int} {v : Value} (hk : f k = none) : MapFn (l ++ [⟨I k, v, c⟩]) (c + 1) (upF f k (some v)) := by
  have hno : ∀ x ∈ l, x.key ≠ I k := fun x hx e => by
    have := (h.val k x.val).2 ⟨x, hx, e, rfl⟩
    rw [hk] at this; cases this
  refine ⟨fun x hx => ?_, ?_, ?_, fun x hx => ?_, fun k' v' => ?_⟩
  · rcases List.mem_append.1 hx with hx | hx
    · exact h.key x hx
    · simp at hx; subst hx; exact ⟨k, rfl⟩
  · rw [List.map_append, List.nodup_append]
    refine ⟨h.nod, by simp, fun y hy z hz => ?_⟩
    obtain ⟨x, hx, rfl⟩ := List.mem_map.1 hy
    simp at hz; subst hz
    exact hno x hx
  · rw [List.map_append, List.nodup_append]
    refine ⟨h.born, by simp, fun y hy z hz => ?_⟩
    obtain ⟨x, hx, rfl⟩ := List.mem_map.1 hy
    simp at hz; subst hz
    have := h.old x hx
    omega
  · rcases List.mem_append.1 hx with hx | hx
    · have := h.old x hx; omega
    · simp at hx; subst hx; simp
  · unfold upF
    by_cases hkk : k' = k
    · subst hkk
      rw [if_pos rfl]
      refine ⟨fun e => ⟨⟨I k', v, c⟩, by simp, rfl, by simpa using e⟩, fun ⟨x, hx, h1, h2⟩ => ?_⟩
      rcases List.mem_append.1 hx with hx | hx
      · exact absurd h1 (hno x hx)
      · simp at hx; subst hx; rw [← h2]
    · rw [if_neg hkk, h.val]
      refine ⟨fun ⟨x, hx, h1, h2⟩ => ⟨x, by simp [hx], h1, h2⟩, fun ⟨x, hx, h1, h2⟩ => ?_⟩
      rcases List.mem_append.1 hx with hx | hx
      · exact ⟨x, hx, h1, h2⟩
      · simp at hx; subst hx
        simp at h1
        exact absurd h1.symm hkk
theorem map_key_set : ∀ {l : List MapEntry} {j : Nat} {x y : MapEntry}, l[j]? = some x → y.key = x.key → y.born = x.born → (l.set j y).map (·.key) = l.map (·.key) ∧ (l.set j y).map (·.born) = l.map (·.born)
  | [], j, x, y, h, _, _ => by simp at h
  | z :: r, 0, x, y, h, h1, h2 => by simp at h; subst h; simp [h1, h2]
  | z :: r, j + 1, x, y, h, h1, h2 => by
    obtain ⟨g1, g2⟩ := map_key_set (l := r) (j := j) (by simpa using h) h1 h2
    simp [g1, g2]
theorem MapFn.set {l : List MapEntry} {c : Nat} {f : Int → Option Value} (h : MapFn l c f) {k : Int} {v : Value} {j : Nat} {x : MapEntry} (hx : l[j]? = some x) (hk : x.key = I k) : MapFn (l.set j ⟨I k, v, x.born⟩) c (upF f k (some v)) := by
  obtain ⟨g1, g2⟩ := map_key_set (y := ⟨I k, v, x.born⟩) hx hk.symm rfl
  have hm : x ∈ l := List.mem_of_getElem? hx
  have hj : j < l.length := (List.getElem?_eq_some_iff.1 hx).1
  refine ⟨fun y hy => ?_, by rw [g1]; exact h.nod, by rw [g2]; exact h.born, fun y hy => ?_, fun k' v' => ?_⟩
  · rcases List.mem_or_eq_of_mem_set hy with hy | rfl
    · exact h.key y hy
    · exact ⟨k, rfl⟩
  · rcases List.mem_or_eq_of_mem_set hy with hy | rfl
    · exact h.old y hy
    · exact h.old x hm
  · have hin : (⟨I k, v, x.born⟩ : MapEntry) ∈ l.set j ⟨I k, v, x.born⟩ := List.mem_set (by omega) _
    unfold upF
    by_cases hkk : k' = k
    · subst hkk
      rw [if_pos rfl]
      refine ⟨fun e => ⟨_, hin, rfl, by simpa using e⟩, fun ⟨y, hy, h1, h2⟩ => ?_⟩
      have := nodup_key (by rw [g1]; exact h.nod) hy hin h1
      rw [← h2, this]
    · rw [if_neg hkk, h.val]
      refine ⟨fun ⟨y, hy, h1, h2⟩ => ?_, fun ⟨y, hy, h1, h2⟩ => ?_⟩
      · obtain ⟨i, hi⟩ := List.getElem?_of_mem hy
        have hij : i ≠ j := fun e => by
          subst e; rw [hx] at hi; cases hi
          rw [hk] at h1; simp at h1; exact hkk h1.symm
        exact ⟨y, List.mem_of_getElem? (i := i) (by rw [List.getElem?_set_ne (fun e => hij e.symm)]; exact hi), h1, h2⟩
      · rcases List.mem_or_eq_of_mem_set hy with hy | rfl
        · exact ⟨y, hy, h1, h2⟩
        · simp at h1; exact absurd h1.symm hkk
theorem MapFn.erase {l : List MapEntry} {c : Nat} {f : Int → Option Value} (h : MapFn l c f) {k : Int} {j : Nat} {x : MapEntry} (hx : l[j]? = some x) (hk : x.key = I k) : MapFn (l.eraseIdx j) c (upF f k none) := by
  have hsub : (l.eraseIdx j).Sublist l := List.eraseIdx_sublist l j
  refine ⟨fun y hy => h.key y (hsub.mem hy), h.nod.sublist (hsub.map _), h.born.sublist (hsub.map _), fun y hy => h.old y (hsub.mem hy), fun k' v' => ?_⟩
  unfold upF
  by_cases hkk : k' = k
  · subst hkk
    rw [if_pos rfl]
    refine ⟨fun e => (by cases e), fun ⟨y, hy, h1, _⟩ => ?_⟩
    exfalso
    have hyl := hsub.mem hy
    have e := nodup_key h.nod hyl (List.mem_of_getElem? hx) (by rw [h1, hk])
    subst e
    obtain ⟨i, hij, hi⟩ := List.mem_eraseIdx_iff_getElem?.1 hy
    have hn := h.nod
    have hi2 : i < l.length := (List.getElem?_eq_some_iff.1 hi).1
    have hj2 : j < l.length := (List.getElem?_eq_some_iff.1 hx).1
    have hp := List.pairwise_iff_getElem.1 hn
    have ei : l[i] = y := by rw [List.getElem?_eq_getElem hi2] at hi; exact Option.some.inj hi
    have ej : l[j] = y := by rw [List.getElem?_eq_getElem hj2] at hx; exact Option.some.inj hx
    rcases Nat.lt_or_gt_of_ne hij with hlt | hlt
    · exact hp i j (by simpa using hi2) (by simpa using hj2) hlt (by simp [ei, ej])
    · exact hp j i (by simpa using hj2) (by simpa using hi2) hlt (by simp [ei, ej])
  · rw [if_neg hkk, h.val]
    refine ⟨fun ⟨y, hy, h1, h2⟩ => ?_, fun ⟨y, hy, h1, h2⟩ => ⟨y, hsub.mem hy, h1, h2⟩⟩
    obtain ⟨i, hi⟩ := List.getElem?_of_mem hy
    have hij : i ≠ j := fun e => by
      subst e; rw [hx] at hi; cases hi
      rw [hk] at h1; simp at h1; exact hkk h1.symm
    exact ⟨y, List.mem_eraseIdx_iff_getElem?.2 ⟨i, hij, hi⟩, h1, h2⟩

section
variable {dst : Option Tmp} {ty : TypeId} {pos : String} {after : Array Edge} {g : Option (Nat × Bool)} {l : List Oper} {t : TypeId} {x y : Operand}
theorem run_getMap {m : Nat} {es : Array MapEntry} {clock : Nat} (hb : w.heap[m]? = some (.map es clock)) : (getObj m).run P w = .ok (.map es clock) w := by simp [getObj, Sem.run, hb]
theorem run_find {kt : TypeId} {d : TypeDesc} {key : Value} {es : List MapEntry} {r : Option (Nat × Value)} (hk : P.underlying kt = some d) (hr : Instr.findNow d key es 0 = some r) : (Instr.findKey kt key es).run P w = .ok r w := by
  simp only [Instr.findKey, Sem.run_bind, run_underlying hk, Result.andThen_ok, hr, Sem.run_pure]
theorem exec_lookup1 {kt et : TypeId} {z : Value} {i : TypeInfo} {m : Nat} {k : Int} {f : Int → Option Value} (hx : ev e x = .map (some m)) (hy : ev e y = I k) (hb : MapI w m f)
    (hu : P.underlying t = some (.map kt et)) (hk : P.underlying kt = some (.int .i64)) (hi : P.info? et = some i) (hz : i.zero = some z) : (execOp (ev e) ⟨dst, .lookup t x y false, ty, pos, after, g⟩).run P w = .ok (.value ((f k).getD z)) w := by
  obtain ⟨es, c, hb, hf⟩ := hb
  rcases hf.find k with ⟨h1, h2⟩ | ⟨j, e, h1, h2, _, _⟩
  · simp [execOp, Instr.lookup, hx, hy, run_underlying hu, run_getMap hb, checkKey_run hk (.inr ⟨_, rfl⟩), run_find hk h2, zeroValue, typeInfo, hi, hz, h1]
  · simp [execOp, Instr.lookup, hx, hy, run_underlying hu, run_getMap hb, checkKey_run hk (.inr ⟨_, rfl⟩), run_find hk h2, h1]
def lookV (z : Value) : Option Value → Value
  | some v => .tuple #[v, .bool true]
  | none => .tuple #[z, .bool false]
theorem exec_lookup2 {kt et : TypeId} {z : Value} {i : TypeInfo} {m : Nat} {k : Int} {f : Int → Option Value} (hx : ev e x = .map (some m)) (hy : ev e y = I k) (hb : MapI w m f)
    (hu : P.underlying t = some (.map kt et)) (hk : P.underlying kt = some (.int .i64)) (hi : P.info? et = some i) (hz : i.zero = some z) : (execOp (ev e) ⟨dst, .lookup t x y true, ty, pos, after, g⟩).run P w = .ok (.value (lookV z (f k))) w := by
  obtain ⟨es, c, hb, hf⟩ := hb
  rcases hf.find k with ⟨h1, h2⟩ | ⟨j, e, h1, h2, _, _⟩
  · simp [execOp, Instr.lookup, hx, hy, run_underlying hu, run_getMap hb, checkKey_run hk (.inr ⟨_, rfl⟩), run_find hk h2, zeroValue, typeInfo, hi, hz, h1, lookV]
  · simp [execOp, Instr.lookup, hx, hy, run_underlying hu, run_getMap hb, checkKey_run hk (.inr ⟨_, rfl⟩), run_find hk h2, h1, lookV]
/-- 'm[k]' -/
theorem o_lookI {kt et : TypeId} {z : Value} {i : TypeInfo} {m : Nat} {k : Int} {f : Int → Option Value} (u : Value) (hx : ev e x = .map (some m)) (hy : ev e y = I k) (hb : MapI w m f) (hf : (f k).getD z = u)
    (hu : P.underlying t = some (.map kt et)) (hk : P.underlying kt = some (.int .i64)) (hi : P.info? et = some i) (hz : i.zero = some z) (hd : dOk n dst = true) (hm : may all G e g = some true)
    (q : Ops ro P n all G K l (put e dst u) w) : Ops ro P n all G K (⟨dst, .lookup t x y false, ty, pos, after, g⟩ :: l) e w :=
  ops_does hd hm (by rw [← hf]; exact exec_lookup1 hx hy hb hu hk hi hz) q
/-- a map object that is another now -/
structure MUpd (w : World) (m : Nat) (f : Int → Option Value) (w' : World) : Prop where
  at_ : MapI w' m f
  os : w'.os = w.os
  tape : w'.tape = w.tape
  output : w'.output = w.output
  other : ∀ k, k ≠ m → w'.heap[k]? = w.heap[k]?
  size : w'.heap.size = w.heap.size
theorem MUpd.of {m : Nat} {o : Obj} {w' : World} {f : Int → Option Value} (h : Upd w m o w') (hl : m < w.heap.size) (hm : MapI w' m f) : MUpd w m f w' :=
  ⟨hm, h.os, h.tape, h.output, h.other, Nat.le_antisymm (by have := h.size'; omega) h.size⟩
theorem MUpd.kp {m : Nat} {w' : World} {f : Int → Option Value} (h : MUpd w m f w') (S : List Nat) (hb : m ∈ S ∨ w.heap.size ≤ m) : Kp S w w' :=
  ⟨h.os, h.tape, h.output, by rw [h.size]; exact Nat.le_refl _, fun k hk hS => h.other k (fun e => by subst e; rcases hb with hb | hb; exact hS hb; omega)⟩
theorem same_bits_int (k : Int) : Instr.sameBits 10000 (I k) (I k) = true := by simp [Instr.sameBits]
theorem mapSet_run {kt et : TypeId} {m : Nat} {k : Int} {v : Value} {f : Int → Option Value} (hb : MapI w m f) (hk : P.underlying kt = some (.int .i64)) (hu : P.underlying t = some (.map kt et)) :
    ∃ w', (Instr.mapUpdate t (.map (some m)) (I k) v).run P w = .ok () w' ∧ MUpd w m (upF f k (some v)) w' := by
  have hlt := hb.lt
  obtain ⟨es, c, hb, hf⟩ := hb
  have hso : ∀ o, (setObj m o).run P w = .ok () { w with heap := w.heap.setIfInBounds m o } := fun o => by simp [setObj, Sem.run, hb]
  rcases hf.find k with ⟨h1, h2⟩ | ⟨j, e', h1, h2, h3, h4⟩
  · have hu' := upd_setObj (o' := .map (es.push ⟨I k, v, c⟩) (c + 1)) hb
    refine ⟨{ w with heap := w.heap.setIfInBounds m (.map (es.push ⟨I k, v, c⟩) (c + 1)) }, ?_, MUpd.of hu' hlt ⟨_, _, hu'.at_, ?_⟩⟩
    · simp only [Instr.mapUpdate, Sem.run_bind, run_underlying hu, Result.andThen_ok, run_getMap hb, checkKey_run hk (.inr ⟨_, rfl⟩), run_find hk h2, hso, Sem.run_pure]
    · rw [Array.toList_push]; exact hf.push h1
  · have hu' := upd_setObj (o' := .map (es.modify j fun e => { e with key := I k, val := v }) c) hb
    refine ⟨{ w with heap := w.heap.setIfInBounds m (.map (es.modify j fun e => { e with key := I k, val := v }) c) }, ?_, MUpd.of hu' hlt ⟨_, _, hu'.at_, ?_⟩⟩
    · have hj : es[j]? = some e' := by rw [← h3]; simp
      have hkey : (((es[j]?).map (·.key)).getD (I k)) = I k := by rw [hj]; simp [h4]
      simp only [Instr.mapUpdate, Sem.run_bind, run_underlying hu, Result.andThen_ok, run_getMap hb, checkKey_run hk (.inr ⟨_, rfl⟩), run_find hk h2, hkey, Instr.keyThatStays, same_bits_int, if_true, hso, Sem.run_pure]
    · have hj : j < es.toList.length := (List.getElem?_eq_some_iff.1 h3).1
      have e1 : (es.modify j fun e => { e with key := I k, val := v }).toList = es.toList.set j ⟨I k, v, e'.born⟩ := by
        rw [Array.toList_modify]
        apply List.ext_getElem?
        intro i
        rw [List.getElem?_modify, List.getElem?_set]
        by_cases hij : j = i
        · subst hij
          rw [if_pos rfl, if_pos hj, h3]; simp
        · rw [if_neg hij]; simp [hij]
      rw [e1]; exact hf.set h3 h4
/-- 'm[k] = v' -/
theorem o_mapSet {kt et : TypeId} {m : Nat} {k : Int} {v : Value} {z : Operand} {f : Int → Option Value} {c2 : Option Prop} (hx : ev e x = .map (some m)) (hy : ev e y = I k) (hv : same (ev e z) = some (c2, v)) (hb : MapI w m f)
    (hu : P.underlying t = some (.map kt et)) (hk : P.underlying kt = some (.int .i64)) (hd : dOk n dst = true) (hm : may all G e g = some true)
    (q : ∀ w', MUpd w m (upF f k (some v)) w' → Ops ro P n all G K l (put e dst undef) w') : Ops ro P n all G K (⟨dst, .mapUpdate t x y z, ty, pos, after, g⟩ :: l) e w := by
  obtain ⟨w', hr, hw'⟩ := mapSet_run (P := P) (v := v) hb hk (t := t) (k := k) hu
  refine ops_skips (w' := w') hd hm ?_ (q _ hw')
  simp only [execOp, hx, hy, ← same_eq hv, Sem.run_bind, hr, Result.andThen_ok, Sem.run_pure]
/-- 'delete(m, k)' -/
theorem o_delete {kt et at1 : TypeId} {m : Nat} {k : Int} {f : Int → Option Value} (hx : ev e x = .map (some m)) (hy : ev e y = I k) (hb : MapI w m f)
    (hu : P.underlying t = some (.map kt et)) (hk : P.underlying kt = some (.int .i64)) (hd : dOk n dst = true) (hm : may all G e g = some true)
    (q : ∀ w', MUpd w m (upF f k none) w' → Ops ro P n all G K l (put e dst (.tuple #[])) w') : Ops ro P n all G K (⟨dst, .call ⟨.builtin .delete, #[x, y], #[t, at1]⟩, ty, pos, after, g⟩ :: l) e w := by
  have hlt := hb.lt
  obtain ⟨es, c, hb, hf⟩ := hb
  have hso : ∀ o, (setObj m o).run P w = .ok () { w with heap := w.heap.setIfInBounds m o } := fun o => by simp [setObj, Sem.run, hb]
  rcases hf.find k with ⟨h1, h2⟩ | ⟨j, e', h1, h2, h3, h4⟩
  · have hu' := upd_setObj (o' := .map es c) hb
    refine ops_does (v := .tuple #[]) (w' := { w with heap := w.heap.setIfInBounds m (.map es c) }) hd hm ?_ (q _ (MUpd.of hu' hlt ⟨_, _, hu'.at_, ?_⟩))
    · simp [execOp, resolve, invoke, builtin, hx, hy, Builtin.delete_, run_underlying hu, run_getMap hb, checkKey_run hk (.inr ⟨_, rfl⟩), run_find hk h2, hso]
    · have e1 : upF f k none = f := by
        funext z; unfold upF
        by_cases hz : z = k
        · rw [if_pos hz, hz, h1]
        · rw [if_neg hz]
      rw [e1]; exact hf
  · have hu' := upd_setObj (o' := .map (es.eraseIdxIfInBounds j) c) hb
    refine ops_does (v := .tuple #[]) (w' := { w with heap := w.heap.setIfInBounds m (.map (es.eraseIdxIfInBounds j) c) }) hd hm ?_ (q _ (MUpd.of hu' hlt ⟨_, _, hu'.at_, ?_⟩))
    · simp [execOp, resolve, invoke, builtin, hx, hy, Builtin.delete_, run_underlying hu, run_getMap hb, checkKey_run hk (.inr ⟨_, rfl⟩), run_find hk h2, hso]
    · have e1 : (es.eraseIdxIfInBounds j).toList = es.toList.eraseIdx j := by simp
      rw [e1]; exact hf.erase h3 h4
end
end Go.Vc
/- A region that draws its order and holds several operations that turn the world, apart from each other: every order of these is walked, what only reads goes first. -/
namespace Go.Vc
open Go
variable {P : Program} {n : Nat} {a : Act} {e : Env} {w : World} {K : EPost} {X : List (Nat × EPost)} {R : EPost} {ro : Ro} {all : List Oper} {Fl : World → Prop} {ds : List Deferred}
def lst (L : Array Oper) (done : List Nat) : Array Bool := done.foldl (fun l i => l.setIfInBounds i true) (Array.replicate L.size false)
theorem lst_size (L : Array Oper) (done : List Nat) : (lst L done).size = L.size := by
  unfold lst
  have key : ∀ (d : List Nat) (l : Array Bool), l.size = L.size → (d.foldl (fun l i => l.setIfInBounds i true) l).size = L.size := by
    intro d
    induction d with
    | nil => exact fun l h => h
    | cons i r ih => exact fun l h => ih _ (by simpa using h)
  exact key done _ (by simp)
theorem lst_snoc (L : Array Oper) (done : List Nat) (i : Nat) : lst L (done ++ [i]) = (lst L done).setIfInBounds i true := by simp [lst]
/-- in this state, with these done, whatever order is picked -/
def AnyE (ro : Ro) (P : Program) (n : Nat) (all : List Oper) (Fl : World → Prop) (K : EPost) (fuel : Nat) (done : List Nat) (e : Env) (w : World) : Prop :=
  Closed all.toArray (lst all.toArray done) → ∀ ds a, Fit n ds a e → anyF ds ro P all.toArray Fl (fun a w => ∃ e, Fit n ds a e ∧ K e w) fuel (lst all.toArray done) a w
theorem r_any {id : Nat} (Fl : World → Prop) (fuel : Nat) (hm : P.follows .mixedOrders = true) (hl : Nat.beq fuel all.toArray.size = true)
    (h : AnyE ro P n all Fl K fuel [] e { w with drawn := w.drawn + 1 }) : Wp ro P n (.region id all.toArray true) K X R e w := by
  intro ds a ha
  refine wpIn_region_any hm ?_
  rw [Nat.eq_of_beq_eq_true hl] at h
  exact anyF_in panQ_lift (fun a w hq => hq) _ _ _ _ (h (fun j q hq hl => by
    have e0 : lst all.toArray [] = Array.replicate all.toArray.size false := rfl
    rw [e0, Array.getD_eq_getD_getElem?, Array.getElem?_replicate] at hl
    split at hl <;> simp at hl) ds a ha)
theorem t_end {done : List Nat} (hB : (Region.ready .any all.toArray (lst all.toArray done)).isEmpty = true) (h : K e w) : AnyE ro P n all Fl K 0 done e w :=
  fun _ ds a ha => ⟨by simpa using hB, e, ha, h⟩
def segB (L : Array Oper) : List Nat → Array Bool → Bool
  | [], _ => true
  | i :: r, listed => (Region.ready .any L listed).contains i && Region.free .any L listed i && segB L r (listed.setIfInBounds i true)
theorem seg_any {L : Array Oper} {Q : Act → World → Prop} (hP : plainB L = true) : ∀ (is : List Nat) (done : List Nat) (a : Act) (w : World) (fuel : Nat), Closed L (lst L done) → Fl w → segB L is (lst L done) = true →
    mixW ds ro P L Fl (fun a w => Closed L (lst L (done ++ is)) → anyF ds ro P L Fl Q fuel (lst L (done ++ is)) a w) (is.map fun i => (i, false)) a w → anyF ds ro P L Fl Q (is.length + fuel) (lst L done) a w
  | [], done, a, w, fuel, hcl, _, _, h => by
    simp only [List.append_nil, List.map_nil, mixW] at h
    simpa using h hcl
  | i :: r, done, a, w, fuel, hcl, hw, hB, h => by
    simp only [List.map_cons] at h
    unfold mixW at h
    cases ho : L[i]? with
    | none => simp only [ho] at h
    | some o =>
      simp only [ho, Bool.false_eq_true, if_false] at h
      simp only [segB, Bool.and_eq_true] at hB
      obtain ⟨⟨hr, hf⟩, hB'⟩ := hB
      obtain ⟨v, hy, hK⟩ := h
      have hr' : i ∈ Region.ready .any L (lst L done) := by simpa using hr
      have e1 : (i :: r).length + fuel = (r.length + fuel) + 1 := by simp; omega
      rw [e1]
      refine anyF_first hP ho (r.length + fuel) (lst L done) a w (lst_size L done) hcl hw (Region.free_spec ho hf) hr' hy ?_
      rw [← lst_snoc]
      refine seg_any hP r (done ++ [i]) _ w fuel (by rw [lst_snoc]; exact hcl.set hr') hw (by rw [lst_snoc]; exact hB') ?_
      have e2 : done ++ [i] ++ r = done ++ i :: r := by simp
      rw [e2]; exact hK
theorem mixW_mono {L : Array Oper} {Q Q' : Act → World → Prop} (hq : ∀ a w, Q a w → Q' a w) (ord : List (Nat × Bool)) : ∀ (a : Act) (w : World), mixW ds ro P L Fl Q ord a w → mixW ds ro P L Fl Q' ord a w := by
  induction ord with
  | nil => exact fun a w h => hq a w h
  | cons p r ih =>
    intro a w h
    obtain ⟨i, b⟩ := p
    unfold mixW at h ⊢
    split
    · rename_i ho; simp only [ho] at h
    · rename_i o ho
      simp only [ho] at h
      cases b with
      | true => simp only [if_true] at h ⊢; exact opF_mono (fun a w hk => ⟨hk.1, ih a w hk.2⟩) h
      | false => simp only [Bool.false_eq_true, if_false] at h ⊢; obtain ⟨v, hy, hk⟩ := h; exact ⟨v, hy, ih _ _ hk⟩
/-- what only reads goes first -/
theorem t_seg {fuel0 : Nat} {done : List Nat} (is : List Nat) (fuel : Nat) (hP : plainB all.toArray = true) (hf : Nat.beq (is.length + fuel) fuel0 = true) (hB : segB all.toArray is (lst all.toArray done) = true) (hw : Fl w)
    (h : MOps ro P n all [] Fl (AnyE ro P n all Fl K fuel (done ++ is)) (is.map fun i => (i, false)) e w) : AnyE ro P n all Fl K fuel0 done e w := by
  intro hcl ds a ha
  rw [← Nat.eq_of_beq_eq_true hf]
  refine seg_any hP is done a w fuel hcl hw hB ?_
  refine mixW_mono (fun a w hq hcl' => ?_) _ _ _ (h ds a ha)
  obtain ⟨e', hf', hk⟩ := hq
  exact hk hcl' ds a hf'
theorem t_step {fuel : Nat} {done : List Nat} {i : Nat} {o : Oper} (hr : i ∈ Region.ready .any all.toArray (lst all.toArray done)) (ho : nthO all i = some o)
    (h : Ops ro P n all [] (fun e w => (lastB all.toArray i = true ∨ Fl w) ∧ AnyE ro P n all Fl K fuel (done ++ [i]) e w) [o] e w) (hcl : Closed all.toArray (lst all.toArray done)) {ds : List Deferred} {a : Act} (ha : Fit n ds a e) :
    opF ds ro P all.toArray i (fun a' w' => (lastB all.toArray i = true ∨ Fl w') ∧ anyF ds ro P all.toArray Fl (fun a w => ∃ e, Fit n ds a e ∧ K e w) fuel ((lst all.toArray done).setIfInBounds i true) a' w') a w := by
  have hoi : all.toArray[i]? = some o := by rw [List.getElem?_toArray, ← nthO_eq]; exact ho
  have h1 := h [] (fun _ _ => False) ds a ha
  unfold wpListIn at h1
  unfold opF
  simp only [hoi]
  split
  · rename_i hw
    rw [if_pos hw] at h1
    refine laxIn (fun a w hk => ?_) (fun c a w hq => hq) (fun a w hq => hq) h1
    obtain ⟨e', hf, hfl, hk⟩ := hk
    refine ⟨hfl, ?_⟩
    rw [← lst_snoc]
    exact hk (by rw [lst_snoc]; exact hcl.set hr) ds a hf
  · rename_i hw
    rw [if_neg hw] at h1
    obtain ⟨e', hf, hfl, hk⟩ := h1.2
    refine ⟨hfl, ?_⟩
    rw [← lst_snoc]
    exact hk (by rw [lst_snoc]; exact hcl.set hr) ds _ hf
/-- one that turns the world is next -/
theorem t_one {fuel : Nat} {done : List Nat} (i : Nat) {o : Oper} (hr : Region.ready .any all.toArray (lst all.toArray done) = [i]) (ho : nthO all i = some o)
    (h : Ops ro P n all [] (fun e w => (lastB all.toArray i = true ∨ Fl w) ∧ AnyE ro P n all Fl K fuel (done ++ [i]) e w) [o] e w) : AnyE ro P n all Fl K (fuel + 1) done e w := by
  intro hcl ds a ha
  refine ⟨fun h0 => (by rw [h0] at hr; cases hr), fun j hj => ?_⟩
  have hj' := hj
  rw [hr] at hj'
  obtain rfl : j = i := by simpa using hj'
  exact t_step hj ho h hcl ha
theorem t_two {fuel : Nat} {done : List Nat} (i j : Nat) {o q : Oper} (hr : Region.ready .any all.toArray (lst all.toArray done) = [i, j]) (ho : nthO all i = some o) (hq : nthO all j = some q)
    (h : Ops ro P n all [] (fun e w => (lastB all.toArray i = true ∨ Fl w) ∧ AnyE ro P n all Fl K fuel (done ++ [i]) e w) [o] e w)
    (k : Ops ro P n all [] (fun e w => (lastB all.toArray j = true ∨ Fl w) ∧ AnyE ro P n all Fl K fuel (done ++ [j]) e w) [q] e w) : AnyE ro P n all Fl K (fuel + 1) done e w := by
  intro hcl ds a ha
  refine ⟨fun h0 => (by rw [h0] at hr; cases hr), fun m hm => ?_⟩
  have hm' := hm
  rw [hr] at hm'
  simp only [List.mem_cons, List.not_mem_nil, or_false] at hm'
  rcases hm' with rfl | rfl
  · exact t_step hm ho h hcl ha
  · exact t_step hm hq k hcl ha
theorem t_three {fuel : Nat} {done : List Nat} (i j l : Nat) {o q r : Oper} (hr : Region.ready .any all.toArray (lst all.toArray done) = [i, j, l]) (ho : nthO all i = some o) (hq : nthO all j = some q) (hl : nthO all l = some r)
    (h : Ops ro P n all [] (fun e w => (lastB all.toArray i = true ∨ Fl w) ∧ AnyE ro P n all Fl K fuel (done ++ [i]) e w) [o] e w)
    (k : Ops ro P n all [] (fun e w => (lastB all.toArray j = true ∨ Fl w) ∧ AnyE ro P n all Fl K fuel (done ++ [j]) e w) [q] e w)
    (m : Ops ro P n all [] (fun e w => (lastB all.toArray l = true ∨ Fl w) ∧ AnyE ro P n all Fl K fuel (done ++ [l]) e w) [r] e w) : AnyE ro P n all Fl K (fuel + 1) done e w := by
  intro hcl ds a ha
  refine ⟨fun h0 => (by rw [h0] at hr; cases hr), fun z hz => ?_⟩
  have hz' := hz
  rw [hr] at hz'
  simp only [List.mem_cons, List.not_mem_nil, or_false] at hz'
  rcases hz' with rfl | rfl | rfl
  · exact t_step hz ho h hcl ha
  · exact t_step hz hq k hcl ha
  · exact t_step hz hl m hcl ha
/-- a point that many orders come to -/
theorem t_with {fuel : Nat} {done : List Nat} (J : EPost) (fuelL : Nat) (doneL : List Nat) (leaf : ∀ e w, J e w → AnyE ro P n all Fl K fuelL doneL e w) (tree : (∀ e w, J e w → AnyE ro P n all Fl K fuelL doneL e w) → AnyE ro P n all Fl K fuel done e w) : AnyE ro P n all Fl K fuel done e w := tree leaf
def eqL : List Bool → List Bool → Bool
  | [], [] => true
  | a :: r, b :: q => (a == b) && eqL r q
  | _, _ => false
theorem eqL_eq : ∀ {l m : List Bool}, eqL l m = true → l = m
  | [], [], _ => rfl
  | a :: r, b :: q, h => by
    simp only [eqL, Bool.and_eq_true, beq_iff_eq] at h
    rw [h.1, eqL_eq h.2]
  | [], _ :: _, h => by cases h
  | _ :: _, [], h => by cases h
theorem t_same {fuel : Nat} {done done' : List Nat} (hs : eqL (lst all.toArray done).toList (lst all.toArray done').toList = true) (h : AnyE ro P n all Fl K fuel done' e w) : AnyE ro P n all Fl K fuel done e w := by
  have e1 : lst all.toArray done = lst all.toArray done' := Array.toList_inj.1 (eqL_eq hs)
  unfold AnyE at h ⊢
  rw [e1]; exact h
end Go.Vc
