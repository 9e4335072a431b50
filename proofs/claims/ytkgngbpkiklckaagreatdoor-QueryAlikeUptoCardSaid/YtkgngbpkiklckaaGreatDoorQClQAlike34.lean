/- Maps with texts for keys: told by a function; look-ups, stores, deletes. -/
import Derived.Test.YtkgngbpkiklckaaGreatDoorQClQAlike8
import Derived.Test.YtkgngbpkiklckaaGreatDoorQClQAlike7
namespace Go.Vc
open Go
variable {P : Program} {n : Nat} {a : Act} {e : Env} {w : World} {K : EPost} {X : List (Nat × EPost)} {R : EPost} {all : List Oper} {G : List Nat} {ro : Ro}

/-- what the entries of a map tell -/
structure MapFnT (l : List MapEntry) (clock : Nat) (f : List UInt8 → Option Value) : Prop where
  key : ∀ x ∈ l, ∃ k : List UInt8, x.key = S k
  nod : (l.map (·.key)).Nodup
  born : (l.map (·.born)).Nodup
  old : ∀ x ∈ l, x.born < clock
  val : ∀ k v, f k = some v ↔ ∃ x ∈ l, x.key = S k ∧ x.val = v
/-- block m is a map that tells f -/
def MapT (w : World) (m : Nat) (f : List UInt8 → Option Value) : Prop := ∃ es clock, w.heap[m]? = some (.map es clock) ∧ MapFnT es.toList clock f
theorem MapT.lt {m : Nat} {f : List UInt8 → Option Value} (h : MapT w m f) : m < w.heap.size := by
  obtain ⟨es, c, h1, _⟩ := h
  exact (Array.getElem?_eq_some_iff.1 h1).1
theorem MapT.kp {w' : World} {S : List Nat} {m : Nat} {f : List UInt8 → Option Value} (h : MapT w m f) (hk : Kp S w w') (hS : m ∉ S) : MapT w' m f := by
  have hl := h.lt
  obtain ⟨es, c, h1, h2⟩ := h
  exact ⟨es, c, by rw [hk.at_ m hl hS]; exact h1, h2⟩
theorem MapT.heap {w' : World} {m : Nat} {f : List UInt8 → Option Value} (h : MapT w m f) (hk : w'.heap[m]? = w.heap[m]?) : MapT w' m f := by
  obtain ⟨es, c, h1, h2⟩ := h
  exact ⟨es, c, by rw [hk]; exact h1, h2⟩
theorem MapFnT.nil : MapFnT [] 0 (fun _ => none) := ⟨by simp, by simp, by simp, by simp, fun k v => by simp⟩
theorem S_inj {a b : List UInt8} : S a = S b ↔ a = b := by
  constructor
  · intro h; simpa using h
  · rintro rfl; rfl
theorem beq_text (a b : List UInt8) : ((ByteArray.mk ⟨a⟩) == (ByteArray.mk ⟨b⟩)) = decide (a = b) := by
  have : ((ByteArray.mk ⟨a⟩) == (ByteArray.mk ⟨b⟩)) = ((Array.mk a) == (Array.mk b)) := rfl
  rw [this, Bool.eq_iff_iff]; simp
theorem same_key (a b : List UInt8) : Instr.sameNow .string (S a) (S b) = some (decide (a = b)) := by
  show some _ = some _
  rw [← beq_text]
theorem find_str : ∀ {l : List MapEntry} {k : List UInt8} (i : Nat), (∀ x ∈ l, ∃ k : List UInt8, x.key = S k) →
    (Instr.findNow (.string) (S k) l i = some none ∧ ∀ x ∈ l, x.key ≠ S k) ∨ ∃ j x, Instr.findNow (.string) (S k) l i = some (some (i + j, x.val)) ∧ l[j]? = some x ∧ x.key = S k
  | [], k, i, _ => .inl ⟨rfl, by simp⟩
  | x :: r, k, i, h => by
    obtain ⟨kx, hx⟩ := h x (by simp)
    by_cases hk : k = kx
    · subst hk
      refine .inr ⟨0, x, ?_, rfl, hx⟩
      simp [Instr.findNow, same_key, hx]
    · have hs : Instr.sameNow (.string) (S k) x.key = some false := by rw [hx, same_key]; simp [hk]
      rcases find_str (l := r) (k := k) (i + 1) (fun y hy => h y (by simp [hy])) with ⟨h1, h2⟩ | ⟨j, y, h1, h2, h3⟩
      · refine .inl ⟨by simp only [Instr.findNow, hs]; exact h1, fun y hy => ?_⟩
        rcases List.mem_cons.1 hy with rfl | hy
        · rw [hx]; exact fun h => hk (S_inj.1 h).symm
        · exact h2 y hy
      · refine .inr ⟨j + 1, y, ?_, by simpa using h2, h3⟩
        simp only [Instr.findNow, hs, h1]
        congr 3; omega
/-- a look-up answers by the function -/
theorem MapFnT.find {l : List MapEntry} {c : Nat} {f : List UInt8 → Option Value} (h : MapFnT l c f) (k : List UInt8) :
    (f k = none ∧ Instr.findNow (.string) (S k) l 0 = some none) ∨ ∃ j x, f k = some x.val ∧ Instr.findNow (.string) (S k) l 0 = some (some (j, x.val)) ∧ l[j]? = some x ∧ x.key = S k := by
  rcases find_str (l := l) (k := k) 0 h.key with ⟨h1, h2⟩ | ⟨j, x, h1, h2, h3⟩
  · refine .inl ⟨?_, h1⟩
    cases hf : f k with
    | none => rfl
    | some v =>
      obtain ⟨x, hx, hk, _⟩ := (h.val k v).1 hf
      exact absurd hk (h2 x hx)
  · rw [Nat.zero_add] at h1
    exact .inr ⟨j, x, (h.val k _).2 ⟨x, List.mem_of_getElem? h2, h3, rfl⟩, h1, h2, h3⟩
def upTx (f : List UInt8 → Option Value) (k : List UInt8) (v : Option Value) (x : List UInt8) : Option Value := if x = k then v else f x
theorem MapFnT.push {l : List MapEntry} {c : Nat} {f : List UInt8 → Option Value} (h : MapFnT l c f) {k : List UInt8} {v : Value} (hk : f k = none) : MapFnT (l ++ [⟨S k, v, c⟩]) (c + 1) (upTx f k (some v)) := by
  have hno : ∀ x ∈ l, x.key ≠ S k := fun x hx e => by
    have := (h.val k x.val).2 ⟨x, hx, e, rfl⟩
    rw [hk] at this; cases this
  refine ⟨fun x hx => ?_, ?_, ?_, fun x hx => ?_, fun k' v' => ?_⟩
  · rcases List.mem_append.1 hx with hx | hx
    · exact h.key x hx
    · simp at hx; subst hx; exact ⟨k, rfl⟩
  · rw [List.map_append, List.nodup_append]
    refine ⟨h.nod, by simp, fun y hy z hz => ?_⟩
    obtain ⟨x, hx, rfl⟩ := List.mem_map.1 hy
    simp at hz; subst hz
    exact hno x hx
  · rw [List.map_append, List.nodup_append]
    refine ⟨h.born, by simp, fun y hy z hz => ?_⟩
    obtain ⟨x, hx, rfl⟩ := List.mem_map.1 hy
    simp at hz; subst hz
    have := h.old x hx
    omega
  · rcases List.mem_append.1 hx with hx | hx
    · have := h.old x hx; omega
    · simp at hx; subst hx; simp
  · unfold upTx
    by_cases hkk : k' = k
    · subst hkk
      rw [if_pos rfl]
      refine ⟨fun e => ⟨⟨S k', v, c⟩, by simp, rfl, by simpa using e⟩, fun ⟨x, hx, h1, h2⟩ => ?_⟩
      rcases List.mem_append.1 hx with hx | hx
      · exact absurd h1 (hno x hx)
      · simp at hx; subst hx; rw [← h2]
    · rw [if_neg hkk, h.val]
      refine ⟨fun ⟨x, hx, h1, h2⟩ => ⟨x, by simp [hx], h1, h2⟩, fun ⟨x, hx, h1, h2⟩ => ?_⟩
      rcases List.mem_append.1 hx with hx | hx
      · exact ⟨x, hx, h1, h2⟩
      · simp at hx; subst hx
        exact absurd (S_inj.1 h1).symm hkk
theorem MapFnT.set {l : List MapEntry} {c : Nat} {f : List UInt8 → Option Value} (h : MapFnT l c f) {k : List UInt8} {v : Value} {j : Nat} {x : MapEntry} (hx : l[j]? = some x) (hk : x.key = S k) : MapFnT (l.set j ⟨S k, v, x.born⟩) c (upTx f k (some v)) := by
  obtain ⟨g1, g2⟩ := map_key_set (y := ⟨S k, v, x.born⟩) hx hk.symm rfl
  have hm : x ∈ l := List.mem_of_getElem? hx
  have hj : j < l.length := (List.getElem?_eq_some_iff.1 hx).1
  refine ⟨fun y hy => ?_, by rw [g1]; exact h.nod, by rw [g2]; exact h.born, fun y hy => ?_, fun k' v' => ?_⟩
  · rcases List.mem_or_eq_of_mem_set hy with hy | rfl
    · exact h.key y hy
    · exact ⟨k, rfl⟩
  · rcases List.mem_or_eq_of_mem_set hy with hy | rfl
    · exact h.old y hy
    · exact h.old x hm
  · have hin : (⟨S k, v, x.born⟩ : MapEntry) ∈ l.set j ⟨S k, v, x.born⟩ := List.mem_set (by omega) _
    unfold upTx
    by_cases hkk : k' = k
    · subst hkk
      rw [if_pos rfl]
      refine ⟨fun e => ⟨_, hin, rfl, by simpa using e⟩, fun ⟨y, hy, h1, h2⟩ => ?_⟩
      have := nodup_key (by rw [g1]; exact h.nod) hy hin h1
      rw [← h2, this]
    · rw [if_neg hkk, h.val]
      refine ⟨fun ⟨y, hy, h1, h2⟩ => ?_, fun ⟨y, hy, h1, h2⟩ => ?_⟩
      · obtain ⟨i, hi⟩ := List.getElem?_of_mem hy
        have hij : i ≠ j := fun e => by
          subst e; rw [hx] at hi; cases hi
          rw [hk] at h1; exact hkk (S_inj.1 h1).symm
        exact ⟨y, List.mem_of_getElem? (i := i) (by rw [List.getElem?_set_ne (fun e => hij e.symm)]; exact hi), h1, h2⟩
      · rcases List.mem_or_eq_of_mem_set hy with hy | rfl
        · exact ⟨y, hy, h1, h2⟩
        · exact absurd (S_inj.1 h1).symm hkk
theorem MapFnT.erase {l : List MapEntry} {c : Nat} {f : List UInt8 → Option Value} (h : MapFnT l c f) {k : List UInt8} {j : Nat} {x : MapEntry} (hx : l[j]? = some x) (hk : x.key = S k) : MapFnT (l.eraseIdx j) c (upTx f k none) := by
  have hsub : (l.eraseIdx j).Sublist l := List.eraseIdx_sublist l j
  refine ⟨fun y hy => h.key y (hsub.mem hy), h.nod.sublist (hsub.map _), h.born.sublist (hsub.map _), fun y hy => h.old y (hsub.mem hy), fun k' v' => ?_⟩
  unfold upTx
  by_cases hkk : k' = k
  · subst hkk
    rw [if_pos rfl]
    refine ⟨fun e => (by cases e), fun ⟨y, hy, h1, _⟩ => ?_⟩
    exfalso
    have hyl := hsub.mem hy
    have e := nodup_key h.nod hyl (List.mem_of_getElem? hx) (by rw [h1, hk])
    subst e
    obtain ⟨i, hij, hi⟩ := List.mem_eraseIdx_iff_getElem?.1 hy
    have hn := h.nod
    have hi2 : i < l.length := (List.getElem?_eq_some_iff.1 hi).1
    have hj2 : j < l.length := (List.getElem?_eq_some_iff.1 hx).1
    have hp := List.pairwise_iff_getElem.1 hn
    have ei : l[i] = y := by rw [List.getElem?_eq_getElem hi2] at hi; exact Option.some.inj hi
    have ej : l[j] = y := by rw [List.getElem?_eq_getElem hj2] at hx; exact Option.some.inj hx
    rcases Nat.lt_or_gt_of_ne hij with hlt | hlt
    · exact hp i j (by simpa using hi2) (by simpa using hj2) hlt (by simp [ei, ej])
    · exact hp j i (by simpa using hj2) (by simpa using hi2) hlt (by simp [ei, ej])
  · rw [if_neg hkk, h.val]
    refine ⟨fun ⟨y, hy, h1, h2⟩ => ?_, fun ⟨y, hy, h1, h2⟩ => ⟨y, hsub.mem hy, h1, h2⟩⟩
    obtain ⟨i, hi⟩ := List.getElem?_of_mem hy
    have hij : i ≠ j := fun e => by
      subst e; rw [hx] at hi; cases hi
      rw [hk] at h1; exact hkk (S_inj.1 h1).symm
    exact ⟨y, List.mem_eraseIdx_iff_getElem?.2 ⟨i, hij, hi⟩, h1, h2⟩

section
variable {dst : Option Tmp} {ty : TypeId} {pos : String} {after : Array Edge} {g : Option (Nat × Bool)} {l : List Oper} {t : TypeId} {x y : Operand}
theorem exec_lookT1 {kt et : TypeId} {z : Value} {i : TypeInfo} {m : Nat} {k : List UInt8} {f : List UInt8 → Option Value} (hx : ev e x = .map (some m)) (hy : ev e y = S k) (hb : MapT w m f)
    (hu : P.underlying t = some (.map kt et)) (hk : P.underlying kt = some (.string)) (hi : P.info? et = some i) (hz : i.zero = some z) : (execOp (ev e) ⟨dst, .lookup t x y false, ty, pos, after, g⟩).run P w = .ok (.value ((f k).getD z)) w := by
  obtain ⟨es, c, hb, hf⟩ := hb
  rcases hf.find k with ⟨h1, h2⟩ | ⟨j, e, h1, h2, _, _⟩
  · simp [execOp, Instr.lookup, hx, hy, run_underlying hu, run_getMap hb, checkKey_run hk (.inl rfl), run_find hk h2, zeroValue, typeInfo, hi, hz, h1]
  · simp [execOp, Instr.lookup, hx, hy, run_underlying hu, run_getMap hb, checkKey_run hk (.inl rfl), run_find hk h2, h1]
theorem exec_lookT2 {kt et : TypeId} {z : Value} {i : TypeInfo} {m : Nat} {k : List UInt8} {f : List UInt8 → Option Value} (hx : ev e x = .map (some m)) (hy : ev e y = S k) (hb : MapT w m f)
    (hu : P.underlying t = some (.map kt et)) (hk : P.underlying kt = some (.string)) (hi : P.info? et = some i) (hz : i.zero = some z) : (execOp (ev e) ⟨dst, .lookup t x y true, ty, pos, after, g⟩).run P w = .ok (.value (lookV z (f k))) w := by
  obtain ⟨es, c, hb, hf⟩ := hb
  rcases hf.find k with ⟨h1, h2⟩ | ⟨j, e, h1, h2, _, _⟩
  · simp [execOp, Instr.lookup, hx, hy, run_underlying hu, run_getMap hb, checkKey_run hk (.inl rfl), run_find hk h2, zeroValue, typeInfo, hi, hz, h1, lookV]
  · simp [execOp, Instr.lookup, hx, hy, run_underlying hu, run_getMap hb, checkKey_run hk (.inl rfl), run_find hk h2, h1, lookV]
/-- a map object that is another now -/
structure MUpdT (w : World) (m : Nat) (f : List UInt8 → Option Value) (w' : World) : Prop where
  at_ : MapT w' m f
  os : w'.os = w.os
  tape : w'.tape = w.tape
  output : w'.output = w.output
  other : ∀ k, k ≠ m → w'.heap[k]? = w.heap[k]?
  size : w'.heap.size = w.heap.size
theorem MUpdT.of {m : Nat} {o : Obj} {w' : World} {f : List UInt8 → Option Value} (h : Upd w m o w') (hl : m < w.heap.size) (hm : MapT w' m f) : MUpdT w m f w' :=
  ⟨hm, h.os, h.tape, h.output, h.other, Nat.le_antisymm (by have := h.size'; omega) h.size⟩
theorem MUpdT.kp {m : Nat} {w' : World} {f : List UInt8 → Option Value} (h : MUpdT w m f w') (S : List Nat) (hb : m ∈ S ∨ w.heap.size ≤ m) : Kp S w w' :=
  ⟨h.os, h.tape, h.output, by rw [h.size]; exact Nat.le_refl _, fun k hk hS => h.other k (fun e => by subst e; rcases hb with hb | hb; exact hS hb; omega)⟩
theorem same_bits_str (k : List UInt8) : Instr.sameBits 10000 (S k) (S k) = true := by simp [Instr.sameBits, beq_text]
theorem mapSetT_run {kt et : TypeId} {m : Nat} {k : List UInt8} {v : Value} {f : List UInt8 → Option Value} (hb : MapT w m f) (hk : P.underlying kt = some (.string)) (hu : P.underlying t = some (.map kt et)) :
    ∃ w', (Instr.mapUpdate t (.map (some m)) (S k) v).run P w = .ok () w' ∧ MUpdT w m (upTx f k (some v)) w' := by
  have hlt := hb.lt
  obtain ⟨es, c, hb, hf⟩ := hb
  have hso : ∀ o, (setObj m o).run P w = .ok () { w with heap := w.heap.setIfInBounds m o } := fun o => by simp [setObj, Sem.run, hb]
  rcases hf.find k with ⟨h1, h2⟩ | ⟨j, e', h1, h2, h3, h4⟩
  · have hu' := upd_setObj (o' := .map (es.push ⟨S k, v, c⟩) (c + 1)) hb
    refine ⟨{ w with heap := w.heap.setIfInBounds m (.map (es.push ⟨S k, v, c⟩) (c + 1)) }, ?_, MUpdT.of hu' hlt ⟨_, _, hu'.at_, ?_⟩⟩
    · simp only [Instr.mapUpdate, Sem.run_bind, run_underlying hu, Result.andThen_ok, run_getMap hb, checkKey_run hk (.inl rfl), run_find hk h2, hso, Sem.run_pure]
    · rw [Array.toList_push]; exact hf.push h1
  · have hu' := upd_setObj (o' := .map (es.modify j fun e => { e with key := S k, val := v }) c) hb
    refine ⟨{ w with heap := w.heap.setIfInBounds m (.map (es.modify j fun e => { e with key := S k, val := v }) c) }, ?_, MUpdT.of hu' hlt ⟨_, _, hu'.at_, ?_⟩⟩
    · have hj : es[j]? = some e' := by rw [← h3]; simp
      have hkey : (((es[j]?).map (·.key)).getD (S k)) = S k := by rw [hj]; simp [h4]
      simp only [Instr.mapUpdate, Sem.run_bind, run_underlying hu, Result.andThen_ok, run_getMap hb, checkKey_run hk (.inl rfl), run_find hk h2, hkey, Instr.keyThatStays, same_bits_str, if_true, hso, Sem.run_pure]
    · have hj : j < es.toList.length := (List.getElem?_eq_some_iff.1 h3).1
      have e1 : (es.modify j fun e => { e with key := S k, val := v }).toList = es.toList.set j ⟨S k, v, e'.born⟩ := by
        rw [Array.toList_modify]
        apply List.ext_getElem?
        intro i
        rw [List.getElem?_modify, List.getElem?_set]
        by_cases hij : j = i
        · subst hij
          rw [if_pos rfl, if_pos hj, h3]; simp
        · rw [if_neg hij]; simp [hij]
      rw [e1]; exact hf.set h3 h4
/-- 'm[k] = v' -/
theorem o_mapSetT {kt et : TypeId} {m : Nat} {k : List UInt8} {v : Value} {z : Operand} {f : List UInt8 → Option Value} {c2 : Option Prop} (hx : ev e x = .map (some m)) (hy : ev e y = S k) (hv : same (ev e z) = some (c2, v)) (hb : MapT w m f)
    (hu : P.underlying t = some (.map kt et)) (hk : P.underlying kt = some (.string)) (hd : dOk n dst = true) (hm : may all G e g = some true)
    (q : ∀ w', MUpdT w m (upTx f k (some v)) w' → Ops ro P n all G K l (put e dst undef) w') : Ops ro P n all G K (⟨dst, .mapUpdate t x y z, ty, pos, after, g⟩ :: l) e w := by
  obtain ⟨w', hr, hw'⟩ := mapSetT_run (P := P) (v := v) hb hk (t := t) (k := k) hu
  refine ops_skips (w' := w') hd hm ?_ (q _ hw')
  simp only [execOp, hx, hy, ← same_eq hv, Sem.run_bind, hr, Result.andThen_ok, Sem.run_pure]
/-- 'delete(m, k)' -/
theorem o_deleteT {kt et at1 : TypeId} {m : Nat} {k : List UInt8} {f : List UInt8 → Option Value} (hx : ev e x = .map (some m)) (hy : ev e y = S k) (hb : MapT w m f)
    (hu : P.underlying t = some (.map kt et)) (hk : P.underlying kt = some (.string)) (hd : dOk n dst = true) (hm : may all G e g = some true)
    (q : ∀ w', MUpdT w m (upTx f k none) w' → Ops ro P n all G K l (put e dst (.tuple #[])) w') : Ops ro P n all G K (⟨dst, .call ⟨.builtin .delete, #[x, y], #[t, at1]⟩, ty, pos, after, g⟩ :: l) e w := by
  have hlt := hb.lt
  obtain ⟨es, c, hb, hf⟩ := hb
  have hso : ∀ o, (setObj m o).run P w = .ok () { w with heap := w.heap.setIfInBounds m o } := fun o => by simp [setObj, Sem.run, hb]
  rcases hf.find k with ⟨h1, h2⟩ | ⟨j, e', h1, h2, h3, h4⟩
  · have hu' := upd_setObj (o' := .map es c) hb
    refine ops_does (v := .tuple #[]) (w' := { w with heap := w.heap.setIfInBounds m (.map es c) }) hd hm ?_ (q _ (MUpdT.of hu' hlt ⟨_, _, hu'.at_, ?_⟩))
    · simp [execOp, resolve, invoke, builtin, hx, hy, Builtin.delete_, run_underlying hu, run_getMap hb, checkKey_run hk (.inl rfl), run_find hk h2, hso]
    · have e1 : upTx f k none = f := by
        funext z; unfold upTx
        by_cases hz : z = k
        · rw [if_pos hz, hz, h1]
        · rw [if_neg hz]
      rw [e1]; exact hf
  · have hu' := upd_setObj (o' := .map (es.eraseIdxIfInBounds j) c) hb
    refine ops_does (v := .tuple #[]) (w' := { w with heap := w.heap.setIfInBounds m (.map (es.eraseIdxIfInBounds j) c) }) hd hm ?_ (q _ (MUpdT.of hu' hlt ⟨_, _, hu'.at_, ?_⟩))
    · simp [execOp, resolve, invoke, builtin, hx, hy, Builtin.delete_, run_underlying hu, run_getMap hb, checkKey_run hk (.inl rfl), run_find hk h2, hso]
    · have e1 : (es.eraseIdxIfInBounds j).toList = es.toList.eraseIdx j := by simp
      rw [e1]; exact hf.erase h3 h4
theorem q_lookT {C : World → Prop} {K : Env → Prop} {kt et : TypeId} {z : Value} {i : TypeInfo} {m : Nat} {k : List UInt8} {f : List UInt8 → Option Value} (u : Value) (hx : ev e x = .map (some m)) (hy : ev e y = S k) (hb : ∀ w, C w → MapT w m f) (hf : (f k).getD z = u)
    (hu : P.underlying t = some (.map kt et)) (hk : P.underlying kt = some (.string)) (hi : P.info? et = some i) (hz : i.zero = some z) (hd : dOk n dst = true) (hm : may all G e g = some true)
    (q : QOps P n all G C K l (put e dst u)) : QOps P n all G C K (⟨dst, .lookup t x y false, ty, pos, after, g⟩ :: l) e :=
  qops_does hd hm (fun w hw => by rw [← hf]; exact exec_lookT1 hx hy (hb w hw) hu hk hi hz) q
theorem x_lookT2 {Fl : World → Prop} {r : List (Nat × Bool)} {j : Nat} {kt et : TypeId} {z : Value} {i : TypeInfo} {m : Nat} {k : List UInt8} {f : List UInt8 → Option Value} (u : Value) (ho : nthO all j = some ⟨dst, .lookup t x y true, ty, pos, after, g⟩) (hx : ev e x = .map (some m)) (hy : ev e y = S k) (hb : ∀ w, Fl w → MapT w m f) (hf : lookV z (f k) = u)
    (hu : P.underlying t = some (.map kt et)) (hk : P.underlying kt = some (.string)) (hi : P.info? et = some i) (hz : i.zero = some z) (hd : dOk n dst = true) (hm : may all G e g = some true)
    (q : MOps ro P n all G Fl K r (put e dst u) w) : MOps ro P n all G Fl K ((j, false) :: r) e w :=
  x_does ho hd hm (fun w hw => by rw [← hf]; exact exec_lookT2 hx hy (hb w hw) hu hk hi hz) q
end
end Go.Vc
