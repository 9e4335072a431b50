/- Maps with integers for keys: told by a function; look-ups, stores, deletes. -/
import Derived.Test.YtghdpibdidfpbaaDoorQClNPlays19
import Derived.Test.YtghdpibdidfpbaaDoorQClNPlays11
import Derived.Laws.MakeOwn
namespace Go.Vc
open Go
variable {P : Program} {n : Nat} {a : Act} {e : Env} {w : World} {K : EPost} {X : List (Nat × EPost)} {R : EPost} {all : List Oper} {G : List Nat} {ro : Option Nat}

/-- what the entries of a map tell -/
structure MapFn (l : List MapEntry) (clock : Nat) (f : Int → Option Value) : Prop where
  key : ∀ x ∈ l, ∃ k : Int, x.key = I k
  nod : (l.map (·.key)).Nodup
  born : (l.map (·.born)).Nodup
  old : ∀ x ∈ l, x.born < clock
  val : ∀ k v, f k = some v ↔ ∃ x ∈ l, x.key = I k ∧ x.val = v
/-- block m is a map that tells f -/
def MapI (w : World) (m : Nat) (f : Int → Option Value) : Prop := ∃ es clock, w.heap[m]? = some (.map es clock) ∧ MapFn es.toList clock f
theorem MapI.lt {m : Nat} {f : Int → Option Value} (h : MapI w m f) : m < w.heap.size := by
  obtain ⟨es, c, h1, _⟩ := h
  exact (Array.getElem?_eq_some_iff.1 h1).1
theorem MapI.kp {w' : World} {S : List Nat} {m : Nat} {f : Int → Option Value} (h : MapI w m f) (hk : Kp S w w') (hS : m ∉ S) : MapI w' m f := by
  have hl := h.lt
  obtain ⟨es, c, h1, h2⟩ := h
  exact ⟨es, c, by rw [hk.at_ m hl hS]; exact h1, h2⟩
theorem MapI.heap {w' : World} {m : Nat} {f : Int → Option Value} (h : MapI w m f) (hk : w'.heap[m]? = w.heap[m]?) : MapI w' m f := by
  obtain ⟨es, c, h1, h2⟩ := h
  exact ⟨es, c, by rw [hk]; exact h1, h2⟩
theorem MapFn.nil : MapFn [] 0 (fun _ => none) := ⟨by simp, by simp, by simp, by simp, fun k v => by simp⟩
theorem find_int : ∀ {l : List MapEntry} {k : Int} (i : Nat), (∀ x ∈ l, ∃ k : Int, x.key = I k) →
    (Instr.findNow (.int .i64) (I k) l i = some none ∧ ∀ x ∈ l, x.key ≠ I k) ∨ ∃ j x, Instr.findNow (.int .i64) (I k) l i = some (some (i + j, x.val)) ∧ l[j]? = some x ∧ x.key = I k
  | [], k, i, _ => .inl ⟨rfl, by simp⟩
  | x :: r, k, i, h => by
    obtain ⟨kx, hx⟩ := h x (by simp)
    by_cases hk : k = kx
    · subst hk
      refine .inr ⟨0, x, ?_, rfl, hx⟩
      simp [Instr.findNow, Instr.sameNow, hx]
    · have hs : Instr.sameNow (.int .i64) (I k) x.key = some false := by rw [hx]; simp [Instr.sameNow, hk]
      rcases find_int (l := r) (k := k) (i + 1) (fun y hy => h y (by simp [hy])) with ⟨h1, h2⟩ | ⟨j, y, h1, h2, h3⟩
      · refine .inl ⟨by simp only [Instr.findNow, hs]; exact h1, fun y hy => ?_⟩
        rcases List.mem_cons.1 hy with rfl | hy
        · rw [hx]; simp; omega
        · exact h2 y hy
      · refine .inr ⟨j + 1, y, ?_, by simpa using h2, h3⟩
        simp only [Instr.findNow, hs, h1]
        congr 3; omega
theorem nodup_key {l : List MapEntry} (h : (l.map (·.key)).Nodup) {x y : MapEntry} (hx : x ∈ l) (hy : y ∈ l) (e : x.key = y.key) : x = y := by
  induction l with
  | nil => simp at hx
  | cons z r ih =>
    simp only [List.map_cons, List.nodup_cons, List.mem_map, not_exists, not_and] at h
    rcases List.mem_cons.1 hx with rfl | hx' <;> rcases List.mem_cons.1 hy with rfl | hy'
    · rfl
    · exact absurd e.symm (h.1 y hy')
    · exact absurd e (h.1 x hx')
    · exact ih h.2 hx' hy'
/-- a look-up answers by the function -/
theorem MapFn.find {l : List MapEntry} {c : Nat} {f : Int → Option Value} (h : MapFn l c f) (k : Int) :
    (f k = none ∧ Instr.findNow (.int .i64) (I k) l 0 = some none) ∨ ∃ j x, f k = some x.val ∧ Instr.findNow (.int .i64) (I k) l 0 = some (some (j, x.val)) ∧ l[j]? = some x ∧ x.key = I k := by
  rcases find_int (l := l) (k := k) 0 h.key with ⟨h1, h2⟩ | ⟨j, x, h1, h2, h3⟩
  · refine .inl ⟨?_, h1⟩
    cases hf : f k with
    | none => rfl
    | some v =>
      obtain ⟨x, hx, hk, _⟩ := (h.val k v).1 hf
      exact absurd hk (h2 x hx)
  · rw [Nat.zero_add] at h1
    exact .inr ⟨j, x, (h.val k _).2 ⟨x, List.mem_of_getElem? h2, h3, rfl⟩, h1, h2, h3⟩
def upF (f : Int → Option Value) (k : Int) (v : Option Value) (x : Int) : Option Value := if x = k then v else f x
theorem MapFn.push {l : List MapEntry} {c : Nat} {f : Int → Option Value} (h : MapFn l c f) {k : Int} {v : Value} (hk : f k = none) : MapFn (l ++ [⟨I k, v, c⟩]) (c + 1) (upF f k (some v)) := by
  have hno : ∀ x ∈ l, x.key ≠ I k := fun x hx e => by
    have := (h.val k x.val).2 ⟨x, hx, e, rfl⟩
    rw [hk] at this; cases this
  refine ⟨fun x hx => ?_, ?_, ?_, fun x hx => ?_, fun k' v' => ?_⟩
  · rcases List.mem_append.1 hx with hx | hx
    · exact h.key x hx
    · simp at hx; subst hx; exact ⟨k, rfl⟩
  · rw [List.map_append, List.nodup_append]
    refine ⟨h.nod, by simp, fun y hy z hz => ?_⟩
    obtain ⟨x, hx, rfl⟩ := List.mem_map.1 hy
    simp at hz; subst hz
    exact hno x hx
  · rw [List.map_append, List.nodup_append]
    refine ⟨h.born, by simp, fun y hy z hz => ?_⟩
    obtain ⟨x, hx, rfl⟩ := List.mem_map.1 hy
    simp at hz; subst hz
    have := h.old x hx
    omega
  · rcases List.mem_append.1 hx with hx | hx
    · have := h.old x hx; omega
    · simp at hx; subst hx; simp
  · unfold upF
    by_cases hkk : k' = k
    · subst hkk
      rw [if_pos rfl]
      refine ⟨fun e => ⟨⟨I k', v, c⟩, by simp, rfl, by simpa using e⟩, fun ⟨x, hx, h1, h2⟩ => ?_⟩
      rcases List.mem_append.1 hx with hx | hx
      · exact absurd h1 (hno x hx)
      · simp at hx; subst hx; rw [← h2]
    · rw [if_neg hkk, h.val]
      refine ⟨fun ⟨x, hx, h1, h2⟩ => ⟨x, by simp [hx], h1, h2⟩, fun ⟨x, hx, h1, h2⟩ => ?_⟩
      rcases List.mem_append.1 hx with hx | hx
      · exact ⟨x, hx, h1, h2⟩
      · simp at hx; subst hx
        simp at h1
        exact absurd h1.symm hkk
theorem map_key_set : ∀ {l : List MapEntry} {j : Nat} {x y : MapEntry}, l[j]? = some x → y.key = x.key → y.born = x.born → (l.set j y).map (·.key) = l.map (·.key) ∧ (l.set j y).map (·.born) = l.map (·.born)
  | [], j, x, y, h, _, _ => by simp at h
  | z :: r, 0, x, y, h, h1, h2 => by simp at h; subst h; simp [h1, h2]
  | z :: r, j + 1, x, y, h, h1, h2 => by
    obtain ⟨g1, g2⟩ := map_key_set (l := r) (j := j) (by simpa using h) h1 h2
    simp [g1, g2]
theorem MapFn.set {l : List MapEntry} {c : Nat} {f : Int → Option Value} (h : MapFn l c f) {k : Int} {v : Value} {j : Nat} {x : MapEntry} (hx : l[j]? = some x) (hk : x.key = I k) : MapFn (l.set j ⟨I k, v, x.born⟩) c (upF f k (some v)) := by
  obtain ⟨g1, g2⟩ := map_key_set (y := ⟨I k, v, x.born⟩) hx hk.symm rfl
  have hm : x ∈ l := List.mem_of_getElem? hx
  have hj : j < l.length := (List.getElem?_eq_some_iff.1 hx).1
  refine ⟨fun y hy => ?_, by rw [g1]; exact h.nod, by rw [g2]; exact h.born, fun y hy => ?_, fun k' v' => ?_⟩
  · rcases List.mem_or_eq_of_mem_set hy with hy | rfl
    · exact h.key y hy
    · exact ⟨k, rfl⟩
  · rcases List.mem_or_eq_of_mem_set hy with hy | rfl
    · exact h.old y hy
    · exact h.old x hm
  · have hin : (⟨I k, v, x.born⟩ : MapEntry) ∈ l.set j ⟨I k, v, x.born⟩ := List.mem_set (by omega) _
    unfold upF
    by_cases hkk : k' = k
    · subst hkk
      rw [if_pos rfl]
      refine ⟨fun e => ⟨_, hin, rfl, by simpa using e⟩, fun ⟨y, hy, h1, h2⟩ => ?_⟩
      have := nodup_key (by rw [g1]; exact h.nod) hy hin h1
      rw [← h2, this]
    · rw [if_neg hkk, h.val]
      refine ⟨fun ⟨y, hy, h1, h2⟩ => ?_, fun ⟨y, hy, h1, h2⟩ => ?_⟩
      · obtain ⟨i, hi⟩ := List.getElem?_of_mem hy
        have hij : i ≠ j := fun e => by
          subst e; rw [hx] at hi; cases hi
          rw [hk] at h1; simp at h1; exact hkk h1.symm
        exact ⟨y, List.mem_of_getElem? (i := i) (by rw [List.getElem?_set_ne (fun e => hij e.symm)]; exact hi), h1, h2⟩
      · rcases List.mem_or_eq_of_mem_set hy with hy | rfl
        · exact ⟨y, hy, h1, h2⟩
        · simp at h1; exact absurd h1.symm hkk
theorem MapFn.erase {l : List MapEntry} {c : Nat} {f : Int → Option Value} (h : MapFn l c f) {k : Int} {j : Nat} {x : MapEntry} (hx : l[j]? = some x) (hk : x.key = I k) : MapFn (l.eraseIdx j) c (upF f k none) := by
  have hsub : (l.eraseIdx j).Sublist l := List.eraseIdx_sublist l j
  refine ⟨fun y hy => h.key y (hsub.mem hy), h.nod.sublist (hsub.map _), h.born.sublist (hsub.map _), fun y hy => h.old y (hsub.mem hy), fun k' v' => ?_⟩
  unfold upF
  by_cases hkk : k' = k
  · subst hkk
    rw [if_pos rfl]
    refine ⟨fun e => (by cases e), fun ⟨y, hy, h1, _⟩ => ?_⟩
    exfalso
    have hyl := hsub.mem hy
    have e := nodup_key h.nod hyl (List.mem_of_getElem? hx) (by rw [h1, hk])
    subst e
    obtain ⟨i, hij, hi⟩ := List.mem_eraseIdx_iff_getElem?.1 hy
    have hn := h.nod
    have hi2 : i < l.length := (List.getElem?_eq_some_iff.1 hi).1
    have hj2 : j < l.length := (List.getElem?_eq_some_iff.1 hx).1
    have hp := List.pairwise_iff_getElem.1 hn
    have ei : l[i] = y := by rw [List.getElem?_eq_getElem hi2] at hi; exact Option.some.inj hi
    have ej : l[j] = y := by rw [List.getElem?_eq_getElem hj2] at hx; exact Option.some.inj hx
    rcases Nat.lt_or_gt_of_ne hij with hlt | hlt
    · exact hp i j (by simpa using hi2) (by simpa using hj2) hlt (by simp [ei, ej])
    · exact hp j i (by simpa using hj2) (by simpa using hi2) hlt (by simp [ei, ej])
  · rw [if_neg hkk, h.val]
    refine ⟨fun ⟨y, hy, h1, h2⟩ => ?_, fun ⟨y, hy, h1, h2⟩ => ⟨y, hsub.mem hy, h1, h2⟩⟩
    obtain ⟨i, hi⟩ := List.getElem?_of_mem hy
    have hij : i ≠ j := fun e => by
      subst e; rw [hx] at hi; cases hi
      rw [hk] at h1; simp at h1; exact hkk h1.symm
    exact ⟨y, List.mem_eraseIdx_iff_getElem?.2 ⟨i, hij, hi⟩, h1, h2⟩

section
variable {dst : Option Tmp} {ty : TypeId} {pos : String} {after : Array Edge} {g : Option (Nat × Bool)} {l : List Oper} {t : TypeId} {x y : Operand}
theorem run_getMap {m : Nat} {es : Array MapEntry} {clock : Nat} (hb : w.heap[m]? = some (.map es clock)) : (getObj m).run P w = .ok (.map es clock) w := by simp [getObj, Sem.run, hb]
theorem run_find {kt : TypeId} {d : TypeDesc} {key : Value} {es : List MapEntry} {r : Option (Nat × Value)} (hk : P.underlying kt = some d) (hr : Instr.findNow d key es 0 = some r) : (Instr.findKey kt key es).run P w = .ok r w := by
  simp only [Instr.findKey, Sem.run_bind, run_underlying hk, Result.andThen_ok, hr, Sem.run_pure]
theorem exec_lookup1 {kt et : TypeId} {z : Value} {i : TypeInfo} {m : Nat} {k : Int} {f : Int → Option Value} (hx : ev e x = .map (some m)) (hy : ev e y = I k) (hb : MapI w m f)
    (hu : P.underlying t = some (.map kt et)) (hk : P.underlying kt = some (.int .i64)) (hi : P.info? et = some i) (hz : i.zero = some z) : (execOp (ev e) ⟨dst, .lookup t x y false, ty, pos, after, g⟩).run P w = .ok (.value ((f k).getD z)) w := by
  obtain ⟨es, c, hb, hf⟩ := hb
  rcases hf.find k with ⟨h1, h2⟩ | ⟨j, e, h1, h2, _, _⟩
  · simp [execOp, Instr.lookup, hx, hy, run_underlying hu, run_getMap hb, checkKey_run hk (.inr ⟨_, rfl⟩), run_find hk h2, zeroValue, typeInfo, hi, hz, h1]
  · simp [execOp, Instr.lookup, hx, hy, run_underlying hu, run_getMap hb, checkKey_run hk (.inr ⟨_, rfl⟩), run_find hk h2, h1]
def lookV (z : Value) : Option Value → Value
  | some v => .tuple #[v, .bool true]
  | none => .tuple #[z, .bool false]
/-- 'm[k]' -/
theorem o_lookI {kt et : TypeId} {z : Value} {i : TypeInfo} {m : Nat} {k : Int} {f : Int → Option Value} (u : Value) (hx : ev e x = .map (some m)) (hy : ev e y = I k) (hb : MapI w m f) (hf : (f k).getD z = u)
    (hu : P.underlying t = some (.map kt et)) (hk : P.underlying kt = some (.int .i64)) (hi : P.info? et = some i) (hz : i.zero = some z) (hd : dOk n dst = true) (hm : may all G e g = some true)
    (q : Ops ro P n all G K l (put e dst u) w) : Ops ro P n all G K (⟨dst, .lookup t x y false, ty, pos, after, g⟩ :: l) e w :=
  ops_does hd hm (by rw [← hf]; exact exec_lookup1 hx hy hb hu hk hi hz) q
/-- a map object that is another now -/
structure MUpd (w : World) (m : Nat) (f : Int → Option Value) (w' : World) : Prop where
  at_ : MapI w' m f
  os : w'.os = w.os
  tape : w'.tape = w.tape
  output : w'.output = w.output
  other : ∀ k, k ≠ m → w'.heap[k]? = w.heap[k]?
  size : w'.heap.size = w.heap.size
theorem MUpd.of {m : Nat} {o : Obj} {w' : World} {f : Int → Option Value} (h : Upd w m o w') (hl : m < w.heap.size) (hm : MapI w' m f) : MUpd w m f w' :=
  ⟨hm, h.os, h.tape, h.output, h.other, Nat.le_antisymm (by have := h.size'; omega) h.size⟩
theorem MUpd.kp {m : Nat} {w' : World} {f : Int → Option Value} (h : MUpd w m f w') (S : List Nat) (hb : m ∈ S ∨ w.heap.size ≤ m) : Kp S w w' :=
  ⟨h.os, h.tape, h.output, by rw [h.size]; exact Nat.le_refl _, fun k hk hS => h.other k (fun e => by subst e; rcases hb with hb | hb; exact hS hb; omega)⟩
theorem same_bits_int (k : Int) : Instr.sameBits 10000 (I k) (I k) = true := by simp [Instr.sameBits]
theorem mapSet_run {kt et : TypeId} {m : Nat} {k : Int} {v : Value} {f : Int → Option Value} (hb : MapI w m f) (hk : P.underlying kt = some (.int .i64)) (hu : P.underlying t = some (.map kt et)) :
    ∃ w', (Instr.mapUpdate t (.map (some m)) (I k) v).run P w = .ok () w' ∧ MUpd w m (upF f k (some v)) w' := by
  have hlt := hb.lt
  obtain ⟨es, c, hb, hf⟩ := hb
  have hso : ∀ o, (setObj m o).run P w = .ok () { w with heap := w.heap.setIfInBounds m o } := fun o => by simp [setObj, Sem.run, hb]
  rcases hf.find k with ⟨h1, h2⟩ | ⟨j, e', h1, h2, h3, h4⟩
  · have hu' := upd_setObj (o' := .map (es.push ⟨I k, v, c⟩) (c + 1)) hb
    refine ⟨{ w with heap := w.heap.setIfInBounds m (.map (es.push ⟨I k, v, c⟩) (c + 1)) }, ?_, MUpd.of hu' hlt ⟨_, _, hu'.at_, ?_⟩⟩
    · simp only [Instr.mapUpdate, Sem.run_bind, run_underlying hu, Result.andThen_ok, run_getMap hb, checkKey_run hk (.inr ⟨_, rfl⟩), run_find hk h2, hso, Sem.run_pure]
    · rw [Array.toList_push]; exact hf.push h1
  · have hu' := upd_setObj (o' := .map (es.modify j fun e => { e with key := I k, val := v }) c) hb
    refine ⟨{ w with heap := w.heap.setIfInBounds m (.map (es.modify j fun e => { e with key := I k, val := v }) c) }, ?_, MUpd.of hu' hlt ⟨_, _, hu'.at_, ?_⟩⟩
    · have hj : es[j]? = some e' := by rw [← h3]; simp
      have hkey : (((es[j]?).map (·.key)).getD (I k)) = I k := by rw [hj]; simp [h4]
      simp only [Instr.mapUpdate, Sem.run_bind, run_underlying hu, Result.andThen_ok, run_getMap hb, checkKey_run hk (.inr ⟨_, rfl⟩), run_find hk h2, hkey, Instr.keyThatStays, same_bits_int, if_true, hso, Sem.run_pure]
    · have hj : j < es.toList.length := (List.getElem?_eq_some_iff.1 h3).1
      have e1 : (es.modify j fun e => { e with key := I k, val := v }).toList = es.toList.set j ⟨I k, v, e'.born⟩ := by
        rw [Array.toList_modify]
        apply List.ext_getElem?
        intro i
        rw [List.getElem?_modify, List.getElem?_set]
        by_cases hij : j = i
        · subst hij
          rw [if_pos rfl, if_pos hj, h3]; simp
        · rw [if_neg hij]; simp [hij]
      rw [e1]; exact hf.set h3 h4
/-- 'm[k] = v' -/
theorem o_mapSet {kt et : TypeId} {m : Nat} {k : Int} {v : Value} {z : Operand} {f : Int → Option Value} {c2 : Option Prop} (hx : ev e x = .map (some m)) (hy : ev e y = I k) (hv : same (ev e z) = some (c2, v)) (hb : MapI w m f)
    (hu : P.underlying t = some (.map kt et)) (hk : P.underlying kt = some (.int .i64)) (hd : dOk n dst = true) (hm : may all G e g = some true)
    (q : ∀ w', MUpd w m (upF f k (some v)) w' → Ops ro P n all G K l (put e dst undef) w') : Ops ro P n all G K (⟨dst, .mapUpdate t x y z, ty, pos, after, g⟩ :: l) e w := by
  obtain ⟨w', hr, hw'⟩ := mapSet_run (P := P) (v := v) hb hk (t := t) (k := k) hu
  refine ops_skips (w' := w') hd hm ?_ (q _ hw')
  simp only [execOp, hx, hy, ← same_eq hv, Sem.run_bind, hr, Result.andThen_ok, Sem.run_pure]
end
end Go.Vc
/- A region that draws its order and holds several operations that turn the world, apart from each other: every order of these is walked, what only reads goes first. -/
namespace Go.Vc
open Go
variable {P : Program} {n : Nat} {a : Act} {e : Env} {w : World} {K : EPost} {X : List (Nat × EPost)} {R : EPost} {ro : Option Nat} {all : List Oper} {Fl : World → Prop}
def lst (L : Array Oper) (done : List Nat) : Array Bool := done.foldl (fun l i => l.setIfInBounds i true) (Array.replicate L.size false)
/-- in this state, with these done, whatever order is picked -/
def AnyE (ro : Option Nat) (P : Program) (n : Nat) (all : List Oper) (Fl : World → Prop) (K : EPost) (fuel : Nat) (done : List Nat) (e : Env) (w : World) : Prop :=
  Closed all.toArray (lst all.toArray done) → ∀ ds a, Fit n ds a e → anyF ro P all.toArray Fl (fun a w => ∃ e, Fit n ds a e ∧ K e w) fuel (lst all.toArray done) a w
def segB (L : Array Oper) : List Nat → Array Bool → Bool
  | [], _ => true
  | i :: r, listed => (Region.ready .any L listed).contains i && Region.free .any L listed i && segB L r (listed.setIfInBounds i true)
def eqL : List Bool → List Bool → Bool
  | [], [] => true
  | a :: r, b :: q => (a == b) && eqL r q
  | _, _ => false
end Go.Vc
/- Results that lie in memory; map rules for drawn regions. -/
namespace Go.Vc
open Go
variable {P : Program} {n : Nat} {a : Act} {e : Env} {w : World} {K : EPost} {X : List (Nat × EPost)} {R : EPost} {all : List Oper} {G : List Nat} {ro : Option Nat} {Fl : World → Prop}
/-- what a function's results read as, some of them out of memory -/
def resC (P : Program) (e : Env) (w : World) : List ResultVar → List Value → Prop
  | [], [] => True
  | .tmp t :: r, v :: vs => (∃ c, same (e t) = some (c, v)) ∧ resC P e w r vs
  | .cell a t :: r, v :: vs => (∃ ad, e a = .pointer (some ad) ∧ (loadVar t ad).run P w = .ok v w) ∧ resC P e w r vs
  | _, _ => False
def tupV : List Value → Value
  | [v] => v
  | vs => .tuple ⟨vs⟩
theorem resC_run {a : Act} {ds : List Deferred} (hf : Fit n ds a e) {F : ResultVar → Sem Value} (F1 : ∀ t, F (.tmp t) = pure (a.tmps.getD t undef)) (F2 : ∀ b t, F (.cell b t) = do loadVar t (← asAddr (a.tmps.getD b undef))) : ∀ (rs : List ResultVar) (vs : List Value), resC P e w rs vs →
    (rs.mapM F).run P w = .ok vs w
  | [], [], _ => rfl
  | [], _ :: _, h => by simp [resC] at h
  | .tmp t :: r, [], h => by simp [resC] at h
  | .cell b t :: r, [], h => by simp [resC] at h
  | .tmp t :: r, v :: vs, h => by
    obtain ⟨⟨c, h1⟩, h2⟩ := h
    have ih := resC_run hf F1 F2 r vs h2
    have h0 : (F (.tmp t)).run P w = .ok v w := by rw [F1, hf.get, same_eq h1]; rfl
    rw [List.mapM_cons, Sem.run_bind, h0]
    simp only [Result.andThen_ok, Sem.run_bind, ih, Sem.run_pure]
  | .cell b t :: r, v :: vs, h => by
    obtain ⟨⟨ad, h1, h3⟩, h2⟩ := h
    have ih := resC_run hf F1 F2 r vs h2
    have h0 : (F (.cell b t)).run P w = .ok v w := by rw [F2, hf.get, h1]; simpa [asAddr] using h3
    rw [List.mapM_cons, Sem.run_bind, h0]
    simp only [Result.andThen_ok, Sem.run_bind, ih, Sem.run_pure]
theorem mapM_arr {F : ResultVar → Sem Value} {rs : List ResultVar} {vs : List Value} (h : (rs.mapM F).run P w = .ok vs w) : ((⟨rs⟩ : Array ResultVar).mapM F).run P w = .ok ⟨vs⟩ w := by
  have e1 : (⟨rs⟩ : Array ResultVar).mapM F = List.toArray <$> rs.mapM F := List.mapM_toArray
  rw [e1, map_eq_pure_bind, Sem.run_bind, h]; rfl
theorem results_resC {fn : Func} {a : Act} {ds : List Deferred} {rs : List ResultVar} {vs : List Value} (hr : fn.results = ⟨rs⟩) (hf : Fit n ds a e) (h : resC P e w rs vs) : (results fn a.tmps).run P w = .ok (tupV vs) w := by
  simp only [results, hr]
  rw [Sem.run_bind, mapM_arr (resC_run hf (fun _ => rfl) (fun _ _ => rfl) rs vs h)]
  match vs with
  | [] => rfl
  | [v] => rfl
  | v :: u :: r => rfl
section
variable {dst : Option Tmp} {ty : TypeId} {pos : String} {after : Array Edge} {g : Option (Nat × Bool)} {l : List Oper} {t : TypeId} {x y : Operand}
/-- an empty map -/
theorem o_makeMapI (hd : dOk n dst = true) (hm : may all G e g = some true)
    (k : ∀ b w', b = w.heap.size → Kp [] w w' → w'.heap.size = w.heap.size + 1 → MapI w' b (fun _ => none) → Ops ro P n all G K l (put e dst (.map (some b))) w') : Ops ro P n all G K (⟨dst, .makeMap t none, ty, pos, after, g⟩ :: l) e w := by
  refine ops_does (v := .map (some w.heap.size)) (w' := w.alloc (.map #[] 0)) hd hm ?_ (k _ _ rfl ((upd_alloc w _).kp [] (.inr (Nat.le_refl _))) ?_ ⟨#[], 0, (upd_alloc w _).at_, MapFn.nil⟩)
  · have hr : (Instr.makeMap t none).run P w = .ok (.map (some w.heap.size)) (w.alloc (.map #[] 0)) := rfl
    simp only [execOp, Sem.run_bind, Option.map_none, hr, Result.andThen_ok, Sem.run_pure]
  · have h1 := (upd_alloc w (.map #[] 0)).lt
    have h2 := (upd_alloc w (.map #[] 0)).size'
    omega
theorem x_build {r : List (Nat × Bool)} {j : Nat} {zc : Value} {fs : Array Field} {places : List (Nat × Nat)} {parts : Array (Nat × Operand)} (cs : List Value) (ho : nthO all j = some ⟨dst, .build t parts, ty, pos, after, g⟩) (hu : P.underlying t = some (.struct fs)) {i : TypeInfo} (hi : P.info? t = some i) (hz : i.zero = some zc)
    (hp : fs.toList.mapM (fun f => (P.info? f.type).map fun i => (f.offset, i.size)) = some places)
    (hf : Instr.fill (fun j => nthO places j) zc.cells (parts.toList.map fun (j, x) => (j, ev e x)) = some ⟨cs⟩) (hd : dOk n dst = true) (hm : may all G e g = some true)
    (k : MOps ro P n all G Fl K r (put e dst (.agg ⟨cs⟩)) w) : MOps ro P n all G Fl K ((j, false) :: r) e w :=
  x_does ho hd hm (fun w hw => exec_build cs hu hi hz hp hf) k
end
end Go.Vc
