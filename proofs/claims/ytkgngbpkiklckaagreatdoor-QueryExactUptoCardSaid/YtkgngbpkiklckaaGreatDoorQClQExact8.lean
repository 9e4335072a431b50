/- Parts of a proof. -/
import Derived.Test.YtkgngbpkiklckaaGreatDoorQClQExact7
import Derived.Laws.MakeOwn
set_option maxHeartbeats 12800000
namespace Go.Vc
open Go
variable {P : Program} {n : Nat} {a : Act} {e : Env} {w : World} {K : Jc0} {X : List (Nat × Jc0)} {R : Jc0} {ro : Ro} {all : List Oper} {Fl : World → Prop} {ds : List Deferred}
def lst (L : Array Oper) (done : List Nat) : Array Bool := done.foldl (fun l i => l.setIfInBounds i true) (Array.replicate L.size false)
theorem lst_size (L : Array Oper) (done : List Nat) : (lst L done).size = L.size := by
 unfold lst
 have key : ∀ (d : List Nat) (l : Array Bool), l.size = L.size → (d.foldl (fun l i => l.setIfInBounds i true) l).size = L.size := by
  intro d
  induction d with
  | nil => exact fun l h => h
  | cons i r ih => exact fun l h => ih _ (by simpa using h)
 exact key done _ sI
theorem Jq8 (L : Array Oper) (done : List Nat) (i : Nat) : lst L (done ++ [i]) = (lst L done).setIfInBounds i true := by simp [lst]
def AnyE (ro : Ro) (P : Program) (n : Nat) (all : List Oper) (Fl : World → Prop) (K : Jc0) (fuel : Nat) (done : List Nat) (e : Env) (w : World) : Prop :=
 Ju6 all.toArray (lst all.toArray done) → ∀ ds a, Fit n ds a e → anyF ds ro P all.toArray Fl (fun a w => ∃ e, Fit n ds a e ∧ K e w) fuel (lst all.toArray done) a w
theorem Qj6 {id : Nat} (Fl : World → Prop) (fuel : Nat) (hm : P.follows .mixedOrders = true) (hl : Nat.beq fuel all.toArray.size = true)
  (h : AnyE ro P n all Fl K fuel [] e { w with drawn := w.drawn + 1 }) : Wp ro P n (.region id all.toArray true) K X R e w := by
 intro ds a ha
 refine wpIn_region_any hm ?_
 rw [Nat.eq_of_beq_eq_true hl] at h
 exact Qg0 panQ_lift (fun a w hq => hq) _ _ _ _ (h (fun j q hq hl => by
  have e0 : lst all.toArray [] = Array.replicate all.toArray.size false := rfl
  rw [e0, Array.getD_eq_getD_getElem?, Array.getElem?_replicate] at hl
  split at hl <;> simp at hl) ds a ha)
theorem Qi6 {done : List Nat} (hB : (Region.ready .any all.toArray (lst all.toArray done)).isEmpty = true) (h : K e w) : AnyE ro P n all Fl K 0 done e w :=
 fun _ ds a ha => ⟨by simpa using hB, e, ha, h⟩
def segB (L : Array Oper) : List Nat → Array Bool → Bool
 | [], _ => true
 | i :: r, listed => (Region.ready .any L listed).contains i && Region.free .any L listed i && segB L r (listed.setIfInBounds i true)
theorem seg_any {L : Array Oper} {Q : Act → World → Prop} (hP : Ql8 L = true) : ∀ (is : List Nat) (done : List Nat) (a : Act) (w : World) (fuel : Nat), Ju6 L (lst L done) → Fl w → segB L is (lst L done) = true →
  mixW ds ro P L Fl (fun a w => Ju6 L (lst L (done ++ is)) → anyF ds ro P L Fl Q fuel (lst L (done ++ is)) a w) (is.map fun i => (i, false)) a w → anyF ds ro P L Fl Q (is.length + fuel) (lst L done) a w
 | [], done, a, w, fuel, hcl, _, _, h => by
  simp only [List.append_nil, List.map_nil, mixW] at h
  simpa using h hcl
 | i :: r, done, a, w, fuel, hcl, hw, hB, h => by
  simp only [List.map_cons] at h
  unfold mixW at h
  cases ho : L[i]? with
  | none => simp only [ho] at h
  | some o =>
   simp only [ho, Bool.false_eq_true, if_false] at h
   simp only [segB, Bool.and_eq_true] at hB
   obtain ⟨⟨hr, hf⟩, hB'⟩ := hB
   obtain ⟨v, hy, hK⟩ := h
   have hr' : i ∈ Region.ready .any L (lst L done) := by simpa using hr
   have e1 : (i :: r).length + fuel = (r.length + fuel) + 1 := by simp; omega
   rw [e1]
   refine Qm0 hP ho (r.length + fuel) (lst L done) a w (lst_size L done) hcl hw (Region.free_spec ho hf) hr' hy ?_
   rw [← Jq8]
   refine seg_any hP r (done ++ [i]) _ w fuel (by rw [Jq8]; exact hcl.set hr') hw (by rw [Jq8]; exact hB') ?_
   have e2 : done ++ [i] ++ r = done ++ i :: r := sI
   rw [e2]; exact hK
theorem mixW_mono {L : Array Oper} {Q Q' : Act → World → Prop} (hq : ∀ a w, Q a w → Q' a w) (ord : List (Nat × Bool)) : ∀ (a : Act) (w : World), mixW ds ro P L Fl Q ord a w → mixW ds ro P L Fl Q' ord a w := by
 induction ord with
 | nil => exact fun a w h => hq a w h
 | cons p r ih =>
  intro a w h
  obtain ⟨i, b⟩ := p
  unfold mixW at h ⊢
  split
  ·rename_i ho; simp only [ho] at h
  ·rename_i o ho
   simp only [ho] at h
   cases b with
   | true => simp only [if_true] at h ⊢; exact Qc6 (fun a w hk => ⟨hk.1, ih a w hk.2⟩) h
   | false => simp only [Bool.false_eq_true, if_false] at h ⊢; obtain ⟨v, hy, hk⟩ := h; exact ⟨v, hy, ih _ _ hk⟩
theorem Ji9 {fuel0 : Nat} {done : List Nat} (is : List Nat) (fuel : Nat) (hP : Ql8 all.toArray = true) (hf : Nat.beq (is.length + fuel) fuel0 = true) (hB : segB all.toArray is (lst all.toArray done) = true) (hw : Fl w)
  (h : MOps ro P n all [] Fl (AnyE ro P n all Fl K fuel (done ++ is)) (is.map fun i => (i, false)) e w) : AnyE ro P n all Fl K fuel0 done e w := by
 intro hcl ds a ha
 rw [← Nat.eq_of_beq_eq_true hf]
 refine seg_any hP is done a w fuel hcl hw hB ?_
 refine mixW_mono (fun a w hq hcl' => ?_) _ _ _ (h ds a ha)
 obtain ⟨e', hf', hk⟩ := hq
 exact hk hcl' ds a hf'
theorem Qm4 {fuel : Nat} {done : List Nat} {i : Nat} {o : Oper} (hr : i ∈ Region.ready .any all.toArray (lst all.toArray done)) (ho : nthO all i = some o)
  (h : Ops ro P n all [] (fun e w => (Jw0 all.toArray i = true ∨ Fl w) ∧ AnyE ro P n all Fl K fuel (done ++ [i]) e w) [o] e w) (hcl : Ju6 all.toArray (lst all.toArray done)) {ds : List Deferred} {a : Act} (ha : Fit n ds a e) :
  opF ds ro P all.toArray i (fun a' w' => (Jw0 all.toArray i = true ∨ Fl w') ∧ anyF ds ro P all.toArray Fl (fun a w => ∃ e, Fit n ds a e ∧ K e w) fuel ((lst all.toArray done).setIfInBounds i true) a' w') a w := by
 have hoi : all.toArray[i]? = some o := by rw [List.getElem?_toArray, ← Js8]; exact ho
 have h1 := h [] (fun _ _ => False) ds a ha
 unfold wpListIn at h1
 unfold opF
 simp only [hoi]
 split
 ·rename_i hw
  rw [if_pos hw] at h1
  refine laxIn (fun a w hk => ?_) (fun c a w hq => hq) (fun a w hq => hq) h1
  obtain ⟨e', hf, hfl, hk⟩ := hk
  refine ⟨hfl, ?_⟩
  rw [← Jq8]
  exact hk (by rw [Jq8]; exact hcl.set hr) ds a hf
 ·rename_i hw
  rw [if_neg hw] at h1
  obtain ⟨e', hf, hfl, hk⟩ := h1.2
  refine ⟨hfl, ?_⟩
  rw [← Jq8]
  exact hk (by rw [Jq8]; exact hcl.set hr) ds _ hf
theorem Je4 {fuel : Nat} {done : List Nat} (i : Nat) {o : Oper} (hr : Region.ready .any all.toArray (lst all.toArray done) = [i]) (ho : nthO all i = some o)
  (h : Ops ro P n all [] (fun e w => (Jw0 all.toArray i = true ∨ Fl w) ∧ AnyE ro P n all Fl K fuel (done ++ [i]) e w) [o] e w) : AnyE ro P n all Fl K (fuel + 1) done e w := by
 intro hcl ds a ha
 refine ⟨fun h0 => (by rw [h0] at hr; cases hr), fun j hj => ?_⟩
 have hj' := hj
 rw [hr] at hj'
 obtain rfl : j = i := by simpa using hj'
 exact Qm4 hj ho h hcl ha
theorem Jz9 {fuel : Nat} {done : List Nat} (i j : Nat) {o q : Oper} (hr : Region.ready .any all.toArray (lst all.toArray done) = [i, j]) (ho : nthO all i = some o) (hq : nthO all j = some q)
  (h : Ops ro P n all [] (fun e w => (Jw0 all.toArray i = true ∨ Fl w) ∧ AnyE ro P n all Fl K fuel (done ++ [i]) e w) [o] e w)
  (k : Ops ro P n all [] (fun e w => (Jw0 all.toArray j = true ∨ Fl w) ∧ AnyE ro P n all Fl K fuel (done ++ [j]) e w) [q] e w) : AnyE ro P n all Fl K (fuel + 1) done e w := by
 intro hcl ds a ha
 refine ⟨fun h0 => (by rw [h0] at hr; cases hr), fun m hm => ?_⟩
 have hm' := hm
 rw [hr] at hm'
 simp only [List.mem_cons, List.not_mem_nil, or_false] at hm'
 rcases hm' with rfl | rfl
 ·exact Qm4 hm ho h hcl ha
 ·exact Qm4 hm hq k hcl ha
theorem t_three {fuel : Nat} {done : List Nat} (i j l : Nat) {o q r : Oper} (hr : Region.ready .any all.toArray (lst all.toArray done) = [i, j, l]) (ho : nthO all i = some o) (hq : nthO all j = some q) (hl : nthO all l = some r)
  (h : Ops ro P n all [] (fun e w => (Jw0 all.toArray i = true ∨ Fl w) ∧ AnyE ro P n all Fl K fuel (done ++ [i]) e w) [o] e w)
  (k : Ops ro P n all [] (fun e w => (Jw0 all.toArray j = true ∨ Fl w) ∧ AnyE ro P n all Fl K fuel (done ++ [j]) e w) [q] e w)
  (m : Ops ro P n all [] (fun e w => (Jw0 all.toArray l = true ∨ Fl w) ∧ AnyE ro P n all Fl K fuel (done ++ [l]) e w) [r] e w) : AnyE ro P n all Fl K (fuel + 1) done e w := by
 intro hcl ds a ha
 refine ⟨fun h0 => (by rw [h0] at hr; cases hr), fun z hz => ?_⟩
 have hz' := hz
 rw [hr] at hz'
 simp only [List.mem_cons, List.not_mem_nil, or_false] at hz'
 rcases hz' with rfl | rfl | rfl
 ·exact Qm4 hz ho h hcl ha
 ·exact Qm4 hz hq k hcl ha
 ·exact Qm4 hz hl m hcl ha
theorem t_with {fuel : Nat} {done : List Nat} (J : Jc0) (fuelL : Nat) (doneL : List Nat) (leaf : ∀ e w, J e w → AnyE ro P n all Fl K fuelL doneL e w) (tree : (∀ e w, J e w → AnyE ro P n all Fl K fuelL doneL e w) → AnyE ro P n all Fl K fuel done e w) : AnyE ro P n all Fl K fuel done e w := tree leaf
def eqL : List Bool → List Bool → Bool
 | [], [] => true
 | a :: r, b :: q => (a == b) && eqL r q
 | _, _ => false
theorem eqL_eq : ∀ {l m : List Bool}, eqL l m = true → l = m
 | [], [], _ => rfl
 | a :: r, b :: q, h => by
  simp only [eqL, Bool.and_eq_true, beq_iff_eq] at h
  rw [h.1, eqL_eq h.2]
 | [], _ :: _, h => by cases h
 | _ :: _, [], h => by cases h
theorem Jh7 {fuel : Nat} {done done' : List Nat} (hs : eqL (lst all.toArray done).toList (lst all.toArray done').toList = true) (h : AnyE ro P n all Fl K fuel done' e w) : AnyE ro P n all Fl K fuel done e w := by
 have e1 : lst all.toArray done = lst all.toArray done' := Array.toList_inj.1 (eqL_eq hs)
 unfold AnyE at h ⊢
 rw [e1]; exact h
end Go.Vc

namespace Go.Vc
open Go
variable {P : Program} {n : Nat} {a : Act} {e : Env} {w : World} {K : Jc0} {X : List (Nat × Jc0)} {R : Jc0} {all : List Oper} {G : List Nat} {ro : Ro} {Fl : World → Prop}
def resC (P : Program) (e : Env) (w : World) : List ResultVar → List Value → Prop
 | [], [] => True
 | .tmp t :: r, v :: vs => (∃ c, same (e t) = some (c, v)) ∧ resC P e w r vs
 | .cell a t :: r, v :: vs => (∃ ad, e a = .pointer (some ad) ∧ (loadVar t ad).run P w = .ok v w) ∧ resC P e w r vs
 | _, _ => False
def tupV : List Value → Value
 | [v] => v
 | vs => .tuple ⟨vs⟩
theorem resC_run {a : Act} {ds : List Deferred} (hf : Fit n ds a e) {F : ResultVar → Sem Value} (F1 : ∀ t, F (.tmp t) = pure (a.tmps.getD t undef)) (F2 : ∀ b t, F (.cell b t) = do loadVar t (← asAddr (a.tmps.getD b undef))) : ∀ (rs : List ResultVar) (vs : List Value), resC P e w rs vs →
  (rs.mapM F).run P w = .ok vs w
 | [], [], _ => rfl
 | [], _ :: _, h => by simp [resC] at h
 | .tmp t :: r, [], h => by simp [resC] at h
 | .cell b t :: r, [], h => by simp [resC] at h
 | .tmp t :: r, v :: vs, h => by
  obtain ⟨⟨c, h1⟩, h2⟩ := h
  have ih := resC_run hf F1 F2 r vs h2
  have h0 : (F (.tmp t)).run P w = .ok v w := by rw [F1, hf.get, Jg1 h1]; rfl
  rw [List.mapM_cons, Sem.run_bind, h0]
  simp only [Result.andThen_ok, Sem.run_bind, ih, Sem.run_pure]
 | .cell b t :: r, v :: vs, h => by
  obtain ⟨⟨ad, h1, h3⟩, h2⟩ := h
  have ih := resC_run hf F1 F2 r vs h2
  have h0 : (F (.cell b t)).run P w = .ok v w := by rw [F2, hf.get, h1]; simpa [asAddr] using h3
  rw [List.mapM_cons, Sem.run_bind, h0]
  simp only [Result.andThen_ok, Sem.run_bind, ih, Sem.run_pure]
theorem mapM_arr {F : ResultVar → Sem Value} {rs : List ResultVar} {vs : List Value} (h : (rs.mapM F).run P w = .ok vs w) : ((⟨rs⟩ : Array ResultVar).mapM F).run P w = .ok ⟨vs⟩ w := by
 have e1 : (⟨rs⟩ : Array ResultVar).mapM F = List.toArray <$> rs.mapM F := List.mapM_toArray
 rw [e1, map_eq_pure_bind, Sem.run_bind, h]; rfl
theorem Js0 {fn : Func} {a : Act} {ds : List Deferred} {rs : List ResultVar} {vs : List Value} (hr : fn.results = ⟨rs⟩) (hf : Fit n ds a e) (h : resC P e w rs vs) : (results fn a.tmps).run P w = .ok (tupV vs) w := by
 simp only [results, hr]
 rw [Sem.run_bind, mapM_arr (resC_run hf (fun _ => rfl) (fun _ _ => rfl) rs vs h)]
 match vs with
 | [] => rfl
 | [v] => rfl
 | v :: u :: r => rfl
theorem enterC {f : FuncId} {fn : Func} {c : Code} {vs : List Value} {R : Value → World → Prop} (hE : Jl8 P f) (hf : P.funcs[f]? = some fn) (hb : fn.body = some c) (hn : fn.ntmps = n) {rs : List ResultVar} (hr : fn.results = ⟨rs⟩)
  (hl : Nat.ble vs.length n = true) (h : Wp Ro.no P n c (fun e w => ∃ us, resC P e w rs us ∧ R (tupV us) w) [] (fun e w => ∃ us, resC P e w rs us ∧ R (tupV us) w) (nth vs) w) : Ret P f vs w R := by
 refine ⟨hE, Qe1 (callsIn_of_wp (n := 0) hf hb trivial ?_)⟩
 rw [hn]
 refine wpIn_mono (h [] _ (Jp5 vs n (Nat.le_of_ble_eq_true hl))) ?_
 intro x a w hq
 cases x with
 | normal => obtain ⟨e, hfit, us, hv, hR⟩ := hq; exact ⟨hfit.defers, _, Js0 hr hfit hv, _, rfl, hR⟩
 | ret => obtain ⟨e, hfit, us, hv, hR⟩ := hq; exact ⟨hfit.defers, _, Js0 hr hfit hv, _, rfl, hR⟩
 | exit id => obtain ⟨J, e, hJ, _⟩ := hq; cases hJ
 | goto l => exact hq.elim
 | panic c => obtain ⟨v, _, _, h⟩ := hq; exact h.elim
 | outgrown => exact hq.elim
theorem Zd {f : FuncId} {fn : Func} {c : Code} {vs : List Value} {R : Value → World → Prop} {rs : List ResultVar} (hE : Jl8 P f) (hf : P.funcs[f]? = some fn) (h : Wp Ro.no P n c (fun e w => ∃ us, resC P e w rs us ∧ R (tupV us) w) [] (fun e w => ∃ us, resC P e w rs us ∧ R (tupV us) w) (nth vs) w) (hb : fn.body = some c := by exact rfl) (hn : fn.ntmps = n := by exact rfl) (hr : fn.results = ⟨rs⟩ := by exact rfl) (hl : Nat.ble vs.length n = true := by exact rfl) : Ret P f vs w R := enterC hE hf hb hn hr hl h
theorem run_loadA {t : TypeId} {d : TypeDesc} {i : TypeInfo} {b off : Nat} {vs : List Value} (hu : P.underlying t = some d) (ha : aggD d = true) (hi : P.info? t = some i) (hs : i.size = vs.length) (hc : ∀ j v, vs[j]? = some v → w.cell? ⟨b, off + j, none⟩ = some v) :
  (loadVar t ⟨b, off, none⟩).run P w = .ok (.agg ⟨vs⟩) w := by
 have hl := Jp9 (P := P) (w := w) (ad := ⟨b, off, none⟩) vs 0 #[] (fun j v hv => by rw [Jc1, Nat.zero_add]; exact hc j v hv)
 simp [loadVar, Qm2 hu ha, loadCells, sizeOf, typeInfo, hi, hs, hl]
theorem Jb9 {t : TypeId} {d : TypeDesc} {i : TypeInfo} {b : Nat} {vs : List Value} {T : TypeId} (hb : Blk w b vs T) (hu : P.underlying t = some d) (ha : aggD d = true) (hi : P.info? t = some i) (hs : i.size = vs.length) :
  (loadVar t ⟨b, 0, none⟩).run P w = .ok (.agg ⟨vs⟩) w := run_loadA hu ha hi hs hb.cs
section
variable {dst : Option Tmp} {ty : TypeId} {pos : String} {after : Array Edge} {g : Option (Nat × Bool)} {l : List Oper} {t : TypeId} {x y : Operand}
theorem q_lookI2 {C : World → Prop} {K : Env → Prop} {kt et : TypeId} {z : Value} {i : TypeInfo} {m : Nat} {k : Int} {f : Int → Option Value} (u : Value) (hx : ev e x = .map (some m)) (hy : ev e y = I k) (hb : ∀ w, C w → MapI w m f) (hf : lookV z (f k) = u)
  (hu : P.underlying t = some (.map kt et)) (hk : P.underlying kt = some (.int .i64)) (hi : P.info? et = some i) (hz : i.zero = some z) (hd : dOk n dst = true) (hm : may all G e g = some true)
  (q : QOps P n all G C K l (put e dst u)) : QOps P n all G C K (⟨dst, .lookup t x y true, ty, pos, after, g⟩ :: l) e :=
 Jl1 hd hm (fun w hw => by rw [← hf]; exact exec_lookup2 hx hy (hb w hw) hu hk hi hz) q
theorem x_lookI {r : List (Nat × Bool)} {j : Nat} {kt et : TypeId} {z : Value} {i : TypeInfo} {m : Nat} {k : Int} {f : Int → Option Value} (u : Value) (ho : nthO all j = some ⟨dst, .lookup t x y false, ty, pos, after, g⟩) (hx : ev e x = .map (some m)) (hy : ev e y = I k) (hb : ∀ w, Fl w → MapI w m f) (hf : (f k).getD z = u)
  (hu : P.underlying t = some (.map kt et)) (hk : P.underlying kt = some (.int .i64)) (hi : P.info? et = some i) (hz : i.zero = some z) (hd : dOk n dst = true) (hm : may all G e g = some true)
  (q : MOps ro P n all G Fl K r (put e dst u) w) : MOps ro P n all G Fl K ((j, false) :: r) e w :=
 Qf0 ho hd hm (fun w hw => by rw [← hf]; exact Qb5 hx hy (hb w hw) hu hk hi hz) q
theorem Je0 (hd : dOk n dst = true) (hm : may all G e g = some true)
  (k : ∀ b w', b = w.heap.size → Kp [] w w' → w'.heap.size = w.heap.size + 1 → MapI w' b (fun _ => none) → Ops ro P n all G K l (put e dst (.map (some b))) w') : Ops ro P n all G K (⟨dst, .makeMap t none, ty, pos, after, g⟩ :: l) e w := by
 refine Jb5 (v := .map (some w.heap.size)) (w' := w.alloc (.map #[] 0)) hd hm ?_ (k _ _ rfl ((Je2 w _).kp [] (.inr lR)) ?_ ⟨#[], 0, (Je2 w _).at_, Jv3.nil⟩)
 ·have hr : (Instr.makeMap t none).run P w = .ok (.map (some w.heap.size)) (w.alloc (.map #[] 0)) := rfl
  simp only [execOp, Sem.run_bind, Option.map_none, hr, Result.andThen_ok, Sem.run_pure]
 ·have h1 := (Je2 w (.map #[] 0)).lt
  have h2 := (Je2 w (.map #[] 0)).size'
  omega
theorem o_insertI {kt et : TypeId} {m : Nat} {k : Int} {v : Value} {z : Operand} {f : Int → Option Value} {c2 : Option Prop} (hx : ev e x = .map (some m)) (hy : ev e y = I k) (hv : same (ev e z) = some (c2, v)) (hb : MapI w m f)
  (hu : P.underlying t = some (.map kt et)) (hk : P.underlying kt = some (.int .i64)) (hd : dOk n dst = true) (hm : may all G e g = some true)
  (q : ∀ w', MUpd w m (upF f k (some v)) w' → Ops ro P n all G K l (put e dst undef) w') : Ops ro P n all G K (⟨dst, .insert t x y z, ty, pos, after, g⟩ :: l) e w := by
 obtain ⟨w', hr, hw'⟩ := Qo4 (P := P) (v := v) hb hk (t := t) (k := k) hu
 refine Jo8 (w' := w') hd hm ?_ (q _ hw')
 simp only [execOp, hx, hy, ← Jg1 hv, Sem.run_bind, hr, Result.andThen_ok, Sem.run_pure]
theorem Zi {kt et : TypeId} {m : Nat} {k : Int} {v : Value} {z : Operand} {f : Int → Option Value} {c2 : Option Prop} (hx : ev e x = .map (some m)) (hy : ev e y = I k) (hv : same (ev e z) = some (c2, v)) (hb : MapI w m f) (q : ∀ w', MUpd w m (upF f k (some v)) w' → Ops ro P n all G K l (put e dst undef) w') (hu : P.underlying t = some (.map kt et) := by exact rfl) (hk : P.underlying kt = some (.int .i64) := by exact rfl) (hd : dOk n dst = true := by exact rfl) (hm : may all G e g = some true := by exact rfl) : Ops ro P n all G K (⟨dst, .insert t x y z, ty, pos, after, g⟩ :: l) e w := o_insertI hx hy hv hb hu hk hd hm q
theorem x_build {r : List (Nat × Bool)} {j : Nat} {zc : Value} {fs : Array Field} {places : List (Nat × Nat)} {parts : Array (Nat × Operand)} (cs : List Value) (ho : nthO all j = some ⟨dst, .build t parts, ty, pos, after, g⟩) (hu : P.underlying t = some (.struct fs)) {i : TypeInfo} (hi : P.info? t = some i) (hz : i.zero = some zc)
  (hp : fs.toList.mapM (fun f => (P.info? f.type).map fun i => (f.offset, i.size)) = some places)
  (hf : Instr.fill (fun j => nthO places j) zc.cells (parts.toList.map fun (j, x) => (j, ev e x)) = some ⟨cs⟩) (hd : dOk n dst = true) (hm : may all G e g = some true)
  (k : MOps ro P n all G Fl K r (put e dst (.agg ⟨cs⟩)) w) : MOps ro P n all G Fl K ((j, false) :: r) e w :=
 Qf0 ho hd hm (fun w hw => Qa2 cs hu hi hz hp hf) k
theorem Zv {r : List (Nat × Bool)} {j : Nat} {zc : Value} {fs : Array Field} {places : List (Nat × Nat)} {parts : Array (Nat × Operand)} {i : TypeInfo} (cs : List Value) (ho : nthO all j = some ⟨dst, .build t parts, ty, pos, after, g⟩) (k : MOps ro P n all G Fl K r (put e dst (.agg ⟨cs⟩)) w) (hu : P.underlying t = some (.struct fs) := by exact rfl) (hi : P.info? t = some i := by exact rfl) (hz : i.zero = some zc := by exact rfl) (hp : fs.toList.mapM (fun f => (P.info? f.type).map fun i => (f.offset, i.size)) = some places := by exact rfl) (hf : Instr.fill (fun j => nthO places j) zc.cells (parts.toList.map fun (j, x) => (j, ev e x)) = some ⟨cs⟩ := by exact rfl) (hd : dOk n dst = true := by exact rfl) (hm : may all G e g = some true := by exact rfl) : MOps ro P n all G Fl K ((j, false) :: r) e w := x_build cs ho hu hi hz hp hf hd hm k
theorem q_build {C : World → Prop} {K : Env → Prop} {zc : Value} {fs : Array Field} {places : List (Nat × Nat)} {parts : Array (Nat × Operand)} (cs : List Value) (hu : P.underlying t = some (.struct fs)) {i : TypeInfo} (hi : P.info? t = some i) (hz : i.zero = some zc)
  (hp : fs.toList.mapM (fun f => (P.info? f.type).map fun i => (f.offset, i.size)) = some places)
  (hf : Instr.fill (fun j => nthO places j) zc.cells (parts.toList.map fun (j, x) => (j, ev e x)) = some ⟨cs⟩) (hd : dOk n dst = true) (hm : may all G e g = some true)
  (k : QOps P n all G C K l (put e dst (.agg ⟨cs⟩))) : QOps P n all G C K (⟨dst, .build t parts, ty, pos, after, g⟩ :: l) e :=
 Jl1 hd hm (fun w hw => Qa2 cs hu hi hz hp hf) k
theorem Qb7 : ∀ (n : Nat) (zc : List Value) (i : Nat), i < n * zc.length → ((List.replicate n zc).flatten)[i]? = zc[i % zc.length]?
 | 0, zc, i, h => oM
 | n + 1, zc, i, h => by
  rw [List.replicate_succ, List.flatten_cons]
  by_cases hi : i < zc.length
  ·rw [List.getElem?_append_left hi, Nat.mod_eq_of_lt hi]
  ·rw [List.getElem?_append_right oM, Qb7 n zc (i - zc.length) (by rw [Nat.succ_mul] at h; omega), ← Nat.mod_eq_sub_mod oM]
theorem Qj7 (z : Array Value) (n : Nat) : madeCells z (n * z.size) = ⟨(List.replicate n z.toList).flatten⟩ := by
 apply Array.ext'
 apply List.ext_getElem?
 intro i
 by_cases hi : i < n * z.size
 ·have h1 : i < n * z.toList.length := by simpa using hi
  rw [Qb7 n z.toList i h1]
  have hz : 0 < z.size := by
   rcases Nat.eq_zero_or_pos z.size with h | h
   ·rw [h] at hi; omega
   ·exact h
  have hm : i % z.size < z.size := Nat.mod_lt _ hz
  simp only [madeCells, Array.toList_map, Array.toList_range, List.getElem?_map, List.getElem?_range hi, Option.map_some, Array.length_toList]
  rw [getElem!_pos z (i % z.size) hm, Array.getElem?_toList, Array.getElem?_eq_getElem hm]
 ·rw [List.getElem?_eq_none (by simp [madeCells]; omega), List.getElem?_eq_none (by simp; omega)]
theorem Jn0 {T : TypeId} {z : Value} {td : TypeDesc} {tn : String} {sz tby : Nat} {thp : Bool} {tal tfa : Nat} {tcm : Bool} {tms : Array Method} {kl kc : IntKind} {len cap : Int} (hl : ev e x = .int kl len) (hc : ev e y = .int kc cap) (hu : P.underlying t = some (.slice T)) (hi : P.info? T = some ⟨td, tn, sz, tby, thp, tal, tfa, some z, tcm, tms⟩) (hzc : z.cells.size = sz)
  (h0 : 0 ≤ len) (hlc : len ≤ cap) (hby : (tby : Int) * cap ≤ 281474976710656) (h63 : cap ≤ 9223372036854775807) (hd : dOk n dst = true) (hm : may all G e g = some true)
  (k : ∀ b w', b = w.heap.size → Upd w b (.cells ⟨(List.replicate cap.toNat z.cells.toList).flatten⟩ T (0, 0)) w' → Ops ro P n all G K l (put e dst (.slice (some ⟨b, 0, none⟩) len.toNat cap.toNat)) w') : Ops ro P n all G K (⟨dst, .makeSlice t x y, ty, pos, after, g⟩ :: l) e w := by
 refine Jb5 (v := .slice (some ⟨w.heap.size, 0, none⟩) len.toNat cap.toNat) (w' := w.alloc (.cells (madeCells z.cells (cap.toNat * sz)) T)) hd hm ?_ (k _ _ rfl ?_)
 ·have := run_make (P := P) w t T _ z hu hi rfl kl kc len cap h0 hlc hby h63
  simp only [execOp, Sem.run_bind, hl, hc, this, Result.andThen_ok, Sem.run_pure]
 ·rw [← hzc, Qj7]
  exact Je2 w _
theorem o_buildSliceN {T : TypeId} {z : Value} {i : TypeInfo} {len : Nat} {parts : Array (Nat × Operand)} (cs : List Value) (hu : P.underlying t = some (.slice T)) (hi : P.info? T = some i) (hz : i.zero = some z)
  (hf : Instr.fill (fun j => some (j * i.size, i.size)) ((Array.range (len * i.size)).map (z.cells[· % z.cells.size]!)) (parts.toList.map fun (j, x) => (j, ev e x)) = some ⟨cs⟩) (h1 : Nat.ble (len * i.size) 16777216 = true) (h0 : Nat.blt 0 (len * i.size) = true) (hd : dOk n dst = true) (hm : may all G e g = some true)
  (k : ∀ b w', b = w.heap.size → Upd w b (.cells ⟨cs⟩ T (0, 0)) w' → Ops ro P n all G K l (put e dst (.slice (some ⟨b, 0, none⟩) len len)) w') : Ops ro P n all G K (⟨dst, .buildSlice t len parts, ty, pos, after, g⟩ :: l) e w := by
 refine Jb5 (v := .slice (some ⟨w.heap.size, 0, none⟩) len len) (w' := w.alloc (.cells ⟨cs⟩ T)) hd hm ?_ (k _ _ rfl (Je2 w _))
 have h3 : ¬ (len * i.size > 2 ^ 24) := by have := Nat.le_of_ble_eq_true h1; omega
 have h2 : ¬ (len * i.size = 0) := by have : 0 < len * i.size := (by simpa [Nat.blt_eq] using h0); omega
 have hm2 : (Array.map (fun x : Nat × Operand => (x.fst, ev e x.snd)) parts).toList = parts.toList.map fun (j, x) => (j, ev e x) := sI
 simp only [execOp, Sem.run_bind, Instr.buildSlice, run_underlying hu, Result.andThen_ok, sizeOf, typeInfo, run_program, hi, Sem.run_pure, if_neg h3, if_neg h2, zeroValue, hz, hm2, hf, newRow, run_newObj]
 rfl
theorem Zn {T : TypeId} {z : Value} {i : TypeInfo} {len : Nat} {parts : Array (Nat × Operand)} (cs : List Value) (hu : P.underlying t = some (.slice T)) (hi : P.info? T = some i) (hz : i.zero = some z) (hf : Instr.fill (fun j => some (j * i.size, i.size)) ((Array.range (len * i.size)).map (z.cells[· % z.cells.size]!)) (parts.toList.map fun (j, x) => (j, ev e x)) = some ⟨cs⟩) (k : ∀ b w', b = w.heap.size → Upd w b (.cells ⟨cs⟩ T (0, 0)) w' → Ops ro P n all G K l (put e dst (.slice (some ⟨b, 0, none⟩) len len)) w') (h1 : Nat.ble (len * i.size) 16777216 = true := by exact rfl) (h0 : Nat.blt 0 (len * i.size) = true := by exact rfl) (hd : dOk n dst = true := by exact rfl) (hm : may all G e g = some true := by exact rfl) : Ops ro P n all G K (⟨dst, .buildSlice t len parts, ty, pos, after, g⟩ :: l) e w := o_buildSliceN cs hu hi hz hf h1 h0 hd hm k
end
end Go.Vc

namespace Go.Vc
open Go
variable {P : Program} {n : Nat} {e : Env} {w : World} {K : Jc0} {X : List (Nat × Jc0)} {R : Jc0} {all : List Oper} {G : List Nat} {ro : Ro}
def RetP (P : Program) (f : FuncId) (vs : List Value) (w : World) (R E : Value → World → Prop) : Prop :=
 Jl8 P f ∧ Calls P f ⟨vs⟩ w (fun x w' => (∃ v, x = .returned v ∧ R v w') ∨ ∃ v, x = .panicked [{ v, recovered := false }] ∧ E v w')
theorem RetP.mono {f : FuncId} {vs : List Value} {R R' E E' : Value → World → Prop} (h : RetP P f vs w R E) (hr : ∀ v w', R v w' → R' v w') (he : ∀ v w', E v w' → E' v w') : RetP P f vs w R' E' :=
 ⟨h.1, h.2.mono fun _ _ hx => hx.elim (fun ⟨v, hv, r⟩ => .inl ⟨v, hv, hr _ _ r⟩) (fun ⟨v, hv, r⟩ => .inr ⟨v, hv, he _ _ r⟩)⟩
theorem Ret.p {f : FuncId} {vs : List Value} {R E : Value → World → Prop} (h : Ret P f vs w R) : RetP P f vs w R E :=
 ⟨h.1, h.2.mono fun _ _ ⟨v, hv, r⟩ => .inl ⟨v, hv, r⟩⟩
theorem RetP.ret {f : FuncId} {vs : List Value} {R E : Value → World → Prop} (h : RetP P f vs w R E) (hE : ∀ v w', ¬ E v w') : Ret P f vs w R :=
 ⟨h.1, h.2.mono fun _ _ hx => hx.elim id (fun ⟨v, _, r⟩ => (hE _ _ r).elim)⟩
theorem Jh0 {dst : Option Tmp} {ty : TypeId} {pos : String} {after : Array Edge} {g : Option (Nat × Bool)} {l : List Oper} {f : FuncId} {first cap : Array Value} {fo : Operand} {args : Array Operand} {ts : Array TypeId} {vs : List Value} {R E : Value → World → Prop}
  (h : RetP P f vs w R E) (hf : ev e fo = .func (.func f) first cap) (ha : first.toList ++ args.toList.map (ev e) ++ cap.toList = vs) (hd : dOk n dst = true) (hm : may all G e g = some true) (hE : ∀ v w', E v w' → ro.pan v w')
  (k : ∀ v w', R v w' → Ops ro P n all G K l (put e dst v) w') : Ops ro P n all G K (⟨dst, .call ⟨.value fo, args, ts⟩, ty, pos, after, g⟩ :: l) e w := by
 intro X R ds a hfit
 unfold wpListIn
 rw [if_pos (Jd0 (o := ⟨dst, .call ⟨.value fo, args, ts⟩, ty, pos, after, g⟩) hfit hm)]
 unfold Oper.wpIn
 refine ⟨fun _ _ => trivial, ?_⟩
 rw [hfit.eval]
 show Oper.uponIn _ _ _ _ _ _ _ ((Oper.semAt ro.round (ev e) ⟨dst, .call ⟨.value fo, args, ts⟩, ty, pos, after, g⟩).run P w)
 rw [Jk9 (Jx5 (o := ⟨dst, .call ⟨.value fo, args, ts⟩, ty, pos, after, g⟩) rfl hf ha h.1) (by intro d hd; cases hd)]
 refine ⟨(fun h => by cases h), callsFW (h.2.mono ?_)⟩
 rintro x w' (⟨v, rfl, r⟩ | ⟨v, rfl, r⟩)
 ·exact k v w' r X R ds _ (hfit.put _ _ hd)
 ·exact ⟨v, rfl, hfit.defers, hE v w' r⟩
theorem Jb7 {dst : Option Tmp} {ty : TypeId} {pos : String} {after : Array Edge} {g : Option (Nat × Bool)} {l : List Oper} {f : FuncId} {args : Array Operand} {ts : Array TypeId} {vs : List Value} {R E : Value → World → Prop}
  (h : RetP P f vs w R E) (ha : args.toList.map (ev e) = vs) (hd : dOk n dst = true) (hm : may all G e g = some true) (hE : ∀ v w', E v w' → ro.pan v w')
  (k : ∀ v w', R v w' → Ops ro P n all G K l (put e dst v) w') : Ops ro P n all G K (⟨dst, .call ⟨.value (.func f), args, ts⟩, ty, pos, after, g⟩ :: l) e w :=
 Jh0 (first := #[]) (cap := #[]) h rfl (by simpa using ha) hd hm hE k
theorem ops_dies {o : Oper} {l : List Oper} {v : Value} {w' : World} (hm : may all G e o.guard = some true) (h : (execOp (ev e) o).run P w = .halt (.panic v) w') (hnd : ∀ c, o.op ≠ .defer c) (k : ro.pan v w') : Ops ro P n all G K (o :: l) e w := by
 intro X R ds a ha
 unfold wpListIn
 rw [if_pos (Jd0 ha hm)]
 unfold Oper.wpIn
 refine ⟨fun _ _ => trivial, ?_⟩
 have h' : (o.semAt ro.round (ev e)).run P w = .halt (.panic v) w' := by rw [Oper.semAt_eq ro.round (ev e) o hnd]; exact h
 rw [ha.eval]
 show o.uponIn _ _ _ _ _ _ ((o.semAt ro.round (ev e)).run P w)
 rw [h']
 exact ⟨v, rfl, ha.defers, k⟩
theorem enterP {f : FuncId} {fn : Func} {c : Code} {vs : List Value} {R E : Value → World → Prop} (hE : Jl8 P f) (hf : P.funcs[f]? = some fn) (hb : fn.body = some c) (hn : fn.ntmps = n) {rs : List ResultVar} (hr : fn.results = ⟨rs⟩)
  (hl : Nat.ble vs.length n = true) (h : Wp ⟨none, E⟩ P n c (fun e w => ∃ v, Qj8 e rs = some v ∧ R v w) [] (fun e w => ∃ v, Qj8 e rs = some v ∧ R v w) (nth vs) w) : RetP P f vs w R E := by
 refine ⟨hE, Qe1 (callsIn_of_wp (n := 0) hf hb trivial ?_)⟩
 rw [hn]
 refine wpIn_mono (h [] _ (Jp5 vs n (Nat.le_of_ble_eq_true hl))) ?_
 intro x a w hq
 cases x with
 | normal => obtain ⟨e, hfit, v, hv, hR⟩ := hq; exact ⟨hfit.defers, v, Jf3 hr hfit hv, .inl ⟨v, rfl, hR⟩⟩
 | ret => obtain ⟨e, hfit, v, hv, hR⟩ := hq; exact ⟨hfit.defers, v, Jf3 hr hfit hv, .inl ⟨v, rfl, hR⟩⟩
 | exit id => obtain ⟨J, e, hJ, _⟩ := hq; cases hJ
 | goto l => exact hq.elim
 | panic c => obtain ⟨v, rfl, hd, hp⟩ := hq; exact ⟨hd, .inr ⟨v, rfl, hp⟩⟩
 | outgrown => exact hq.elim
theorem Zp {f : FuncId} {fn : Func} {c : Code} {vs : List Value} {R E : Value → World → Prop} {rs : List ResultVar} (hE : Jl8 P f) (hf : P.funcs[f]? = some fn) (h : Wp ⟨none, E⟩ P n c (fun e w => ∃ v, Qj8 e rs = some v ∧ R v w) [] (fun e w => ∃ v, Qj8 e rs = some v ∧ R v w) (nth vs) w) (hb : fn.body = some c := by exact rfl) (hn : fn.ntmps = n := by exact rfl) (hr : fn.results = ⟨rs⟩ := by exact rfl) (hl : Nat.ble vs.length n = true := by exact rfl) : RetP P f vs w R E := enterP hE hf hb hn hr hl h
section
variable {dst : Option Tmp} {ty : TypeId} {pos : String} {after : Array Edge} {g : Option (Nat × Bool)} {l : List Oper} {t : TypeId} {x : Operand}
def ifaceD : TypeDesc → Bool
 | .interface _ => true
 | _ => false
theorem o_iface {d : TypeDesc} {v : Value} (hx : ev e x = v) (hu : P.underlying t = some d) (hi : ifaceD d = false) (hd : dOk n dst = true) (hm : may all G e g = some true)
  (k : Ops ro P n all G K l (put e dst (.iface t v)) w) : Ops ro P n all G K (⟨dst, .makeInterface t x, ty, pos, after, g⟩ :: l) e w := by
 refine Jb5 hd hm ?_ k
 simp only [execOp, Sem.run_bind, hx, Instr.makeInterface, run_underlying hu, Result.andThen_ok]
 cases d <;> first | rfl | simp [ifaceD] at hi
theorem Qj4 {d : TypeDesc} {v : Value} {xt t' : TypeId} (hx : ev e x = .iface t' v) (ht : t' = t) (hu : P.underlying t = some d) (hi : ifaceD d = false) (hd : dOk n dst = true) (hm : may all G e g = some true)
  (k : Ops ro P n all G K l (put e dst (.tuple #[v, .bool true])) w) : Ops ro P n all G K (⟨dst, .typeAssert x xt t true, ty, pos, after, g⟩ :: l) e w := by
 subst ht
 refine Jb5 hd hm ?_ k
 simp only [execOp, Sem.run_bind, hx, Instr.typeAssert, run_underlying hu, Result.andThen_ok]
 cases d <;> first | (simp [ifaceD] at hi; done) | simp [Sem.run_bind]
theorem o_panic {t' : TypeId} {v : Value} (hx : ev e x = .iface t' v) (hm : may all G e g = some true) (k : ro.pan (.iface t' v) w) : Ops ro P n all G K (⟨dst, .panic x, ty, pos, after, g⟩ :: l) e w := by
 refine ops_dies (v := .iface t' v) hm ?_ (by intro c hc; cases hc) k
 simp only [execOp, Sem.run_bind, hx]
 rfl
end
end Go.Vc

