/- Results that lie in memory; map rules for drawn regions. -/
import Derived.Test.YtkgngbpkiklckaaGreatDoorQClQRaces8
import Derived.Laws.MakeOwn
import Derived.Test.YtkgngbpkiklckaaGreatDoorQClQRaces4
namespace Go.Vc
open Go
variable {P : Program} {n : Nat} {a : Act} {e : Env} {w : World} {K : EPost} {X : List (Nat × EPost)} {R : EPost} {all : List Oper} {G : List Nat} {ro : Ro} {Fl : World → Prop}
/-- what a function's results read as, some of them out of memory -/
def resC (P : Program) (e : Env) (w : World) : List ResultVar → List Value → Prop
  | [], [] => True
  | .tmp t :: r, v :: vs => (∃ c, same (e t) = some (c, v)) ∧ resC P e w r vs
  | .cell a t :: r, v :: vs => (∃ ad, e a = .pointer (some ad) ∧ (loadVar t ad).run P w = .ok v w) ∧ resC P e w r vs
  | _, _ => False
def tupV : List Value → Value
  | [v] => v
  | vs => .tuple ⟨vs⟩
theorem resC_run {a : Act} {ds : List Deferred} (hf : Fit n ds a e) {F : ResultVar → Sem Value} (F1 : ∀ t, F (.tmp t) = pure (a.tmps.getD t undef)) (F2 : ∀ b t, F (.cell b t) = do loadVar t (← asAddr (a.tmps.getD b undef))) : ∀ (rs : List ResultVar) (vs : List Value), resC P e w rs vs →
    (rs.mapM F).run P w = .ok vs w
  | [], [], _ => rfl
  | [], _ :: _, h => by simp [resC] at h
  | .tmp t :: r, [], h => by simp [resC] at h
  | .cell b t :: r, [], h => by simp [resC] at h
  | .tmp t :: r, v :: vs, h => by
    obtain ⟨⟨c, h1⟩, h2⟩ := h
    have ih := resC_run hf F1 F2 r vs h2
    have h0 : (F (.tmp t)).run P w = .ok v w := by rw [F1, hf.get, same_eq h1]; rfl
    rw [List.mapM_cons, Sem.run_bind, h0]
    simp only [Result.andThen_ok, Sem.run_bind, ih, Sem.run_pure]
  | .cell b t :: r, v :: vs, h => by
    obtain ⟨⟨ad, h1, h3⟩, h2⟩ := h
    have ih := resC_run hf F1 F2 r vs h2
    have h0 : (F (.cell b t)).run P w = .ok v w := by rw [F2, hf.get, h1]; simpa [asAddr] using h3
    rw [List.mapM_cons, Sem.run_bind, h0]
    simp only [Result.andThen_ok, Sem.run_bind, ih, Sem.run_pure]
theorem mapM_arr {F : ResultVar → Sem Value} {rs : List ResultVar} {vs : List Value} (h : (rs.mapM F).run P w = .ok vs w) : ((⟨rs⟩ : Array ResultVar).mapM F).run P w = .ok ⟨vs⟩ w := by
  have e1 : (⟨rs⟩ : Array ResultVar).mapM F = List.toArray <$> rs.mapM F := List.mapM_toArray
  rw [e1, map_eq_pure_bind, Sem.run_bind, h]; rfl
theorem results_resC {fn : Func} {a : Act} {ds : List Deferred} {rs : List ResultVar} {vs : List Value} (hr : fn.results = ⟨rs⟩) (hf : Fit n ds a e) (h : resC P e w rs vs) : (results fn a.tmps).run P w = .ok (tupV vs) w := by
  simp only [results, hr]
  rw [Sem.run_bind, mapM_arr (resC_run hf (fun _ => rfl) (fun _ _ => rfl) rs vs h)]
  match vs with
  | [] => rfl
  | [v] => rfl
  | v :: u :: r => rfl
theorem enterC {f : FuncId} {fn : Func} {c : Code} {vs : List Value} {R : Value → World → Prop} (hE : Enters P f) (hf : P.funcs[f]? = some fn) (hb : fn.body = some c) (hn : fn.ntmps = n) {rs : List ResultVar} (hr : fn.results = ⟨rs⟩)
    (hl : Nat.ble vs.length n = true) (h : Wp Ro.no P n c (fun e w => ∃ us, resC P e w rs us ∧ R (tupV us) w) [] (fun e w => ∃ us, resC P e w rs us ∧ R (tupV us) w) (nth vs) w) : Ret P f vs w R := by
  refine ⟨hE, callsFW' (callsIn_of_wp (n := 0) hf hb trivial ?_)⟩
  rw [hn]
  refine wpIn_mono (h [] _ (fit_enter vs n (Nat.le_of_ble_eq_true hl))) ?_
  intro x a w hq
  cases x with
  | normal => obtain ⟨e, hfit, us, hv, hR⟩ := hq; exact ⟨hfit.defers, _, results_resC hr hfit hv, _, rfl, hR⟩
  | ret => obtain ⟨e, hfit, us, hv, hR⟩ := hq; exact ⟨hfit.defers, _, results_resC hr hfit hv, _, rfl, hR⟩
  | exit id => obtain ⟨J, e, hJ, _⟩ := hq; cases hJ
  | goto l => exact hq.elim
  | panic c => obtain ⟨v, _, _, h⟩ := hq; exact h.elim
  | outgrown => exact hq.elim
theorem run_loadA {t : TypeId} {d : TypeDesc} {i : TypeInfo} {b off : Nat} {vs : List Value} (hu : P.underlying t = some d) (ha : aggD d = true) (hi : P.info? t = some i) (hs : i.size = vs.length) (hc : ∀ j v, vs[j]? = some v → w.cell? ⟨b, off + j, none⟩ = some v) :
    (loadVar t ⟨b, off, none⟩).run P w = .ok (.agg ⟨vs⟩) w := by
  have hl := run_loadCells (P := P) (w := w) (ad := ⟨b, off, none⟩) vs 0 #[] (fun j v hv => by rw [addr_lit, Nat.zero_add]; exact hc j v hv)
  simp [loadVar, isAgg_run' hu ha, loadCells, sizeOf, typeInfo, hi, hs, hl]
/-- a block of the very cells -/
theorem run_loadB {t : TypeId} {d : TypeDesc} {i : TypeInfo} {b : Nat} {vs : List Value} {T : TypeId} (hb : Blk w b vs T) (hu : P.underlying t = some d) (ha : aggD d = true) (hi : P.info? t = some i) (hs : i.size = vs.length) :
    (loadVar t ⟨b, 0, none⟩).run P w = .ok (.agg ⟨vs⟩) w := run_loadA hu ha hi hs (fun j v hv => by rw [Nat.zero_add]; exact hb.cell hv)
section
variable {dst : Option Tmp} {ty : TypeId} {pos : String} {after : Array Edge} {g : Option (Nat × Bool)} {l : List Oper} {t : TypeId} {x y : Operand}
theorem q_lookI2 {C : World → Prop} {K : Env → Prop} {kt et : TypeId} {z : Value} {i : TypeInfo} {m : Nat} {k : Int} {f : Int → Option Value} (u : Value) (hx : ev e x = .map (some m)) (hy : ev e y = I k) (hb : ∀ w, C w → MapI w m f) (hf : lookV z (f k) = u)
    (hu : P.underlying t = some (.map kt et)) (hk : P.underlying kt = some (.int .i64)) (hi : P.info? et = some i) (hz : i.zero = some z) (hd : dOk n dst = true) (hm : may all G e g = some true)
    (q : QOps P n all G C K l (put e dst u)) : QOps P n all G C K (⟨dst, .lookup t x y true, ty, pos, after, g⟩ :: l) e :=
  qops_does hd hm (fun w hw => by rw [← hf]; exact exec_lookup2 hx hy (hb w hw) hu hk hi hz) q
theorem x_lookI {r : List (Nat × Bool)} {j : Nat} {kt et : TypeId} {z : Value} {i : TypeInfo} {m : Nat} {k : Int} {f : Int → Option Value} (u : Value) (ho : nthO all j = some ⟨dst, .lookup t x y false, ty, pos, after, g⟩) (hx : ev e x = .map (some m)) (hy : ev e y = I k) (hb : ∀ w, Fl w → MapI w m f) (hf : (f k).getD z = u)
    (hu : P.underlying t = some (.map kt et)) (hk : P.underlying kt = some (.int .i64)) (hi : P.info? et = some i) (hz : i.zero = some z) (hd : dOk n dst = true) (hm : may all G e g = some true)
    (q : MOps ro P n all G Fl K r (put e dst u) w) : MOps ro P n all G Fl K ((j, false) :: r) e w :=
  x_does ho hd hm (fun w hw => by rw [← hf]; exact exec_lookup1 hx hy (hb w hw) hu hk hi hz) q
/-- an empty map -/
theorem o_makeMapI (hd : dOk n dst = true) (hm : may all G e g = some true)
    (k : ∀ b w', b = w.heap.size → Kp [] w w' → w'.heap.size = w.heap.size + 1 → MapI w' b (fun _ => none) → Ops ro P n all G K l (put e dst (.map (some b))) w') : Ops ro P n all G K (⟨dst, .makeMap t none, ty, pos, after, g⟩ :: l) e w := by
  refine ops_does (v := .map (some w.heap.size)) (w' := w.alloc (.map #[] 0)) hd hm ?_ (k _ _ rfl ((upd_alloc w _).kp [] (.inr (Nat.le_refl _))) ?_ ⟨#[], 0, (upd_alloc w _).at_, MapFn.nil⟩)
  · have hr : (Instr.makeMap t none).run P w = .ok (.map (some w.heap.size)) (w.alloc (.map #[] 0)) := rfl
    simp only [execOp, Sem.run_bind, Option.map_none, hr, Result.andThen_ok, Sem.run_pure]
  · have h1 := (upd_alloc w (.map #[] 0)).lt
    have h2 := (upd_alloc w (.map #[] 0)).size'
    omega
/-- an entry of a map's literal -/
theorem o_insertI {kt et : TypeId} {m : Nat} {k : Int} {v : Value} {z : Operand} {f : Int → Option Value} {c2 : Option Prop} (hx : ev e x = .map (some m)) (hy : ev e y = I k) (hv : same (ev e z) = some (c2, v)) (hb : MapI w m f)
    (hu : P.underlying t = some (.map kt et)) (hk : P.underlying kt = some (.int .i64)) (hd : dOk n dst = true) (hm : may all G e g = some true)
    (q : ∀ w', MUpd w m (upF f k (some v)) w' → Ops ro P n all G K l (put e dst undef) w') : Ops ro P n all G K (⟨dst, .insert t x y z, ty, pos, after, g⟩ :: l) e w := by
  obtain ⟨w', hr, hw'⟩ := mapSet_run (P := P) (v := v) hb hk (t := t) (k := k) hu
  refine ops_skips (w' := w') hd hm ?_ (q _ hw')
  simp only [execOp, hx, hy, ← same_eq hv, Sem.run_bind, hr, Result.andThen_ok, Sem.run_pure]
theorem x_build {r : List (Nat × Bool)} {j : Nat} {zc : Value} {fs : Array Field} {places : List (Nat × Nat)} {parts : Array (Nat × Operand)} (cs : List Value) (ho : nthO all j = some ⟨dst, .build t parts, ty, pos, after, g⟩) (hu : P.underlying t = some (.struct fs)) {i : TypeInfo} (hi : P.info? t = some i) (hz : i.zero = some zc)
    (hp : fs.toList.mapM (fun f => (P.info? f.type).map fun i => (f.offset, i.size)) = some places)
    (hf : Instr.fill (fun j => nthO places j) zc.cells (parts.toList.map fun (j, x) => (j, ev e x)) = some ⟨cs⟩) (hd : dOk n dst = true) (hm : may all G e g = some true)
    (k : MOps ro P n all G Fl K r (put e dst (.agg ⟨cs⟩)) w) : MOps ro P n all G Fl K ((j, false) :: r) e w :=
  x_does ho hd hm (fun w hw => exec_build cs hu hi hz hp hf) k
theorem q_build {C : World → Prop} {K : Env → Prop} {zc : Value} {fs : Array Field} {places : List (Nat × Nat)} {parts : Array (Nat × Operand)} (cs : List Value) (hu : P.underlying t = some (.struct fs)) {i : TypeInfo} (hi : P.info? t = some i) (hz : i.zero = some zc)
    (hp : fs.toList.mapM (fun f => (P.info? f.type).map fun i => (f.offset, i.size)) = some places)
    (hf : Instr.fill (fun j => nthO places j) zc.cells (parts.toList.map fun (j, x) => (j, ev e x)) = some ⟨cs⟩) (hd : dOk n dst = true) (hm : may all G e g = some true)
    (k : QOps P n all G C K l (put e dst (.agg ⟨cs⟩))) : QOps P n all G C K (⟨dst, .build t parts, ty, pos, after, g⟩ :: l) e :=
  qops_does hd hm (fun w hw => exec_build cs hu hi hz hp hf) k
theorem flat_rep_get : ∀ (n : Nat) (zc : List Value) (i : Nat), i < n * zc.length → ((List.replicate n zc).flatten)[i]? = zc[i % zc.length]?
  | 0, zc, i, h => by omega
  | n + 1, zc, i, h => by
    rw [List.replicate_succ, List.flatten_cons]
    by_cases hi : i < zc.length
    · rw [List.getElem?_append_left hi, Nat.mod_eq_of_lt hi]
    · rw [List.getElem?_append_right (by omega), flat_rep_get n zc (i - zc.length) (by rw [Nat.succ_mul] at h; omega), ← Nat.mod_eq_sub_mod (by omega)]
theorem madeCells_flat (z : Array Value) (n : Nat) : madeCells z (n * z.size) = ⟨(List.replicate n z.toList).flatten⟩ := by
  apply Array.ext'
  apply List.ext_getElem?
  intro i
  by_cases hi : i < n * z.size
  · have h1 : i < n * z.toList.length := by simpa using hi
    rw [flat_rep_get n z.toList i h1]
    have hz : 0 < z.size := by
      rcases Nat.eq_zero_or_pos z.size with h | h
      · rw [h] at hi; omega
      · exact h
    have hm : i % z.size < z.size := Nat.mod_lt _ hz
    simp only [madeCells, Array.toList_map, Array.toList_range, List.getElem?_map, List.getElem?_range hi, Option.map_some, Array.length_toList]
    rw [getElem!_pos z (i % z.size) hm, Array.getElem?_toList, Array.getElem?_eq_getElem hm]
  · rw [List.getElem?_eq_none (by simp [madeCells]; omega), List.getElem?_eq_none (by simp; omega)]
/-- make of a slice whose elements take several cells -/
theorem o_makeN {T : TypeId} {z : Value} {td : TypeDesc} {tn : String} {sz tby : Nat} {thp : Bool} {tal tfa : Nat} {tcm : Bool} {tms : Array Method} {kl kc : IntKind} {len cap : Int} (hl : ev e x = .int kl len) (hc : ev e y = .int kc cap) (hu : P.underlying t = some (.slice T)) (hi : P.info? T = some ⟨td, tn, sz, tby, thp, tal, tfa, some z, tcm, tms⟩) (hzc : z.cells.size = sz)
    (h0 : 0 ≤ len) (hlc : len ≤ cap) (hby : (tby : Int) * cap ≤ 281474976710656) (h63 : cap ≤ 9223372036854775807) (hd : dOk n dst = true) (hm : may all G e g = some true)
    (k : ∀ b w', b = w.heap.size → Upd w b (.cells ⟨(List.replicate cap.toNat z.cells.toList).flatten⟩ T (0, 0)) w' → Ops ro P n all G K l (put e dst (.slice (some ⟨b, 0, none⟩) len.toNat cap.toNat)) w') : Ops ro P n all G K (⟨dst, .makeSlice t x y, ty, pos, after, g⟩ :: l) e w := by
  refine ops_does (v := .slice (some ⟨w.heap.size, 0, none⟩) len.toNat cap.toNat) (w' := w.alloc (.cells (madeCells z.cells (cap.toNat * sz)) T)) hd hm ?_ (k _ _ rfl ?_)
  · have := run_make (P := P) w t T _ z hu hi rfl kl kc len cap h0 hlc hby h63
    simp only [execOp, Sem.run_bind, hl, hc, this, Result.andThen_ok, Sem.run_pure]
  · rw [← hzc, madeCells_flat]
    exact upd_alloc w _
/-- a slice literal, its cells reckoned -/
theorem o_buildSliceN {T : TypeId} {z : Value} {i : TypeInfo} {len : Nat} {parts : Array (Nat × Operand)} (cs : List Value) (hu : P.underlying t = some (.slice T)) (hi : P.info? T = some i) (hz : i.zero = some z)
    (hf : Instr.fill (fun j => some (j * i.size, i.size)) ((Array.range (len * i.size)).map (z.cells[· % z.cells.size]!)) (parts.toList.map fun (j, x) => (j, ev e x)) = some ⟨cs⟩) (h1 : Nat.ble (len * i.size) 16777216 = true) (h0 : Nat.blt 0 (len * i.size) = true) (hd : dOk n dst = true) (hm : may all G e g = some true)
    (k : ∀ b w', b = w.heap.size → Upd w b (.cells ⟨cs⟩ T (0, 0)) w' → Ops ro P n all G K l (put e dst (.slice (some ⟨b, 0, none⟩) len len)) w') : Ops ro P n all G K (⟨dst, .buildSlice t len parts, ty, pos, after, g⟩ :: l) e w := by
  refine ops_does (v := .slice (some ⟨w.heap.size, 0, none⟩) len len) (w' := w.alloc (.cells ⟨cs⟩ T)) hd hm ?_ (k _ _ rfl (upd_alloc w _))
  have h3 : ¬ (len * i.size > 2 ^ 24) := by have := Nat.le_of_ble_eq_true h1; omega
  have h2 : ¬ (len * i.size = 0) := by have : 0 < len * i.size := by simpa [Nat.blt_eq] using h0
                                       omega
  have hm2 : (Array.map (fun x : Nat × Operand => (x.fst, ev e x.snd)) parts).toList = parts.toList.map fun (j, x) => (j, ev e x) := by simp
  simp only [execOp, Sem.run_bind, Instr.buildSlice, run_underlying hu, Result.andThen_ok, sizeOf, typeInfo, run_program, hi, Sem.run_pure, if_neg h3, if_neg h2, zeroValue, hz, hm2, hf, newRow, run_newObj]
  rfl
end
end Go.Vc
/- Functions that may panic: contracts of both ways out. -/
namespace Go.Vc
open Go
variable {P : Program} {n : Nat} {e : Env} {w : World} {K : EPost} {X : List (Nat × EPost)} {R : EPost} {all : List Oper} {G : List Nat} {ro : Ro}
/-- a call returns or panics, and of what it hands out and leaves this is known -/
def RetP (P : Program) (f : FuncId) (vs : List Value) (w : World) (R E : Value → World → Prop) : Prop :=
  Enters P f ∧ Calls P f ⟨vs⟩ w (fun x w' => (∃ v, x = .returned v ∧ R v w') ∨ ∃ v, x = .panicked [{ v, recovered := false }] ∧ E v w')
theorem RetP.mono {f : FuncId} {vs : List Value} {R R' E E' : Value → World → Prop} (h : RetP P f vs w R E) (hr : ∀ v w', R v w' → R' v w') (he : ∀ v w', E v w' → E' v w') : RetP P f vs w R' E' :=
  ⟨h.1, h.2.mono fun _ _ hx => hx.elim (fun ⟨v, hv, r⟩ => .inl ⟨v, hv, hr _ _ r⟩) (fun ⟨v, hv, r⟩ => .inr ⟨v, hv, he _ _ r⟩)⟩
theorem Ret.p {f : FuncId} {vs : List Value} {R E : Value → World → Prop} (h : Ret P f vs w R) : RetP P f vs w R E :=
  ⟨h.1, h.2.mono fun _ _ ⟨v, hv, r⟩ => .inl ⟨v, hv, r⟩⟩
theorem RetP.ret {f : FuncId} {vs : List Value} {R E : Value → World → Prop} (h : RetP P f vs w R E) (hE : ∀ v w', ¬ E v w') : Ret P f vs w R :=
  ⟨h.1, h.2.mono fun _ _ hx => hx.elim id (fun ⟨v, _, r⟩ => (hE _ _ r).elim)⟩
theorem o_callvP {dst : Option Tmp} {ty : TypeId} {pos : String} {after : Array Edge} {g : Option (Nat × Bool)} {l : List Oper} {f : FuncId} {first cap : Array Value} {fo : Operand} {args : Array Operand} {ts : Array TypeId} {vs : List Value} {R E : Value → World → Prop}
    (h : RetP P f vs w R E) (hf : ev e fo = .func (.func f) first cap) (ha : first.toList ++ args.toList.map (ev e) ++ cap.toList = vs) (hd : dOk n dst = true) (hm : may all G e g = some true) (hE : ∀ v w', E v w' → ro.pan v w')
    (k : ∀ v w', R v w' → Ops ro P n all G K l (put e dst v) w') : Ops ro P n all G K (⟨dst, .call ⟨.value fo, args, ts⟩, ty, pos, after, g⟩ :: l) e w := by
  intro X R ds a hfit
  unfold wpListIn
  rw [if_pos (may_wanted (o := ⟨dst, .call ⟨.value fo, args, ts⟩, ty, pos, after, g⟩) hfit hm)]
  unfold Oper.wpIn
  refine ⟨fun _ _ => trivial, ?_⟩
  rw [hfit.eval]
  show Oper.uponIn _ _ _ _ _ _ _ ((Oper.semAt ro.round (ev e) ⟨dst, .call ⟨.value fo, args, ts⟩, ty, pos, after, g⟩).run P w)
  rw [semAt_ok (exec_call (o := ⟨dst, .call ⟨.value fo, args, ts⟩, ty, pos, after, g⟩) rfl hf ha h.1) (by intro d hd; cases hd)]
  refine ⟨(fun h => by cases h), callsFW (h.2.mono ?_)⟩
  rintro x w' (⟨v, rfl, r⟩ | ⟨v, rfl, r⟩)
  · exact k v w' r X R ds _ (hfit.put _ _ hd)
  · exact ⟨v, rfl, hfit.defers, hE v w' r⟩
/-- a call of a function by its name, which may panic -/
theorem o_callP {dst : Option Tmp} {ty : TypeId} {pos : String} {after : Array Edge} {g : Option (Nat × Bool)} {l : List Oper} {f : FuncId} {args : Array Operand} {ts : Array TypeId} {vs : List Value} {R E : Value → World → Prop}
    (h : RetP P f vs w R E) (ha : args.toList.map (ev e) = vs) (hd : dOk n dst = true) (hm : may all G e g = some true) (hE : ∀ v w', E v w' → ro.pan v w')
    (k : ∀ v w', R v w' → Ops ro P n all G K l (put e dst v) w') : Ops ro P n all G K (⟨dst, .call ⟨.value (.func f), args, ts⟩, ty, pos, after, g⟩ :: l) e w :=
  o_callvP (first := #[]) (cap := #[]) h rfl (by simpa using ha) hd hm hE k
/-- an operation that panics -/
theorem ops_dies {o : Oper} {l : List Oper} {v : Value} {w' : World} (hm : may all G e o.guard = some true) (h : (execOp (ev e) o).run P w = .halt (.panic v) w') (hnd : ∀ c, o.op ≠ .defer c) (k : ro.pan v w') : Ops ro P n all G K (o :: l) e w := by
  intro X R ds a ha
  unfold wpListIn
  rw [if_pos (may_wanted ha hm)]
  unfold Oper.wpIn
  refine ⟨fun _ _ => trivial, ?_⟩
  have h' : (o.semAt ro.round (ev e)).run P w = .halt (.panic v) w' := by rw [Oper.semAt_eq ro.round (ev e) o hnd]; exact h
  rw [ha.eval]
  show o.uponIn _ _ _ _ _ _ ((o.semAt ro.round (ev e)).run P w)
  rw [h']
  exact ⟨v, rfl, ha.defers, k⟩
theorem enterP {f : FuncId} {fn : Func} {c : Code} {vs : List Value} {R E : Value → World → Prop} (hE : Enters P f) (hf : P.funcs[f]? = some fn) (hb : fn.body = some c) (hn : fn.ntmps = n) {rs : List ResultVar} (hr : fn.results = ⟨rs⟩)
    (hl : Nat.ble vs.length n = true) (h : Wp ⟨none, E⟩ P n c (fun e w => ∃ v, resOf e rs = some v ∧ R v w) [] (fun e w => ∃ v, resOf e rs = some v ∧ R v w) (nth vs) w) : RetP P f vs w R E := by
  refine ⟨hE, callsFW' (callsIn_of_wp (n := 0) hf hb trivial ?_)⟩
  rw [hn]
  refine wpIn_mono (h [] _ (fit_enter vs n (Nat.le_of_ble_eq_true hl))) ?_
  intro x a w hq
  cases x with
  | normal => obtain ⟨e, hfit, v, hv, hR⟩ := hq; exact ⟨hfit.defers, v, results_resOf hr hfit hv, .inl ⟨v, rfl, hR⟩⟩
  | ret => obtain ⟨e, hfit, v, hv, hR⟩ := hq; exact ⟨hfit.defers, v, results_resOf hr hfit hv, .inl ⟨v, rfl, hR⟩⟩
  | exit id => obtain ⟨J, e, hJ, _⟩ := hq; cases hJ
  | goto l => exact hq.elim
  | panic c => obtain ⟨v, rfl, hd, hp⟩ := hq; exact ⟨hd, .inr ⟨v, rfl, hp⟩⟩
  | outgrown => exact hq.elim
section
variable {dst : Option Tmp} {ty : TypeId} {pos : String} {after : Array Edge} {g : Option (Nat × Bool)} {l : List Oper} {t : TypeId} {x : Operand}
def ifaceD : TypeDesc → Bool
  | .interface _ => true
  | _ => false
/-- a value of a type of its own as an interface's -/
theorem o_iface {d : TypeDesc} {v : Value} (hx : ev e x = v) (hu : P.underlying t = some d) (hi : ifaceD d = false) (hd : dOk n dst = true) (hm : may all G e g = some true)
    (k : Ops ro P n all G K l (put e dst (.iface t v)) w) : Ops ro P n all G K (⟨dst, .makeInterface t x, ty, pos, after, g⟩ :: l) e w := by
  refine ops_does hd hm ?_ k
  simp only [execOp, Sem.run_bind, hx, Instr.makeInterface, run_underlying hu, Result.andThen_ok]
  cases d <;> first | rfl | simp [ifaceD] at hi
/-- an interface's value asked for a type, of which it is or is not -/
theorem o_assertYes {d : TypeDesc} {v : Value} {xt t' : TypeId} (hx : ev e x = .iface t' v) (ht : t' = t) (hu : P.underlying t = some d) (hi : ifaceD d = false) (hd : dOk n dst = true) (hm : may all G e g = some true)
    (k : Ops ro P n all G K l (put e dst (.tuple #[v, .bool true])) w) : Ops ro P n all G K (⟨dst, .typeAssert x xt t true, ty, pos, after, g⟩ :: l) e w := by
  subst ht
  refine ops_does hd hm ?_ k
  simp only [execOp, Sem.run_bind, hx, Instr.typeAssert, run_underlying hu, Result.andThen_ok]
  cases d <;> first | (simp [ifaceD] at hi; done) | simp [Sem.run_bind]
/-- the text's own panic -/
theorem o_panic {t' : TypeId} {v : Value} (hx : ev e x = .iface t' v) (hm : may all G e g = some true) (k : ro.pan (.iface t' v) w) : Ops ro P n all G K (⟨dst, .panic x, ty, pos, after, g⟩ :: l) e w := by
  refine ops_dies (v := .iface t' v) hm ?_ (by intro c hc; cases hc) k
  simp only [execOp, Sem.run_bind, hx]
  rfl
end
end Go.Vc
/- Query: tokens, trees and how they are read, in plain Lean (no program in sight). -/
namespace Go.Vc
/-- a tree of a question -/
inductive QT where
  | n0 (op num : Int) (name : List UInt8)
  | n1 (op num : Int) (name : List UInt8) (a : QT)
  | n2 (op num : Int) (name : List UInt8) (a b : QT)
  deriving DecidableEq
def QT.size : QT → Nat
  | .n0 .. => 1
  | .n1 _ _ _ a => 1 + a.size
  | .n2 _ _ _ a b => 1 + a.size + b.size
def QT.op : QT → Int
  | .n0 o .. => o
  | .n1 o .. => o
  | .n2 o .. => o
def QT.depth : QT → Nat
  | .n0 .. => 0
  | .n1 _ _ _ a => 1 + a.depth
  | .n2 _ _ _ a b => 1 + max a.depth b.depth
/-- a node in a row -/
structure QN where
  op : Int
  size : Int
  num : Int
  name : List UInt8
  deriving DecidableEq
def QT.rows : QT → List QN
  | .n0 o m s => [⟨o, 1, m, s⟩]
  | .n1 o m s a => ⟨o, 1 + a.size, m, s⟩ :: a.rows
  | .n2 o m s a b => ⟨o, 1 + a.size + b.size, m, s⟩ :: (a.rows ++ b.rows)
theorem QT.rows_len : ∀ t : QT, t.rows.length = t.size
  | .n0 .. => rfl
  | .n1 _ _ _ a => by simp [QT.rows, QT.size, a.rows_len]; omega
  | .n2 _ _ _ a b => by simp [QT.rows, QT.size, a.rows_len, b.rows_len]; omega
theorem QT.size_pos (t : QT) : 1 ≤ t.size := by cases t <;> simp [QT.size] <;> omega

/-! ### Tokens -/
structure Tok where
  text : List UInt8
  num : Int
  at_ : Nat
  deriving DecidableEq
/-- what is left, token by token -/
inductive TS where
  | stop (at_ : Nat)
  | bad (at_ : Nat)
  | tok (t : Tok) (rest : TS)
  deriving DecidableEq
def TS.len : TS → Nat
  | .stop _ => 0
  | .bad _ => 0
  | .tok _ r => r.len + 1
def TS.pos : TS → Nat
  | .stop i => i
  | .bad i => i
  | .tok t _ => t.at_
def letterB (c : UInt8) : Bool := decide (97 ≤ c) && decide (c ≤ 122)
def digitB (c : UInt8) : Bool := decide (48 ≤ c) && decide (c ≤ 57)
def blankB (c : UInt8) : Bool := decide (c = 32) || decide (c = 9) || decide (c = 10) || decide (c = 13)
/-- a number's digits, on and on; none: it is too great -/
def numAcc : Nat → List UInt8 → Option Nat
  | n, [] => some n
  | n, c :: r => if n ≤ (9223372036854775807 - (c.toNat - 48)) / 10 then numAcc (10 * n + (c.toNat - 48)) r else none
/-- how many bytes a mark takes; 0: none begins there -/
def markLen : List UInt8 → Nat
  | [] => 0
  | c :: r =>
    if c = 33 then (if r.head? = some 61 then 2 else 0)
    else if c = 60 ∨ c = 62 then (if r.head? = some 61 then 2 else 1)
    else if c = 40 ∨ c = 41 ∨ c = 44 ∨ c = 58 ∨ c = 43 ∨ c = 45 ∨ c = 42 ∨ c = 61 then 1
    else 0
/-- the token that stands at the head of what is left, blanks gone: it, and how many bytes it takes; none: a byte that begins none -/
def tok1 (i : Nat) : List UInt8 → Option Tok
  | [] => some ⟨[], -1, i⟩
  | c :: r =>
    if letterB c then some ⟨c :: r.takeWhile (fun c => letterB c || digitB c), -1, i⟩
    else if digitB c then (numAcc 0 (c :: r.takeWhile digitB)).map fun (n : Nat) => (⟨c :: r.takeWhile digitB, (n : Int), i⟩ : Tok)
    else if markLen (c :: r) = 0 then none
    else some ⟨(c :: r).take (markLen (c :: r)), -1, i⟩
def skipB (l : List UInt8) : Nat := (l.takeWhile blankB).length
/-- the tokens of a text from a place on -/
def lexF : Nat → Nat → List UInt8 → TS
  | 0, i, _ => .stop i
  | f + 1, i, l =>
    match l.drop (skipB l) with
    | [] => .stop (i + skipB l)
    | c :: r =>
      match tok1 (i + skipB l) (c :: r) with
      | none => .bad (i + skipB l)
      | some t => .tok t (lexF f (i + skipB l + t.text.length) ((c :: r).drop t.text.length))
/-- the tokens of a text from the place i on -/
def lex (txt : List UInt8) (i : Nat) : TS := lexF (txt.length + 1 - i) i (txt.drop i)

/-! ### Words -/
/-- the operations' words, from 0 on -/
def opWord : Nat → List UInt8
  | 3 => [101, 118, 101, 110, 116, 115]
  | 4 => [45]
  | 5 => [43]
  | 6 => [45]
  | 7 => [42]
  | 8 => [116, 104, 114, 101, 97, 100]
  | 9 => [107, 105, 110, 100]
  | 10 => [111, 98, 106]
  | 11 => [60]
  | 12 => [60, 61]
  | 13 => [61]
  | 14 => [33, 61]
  | 15 => [62, 61]
  | 16 => [62]
  | 17 => [110, 111, 116]
  | 18 => [97, 110, 100]
  | 19 => [111, 114]
  | 20 => [98, 101, 102, 111, 114, 101]
  | 21 => [114, 97, 99, 101]
  | 22 => [97, 110, 121]
  | 23 => [97, 108, 108]
  | 24 => [99, 111, 117, 110, 116]
  | 25 => [108, 101, 97, 115, 116]
  | 26 => [109, 111, 115, 116]
  | _ => []
/-- the words of the kinds of events -/
def kindWords : List (List UInt8) := [[114, 101, 97, 100], [119, 114, 105, 116, 101], [108, 111, 111, 107], [115, 101, 116], [108, 111, 99, 107], [117, 110, 108, 111, 99, 107], [102, 111, 114, 107], [106, 111, 105, 110], [97, 114, 114, 105, 118, 101], [100, 101, 112, 97, 114, 116], [101, 120, 105, 116]]
/-- is this the word of the operation k, and of letters? -/
def opT (s : List UInt8) (k : Nat) : Bool := decide (opWord k = s) && !(Op.bytesLess s [97] || decide (s = [97]))
/-- the operation of a word of letters; 0: none's -/
def opOf (s : List UInt8) : Nat := ((List.range 27).find? (opT s)).getD 0
/-- is a text a name? -/
def qName (s : List UInt8) : Bool :=
  !s.isEmpty && decide (s.length ≤ 24) && decide (opOf s = 0) && !(kindWords.contains s) && (s.head?.map letterB).getD false && s.all fun c => letterB c || digitB c
/-- what an operation binds, what it is called with -/
def bindsO (op : Nat) : Bool := decide (22 ≤ op) && decide (op ≤ 26)
def callO (op : Nat) : Bool := decide (op = 8) || decide (op = 9) || decide (op = 10) || decide (op = 20) || decide (op = 21)
def kidsO (op : Nat) : Nat :=
  if op = 0 ∨ op = 1 ∨ op = 2 ∨ op = 3 then 0 else if op = 4 ∨ op = 8 ∨ op = 9 ∨ op = 10 ∨ op = 17 ∨ (22 ≤ op ∧ op ≤ 26) then 1 else if op ≤ 26 then 2 else 0

/-! ### How a question is read -/
abbrev PR := Except (Int × Int) (QT × TS)
/-- one token on -/
def adv : TS → Except (Int × Int) TS
  | .tok _ (.bad i) => .error (300, i)
  | .tok _ r => .ok r
  | s => .ok s
def TS.is (s : TS) (word : List UInt8) : Bool :=
  match s with
  | .tok t _ => decide (t.text = word) && decide (t.num < 0)
  | _ => false
def mustT (s : TS) (word : List UInt8) : Except (Int × Int) TS := if s.is word then adv s else .error (301, s.pos)
/-- what may stand between, by the level: 0 or, 1 and, 3 sums, 4 products -/
def rowOp (lvl : Nat) (s : TS) : Option Int :=
  match lvl with
  | 0 => if s.is (opWord 19) then some 19 else none
  | 1 => if s.is (opWord 18) then some 18 else none
  | 3 => if s.is (opWord 5) then some 5 else if s.is (opWord 6) then some 6 else none
  | _ => if s.is (opWord 7) then some 7 else none
def subLvl : Nat → Nat
  | 0 => 1
  | 1 => 2
  | 3 => 4
  | _ => 5
/-- the comparison that stands there -/
def cmpOp (s : TS) : Option Nat := ([11, 12, 13, 14, 15, 16] : List Nat).find? fun k => s.is (opWord k)
/-- the kind's number of a word -/
def kindOf (s : List UInt8) : Option Nat := (kindWords.findIdx? fun k => decide (k = s)).map (· + 1)
mutual
/-- a question (0), conjunction (1), simple (2), sum (3), term (4), factor (5) -/
def rd : Nat → Nat → TS → PR
  | 0, _, s => .error (0, s.pos)
  | n + 1, lvl, s =>
    match lvl with
    | 2 =>
      if s.is (opWord 17) then do
        let s ← adv s
        let (t, s) ← rd n 2 s
        .ok (.n1 17 0 [] t, s)
      else do
        let (t, s) ← rd n 3 s
        match cmpOp s with
        | some op => do
          let s ← adv s
          let (u, s) ← rd n 3 s
          .ok (.n2 op 0 [] t u, s)
        | none => .ok (t, s)
    | 0 | 1 | 3 | 4 => do
      let (t, s) ← rd n (subLvl lvl) s
      rw n lvl t s
    | _ =>
      match s with
      | .tok t _ =>
        if 0 ≤ t.num then do
          let s ← adv s
          .ok (.n0 1 t.num [], s)
        else if s.is (opWord 4) then do
          let s ← adv s
          let (u, s) ← rd n 5 s
          .ok (.n1 4 0 [] u, s)
        else if s.is [40] then do
          let s ← adv s
          let (u, s) ← rd n 0 s
          let s ← mustT s [41]
          .ok (u, s)
        else match kindOf t.text with
          | some k => do
            let s ← adv s
            .ok (.n0 1 k [], s)
          | none =>
            if opOf t.text ≠ 0 then wd n (opOf t.text) s
            else if qName t.text then do
              let s ← adv s
              .ok (.n0 2 0 t.text, s)
            else .error (301, t.at_)
      | s => .error (301, s.pos)
/-- what stands behind the first of a row -/
def rw : Nat → Nat → QT → TS → PR
  | 0, _, _, s => .error (0, s.pos)
  | n + 1, lvl, t, s =>
    match rowOp lvl s with
    | none => .ok (t, s)
    | some op => do
      let s ← adv s
      let (u, s) ← rd n (subLvl lvl) s
      rw n lvl (.n2 op 0 [] t u) s
/-- what begins with an operation's word -/
def wd : Nat → Nat → TS → PR
  | 0, _, s => .error (0, s.pos)
  | n + 1, op, s =>
    if op = 3 then do
      let s ← adv s
      .ok (.n0 3 0 [], s)
    else if bindsO op then do
      let s ← adv s
      match s with
      | .tok t r =>
        if 0 ≤ t.num ∨ qName t.text = false then .error (301, t.at_)
        else do
          let s ← adv (.tok t r)
          let s ← mustT s [58]
          let (u, s) ← rd n 0 s
          .ok (.n1 op 0 t.text u, s)
      | s => .error (301, s.pos)
    else if callO op then do
      let s ← adv s
      let s ← mustT s [40]
      let (u, s) ← rd n 0 s
      if kidsO op = 1 then do
        let s ← mustT s [41]
        .ok (.n1 op 0 [] u, s)
      else do
        let s ← mustT s [44]
        let (v, s) ← rd n 0 s
        let s ← mustT s [41]
        .ok (.n2 op 0 [] u v, s)
    else .error (301, s.pos)
end
/-- P30.1 as the program has it -/
def parseM (txt : List UInt8) : Except (Int × Int) QT :=
  if 4096 < txt.length then .error (3, 4096)
  else match lex txt 0 with
    | .bad i => .error (300, i)
    | s => do
      let (t, s) ← rd (20 * txt.length + 20) 0 s
      match s with
      | .tok u _ => .error (301, u.at_)
      | _ => if 64 < t.depth then .error (302, 0) else .ok t
end Go.Vc
