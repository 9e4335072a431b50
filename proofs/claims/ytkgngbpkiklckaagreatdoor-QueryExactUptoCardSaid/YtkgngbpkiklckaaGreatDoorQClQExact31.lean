/- Parts of a proof. -/
import Derived.Test.YtkgngbpkiklckaaGreatDoorQClQExact30
import Derived.Test.YtkgngbpkiklckaaGreatDoorRows
import Derived.OpenShut
import Derived.Deep.DeepHandedRow
set_option maxHeartbeats 12800000
namespace Go.Vc
open Go
variable {P : Program} {n : Nat} {a : Act} {e : Env} {w : World} {K : Jc0} {X : List (Nat × Jc0)} {R : Jc0} {all : List Oper} {G : List Nat} {ro : Ro} {Fl : World → Prop}
def okVal (P : Program) (f : Field) : Value → Bool
 | .int .i64 _ => match P.underlying f.type with | some (.int .i64) => true | _ => false
 | .bool _ => match P.underlying f.type with | some .bool => true | _ => false
 | .string _ => match P.underlying f.type with | some .string => true | _ => false
 | _ => false
def Jp7 (P : Program) : List Field → Nat → List Value → Bool
 | [], _, [] => true
 | f :: r, k, v :: vs => (f.name != "_") && Nat.beq f.offset k && okVal P f v && Jp7 P r (k + 1) vs
 | _, _, _ => false
def eqVal : Value → Value → Bool
 | .int _ x, .int _ y => x == y
 | .bool x, .bool y => x == y
 | .string x, .string y => x.toList == y.toList
 | _, _ => false
def Jr6 : List Value → List Value → Bool
 | [], [] => true
 | x :: r, y :: q => if eqVal x y = true then Jr6 r q else false
 | _, _ => false
theorem okVal_agg {f : Field} {v : Value} (h : okVal P f v = true) (s : World) : (isAgg f.type).run P s = .ok false s := by
 unfold okVal at h
 split at h <;> first
  | (split at h <;> first | exact Jn4 (by assumption) rfl | cases h)
  | cases h
theorem okVal_eq {f : Field} {u v : Value} (d : Nat) (h : okVal P f u = true) (h' : okVal P f v = true) : (Op.equalIn (d + 1) f.type u v).run P w = .ok (eqVal u v) w := by
 unfold okVal at h h'
 split at h <;> split at h' <;> first
  | (cases h'; done)
  | (cases h; done)
  | (split at h <;> split at h' <;> first
    | (cases h; done)
    | (cases h'; done)
    | (rename_i e1 e2; rw [e1] at e2; cases e2; done)
    | (rename_i e1 _ e2; rw [e1] at e2; cases e2; done)
    | exact run_equalIn_int w d _ _ _ _ _ (by assumption)
    | exact run_equalIn_bool' w d _ _ _ (by assumption)
    | exact run_equalIn_string w d _ _ _ (by assumption)
    | simp_all)
theorem Jr1 (d : Nat) (xs ys : Array Value) : ∀ (fs : List Field) (k : Nat) (us bs : List Value), Jp7 P fs k us = true → Jp7 P fs k bs = true → (∀ j v, us[j]? = some v → xs[k + j]? = some v) → (∀ j v, bs[j]? = some v → ys[k + j]? = some v) →
  (Op.eqFields (d + 1) xs ys fs).run P w = .ok (Jr6 us bs) w
 | [], k, [], [], _, _, _, _ => by simp [Op.eqFields, Jr6]
 | [], k, _ :: _, _, h, _, _, _ => by simp [Jp7] at h
 | [], k, [], _ :: _, _, h, _, _ => by simp [Jp7] at h
 | f :: r, k, [], _, h, _, _, _ => by simp [Jp7] at h
 | f :: r, k, _ :: _, [], _, h, _, _ => by simp [Jp7] at h
 | f :: r, k, x :: us, y :: bs, h, h', hx, hy => by
  simp only [Jp7, Bool.and_eq_true, bne_iff_ne, ne_eq] at h h'
  obtain ⟨⟨⟨h1, h2⟩, h3⟩, h4⟩ := h
  obtain ⟨⟨⟨_, _⟩, g3⟩, g4⟩ := h'
  have h2 := Nat.eq_of_beq_eq_true h2
  have ih := Jr1 d xs ys r (k + 1) us bs h4 g4 (fun j v hv => by
   have := hx (j + 1) v (by simpa using hv)
   rwa [show k + (j + 1) = k + 1 + j by omega] at this) (fun j v hv => by
   have := hy (j + 1) v (by simpa using hv)
   rwa [show k + (j + 1) = k + 1 + j by omega] at this)
  have hx0 := hx 0 x rfl
  have hy0 := hy 0 y rfl
  rw [Nat.add_zero] at hx0 hy0
  have p1 : (part f.type xs f.offset).run P w = .ok x w := by
   rw [h2]; simp [part, okVal_agg h3, hx0]
  have p2 : (part f.type ys f.offset).run P w = .ok y w := by
   rw [h2]; simp [part, okVal_agg g3, hy0]
  simp only [Op.eqFields, Sem.run_bind, Sem.run_ite, if_pos h1, p1, p2, Result.andThen_ok, okVal_eq d h3 g3, Jr6]
  by_cases hxy : eqVal x y = true
  ·simp [hxy, ih]
  ·simp [hxy]
theorem run_eqX {t : TypeId} {us bs : List Value} (hu : P.underlying t = some (.struct (P.fieldsOf t))) (hp : P.stoodInHeld t = false) (ha : Jp7 P (P.fieldsOf t).toList 0 us = true) (hb : Jp7 P (P.fieldsOf t).toList 0 bs = true) :
  (Op.equalIn 10000 t (.agg ⟨us⟩) (.agg ⟨bs⟩)).run P w = .ok (Jr6 us bs) w := by
 rw [run_equalIn_agg w 9999 t _ _ hu hp]
 exact Jr1 9998 _ _ _ 0 us bs ha hb (fun j v hv => by simp [hv]) (fun j v hv => by simp [hv])
section
variable {dst : Option Tmp} {ty ty2 : TypeId} {pos : String} {after : Array Edge} {g : Option (Nat × Bool)} {l : List Oper} {t : TypeId} {x y : Operand}
theorem exec_eqX {us bs : List Value} (hx : ev e x = .agg ⟨us⟩) (hy : ev e y = .agg ⟨bs⟩) (hu : P.underlying t = some (.struct (P.fieldsOf t))) (hp : P.stoodInHeld t = false) (hg : P.eqGuardType P.depth t = false) (ha : Jp7 P (P.fieldsOf t).toList 0 us = true) (hb : Jp7 P (P.fieldsOf t).toList 0 bs = true) :
  (execOp (ev e) ⟨dst, .binOp .eql t x y ty2, ty, pos, after, g⟩).run P w = .ok (.value (.bool (Jr6 us bs))) w := by
 simp only [execOp, Sem.run_bind, hx, hy, run_eqGuard_agg w .eql t x y _ _ hg, Result.andThen_ok, run_eql_struct, run_eqX hu hp ha hb, Sem.run_pure]
theorem o_eqX (us bs : List Value) (hx : ev e x = .agg ⟨us⟩) (hy : ev e y = .agg ⟨bs⟩) (hu : P.underlying t = some (.struct (P.fieldsOf t))) (hp : P.stoodInHeld t = false) (hg : P.eqGuardType P.depth t = false) (ha : Jp7 P (P.fieldsOf t).toList 0 us = true) (hb : Jp7 P (P.fieldsOf t).toList 0 bs = true) (hd : dOk n dst = true) (hm : may all G e g = some true)
  (k : Ops ro P n all G K l (put e dst (.bool (Jr6 us bs))) w) : Ops ro P n all G K (⟨dst, .binOp .eql t x y ty2, ty, pos, after, g⟩ :: l) e w :=
 Jb5 hd hm (exec_eqX hx hy hu hp hg ha hb) k
theorem exec_neqX {us bs : List Value} (hx : ev e x = .agg ⟨us⟩) (hy : ev e y = .agg ⟨bs⟩) (hu : P.underlying t = some (.struct (P.fieldsOf t))) (hp : P.stoodInHeld t = false) (hg : P.eqGuardType P.depth t = false) (ha : Jp7 P (P.fieldsOf t).toList 0 us = true) (hb : Jp7 P (P.fieldsOf t).toList 0 bs = true) :
  (execOp (ev e) ⟨dst, .binOp .neq t x y ty2, ty, pos, after, g⟩).run P w = .ok (.value (.bool (!Jr6 us bs))) w := by
 simp only [execOp, Sem.run_bind, hx, hy, run_eqGuard_agg w .neq t x y _ _ hg, Result.andThen_ok, run_neq_struct, run_eqX hu hp ha hb, Sem.run_pure]
theorem Qm7 (us bs : List Value) (hx : ev e x = .agg ⟨us⟩) (hy : ev e y = .agg ⟨bs⟩) (hu : P.underlying t = some (.struct (P.fieldsOf t))) (hp : P.stoodInHeld t = false) (hg : P.eqGuardType P.depth t = false) (ha : Jp7 P (P.fieldsOf t).toList 0 us = true) (hb : Jp7 P (P.fieldsOf t).toList 0 bs = true) (hd : dOk n dst = true) (hm : may all G e g = some true)
  (k : Ops ro P n all G K l (put e dst (.bool (!Jr6 us bs))) w) : Ops ro P n all G K (⟨dst, .binOp .neq t x y ty2, ty, pos, after, g⟩ :: l) e w :=
 Jb5 hd hm (exec_neqX hx hy hu hp hg ha hb) k
theorem q_neqX {C : World → Prop} {K : Env → Prop} (us bs : List Value) (hx : ev e x = .agg ⟨us⟩) (hy : ev e y = .agg ⟨bs⟩) (hu : P.underlying t = some (.struct (P.fieldsOf t))) (hp : P.stoodInHeld t = false) (hg : P.eqGuardType P.depth t = false) (ha : Jp7 P (P.fieldsOf t).toList 0 us = true) (hb : Jp7 P (P.fieldsOf t).toList 0 bs = true) (hd : dOk n dst = true) (hm : may all G e g = some true)
  (k : QOps P n all G C K l (put e dst (.bool (!Jr6 us bs)))) : QOps P n all G C K (⟨dst, .binOp .neq t x y ty2, ty, pos, after, g⟩ :: l) e :=
 Jl1 hd hm (fun w hw => exec_neqX hx hy hu hp hg ha hb) k
end
end Go.Vc

namespace Go.Vc
open Go Go.Proofs
set_option maxRecDepth 20000
section
variable {w : World}
theorem Jn7 (n : Int) : Ret Tryz.prog 13 [I n] w (fun v w' => v = I n ∧ w' = w) := by
 refine Ze Tryz.call13 Tryz.func13 ?_
 refine zS ?_
 exact ⟨_, rfl, rfl, rfl⟩
def shW : Shp := ⟨1, 1, 0, 0, []⟩
def shW' : Shp := ⟨1, 0, 0, 0, []⟩
def evW : List Ev := [⟨1, 0, 0⟩, ⟨2, 0, 0⟩]
theorem okW : okTo shW evW evW.length := by
 intro j x hj he
 match j, hj with
 | 0, _ => simp [evW] at he; subst he; decide
 | 1, _ => simp [evW] at he; subst he; decide
theorem askW {R : List Int} : evq (qwO evW R) qt2 (fun _ => 0) = (1, 9) := by rfl
theorem textW : Jv0 txt2 shW evW 100 = (⟨1, 1, false, 9⟩, 0, 0) := by
 have h : askM qt2.rows shW evW 100 = (⟨1, 1, false, 9⟩, 0) := by
  unfold askM
  rw [try2']
  show (if Jp0 shW evW = 0 then _ else _) = _
  rw [if_pos (Qi2 rfl dE okW), askW]
  rfl
 unfold Jv0
 rw [try2]
 show (if (askM qt2.rows shW evW 100).2 = 0 then ((askM qt2.rows shW evW 100).1, 0, 0) else _) = _
 rw [h]
 rfl
theorem textW' : Jv0 txt3 shW' [] 100 = (rep0, 301, 3) := by
 unfold Jv0
 rw [try3]
theorem works_ret (hA : AscW w) (hP : PowQ w) : Ret Tryz.prog 10 [] w (fun v w' => v = .bool true ∧ Kp [] w w') := by
 obtain ⟨t, ht, hs⟩ := saysB_iff try1
 refine Ze Tryz.call10 Tryz.func10 ?_
 refine zS ?_
 refine Zc (Jy7 hA txt1 dE) ?_
 rintro v w1 ⟨hv, k1⟩
 rw [ht] at hv
 obtain ⟨ad, cap, rfl, hO, _⟩ := hv
 have hRows := rows_of ht dE hO
 have hsz : t.size = t.rows.length := (QT.rows_len t).symm
 refine zS ?_
 refine Za ?_
 intro b1 w2 e1 hu1
 refine Za ?_
 intro b2 w3 e2 hu2
 have l1 := hu1.lt
 have n12 : b1 ≠ b2 := oM
 refine Zs (b := b1) (cs := [.slice ad t.size cap]) rfl (hu2.kept n12 hu1.blk) lR rfl (by simp [Value.oneCell']) ?_
 intro w4 hu4
 refine Zs (b := b2) (cs := [I 0, I 0]) rfl (hu4.kept n12.symm hu2.blk) lR rfl (by simp [Value.oneCell']) ?_
 intro w5 hu5
 have g1 : Blk w5 b1 [.slice ad t.size cap] 24 := hu5.kept n12 hu4.blk
 have g2 : Blk w5 b2 [I 0, I 0] 38 := hu5.blk
 have k5 : Kp [] w1 w5 := ((((hu1.new oM)).trans (hu2.new oM)).since (hu4.kp [b1] (.inl sI)) (by simp; omega)).since (hu5.kp [b2] (.inl sI)) (by simp; omega)
 clear hu1 hu2 hu4 hu5
 refine zS ?_
 refine Zm (vs := [.slice ad t.size cap]) rfl g1.cs ?_
 rw [hsz]
 refine Zc (Qi5 (hA.kp (k1.trans k5) sI) (hP.kp (k1.trans k5) sI) (hRows.kp k5 sI)) ?_
 rintro v w6 ⟨rfl, k6⟩
 have hpv : Ju8 t.rows = (say1, 0) := by unfold Ju8; rw [hs]
 rw [hpv]
 have k06 := (k1.trans k5).trans k6
 have g26 := k6.b0 g2
 refine zS ?_
 refine Zb (shC shW none 0) ?_
 refine Zb [I 1, I 0, I 0] ?_
 refine Zb [I 2, I 0, I 0] ?_
 refine Zn (evsC evW) rfl rfl rfl kR ?_
 intro be w7 hbe hu7
 have k7 : Kp [] w6 w7 := hu7.new oM
 have k07 := k06.trans k7
 refine Zc (Text_ret (s := shW) (E := evW) (pad := none) (hA.kp k07 sI) txt2 dE (by simp [Ja7, shW]) dE (Ja7.blk hu7.blk) dE) ?_
 rintro v w8 ⟨rfl, k8⟩
 rw [textW]
 have g28 := k8.b0 (k7.b0 g26)
 have k08 := k07.trans k8
 clear hu7
 refine zS ?_
 refine Za ?_
 intro b5 w9 e5 hu9
 refine Za ?_
 intro b6 w10 e6 hu10
 have l5 := hu9.lt
 have n56 : b5 ≠ b6 := oM
 refine Zs (b := b5) (cs := repC ⟨1, 1, false, 9⟩) rfl (hu10.kept n56 hu9.blk) lR rfl (by simp [Value.oneCell', repC]) ?_
 intro w11 hu11
 refine Zs (b := b6) (cs := [I 0, I 0]) rfl (hu11.kept n56.symm hu10.blk) lR rfl (by simp [Value.oneCell']) ?_
 intro w12 hu12
 have k12 : Kp [] w8 w12 := ((((hu9.new oM)).trans (hu10.new oM)).since (hu11.kp [b5] (.inl sI)) (by simp; omega)).since (hu12.kp [b6] (.inl sI)) (by simp; omega)
 have g5 : Blk w12 b5 (repC ⟨1, 1, false, 9⟩) 45 := hu12.kept n56 hu11.blk
 have g6 : Blk w12 b6 [I 0, I 0] 38 := hu12.blk
 have g212 := k12.b0 g28
 have k012 := k08.trans k12
 clear hu9 hu10 hu11 hu12
 refine zS ?_
 refine Zb (shC shW' none 0) ?_
 refine zS ?_
 refine Zc (Text_ret (s := shW') (E := []) (pad := none) (ead := none) (hA.kp k012 sI) txt3 dE (by simp [Ja7, shW']) dE (by simp [Ja7, evsC]) dE) ?_
 rintro v w13 ⟨rfl, k13⟩
 rw [textW']
 have k013 := k012.trans k13
 have g213 := k13.b0 g212
 have g513 := k13.b0 g5
 have g613 := k13.b0 g6
 refine zS ?_
 refine Za ?_
 intro b7 w14 e7 hu14
 refine Za ?_
 intro b8 w15 e8 hu15
 have l7 := hu14.lt
 have n78 : b7 ≠ b8 := oM
 refine Zs (b := b7) (cs := repC rep0) rfl (hu15.kept n78 hu14.blk) lR rfl (by simp [Value.oneCell', repC]) ?_
 intro w16 hu16
 refine Zs (b := b8) (cs := [I 301, I 3]) rfl (hu16.kept n78.symm hu15.blk) lR rfl (by simp [Value.oneCell']) ?_
 intro w17 hu17
 have k17 : Kp [] w13 w17 := ((((hu14.new oM)).trans (hu15.new oM)).since (hu16.kp [b7] (.inl sI)) (by simp; omega)).since (hu17.kp [b8] (.inl sI)) (by simp; omega)
 have h2 := k17.b0 g213
 have h5 := k17.b0 g513
 have h6 := k17.b0 g613
 have h8 : Blk w17 b8 [I 301, I 3] 38 := hu17.blk
 have k017 := k013.trans k17
 clear hu14 hu15 hu16 hu17
 refine zS ?_
 refine Zl rfl h2 ?_
 refine zS ?_
 refine Zc (Jn7 _) ?_
 rintro v w18 ⟨rfl, rfl⟩
 refine zL h6 ?_
 refine Zm (vs := repC ⟨1, 1, false, 9⟩) rfl h5.cs ?_
 refine Zb (repC ⟨1, 1, false, 9⟩) ?_
 refine o_eqX (repC ⟨1, 1, false, 9⟩) (repC ⟨1, 1, false, 9⟩) rfl rfl rfl kR kR kR kR rfl rfl ?_
 refine zS ?_
 refine Zm (vs := [I 301, I 3]) rfl h8.cs ?_
 refine Zb [I 301, I 3] ?_
 refine o_eqS [301, 3] [301, 3] rfl rfl rfl kR kR kR rfl rfl rfl rfl ?_
 refine zS ?_
 exact ⟨_, rfl, rfl, k017⟩
end
end Go.Vc
namespace Go.Vc
open Go Go.Proofs Go.ChangeShapes
set_option maxRecDepth 10000
theorem Jz7 {H : Type} : ∀ (l : List (DataW H)), l.length ≤ Go.Proofs.YtkgngbpkiklckaaGreatDoor.Rows.uptoBulkAll l
 | [] => by simp [Go.Proofs.YtkgngbpkiklckaaGreatDoor.Rows.uptoBulkAll]
 | d :: r => by
  have ih := Jz7 r
  have h1 : 1 ≤ Go.Proofs.YtkgngbpkiklckaaGreatDoor.Rows.uptoBulk d := by
   cases d with
   | lit l => cases l <;> simp [Go.Proofs.YtkgngbpkiklckaaGreatDoor.Rows.uptoBulk]
   | _ => simp [Go.Proofs.YtkgngbpkiklckaaGreatDoor.Rows.uptoBulk]
  simp only [List.length_cons, Go.Proofs.YtkgngbpkiklckaaGreatDoor.Rows.uptoBulkAll]; omega
theorem Jo7 {H : Type} {d : DataW H} : ∀ {l : List (DataW H)}, d ∈ l → Go.Proofs.YtkgngbpkiklckaaGreatDoor.Rows.uptoBulk d ≤ Go.Proofs.YtkgngbpkiklckaaGreatDoor.Rows.uptoBulkAll l
 | [], h => by simp at h
 | x :: r, h => by
  simp only [Go.Proofs.YtkgngbpkiklckaaGreatDoor.Rows.uptoBulkAll]
  rcases List.mem_cons.1 h with rfl | h
  ·omega
  ·have := Jo7 h; omega
theorem bulkS_lits {H : Type} (k : IntKind) (zs : List Int) : Go.Proofs.YtkgngbpkiklckaaGreatDoor.Rows.uptoBulkAll (lits (H := H) k zs) = zs.length := by
 induction zs with
 | nil => rfl
 | cons z r ih => show Go.Proofs.YtkgngbpkiklckaaGreatDoor.Rows.uptoBulk (DataW.lit (.int k z)) + Go.Proofs.YtkgngbpkiklckaaGreatDoor.Rows.uptoBulkAll (lits k r) = _; rw [ih]; simp only [Go.Proofs.YtkgngbpkiklckaaGreatDoor.Rows.uptoBulk, List.length_cons]; omega
theorem rdS_row {H : Type} {enc : TypeId × Value → H} {P : Program} {w : World} {base : Nat} {sp : Nat → Bool} {held : Bool} {t e : TypeId} {k : IntKind} {fuel : Nat} {v : Value} {x : DataW H × List MemPlace} (ht : P.underlying t = some (.slice e)) (he : P.underlying e = some (.int k)) (hc : P.cellsOf e = 1)
  (h : DataW.trod enc P w base sp held fuel t [v] = some x) : ∃ a cap, ∃ zs : List Int, v = .slice a zs.length cap ∧ Ja7 w a (zs.map (Value.int k)) ∧ (∀ n ∈ zs, (Lit.int k n).wf = true) ∧ zs.length ≤ Go.Proofs.YtkgngbpkiklckaaGreatDoor.Rows.uptoBulk x.1 := by
 rcases open_ints ht he hc h with ⟨hcs, hx⟩ | ⟨a, l, c, zs, hcs, _, hl, hm, hz, hx, hcell, hwz⟩
 ·simp at hcs
  exact ⟨none, 0, [], hcs, rfl, sI, sI⟩
 ·simp at hcs
  have hlz : l ≤ zs.length := by rw [hz]; split <;> omega
  have hlen : (zs.take l).length = l := by rw [List.length_take]; omega
  refine ⟨some a, c, zs.take l, by rw [hlen]; exact hcs, ?_, fun n hn => hwz n (List.mem_of_mem_take hn), ?_⟩
  ·intro i y hy
   rw [List.getElem?_map, List.getElem?_take] at hy
   split at hy
   ·rename_i hi
    have hi2 : i < zs.length := oM
    rw [List.getElem?_eq_getElem hi2] at hy
    simp at hy; subst hy
    rw [hcell i hi2, List.getD_eq_getElem?_getD, List.getElem?_eq_getElem hi2]; rfl
   ·simp at hy
  ·rw [hx]
   simp only [Go.Proofs.YtkgngbpkiklckaaGreatDoor.Rows.uptoBulk, bulkS_lits]; omega
theorem wfI {x : Int} (h : (Lit.int .i64 x).wf = true) : -9223372036854775808 ≤ x ∧ x ≤ 9223372036854775807 := by simpa [Lit.wf, IntKind.min, IntKind.max, IntKind.signed, IntKind.bits] using h
theorem flattenS {α β : Type} {f : α → List β} : ∀ (Cs : List (List β)), (∀ cs ∈ Cs, ∃ a, cs = f a) → ∃ l : List α, Cs = l.map f
 | [], _ => ⟨[], rfl⟩
 | c :: r, h => by
  obtain ⟨a, ha⟩ := h c sI
  obtain ⟨l, hl⟩ := flattenS r (fun cs hcs => h cs (by simp [hcs]))
  exact ⟨a :: l, by rw [ha, hl]; rfl⟩
section
variable {H : Type} {enc : TypeId × Value → H} {w : World} {base : Nat} {sp : Nat → Bool} {held : Bool} {fuel : Nat} {d : DataW H} {ps : List MemPlace}
theorem rd_evs {a : Option Addr} {len cap : Nat} (h : DataW.trod enc Tryz.prog w base sp held fuel 28 (Value.slice a len cap).cells.toList = some (d, ps)) :
  ∃ xs : List Ev, (Ja7 w a (evsC xs) ∧ xs.length = len ∧ len ≤ cap) ∧ xs.length ≤ Go.Proofs.YtkgngbpkiklckaaGreatDoor.Rows.uptoBulk d := by
 obtain ⟨n, Cs, D, h1, h2, h3, h4, h5, hcap, _⟩ := trod_recs (m := 3) Tryz.underlying28 kR h
 have hall : Go.Proofs.YtkgngbpkiklckaaGreatDoor.Rows.uptoBulkAll D ≤ Go.Proofs.YtkgngbpkiklckaaGreatDoor.Rows.uptoBulk d := by
  rcases h5 with ⟨e1, e2⟩ | ⟨spp, e1⟩
  ·rw [e2]; simp [Go.Proofs.YtkgngbpkiklckaaGreatDoor.Rows.uptoBulkAll]
  ·dsimp only at e1
   rw [e1]
   simp only [Go.Proofs.YtkgngbpkiklckaaGreatDoor.Rows.uptoBulk]; omega
 have key : ∀ cs ∈ Cs, ∃ x : Ev, cs = evC x := by
  intro cs hcs
  obtain ⟨i, hi⟩ := List.getElem?_of_mem hcs
  obtain ⟨g1, d', p', g3, g2⟩ := h4 i cs hi
  obtain ⟨xs, m, _, gx, _, g5, g6⟩ := DataW.trod_struct Tryz.underlying86 g2
  match cs, g1 with
  | [c0, c1, c2], _ =>
   have f0 := g6 0 _ rfl
   have f1 := g6 1 _ rfl
   have f2 := g6 2 _ rfl
   have l6 : xs.length = 3 := g5
   rw [List.getElem?_eq_getElem oM] at f0 f1 f2
   obtain ⟨z0, rfl, w0⟩ := Jj3 (k := .i64) kR f0
   obtain ⟨z1, rfl, w1⟩ := Jj3 (k := .i64) kR f1
   obtain ⟨z2, rfl, w2⟩ := Jj3 (k := .i64) kR f2
   exact ⟨⟨z0, z1, z2⟩, rfl⟩
 obtain ⟨xs, hxs⟩ := flattenS (f := evC) Cs key
 have hl : xs.length = len := by rw [← h1, hxs]; simp
 refine ⟨xs, ⟨?_, hl, hcap⟩, ?_⟩
 ·rw [hxs] at h3
  unfold evsC
  rw [List.flatMap_def]; exact h3
 ·rw [hl, ← h2]
  have := Jz7 D
  omega
theorem rd_shp {cs : Array Value} (h : DataW.trod enc Tryz.prog w base sp held fuel 27 (Value.agg cs).cells.toList = some (d, ps)) :
  ∃ (s : Shp) (pad : Option Addr) (cap : Nat), (cs = ⟨shC s pad cap⟩ ∧ Ja7 w pad (s.pa.map I)) ∧ s.pa.length ≤ Go.Proofs.YtkgngbpkiklckaaGreatDoor.Rows.uptoBulk d := by
 have h : DataW.trod enc Tryz.prog w base sp held fuel 27 cs.toList = some (d, ps) := h
 obtain ⟨xs, m, _, gx, g1, g5, g6⟩ := DataW.trod_struct Tryz.underlying27 h
 have gd := congrArg Prod.fst gx
 dsimp only at gd
 obtain ⟨cs⟩ := cs
 have g1 : cs.length = 5 := g1
 match cs, g1 with
 | [c0, c1, c2, c3, c4], _ =>
  have f0 := g6 0 _ rfl
  have f1 := g6 1 _ rfl
  have f2 := g6 2 _ rfl
  have f3 := g6 3 _ rfl
  have f4 := g6 4 _ rfl
  have l6 : xs.length = 5 := g5
  rw [List.getElem?_eq_getElem oM] at f0 f1 f2 f3 f4
  obtain ⟨z0, rfl, w0⟩ := Jj3 (k := .i64) kR f0
  obtain ⟨z1, rfl, w1⟩ := Jj3 (k := .i64) kR f1
  obtain ⟨z2, rfl, w2⟩ := Jj3 (k := .i64) kR f2
  obtain ⟨z3, rfl, w3⟩ := Jj3 (k := .i64) kR f3
  obtain ⟨a4, c4, z4, rfl, r4, q4, s4⟩ := rdS_row Tryz.underlying25 Tryz.underlying3 kR f4
  have m4 : Go.Proofs.YtkgngbpkiklckaaGreatDoor.Rows.uptoBulk xs[4].1 ≤ Go.Proofs.YtkgngbpkiklckaaGreatDoor.Rows.uptoBulkAll (xs.map (·.1)) := Jo7 (List.mem_map.2 ⟨_, List.getElem_mem _, rfl⟩)
  refine ⟨⟨z0, z1, z2, z3, z4⟩, a4, c4, ⟨rfl, r4⟩, ?_⟩
  rw [gd]
  simp only [Go.Proofs.YtkgngbpkiklckaaGreatDoor.Rows.uptoBulk]
  omega
end
end Go.Vc

namespace Go.Vc
open Go Go.Proofs Go.ChangeShapes
set_option maxRecDepth 10000
structure AG where
 txt : List UInt8
 l : List QN
 s : Shp
 E : List Ev
 fuel : Int
 fr : List UInt8
 tt : List UInt8
 qad : Option Addr
 qcap : Nat
 pad : Option Addr
 pcap : Nat
 ead : Option Addr
 ecap : Nat
def AG.C (x : AG) : List Value := [S x.txt, .slice x.qad x.l.length x.qcap, I x.s.th, I x.s.va, I x.s.vo, I x.s.lo, .slice x.pad x.s.pa.length x.pcap, .slice x.ead x.E.length x.ecap, I x.fuel, S x.fr, S x.tt]
structure AG.Ok (w : World) (x : AG) : Prop where
 rows : Rows w x.qad x.qcap x.l
 txt : x.txt.length ≤ 1048576
 fr : x.fr.length ≤ 1048576
 tt : x.tt.length ≤ 1048576
 pa : Ja7 w x.pad (x.s.pa.map I)
 pal : x.s.pa.length ≤ 1048576
 ev : Ja7 w x.ead (evsC x.E)
 evl : x.E.length ≤ 1048576
 evc : x.E.length ≤ x.ecap
 fuel : -9223372036854775808 ≤ x.fuel ∧ x.fuel ≤ 9223372036854775807
 low : ∀ y ∈ x.l, -9223372036854775808 ≤ y.num
section
variable {H : Type} {enc : TypeId × Value → H} {w : World} {base : Nat} {sp : Nat → Bool} {held : Bool} {fuel : Nat} {d : DataW H} {ps : List MemPlace}
theorem trod_isS {P : Program} {t e : TypeId} {v : Value} {x : DataW H × List MemPlace} (ht : P.underlying t = some (.slice e)) (h : DataW.trod enc P w base sp held fuel t [v] = some x) : ∃ a len cap, v = .slice a len cap := by
 rcases Go.Deep.open_slice ht h with ⟨hc, _⟩ | ⟨a', len', cap', mm, n, D, Pl, hc, _⟩
 ·simp at hc; exact ⟨_, _, _, hc⟩
 ·simp at hc; exact ⟨_, _, _, hc⟩
theorem rd_rowsQ {v : Value} (h : DataW.trod enc Tryz.prog w base sp held fuel 22 [v] = some (d, ps)) :
  ∃ (a : Option Addr) (cap : Nat) (xs : List QN), v = .slice a xs.length cap ∧ xs.length ≤ Go.Proofs.YtkgngbpkiklckaaGreatDoor.Rows.uptoBulk d ∧ (∀ x ∈ xs, -9223372036854775808 ≤ x.num) ∧ ∀ B, Go.Proofs.YtkgngbpkiklckaaGreatDoor.Rows.uptoBulk d ≤ B → B ≤ 1048576 → Rows w a cap xs := by
 obtain ⟨a, len, cap, rfl⟩ := trod_isS Tryz.underlying22 h
 obtain ⟨n, Cs, D, h1, h2, h3, h4, h5, hcap, hcm⟩ := trod_recs (m := 4) Tryz.underlying22 kR h
 have hall : Go.Proofs.YtkgngbpkiklckaaGreatDoor.Rows.uptoBulkAll D ≤ Go.Proofs.YtkgngbpkiklckaaGreatDoor.Rows.uptoBulk d := by
  rcases h5 with ⟨e1, e2⟩ | ⟨spp, e1⟩
  ·rw [e2]; simp [Go.Proofs.YtkgngbpkiklckaaGreatDoor.Rows.uptoBulkAll]
  ·dsimp only at e1
   rw [e1]
   simp only [Go.Proofs.YtkgngbpkiklckaaGreatDoor.Rows.uptoBulk]; omega
 have key : ∀ cs ∈ Cs, ∃ x : QN, cs = qC x ∧ (x.num ≤ 9223372036854775807 ∧ x.name.length ≤ Go.Proofs.YtkgngbpkiklckaaGreatDoor.Rows.uptoBulk d ∧ -9223372036854775808 ≤ x.num) := by
  intro cs hcs
  obtain ⟨i, hi⟩ := List.getElem?_of_mem hcs
  obtain ⟨g1, d', p', g3, g2⟩ := h4 i cs hi
  obtain ⟨xs, m, _, gx, _, g5, g6⟩ := DataW.trod_struct Tryz.underlying81 g2
  have hd' := Jo7 (List.mem_of_getElem? g3)
  have gd := congrArg Prod.fst gx
  dsimp only at gd
  match cs, g1 with
  | [c0, c1, c2, c3], _ =>
   have f0 := g6 0 _ rfl
   have f1 := g6 1 _ rfl
   have f2 := g6 2 _ rfl
   have f3 := g6 3 _ rfl
   have l6 : xs.length = 4 := g5
   rw [List.getElem?_eq_getElem oM] at f0 f1 f2 f3
   obtain ⟨z0, rfl, w0⟩ := Jj3 (k := .i64) kR f0
   obtain ⟨z1, rfl, w1⟩ := Jj3 (k := .i64) kR f1
   obtain ⟨z2, rfl, w2⟩ := Jj3 (k := .i64) kR f2
   obtain ⟨z3, rfl, w3, b3⟩ := Qd7 kR f3
   have m3 : Go.Proofs.YtkgngbpkiklckaaGreatDoor.Rows.uptoBulk xs[3].1 ≤ Go.Proofs.YtkgngbpkiklckaaGreatDoor.Rows.uptoBulkAll (xs.map (·.1)) := Jo7 (List.mem_map.2 ⟨_, List.getElem_mem _, rfl⟩)
   rw [gd] at hd'
   rw [b3] at m3
   simp only [Go.Proofs.YtkgngbpkiklckaaGreatDoor.Rows.uptoBulk] at hd' m3
   exact ⟨⟨z0, z1, z2, z3.data.toList⟩, rfl, (wfI w2).2, by dsimp only; omega, (wfI w2).1⟩
 have flat : ∀ Ds : List (List Value), (∀ cs ∈ Ds, ∃ x : QN, cs = qC x ∧ (x.num ≤ 9223372036854775807 ∧ x.name.length ≤ Go.Proofs.YtkgngbpkiklckaaGreatDoor.Rows.uptoBulk d ∧ -9223372036854775808 ≤ x.num)) → ∃ l : List QN, Ds = l.map qC ∧ ∀ x ∈ l, (x.num ≤ 9223372036854775807 ∧ x.name.length ≤ Go.Proofs.YtkgngbpkiklckaaGreatDoor.Rows.uptoBulk d ∧ -9223372036854775808 ≤ x.num) := by
  intro Ds
  induction Ds with
  | nil => intro _; exact ⟨[], rfl, sI⟩
  | cons c r ih =>
   intro hh
   obtain ⟨x, hx, hp⟩ := hh c sI
   obtain ⟨l, hl, hq⟩ := ih (fun cs hcs => hh cs (by simp [hcs]))
   refine ⟨x :: l, by rw [hx, hl]; rfl, fun y hy => ?_⟩
   rcases List.mem_cons.1 hy with rfl | hy
   ·exact hp
   ·exact hq y hy
 obtain ⟨xs, hxs, hp⟩ := flat Cs key
 have hl : xs.length = len := by rw [← h1, hxs]; simp
 have hlb : xs.length ≤ Go.Proofs.YtkgngbpkiklckaaGreatDoor.Rows.uptoBulk d := by
  rw [hl, ← h2]
  have := Jz7 D
  omega
 refine ⟨a, cap, xs, by rw [hl], hlb, fun x hx => (hp x hx).2.2, fun B hB hB2 => ⟨?_, oM, hcm, oM, fun x hx => ?_, fun x hx => (hp x hx).1⟩⟩
 ·rw [hxs] at h3
  rw [List.flatMap_def]; exact h3
 ·have := (hp x hx).2.1; omega
theorem rd_ask {cs : Array Value} (h : DataW.trod enc Tryz.prog w base sp held fuel 30 (Value.agg cs).cells.toList = some (d, ps)) :
  ∃ x : AG, cs = ⟨x.C⟩ ∧ ∀ B, Go.Proofs.YtkgngbpkiklckaaGreatDoor.Rows.uptoBulk d ≤ B → B ≤ 1048576 → AG.Ok w x := by
 have h : DataW.trod enc Tryz.prog w base sp held fuel 30 cs.toList = some (d, ps) := h
 obtain ⟨xs, m, _, gx, g1, g5, g6⟩ := DataW.trod_struct Tryz.underlying30 h
 have gd := congrArg Prod.fst gx
 dsimp only at gd
 obtain ⟨cs⟩ := cs
 have g1 : cs.length = 11 := g1
 match cs, g1 with
 | [c0, c1, c2, c3, c4, c5, c6, c7, c8, c9, c10], _ =>
  have f0 := g6 0 _ rfl
  have f1 := g6 1 _ rfl
  have f2 := g6 2 _ rfl
  have f3 := g6 3 _ rfl
  have f4 := g6 4 _ rfl
  have f5 := g6 5 _ rfl
  have f6 := g6 6 _ rfl
  have l6 : xs.length = 7 := g5
  have mm : ∀ i (hi : i < xs.length), Go.Proofs.YtkgngbpkiklckaaGreatDoor.Rows.uptoBulk xs[i].1 ≤ Go.Proofs.YtkgngbpkiklckaaGreatDoor.Rows.uptoBulkAll (xs.map (·.1)) := fun i hi => Jo7 (List.mem_map.2 ⟨_, List.getElem_mem hi, rfl⟩)
  rw [List.getElem?_eq_getElem oM] at f0 f1 f2 f3 f4 f5 f6
  obtain ⟨z0, rfl, w0, b0⟩ := Qd7 kR f0
  have f1' : DataW.trod enc Tryz.prog w base sp held m 24 [c1] = some xs[1] := f1
  obtain ⟨ys, m', _, gy, _, k5, k6⟩ := DataW.trod_struct Tryz.underlying24 f1'
  have q0 := k6 0 _ rfl
  have k5 : ys.length = 1 := k5
  rw [List.getElem?_eq_getElem oM] at q0
  have q0' : DataW.trod enc Tryz.prog w base sp held m' 22 [c1] = some (ys[0].1, ys[0].2) := q0
  obtain ⟨qad, qcap, l, rfl, lb, hlow, hR⟩ := rd_rowsQ q0'
  have my : Go.Proofs.YtkgngbpkiklckaaGreatDoor.Rows.uptoBulk ys[0].1 ≤ Go.Proofs.YtkgngbpkiklckaaGreatDoor.Rows.uptoBulkAll (ys.map (·.1)) := Jo7 (List.mem_map.2 ⟨_, List.getElem_mem _, rfl⟩)
  have gdy := congrArg Prod.fst gy
  dsimp only at gdy
  have f2' : DataW.trod enc Tryz.prog w base sp held m 27 (Value.agg ⟨[c2, c3, c4, c5, c6]⟩).cells.toList = some (xs[2].1, xs[2].2) := f2
  obtain ⟨s, pad, pcap, ⟨hs, hpa⟩, hpl⟩ := rd_shp f2'
  simp only [shC, Array.mk.injEq, List.cons.injEq, and_true] at hs
  obtain ⟨rfl, rfl, rfl, rfl, rfl⟩ := hs
  have f3' : DataW.trod enc Tryz.prog w base sp held m 28 [c7] = some (xs[3].1, xs[3].2) := f3
  obtain ⟨ead, elen, ecap, rfl⟩ := trod_isS Tryz.underlying28 f3'
  obtain ⟨E, ⟨hE, rfl, hec⟩, hel⟩ := rd_evs (a := ead) (len := elen) (cap := ecap) f3'
  obtain ⟨z4, rfl, w4⟩ := Jj3 (k := .i64) kR f4
  obtain ⟨z5, rfl, w5, b5⟩ := Qd7 kR f5
  obtain ⟨z6, rfl, w6, b6⟩ := Qd7 kR f6
  have n0 := mm 0 oM
  have n1 := mm 1 oM
  have n2 := mm 2 oM
  have n3 := mm 3 oM
  have n5 := mm 5 oM
  have n6 := mm 6 oM
  rw [b0] at n0
  rw [gdy] at n1
  rw [b5] at n5
  rw [b6] at n6
  simp only [Go.Proofs.YtkgngbpkiklckaaGreatDoor.Rows.uptoBulk] at n0 n1 n5 n6
  refine ⟨⟨z0.data.toList, l, s, E, z4, z5.data.toList, z6.data.toList, qad, qcap, pad, pcap, ead, ecap⟩, rfl, fun B hB hB2 => ?_⟩
  rw [gd] at hB
  simp only [Go.Proofs.YtkgngbpkiklckaaGreatDoor.Rows.uptoBulk] at hB
  exact ⟨hR 1048576 oM lR, by dsimp only; omega, by dsimp only; omega, by dsimp only; omega, hpa, by dsimp only; omega, hE, by dsimp only; omega, hec, wfI w4, hlow⟩
end
end Go.Vc

namespace Go.Vc
open Go Go.Proofs
set_option maxRecDepth 20000
section
variable {w : World}
theorem evq_pos (W : QW) : ∀ (t : QT) (σ : List UInt8 → Int), 1 ≤ (evq W t σ).2
 | .n0 .., σ => by simp [evq]
 | .n1 op _ name a, σ => by
  rw [evq]; split <;> dsimp only <;> omega
 | .n2 op _ _ a b, σ => by
  rw [evq]
  split
  ·split <;> dsimp only <;> omega
  ·split
   ·split <;> dsimp only <;> omega
   ·dsimp only; omega
theorem looked_err {l : List QN} {c : Int} (h : Jh9 l = .error c) : c ≠ 0 := by
 unfold Jh9 at h
 split at h
 ·cases h; decide
 ·split at h
  ·cases h; decide
  ·split at h
   ·cases h; decide
   ·cases h
theorem Qi1 (a b : Rep) : Jr6 (repC a) (repC b) = decide (a = b) := by
 obtain ⟨a1, a2, a3, a4⟩ := a
 obtain ⟨b1, b2, b3, b4⟩ := b
 simp only [repC, Jr6, eqVal, Rep.mk.injEq, beq_iff_eq]
 by_cases h1 : a1 = b1 <;> by_cases h2 : a2 = b2 <;> by_cases h3 : a3 = b3 <;> by_cases h4 : a4 = b4 <;> simp [h1, h2, h3, h4]
theorem Blk.sub {b : Nat} {vs : List Value} {T : TypeId} (h : Blk w b vs T) (o : Nat) (us : List Value) (hu : (vs.drop o).take us.length = us) : ∀ j v, us[j]? = some v → w.cell? ⟨b, o + j, none⟩ = some v := by
 intro j v hv
 refine h.cell ?_
 rw [← hu, List.getElem?_take] at hv
 split at hv
 ·rwa [List.getElem?_drop] at hv
 ·cases hv
section
variable {P : Program} {n : Nat} {e : Env} {K : Jc0} {all : List Oper} {G : List Nat} {ro : Ro} {dst : Option Tmp} {ty : TypeId} {pos : String} {after : Array Edge} {g : Option (Nat × Bool)} {l : List Oper}
theorem o_pureB {op : Op} {c : Bool} (b : Bool) (hp : Jr2 P e op = some (none, .bool c)) (hc : c = b) (hd : dOk n dst = true) (hm : may all G e g = some true) (k : Ops ro P n all G K l (put e dst (.bool b)) w) : Ops ro P n all G K (⟨dst, op, ty, pos, after, g⟩ :: l) e w :=
 o_pure1 (by rw [hp, hc]) hd hm k
end
theorem few_ret {x : AG} : Ret Tryz.prog 16 [.agg ⟨x.C⟩] w (fun v w' => v = .bool (decide (x.fuel ≤ 300000) || decide (67108864 < x.fuel)) ∧ Kp [] w w') := by
 refine Ze Tryz.call16 Tryz.func16 ?_
 refine zS ?_
 refine Zx ?_
 intro b w1 hb hu1
 have k1 : Kp [] w w1 := hu1.new oM
 have hb1 : Blk w1 b x.C 30 := hu1.blk
 refine zS ?_
 refine Zl rfl hb1 (v := I x.fuel) ?_
 by_cases h : x.fuel ≤ 300000
 ·refine o_pureB true rfl (decide_eq_true h) rfl rfl ?_
  refine zS ?_
  exact ⟨_, rfl, by simp [h], k1⟩
 ·refine o_pureB false rfl (decide_eq_false h) rfl rfl ?_
  refine zS ?_
  refine Zl rfl hb1 (v := I x.fuel) ?_
  refine zS ?_
  exact ⟨_, rfl, by simp [h], k1⟩
end
section
variable {w : World}
theorem AG.Ok.kp {w' : World} {x : AG} (h : x.Ok w) (hk : Kp [] w w') : x.Ok w' := ⟨h.rows.kp hk sI, h.txt, h.fr, h.tt, h.pa.kp hk sI, h.pal, h.ev.kp hk sI, h.evl, h.evc, h.fuel, h.low⟩
end
end Go.Vc
