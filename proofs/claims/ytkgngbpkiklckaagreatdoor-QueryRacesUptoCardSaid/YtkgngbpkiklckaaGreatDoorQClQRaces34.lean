/- feasible: Round; abreastref19: Round, Stand, Owner. -/
import Derived.Test.YtkgngbpkiklckaaGreatDoorQClQRaces33
import Derived.Test.YtkgngbpkiklckaaGreatDoorQClQRaces9
import Derived.Laws.StructEq
import Derived.ChangeKeysEq
import Derived.Laws.Tables
import Derived.Test.YtkgngbpkiklckaaGreatDoorQClQRaces24
import Derived.Test.YtkgngbpkiklckaaGreatDoorQClQRaces27
namespace Go.Vc
open Go Go.Proofs
set_option maxRecDepth 10000
variable {w : World} {s : Shp} {c : Ck}
def opIn (c : Ck) (i : Int) : Int × Int := if 0 ≤ i ∧ i < c.op.length then opAt c i else (0, 0)
theorem Round_ret {g : CkG} (h : CkAt w g s c) (i : Int) : Ret Tryz.prog 87 [ptr g.p, I i] w (fun v w' => v = .tuple #[.agg ⟨opC2 (opIn c i)⟩, I (if 0 ≤ i ∧ i < c.op.length then 0 else 2)] ∧ Kp [] w w') := by
  have hop := h.ok.op
  have hpa := h.ok.sh.2.2.2.2.1
  refine enterC Tryz.call87 Tryz.func87 rfl rfl rfl rfl ?_
  (repeat first|refine zA ?_|refine zg ?_)
  refine o_alloc rfl rfl rfl rfl ?_
  intro bs w1 hbs hu1
  have k1 : Kp [] w w1 := hu1.kp [] (.inr (by omega))
  have h1 := h.kp0 k1
  (repeat first|refine zA ?_|refine zB ?_|refine zg ?_|refine zo rfl rfl trivial ?_|refine zn ?_)
  refine o_call (fnone_ret h1) rfl rfl rfl ?_
  rintro v wx ⟨rfl, rfl⟩
  (repeat first|refine zA ?_|refine zB ?_|refine zg ?_|refine zo rfl rfl trivial ?_|refine zn ?_|refine zk ?_|refine zf rfl ?_)
  refine o_load rfl h1.hdr rfl rfl rfl rfl rfl ?_
  (repeat refine zo rfl rfl trivial ?_)
  refine o_call (asked_ret _ i c.op.length) rfl rfl rfl ?_
  rintro v w3 ⟨rfl, rfl⟩
  by_cases hin : 0 ≤ i ∧ i < c.op.length
  · rw [if_pos hin]
    obtain ⟨ob, L, hoad, _, hL, _, hL1, hL2⟩ := h1.open_ (i := i.toNat) (by omega)
    have e1 : ((i.toNat : Nat) : Int) = i := by omega
    rw [e1] at hL1 hL2
    have hh := h1.hdr
    rw [show ckC g s c = [I s.th, I s.va, I s.vo, I s.lo, .slice g.pad s.pa.length g.pcap, .map (some g.m1), .map (some g.m2), .slice (some ⟨ob, 0, none⟩) c.op.length g.ocap, I c.n] by rw [ckC, hoad]] at hh
    (repeat first|refine zA ?_|refine zg ?_|refine zo rfl rfl trivial ?_|refine zn ?_|refine zk ?_|refine zf rfl ?_)
    refine o_load (v := .slice (some ⟨ob, 0, none⟩) c.op.length g.ocap) rfl hh rfl rfl rfl rfl rfl ?_
    (repeat refine zo rfl rfl (by first|exact trivial|(simp only[AllP];omega)) ?_)
    refine o_loadA (b := ob) (off := i.toNat * 2) (vs := opC2 (opAt c i)) ?_ (fun j v hv => ?_) rfl rfl rfl rfl rfl rfl ?_
    · show Value.pointer (some ⟨ob, 0 + i.toNat * 2, none⟩) = _
      rw [Nat.zero_add]
    · match j, hv with
      | 0, hv => cases hv; exact hL.cell hL1
      | 1, hv => cases hv; exact hL.cell hL2
    refine o_storeA (cs := opC2 (opAt c i)) rfl hu1.blk (Nat.le_refl _) rfl (by simp [Value.oneCell']) rfl rfl rfl rfl ?_
    intro w4 hu4
    have k4 : Kp [] w w4 := k1.since (hu4.kp [bs] (.inl (by simp))) (by simp; omega)
    have hB4 : Blk w4 bs (opC2 (opAt c i)) 131 := hu4.blk
    (repeat first|refine zo rfl rfl trivial ?_|refine zn ?_|refine zr ?_)
    exact ⟨[.agg ⟨opC2 (opAt c i)⟩, _], ⟨⟨_, rfl, run_loadB hB4 rfl rfl rfl rfl⟩, ⟨_, rfl⟩, trivial⟩, by unfold opIn; rw [if_pos hin]; rfl, k4⟩
  · rw [if_neg hin]
    (repeat first|refine zA ?_|refine zg ?_|refine zo rfl rfl trivial ?_|refine zn ?_|refine zt rfl ?_)
    refine o_build [I 0, I 0] rfl rfl rfl rfl rfl rfl rfl ?_
    (repeat refine zo rfl rfl trivial ?_)
    refine o_storeA (cs := [I 0, I 0]) rfl hu1.blk (Nat.le_refl _) rfl (by simp [Value.oneCell']) rfl rfl rfl rfl ?_
    intro w4 hu4
    have k4 : Kp [] w w4 := k1.since (hu4.kp [bs] (.inl (by simp))) (by simp; omega)
    have hB4 : Blk w4 bs [I 0, I 0] 131 := hu4.blk
    (repeat first|refine zo rfl rfl trivial ?_|refine zn ?_|refine zr ?_)
    exact ⟨[.agg ⟨[I 0, I 0]⟩, _], ⟨⟨_, rfl, run_loadB hB4 rfl rfl rfl rfl⟩, ⟨_, rfl⟩, trivial⟩, by unfold opIn; rw [if_neg hin]; rfl, k4⟩
section
variable {g : RG}
theorem rRound_ret (h : RAt w g s c) (i : Int) : Ret Tryz.prog 52 [ptr g.p, I i] w (fun v w' => v = .tuple #[.agg ⟨opC2 (opIn c i)⟩, I (if 0 ≤ i ∧ i < c.op.length then 0 else 2)] ∧ Kp [] w w') := by
  have hop := h.ok.op
  have hpa := h.ok.sh.2.2.2.2.1
  refine enterC Tryz.call52 Tryz.func52 rfl rfl rfl rfl ?_
  (repeat first|refine zA ?_|refine zg ?_)
  refine o_alloc rfl rfl rfl rfl ?_
  intro bs w1 hbs hu1
  have k1 : Kp [] w w1 := hu1.kp [] (.inr (by omega))
  have h1 := h.kp0 k1
  (repeat first|refine zA ?_|refine zB ?_|refine zg ?_|refine zo rfl rfl trivial ?_|refine zn ?_|refine zk ?_|refine zf rfl ?_)
  refine o_load rfl h1.hdr rfl rfl rfl rfl rfl ?_
  (repeat refine zo rfl rfl trivial ?_)
  refine o_call (below_ret i c.op.length) rfl rfl rfl ?_
  rintro v w3 ⟨rfl, rfl⟩
  (repeat first|refine zo rfl rfl trivial ?_|refine zn ?_)
  by_cases hin : 0 ≤ i ∧ i < c.op.length
  · refine r_no rfl (by simp; omega) ?_
    obtain ⟨ob, L, hoad, hL, _, hLg, _⟩ := h1.opn hin.1 hin.2
    have hh := h1.hdr
    rw [rgC, hoad] at hh
    (repeat first|refine zA ?_|refine zg ?_|refine zo rfl rfl trivial ?_|refine zk ?_)
    refine o_load (v := .slice (some ⟨ob, 0, none⟩) c.op.length g.ocap) rfl hh rfl rfl rfl rfl rfl ?_
    (repeat refine zo rfl rfl (by first|exact trivial|(simp only[AllP];omega)) ?_)
    refine o_loadA (b := ob) (off := i.toNat * 2) (vs := opC2 (opAt c i)) ?_ (fun j v hv => hL.cell (hLg j v hv)) rfl rfl rfl rfl rfl rfl ?_
    · show Value.pointer (some ⟨ob, 0 + i.toNat * 2, none⟩) = _
      rw [Nat.zero_add]
    refine o_storeA (cs := opC2 (opAt c i)) rfl hu1.blk (Nat.le_refl _) rfl (by simp [Value.oneCell']) rfl rfl rfl rfl ?_
    intro w4 hu4
    have k4 : Kp [] w w4 := k1.since (hu4.kp [bs] (.inl (by simp))) (by simp; omega)
    have hB4 : Blk w4 bs (opC2 (opAt c i)) 131 := hu4.blk
    (repeat first|refine zo rfl rfl trivial ?_|refine zn ?_|refine zr ?_)
    exact ⟨[.agg ⟨opC2 (opAt c i)⟩, _], ⟨⟨_, rfl, run_loadB hB4 rfl rfl rfl rfl⟩, ⟨_, rfl⟩, trivial⟩, by unfold opIn; rw [if_pos hin, if_pos hin]; rfl, k4⟩
  · refine r_yes rfl (by simp; omega) ?_
    (repeat first|refine zA ?_|refine zg ?_)
    refine o_build [I 0, I 0] rfl rfl rfl rfl rfl rfl rfl ?_
    refine o_storeA (cs := [I 0, I 0]) rfl hu1.blk (Nat.le_refl _) rfl (by simp [Value.oneCell']) rfl rfl rfl rfl ?_
    intro w4 hu4
    have k4 : Kp [] w w4 := k1.since (hu4.kp [bs] (.inl (by simp))) (by simp; omega)
    have hB4 : Blk w4 bs [I 0, I 0] 131 := hu4.blk
    (repeat first|refine zo rfl rfl trivial ?_|refine zn ?_|refine zr ?_)
    exact ⟨[.agg ⟨[I 0, I 0]⟩, _], ⟨⟨_, rfl, run_loadB hB4 rfl rfl rfl rfl⟩, ⟨_, rfl⟩, trivial⟩, by unfold opIn; rw [if_neg hin, if_neg hin]; rfl, k4⟩
theorem rStand_ret (h : RAt w g s c) (t : Int) : Ret Tryz.prog 53 [ptr g.p, I t] w (fun v w' => v = .tuple #[stdV (st c t), I (if 0 ≤ t ∧ t < s.th then 0 else 2)] ∧ Kp [] w w') := by
  have hth := h.ok.sh.1
  refine enterC Tryz.call53 Tryz.func53 rfl rfl rfl rfl ?_
  (repeat first|refine zA ?_|refine zg ?_)
  refine o_alloc rfl rfl rfl rfl ?_
  intro bs w1 hbs hu1
  have k1 : Kp [] w w1 := hu1.kp [] (.inr (by omega))
  have h1 := h.kp0 k1
  (repeat first|refine zA ?_|refine zB ?_|refine zg ?_|refine zo rfl rfl trivial ?_|refine zn ?_|refine zk ?_|refine zf rfl ?_)
  refine o_load rfl h1.hdr rfl rfl rfl rfl rfl ?_
  (repeat refine zo rfl rfl trivial ?_)
  refine o_call (below_ret t s.th.toNat) rfl rfl rfl ?_
  rintro v w3 ⟨rfl, rfl⟩
  (repeat first|refine zo rfl rfl trivial ?_|refine zn ?_)
  by_cases hin : 0 ≤ t ∧ t < s.th
  · refine r_no rfl (by simp; omega) ?_
    obtain ⟨ob, L, hoad, hL, _, hLg, _⟩ := h1.thr hin.1 hin.2
    have hh := h1.hdr
    rw [rgC, hoad] at hh
    (repeat first|refine zA ?_|refine zg ?_|refine zo rfl rfl trivial ?_|refine zk ?_)
    refine o_load (v := .slice (some ⟨ob, 0, none⟩) s.th.toNat g.tcap) rfl hh rfl rfl rfl rfl rfl ?_
    (repeat refine zo rfl rfl (by first|exact trivial|(simp only[AllP];omega)) ?_)
    refine o_loadA (b := ob) (off := t.toNat * 3) (vs := stdC (st c t)) ?_ (fun j v hv => hL.cell (hLg j v hv)) rfl rfl rfl rfl rfl rfl ?_
    · show Value.pointer (some ⟨ob, 0 + t.toNat * 3, none⟩) = _
      rw [Nat.zero_add]
    refine o_storeA (cs := stdC (st c t)) rfl hu1.blk (Nat.le_refl _) rfl (by simp [Value.oneCell']) rfl rfl rfl rfl ?_
    intro w4 hu4
    have k4 : Kp [] w w4 := k1.since (hu4.kp [bs] (.inl (by simp))) (by simp; omega)
    have hB4 : Blk w4 bs (stdC (st c t)) 136 := hu4.blk
    (repeat first|refine zo rfl rfl trivial ?_|refine zn ?_|refine zr ?_)
    exact ⟨[stdV (st c t), _], ⟨⟨_, rfl, run_loadB hB4 rfl rfl rfl rfl⟩, ⟨_, rfl⟩, trivial⟩, by rw [if_pos hin]; rfl, k4⟩
  · refine r_yes rfl (by simp; omega) ?_
    (repeat first|refine zA ?_|refine zg ?_)
    refine o_build [I 0, I 0, I 0] rfl rfl rfl rfl rfl rfl rfl ?_
    refine o_storeA (cs := [I 0, I 0, I 0]) rfl hu1.blk (Nat.le_refl _) rfl (by simp [Value.oneCell']) rfl rfl rfl rfl ?_
    intro w4 hu4
    have k4 : Kp [] w w4 := k1.since (hu4.kp [bs] (.inl (by simp))) (by simp; omega)
    have hB4 : Blk w4 bs [I 0, I 0, I 0] 136 := hu4.blk
    (repeat first|refine zo rfl rfl trivial ?_|refine zn ?_|refine zr ?_)
    exact ⟨[.agg ⟨[I 0, I 0, I 0]⟩, _], ⟨⟨_, rfl, run_loadB hB4 rfl rfl rfl rfl⟩, ⟨_, rfl⟩, trivial⟩, by rw [if_neg hin, st_out h.ok hin]; rfl, k4⟩
end
end Go.Vc
/- Equality of structs whose fields are all ints. -/
namespace Go.Vc
open Go
variable {P : Program} {n : Nat} {a : Act} {e : Env} {w : World} {K : EPost} {X : List (Nat × EPost)} {R : EPost} {all : List Oper} {G : List Nat} {ro : Ro} {Fl : World → Prop}
def okFields (P : Program) : List Field → Nat → Bool
  | [], _ => true
  | f :: r, k => (f.name != "_") && Nat.beq f.offset k && (match P.underlying f.type with | some (.int .i64) => true | _ => false) && okFields P r (k + 1)
def eqInts : List Int → List Int → Bool
  | [], [] => true
  | x :: r, y :: q => if x = y then eqInts r q else false
  | _, _ => false
theorem eqInts_iff : ∀ {l m : List Int}, eqInts l m = true ↔ l = m
  | [], [] => by simp [eqInts]
  | x :: r, y :: q => by
    simp only [eqInts]
    by_cases h : x = y
    · rw [if_pos h, eqInts_iff, h]; simp
    · rw [if_neg h]; simp [h]
  | [], _ :: _ => by simp [eqInts]
  | _ :: _, [] => by simp [eqInts]
theorem run_eqFields_ints (d : Nat) (xs ys : Array Value) : ∀ (fs : List Field) (k : Nat) (us bs : List Int), okFields P fs k = true → us.length = fs.length → bs.length = fs.length → (∀ j v, us[j]? = some v → xs[k + j]? = some (I v)) → (∀ j v, bs[j]? = some v → ys[k + j]? = some (I v)) →
    (Op.eqFields (d + 1) xs ys fs).run P w = .ok (eqInts us bs) w
  | [], k, us, bs, _, ha, hb, _, _ => by
    have e1 : us = [] := List.eq_nil_of_length_eq_zero (by simpa using ha)
    have e2 : bs = [] := List.eq_nil_of_length_eq_zero (by simpa using hb)
    subst e1 e2
    simp [Op.eqFields, eqInts]
  | f :: r, k, us, bs, h, ha, hb, hx, hy => by
    match us, bs, ha, hb with
    | x :: us, y :: bs, ha, hb =>
      simp only [okFields, Bool.and_eq_true, bne_iff_ne, ne_eq] at h
      obtain ⟨⟨⟨h1, h2⟩, h3⟩, h4⟩ := h
      have h2 := Nat.eq_of_beq_eq_true h2
      have h3' : P.underlying f.type = some (.int .i64) := by
        split at h3 <;> first | assumption | cases h3
      have ih := run_eqFields_ints d xs ys r (k + 1) us bs h4 (by simpa using ha) (by simpa using hb) (fun j v hv => by
        have := hx (j + 1) v (by simpa using hv)
        rwa [show k + (j + 1) = k + 1 + j by omega] at this) (fun j v hv => by
        have := hy (j + 1) v (by simpa using hv)
        rwa [show k + (j + 1) = k + 1 + j by omega] at this)
      have hx0 := hx 0 x rfl
      have hy0 := hy 0 y rfl
      rw [Nat.add_zero] at hx0 hy0
      have p1 : (part f.type xs f.offset).run P w = .ok (I x) w := by
        rw [h2]; simp [part, isAgg_run h3' rfl, hx0]
      have p2 : (part f.type ys f.offset).run P w = .ok (I y) w := by
        rw [h2]; simp [part, isAgg_run h3' rfl, hy0]
      simp only [Op.eqFields, Sem.run_bind, Sem.run_ite, if_pos h1, p1, p2, Result.andThen_ok, run_equalIn_int w d f.type .i64 .i64 x y h3', eqInts]
      by_cases hxy : x = y
      · simp [hxy, ih]
      · simp [hxy]
theorem run_eqS {t : TypeId} {us bs : List Int} (hu : P.underlying t = some (.struct (P.fieldsOf t))) (hp : P.stoodInHeld t = false) (hf : okFields P (P.fieldsOf t).toList 0 = true) (ha : Nat.beq us.length (P.fieldsOf t).toList.length = true) (hb : Nat.beq bs.length (P.fieldsOf t).toList.length = true) :
    (Op.equalIn 10000 t (.agg ⟨us.map I⟩) (.agg ⟨bs.map I⟩)).run P w = .ok (eqInts us bs) w := by
  rw [run_equalIn_agg w 9999 t _ _ hu hp]
  exact run_eqFields_ints 9998 _ _ _ 0 us bs hf (Nat.eq_of_beq_eq_true ha) (Nat.eq_of_beq_eq_true hb) (fun j v hv => by simp [hv]) (fun j v hv => by simp [hv])
section
variable {dst : Option Tmp} {ty ty2 : TypeId} {pos : String} {after : Array Edge} {g : Option (Nat × Bool)} {l : List Oper} {t : TypeId} {x y : Operand}
theorem exec_eqS {us bs : List Int} (hx : ev e x = .agg ⟨us.map I⟩) (hy : ev e y = .agg ⟨bs.map I⟩) (hu : P.underlying t = some (.struct (P.fieldsOf t))) (hp : P.stoodInHeld t = false) (hg : P.eqGuardType P.depth t = false) (hf : okFields P (P.fieldsOf t).toList 0 = true) (ha : Nat.beq us.length (P.fieldsOf t).toList.length = true) (hb : Nat.beq bs.length (P.fieldsOf t).toList.length = true) :
    (execOp (ev e) ⟨dst, .binOp .eql t x y ty2, ty, pos, after, g⟩).run P w = .ok (.value (.bool (eqInts us bs))) w := by
  simp only [execOp, Sem.run_bind, hx, hy, run_eqGuard_agg w .eql t x y _ _ hg, Result.andThen_ok, run_eql_struct, run_eqS hu hp hf ha hb, Sem.run_pure]
theorem o_eqS (us bs : List Int) (hx : ev e x = .agg ⟨us.map I⟩) (hy : ev e y = .agg ⟨bs.map I⟩) (hu : P.underlying t = some (.struct (P.fieldsOf t))) (hp : P.stoodInHeld t = false) (hg : P.eqGuardType P.depth t = false) (hf : okFields P (P.fieldsOf t).toList 0 = true) (ha : Nat.beq us.length (P.fieldsOf t).toList.length = true) (hb : Nat.beq bs.length (P.fieldsOf t).toList.length = true) (hd : dOk n dst = true) (hm : may all G e g = some true)
    (k : Ops ro P n all G K l (put e dst (.bool (eqInts us bs))) w) : Ops ro P n all G K (⟨dst, .binOp .eql t x y ty2, ty, pos, after, g⟩ :: l) e w :=
  ops_does hd hm (exec_eqS hx hy hu hp hg hf ha hb) k
end
end Go.Vc
/- Equality of arrays of two ints. -/
namespace Go.Vc
open Go
variable {P : Program} {n : Nat} {a : Act} {e : Env} {w : World} {K : EPost} {X : List (Nat × EPost)} {R : EPost} {all : List Oper} {G : List Nat} {ro : Ro} {Fl : World → Prop}
theorem run_eqA2 {t et : TypeId} {i : TypeInfo} (hu : P.underlying t = some (.array 2 et)) (hi : P.info? et = some i) (hc : P.cellsOf et = 1) (he : P.underlying et = some (.int .i64)) (a b x y : Int) :
    (Op.equalIn 10000 t (.agg ⟨[I a, I b]⟩) (.agg ⟨[I x, I y]⟩)).run P w = .ok (eqInts [a, b] [x, y]) w := by
  rw [run_equalIn_array w 9999 _ _ hu hi, hc]
  have p : ∀ (l : List Value) (j : Nat) (v : Value), l[j]? = some v → (part et ⟨l⟩ (j * 1)).run P w = .ok v w := fun l j v hv => by
    simp [part, isAgg_run he rfl, hv]
  have hr : List.range 2 = [0, 1] := rfl
  rw [hr]
  simp only [Op.eqItems, Sem.run_bind, p [I a, I b] 0 (I a) rfl, p [I a, I b] 1 (I b) rfl, p [I x, I y] 0 (I x) rfl, p [I x, I y] 1 (I y) rfl, Result.andThen_ok, run_equalIn_int w 9998 et .i64 .i64 _ _ he, eqInts, Sem.run_ite]
  by_cases h1 : a = x
  · by_cases h2 : b = y
    · simp [h1, h2]
    · simp [h1, h2]
  · simp [h1]
section
variable {dst : Option Tmp} {ty ty2 : TypeId} {pos : String} {after : Array Edge} {g : Option (Nat × Bool)} {l : List Oper} {t et : TypeId} {x y : Operand}
theorem o_eqA {i : TypeInfo} (a1 a2 b1 b2 : Int) (hx : ev e x = .agg ⟨[I a1, I a2]⟩) (hy : ev e y = .agg ⟨[I b1, I b2]⟩) (hu : P.underlying t = some (.array 2 et)) (hi : P.info? et = some i) (hc : P.cellsOf et = 1) (he : P.underlying et = some (.int .i64)) (hg : P.eqGuardType P.depth t = false) (hd : dOk n dst = true) (hm : may all G e g = some true)
    (k : Ops ro P n all G K l (put e dst (.bool (eqInts [a1, a2] [b1, b2]))) w) : Ops ro P n all G K (⟨dst, .binOp .eql t x y ty2, ty, pos, after, g⟩ :: l) e w :=
  ops_does hd hm (by simp only [execOp, Sem.run_bind, hx, hy, run_eqGuard_agg w .eql t x y _ _ hg, Result.andThen_ok, run_eql_struct, run_eqA2 hu hi hc he, Sem.run_pure]) k
theorem o_buildA {i ie : TypeInfo} {zc : Value} {parts : Array (Nat × Operand)} {m : Nat} (cs : List Value) (hu : P.underlying t = some (.array m et)) (hi : P.info? t = some i) (hz : i.zero = some zc) (hie : P.info? et = some ie)
    (hf : Instr.fill (fun j => some (j * ie.size, ie.size)) zc.cells (parts.toList.map fun (j, x) => (j, ev e x)) = some ⟨cs⟩) (hd : dOk n dst = true) (hm : may all G e g = some true)
    (k : Ops ro P n all G K l (put e dst (.agg ⟨cs⟩)) w) : Ops ro P n all G K (⟨dst, .build t parts, ty, pos, after, g⟩ :: l) e w := by
  refine ops_does hd hm ?_ k
  have hb : P.built t (parts.map fun (j, x) => (j, ev e x)).toList = some ⟨cs⟩ := by
    unfold Program.built
    simp only [hi, hu, hz, hie, Array.toList_map]
    exact hf
  simp only [execOp, Sem.run_bind, run_build w t _ _ hb, Result.andThen_ok, Sem.run_pure]
end
end Go.Vc
/- order: the plain model; Len, Event, Why. -/
namespace Go.Vc
open Go Go.Proofs
set_option maxRecDepth 10000
variable {w : World}
/-! ### The model -/
def evA (E : List Ev) (i : Nat) : Ev := (E[i]?).getD ⟨0, 0, 0⟩
def roA (R : List Int) (i : Nat) : Int := (R[i]?).getD 0
def whyEv (a b : Ev) (x y : Int) : Int :=
  if a.t = b.t then 1
  else if a.k = 7 ∧ a.o = b.t then 4
  else if b.k = 8 ∧ b.o = a.t then 5
  else if a.o ≠ b.o then 0
  else if a.k = 6 ∧ b.k = 5 then 2
  else if a.k = 4 ∧ b.k = 3 then 3
  else if a.k = 9 ∧ b.k = 10 then (if x = y then 6 else 0)
  else 0
def whyI (E : List Ev) (R : List Int) (i j : Int) : Int := if 0 ≤ i ∧ i < j ∧ j < E.length then whyEv (evA E i.toNat) (evA E j.toNat) (roA R i.toNat) (roA R j.toNat) else 0
def lk (E : List Ev) (R : List Int) (i j : Nat) : Prop := whyI E R i j ≠ 0
instance (E : List Ev) (R : List Int) (i j : Nat) : Decidable (lk E R i j) := inferInstanceAs (Decidable (_ ≠ _))
theorem lk_lt {E : List Ev} {R : List Int} {i j : Nat} (h : lk E R i j) : i < j ∧ j < E.length := by
  unfold lk whyI at h
  by_cases hc : 0 ≤ (i : Int) ∧ (i : Int) < j ∧ (j : Int) < E.length
  · omega
  · rw [if_neg hc] at h; exact absurd rfl h
theorem ch_lt {E : List Ev} {R : List Int} {i j : Nat} (h : Ch (lk E R) i j) : i < j ∧ j < E.length := by
  induction h with
  | one h => exact lk_lt h
  | more h _ ih => have := lk_lt h; omega
open Classical in
noncomputable def befI (E : List Ev) (R : List Int) (i j : Int) : Bool := decide (0 ≤ i ∧ 0 ≤ j ∧ Ch (lk E R) i.toNat j.toNat)
open Classical in
theorem befI_iff {E : List Ev} {R : List Int} {i j : Int} : befI E R i j = true ↔ (0 ≤ i ∧ 0 ≤ j ∧ Ch (lk E R) i.toNat j.toNat) := @decide_eq_true_iff _ _
theorem befI_nat {E : List Ev} {R : List Int} {i j : Nat} : befI E R i j = true ↔ Ch (lk E R) i j := by
  rw [befI_iff, Int.toNat_natCast, Int.toNat_natCast]
  exact ⟨fun h => h.2.2, fun h => ⟨by omega, by omega, h⟩⟩
theorem befI_lt {E : List Ev} {R : List Int} {i j : Int} (h : befI E R i j = true) : 0 ≤ i ∧ i < j ∧ j < E.length := by
  rw [befI_iff] at h
  have := ch_lt h.2.2
  omega
/-! ### In memory -/
structure OrG where
  p : Nat
  ead : Option Addr
  ecap : Nat
  rad : Option Addr
  rcap : Nat
  rp : Nat
  bs : List Nat
  M : List (List Nat)
  mad : Option Addr
  mcap : Nat
structure OrB (w : World) (g : OrG) (E : List Ev) (R : List Int) : Prop where
  hdr : Blk w g.p [.slice g.ead E.length g.ecap, .slice g.rad R.length g.rcap, ptr g.rp] 186
  ev : ReadS w g.ead (evsC E)
  ro : ReadS w g.rad (R.map I)
  lr : R.length = E.length
  small : E.length ≤ 2048
theorem OrB.kp {w' : World} {S : List Nat} {g : OrG} {E : List Ev} {R : List Int} (h : OrB w g E R) (hk : Kp S w w') (hS : ∀ b, b ∈ g.p :: (blkOf g.ead ++ blkOf g.rad) → b ∉ S) : OrB w' g E R :=
  ⟨hk.blk (hS _ (by simp)) h.hdr, h.ev.kp hk (fun b hb => hS b (by simp [hb])), h.ro.kp hk (fun b hb => hS b (by simp [hb])), h.lr, h.small⟩
theorem OrB.kp0 {w' : World} {g : OrG} {E : List Ev} {R : List Int} (h : OrB w g E R) (hk : Kp [] w w') : OrB w' g E R := h.kp hk (by simp)
theorem OrB.sm {w' : World} {g : OrG} {E : List Ev} {R : List Int} (h : OrB w g E R) (hk : Sm w w') : OrB w' g E R := h.kp0 (hk.kp [])
def evI (E : List Ev) (i : Int) : Ev := if 0 ≤ i ∧ i < E.length then evA E i.toNat else ⟨0, 0, 0⟩
section
variable {g : OrG} {E : List Ev} {R : List Int}
theorem OrB.evat (h : OrB w g E R) {i : Int} (h0 : 0 ≤ i) (h1 : i < E.length) : ∃ b off, g.ead = some ⟨b, off, none⟩ ∧ ∀ w', Kp [] w w' → ∀ j v, (evC (evA E i.toNat))[j]? = some v → w'.cell? ⟨b, off + i.toNat * 3 + j, none⟩ = some v := by
  obtain ⟨b, off, he, hb, hcell⟩ := h.ev.at_ (by rw [evsC_len]; omega)
  refine ⟨b, off, he, fun w' hk j v hv => ?_⟩
  have hx : E[i.toNat]? = some (evA E i.toNat) := by unfold evA; rw [List.getElem?_eq_getElem (by omega)]; rfl
  rw [Nat.add_assoc, ← hcell _ _ (evsC_get hx j v hv)]
  exact World.cell?_of_block (hk.at_ b hb (by simp))
theorem OrB.roat (h : OrB w g E R) {i : Int} (h0 : 0 ≤ i) (h1 : i < E.length) : ∃ b off, g.rad = some ⟨b, off, none⟩ ∧ ∀ w', Kp [] w w' → w'.cell? ⟨b, off + i.toNat, none⟩ = some (I (roA R i.toNat)) := by
  have := h.lr
  obtain ⟨b, off, he, hb, hcell⟩ := h.ro.at_ (by simp; omega)
  refine ⟨b, off, he, fun w' hk => ?_⟩
  rw [← hcell i.toNat (I (roA R i.toNat)) (by rw [List.getElem?_map]; unfold roA; rw [List.getElem?_eq_getElem (by omega)]; rfl)]
  exact World.cell?_of_block (hk.at_ b hb (by simp))
theorem oLen_ret (h : OrB w g E R) : Ret Tryz.prog 162 [ptr g.p] w (fun v w' => v = I E.length ∧ w' = w) := by
  refine enter Tryz.call162 Tryz.func162 rfl rfl rfl rfl ?_
  (repeat first|refine zA ?_|refine zB ?_|refine zg ?_|refine zo rfl rfl trivial ?_|refine zn ?_|refine zk ?_|refine zf rfl ?_)
  refine o_load rfl h.hdr rfl rfl rfl rfl rfl ?_
  (repeat first|refine zo rfl rfl trivial ?_|refine zn ?_|refine zr ?_)
  exact ⟨_, rfl, rfl, rfl⟩
theorem oEvent_ret (h : OrB w g E R) (i : Int) : Ret Tryz.prog 133 [ptr g.p, I i] w (fun v w' => v = .tuple #[.agg ⟨evC (evI E i)⟩, .bool (decide (0 ≤ i ∧ i < E.length))] ∧ Kp [] w w') := by
  refine enterC Tryz.call133 Tryz.func133 rfl rfl rfl rfl ?_
  (repeat first|refine zA ?_|refine zg ?_)
  refine o_alloc rfl rfl rfl rfl ?_
  intro bs w1 hbs hu1
  have k1 : Kp [] w w1 := hu1.kp [] (.inr (by omega))
  have h1 := h.kp0 k1
  (repeat first|refine zA ?_|refine zB ?_|refine zg ?_|refine zo rfl rfl trivial ?_|refine zn ?_)
  by_cases hin : 0 ≤ i ∧ i < E.length
  · obtain ⟨b, off, he, hcell⟩ := h1.evat hin.1 hin.2
    have hh := h1.hdr
    rw [he] at hh
    refine o_is false 2 false rfl rfl rfl (by simp; omega) ?_
    (repeat refine zo rfl rfl trivial ?_)
    refine o_call (oLen_ret h1) rfl rfl rfl ?_
    rintro v wx ⟨rfl, rfl⟩
    (repeat first|refine zo rfl rfl trivial ?_|refine zn ?_)
    refine r_no rfl (by simp; omega) ?_
    (repeat first|refine zA ?_|refine zg ?_|refine zo rfl rfl trivial ?_|refine zk ?_)
    refine o_load (v := .slice (some ⟨b, off, none⟩) E.length g.ecap) rfl hh rfl rfl rfl rfl rfl ?_
    (repeat refine zo rfl rfl (by first|exact trivial|(simp only[AllP];omega)) ?_)
    refine o_loadA (b := b) (off := off + i.toNat * 3) (vs := evC (evA E i.toNat)) rfl (hcell _ (Kp.refl _ _)) rfl rfl rfl rfl rfl rfl ?_
    refine o_storeA (cs := evC (evA E i.toNat)) rfl hu1.blk (Nat.le_refl _) rfl (by simp [Value.oneCell']) rfl rfl rfl rfl ?_
    intro w4 hu4
    have k4 : Kp [] w w4 := k1.since (hu4.kp [bs] (.inl (by simp))) (by simp; omega)
    have hB4 : Blk w4 bs (evC (evA E i.toNat)) 86 := hu4.blk
    (repeat first|refine zo rfl rfl trivial ?_|refine zn ?_|refine zr ?_)
    exact ⟨[.agg ⟨evC (evA E i.toNat)⟩, _], ⟨⟨_, rfl, run_loadB hB4 rfl rfl rfl rfl⟩, ⟨_, rfl⟩, trivial⟩, by unfold evI; rw [if_pos hin, decide_eq_true hin]; rfl, k4⟩
  · have fin : ∀ w4, Upd w1 bs (.cells ⟨evC ⟨0, 0, 0⟩⟩ 86 (0, 0)) w4 → Kp [] w w4 := fun w4 hu4 => k1.since (hu4.kp [bs] (.inl (by simp))) (by simp; omega)
    by_cases h0 : i < 0
    · refine o_is true 2 false rfl rfl rfl (by simp; omega) ?_
      (repeat first|refine zA ?_|refine zg ?_|refine zo rfl rfl trivial ?_|refine zn ?_|refine zt rfl ?_)
      refine o_build [I 0, I 0, I 0] rfl rfl rfl rfl rfl rfl rfl ?_
      refine o_storeA (cs := [I 0, I 0, I 0]) rfl hu1.blk (Nat.le_refl _) rfl (by simp [Value.oneCell']) rfl rfl rfl rfl ?_
      intro w4 hu4
      have hB4 : Blk w4 bs (evC ⟨0, 0, 0⟩) 86 := hu4.blk
      (repeat first|refine zo rfl rfl trivial ?_|refine zn ?_|refine zr ?_)
      exact ⟨[.agg ⟨evC ⟨0, 0, 0⟩⟩, _], ⟨⟨_, rfl, run_loadB hB4 rfl rfl rfl rfl⟩, ⟨_, rfl⟩, trivial⟩, by unfold evI; rw [if_neg hin, decide_eq_false hin]; rfl, fin w4 hu4⟩
    · refine o_is false 2 false rfl rfl rfl (by simp; omega) ?_
      (repeat refine zo rfl rfl trivial ?_)
      refine o_call (oLen_ret h1) rfl rfl rfl ?_
      rintro v wx ⟨rfl, rfl⟩
      (repeat first|refine zo rfl rfl trivial ?_|refine zn ?_)
      refine r_yes rfl (by simp; omega) ?_
      (repeat first|refine zA ?_|refine zg ?_)
      refine o_build [I 0, I 0, I 0] rfl rfl rfl rfl rfl rfl rfl ?_
      refine o_storeA (cs := [I 0, I 0, I 0]) rfl hu1.blk (Nat.le_refl _) rfl (by simp [Value.oneCell']) rfl rfl rfl rfl ?_
      intro w4 hu4
      have hB4 : Blk w4 bs (evC ⟨0, 0, 0⟩) 86 := hu4.blk
      (repeat first|refine zo rfl rfl trivial ?_|refine zn ?_|refine zr ?_)
      exact ⟨[.agg ⟨evC ⟨0, 0, 0⟩⟩, _], ⟨⟨_, rfl, run_loadB hB4 rfl rfl rfl rfl⟩, ⟨_, rfl⟩, trivial⟩, by unfold evI; rw [if_neg hin, decide_eq_false hin]; rfl, fin w4 hu4⟩
end
end Go.Vc
