/- Parts of a proof. -/
import Derived.Test.YtkgngbpkiklckaaGreatDoorQClQExact2
set_option maxHeartbeats 12800000
namespace Go.Vc
open Go
variable {P : Program} {n : Nat} {a : Act} {e : Env} {w : World} {K : Jc0} {X : List (Nat × Jc0)} {R : Jc0} {all : List Oper} {G : List Nat} {ro : Ro} {ds : List Deferred}
def memN (j : Nat) : List Nat → Bool
 | [] => false
 | i :: r => bif Nat.beq i j then true else memN j r
def AllP : List Prop → Prop
 | [] => True
 | [p] => p
 | p :: r => p ∧ AllP r
theorem AllP.cons {p : Prop} {r : List Prop} (hp : p) (hr : AllP r) : AllP (p :: r) := by
 cases r with
 | nil => exact hp
 | cons q r => exact ⟨hp, hr⟩
theorem AllP.head {p : Prop} {r : List Prop} (h : AllP (p :: r)) : p := by
 cases r with
 | nil => exact h
 | cons q r => exact h.1
theorem AllP.tail {p : Prop} {r : List Prop} (h : AllP (p :: r)) : AllP r := by
 cases r with
 | nil => trivial
 | cons q r => exact h.2
def Ql4 (all : List Oper) (j : Nat) : Option Tmp := (nthO all j).bind (·.dst)
def gval' (all : List Oper) (e : Env) (j : Nat) : Option Bool :=
 match Ql4 all j with
 | some t => (match e t with | .bool b => some b | _ => none)
 | none => none
theorem gval'_eq (j : Nat) : gval' all e j = gval all e j := by
 unfold gval' gval Ql4; rw [Js8]; rfl
def may (all : List Oper) (G : List Nat) (e : Env) : Option (Nat × Bool) → Option Bool
 | none => some true
 | some (j, want) => bif memN j G then (match gval' all e j with
  | some true => some want
  | some false => some (!want)
  | none => some false) else none
theorem Jd0 {o : Oper} {r : Bool} {a : Act} (hf : Fit n ds a e) (h : may all G e o.guard = some r) : Region.wanted o (yielded all.toArray a.tmps) = r := by
 have hy := hf.yielded all
 unfold may at h
 unfold Region.wanted
 cases hg : o.guard with
 | none => rw [hg] at h; simpa using h
 | some p =>
  obtain ⟨j, want⟩ := p
  rw [hg] at h
  dsimp only at h ⊢
  rw [hy]
  cases hm : memN j G with
  | false => rw [hm] at h; cases h
  | true =>
   rw [hm] at h
   dsimp only [cond_true] at h
   rw [gval'_eq] at h
   cases hv : gval all e j with
   | none => rw [hv] at h; cases h; rfl
   | some b => cases b <;> cases want <;> (rw [hv] at h; cases h; rfl)
def runP (P : Program) (n : Nat) (all : List Oper) (G : List Nat) : List Oper → List Prop → Env → List Prop × Env × List Oper
 | [], cs, e => (cs, e, [])
 | o :: l, cs, e =>
  match o with
  | ⟨dst, op, ty, pos, after, guard⟩ =>
   match dOk n dst, may all G e guard with
   | true, some true => (match Jr2 P e op with
    | some (none, v) => runP P n all G l cs (put e dst v)
    | some (some c, v) => runP P n all G l (c :: cs) (put e dst v)
    | none => (cs, e, ⟨dst, op, ty, pos, after, guard⟩ :: l))
   | true, some false => runP P n all G l cs (put e dst undef)
   | _, _ => (cs, e, ⟨dst, op, ty, pos, after, guard⟩ :: l)
def Ops (ro : Ro) (P : Program) (n : Nat) (all : List Oper) (_G : List Nat) (K : Jc0) (l : List Oper) (e : Env) (w : World) : Prop :=
 ∀ X R ds a, Fit n ds a e → wpListIn (FW ro) 0 P all.toArray (lift ro n ds K X R) l a w
def QOps (P : Program) (n : Nat) (all : List Oper) (_G : List Nat) (C : World → Prop) (K : Env → Prop) (l : List Oper) (e : Env) : Prop :=
 ∀ ds a, Fit n ds a e → wpQuiet P all.toArray C (fun a' => ∃ e', Fit n ds a' e' ∧ K e') l a
theorem Ja6 (h : K e w) : Ops ro P n all G K [] e w := fun _ _ _ _ ha => wpListIn_nil ⟨e, ha, h⟩
theorem sem_defer {o : Oper} {ρ : Operand → Value} {c : Call} (hc : o.op = .defer c) (x : Next) (w' : World) (h : (execOp ρ o).run P w = .ok x w') : ∃ d, x = .defer d := by
 unfold execOp at h
 rw [hc] at h
 simp only [Sem.run_bind] at h
 cases hr : (resolve ρ c o.type).run P w with
 | ok d w1 => rw [hr] at h; simp at h; exact ⟨d, h.1.symm⟩
 | halt x w1 => rw [hr] at h; simp at h
theorem Jk9 {o : Oper} {ρ : Operand → Value} {x : Next} {w' : World} (h : (execOp ρ o).run P w = .ok x w') (hx : ∀ d, x ≠ .defer d) : (o.semAt ro.round ρ).run P w = .ok x w' := by
 rw [Oper.semAt_eq ro.round ρ o (fun c hc => by obtain ⟨d, hd⟩ := sem_defer hc _ _ h; exact hx d hd)]
 exact h
theorem Jb5 {o : Oper} {l : List Oper} {v : Value} {w' : World} (hd : dOk n o.dst = true) (hm : may all G e o.guard = some true)
  (h : (execOp (ev e) o).run P w = .ok (.value v) w') (k : Ops ro P n all G K l (put e o.dst v) w') : Ops ro P n all G K (o :: l) e w := by
 intro X R ds a ha
 unfold wpListIn
 rw [if_pos (Jd0 ha hm)]
 unfold Oper.wpIn
 refine ⟨fun _ _ => trivial, ?_⟩
 have h' := Jk9 (ro := ro) h (by intro d hd; cases hd)
 rw [ha.eval]
 show o.uponIn _ _ _ _ _ _ ((o.semAt ro.round (ev e)).run P w)
 rw [h']
 exact k X R ds _ (ha.put _ _ hd)
theorem Jo8 {o : Oper} {l : List Oper} {w' : World} (hd : dOk n o.dst = true) (hm : may all G e o.guard = some true)
  (h : (execOp (ev e) o).run P w = .ok .skip w') (k : Ops ro P n all G K l (put e o.dst undef) w') : Ops ro P n all G K (o :: l) e w := by
 intro X R ds a ha
 unfold wpListIn
 rw [if_pos (Jd0 ha hm)]
 unfold Oper.wpIn
 refine ⟨fun _ _ => trivial, ?_⟩
 have h' := Jk9 (ro := ro) h (by intro d hd; cases hd)
 rw [ha.eval]
 show o.uponIn _ _ _ _ _ _ ((o.semAt ro.round (ev e)).run P w)
 rw [h']
 exact k X R ds _ (ha.put _ _ hd)
theorem ops_passes {o : Oper} {l : List Oper} (hd : dOk n o.dst = true) (hm : may all G e o.guard = some false) (k : Ops ro P n all G K l (put e o.dst undef) w) : Ops ro P n all G K (o :: l) e w := by
 intro X R ds a ha
 unfold wpListIn
 rw [if_neg (by rw [Jd0 ha hm]; simp)]
 exact ⟨fun _ _ => trivial, k X R ds _ (ha.put _ _ hd)⟩
theorem Jl1 {C : World → Prop} {K : Env → Prop} {o : Oper} {l : List Oper} {v : Value} (hd : dOk n o.dst = true) (hm : may all G e o.guard = some true)
  (h : ∀ w, C w → (execOp (ev e) o).run P w = .ok (.value v) w) (k : QOps P n all G C K l (put e o.dst v)) : QOps P n all G C K (o :: l) e := by
 intro ds a ha
 unfold wpQuiet
 rw [if_pos (Jd0 ha hm)]
 refine ⟨v, fun w hw => ?_, k ds _ (ha.put _ _ hd)⟩
 unfold Oper.quietAt
 rw [ha.eval, h w hw]
 exact ⟨rfl, rfl⟩
theorem qops_passes {C : World → Prop} {K : Env → Prop} {o : Oper} {l : List Oper} (hd : dOk n o.dst = true) (hm : may all G e o.guard = some false) (k : QOps P n all G C K l (put e o.dst undef)) : QOps P n all G C K (o :: l) e := by
 intro ds a ha
 unfold wpQuiet
 rw [if_neg (by rw [Jd0 ha hm]; simp)]
 exact k ds _ (ha.put _ _ hd)
theorem q_nil {C : World → Prop} {K : Env → Prop} (h : K e) : QOps P n all G C K [] e := fun _ _ ha => wpQuiet_nil ⟨e, ha, h⟩
theorem o_run' : ∀ (l : List Oper) (cs : List Prop) (e : Env), AllP (runP P n all G l cs e).1 →
  AllP cs ∧ (Ops ro P n all G K (runP P n all G l cs e).2.2 (runP P n all G l cs e).2.1 w → Ops ro P n all G K l e w)
 | [], cs, e, h => ⟨h, fun k => k⟩
 | ⟨dst, op, ty, pos, after, guard⟩ :: l, cs, e, h => by
  revert h
  rw [runP]
  cases hd : dOk n dst with
  | false => exact fun h => ⟨h, fun k => k⟩
  | true =>
   cases hm : may all G e guard with
   | none => exact fun h => ⟨h, fun k => k⟩
   | some m =>
    cases m with
    | false =>
     intro h
     have ih := o_run' l cs _ h
     exact ⟨ih.1, fun k => ops_passes (o := ⟨dst, op, ty, pos, after, guard⟩) hd hm (ih.2 k)⟩
    | true =>
     dsimp only
     cases hp : Jr2 P e op with
     | none => exact fun h => ⟨h, fun k => k⟩
     | some r =>
      obtain ⟨c, v⟩ := r
      cases c with
      | none =>
       intro h
       have ih := o_run' l cs _ h
       exact ⟨ih.1, fun k => Jb5 (o := ⟨dst, op, ty, pos, after, guard⟩) hd hm (Jf1 hp trivial) (ih.2 k)⟩
      | some c =>
       intro h
       have ih := o_run' l (c :: cs) _ h
       exact ⟨ih.1.tail, fun k => Jb5 (o := ⟨dst, op, ty, pos, after, guard⟩) hd hm (Jf1 hp ih.1.head) (ih.2 k)⟩
theorem q_run' {C : World → Prop} {K : Env → Prop} : ∀ (l : List Oper) (cs : List Prop) (e : Env), AllP (runP P n all G l cs e).1 →
  AllP cs ∧ (QOps P n all G C K (runP P n all G l cs e).2.2 (runP P n all G l cs e).2.1 → QOps P n all G C K l e)
 | [], cs, e, h => ⟨h, fun k => k⟩
 | ⟨dst, op, ty, pos, after, guard⟩ :: l, cs, e, h => by
  revert h
  rw [runP]
  cases hd : dOk n dst with
  | false => exact fun h => ⟨h, fun k => k⟩
  | true =>
   cases hm : may all G e guard with
   | none => exact fun h => ⟨h, fun k => k⟩
   | some m =>
    cases m with
    | false =>
     intro h
     have ih := q_run' (C := C) (K := K) l cs _ h
     exact ⟨ih.1, fun k => qops_passes (o := ⟨dst, op, ty, pos, after, guard⟩) hd hm (ih.2 k)⟩
    | true =>
     dsimp only
     cases hp : Jr2 P e op with
     | none => exact fun h => ⟨h, fun k => k⟩
     | some r =>
      obtain ⟨c, v⟩ := r
      cases c with
      | none =>
       intro h
       have ih := q_run' (C := C) (K := K) l cs _ h
       exact ⟨ih.1, fun k => Jl1 (o := ⟨dst, op, ty, pos, after, guard⟩) hd hm (fun _ _ => Jf1 hp trivial) (ih.2 k)⟩
      | some c =>
       intro h
       have ih := q_run' (C := C) (K := K) l (c :: cs) _ h
       exact ⟨ih.1.tail, fun k => Jl1 (o := ⟨dst, op, ty, pos, after, guard⟩) hd hm (fun _ _ => Jf1 hp ih.1.head) (ih.2 k)⟩
def lt' : List Oper → List Oper → Bool
 | [], _ :: _ => true
 | _ :: l, _ :: r => lt' l r
 | _, [] => false
theorem o_run {cs : List Prop} {e' : Env} {l l' : List Oper} (h : runP P n all G l [] e = (cs, e', l')) (_hl : lt' l' l = true) (hc : AllP cs) (k : Ops ro P n all G K l' e' w) : Ops ro P n all G K l e w := by
 have := o_run' (ro := ro) (P := P) (n := n) (all := all) (G := G) (K := K) (w := w) l [] e (by rw [h]; exact hc)
 rw [h] at this
 exact this.2 k
theorem q_run {C : World → Prop} {K : Env → Prop} {cs : List Prop} {e' : Env} {l l' : List Oper} (h : runP P n all G l [] e = (cs, e', l')) (_hl : lt' l' l = true) (hc : AllP cs) (k : QOps P n all G C K l' e') : QOps P n all G C K l e := by
 have := q_run' (P := P) (n := n) (all := all) (G := G) (C := C) (K := K) l [] e (by rw [h]; exact hc)
 rw [h] at this
 exact this.2 k
theorem Jt8 {t : Tmp} {v : Value} (h : e t = v) : put e (some t) v = e := by
 funext s
 simp only [put]
 by_cases hs : s = t
 ·subst hs; rw [Jx7, cond_true, h]
 ·rw [nbeq_ne hs, cond_false]
theorem Ja5 {o : Oper} {l : List Oper} {t : Tmp} {b : Bool} (j : Nat) (want : Bool) (hg : o.guard = some (j, want)) (ht : Ql4 all j = some t) (hb : e t = .bool b)
  (h1 : b = true → Ops ro P n all (j :: G) K (o :: l) (put e (some t) (.bool true)) w) (h0 : b = false → Ops ro P n all (j :: G) K (o :: l) (put e (some t) (.bool false)) w) : Ops ro P n all G K (o :: l) e w := by
 cases b with
 | true => have h := h1 rfl; rw [Jt8 hb] at h; exact h
 | false => have h := h0 rfl; rw [Jt8 hb] at h; exact h
theorem Ji0 {C : World → Prop} {K : Env → Prop} {o : Oper} {l : List Oper} {t : Tmp} {b : Bool} (j : Nat) (want : Bool) (hg : o.guard = some (j, want)) (ht : Ql4 all j = some t) (hb : e t = .bool b)
  (h1 : b = true → QOps P n all (j :: G) C K (o :: l) (put e (some t) (.bool true))) (h0 : b = false → QOps P n all (j :: G) C K (o :: l) (put e (some t) (.bool false))) : QOps P n all G C K (o :: l) e := by
 cases b with
 | true => have h := h1 rfl; rw [Jt8 hb] at h; exact h
 | false => have h := h0 rfl; rw [Jt8 hb] at h; exact h
theorem o_is {o : Oper} {l : List Oper} {t : Tmp} {b : Bool} (r : Bool) (j : Nat) (want : Bool) (_hg : o.guard = some (j, want)) (_ht : Ql4 all j = some t) (hb : e t = .bool b) (hr : b = r)
  (h : Ops ro P n all (j :: G) K (o :: l) (put e (some t) (.bool r)) w) : Ops ro P n all G K (o :: l) e w := by
 subst hr; rw [Jt8 hb] at h; exact h
theorem q_is {C : World → Prop} {K : Env → Prop} {o : Oper} {l : List Oper} {t : Tmp} {b : Bool} (r : Bool) (j : Nat) (want : Bool) (_hg : o.guard = some (j, want)) (_ht : Ql4 all j = some t) (hb : e t = .bool b) (hr : b = r)
  (h : QOps P n all (j :: G) C K (o :: l) (put e (some t) (.bool r))) : QOps P n all G C K (o :: l) e := by
 subst hr; rw [Jt8 hb] at h; exact h
theorem Jx3 {C : World → Prop} {K : Env → Prop} {o : Oper} {l : List Oper} (j : Nat) (want : Bool) (r : Option Bool) (_hg : o.guard = some (j, want)) (_hv : gval' all e j = r) (_hG : memN j G = false) (h : QOps P n all (j :: G) C K (o :: l) e) : QOps P n all G C K (o :: l) e := h
theorem r_region {id : Nat} {l : List Oper} (h : Ops ro P n l [] K l e w) : Wp ro P n (.region id l.toArray false) K X R e w :=
 fun ds a ha => wpIn_region_lit (h X R ds a ha)
theorem askedIn_wide {o : Oper} {a : Act} {C : World → Prop} : o.askedIn (FW ro) P a C := fun _ _ _ _ => trivial
theorem callsFW {f : FuncId} {args : Array Value} {m : Nat} {R : Ending → World → Prop} (h : Calls P f args w R) : CallsIn (FW ro) m P f args w R := by
 have h' : CallsIn Fence.wide m P f args w R := callsIn_wide.2 h
 obtain ⟨r, p⟩ := ro
 cases r with
 | none => exact h'
 | some l => exact CallsIn.inRound l h'
theorem Qe1 {f : FuncId} {args : Array Value} {m : Nat} {R : Ending → World → Prop} (h : CallsIn (FW Ro.no) m P f args w R) : Calls P f args w R := callsIn_wide.1 h
theorem Jo1 {ops : Array Oper} {C : World → Prop} {Q : Act → Prop} : ∀ (l : List Oper) (a : Act), wpQuiet P ops C Q l a → wpQuietIn (FW ro) 0 P ops C Q l a
 | [], _, h => h
 | o :: l, a, h => by
  unfold wpQuiet at h
  unfold wpQuietIn
  refine ⟨askedIn_wide, ?_⟩
  split
  ·rename_i hw
   rw [if_pos hw] at h
   obtain ⟨v, h1, h2⟩ := h
   refine ⟨v, fun w hw => ?_, Jo1 l _ h2⟩
   have := h1 w hw
   unfold Oper.quietAt at this
   unfold Oper.quietAtIn
   generalize (execOp a.eval o).run P w = r at this ⊢
   cases r with
   | ok x w' =>
    cases x <;> simp only [Oper.quietUpon] at this <;> simp only [Oper.quietUponIn]
    case value => exact this
    case skip => exact this
    case enter f args => exact ⟨this.1, (fun h => by cases h), callsFW this.2⟩
   | halt x w' => simp only [Oper.quietUpon] at this
  ·rename_i hw
   rw [if_neg hw] at h
   exact Jo1 l _ h
theorem Ju3 {o : Oper} {a : Act} {C : World → Prop} {K : Act → Prop} {K' : Act → World → Prop} {Q' : Exit → Act → World → Prop} (hw : C w) (h : ∀ a w', C w' → K a → K' a w')
  (hh : o.quietIn (FW ro) 0 P a C K) : o.wpIn (FW ro) 0 P a w K' Q' := by
 obtain ⟨v, h1, h2⟩ := hh
 have h3 := h1 w hw
 unfold Oper.quietAtIn at h3
 unfold Oper.wpIn
 refine ⟨fun _ _ => trivial, ?_⟩
 show o.uponIn _ _ _ _ _ _ ((o.semAt ro.round a.eval).run P w)
 generalize hr : (execOp a.eval o).run P w = r at h3
 cases r with
 | ok x w' =>
  cases x <;> simp only [Oper.quietUponIn] at h3
  case value u =>
   rw [Jk9 hr (by intro d hd; cases hd)]
   obtain ⟨e1, e2⟩ := h3
   rw [e1, e2]
   exact h _ _ hw h2
  case skip =>
   rw [Jk9 hr (by intro d hd; cases hd)]
   obtain ⟨e1, e2⟩ := h3
   subst e1 e2
   exact h _ _ hw h2
  case enter f args =>
   rw [Jk9 hr (by intro d hd; cases hd)]
   obtain ⟨e1, hd, hc⟩ := h3
   rw [e1]
   exact ⟨hd, hc.mono fun e w'' ⟨he, hw''⟩ => by subst he; exact h _ _ hw'' h2⟩
 | halt x w' => simp only [Oper.quietUponIn] at h3
theorem Qc4 {ops : Array Oper} {i : Nat} {a : Act} {C : World → Prop} {K : Act → Prop} {K' : Act → World → Prop} {Q' : Exit → Act → World → Prop} (hC : C w) (h : ∀ a w', C w' → K a → K' a w')
  (hh : qOpIn (FW ro) 0 P ops C i K a) : wpOpIn (FW ro) 0 P ops Q' i K' a w := by
 unfold qOpIn at hh
 unfold wpOpIn
 split
 ·rename_i ho; simp only [ho] at hh; exact h _ _ hC hh
 ·rename_i o ho
  simp only [ho] at hh
  obtain ⟨ha, hh⟩ := hh
  split
  ·rename_i hw; simp only [hw, if_true] at hh; exact Ju3 hC h hh
  ·rename_i hw; simp only [hw] at hh; exact ⟨ha w hC, h _ _ hC hh⟩
theorem Jp6 {ops : Array Oper} {md : Region.Mode} {C : World → Prop} {Q : Act → Prop} {Q' : Exit → Act → World → Prop} (hQ : ∀ a w, C w → Q a → Q' .normal a w) : ∀ (fuel : Nat) (listed : Array Bool) (a : Act) (w : World), C w →
  wpAnyQIn (FW ro) 0 P md ops C Q fuel listed a → wpAnyIn (FW ro) 0 P md ops Q' fuel listed a w
 | 0, _, _, _, hw, h => ⟨h.1, hQ _ _ hw h.2⟩
 | fuel + 1, _, _, _, hw, h => ⟨fun h0 => hQ _ _ hw (h.1 h0), fun i hi => Qc4 hw (fun a' w' hw' => Jp6 hQ fuel _ a' w' hw') (h.2 i hi)⟩
theorem r_quiet {id : Nat} {l : List Oper} (C : World → Prop) (hm : P.follows .mixedOrders = true) (hB : Region.lexB .any l.toArray = true) (hC : C { w with drawn := w.drawn + 1 })
  (h : QOps P n l [] C (fun e' => ∀ w', C w' → K e' w') l e) : Wp ro P n (.region id l.toArray true) K X R e w := by
 intro ds a ha
 have h := Jo1 (ro := ro) _ _ (h ds a ha)
 simp only [Region.lexB, Bool.and_eq_true] at hB
 refine wpIn_region_any hm (Jp6 (C := C) (Q := fun a' => ∃ e', Fit n ds a' e' ∧ ∀ w', C w' → K e' w') (fun a' w' hw' hq => ?_) _ _ _ _ hC ?_)
 ·obtain ⟨e', hf, hk⟩ := hq
  exact ⟨e', hf, hk w' hw'⟩
 ·have := wpAnyQIn_lex (F := FW ro) (n := 0) (C := C) (md := .any) hB.1 l 0 (Array.replicate l.toArray.size false) a sI (by simpa using hB.2) h
  simpa using this
theorem Jr3 {c : Code} (ss : List Nat) (vals : List Value) (d : Nat) (b : Bool) (J : World → Prop) (h : Wp ro P n c (fun e w => ss.map e = vals ∧ (∃ b', e d = .bool b' ∧ b' = b) ∧ J w) X R e w)
  (k : ∀ e w, J w → K (over e (d :: ss) (.bool b :: vals)) w) : Wp ro P n c K X R e w :=
 h.monoK fun e w ⟨h1, ⟨b', hb, h2⟩, h3⟩ => by
  have := k e w h3
  rwa [Jq9 (ss := d :: ss) (by simp only [List.map_cons, h1, hb, h2])] at this
theorem LetsOut.mono {Q Q' : Exit → Act → World → Prop} (hQ : ∀ x a w, Q x a w → Q' x a w) (h : LetsOut Q) : LetsOut Q' := let ⟨a, w, q⟩ := h; ⟨a, w, hQ _ _ _ q⟩
theorem Qh2 {F : Fence} {m : Nat} {o : Oper} {a : Act} {next next' : Act → World → Prop} {Q Q' : Exit → Act → World → Prop} (hn : ∀ a w, next a w → next' a w) (hQ : ∀ x a w, Q x a w → Q' x a w) (r : Result Next) (h : o.uponIn F m P a next Q r) :
  o.uponIn F m P a next' Q' r := by
 unfold Oper.uponIn at h ⊢
 split at h <;> first | exact hn _ _ h | exact h.elim | skip
 ·refine ⟨h.1, h.2.mono ?_⟩
  intro x w'' hx
  cases x with
  | returned v => exact hn _ _ hx
  | panicked c => exact hQ _ _ _ hx
  | outgrown => exact LetsOut.mono hQ hx
 ·exact ⟨h.1, h.2.mono fun v w'' hx => hn _ _ hx⟩
 ·refine ⟨h.1, h.2.mono ?_⟩
  intro x w'' hx
  cases x with
  | returned v => exact hn _ _ hx
  | panicked c => exact hQ _ _ _ hx
  | outgrown => exact LetsOut.mono hQ hx
 ·exact hQ _ _ _ h
theorem Jm4 {F : Fence} {m : Nat} {ops : Array Oper} {Q Q' : Exit → Act → World → Prop} (hQ : ∀ x a w, Q x a w → Q' x a w) : ∀ (l : List Oper) (a : Act) (w : World), wpListIn F m P ops Q l a w → wpListIn F m P ops Q' l a w
 | [], a, w, h => hQ _ _ _ h
 | o :: l, a, w, h => by
  unfold wpListIn at h ⊢
  split
  ·rename_i hw
   rw [if_pos hw] at h
   exact ⟨h.1, Qh2 (fun a w h => Jm4 hQ l a w h) hQ _ h.2⟩
  ·rename_i hw
   rw [if_neg hw] at h
   exact ⟨h.1, Jm4 hQ l _ _ h.2⟩
theorem Ops.monoK {K' : Jc0} {l : List Oper} (h : Ops ro P n all G K l e w) (hk : ∀ e w, K e w → K' e w) : Ops ro P n all G K' l e w :=
 fun X R ds a ha => Jm4 (fun x a w hq => by
  cases x with
  | normal => obtain ⟨e, hf, h⟩ := hq; exact ⟨e, hf, hk _ _ h⟩
  | exit i => exact hq
  | ret => exact hq
  | goto l => exact hq
  | panic c => exact hq
  | outgrown => exact hq) _ _ _ (h X R ds a ha)
theorem Jn9 {l : List Oper} (ss : List Nat) (vals : List Value) (d : Nat) (b : Bool) (J : World → Prop) (h : Ops ro P n all G (fun e w => ss.map e = vals ∧ (∃ b', e d = .bool b' ∧ b' = b) ∧ J w) l e w)
  (k : ∀ e w, J w → K (over e (d :: ss) (.bool b :: vals)) w) : Ops ro P n all G K l e w :=
 h.monoK fun e w ⟨h1, ⟨b', hb, h2⟩, h3⟩ => by
  have := k e w h3
  rwa [Jq9 (ss := d :: ss) (by simp only [List.map_cons, h1, hb, h2])] at this
def Jl8 (P : Program) (f : FuncId) : Prop := ∀ args w, (callFunc f args).run P w = .ok (.enter f args) w
def Ret (P : Program) (f : FuncId) (vs : List Value) (w : World) (R : Value → World → Prop) : Prop :=
 Jl8 P f ∧ Calls P f ⟨vs⟩ w (fun x w' => ∃ v, x = .returned v ∧ R v w')
theorem Ret.mono {f : FuncId} {vs : List Value} {R R' : Value → World → Prop} (h : Ret P f vs w R) (hr : ∀ v w', R v w' → R' v w') : Ret P f vs w R' :=
 ⟨h.1, h.2.mono fun _ _ ⟨v, hv, r⟩ => ⟨v, hv, hr _ _ r⟩⟩
theorem Jx5 {f : FuncId} {first cap : Array Value} {args : Array Operand} {ts : Array TypeId} {o : Oper} {fo : Operand} {vs : List Value} (ho : o.op = .call ⟨.value fo, args, ts⟩)
  (hf : ev e fo = .func (.func f) first cap) (ha : first.toList ++ args.toList.map (ev e) ++ cap.toList = vs) (hE : Jl8 P f) : (execOp (ev e) o).run P w = .ok (.enter f ⟨vs⟩) w := by
 have e1 : first ++ Array.map (ev e) args ++ cap = ⟨vs⟩ := by apply Array.ext'; simp [← ha]
 simp only [execOp, ho, resolve, Sem.run_bind, hf, Deferred.ofValue, Sem.run_pure, Result.andThen_ok, invoke, e1]
 exact hE _ _
theorem Jq3 {dst : Option Tmp} {ty : TypeId} {pos : String} {after : Array Edge} {g : Option (Nat × Bool)} {l : List Oper} {f : FuncId} {first cap : Array Value} {fo : Operand} {args : Array Operand} {ts : Array TypeId} {vs : List Value} {R : Value → World → Prop}
  (h : Ret P f vs w R) (hf : ev e fo = .func (.func f) first cap) (ha : first.toList ++ args.toList.map (ev e) ++ cap.toList = vs) (hd : dOk n dst = true) (hm : may all G e g = some true)
  (k : ∀ v w', R v w' → Ops ro P n all G K l (put e dst v) w') : Ops ro P n all G K (⟨dst, .call ⟨.value fo, args, ts⟩, ty, pos, after, g⟩ :: l) e w := by
 intro X R ds a hfit
 unfold wpListIn
 rw [if_pos (Jd0 (o := ⟨dst, .call ⟨.value fo, args, ts⟩, ty, pos, after, g⟩) hfit hm)]
 unfold Oper.wpIn
 refine ⟨fun _ _ => trivial, ?_⟩
 rw [hfit.eval]
 show Oper.uponIn _ _ _ _ _ _ _ ((Oper.semAt ro.round (ev e) ⟨dst, .call ⟨.value fo, args, ts⟩, ty, pos, after, g⟩).run P w)
 rw [Jk9 (Jx5 (o := ⟨dst, .call ⟨.value fo, args, ts⟩, ty, pos, after, g⟩) rfl hf ha h.1) (by intro d hd; cases hd)]
 refine ⟨(fun h => by cases h), callsFW (h.2.mono ?_)⟩
 rintro x w' ⟨v, rfl, r⟩
 exact k v w' r X R ds _ (hfit.put _ _ hd)
theorem o_call {dst : Option Tmp} {ty : TypeId} {pos : String} {after : Array Edge} {g : Option (Nat × Bool)} {l : List Oper} {f : FuncId} {args : Array Operand} {ts : Array TypeId} {vs : List Value} {R : Value → World → Prop}
  (h : Ret P f vs w R) (ha : args.toList.map (ev e) = vs) (hd : dOk n dst = true) (hm : may all G e g = some true)
  (k : ∀ v w', R v w' → Ops ro P n all G K l (put e dst v) w') : Ops ro P n all G K (⟨dst, .call ⟨.value (.func f), args, ts⟩, ty, pos, after, g⟩ :: l) e w :=
 Jq3 (first := #[]) (cap := #[]) h rfl (by simpa using ha) hd hm k
theorem Zc {dst : Option Tmp} {ty : TypeId} {pos : String} {after : Array Edge} {g : Option (Nat × Bool)} {l : List Oper} {f : FuncId} {args : Array Operand} {ts : Array TypeId} {vs : List Value} {R : Value → World → Prop} (h : Ret P f vs w R) (k : ∀ v w', R v w' → Ops ro P n all G K l (put e dst v) w') (ha : args.toList.map (ev e) = vs := by exact rfl) (hd : dOk n dst = true := by exact rfl) (hm : may all G e g = some true := by exact rfl) : Ops ro P n all G K (⟨dst, .call ⟨.value (.func f), args, ts⟩, ty, pos, after, g⟩ :: l) e w := o_call h ha hd hm k
theorem q_callv {C : World → Prop} {K : Env → Prop} {dst : Option Tmp} {ty : TypeId} {pos : String} {after : Array Edge} {g : Option (Nat × Bool)} {l : List Oper} {f : FuncId} {first cap : Array Value} {fo : Operand} {args : Array Operand} {ts : Array TypeId} {vs : List Value} (v : Value)
  (h : ∀ w, C w → Ret P f vs w (fun v' w' => v' = v ∧ C w')) (hE : Jl8 P f) (hf : ev e fo = .func (.func f) first cap) (ha : first.toList ++ args.toList.map (ev e) ++ cap.toList = vs) (hd : dOk n dst = true) (hm : may all G e g = some true)
  (k : QOps P n all G C K l (put e dst v)) : QOps P n all G C K (⟨dst, .call ⟨.value fo, args, ts⟩, ty, pos, after, g⟩ :: l) e := by
 intro ds a hfit
 unfold wpQuiet
 rw [if_pos (Jd0 (o := ⟨dst, .call ⟨.value fo, args, ts⟩, ty, pos, after, g⟩) hfit hm)]
 refine ⟨v, fun w hw => ?_, k ds _ (hfit.put _ _ hd)⟩
 unfold Oper.quietAt
 rw [hfit.eval, Jx5 (o := ⟨dst, .call ⟨.value fo, args, ts⟩, ty, pos, after, g⟩) rfl hf ha hE]
 refine ⟨rfl, (h w hw).2.mono ?_⟩
 rintro x w' ⟨_, rfl, rfl, hc⟩
 exact ⟨rfl, hc⟩
theorem q_call {C : World → Prop} {K : Env → Prop} {dst : Option Tmp} {ty : TypeId} {pos : String} {after : Array Edge} {g : Option (Nat × Bool)} {l : List Oper} {f : FuncId} {args : Array Operand} {ts : Array TypeId} {vs : List Value} (v : Value)
  (h : ∀ w, C w → Ret P f vs w (fun v' w' => v' = v ∧ C w')) (hE : Jl8 P f) (ha : args.toList.map (ev e) = vs) (hd : dOk n dst = true) (hm : may all G e g = some true)
  (k : QOps P n all G C K l (put e dst v)) : QOps P n all G C K (⟨dst, .call ⟨.value (.func f), args, ts⟩, ty, pos, after, g⟩ :: l) e :=
 q_callv (first := #[]) (cap := #[]) v h hE rfl (by simpa using ha) hd hm k
theorem Zk {C : World → Prop} {K : Env → Prop} {dst : Option Tmp} {ty : TypeId} {pos : String} {after : Array Edge} {g : Option (Nat × Bool)} {l : List Oper} {f : FuncId} {args : Array Operand} {ts : Array TypeId} {vs : List Value} (v : Value) (h : ∀ w, C w → Ret P f vs w (fun v' w' => v' = v ∧ C w')) (hE : Jl8 P f) (k : QOps P n all G C K l (put e dst v)) (ha : args.toList.map (ev e) = vs := by exact rfl) (hd : dOk n dst = true := by exact rfl) (hm : may all G e g = some true := by exact rfl) : QOps P n all G C K (⟨dst, .call ⟨.value (.func f), args, ts⟩, ty, pos, after, g⟩ :: l) e := q_call v h hE ha hd hm k
def nth : List Value → Nat → Value
 | [], _ => undef
 | v :: _, 0 => v
 | _ :: r, t + 1 => nth r t
theorem nth_eq : ∀ (l : List Value) (t : Nat), nth l t = l[t]?.getD undef
 | [], t => by simp [nth]
 | v :: r, 0 => by simp [nth]
 | v :: r, t + 1 => by simp [nth, nth_eq r t]
theorem Jp5 (args : List Value) (n : Nat) (h : args.length ≤ n) : Fit n [] { tmps := (⟨args⟩ : Array Value) ++ Array.replicate (n - (⟨args⟩ : Array Value).size) undef, defers := [] } (nth args) := by
 refine ⟨by simp; omega, fun t => ?_, rfl⟩
 rw [nth_eq, Array.getD_eq_getD_getElem?]
 by_cases ht : t < args.length
 ·rw [Array.getElem?_append_left (by simpa using ht)]
  simp
 ·rw [Array.getElem?_append_right (by simpa using ht)]
  simp only [Array.getElem?_replicate]
  rw [List.getElem?_eq_none oM]
  split <;> rfl
def Qj8 (e : Env) : List ResultVar → Option Value
 | [] => some (.tuple #[])
 | [.tmp t] => (match same (e t) with | some (_, v) => some v | none => none)
 | [.tmp t, .tmp u] => (match same (e t), same (e u) with | some (_, v), some (_, x) => some (.tuple #[v, x]) | _, _ => none)
 | [.tmp t, .tmp u, .tmp s] => (match same (e t), same (e u), same (e s) with | some (_, v), some (_, x), some (_, y) => some (.tuple #[v, x, y]) | _, _, _ => none)
 | _ => none
theorem Jf3 {fn : Func} {a : Act} {rs : List ResultVar} {v : Value} (hr : fn.results = ⟨rs⟩) (hf : Fit n ds a e) (h : Qj8 e rs = some v) : (results fn a.tmps).run P w = .ok v w := by
 have hg := hf.get
 unfold Qj8 at h
 split at h <;> first | (cases h; done) | skip
 ·cases h; simp only [results, hr]; simp [Sem.run_bind]
 all_goals split at h <;> first | (cases h; done) | skip
 ·rename_i h1; cases h; rw [Jg1 h1]; simp only [results, hr]; simp [Sem.run_bind, ← hg]
 ·rename_i h1 h2; cases h; rw [Jg1 h1, Jg1 h2]; simp only [results, hr]; simp [Sem.run_bind, ← hg]
 ·rename_i h1 h2 h3; cases h; rw [Jg1 h1, Jg1 h2, Jg1 h3]; simp only [results, hr]; simp [Sem.run_bind, ← hg]
theorem enter {f : FuncId} {fn : Func} {c : Code} {vs : List Value} {R : Value → World → Prop} (hE : Jl8 P f) (hf : P.funcs[f]? = some fn) (hb : fn.body = some c) (hn : fn.ntmps = n) {rs : List ResultVar} (hr : fn.results = ⟨rs⟩)
  (hl : Nat.ble vs.length n = true) (h : Wp Ro.no P n c (fun e w => ∃ v, Qj8 e rs = some v ∧ R v w) [] (fun e w => ∃ v, Qj8 e rs = some v ∧ R v w) (nth vs) w) : Ret P f vs w R := by
 refine ⟨hE, Qe1 (callsIn_of_wp (n := 0) hf hb trivial ?_)⟩
 rw [hn]
 refine wpIn_mono (h [] _ (Jp5 vs n (Nat.le_of_ble_eq_true hl))) ?_
 intro x a w hq
 cases x with
 | normal => obtain ⟨e, hfit, v, hv, hR⟩ := hq; exact ⟨hfit.defers, v, Jf3 hr hfit hv, v, rfl, hR⟩
 | ret => obtain ⟨e, hfit, v, hv, hR⟩ := hq; exact ⟨hfit.defers, v, Jf3 hr hfit hv, v, rfl, hR⟩
 | exit id => obtain ⟨J, e, hJ, _⟩ := hq; cases hJ
 | goto l => exact hq.elim
 | panic c => obtain ⟨v, _, _, h⟩ := hq; exact h.elim
 | outgrown => exact hq.elim
theorem Ze {f : FuncId} {fn : Func} {c : Code} {vs : List Value} {R : Value → World → Prop} {rs : List ResultVar} (hE : Jl8 P f) (hf : P.funcs[f]? = some fn) (h : Wp Ro.no P n c (fun e w => ∃ v, Qj8 e rs = some v ∧ R v w) [] (fun e w => ∃ v, Qj8 e rs = some v ∧ R v w) (nth vs) w) (hb : fn.body = some c := by exact rfl) (hn : fn.ntmps = n := by exact rfl) (hr : fn.results = ⟨rs⟩ := by exact rfl) (hl : Nat.ble vs.length n = true := by exact rfl) : Ret P f vs w R := enter hE hf hb hn hr hl h
abbrev zA := @r_seqR
abbrev zB := @r_seqS
abbrev zC := @r_seqB
abbrev zD := @r_seqC
abbrev zE := @r_seqSB
abbrev zg := @r_region
abbrev zb := @r_block
abbrev ze := @r_exit
abbrev zr := @r_ret
abbrev zk := @r_skip
abbrev zf := @r_cond_f
abbrev zt := @r_cond_t
abbrev zo := @o_run
abbrev zn := @Ja6
abbrev yo := @q_run
abbrev yn := @q_nil
theorem zT {o : Oper} {l : List Oper} {j : Nat} {want : Bool} (_hg : o.guard = some (j, want)) (_hv : gval' all e j = some true) (_hG : memN j G = false) (h : Ops ro P n all (j :: G) K (o :: l) e w) : Ops ro P n all G K (o :: l) e w := h
theorem zU {o : Oper} {l : List Oper} {j : Nat} {want : Bool} (_hg : o.guard = some (j, want)) (_hv : gval' all e j = some false) (_hG : memN j G = false) (h : Ops ro P n all (j :: G) K (o :: l) e w) : Ops ro P n all G K (o :: l) e w := h
theorem zV {o : Oper} {l : List Oper} {j : Nat} {want : Bool} (_hg : o.guard = some (j, want)) (_hv : gval' all e j = none) (_hG : memN j G = false) (h : Ops ro P n all (j :: G) K (o :: l) e w) : Ops ro P n all G K (o :: l) e w := h
abbrev cA := @Int.tdiv_eq_ediv_of_nonneg
abbrev cB := @Int.tmod_eq_emod_of_nonneg
abbrev cC := @List.length_take
abbrev cD := @List.length_drop
abbrev cE := @List.length_append
abbrev cF := @List.length_cons
abbrev cG := @List.length_nil
end Go.Vc

