/- A range over a function: yield, the round, the iterator's contract, the statement. -/
import Derived.Test.YtghdpibdidfpbaaDoorQClNPlays5
namespace Go.Vc
open Go
variable {P : Program} {n : Nat} {a : Act} {e : Env} {w : World} {K : EPost} {X : List (Nat × EPost)} {R : EPost} {all : List Oper} {G : List Nat} {ro : Option Nat}

/-! ### A call of yield -/
abbrev yv (l : Nat) : Value := .func (.yield l) #[] #[]
/-- A call of yield in this world: the round comes to its end, and this is known of its bool and of the world it leaves. -/
def YieldR (P : Program) (l : Nat) (vs : List Value) (w : World) (R : Bool → World → Prop) : Prop :=
  ∃ fn tmps assign body, (Instr.yield l ⟨vs⟩).run P w = .ok (.round l fn tmps assign body) w ∧ RoundIn (FW none) 0 P l fn tmps assign body w (fun x w' => ∃ b, x = .returned (.bool b) ∧ R b w')
theorem YieldR.mono {l : Nat} {vs : List Value} {R R' : Bool → World → Prop} (h : YieldR P l vs w R) (hr : ∀ b w', R b w' → R' b w') : YieldR P l vs w R' :=
  let ⟨fn, tmps, assign, body, h1, h2⟩ := h
  ⟨fn, tmps, assign, body, h1, h2.mono fun _ _ ⟨b, hb, r⟩ => ⟨b, hb, hr _ _ r⟩⟩

theorem exec_yield {l : Nat} {args : Array Operand} {ts : Array TypeId} {o : Oper} {fo : Operand} {vs : List Value} {fn : FuncId} {tmps : Array Value} {assign body : Code} (ho : o.op = .call ⟨.value fo, args, ts⟩)
    (hf : ev e fo = yv l) (ha : args.toList.map (ev e) = vs) (hy : (Instr.yield l ⟨vs⟩).run P w = .ok (.round l fn tmps assign body) w) : (execOp (ev e) o).run P w = .ok (.round l fn tmps assign body) w := by
  have e1 : #[] ++ Array.map (ev e) args = (⟨vs⟩ : Array Value) := by apply Array.ext'; simp [← ha]
  simp only [execOp, ho, resolve, Sem.run_bind, hf, Deferred.ofValue, Sem.run_pure, Result.andThen_ok, invoke]
  simp only [Array.append_empty, e1]
  exact hy
theorem o_yield {dst : Option Tmp} {ty : TypeId} {pos : String} {after : Array Edge} {g : Option (Nat × Bool)} {l : List Oper} {y : Nat} {fo : Operand} {args : Array Operand} {ts : Array TypeId} {vs : List Value} {R : Bool → World → Prop}
    (h : YieldR P y vs w R) (hf : ev e fo = yv y) (ha : args.toList.map (ev e) = vs) (hd : dOk n dst = true) (hm : may all G e g = some true)
    (k : ∀ b w', R b w' → Ops none P n all G K l (put e dst (.bool b)) w') : Ops none P n all G K (⟨dst, .call ⟨.value fo, args, ts⟩, ty, pos, after, g⟩ :: l) e w := by
  obtain ⟨fn, tmps, assign, body, hy, hR⟩ := h
  intro X R' ds a hfit
  unfold wpListIn
  rw [if_pos (may_wanted (o := ⟨dst, .call ⟨.value fo, args, ts⟩, ty, pos, after, g⟩) hfit hm)]
  unfold Oper.wpIn
  refine ⟨fun _ _ => trivial, ?_⟩
  rw [hfit.eval]
  show Oper.uponIn _ _ _ _ _ _ _ ((Oper.semAt none (ev e) ⟨dst, .call ⟨.value fo, args, ts⟩, ty, pos, after, g⟩).run P w)
  rw [semAt_ok (exec_yield (o := ⟨dst, .call ⟨.value fo, args, ts⟩, ty, pos, after, g⟩) rfl hf ha hy) (by intro d hd; cases hd)]
  refine ⟨(fun h => by cases h), hR.mono ?_⟩
  rintro x w' ⟨b, rfl, r⟩
  exact k b w' r X R' ds _ (hfit.put _ _ hd)

/-! ### One round -/
theorem upd_putObj {b : Nat} {o : Obj} (h : b < w.heap.size) : Upd w b o (w.putObj b o) :=
  ⟨rfl, rfl, rfl, World.putObj_heap_same h, fun k hk => World.putObj_heap_other hk, by simp, by simp; omega⟩
/-- the round's end: the record turns, yield's bool goes to R -/
def Endr (l : Nat) (jump : Option Code) (R : Bool → World → Prop) (w : World) : Prop :=
  ∃ r, w.heap[l]? = some (.loop r) ∧ ∀ w', Upd w l (.loop { r with state := if jump.isNone then .ready else .done, pending := jump }) w' → R jump.isNone w'
def exits (l : Nat) (R : Bool → World → Prop) : List Nat → List (Nat × EPost)
  | [] => []
  | i :: r => (i, fun _ w => Endr l (some (.exit i)) R w) :: exits l R r
theorem look_exits {l : Nat} {R : Bool → World → Prop} : ∀ {ids : List Nat} {i : Nat} {J : EPost}, look (exits l R ids) i = some J → J = fun _ w => Endr l (some (.exit i)) R w
  | [], _, _, h => by cases h
  | j :: r, i, J, h => by
    simp only [exits, look] at h
    by_cases hi : i = j
    · subst hi; rw [nbeq_self] at h; simp at h; exact h.symm
    · rw [nbeq_ne hi] at h; exact look_exits h
theorem fit_over : ∀ (ps : List Nat) (vs : List Value) (tmps : Array Value) (e : Env), tmps.size = n → (∀ t, tmps.getD t undef = e t) → (∀ p, p ∈ ps → p < n) → vs.length = ps.length →
    Fit n [] { tmps := (ps.zip vs).foldl (fun tmps (x : Nat × Value) => tmps.setIfInBounds x.1 x.2) tmps, defers := [] } (over e ps.reverse vs.reverse) := by
  intro ps
  induction ps with
  | nil => intro vs tmps e h1 h2 _ h4; exact ⟨h1, fun t => by cases vs <;> exact h2 t, rfl⟩
  | cons p ps ih =>
    intro vs tmps e h1 h2 h3 h4
    cases vs with
    | nil => cases h4
    | cons v vs =>
      simp only [List.zip_cons_cons, List.foldl_cons]
      have hp : p < n := h3 p (by simp)
      have := ih vs (tmps.setIfInBounds p v) (put e (some p) v) (by simp [h1]) (fun t => ?_) (fun q hq => h3 q (by simp [hq])) (by simpa using h4)
      · have e1 : over (put e (some p) v) ps.reverse vs.reverse = over e (p :: ps).reverse (v :: vs).reverse := by
          simp only [List.reverse_cons]
          have : ∀ (a : List Nat) (b : List Value), a.length = b.length → over (put e (some p) v) a b = over e (a ++ [p]) (b ++ [v]) := by
            intro a
            induction a with
            | nil => intro b hb; cases b with
              | nil => rfl
              | cons _ _ => cases hb
            | cons x a iha => intro b hb; cases b with
              | nil => cases hb
              | cons y b => simp only [over, List.cons_append]; rw [iha b (by simpa using hb)]
          exact this _ _ (by simpa using h4.symm)
        rw [← e1]; exact this
      · have hg := h2 t
        simp only [put]
        by_cases ht : t = p
        · subst ht; rw [nbeq_self]; simp [h1, hp]
        · rw [nbeq_ne ht]
          simp only [cond_false, ← hg, Array.getD_eq_getD_getElem?, Array.getElem?_setIfInBounds]
          rw [if_neg (fun h => ht h.symm)]
/-- ONE ROUND, out of the walks of its assignment and of its body. -/
theorem y_round {l : Nat} {r : Loop} {vs : List Value} {R : Bool → World → Prop} (ids : List Nat) (hW : w.heap[l]? = some (.loop r)) (hr : r.state = .ready) (h1 : r.tmps.size = n) (h2 : ∀ t, r.tmps.getD t undef = e t) {ps : List Nat} (hps : r.params = ⟨ps⟩) (hp : ∀ p, p ∈ ps → p < n) (hl : vs.length = ps.length)
    (h : Wp (some l) P n r.assign (fun e1 w1 => w1.heap[l]? = some (.loop r) ∧ ∀ w2, Upd w1 l (.loop { r with state := .busy }) w2 →
      Wp (some l) P n r.body (fun _ w3 => Endr l none R w3) (exits l R ids) (fun _ w3 => Endr l (some .ret) R w3) e1 w2) [] (fun _ _ => False) (over e ps.reverse vs.reverse) w) : YieldR P l vs w R := by
  refine ⟨r.fn, _, r.assign, r.body, run_yield hW (by rw [hps]; simpa using hl), roundIn_of_wpIn trivial ?_⟩
  have ef : Array.foldl (fun tmps (x : Tmp × Value) => match x with | (t, a) => tmps.setIfInBounds t a) r.tmps (r.params.zip ⟨vs⟩) = (ps.zip vs).foldl (fun tmps (x : Nat × Value) => tmps.setIfInBounds x.1 x.2) r.tmps := by
    rw [hps, ← Array.foldl_toList]; simp
  rw [ef]
  refine wpIn_mono (h [] _ (fit_over ps vs r.tmps e h1 h2 hp hl)) ?_
  intro x a1 w1 hq
  cases x with
  | normal =>
    obtain ⟨e1, hf1, hl1, hb⟩ := hq
    have hlt : l < w1.heap.size := (Array.getElem?_eq_some_iff.1 hl1).1
    refine ⟨w1.putObj l (.loop { r with state := .busy }), run_beginRound hl1 hr, ?_⟩
    refine wpIn_mono (hb _ (upd_putObj hlt) [] a1 hf1) ?_
    intro x a2 w2 hq
    have fin : ∀ jump, Endr l jump R w2 → ∃ v w', (Instr.endRound l jump).run P w2 = .ok v w' ∧ (∃ b, Ending.returned v = .returned (.bool b) ∧ R b w') := by
      rintro jump ⟨r2, hr2, hE⟩
      exact ⟨_, _, run_endRound jump hr2, _, rfl, hE _ (upd_putObj (Array.getElem?_eq_some_iff.1 hr2).1)⟩
    cases x with
    | normal => obtain ⟨_, _, hE⟩ := hq; exact fin _ hE
    | exit i => obtain ⟨J, _, hJ, _, hE⟩ := hq; rw [look_exits hJ] at hE; exact fin _ hE
    | ret => obtain ⟨_, _, hE⟩ := hq; exact fin _ hE
    | goto l => exact hq.elim
    | panic c => exact hq.elim
    | outgrown => exact hq.elim
  | exit i => obtain ⟨J, _, hJ, _⟩ := hq; cases hJ
  | ret => obtain ⟨_, _, hE⟩ := hq; exact hE.elim
  | goto l => exact hq.elim
  | panic c => exact hq.elim
  | outgrown => exact hq.elim

/-! ### Worlds that differ in loops' records and blocks for deferred calls alone -/
def isBook : Obj → Bool
  | .loop _ => true
  | .deferred _ => true
  | _ => false
/-- of the old blocks none has turned but loops' records and the like, these from B on -/
structure Nc (B : Nat) (w w' : World) : Prop where
  os : w'.os = w.os
  tape : w'.tape = w.tape
  output : w'.output = w.output
  size : w.heap.size ≤ w'.heap.size
  at_ : ∀ k o, w.heap[k]? = some o → (k < B ∨ isBook o = false) → w'.heap[k]? = some o
theorem Nc.refl (B : Nat) (w : World) : Nc B w w := ⟨rfl, rfl, rfl, Nat.le_refl _, fun _ _ h _ => h⟩
theorem Nc.trans {B : Nat} {w1 w2 w3 : World} (h : Nc B w1 w2) (k : Nc B w2 w3) : Nc B w1 w3 :=
  ⟨k.os.trans h.os, k.tape.trans h.tape, k.output.trans h.output, Nat.le_trans h.size k.size, fun i o hi ho => k.at_ i o (h.at_ i o hi ho) ho⟩
theorem Kp.nc {w w' : World} (h : Kp [] w w') (B : Nat) : Nc B w w' :=
  ⟨h.os, h.tape, h.output, h.size, fun k o hk _ => (h.at_ k (Array.getElem?_eq_some_iff.1 hk).1 (by simp)).trans hk⟩
theorem Sm.nc {w w' : World} (h : Sm w w') (B : Nat) : Nc B w w' := (h.kp []).nc B
theorem Upd.nc {w w' : World} {b B : Nat} {o : Obj} (h : Upd w b o w') (hb : B ≤ b) (hk : ∀ x, w.heap[b]? = some x → isBook x = true) : Nc B w w' :=
  ⟨h.os, h.tape, h.output, h.size, fun k x hx hB => by
    by_cases e : k = b
    · subst e
      rcases hB with hB | hB
      · omega
      · rw [hk x hx] at hB; cases hB
    · rw [h.other k e]; exact hx⟩
theorem Nc.blk {B : Nat} {w w' : World} (h : Nc B w w') {b : Nat} {l : List Value} {T : TypeId} (k : Blk w b l T) : Blk w' b l T := h.at_ b _ k (.inr rfl)
theorem Nc.kp {B : Nat} {S : List Nat} {w0 w w' : World} (h : Nc B w w') (k : Kp S w0 w) (hB : w0.heap.size ≤ B) : Kp S w0 w' :=
  ⟨h.os.trans k.os, h.tape.trans k.tape, h.output.trans k.output, Nat.le_trans k.size h.size, fun i hi hS => by
    have h1 := k.at_ i hi hS
    rw [← h1]
    have hlt : i < w.heap.size := Nat.lt_of_lt_of_le hi k.size
    have h2 : w.heap[i]? = some w.heap[i] := by simp [hlt]
    rw [h2]
    exact h.at_ i _ h2 (.inl (by omega))⟩
theorem Nc.own {B : Nat} {w w' : World} (h : Nc B w w') {T : TypeId} {size : Nat} {ad : Option Addr} {n cap : Nat} {xs : List Value} (k : OwnS w T size ad n cap xs) : OwnS w' T size ad n cap xs := by
  refine ⟨k.1, ?_⟩
  cases ad with
  | none => exact k.2
  | some ad =>
    obtain ⟨h1, h2, h3, h4, junk, h5, h6⟩ := k.2
    exact ⟨h1, h2, h3, h4, junk, h.blk h5, h6⟩
theorem Nc.at_lt {B : Nat} {w w' : World} (h : Nc B w w') {k : Nat} (hk : k < B) (hs : k < w.heap.size) : w'.heap[k]? = w.heap[k]? := by
  have h2 : w.heap[k]? = some w.heap[k] := by simp [hs]
  rw [h2]; exact h.at_ k _ h2 (.inl hk)
theorem Nc.mono {B B' : Nat} {w w' : World} (h : Nc B w w') (hb : B' ≤ B) : Nc B' w w' := ⟨h.os, h.tape, h.output, h.size, fun k o hk ho => h.at_ k o hk (ho.imp (fun h => by omega) id)⟩

/-! ### The iterator's contract -/
/-- the function f with these values captured tells xs, one by one, and leans on the blocks Fp alone -/
def Iter (P : Program) (f : FuncId) (lb : List Value) (Fp : List Nat) {α : Type} (enc : α → List Value) (xs : List α) (w0 : World) : Prop :=
  (∀ b, b ∈ Fp → b < w0.heap.size) ∧
  ∀ (l : Nat) (w : World) (J : List α → World → Prop) (Jx : List α → World → Prop), w0.heap.size ≤ w.heap.size → (∀ pre w, J pre w → ∀ b, b ∈ Fp → w.heap[b]? = w0.heap[b]?) → (∀ pre w w', J pre w → Kp [] w w' → J pre w') → J [] w →
    (∀ pre x post w, xs = pre ++ x :: post → J pre w → YieldR P l (enc x) w (fun b w' => (b = true ∧ J (pre ++ [x]) w') ∨ (b = false ∧ Jx (pre ++ [x]) w'))) →
    (∀ pre w w', Jx pre w → Kp [] w w' → Jx pre w') →
    Ret P f (yv l :: lb) w (fun _ w' => J xs w' ∨ ∃ pre post, xs = pre ++ post ∧ Jx pre w')
theorem Iter.kp {f : FuncId} {lb : List Value} {Fp : List Nat} {α : Type} {enc : α → List Value} {xs : List α} {w0 w1 : World} (h : Iter P f lb Fp enc xs w0) (hs : w0.heap.size ≤ w1.heap.size) (hk : ∀ b, b ∈ Fp → w1.heap[b]? = w0.heap[b]?) : Iter P f lb Fp enc xs w1 :=
  ⟨fun b hb => Nat.lt_of_lt_of_le (h.1 b hb) hs, fun l w J Jx hw hp => h.2 l w J Jx (Nat.le_trans hs hw) (fun pre w hj b hb => (hp pre w hj b hb).trans (hk b hb))⟩

/-! ### A function with outermost loops over functions: its marks -/
abbrev MPost := List Nat → Env → World → Prop
def markOf (D : Nat) : Deferred := { target := .collected D, args := #[] }
def liftM (n : Nat) (K : MPost) (X : List (Nat × MPost)) (R : MPost) : Exit → Act → World → Prop
  | .normal, a, w => ∃ ds e, Fit n (ds.map markOf) a e ∧ K ds e w
  | .exit id, a, w => ∃ J ds e, (X.find? (fun x => x.1 == id)).map (·.2) = some J ∧ Fit n (ds.map markOf) a e ∧ J ds e w
  | .ret, a, w => ∃ ds e, Fit n (ds.map markOf) a e ∧ R ds e w
  | _, _, _ => False
def WpM (P : Program) (n : Nat) (c : Code) (K : MPost) (X : List (Nat × MPost)) (R : MPost) (ds : List Nat) (e : Env) (w : World) : Prop :=
  ∀ a, Fit n (ds.map markOf) a e → c.wpIn (FW none) 0 P (liftM n K X R) a w
def atDs (ds : List Nat) : List (Nat × MPost) → List (Nat × EPost)
  | [] => []
  | (i, J) :: r => (i, J ds) :: atDs ds r
theorem look_atDs {ds : List Nat} : ∀ {X : List (Nat × MPost)} {i : Nat} {J : EPost}, look (atDs ds X) i = some J → ∃ J', (X.find? (fun x => x.1 == i)).map (·.2) = some J' ∧ J = J' ds
  | [], _, _, h => by cases h
  | (j, J') :: r, i, J, h => by
    simp only [atDs, look] at h
    by_cases hi : i = j
    · subst hi; rw [nbeq_self] at h; simp at h; exact ⟨J', by simp, h.symm⟩
    · rw [nbeq_ne hi] at h
      obtain ⟨J2, h1, h2⟩ := look_atDs h
      have : (j == i) = false := by simpa using fun h => hi h.symm
      exact ⟨J2, by simpa [List.find?, this] using h1, h2⟩
section
variable {KM : MPost} {XM : List (Nat × MPost)} {RM : MPost} {ds : List Nat}
/-- code without an outermost loop over a function -/
theorem m_of {c : Code} (h : Wp none P n c (KM ds) (atDs ds XM) (RM ds) e w) : WpM P n c KM XM RM ds e w := by
  intro a ha
  refine wpIn_mono (h _ a ha) ?_
  intro x a w hq
  cases x with
  | normal => obtain ⟨e, hf, hk⟩ := hq; exact ⟨ds, e, hf, hk⟩
  | exit i => obtain ⟨J, e, hJ, hf, hj⟩ := hq; obtain ⟨J', h1, rfl⟩ := look_atDs hJ; exact ⟨J', ds, e, h1, hf, hj⟩
  | ret => obtain ⟨e, hf, hk⟩ := hq; exact ⟨ds, e, hf, hk⟩
  | goto l => exact hq
  | panic c => exact hq
  | outgrown => exact hq
theorem m_seq {x y : Code} (h : WpM P n x (fun ds e w => WpM P n y KM XM RM ds e w) XM RM ds e w) : WpM P n (.seq x y) KM XM RM ds e w := by
  intro a ha
  refine wpIn_seq (wpIn_mono (h a ha) ?_)
  intro x a w hq
  cases x with
  | normal => obtain ⟨ds, e, hf, hk⟩ := hq; exact hk a hf
  | exit id => exact hq
  | ret => exact hq
  | goto l => exact hq
  | panic c => exact hq
  | outgrown => exact hq
theorem m_block {id : Nat} {c : Code} (h : WpM P n c KM ((id, KM) :: XM) RM ds e w) : WpM P n (.block id c) KM XM RM ds e w := by
  intro a ha
  refine wpIn_block (wpIn_mono (h a ha) ?_)
  intro x a w hq
  cases x with
  | normal => exact hq
  | exit i =>
    obtain ⟨J, ds, e, hJ, hf, hj⟩ := hq
    simp only [Exit.inBlock]
    by_cases hi : i = id
    · subst hi
      rw [if_pos rfl]
      simp at hJ
      subst hJ
      exact ⟨ds, e, hf, hj⟩
    · rw [if_neg hi]
      have : (id == i) = false := by simpa using fun h => hi h.symm
      exact ⟨J, ds, e, by simpa [List.find?, this] using hJ, hf, hj⟩
  | ret => exact hq
  | goto l => exact hq
  | panic c => exact hq
  | outgrown => exact hq
/-- what was opened is shut where the function ends -/
def Shut (Q : World → Prop) : List Nat → World → Prop
  | [], w => Q w
  | D :: ds, w => w.heap[D]? = some (.deferred (some [])) ∧ ∀ w', Upd w D (.deferred none) w' → Shut Q ds w'
theorem leaves_of_shut {fn : Func} {tmps : Array Value} {Q : World → Prop} {v : Value} {RE : Ending → World → Prop} (hv : ∀ w, (results fn tmps).run P w = .ok v w) (hQ : ∀ w, Q w → RE (.returned v) w) :
    ∀ (ds : List Nat) (w : World), Shut Q ds w → LeavesInM (FW none) 0 P fn tmps RE (ds.map markOf) .returning w
  | [], w, h => by
    exact ⟨v, hv w, hQ w h⟩
  | D :: ds, w, h => by
    refine ⟨by simp, .inl ⟨D, w.putObj D (.deferred none), rfl, run_takeDeferred h.1, ?_⟩⟩
    exact leaves_of_shut hv hQ ds _ (h.2 _ (upd_putObj (Array.getElem?_eq_some_iff.1 h.1).1))
theorem enterM {f : FuncId} {fn : Func} {c : Code} {vs : List Value} {R : Value → World → Prop} (hE : Enters P f) (hf : P.funcs[f]? = some fn) (hb : fn.body = some c) (hn : fn.ntmps = n) {rs : List ResultVar} (hr : fn.results = ⟨rs⟩)
    (hl : Nat.ble vs.length n = true) (h : WpM P n c (fun ds e w => ∃ v, resOf e rs = some v ∧ Shut (R v) ds w) [] (fun ds e w => ∃ v, resOf e rs = some v ∧ Shut (R v) ds w) [] (nth vs) w) : Ret P f vs w R := by
  refine ⟨hE, callsFW' (callsIn_of_wp_marks (n := 0) hf hb trivial ?_)⟩
  rw [hn]
  refine wpIn_mono (h _ (fit_enter vs n (Nat.le_of_ble_eq_true hl))) ?_
  intro x a w hq
  have fin : (∃ ds e, Fit n (ds.map markOf) a e ∧ ∃ v, resOf e rs = some v ∧ Shut (R v) ds w) → LeavesInM (FW none) 0 P fn a.tmps (fun x w' => ∃ v, x = .returned v ∧ R v w') a.defers .returning w := by
    rintro ⟨ds, e, hfit, v, hv, hS⟩
    rw [hfit.defers]
    exact leaves_of_shut (fun w => results_resOf hr hfit hv) (fun w hq => ⟨v, rfl, hq⟩) ds w hS
  cases x with
  | normal => exact fin hq
  | ret => exact fin hq
  | exit id => obtain ⟨J, ds, e, hJ, _⟩ := hq; cases hJ
  | goto l => exact hq.elim
  | panic c => exact hq.elim
  | outgrown => exact hq.elim

theorem m_ret (h : RM ds e w) : WpM P n .ret KM XM RM ds e w := fun _ ha => wpIn_ret ⟨ds, e, ha, h⟩
theorem m_exit {id : Nat} {J : MPost} (hJ : (XM.find? (fun x => x.1 == id)).map (·.2) = some J) (h : J ds e w) : WpM P n (.exit id) KM XM RM ds e w := fun _ ha => wpIn_exit ⟨J, ds, e, hJ, ha, h⟩
/-- what a round must leave: the loop's own blocks, and those that the iterator leans on -/
structure Keeps (D l : Nat) (r : Loop) (Fp : List Nat) (w W : World) : Prop where
  loop : W.heap[l]? = some (.loop r)
  shut : W.heap[D]? = some (.deferred (some []))
  priv : ∀ b, b ∈ Fp → W.heap[b]? = w.heap[b]?
theorem Keeps.upd {D l : Nat} {r : Loop} {Fp : List Nat} {w W W' : World} (h : Keeps D l r Fp w W) {b : Nat} {o : Obj} (hu : Upd W b o W') (h1 : b ≠ l) (h2 : b ≠ D) (h3 : b ∉ Fp) : Keeps D l r Fp w W' :=
  ⟨by rw [hu.other l (Ne.symm h1)]; exact h.loop, by rw [hu.other D (Ne.symm h2)]; exact h.shut, fun c hc => by rw [hu.other c (fun e => h3 (e ▸ hc))]; exact h.priv c hc⟩
theorem Keeps.kp {D l : Nat} {r : Loop} {Fp : List Nat} {w W W' : World} (h : Keeps D l r Fp w W) {S : List Nat} (hF : ∀ b, b ∈ Fp → b < W.heap.size) (hk : Kp S W W') (h1 : l ∉ S) (h2 : D ∉ S) (h3 : ∀ b, b ∈ Fp → b ∉ S) : Keeps D l r Fp w W' :=
  ⟨by rw [hk.at_ l (Array.getElem?_eq_some_iff.1 h.loop).1 h1]; exact h.loop, by rw [hk.at_ D (Array.getElem?_eq_some_iff.1 h.shut).1 h2]; exact h.shut, fun c hc => by rw [hk.at_ c (hF c hc) (h3 c hc)]; exact h.priv c hc⟩
def exitsI {α : Type} (D l : Nat) (r : Loop) (Fp : List Nat) (w : World) (Ix : Code → List α → World → Prop) (pre : List α) : List Nat → List (Nat × EPost)
  | [] => []
  | i :: s => (i, fun _ W => Ix (.exit i) pre W ∧ Keeps D l r Fp w W) :: exitsI D l r Fp w Ix pre s
theorem look_exitsI {α : Type} {D l : Nat} {r : Loop} {Fp : List Nat} {w : World} {Ix : Code → List α → World → Prop} {pre : List α} : ∀ {ids : List Nat} {i : Nat} {J : EPost}, look (exitsI D l r Fp w Ix pre ids) i = some J →
    i ∈ ids ∧ J = fun _ W => Ix (.exit i) pre W ∧ Keeps D l r Fp w W
  | [], _, _, h => by cases h
  | j :: s, i, J, h => by
    simp only [exitsI, look] at h
    by_cases hi : i = j
    · subst hi; rw [nbeq_self] at h; simp at h; exact ⟨by simp, h.symm⟩
    · rw [nbeq_ne hi] at h; have := look_exitsI h; exact ⟨by simp [this.1], this.2⟩
theorem exits_mem {l : Nat} {R : Bool → World → Prop} : ∀ {ids : List Nat} {i : Nat}, i ∈ ids → look (exits l R ids) i = some (fun _ w => Endr l (some (.exit i)) R w)
  | j :: s, i, h => by
    simp only [exits, look]
    by_cases hi : i = j
    · subst hi; rw [nbeq_self]; rfl
    · rw [nbeq_ne hi]; exact exits_mem (by simpa [hi] using h)

/-- THE STATEMENT, outermost. -/
theorem m_range {g : Operand} {ps : List Nat} {assign body : Code} {f : FuncId} {lb : List Value} {Fp : List Nat} {α : Type} {enc : α → List Value} {xs : List α} (hI : Iter P f lb Fp enc xs w) (ids : List Nat) (I : List α → World → Prop) (Ix : Code → List α → World → Prop)
    (hg : ev e g = .func (.func f) #[] ⟨lb⟩) (hps : ps.all (fun p => Nat.blt p n) = true) (henc : ∀ x, (enc x).length = ps.length)
    (hI' : ∀ pre w1 w2, I pre w1 → Nc w.heap.size w1 w2 → I pre w2) (hIx' : ∀ c pre w1 w2, Ix c pre w1 → Nc w.heap.size w1 w2 → Ix c pre w2) (h0 : I [] w)
    (round : ∀ D l r pre x post W, xs = pre ++ x :: post → D = w.heap.size → l = w.heap.size + 1 → Wp (some l) P n assign (fun e1 W1 => W1 = W ∧ ∀ W2, I pre W2 → Keeps D l r Fp w W2 →
      Wp (some l) P n body (fun _ W3 => I (pre ++ [x]) W3 ∧ Keeps D l r Fp w W3) (exitsI D l r Fp w Ix (pre ++ [x]) ids) (fun _ W3 => Ix .ret (pre ++ [x]) W3 ∧ Keeps D l r Fp w W3) e1 W2) [] (fun _ _ => False) (over e ps.reverse (enc x).reverse) W)
    (done : ∀ D W, D = w.heap.size → I xs W → W.heap[D]? = some (.deferred (some [])) → KM (D :: ds) e W)
    (stop : ∀ D c pre post W, D = w.heap.size → (c = .ret ∨ ∃ i, i ∈ ids ∧ c = .exit i) → xs = pre ++ post → Ix c pre W → W.heap[D]? = some (.deferred (some [])) → WpM P n c KM XM RM (D :: ds) e W) :
    WpM P n (.rangeFunc g ⟨ps⟩ assign body) KM XM RM ds e w := by
  intro a ha
  refine wpIn_rangeFunc fun fn _ => ?_
  let D := w.heap.size
  let l := w.heap.size + 1
  let r0 : Loop := { state := .ready, pending := none, fn, tmps := a.tmps, params := ⟨ps⟩, assign, body, defers := w.heap.size }
  let w1 := (w.alloc (.deferred (some []))).alloc (.loop r0)
  have u1 : Upd w D (.deferred (some [])) (w.alloc (.deferred (some []))) := upd_alloc w _
  have u2 : Upd (w.alloc (.deferred (some []))) l (.loop r0) w1 := by
    have := upd_alloc (w.alloc (.deferred (some []))) (.loop r0)
    rwa [World.size_alloc] at this
  have n1 : Nc w.heap.size w w1 := (u1.nc (Nat.le_refl _) (fun x hx => by have := (Array.getElem?_eq_some_iff.1 hx).1; omega)).trans (u2.nc (by show _ ≤ w.heap.size + 1; omega) (fun x hx => by have := (Array.getElem?_eq_some_iff.1 hx).1; rw [World.size_alloc] at this; omega))
  have hl1 : w1.heap[l]? = some (.loop r0) := u2.at_
  have hD1 : w1.heap[D]? = some (.deferred (some [])) := u2.keep (by show w.heap.size ≠ w.heap.size + 1; omega) u1.at_
  have hret := hI.2 l w1 (fun pre W => I pre W ∧ W.heap[l]? = some (.loop r0) ∧ W.heap[D]? = some (.deferred (some [])) ∧ ∀ b, b ∈ Fp → W.heap[b]? = w.heap[b]?)
    (fun pre W => ∃ c, Ix c pre W ∧ (c = .ret ∨ ∃ i, i ∈ ids ∧ c = .exit i) ∧ (∃ r', W.heap[l]? = some (.loop r') ∧ r'.state = .done ∧ r'.pending = some c) ∧ W.heap[D]? = some (.deferred (some [])))
    n1.size (fun pre W h => h.2.2.2) (fun pre W W' ⟨h1, h2, h3, h4⟩ hk => ⟨hI' _ _ _ h1 (hk.nc _), (hk.at_ l (Array.getElem?_eq_some_iff.1 h2).1 (by simp)).trans h2, (hk.at_ D (Array.getElem?_eq_some_iff.1 h3).1 (by simp)).trans h3,
      fun b hb => (hk.at_ b (by have := hI.1 b hb; have := (Array.getElem?_eq_some_iff.1 h3).1; show b < W.heap.size; have : w.heap.size < W.heap.size := (Array.getElem?_eq_some_iff.1 h3).1; omega) (by simp)).trans (h4 b hb)⟩)
    ⟨hI' _ _ _ h0 n1, hl1, hD1, fun b hb => n1.at_lt (hI.1 b hb) (hI.1 b hb)⟩
    (fun pre x post W hx ⟨h1, h2, h3, h4⟩ => by
      refine y_round (n := n) (e := e) (ps := ps) ids h2 rfl ha.size ha.get rfl (fun p hp => by have := List.all_eq_true.1 hps p hp; simpa [Nat.blt_eq] using this) (henc x) ?_
      refine (round D l { r0 with state := .busy } pre x post W hx rfl rfl).monoK ?_
      rintro e1 W1 ⟨rfl, hb⟩
      refine ⟨h2, fun W2 hu => ?_⟩
      have n2 : Nc w.heap.size W1 W2 := hu.nc (by show _ ≤ w.heap.size + 1; omega) (fun x hx => by rw [h2] at hx; cases hx; rfl)
      have hne : D ≠ l := by show w.heap.size ≠ w.heap.size + 1; omega
      refine (hb W2 (hI' _ _ _ h1 n2) ⟨hu.at_, (hu.other D hne).trans h3, fun b hb => (hu.other b (by have := hI.1 b hb; show b ≠ w.heap.size + 1; omega)).trans (h4 b hb)⟩).mono ?_ ?_ ?_
      · rintro e3 W3 ⟨hi, hk⟩
        refine ⟨_, hk.loop, fun W4 hu4 => .inl ⟨rfl, hI' _ _ _ hi (hu4.nc (by show _ ≤ w.heap.size + 1; omega) (fun x hx => by rw [hk.loop] at hx; cases hx; rfl)), hu4.at_, (hu4.other D hne).trans hk.shut, fun b hb => (hu4.other b (by have := hI.1 b hb; show b ≠ w.heap.size + 1; omega)).trans (hk.priv b hb)⟩⟩
      · intro i J hJ
        obtain ⟨him, rfl⟩ := look_exitsI hJ
        refine ⟨_, exits_mem him, ?_⟩
        rintro e3 W3 ⟨hi, hk⟩
        exact ⟨_, hk.loop, fun W4 hu4 => .inr ⟨rfl, .exit i, hIx' _ _ _ _ hi (hu4.nc (by show _ ≤ w.heap.size + 1; omega) (fun x hx => by rw [hk.loop] at hx; cases hx; rfl)), .inr ⟨i, him, rfl⟩, ⟨_, hu4.at_, rfl, rfl⟩, (hu4.other D hne).trans hk.shut⟩⟩
      · rintro e3 W3 ⟨hi, hk⟩
        exact ⟨_, hk.loop, fun W4 hu4 => .inr ⟨rfl, .ret, hIx' _ _ _ _ hi (hu4.nc (by show _ ≤ w.heap.size + 1; omega) (fun x hx => by rw [hk.loop] at hx; cases hx; rfl)), .inl rfl, ⟨_, hu4.at_, rfl, rfl⟩, (hu4.other D hne).trans hk.shut⟩⟩)
    (fun pre W W' ⟨c, h1, h2, ⟨r', h3, h4, h5⟩, h6⟩ hk => ⟨c, hIx' _ _ _ _ h1 (hk.nc _), h2, ⟨r', (hk.at_ l (Array.getElem?_eq_some_iff.1 h3).1 (by simp)).trans h3, h4, h5⟩, (hk.at_ D (Array.getElem?_eq_some_iff.1 h6).1 (by simp)).trans h6⟩)
  refine ⟨l, [markOf D], w1, { target := .fn (.func f) ⟨lb⟩, args := #[yv l] }, w1, f, ⟨yv l :: lb⟩, w1, run_enterLoop_outer fn a.tmps ⟨ps⟩ assign body, ?_, fun _ _ => trivial, ?_, (fun h => by cases h), callsFW (hret.2.mono ?_)⟩
  · show (resolve a.eval (rangeCall g l) 0).run P w1 = .ok { target := .fn (.func f) ⟨lb⟩, args := #[yv l] } w1
    simp only [resolve, rangeCall, ha.eval, hg, Deferred.ofValue, Sem.run_pure]
    simp [ev]
  · have := hret.1 ⟨yv l :: lb⟩ w1
    simp only [invoke]
    have e1 : #[yv l] ++ (⟨lb⟩ : Array Value) = ⟨yv l :: lb⟩ := by apply Array.ext'; simp
    rw [e1]
    exact this
  · rintro x W ⟨v, rfl, hq⟩
    have ha' : Fit n ((D :: ds).map markOf) { a with defers := [markOf D] ++ a.defers } e := ⟨ha.size, ha.get, by show markOf D :: a.defers = _; rw [ha.defers]; rfl⟩
    have hne : D ≠ l := by show w.heap.size ≠ w.heap.size + 1; omega
    rcases hq with ⟨h1, h2, h3, h4⟩ | ⟨pre, post, hx, c, h1, h2, ⟨r', h3, h4, h5⟩, h6⟩
    · refine ⟨_, _, run_endLoop h2 (by intro h; cases h), ?_⟩
      have hu := upd_putObj (o := .loop { r0 with state := .exhausted }) (Array.getElem?_eq_some_iff.1 h2).1
      exact ⟨D :: ds, e, ha', done D _ rfl (hI' _ _ _ h1 (hu.nc (by show _ ≤ w.heap.size + 1; omega) (fun x hx => by rw [h2] at hx; cases hx; rfl))) ((hu.other D hne).trans h3)⟩
    · refine ⟨some c, W.putObj l (.loop { r' with state := .exhausted }), (by rw [← h5]; exact run_endLoop h3 (by rw [h4]; intro h; cases h)), ?_⟩
      have hu := upd_putObj (o := .loop { r' with state := .exhausted }) (Array.getElem?_eq_some_iff.1 h3).1
      exact stop D c pre post _ rfl h2 hx (hIx' _ _ _ _ h1 (hu.nc (by show _ ≤ w.heap.size + 1; omega) (fun x hx => by rw [h3] at hx; cases hx; rfl))) ((hu.other D hne).trans h6) _ ha'
end
end Go.Vc
