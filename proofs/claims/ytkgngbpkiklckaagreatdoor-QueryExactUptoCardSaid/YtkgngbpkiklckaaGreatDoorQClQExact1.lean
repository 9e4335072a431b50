/- Parts of a proof. -/
import Derived.OwnWalk
import Derived.Deep.Quiet
import Derived.Below
import Derived.Deep.LoopGhost
import Derived.Laws.Strings
import Derived.TacticsIn
import Derived.Sort.LoopGhostIn
import Derived.Sort.QuietThIn
import Derived.RangeFuncRecord
import Derived.RangeFuncCalls
set_option maxHeartbeats 12800000
namespace Go.Vc
open Go
theorem lR {n : Nat} : n ≤ n := Nat.le_refl n
theorem oM {p : Prop} (h : p := by omega) : p := h
theorem sI {p : Prop} (h : p := by simp) : p := h
theorem kR {p : Prop} (h : p := by kernel_rfl) : p := h
theorem dE {p : Prop} (h : p := by decide) : p := h
abbrev Env := Nat → Value
abbrev Jc0 := Env → World → Prop
def put (e : Env) (d : Option Tmp) (v : Value) : Env :=
 match d with
 | some d => fun t => bif Nat.beq t d then v else e t
 | none => e
def ev (e : Env) : Operand → Value
 | .tmp t => e t
 | .const v => v
 | .global g => .pointer (some ⟨g, 0, none⟩)
 | .func f => .func (.func f) #[] #[]
def dOk (n : Nat) : Option Tmp → Bool
 | some d => Nat.blt d n
 | none => true
structure Fit (n : Nat) (ds : List Deferred) (a : Act) (e : Env) : Prop where
 size : a.tmps.size = n
 get : ∀ t, a.tmps.getD t undef = e t
 defers : a.defers = ds
structure Ro where
 round : Option Nat
 pan : Value → World → Prop
def Ro.no : Ro := ⟨none, fun _ _ => False⟩
def Ro.at (l : Nat) : Ro := ⟨some l, fun _ _ => False⟩
def FW (ro : Ro) : Fence := { Fence.wide with round := ro.round }
variable {P : Program} {n : Nat} {a : Act} {e : Env} {w : World} {ro : Ro} {ds : List Deferred}
theorem Jx7 (t : Nat) : Nat.beq t t = true := by simp
theorem nbeq_ne {t d : Nat} (h : t ≠ d) : Nat.beq t d = false := by
 cases hb : Nat.beq t d with
 | false => rfl
 | true => exact absurd (Nat.eq_of_beq_eq_true hb) h
theorem Fit.eval (h : Fit n ds a e) : a.eval = ev e := by
 funext x
 cases x with
 | tmp t => exact h.get t
 | const v => rfl
 | global g => rfl
 | func f => rfl
theorem Fit.put (h : Fit n ds a e) (d : Option Tmp) (v : Value) (hd : dOk n d = true) : Fit n ds (a.put d v) (put e d v) := by
 cases d with
 | none => exact h
 | some d =>
  have hlt : d < n := by simpa [dOk, Nat.blt_eq] using hd
  refine ⟨by simp [Act.put, h.size], fun t => ?_, h.defers⟩
  simp only [Act.put, Vc.put]
  have hg := h.get t
  by_cases ht : t = d
  ·subst ht
   rw [Jx7]
   simp [h.size, hlt]
  ·rw [nbeq_ne ht]
   simp only [cond_false, ← hg, Array.getD_eq_getD_getElem?, Array.getElem?_setIfInBounds]
   rw [if_neg (fun h => ht h.symm)]
def gval (all : List Oper) (e : Env) (j : Nat) : Option Bool :=
 match (all[j]?).bind (·.dst) with
 | some t => (match e t with | .bool b => some b | _ => none)
 | none => none
theorem Fit.yielded (h : Fit n ds a e) (all : List Oper) (j : Nat) : yielded all.toArray a.tmps j = gval all e j := by
 unfold Go.yielded gval
 have hh : all.toArray[j]? = all[j]? := by simp
 rw [hh]
 cases hd : (all[j]?).bind (·.dst) with
 | none => simp
 | some t =>
  simp only [Option.bind_some]
  have hg := h.get t
  rw [Array.getD_eq_getD_getElem?] at hg
  rw [← hg]
  cases ht : a.tmps[t]? with
  | none => simp [undef]
  | some v => cases v <;> simp
def look (X : List (Nat × Jc0)) (id : Nat) : Option Jc0 :=
 match X with
 | [] => none
 | (i, J) :: r => bif Nat.beq id i then some J else look r id
def lift (ro : Ro) (n : Nat) (ds : List Deferred) (K : Jc0) (X : List (Nat × Jc0)) (R : Jc0) : Exit → Act → World → Prop
 | .normal, a, w => ∃ e, Fit n ds a e ∧ K e w
 | .exit id, a, w => ∃ J e, look X id = some J ∧ Fit n ds a e ∧ J e w
 | .ret, a, w => ∃ e, Fit n ds a e ∧ R e w
 | .panic c, a, w => ∃ v, c = [{ v, recovered := false }] ∧ a.defers = ds ∧ ro.pan v w
 | _, _, _ => False
def Wp (ro : Ro) (P : Program) (n : Nat) (c : Code) (K : Jc0) (X : List (Nat × Jc0)) (R : Jc0) (e : Env) (w : World) : Prop :=
 ∀ ds a, Fit n ds a e → c.wpIn (FW ro) 0 P (lift ro n ds K X R) a w
variable {K : Jc0} {X : List (Nat × Jc0)} {R : Jc0}
theorem Ja9 {x y : Code} (h : Wp ro P n x (fun e w => Wp ro P n y K X R e w) X R e w) : Wp ro P n (.seq x y) K X R e w := by
 intro ds a ha
 refine wpIn_seq (wpIn_mono (h ds a ha) ?_)
 intro x a w hq
 cases x with
 | normal => obtain ⟨e, hf, hk⟩ := hq; exact hk ds a hf
 | exit id => exact hq
 | ret => exact hq
 | goto l => exact hq
 | panic c => exact hq
 | outgrown => exact hq
theorem r_seqR {id : Nat} {l : List Oper} {y : Code} (h : Wp ro P n (.region id l.toArray false) (fun e w => Wp ro P n y K X R e w) X R e w) : Wp ro P n (.seq (.region id l.toArray false) y) K X R e w := Ja9 h
theorem r_seqB {id : Nat} {x y : Code} (h : Wp ro P n (.block id x) (fun e w => Wp ro P n y K X R e w) X R e w) : Wp ro P n (.seq (.block id x) y) K X R e w := Ja9 h
theorem r_seqC {c : Operand} {x z y : Code} (h : Wp ro P n (.cond c x z) (fun e w => Wp ro P n y K X R e w) X R e w) : Wp ro P n (.seq (.cond c x z) y) K X R e w := Ja9 h
theorem r_seqS {id : Nat} {l : List Oper} {x y : Code} (h : Wp ro P n (.seq (.region id l.toArray false) x) (fun e w => Wp ro P n y K X R e w) X R e w) : Wp ro P n (.seq (.seq (.region id l.toArray false) x) y) K X R e w := Ja9 h
theorem r_seqSB {id : Nat} {z x y : Code} (h : Wp ro P n (.seq (.block id z) x) (fun e w => Wp ro P n y K X R e w) X R e w) : Wp ro P n (.seq (.seq (.block id z) x) y) K X R e w := Ja9 h
theorem r_skip (h : K e w) : Wp ro P n .skip K X R e w := fun _ _ ha => wpIn_skip ⟨e, ha, h⟩
theorem r_ret (h : R e w) : Wp ro P n .ret K X R e w := fun _ _ ha => wpIn_ret ⟨e, ha, h⟩
theorem r_exit {id : Nat} {J : Jc0} (hJ : look X id = some J) (h : J e w) : Wp ro P n (.exit id) K X R e w := fun _ _ ha => wpIn_exit ⟨J, e, hJ, ha, h⟩
theorem Je1 {c : Operand} {x y : Code} {b : Bool} (hc : ev e c = .bool b) (ht : b = true → Wp ro P n x K X R e w) (hf : b = false → Wp ro P n y K X R e w) :
  Wp ro P n (.cond c x y) K X R e w := by
 intro ds a ha
 refine wpIn_cond_split (t := b) (by rw [ha.eval]; exact hc) (fun h => ht h ds a ha) (fun h => hf h ds a ha)
theorem r_cond_t {c : Operand} {x y : Code} (hc : ev e c = .bool true) (h : Wp ro P n x K X R e w) : Wp ro P n (.cond c x y) K X R e w :=
 Je1 hc (fun _ => h) (fun h => by cases h)
theorem r_cond_f {c : Operand} {x y : Code} (hc : ev e c = .bool false) (h : Wp ro P n y K X R e w) : Wp ro P n (.cond c x y) K X R e w :=
 Je1 hc (fun h => by cases h) (fun _ => h)
theorem Jf7 {c : Operand} {x y : Code} {b : Bool} (hc : ev e c = .bool b) (hb : b = true) (h : Wp ro P n x K X R e w) : Wp ro P n (.cond c x y) K X R e w := by
 subst hb; exact r_cond_t hc h
theorem r_no {c : Operand} {x y : Code} {b : Bool} (hc : ev e c = .bool b) (hb : b = false) (h : Wp ro P n y K X R e w) : Wp ro P n (.cond c x y) K X R e w := by
 subst hb; exact r_cond_f hc h
theorem r_if {c : Operand} {x y : Code} {p : Prop} [Decidable p] (hc : ev e c = .bool (decide p)) (ht : p → Wp ro P n x K X R e w) (hf : ¬ p → Wp ro P n y K X R e w) :
  Wp ro P n (.cond c x y) K X R e w :=
 Je1 hc (fun h => ht (of_decide_eq_true h)) (fun h => hf (of_decide_eq_false h))
theorem Jn8 {c : Operand} {x y : Code} {p : Prop} [Decidable p] (hc : ev e c = .bool (!decide p)) (ht : ¬ p → Wp ro P n x K X R e w) (hf : p → Wp ro P n y K X R e w) :
  Wp ro P n (.cond c x y) K X R e w :=
 Je1 hc (fun h => ht (by simpa using h)) (fun h => hf (by simpa using h))
theorem r_block {id : Nat} {c : Code} (h : Wp ro P n c K ((id, K) :: X) R e w) : Wp ro P n (.block id c) K X R e w := by
 intro ds a ha
 refine wpIn_block (wpIn_mono (h ds a ha) ?_)
 intro x a w hq
 cases x with
 | normal => exact hq
 | exit i =>
  obtain ⟨J, e, hJ, hf, hj⟩ := hq
  simp only [look] at hJ
  simp only [Exit.inBlock]
  by_cases hi : i = id
  ·subst hi
   rw [Jx7] at hJ
   simp only [cond_true, Option.some.injEq] at hJ
   subst hJ
   rw [if_pos rfl]
   exact ⟨e, hf, hj⟩
  ·rw [nbeq_ne hi] at hJ
   rw [if_neg hi]
   exact ⟨J, e, hJ, hf, hj⟩
 | ret => exact hq
 | goto l => exact hq
 | panic c => exact hq
 | outgrown => exact hq
theorem Wp.mono {c : Code} {K' : Jc0} {X' : List (Nat × Jc0)} {R' : Jc0} (h : Wp ro P n c K X R e w) (hk : ∀ e w, K e w → K' e w)
  (hx : ∀ id J, look X id = some J → ∃ J', look X' id = some J' ∧ ∀ e w, J e w → J' e w) (hr : ∀ e w, R e w → R' e w) : Wp ro P n c K' X' R' e w := by
 intro ds a ha
 refine wpIn_mono (h ds a ha) ?_
 intro x a w hq
 cases x with
 | normal => obtain ⟨e, hf, h⟩ := hq; exact ⟨e, hf, hk _ _ h⟩
 | exit i => obtain ⟨J, e, hJ, hf, h⟩ := hq; obtain ⟨J', hJ', hj⟩ := hx _ _ hJ; exact ⟨J', e, hJ', hf, hj _ _ h⟩
 | ret => obtain ⟨e, hf, h⟩ := hq; exact ⟨e, hf, hr _ _ h⟩
 | goto l => exact hq
 | panic c => exact hq
 | outgrown => exact hq
theorem Wp.monoK {c : Code} {K' : Jc0} (h : Wp ro P n c K X R e w) (hk : ∀ e w, K e w → K' e w) : Wp ro P n c K' X R e w :=
 h.mono hk (fun _ J hJ => ⟨J, hJ, fun _ _ h => h⟩) (fun _ _ h => h)
def over (e : Env) : List Nat → List Value → Env
 | s :: ss, v :: vs => put (over e ss vs) (some s) v
 | _, _ => e
theorem Jq9 {e : Env} : ∀ {ss : List Nat} {vs : List Value}, ss.map e = vs → over e ss vs = e
 | [], [], _ => rfl
 | [], _ :: _, _ => rfl
 | _ :: _, [], _ => rfl
 | s :: ss, v :: vs, h => by
  simp only [List.map_cons, List.cons.injEq] at h
  simp only [over, Jq9 h.2]
  funext t
  simp only [put]
  by_cases ht : t = s
  ·subst ht
   rw [Jx7, cond_true, h.1]
  ·rw [nbeq_ne ht, cond_false]
theorem Jd8 {c : Code} {α : Type} (ss : List Nat) (vals : α → List Value) (J : α → World → Prop)
  (h : Wp ro P n c (fun e w => ∃ g, ss.map e = vals g ∧ J g w) X R e w) (k : ∀ g e w, J g w → K (over e ss (vals g)) w) : Wp ro P n c K X R e w :=
 h.monoK fun e w ⟨g, h1, h2⟩ => by have := k g e w h2; rwa [Jq9 h1] at this
theorem Jb4 {c : Code} {α : Type} (ss : List Nat) (vals : α → List Value) (I : α → World → Prop) (μ : α → Nat) (g₀ : α) (h₀ : ss.map e = vals g₀) (hI : I g₀ w)
  (round : ∀ g e w, I g w → Wp ro P n c (fun e w => ∃ g', ss.map e = vals g' ∧ I g' w ∧ μ g' < μ g) X R (over e ss (vals g)) w) : Wp ro P n (.loop c) K X R e w := by
 intro ds a ha
 refine wpIn_loop_ghost (fun m a w => ∃ g e, μ g = m ∧ Fit n ds a e ∧ ss.map e = vals g ∧ I g w) (μ g₀) ⟨g₀, e, rfl, ha, h₀, hI⟩ ?_
 rintro m a w ⟨g, e, hm, hf, hs, hI⟩
 have hr := round g e w hI
 rw [Jq9 hs] at hr
 refine wpIn_mono (hr ds a hf) ?_
 intro x a₁ w₁ hq
 cases x with
 | normal =>
  obtain ⟨e₁, hf₁, g₁, hs₁, hI₁, hlt⟩ := hq
  exact ⟨μ g₁, hm ▸ hlt, g₁, e₁, rfl, hf₁, hs₁, hI₁⟩
 | exit id => exact hq
 | ret => exact hq
 | goto l => exact hq
 | panic c => exact hq
 | outgrown => exact hq
abbrev PV := Option (Option Prop × Value)
def rng (x : Int) : Prop := -9223372036854775808 ≤ x ∧ x ≤ 9223372036854775807
def Qf1 (op : BinOp) (k : IntKind) (x y : Int) : Int :=
 match op with
 | .and => k.wrap (BitVec.ofInt k.bits x &&& BitVec.ofInt k.bits y).toNat
 | .or => k.wrap (BitVec.ofInt k.bits x ||| BitVec.ofInt k.bits y).toNat
 | .xor => k.wrap (BitVec.ofInt k.bits x ^^^ BitVec.ofInt k.bits y).toNat
 | _ => k.wrap (BitVec.ofInt k.bits x &&& ~~~(BitVec.ofInt k.bits y)).toNat
abbrev S (l : List UInt8) : Value := .string ⟨⟨l⟩⟩
abbrev I (n : Int) : Value := .int .i64 n
abbrev B (b : Bool) : Value := .bool b
def Qg1 (op : BinOp) (k : IntKind) (x y : Int) : PV :=
 match op with
 | .add => (match k with
  | .i64 => some (some (-9223372036854775808 ≤ x + y ∧ x + y ≤ 9223372036854775807), .int .i64 (x + y))
  | k => some (none, .int k (k.wrap (x + y))))
 | .sub => (match k with
  | .i64 => some (some (-9223372036854775808 ≤ x - y ∧ x - y ≤ 9223372036854775807), .int .i64 (x - y))
  | k => some (none, .int k (k.wrap (x - y))))
 | .mul => (match k with
  | .i64 => some (some (-9223372036854775808 ≤ x * y ∧ x * y ≤ 9223372036854775807), .int .i64 (x * y))
  | k => some (none, .int k (k.wrap (x * y))))
 | .quo => (match k with
  | .i64 => some (some (y ≠ 0 ∧ -9223372036854775808 ≤ x.tdiv y ∧ x.tdiv y ≤ 9223372036854775807), .int .i64 (x.tdiv y))
  | k => some (some (y ≠ 0), .int k (k.wrap (x.tdiv y))))
 | .rem => some (some (y ≠ 0), .int k (x.tmod y))
 | .and | .or | .xor | .andNot => some (none, .int k (Qf1 op k x y))
 | .shl => some (some (0 ≤ y), .int k (k.wrap (x * 2 ^ (min y.toNat k.bits))))
 | .shr => some (some (0 ≤ y), .int k (x.fdiv (2 ^ (min y.toNat k.bits))))
 | .eql => some (none, .bool (decide (x = y)))
 | .neq => some (none, .bool (!decide (x = y)))
 | .lss => some (none, .bool (decide (x < y)))
 | .leq => some (none, .bool (decide (x ≤ y)))
 | .gtr => some (none, .bool (decide (y < x)))
 | .geq => some (none, .bool (decide (y ≤ x)))
def binStr (op : BinOp) (x y : List UInt8) : PV :=
 match op with
 | .add => some (some (x.length + y.length ≤ 9223372036854775807), S (x ++ y))
 | .eql => some (none, .bool (decide (x = y)))
 | .neq => some (none, .bool (!decide (x = y)))
 | .lss => some (none, .bool (Op.bytesLess x y))
 | .leq => some (none, .bool (Op.bytesLess x y || decide (x = y)))
 | .gtr => some (none, .bool (!(Op.bytesLess x y || decide (x = y))))
 | .geq => some (none, .bool (!Op.bytesLess x y))
 | _ => none
def binFloat (op : BinOp) (k : FloatKind) (x y : Nat) : PV :=
 match op with
 | .add => some (some ((k.format.add x y).isSome = true), .float k ((k.format.add x y).getD 0))
 | .sub => some (some ((k.format.sub x y).isSome = true), .float k ((k.format.sub x y).getD 0))
 | .mul => some (some ((k.format.mul x y).isSome = true), .float k ((k.format.mul x y).getD 0))
 | .quo => some (some ((k.format.div x y).isSome = true), .float k ((k.format.div x y).getD 0))
 | .eql => some (none, .bool (k.format.order x y == some .eq))
 | .neq => some (none, .bool (k.format.order x y != some .eq))
 | .lss => some (none, .bool (k.format.order x y == some .lt))
 | .leq => some (none, .bool (k.format.order x y == some .lt || k.format.order x y == some .eq))
 | .gtr => some (none, .bool (k.format.order x y == some .gt))
 | .geq => some (none, .bool (k.format.order x y == some .gt || k.format.order x y == some .eq))
 | _ => none
def kEq : IntKind → IntKind → Bool
 | .i8, .i8 | .i16, .i16 | .i32, .i32 | .i64, .i64 | .u8, .u8 | .u16, .u16 | .u32, .u32 | .u64, .u64 => true
 | _, _ => false
theorem kEq_eq {k k' : IntKind} (h : kEq k k' = true) : k = k' := by cases k <;> cases k' <;> simp_all [kEq]
def fEq : FloatKind → FloatKind → Bool
 | .f32, .f32 | .f64, .f64 => true
 | _, _ => false
theorem fEq_eq {k k' : FloatKind} (h : fEq k k' = true) : k = k' := by cases k <;> cases k' <;> simp_all [fEq]
def eqD (d : TypeDesc) (neg : Bool) (x y : Value) : PV :=
 match d, x, y with
 | .bool, .bool a, .bool b => some (none, .bool (bif neg then !(a == b) else (a == b)))
 | .pointer _, .pointer none, .pointer none => some (none, .bool (!neg))
 | .pointer _, .pointer none, .pointer (some _) => some (none, .bool neg)
 | .pointer _, .pointer (some _), .pointer none => some (none, .bool neg)
 | .slice _, .slice none _ _, .slice none _ _ => some (none, .bool (!neg))
 | .slice _, .slice none _ _, .slice (some _) _ _ => some (none, .bool neg)
 | .slice _, .slice (some _) _ _, .slice none _ _ => some (none, .bool neg)
 | .map _ _, .map none, .map none => some (none, .bool (!neg))
 | .map _ _, .map none, .map (some _) => some (none, .bool neg)
 | .map _ _, .map (some _), .map none => some (none, .bool neg)
 | .func _ _ _, .nilFunc, .nilFunc => some (none, .bool (!neg))
 | .func _ _ _, .nilFunc, .func _ _ _ => some (none, .bool neg)
 | .func _ _ _, .func _ _ _, .nilFunc => some (none, .bool neg)
 | .interface _, .nilIface, .iface _ _ => some (none, .bool neg)
 | .interface _, .iface _ _, .nilIface => some (none, .bool neg)
 | _, _, _ => none
def Jv5 (P : Program) (t : TypeId) (neg : Bool) (x y : Value) : PV :=
 match P.underlying t with
 | some d => eqD d neg x y
 | none => none
def Qg4 (P : Program) (op : BinOp) (t : TypeId) (x y : Value) : PV :=
 match x, y with
 | .int k a, .int k' b => (match op with
  | .shl | .shr => Qg1 op k a b
  | _ => bif kEq k k' then Qg1 op k a b else none)
 | .string ⟨⟨a⟩⟩, .string ⟨⟨b⟩⟩ => binStr op a b
 | .float k a, .float k' b => bif fEq k k' then binFloat op k a b else none
 | x, y => (match op with
  | .eql => Jv5 P t false x y
  | .neq => Jv5 P t true x y
  | _ => none)
theorem Jt9 {x : Int} (h : -9223372036854775808 ≤ x ∧ x ≤ 9223372036854775807) : IntKind.i64.wrap x = x := by
 rw [IntKind.wrap_i64]; omega
def okC : Option Prop → Prop
 | none => True
 | some p => p
theorem binInt_sound {op : BinOp} {k : IntKind} {x y : Int} {c : Option Prop} {v : Value} (t : TypeId) (h : Qg1 op k x y = some (c, v)) (hc : okC c) :
  (binOp op t (.int k x) (.int k y)).run P w = .ok v w := by
 cases op <;> simp only [Qg1] at h
 case add => cases k <;> simp at h <;> obtain ⟨rfl, rfl⟩ := h <;> simp [binOp, Op.intArith] <;> exact Jt9 hc
 case sub => cases k <;> simp at h <;> obtain ⟨rfl, rfl⟩ := h <;> simp [binOp, Op.intArith] <;> exact Jt9 hc
 case mul => cases k <;> simp at h <;> obtain ⟨rfl, rfl⟩ := h <;> simp [binOp, Op.intArith] <;> exact Jt9 hc
 case quo =>
  cases k <;> simp at h <;> obtain ⟨rfl, rfl⟩ := h <;> simp only [okC] at hc <;> simp [binOp, Op.intDiv, hc] <;> exact Jt9 hc.2
 case rem => simp at h; obtain ⟨rfl, rfl⟩ := h; simp only [okC] at hc; simp [binOp, Op.intDiv, hc]
 case and => simp at h; obtain ⟨rfl, rfl⟩ := h; simp [binOp, Op.intBits, Qf1]
 case or => simp at h; obtain ⟨rfl, rfl⟩ := h; simp [binOp, Op.intBits, Qf1]
 case xor => simp at h; obtain ⟨rfl, rfl⟩ := h; simp [binOp, Op.intBits, Qf1]
 case andNot => simp at h; obtain ⟨rfl, rfl⟩ := h; simp [binOp, Op.intBits, Qf1]
 case shl => simp at h; obtain ⟨rfl, rfl⟩ := h; simp only [okC] at hc; simp [binOp, Op.shift, Int.not_lt.2 hc]
 case shr => simp at h; obtain ⟨rfl, rfl⟩ := h; simp only [okC] at hc; simp [binOp, Op.shift, Int.not_lt.2 hc]
 case eql => simp at h; obtain ⟨rfl, rfl⟩ := h; simp [binOp, Op.intCmp]; rfl
 case neq => simp at h; obtain ⟨rfl, rfl⟩ := h; simp [binOp, Op.intCmp]; rfl
 case lss => simp at h; obtain ⟨rfl, rfl⟩ := h; simp [binOp, Op.intCmp]
 case leq => simp at h; obtain ⟨rfl, rfl⟩ := h; simp [binOp, Op.intCmp]
 case gtr => simp at h; obtain ⟨rfl, rfl⟩ := h; simp [binOp, Op.intCmp]
 case geq => simp at h; obtain ⟨rfl, rfl⟩ := h; simp [binOp, Op.intCmp]
theorem shift_sound {op : BinOp} {k k' : IntKind} {x y : Int} {c : Option Prop} {v : Value} (t : TypeId) (hop : op = .shl ∨ op = .shr) (h : Qg1 op k x y = some (c, v)) (hc : okC c) :
  (binOp op t (.int k x) (.int k' y)).run P w = .ok v w := by
 rcases hop with rfl | rfl <;> simp only [Qg1, Option.some.injEq, Prod.mk.injEq] at h <;> obtain ⟨rfl, rfl⟩ := h <;> simp only [okC] at hc <;> simp [binOp, Op.shift, Int.not_lt.2 hc]
theorem binStr_sound {op : BinOp} {x y : List UInt8} {c : Option Prop} {v : Value} (t : TypeId) (h : binStr op x y = some (c, v)) (hc : okC c) :
  (binOp op t (S x) (S y)).run P w = .ok v w := by
 have e : ∀ l : List UInt8, (ByteArray.mk (Array.mk l)).toList = l := fun l => ByteArray.toList_eq _
 have eb : ∀ a b : List UInt8, (a == b) = decide (a = b) := fun a b => by
  by_cases hab : a = b <;> simp [hab]
 cases op <;> simp only [binStr] at h <;> first | (cases h; done) | skip
 case add =>
  simp at h; obtain ⟨rfl, rfl⟩ := h
  have hm : ¬ ((x.length : Int) + y.length > IntKind.i64.max) := by
   have : IntKind.i64.max = 9223372036854775807 := by decide
   simp only [okC] at hc
   omega
  simp only [S, binOp, Op.stringOp]
  have hs : ∀ l : List UInt8, (ByteArray.mk (Array.mk l)).size = l.length := fun l => rfl
  rw [hs, hs, if_neg (by exact_mod_cast hm)]
  rfl
 all_goals (simp at h; obtain ⟨rfl, rfl⟩ := h; simp [binOp, Op.stringOp, e, eb])
theorem Qj9 {op : BinOp} {k : FloatKind} {x y : Nat} {c : Option Prop} {v : Value} (t : TypeId) (h : binFloat op k x y = some (c, v)) (hc : okC c) :
  (binOp op t (.float k x) (.float k y)).run P w = .ok v w := by
 cases op <;> simp only [binFloat] at h <;> first | (cases h; done) | skip
 case add =>
  simp at h; obtain ⟨rfl, rfl⟩ := h; obtain ⟨r, hr⟩ := Option.isSome_iff_exists.1 hc
  simp [binOp, Op.floatArith, hr]
 case sub =>
  simp at h; obtain ⟨rfl, rfl⟩ := h; obtain ⟨r, hr⟩ := Option.isSome_iff_exists.1 hc
  simp [binOp, Op.floatArith, hr]
 case mul =>
  simp at h; obtain ⟨rfl, rfl⟩ := h; obtain ⟨r, hr⟩ := Option.isSome_iff_exists.1 hc
  simp [binOp, Op.floatArith, hr]
 case quo =>
  simp at h; obtain ⟨rfl, rfl⟩ := h; obtain ⟨r, hr⟩ := Option.isSome_iff_exists.1 hc
  simp [binOp, Op.floatArith, hr]
 all_goals (simp at h; obtain ⟨rfl, rfl⟩ := h; simp [binOp, Op.floatCmp])
theorem equalIn_sound {t : TypeId} {neg : Bool} {x y : Value} {c : Option Prop} {v : Value} (d : Nat) (h : Jv5 P t neg x y = some (c, v)) :
  ∃ b, (Op.equalIn (d + 1) t x y).run P w = .ok b w ∧ v = .bool (bif neg then !b else b) := by
 unfold Jv5 at h
 cases hu : P.underlying t with
 | none => rw [hu] at h; cases h
 | some d =>
  rw [hu] at h
  dsimp only at h
  unfold eqD at h
  split at h <;> first | (cases h; done) | skip
  all_goals (simp at h; obtain ⟨rfl, rfl⟩ := h)
  all_goals refine ⟨_, by unfold Op.equalIn; rw [Sem.run_bind, run_underlying hu]; rfl, ?_⟩
  all_goals (cases neg <;> rfl)
theorem binOp_eq_run {t : TypeId} {x y : Value} {b : Bool} (hxy : ∀ k k' i j, ¬ (x = .int k i ∧ y = .int k' j)) (hs : ∀ i j, ¬ (x = .string i ∧ y = .string j))
  (hf : ∀ k k' i j, ¬ (x = .float k i ∧ y = .float k' j)) (hc : ∀ k k' i i' j j', ¬ (x = .complex k i i' ∧ y = .complex k' j j')) (h : (Op.equal t x y).run P w = .ok b w) :
  (binOp .eql t x y).run P w = .ok (.bool b) w ∧ (binOp .neq t x y).run P w = .ok (.bool (!b)) w := by
 have e1 : binOp .eql t x y = (do pure (.bool (← Op.equal t x y))) := by
  cases x <;> cases y <;> first | rfl | (exfalso; first | exact hxy _ _ _ _ ⟨rfl, rfl⟩ | exact hs _ _ ⟨rfl, rfl⟩ | exact hf _ _ _ _ ⟨rfl, rfl⟩ | exact hc _ _ _ _ _ _ ⟨rfl, rfl⟩)
 have e2 : binOp .neq t x y = (do pure (.bool (!(← Op.equal t x y)))) := by
  cases x <;> cases y <;> first | rfl | (exfalso; first | exact hxy _ _ _ _ ⟨rfl, rfl⟩ | exact hs _ _ ⟨rfl, rfl⟩ | exact hf _ _ _ _ ⟨rfl, rfl⟩ | exact hc _ _ _ _ _ _ ⟨rfl, rfl⟩)
 rw [e1, e2]
 constructor <;> simp [h]
theorem Jx2 {t : TypeId} {neg : Bool} {x y : Value} {c : Option Prop} {v : Value} (h : Jv5 P t neg x y = some (c, v)) :
  (binOp (bif neg then .neq else .eql) t x y).run P w = .ok v w := by
 obtain ⟨b, hb, rfl⟩ := equalIn_sound (w := w) 9999 h
 have hh : (Op.equal t x y).run P w = .ok b w := hb
 have := binOp_eq_run (P := P) (w := w) (t := t) (x := x) (y := y) (b := b) ?_ ?_ ?_ ?_ hh
 ·cases neg
  ·exact this.1
  ·exact this.2
 all_goals (clear hb hh; intros; rintro ⟨rfl, rfl⟩; unfold Jv5 at h; split at h <;> first | (cases h; done) | skip)
 all_goals (rename_i d _; cases d <;> cases h)
theorem pureBin_sound {op : BinOp} {t : TypeId} {x y : Value} {c : Option Prop} {v : Value} (h : Qg4 P op t x y = some (c, v)) (hc : okC c) : (binOp op t x y).run P w = .ok v w := by
 unfold Qg4 at h
 split at h
 ·rename_i k a k' b
  by_cases hop : op = .shl ∨ op = .shr
  ·refine shift_sound t hop ?_ hc
   rcases hop with rfl | rfl <;> exact h
  ·have h' : (bif kEq k k' then Qg1 op k a b else none) = some (c, v) := by
    cases op <;> first | exact h | (exfalso; exact hop (by simp))
   cases hk : kEq k k' with
   | false => rw [hk] at h'; cases h'
   | true =>
    rw [hk] at h'
    obtain rfl := kEq_eq hk
    exact binInt_sound t h' hc
 ·exact binStr_sound t h hc
 ·rename_i k a k' b
  cases hk : fEq k k' with
  | false => rw [hk] at h; cases h
  | true =>
   rw [hk] at h
   obtain rfl := fEq_eq hk
   exact Qj9 t h hc
 ·cases op <;> first | (cases h; done) | skip
  ·exact Jx2 (neg := false) h
  ·exact Jx2 (neg := true) h
theorem eqGuard_pure {op : BinOp} {t : TypeId} {x y : Operand} {u v : Value} {c : Option Prop} {r : Value} (h : Qg4 P op t u v = some (c, r)) : eqGuard op t x y u v = pure () := by
 cases u <;> cases v <;> first | rfl | (cases op <;> rfl) | skip
 all_goals (cases op <;> first | rfl | (exfalso; simp only [Qg4, Jv5] at h; split at h <;> first | (cases h; done) | skip))
 all_goals (rename_i d _; cases d <;> cases h)
structure Hid (B : Prop) : Prop where
 out : B
theorem zS {A B : Prop} (k : B) (h : Hid B → A := by intro k; (repeat first|refine zA ?_|refine zB ?_|refine zC ?_|refine zD ?_|refine zE ?_|refine zg ?_|refine zo rfl rfl (by first|exact trivial|(simp only[AllP];omega)|(simp(discharger:=omega)only[AllP,cA,cB];omega)|(simp only[AllP,cC,cD,cE,cF,cG];omega)) ?_|refine zn ?_|refine zb ?_|refine ze rfl ?_|refine zr ?_|refine zk ?_|refine zT rfl rfl rfl ?_|refine zU rfl rfl rfl ?_|refine zV rfl rfl rfl ?_|refine zf rfl ?_|refine zt rfl ?_); exact k.1) : A := h ⟨k⟩
theorem zQ {A B : Prop} (k : B) (h : Hid B → A := by intro k; (repeat first|refine yo rfl rfl (by first|exact trivial|(simp only[AllP];omega)|(simp(discharger:=omega)only[AllP,cA,cB];omega)|(simp only[AllP,cC,cD,cE,cF,cG];omega)) ?_|refine yn ?_|refine Jx3 _ _ (some true) rfl rfl rfl ?_|refine Jx3 _ _ (some false) rfl rfl rfl ?_|refine Jx3 _ _ none rfl rfl rfl ?_); exact k.1) : A := h ⟨k⟩
theorem zX {A B : Prop} (k : B) (h : Hid B → A := by intro k; (repeat first|refine xo rfl rfl (by first|exact trivial|(simp only[AllP];omega)|(simp(discharger:=omega)only[AllP,cA,cB];omega)|(simp only[AllP,cC,cD,cE,cF,cG];omega)) ?_|refine xn ?_|refine Qn2 rfl _ _ (some true) rfl rfl rfl ?_|refine Qn2 rfl _ _ (some false) rfl rfl rfl ?_|refine Qn2 rfl _ _ none rfl rfl rfl ?_); exact k.1) : A := h ⟨k⟩
theorem zO {A B : Prop} (k : B) (h : Hid B → A := by intro k; (repeat first|refine zo rfl rfl (by first|exact trivial|(simp only[AllP];omega)|(simp(discharger:=omega)only[AllP,cA,cB];omega)|(simp only[AllP,cC,cD,cE,cF,cG];omega)) ?_|refine zn ?_|refine zT rfl rfl rfl ?_|refine zU rfl rfl rfl ?_|refine zV rfl rfl rfl ?_); exact k.1) : A := h ⟨k⟩
end Go.Vc

