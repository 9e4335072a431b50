/- Parts of a proof. -/
import Derived.Test.YtkgngbpkiklckaaGreatDoorQClQExact1
set_option maxHeartbeats 12800000
namespace Go.Vc
open Go
variable {P : Program} {n : Nat} {a : Act} {e : Env} {w : World}
def nthO {α : Type} : List α → Nat → Option α
 | [], _ => none
 | v :: _, 0 => some v
 | _ :: r, i + 1 => nthO r i
theorem Js8 {α : Type} : ∀ (l : List α) (i : Nat), nthO l i = l[i]?
 | [], _ => by simp [nthO]
 | v :: r, 0 => by simp [nthO]
 | v :: r, i + 1 => by simp [nthO, Js8 r i]
theorem Qc7 {α : Type} (l : Array α) (i : Nat) : nthO l.toList i = l[i]? := by simp [Js8]
def pureUn (op : UnOp) (x : Value) : PV :=
 match op, x with
 | .not, .bool b => some (none, .bool (!b))
 | .neg, .int .i64 n => some (some (-9223372036854775808 ≤ 0 - n ∧ 0 - n ≤ 9223372036854775807), .int .i64 (0 - n))
 | .neg, .int k n => some (none, .int k (k.wrap (0 - n)))
 | .xor, .int k n => some (none, .int k (Qf1 .xor k (if k.signed then -1 else k.max) n))
 | _, _ => none
def offS (off l cap size : Nat) : Nat := if cap = l then off else off + l * size
def sliceP (P : Program) (t : TypeId) (x : Value) (lo hi : Option Value) : PV :=
 match P.underlying t, x, lo, hi with
 | some .string, .string ⟨⟨s⟩⟩, none, none => some (none, S s)
 | some .string, .string ⟨⟨s⟩⟩, none, some (.int _ h) => some (some (0 ≤ h ∧ h ≤ s.length), S (s.take h.toNat))
 | some .string, .string ⟨⟨s⟩⟩, some (.int _ l), none => some (some (0 ≤ l ∧ l ≤ s.length), S (s.drop l.toNat))
 | some .string, .string ⟨⟨s⟩⟩, some (.int _ l), some (.int _ h) => some (some (0 ≤ l ∧ l ≤ h ∧ h ≤ s.length), S ((s.take h.toNat).drop l.toNat))
 | some (.slice elem), .slice a len cap, none, none => (match P.info? elem with
  | some _ => some (none, .slice a len cap)
  | none => none)
 | some (.slice elem), .slice a _ cap, none, some (.int _ h) => (match P.info? elem with
  | some _ => some (some (0 ≤ h ∧ h ≤ cap), .slice a h.toNat cap)
  | none => none)
 | some (.slice elem), .slice (some ⟨b, off, none⟩) len cap, some (.int _ l), none => (match P.info? elem with
  | some ⟨_, _, size, _, _, _, _, _, _, _⟩ => some (some (0 ≤ l ∧ l ≤ len), .slice (some ⟨b, offS off l.toNat cap size, none⟩) (len - l.toNat) (cap - l.toNat))
  | none => none)
 | some (.slice elem), .slice (some ⟨b, off, none⟩) _ cap, some (.int _ l), some (.int _ h) => (match P.info? elem with
  | some ⟨_, _, size, _, _, _, _, _, _, _⟩ => some (some (0 ≤ l ∧ l ≤ h ∧ h ≤ cap), .slice (some ⟨b, offS off l.toNat cap size, none⟩) (h.toNat - l.toNat) (cap - l.toNat))
  | none => none)
 | _, _, _, _ => none
def indexP (P : Program) (t : TypeId) (x i : Value) : PV :=
 match P.underlying t, x, i with
 | some .string, .string ⟨⟨s⟩⟩, .int _ i => some (some (0 ≤ i ∧ i < s.length), .int .u8 (s.getD i.toNat 0).toNat)
 | _, _, _ => none
def Qa3 (P : Program) (t : TypeId) (x i : Value) : PV :=
 match P.underlying t, x, i with
 | some (.slice elem), .slice (some ⟨b, off, none⟩) len _, .int _ i => (match P.info? elem with
  | some ⟨_, _, 1, _, _, _, _, _, _, _⟩ => some (some (0 ≤ i ∧ i < len), .pointer (some ⟨b, off + i.toNat, none⟩))
  | some ⟨_, _, size, _, _, _, _, _, _, _⟩ => some (some (0 ≤ i ∧ i < len), .pointer (some ⟨b, off + i.toNat * size, none⟩))
  | none => none)
 | some (.array len elem), .pointer (some ⟨b, off, none⟩), .int _ i => (match P.info? elem with
  | some ⟨_, _, 1, _, _, _, _, _, _, _⟩ => some (some (0 ≤ i ∧ i < len), .pointer (some ⟨b, off + i.toNat, none⟩))
  | some ⟨_, _, size, _, _, _, _, _, _, _⟩ => some (some (0 ≤ i ∧ i < len), .pointer (some ⟨b, off + i.toNat * size, none⟩))
  | none => none)
 | _, _, _ => none
def Qa5 (P : Program) (t : TypeId) (x : Value) (f : Nat) : PV :=
 match P.underlying t, x with
 | some (.struct fs), .pointer (some ⟨b, off, none⟩) => (match nthO fs.toList f with
  | some ⟨_, ty, o, _, _, _, _⟩ => (match P.info? ty with
   | some ⟨_, _, 0, _, _, _, _, _, _, _⟩ => none
   | some ⟨_, _, _ + 1, _, _, _, _, _, _, _⟩ => (match o with
    | 0 => some (none, .pointer (some ⟨b, off, none⟩))
    | k + 1 => some (none, .pointer (some ⟨b, off + (k + 1), none⟩)))
   | none => none)
  | none => none)
 | _, _ => none
def aggD : TypeDesc → Bool
 | .struct _ | .array _ _ => true
 | _ => false
def fieldP (P : Program) (t : TypeId) (x : Value) (f : Nat) : PV :=
 match P.underlying t, x with
 | some (.struct fs), .agg cs => (match nthO fs.toList f with
  | some ⟨_, ty, o, _, _, _, _⟩ => (match P.underlying ty with
   | some d => bif aggD d then none else (match nthO cs.toList o with
    | some v => some (none, v)
    | none => none)
   | none => none)
  | none => none)
 | _, _ => none
def convertP (P : Program) (src dst : TypeId) (x : Value) : PV :=
 match P.underlying src, P.underlying dst, x with
 | some _, some (.int .i64), .int _ n => some (some (-9223372036854775808 ≤ n ∧ n ≤ 9223372036854775807), .int .i64 n)
 | some _, some (.int k), .int _ n => some (none, .int k (k.wrap n))
 | some _, some .string, .string s => some (none, .string s)
 | some _, some (.float k), .int _ n => some (none, .float k (k.nearest n))
 | _, _, _ => none
def lenP (P : Program) (t : TypeId) (x : Value) : PV :=
 match P.underlying t, x with
 | some .string, .string ⟨⟨s⟩⟩ => some (none, .int .i64 s.length)
 | some (.slice _), .slice _ n _ => some (none, .int .i64 n)
 | some (.array n _), _ => some (none, .int .i64 n)
 | some (.map _ _), .map none => some (none, .int .i64 0)
 | _, _ => none
def minP (xs : List Value) : PV :=
 match xs with
 | [.int k x, .int _ y] => some (none, .int k (min x y))
 | [.int k x, .int _ y, .int _ z] => some (none, .int k (min (min x y) z))
 | _ => none
def maxP (xs : List Value) : PV :=
 match xs with
 | [.int k x, .int _ y] => some (none, .int k (max x y))
 | [.int k x, .int _ y, .int _ z] => some (none, .int k (max (max x y) z))
 | [.int k x, .int _ y, .int _ z, .int _ u] => some (none, .int k (max (max (max x y) z) u))
 | _ => none
def builtinP (P : Program) (b : Builtin) (ts : List TypeId) (xs : List Value) : PV :=
 match b with
 | .len => (match ts, xs with
  | [t], [x] => lenP P t x
  | _, _ => none)
 | .min => minP xs
 | .max => maxP xs
 | _ => none
def same (v : Value) : PV :=
 match v with
 | .bool b => some (none, .bool b)
 | .int k n => some (none, .int k n)
 | .float k n => some (none, .float k n)
 | .complex k a b => some (none, .complex k a b)
 | .string s => some (none, .string s)
 | .pointer a => some (none, .pointer a)
 | .slice a l c => some (none, .slice a l c)
 | .map r => some (none, .map r)
 | .chan r => some (none, .chan r)
 | .func f a b => some (none, .func f a b)
 | .nilFunc => some (none, .nilFunc)
 | .iface t v => some (none, .iface t v)
 | .nilIface => some (none, .nilIface)
 | .agg cs => some (none, .agg cs)
 | .tuple vs => some (none, .tuple vs)
theorem Jg1 {v u : Value} {c : Option Prop} (h : same v = some (c, u)) : u = v := by
 unfold same at h; cases v <;> (cases h; rfl)
def Jr2 (P : Program) (e : Env) (o : Op) : PV :=
 match o with
 | .move x => same (ev e x)
 | .assign x => same (ev e x)
 | .pick c a b => (match ev e c with
  | .bool true => same (ev e a)
  | .bool false => same (ev e b)
  | _ => none)
 | .binOp op t x y _ => Qg4 P op t (ev e x) (ev e y)
 | .unOp op _ x => pureUn op (ev e x)
 | .extract x i => (match ev e x with
  | .tuple vs => (match nthO vs.toList i with
   | some v => same v
   | none => none)
  | _ => none)
 | .nilCheck x => (match ev e x with
  | .pointer (some a) => some (none, .pointer (some a))
  | .func (.func f) a b => some (none, .func (.func f) a b)
  | _ => none)
 | .index t x i => indexP P t (ev e x) (ev e i)
 | .indexAddr t x i => Qa3 P t (ev e x) (ev e i)
 | .slice t x lo hi none => sliceP P t (ev e x) (lo.map (ev e)) (hi.map (ev e))
 | .fieldAddr t x f => Qa5 P t (ev e x) f
 | .field t x f => fieldP P t (ev e x) f
 | .convert src dst x => convertP P src dst (ev e x)
 | .makeFunc fn first cap => some (none, .func fn ⟨first.toList.map (ev e)⟩ ⟨cap.toList.map (ev e)⟩)
 | .call ⟨.builtin b, args, ts⟩ => builtinP P b ts.toList (args.toList.map (ev e))
 | _ => none
theorem Qj1 (l : List UInt8) : (ByteArray.mk (Array.mk l)).size = l.length := rfl
theorem strget (l : List UInt8) (i : Nat) : (ByteArray.mk (Array.mk l))[i]? = l[i]? := by
 by_cases h : i < l.length
 ·have h' : i < (ByteArray.mk (Array.mk l)).size := h
  rw [getElem?_pos (ByteArray.mk (Array.mk l)) i h', List.getElem?_eq_getElem h]
  rfl
 ·have h' : ¬ i < (ByteArray.mk (Array.mk l)).size := h
  rw [getElem?_neg (ByteArray.mk (Array.mk l)) i h', List.getElem?_eq_none oM]
theorem strext (l : List UInt8) (i j : Nat) : (ByteArray.mk (Array.mk l)).extract i j = ⟨⟨(l.take j).drop i⟩⟩ := by
 have h : ((ByteArray.mk (Array.mk l)).extract i j).data = ⟨(l.take j).drop i⟩ := by
  rw [ByteArray.data_extract]
  apply Array.ext'
  simp [List.extract_eq_take_drop, List.drop_take]
 exact congrArg ByteArray.mk h
theorem Jc1 (b o n : Nat) : Addr.add ⟨b, o, none⟩ n = ⟨b, o + n, none⟩ := Addr.add_lit b o n
theorem min_swap (x y : Int) : (if y < x then y else x) = min x y := oM
theorem max_swap (x y : Int) : (if y > x then y else x) = max x y := oM
theorem Jz0 {k : IntKind} {i : Int} {y : Nat} {code : BoundsCode} (h : 0 ≤ i ∧ i ≤ y) : (Instr.sliceBound (.int k i) y code).run P w = .ok i.toNat w := by
 simp [Instr.sliceBound, asIntOf, h.1, h.2]
theorem bounds_nn (b : Bool) (len cap : Nat) : (Instr.sliceBounds b len cap none none none).run P w = .ok (0, len, cap) w := by simp [Instr.sliceBounds]
theorem bounds_ns {k : IntKind} {h : Int} (b : Bool) (len cap : Nat) (hc : 0 ≤ h ∧ h ≤ cap) : (Instr.sliceBounds b len cap none (some (.int k h)) none).run P w = .ok (0, h.toNat, cap) w := by
 simp [Instr.sliceBounds, Jz0 hc]
theorem bounds_sn {k : IntKind} {l : Int} (b : Bool) (len cap : Nat) (hc : 0 ≤ l ∧ l ≤ len) : (Instr.sliceBounds b len cap (some (.int k l)) none none).run P w = .ok (l.toNat, len, cap) w := by
 simp [Instr.sliceBounds, Jz0 hc]
theorem bounds_ss {k k' : IntKind} {l h : Int} (b : Bool) (len cap : Nat) (hc : 0 ≤ l ∧ l ≤ h ∧ h ≤ cap) : (Instr.sliceBounds b len cap (some (.int k l)) (some (.int k' h)) none).run P w = .ok (l.toNat, h.toNat, cap) w := by
 have h1 : 0 ≤ h ∧ h ≤ cap := ⟨oM, hc.2.2⟩
 have h2 : 0 ≤ l ∧ l ≤ (h.toNat : Nat) := ⟨hc.1, oM⟩
 simp [Instr.sliceBounds, Jz0 h1, Jz0 h2]
theorem sliceP_sound {t : TypeId} {x : Value} {lo hi : Option Value} {c : Option Prop} {v : Value} (h : sliceP P t x lo hi = some (c, v)) (hc : okC c) :
  (Instr.sliceAt t x lo hi none).run P w = .ok v w := by
 unfold sliceP at h
 split at h <;> first | (cases h; done) | skip
 all_goals rename_i hu
 ·cases h
  simp [Instr.sliceAt, Instr.slice, run_underlying hu, bounds_nn, Qj1, strext]
 ·cases h
  simp only [okC] at hc
  simp [Instr.sliceAt, Instr.slice, run_underlying hu, bounds_ns _ _ _ hc, Qj1, strext]
 ·cases h
  simp only [okC] at hc
  simp [Instr.sliceAt, Instr.slice, run_underlying hu, bounds_sn _ _ _ hc, Qj1, strext]
 ·cases h
  simp only [okC] at hc
  simp [Instr.sliceAt, Instr.slice, run_underlying hu, bounds_ss _ _ _ hc, Qj1, strext]
 ·split at h <;> first | (cases h; done) | skip
  rename_i hi
  cases h
  have hm : ∀ a : Option Addr, a.map (fun x => x.add 0) = a := fun a => by cases a <;> simp [Addr.add]
  simp [Instr.sliceAt, Instr.slice, run_underlying hu, bounds_nn, sizeOf, typeInfo, hi, hm]
 ·split at h <;> first | (cases h; done) | skip
  rename_i hi
  cases h
  simp only [okC] at hc
  have hm : ∀ a : Option Addr, a.map (fun x => x.add 0) = a := fun a => by cases a <;> simp [Addr.add]
  simp [Instr.sliceAt, Instr.slice, run_underlying hu, bounds_ns _ _ _ hc, sizeOf, typeInfo, hi, hm]
 ·split at h <;> first | (cases h; done) | skip
  rename_i hi
  cases h
  simp only [okC] at hc
  simp only [Instr.sliceAt, Instr.slice, Sem.run_bind, run_underlying hu, Result.andThen_ok, bounds_sn _ _ _ hc, sizeOf, typeInfo, run_program, hi, Sem.run_pure, Option.map_some, Jc1, offS]
  congr 2
  split <;> rfl
 ·split at h <;> first | (cases h; done) | skip
  rename_i hi
  cases h
  simp only [okC] at hc
  simp only [Instr.sliceAt, Instr.slice, Sem.run_bind, run_underlying hu, Result.andThen_ok, bounds_ss _ _ _ hc, sizeOf, typeInfo, run_program, hi, Sem.run_pure, Option.map_some, Jc1, offS]
  congr 2
  split <;> rfl
theorem indexP_sound {t : TypeId} {x i : Value} {c : Option Prop} {v : Value} (h : indexP P t x i = some (c, v)) (hc : okC c) : (Instr.index t x i).run P w = .ok v w := by
 unfold indexP at h
 split at h <;> first | (cases h; done) | skip
 rename_i s k i hu
 cases h
 simp only [okC] at hc
 have hlt : i.toNat < s.length := oM
 simp [Instr.index, asIntOf, run_underlying hu, hc.1, strget, List.getElem?_eq_getElem hlt, List.getD_eq_getElem?_getD]
theorem Qc5 {t : TypeId} {x i : Value} {c : Option Prop} {v : Value} (h : Qa3 P t x i = some (c, v)) (hc : okC c) : (Instr.indexAt t x i).run P w = .ok v w := by
 unfold Qa3 at h
 split at h <;> first | (cases h; done) | skip
 ·rename_i elem b off len cap k i hu
  split at h <;> first | (cases h; done) | skip
  all_goals rename_i hi
  all_goals cases h
  all_goals simp only [okC] at hc
  all_goals simp [Instr.indexAt, asIntOf, run_underlying hu, hc.1, hc.2, sizeOf, typeInfo, hi, Jc1]
 ·rename_i len elem b off k i hu
  split at h <;> first | (cases h; done) | skip
  all_goals rename_i hi
  all_goals cases h
  all_goals simp only [okC] at hc
  all_goals simp [Instr.indexAt, Instr.sureAddr, asIntOf, run_underlying hu, hc.1, hc.2, sizeOf, typeInfo, hi, Jc1]
theorem Qb9 {t : TypeId} {x : Value} {f : Nat} {c : Option Prop} {v : Value} (h : Qa5 P t x f = some (c, v)) : (Instr.fieldAt t x f).run P w = .ok v w := by
 unfold Qa5 at h
 split at h <;> first | (cases h; done) | skip
 rename_i fs b off hu
 split at h <;> first | (cases h; done) | skip
 rename_i hf
 split at h <;> first | (cases h; done) | skip
 rename_i hi
 rw [Qc7] at hf
 split at h <;> first | (cases h; done) | skip
 all_goals cases h
 all_goals simp [Instr.fieldAt, fieldPlace, Instr.sureAddr, run_underlying hu, hf, sizeOf, typeInfo, hi, Jc1]
theorem Jn4 {ty : TypeId} {d : TypeDesc} (hd : P.underlying ty = some d) (ha : aggD d = false) : (isAgg ty).run P w = .ok false w := by
 simp only [isAgg, Sem.run_bind, run_underlying hd, Result.andThen_ok]
 cases d <;> first | rfl | (cases ha)
theorem fieldP_sound {t : TypeId} {x : Value} {f : Nat} {c : Option Prop} {v : Value} (h : fieldP P t x f = some (c, v)) : (Instr.field t x f).run P w = .ok v w := by
 unfold fieldP at h
 split at h <;> first | (cases h; done) | skip
 rename_i fs cs hu
 split at h <;> first | (cases h; done) | skip
 rename_i hf
 split at h <;> first | (cases h; done) | skip
 rename_i d hd
 rw [Qc7] at hf
 cases ha : aggD d with
 | true => rw [ha] at h; cases h
 | false =>
  rw [ha] at h
  dsimp only [cond_false] at h
  split at h <;> first | (cases h; done) | skip
  rename_i v' hv
  cases h
  rw [Qc7] at hv
  have hag' := Jn4 (w := w) hd ha
  simp [Instr.field, run_underlying hu, hf, asAgg, part, hag', hv]
theorem Qk8 {src dst : TypeId} {x : Value} {c : Option Prop} {v : Value} (h : convertP P src dst x = some (c, v)) (hc : okC c) : (convert src dst x).run P w = .ok v w := by
 unfold convertP at h
 split at h <;> first | (cases h; done) | skip
 all_goals rename_i hs hd
 ·cases h
  simp only [okC] at hc
  simp only [convert, Sem.run_bind, run_underlying hs, run_underlying hd, Result.andThen_ok]
  rename_i d _
  cases d <;> simp [Conv.intToInt, Jt9 hc]
 ·cases h
  simp only [convert, Sem.run_bind, run_underlying hs, run_underlying hd, Result.andThen_ok]
  rename_i d _ _
  cases d <;> simp [Conv.intToInt]
 ·cases h
  simp only [convert, Sem.run_bind, run_underlying hs, run_underlying hd, Result.andThen_ok]
  rename_i d
  cases d <;> simp
 ·cases h
  simp only [convert, Sem.run_bind, run_underlying hs, run_underlying hd, Result.andThen_ok]
  rename_i d _
  cases d <;> simp [Conv.intToFloat]
theorem lenP_sound {t ty : TypeId} {x : Value} {c : Option Prop} {v : Value} (h : lenP P t x = some (c, v)) : (Builtin.len_ #[t] ty #[x]).run P w = .ok v w := by
 unfold lenP at h
 split at h <;> first | (cases h; done) | skip
 all_goals rename_i hu
 all_goals cases h
 all_goals simp [Builtin.len_, run_underlying hu, goInt, Qj1]
theorem minP_sound {ts : Array TypeId} {ty : TypeId} {xs : List Value} {c : Option Prop} {v : Value} (h : minP xs = some (c, v)) : (Builtin.min_ ts ty ⟨xs⟩).run P w = .ok v w := by
 unfold minP at h
 split at h <;> first | (cases h; done) | skip
 all_goals cases h
 ·simp [Builtin.min_, Builtin.min2, min_swap]
 ·simp [Builtin.min_, Builtin.min2, min_swap]
theorem maxP_sound {ts : Array TypeId} {ty : TypeId} {xs : List Value} {c : Option Prop} {v : Value} (h : maxP xs = some (c, v)) : (Builtin.max_ ts ty ⟨xs⟩).run P w = .ok v w := by
 unfold maxP at h
 split at h <;> first | (cases h; done) | skip
 all_goals cases h
 ·simp [Builtin.max_, Builtin.max2, max_swap]
 ·simp [Builtin.max_, Builtin.max2, max_swap]
 ·simp [Builtin.max_, Builtin.max2, max_swap]
theorem pureUn_sound {op : UnOp} {x : Value} {c : Option Prop} {v : Value} (h : pureUn op x = some (c, v)) (hc : okC c) : (Op.unary op x).run P w = .ok v w := by
 unfold pureUn at h
 split at h <;> first | (cases h; done) | skip
 ·cases h; rfl
 ·cases h; simp only [okC] at hc; simp only [Op.unary, Op.intArith, Sem.run_pure, Jt9 hc]
 ·cases h; rfl
 ·cases h; rfl
theorem Qk5 {b : Builtin} {ts : Array TypeId} {ty : TypeId} {cs : Array Bool} {xs : List Value} {c : Option Prop} {v : Value} (h : builtinP P b ts.toList xs = some (c, v)) :
  (builtin b ts ty cs ⟨xs⟩).run P w = .ok (.value v) w := by
 obtain ⟨ts⟩ := ts
 unfold builtinP at h
 split at h <;> first | (cases h; done) | skip
 ·split at h <;> first | (cases h; done) | skip
  rename_i t x ht
  dsimp only at ht
  subst ht
  simp only [builtin, Sem.run_bind]
  rw [show (Builtin.len_ { toList := [t] } ty { toList := [x] }).run P w = .ok v w from lenP_sound h]
  rfl
 ·simp only [builtin, Sem.run_bind]
  rw [minP_sound h]
  rfl
 ·simp only [builtin, Sem.run_bind]
  rw [maxP_sound h]
  rfl
theorem Jf1 {o : Oper} {c : Option Prop} {v : Value} (h : Jr2 P e o.op = some (c, v)) (hc : okC c) : (execOp (ev e) o).run P w = .ok (.value v) w := by
 obtain ⟨dst, op, ty, pos, after, guard⟩ := o
 dsimp only at h
 unfold Jr2 at h
 split at h <;> first | (cases h; done) | skip
 ·rw [Jg1 h]; rfl
 ·rw [Jg1 h]; rfl
 ·split at h <;> first | (cases h; done) | skip
  all_goals rename_i ht
  all_goals rw [Jg1 h]
  all_goals simp only [execOp, Sem.run_bind, ht, asBool, Sem.run_pure, Result.andThen_ok]
  all_goals rfl
 ·simp only [execOp, Sem.run_bind, eqGuard_pure h, Sem.run_pure, Result.andThen_ok, pureBin_sound h hc]
 ·simp only [execOp, Sem.run_bind, pureUn_sound h hc, Result.andThen_ok, Sem.run_pure]
 ·split at h <;> first | (cases h; done) | skip
  rename_i vs hv
  split at h <;> first | (cases h; done) | skip
  rename_i v' hn
  rw [Qc7] at hn
  rw [Jg1 h]
  simp [execOp, hv, Instr.extract, hn]
 ·split at h <;> first | (cases h; done) | skip
  ·rename_i hv
   cases h
   simp [execOp, hv]
  ·rename_i hv
   cases h
   simp [execOp, hv]
 ·simp only [execOp, Sem.run_bind, indexP_sound h hc, Result.andThen_ok, Sem.run_pure]
 ·simp only [execOp, Sem.run_bind, Qc5 h hc, Result.andThen_ok, Sem.run_pure]
 ·simp only [execOp, Sem.run_bind, Option.map_none, sliceP_sound h hc, Result.andThen_ok, Sem.run_pure]
 ·simp only [execOp, Sem.run_bind, Qb9 h, Result.andThen_ok, Sem.run_pure]
 ·simp only [execOp, Sem.run_bind, fieldP_sound h, Result.andThen_ok, Sem.run_pure]
 ·simp only [execOp, Sem.run_bind, Qk8 h hc, Result.andThen_ok, Sem.run_pure]
 ·cases h
  rename_i first cap
  have e1 : Array.map (ev e) first = ⟨first.toList.map (ev e)⟩ := by apply Array.ext'; simp
  have e2 : Array.map (ev e) cap = ⟨cap.toList.map (ev e)⟩ := by apply Array.ext'; simp
  simp only [execOp, Sem.run_bind, Instr.makeFunc, Result.andThen_ok, Sem.run_pure, e1, e2]
 ·rename_i b args ts
  have e1 : Array.map (ev e) args = ⟨args.toList.map (ev e)⟩ := by apply Array.ext'; simp
  simp only [execOp, resolve, Sem.run_bind, Sem.run_pure, Result.andThen_ok, invoke, e1]
  exact Qk5 h
end Go.Vc

