/- A region that draws its order, all of whose operations only read but the last one, which waits for all of them. -/
import Derived.Test.YtghdpibdidfpbaaDoorQClNPlays9
namespace Go.Vc
open Go
variable {P : Program} {n : Nat} {a : Act} {e : Env} {w : World} {K : EPost} {X : List (Nat × EPost)} {R : EPost} {all : List Oper} {G : List Nat} {ro : Option Nat}

def bindsOn (o : Oper) (j : Nat) : Bool := o.after.toList.any fun e => Region.binds .any e && Nat.beq e.on j
/-- each operation is awaited by a later one, none waits for a later one, none is guarded -/
def sinkFrom : Nat → List Oper → Bool
  | _, [] => true
  | k, o :: r => (r.isEmpty || r.any (fun q => bindsOn q k)) && o.after.toList.all (fun e => !Region.binds .any e || Nat.blt e.on k) && o.guard.isNone && sinkFrom (k + 1) r
def sinkB (L : List Oper) : Bool := sinkFrom 0 L

section
variable {l : List Oper} {o : Oper}
theorem Kp.after {S S' : List Nat} {w0 w w' : World} (h0 : Kp S w0 w) (h : Kp S' w w') (hs : ∀ b, b ∈ S' → b ∈ S ∨ w0.heap.size ≤ b) : Kp S w0 w' :=
  ⟨h.os.trans h0.os, h.tape.trans h0.tape, h.output.trans h0.output, Nat.le_trans h0.size h.size, fun k hk hS => (h.at_ k (Nat.lt_of_lt_of_le hk h0.size) (fun hm => by rcases hs k hm with h | h; exact hS h; omega)).trans (h0.at_ k hk hS)⟩
end
/-! ### append of nothing -/
theorem run_append0 {t ty T : TypeId} {i : TypeInfo} (hu : P.underlying t = some (.slice T)) (hi : P.info? T = some i) {ad ay : Option Addr} {k cap cy : Nat} (hk : k ≤ cap) :
    (Builtin.append_ #[t, t] ty #[.slice ad k cap, .slice ay 0 cy]).run P w = .ok (.slice ad k cap) w := by
  cases ad <;> cases ay <;> simp [Builtin.append_, run_underlying hu, sizeOf, typeInfo, hi, Builtin.lenOf, Builtin.firstCells, hk, storeCells, loadCells, loadCellsFrom]
theorem o_append0 {dst : Option Tmp} {ty : TypeId} {pos : String} {after : Array Edge} {g : Option (Nat × Bool)} {l : List Oper} {t : TypeId} {x y : Operand} {T : TypeId} {i : TypeInfo} {ad ay : Option Addr} {k cap cy : Nat}
    (hx : ev e x = .slice ad k cap) (hy : ev e y = .slice ay 0 cy) (hk : k ≤ cap) (hu : P.underlying t = some (.slice T)) (hi : P.info? T = some i) (hd : dOk n dst = true) (hm : may all G e g = some true)
    (kk : Ops ro P n all G K l (put e dst (.slice ad k cap)) w) : Ops ro P n all G K (⟨dst, .call ⟨.builtin .append, #[x, y], #[t, t]⟩, ty, pos, after, g⟩ :: l) e w := by
  refine ops_does (v := .slice ad k cap) (w' := w) hd hm ?_ kk
  simp only [execOp, resolve, Sem.run_bind, Sem.run_pure, Result.andThen_ok, invoke, builtin, List.map_toArray, List.map_cons, List.map_nil, hx, hy, run_append0 (ty := ty) (cy := cy) hu hi hk]
/-- an empty slice literal: a block of no cells -/
theorem o_buildSlice0 {dst : Option Tmp} {ty : TypeId} {pos : String} {after : Array Edge} {g : Option (Nat × Bool)} {l : List Oper} {t T : TypeId} {i : TypeInfo}
    (hu : P.underlying t = some (.slice T)) (hi : P.info? T = some i) (hd : dOk n dst = true) (hm : may all G e g = some true)
    (k : ∀ b w', b = w.heap.size → Upd w b (.cells ⟨[]⟩ T (0, 0)) w' → Ops ro P n all G K l (put e dst (.slice (some ⟨b, 0, none⟩) 0 0)) w') : Ops ro P n all G K (⟨dst, .buildSlice t 0 #[], ty, pos, after, g⟩ :: l) e w := by
  refine ops_does (v := .slice (some ⟨w.heap.size, 0, none⟩) 0 0) (w' := w.alloc (.cells ⟨[]⟩ T)) hd hm ?_ (k _ _ rfl (upd_alloc w _))
  simp [execOp, Instr.buildSlice, run_underlying hu, sizeOf, typeInfo, hi, Instr.fill, newRow, run_newObj]
  have e0 : Array.map (fun (_ : Nat) => (default : Value)) (Array.range 0) = ⟨[]⟩ := by simp
  rw [e0]
end Go.Vc
