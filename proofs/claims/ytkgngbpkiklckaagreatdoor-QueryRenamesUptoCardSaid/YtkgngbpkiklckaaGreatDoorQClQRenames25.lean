/- Query: a builder of texts (the shelf's contracts), a number's digits. -/
import Derived.Test.YtkgngbpkiklckaaGreatDoorQClQRenames24
import Derived.WalkKit
import Derived.ProofKit
namespace Go.Vc
open Go Go.Proofs Go.Shelf Go.RowKit
set_option maxRecDepth 10000
variable {w : World}
theorem r_lastKL {P : Program} {n : Nat} {e : Env} {K : EPost} {X : List (Nat × EPost)} {R : EPost} {ro : Ro} {o : Oper} {id : Nat} {L : List Oper} (hm : P.follows .mixedOrders = true) (hL : L.getLast? = some o) (hB : Region.lexB .any L.dropLast.toArray = true) (hS : sinkB L = true)
    (h : QOps P n L.dropLast [] (Kp [] w) (fun e' => ∀ w', Kp [] w w' → Ops ro P n [o] [] K [o] e' w') L.dropLast e) : Wp ro P n (.region id L.toArray true) K X R e w := by
  have e1 : L = L.dropLast ++ [o] := by
    have hne : L ≠ [] := by rintro rfl; simp at hL
    have h1 := List.dropLast_concat_getLast hne
    have h2 := List.getLast?_eq_some_getLast hne
    rw [hL] at h2
    rw [← Option.some.inj h2] at h1
    exact h1.symm
  exact r_lastC (Kp [] w) hm e1 hB (by rw [← e1]; exact hS) ((Sm.drew w).kp []) h
/-- a builder that holds a text, made since w0 -/
structure BdAt (w0 w : World) (b : Nat) (l : List UInt8) : Prop where
  is : Lib.IsBuilderF 92 5 w0.heap.size b (Lib.byteCells l) w
  kp : Kp [] w0 w
theorem isB_kp {B b : Nat} {bs : List Value} {w' : World} {T e : TypeId} (h : Lib.IsBuilderF T e B b bs w) (hk : Kp [] w w') : Lib.IsBuilderF T e B b bs w' := by
  have at_ : ∀ {p : Value}, Lib.BuilderAtF T e B b p bs w → Lib.BuilderAtF T e B b p bs w' := by
    rintro p ⟨h1, v, h2, ⟨h3, h4⟩, h5⟩
    have keep : ∀ {k : Nat} {o : Obj}, w.heap[k]? = some o → w'.heap[k]? = some o := fun {k o} hko => by
      rw [hk.at_ k (Array.getElem?_eq_some_iff.1 hko).1 (by simp)]; exact hko
    refine ⟨h1, v, keep h2, ⟨h3, ?_⟩, h5⟩
    rcases h4 with h4 | ⟨g, cap, cur, fz, g1, g2, g3, g4⟩
    · exact .inl h4
    · exact .inr ⟨g, cap, cur, fz, g1, g2, keep g3, g4⟩
  exact h.elim (fun h => .inl (at_ h)) (fun h => .inr (at_ h))
theorem BdAt.kp' {w0 w' : World} {b : Nat} {l : List UInt8} (h : BdAt w0 w b l) (hk : Kp [] w w') : BdAt w0 w' b l := ⟨isB_kp h.is hk, h.kp.trans hk⟩
theorem BdAt.ge {w0 : World} {b : Nat} {l : List UInt8} (h : BdAt w0 w b l) : w0.heap.size ≤ b := h.is.elim (fun h => h.1) (fun h => h.1)
/-- what writing to a builder leaves -/
structure BdTo (w0 w : World) (b : Nat) (l : List UInt8) (w' : World) : Prop extends BdAt w0 w' b l where
  oth : Lib.OthersKept 5 (some b) w w'
  size : w.heap.size ≤ w'.heap.size
theorem BdTo.trans {w0 w1 w2 : World} {b : Nat} {l l' : List UInt8} (h : BdTo w0 w b l w1) (k : BdTo w0 w1 b l' w2) : BdTo w0 w b l' w2 := ⟨k.toBdAt, h.oth.trans k.oth, Nat.le_trans h.size k.size⟩
theorem BdTo.since {w0 w1 w2 : World} {b : Nat} {l : List UInt8} (h : Kp [] w w1) (k : BdTo w0 w1 b l w2) : BdTo w0 w b l w2 :=
  ⟨k.toBdAt, fun i o hi hb ho => k.oth i o (by rw [h.at_ i (Array.getElem?_eq_some_iff.1 hi).1 (by simp)]; exact hi) hb ho, Nat.le_trans h.size k.size⟩
theorem BdTo.blk {w0 w' : World} {b c : Nat} {l : List UInt8} {cs : List Value} {T : TypeId} (h : BdTo w0 w b l w') (hc : Blk w c cs T) (hcb : c ≠ b) (hT : T ≠ 5) : Blk w' c cs T :=
  h.oth c _ hc (fun e => hcb (Option.some.inj e)) (fun x fz e => by injection e with _ e2; exact hT e2)
theorem kp_of_below {w0 w1 w2 : World} (h : Kp [] w0 w1) (hb : Below w0.heap.size w1 w2) : Kp [] w0 w2 := by
  obtain ⟨h1, h2, h3, h4, h5⟩ := hb
  exact ⟨h1.trans h.os, h2.trans h.tape, h3.trans h.output, Nat.le_trans h.size h4, fun k hk hS => (h5 k hk).trans (h.at_ k hk hS)⟩
theorem xWB : Builder.Extra Tryz.prog Tryz.layWB_ren := { sizeBuilder := by kernel_rfl, liesBuilder := by kernel_rfl, t5 := Tryz.underlying5, a5 := Tryz.isAgg5, z5 := Tryz.sizeOf5, v5 := Tryz.zeroValue5, infoByte := by kernel_rfl, cellsByte := by kernel_rfl, sizeByte := by kernel_rfl, neB5 := by decide }
theorem xWS : Builder.Extra Tryz.prog Tryz.layWS_ren := { sizeBuilder := by kernel_rfl, liesBuilder := by kernel_rfl, t5 := Tryz.underlying5, a5 := Tryz.isAgg5, z5 := Tryz.sizeOf5, v5 := Tryz.zeroValue5, infoByte := by kernel_rfl, cellsByte := by kernel_rfl, sizeByte := by kernel_rfl, neB5 := by decide }
theorem xBS : Builder.Extra Tryz.prog Tryz.layBS_ren := { sizeBuilder := by kernel_rfl, liesBuilder := by kernel_rfl, t5 := Tryz.underlying5, a5 := Tryz.isAgg5, z5 := Tryz.sizeOf5, v5 := Tryz.zeroValue5, infoByte := by kernel_rfl, cellsByte := by kernel_rfl, sizeByte := by kernel_rfl, neB5 := by decide }
theorem byteCells_app (l r : List UInt8) : Lib.byteCells (l ++ r) = Lib.byteCells l ++ Lib.byteCells r := by simp [Lib.byteCells]
theorem byteCells_len (l : List UInt8) : (Lib.byteCells l).length = l.length := by simp [Lib.byteCells]
theorem WriteByte_ret {w0 : World} {b : Nat} {l : List UInt8} (h : BdAt w0 w b l) (hl : l.length ≤ 70368744177664) (c : UInt8) : Ret Tryz.prog 74 [ptr b, Y c] w (fun v w' => v = .nilIface ∧ BdTo w0 w b (l ++ [c]) w') := by
  refine ⟨Tryz.call74, ?_⟩
  refine Calls.mono (Any.Builder_WriteByte_k Tryz.layWB xWB w0.heap.size b (Lib.byteCells l) (c.toNat : Int) w h.is (by rw [byteCells_len]; omega) h.kp.size) ?_
  rintro e w' ⟨rfl, h1, h2, h3⟩
  refine ⟨_, rfl, rfl, ⟨⟨?_, kp_of_below h.kp h2⟩, h3, h2.size⟩⟩
  rw [byteCells_app]
  exact .inr h1
theorem WriteString_ret {w0 : World} {b : Nat} {l : List UInt8} (h : BdAt w0 w b l) (s : List UInt8) (hl : l.length + s.length ≤ 70368744177664) : Ret Tryz.prog 75 [ptr b, S s] w (fun v w' => v = .tuple #[I s.length, .nilIface] ∧ BdTo w0 w b (l ++ s) w') := by
  refine ⟨Tryz.call75, ?_⟩
  refine Calls.mono (Any.Builder_WriteString_k Tryz.layWS xWS w0.heap.size b (Lib.byteCells l) ⟨⟨s⟩⟩ w h.is (by rw [byteCells_len]; show l.length + s.length ≤ _; omega) h.kp.size) ?_
  rintro e w' ⟨rfl, h1, h2, h3⟩
  refine ⟨_, rfl, rfl, ⟨⟨?_, kp_of_below h.kp h2⟩, h3, h2.size⟩⟩
  rw [byteCells_app]
  exact .inr h1
theorem BLen_ret {w0 : World} {b : Nat} {l : List UInt8} (h : BdAt w0 w b l) : Ret Tryz.prog 38 [ptr b] w (fun v w' => v = I l.length ∧ w' = w) := by
  refine ⟨Tryz.call38, ?_⟩
  refine Calls.mono (Any.Builder_Len_f Tryz.layBL w0.heap.size b (Lib.byteCells l) w h.is) ?_
  rintro e w' ⟨rfl, h2⟩
  exact ⟨_, rfl, by rw [byteCells_len], h2⟩
theorem BString_ret {w0 : World} {b : Nat} {l : List UInt8} (h : BdAt w0 w b l) : Ret Tryz.prog 39 [ptr b] w (fun v w' => v = S l ∧ BdTo w0 w b l w') := by
  refine ⟨Tryz.call39, ?_⟩
  refine Calls.mono (Any.Builder_String_any_k Tryz.layBS xBS w0.heap.size b l w h.is h.kp.size) ?_
  rintro e w' ⟨rfl, h1, h2, h3⟩
  exact ⟨_, rfl, rfl, ⟨⟨h1, kp_of_below h.kp h2⟩, h3, h2.size⟩⟩
/-- the table of powers of ten -/
def PowQ (w : World) : Prop := Lib.TabIs Tryz.prog w "internal/strconv.uint64pow10" .u64 Lib.pow10Tab
theorem powGQ : Tryz.prog.globalNamed "internal/strconv.uint64pow10" = some 2 := by kernel_rfl
theorem PowQ.heap {w w' : World} (h : PowQ w) (hk : w'.heap[2]? = w.heap[2]?) : PowQ w' := by
  unfold PowQ Lib.TabIs World.var? at *
  rw [powGQ] at *
  simpa [hk] using h
theorem PowQ.lt {w : World} (h : PowQ w) : 2 < w.heap.size := by
  unfold PowQ Lib.TabIs World.var? at *
  rw [powGQ] at *
  simp only [Option.bind_some] at h
  cases hx : w.heap[2]? with
  | none => rw [hx] at h; simp at h
  | some o => exact (Array.getElem?_eq_some_iff.1 hx).1
theorem PowQ.kp {w w' : World} {F : List Nat} (h : PowQ w) (hk : Kp F w w') (hF : 2 ∉ F) : PowQ w' := h.heap (hk.at_ _ h.lt hF)
theorem grown_kpQ {w1 : World} {k : Nat} {os : Array Obj} (h : w1 = Go.Sort.grow (w.drewN k) os) : Kp [] w w1 := by
  subst h
  refine ⟨rfl, rfl, rfl, ?_, fun i hi _ => ?_⟩
  · show w.heap.size ≤ (w.heap ++ os).size
    rw [Array.size_append]; omega
  · show (w.heap ++ os)[i]? = _
    exact Array.getElem?_append_left hi
theorem Itoa_ret (hP : PowQ w) (n : Nat) (hn : n ≤ 9223372036854775807) : Ret Tryz.prog 76 [I n] w (fun v w' => v = S (Lib.decDigits n) ∧ Kp [] w w') := by
  refine ⟨Tryz.call76, ?_⟩
  refine Calls.mono (Any.strconv_Itoa Tryz.layItoa (n : Int) (by omega) (by omega) w hP) ?_
  rintro e w' ⟨rfl, k, os, hw⟩
  exact ⟨_, rfl, by show _ = Value.string ⟨⟨Lib.decDigits n⟩⟩; unfold Lib.itoa; simp, grown_kpQ hw⟩
end Go.Vc
