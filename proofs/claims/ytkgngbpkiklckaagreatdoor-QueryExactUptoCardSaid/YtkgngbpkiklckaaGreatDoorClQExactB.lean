/- QueryExact: of every text what is read, of every tree its sort, its text, itself renamed, and what it answers of any events with any fuel, or the refusals, as the document has it: it returns true for every input whose arguments hold at most 1048576 values and letters together, where the five listed variables hold what their initialisers lay. -/
import Derived.Test.YtkgngbpkiklckaaGreatDoorCards
import Derived.Test.YtkgngbpkiklckaaGreatDoorTie
import Derived.Test.YtkgngbpkiklckaaGreatDoorQClQExact45
import Derived.JoinedCond
import Derived.WalkKit
import Derived.ProofKit
import Derived.OpenShut
import Derived.ShutString
import Derived.ChangeOld
import Derived.Below
import Derived.Deep.DeepHandedRow
import Derived.Lib.LaidTab
import Derived.Stop.LaidErr
import Derived.Lib.LaidU8
import Derived.Deep.DeepWitnessRowRef
namespace Go.Proofs.YtkgngbpkiklckaaGreatDoor.queryExact
open Go.ChangeShapes Go.WideShapes Go.ChangeAt Go.RowKit
open Go.ChangeMaps (open_string shut_string)
set_option linter.unusedVariables false
theorem own : ownKnob Tryz.prog.godebug = none := by kernel_rfl
theorem laidOut : laidOutB Tryz.prog = true := by kernel_rfl
theorem gTabType : (Tryz.prog.globals[2]?).map (·.type) = some 281 := by kernel_rfl
theorem cellsTab : Tryz.prog.cellsOf 281 = 20 := by kernel_rfl
theorem cellsU64 : Tryz.prog.cellsOf 174 = 1 := by kernel_rfl
theorem gAscType : (Tryz.prog.globals[0]?).map (·.type) = some 264 := by kernel_rfl
theorem cellsAsc : Tryz.prog.cellsOf 264 = 256 := by kernel_rfl
theorem cellsU8 : Tryz.prog.cellsOf 5 = 1 := by kernel_rfl
theorem powW {W : World} (h : laidMetH Tryz.prog Rows.queryExactUptoRow.laid W) : Go.Vc.PowQ W := by
 have h1 : laidMet Tryz.prog Rows.queryExactUptoRow.laid W := h
 exact Lib.tabIs_of_head Go.Vc.powGQ gTabType Tryz.underlying281 Tryz.underlying174 cellsU64 cellsTab (laidMet.tail (laidMet.tail h1))
set_option maxRecDepth 100000 in
theorem ascW {W : World} (h : laidMetH Tryz.prog Rows.queryExactUptoRow.laid W) : Go.Vc.AscW W := by
 have h1 : laidMet Tryz.prog Rows.queryExactUptoRow.laid W := h
 exact Lib.tabIs_of_head Go.Vc.ascG gAscType Tryz.underlying264 Tryz.underlying5 cellsU8 cellsAsc (laidMet.tail (laidMet.tail (laidMet.tail (laidMet.tail h1))))
def litV : DataW Unit → Value
 | .lit (.int k z) => .int k z
 | _ => .bool false
def litsV : DataW Unit → List Value
 | .agg l => l.map litV
 | _ => []
theorem bulk_slice {H : Type} (a b : List (DataW H)) : Rows.uptoBulk (.slice a b) = Rows.uptoBulkAll a + Rows.uptoBulkAll b + 1 := by simp only [Rows.uptoBulk]
theorem bulk_str {H : Type} (s : List UInt8) : Rows.uptoBulk (.lit (.string s) : DataW H) = s.length + 1 := by simp only [Rows.uptoBulk]
theorem bulk_lits {H : Type} (k : IntKind) (zs : List Int) : Rows.uptoBulkAll (lits (H := H) k zs) = zs.length := by
 induction zs with
 | nil => rfl
 | cons z r ih => show Rows.uptoBulk (DataW.lit (.int k z)) + Rows.uptoBulkAll (lits k r) = _; rw [ih]; simp only [Rows.uptoBulk, List.length_cons]; omega
set_option maxRecDepth 100000 in
theorem contract (H : Type) (enc : TypeId × Value → H) (W : World) (base : Nat) (args : Array Value) (ds gs : List (DataW H)) (before : List MemPlace) (hk : Rows.uptoSmall H (ds ++ gs) = true)
  (hval0 : ∀ (j : Nat) t v, Tryz.f9.params[j]? = some t → args[j]? = some v → Value.okWide Tryz.prog W .any base t v)
  (hW : DataW.Whole enc Tryz.prog Tryz.f9.params.toList Rows.queryExactSpec.vars false W args.toList ds gs before) (hL : laidMetH Tryz.prog Rows.queryExactUptoRow.laid W) :
  Calls Tryz.prog 9 args W fun e W' => ∃ v, e = .returned v ∧ Rows.queryExactSpec.post enc Tryz.prog Tryz.f9 false true false false W args v W' := by
 have hval : ∀ (j : Nat) t v, Tryz.f9.params[j]? = some t → args[j]? = some v → Value.okWide Tryz.prog W .any base t v := hval0
 have hW' := hW
 have hP := powW hL
 have hAs := ascW hL
 obtain ⟨p, q, hA0, hV, rfl, hfz, hnd⟩ := hW
 have hA : DataW.TrodAll enc Tryz.prog W 0 (fun _ => true) true Tryz.f9.params.toList args.toList ds p := hA0
 rw [Tryz.params9] at hA hval
 obtain ⟨v0, vs0, d0, ds0, p0, q0, hargs, rfl, rfl, h0, r0⟩ := trodAll_cons hA
 obtain ⟨rfl, rfl, rfl⟩ := trodAll_nil r0
 obtain rfl : args = #[v0] := by cases args; simp_all
 obtain ⟨rfl, rfl⟩ := trodVars_none hV
 have hb : Rows.uptoBulkAll ([d0] ++ []) ≤ 1048576 := by have h := hk; unfold Rows.uptoSmall at h; exact of_decide_eq_true h
 obtain ⟨cs0, rfl, _⟩ := okWide_struct Tryz.underlying30 (hval 0 30 v0 rfl rfl)
 have k0 := h0
 have lt0 : ∀ x ∈ p0, x.block < W.heap.size := by obtain ⟨m, hm⟩ := k0; exact DataW.trod_lt m _ _ _ hm
 obtain ⟨fuel0, hf0⟩ := h0
 obtain ⟨x0, rfl, w0⟩ := Go.Vc.rd_ask hf0
 clear hA0 hval0
 simp only [List.cons_append, List.nil_append, Rows.uptoBulkAll] at hb
 have hwalk : Calls Tryz.prog 9 #[.agg ⟨x0.C⟩] W (fun e W' => e = .returned (.bool true) ∧ Below W.heap.size W W') := Go.Vc.queryExact_walk hAs hP w0 (by omega)
 refine hwalk.mono fun e W' ⟨he, bel⟩ => ?_
 subst he
 exact ⟨_, rfl, _, _, _, [], _, [], hW', trodAll_mk1 (shut_bool Tryz.underlying4 _), (trodAll_cons_mk (Below.trod laidOut (by kernel_rfl) (of_decide_eq_true (by kernel_rfl)) k0 bel lt0) trodAll_mk0), rfl, bel.frame _, fun h => by cases h⟩
def laidAs (vs : List Value) : Obj → Obj
 | .cells _ t frozen => .cells vs.toArray t frozen
 | o => o
/-- a world for the witness: the settled one with two blocks more (the ranges of unicode.White_Space), the variables holding what their initialisers lay -/
noncomputable def Qi4 (os : Os) : World :=
 let N := (World.settled Tryz.prog os).heap.size
 let w0 := World.holding Tryz.prog os ⟨#[.cells (Lib.whiteT.map fun (z : Nat) => Value.int .u16 (z : Int)).toArray 292, .cells #[.slice (some ⟨N, 0, none⟩) 7 7, .slice none 0 0, .int .i64 2] 289], #[], []⟩
 { w0 with heap := ((((w0.heap.modify 3 (laidAs (litsV Rows.laid_math_bits_deBruijn32tab))).modify 4 (laidAs (litsV Rows.laid_math_bits_deBruijn64tab))).modify 2 (laidAs (litsV Rows.laid_internal_strconv_uint64pow10))).modify 0 (laidAs (litsV Rows.laid_strings_asciiSpace))).modify 1 (laidAs [.pointer (some ⟨N + 1, 0, none⟩)]) }
theorem laid_met (os : Os) : laidMet Tryz.prog Rows.queryExactUptoRow.laid ((Qi4 os).forCall (fun _ _ => 0) ⟨#[], #[.agg ⟨[.string ByteArray.empty, .slice none 0 0, .int .i64 0, .int .i64 0, .int .i64 0, .int .i64 0, .slice none 0 0, .slice none 0 0, .int .i64 0, .string ByteArray.empty, .string ByteArray.empty]⟩], []⟩).memory :=
 laidMet_of_run' 8 (by kernel_rfl) (by kernel_rfl)
theorem reads (os : Os) {H : Type} (enc : TypeId × Value → H) : ∃ places, DataW.whole enc Tryz.prog ((Qi4 os).forCall (fun _ _ => 0) ⟨#[], #[.agg ⟨[.string ByteArray.empty, .slice none 0 0, .int .i64 0, .int .i64 0, .int .i64 0, .int .i64 0, .slice none 0 0, .slice none 0 0, .int .i64 0, .string ByteArray.empty, .string ByteArray.empty]⟩], []⟩).memory Tryz.f9.params.toList Rows.queryExactSpec.vars false #[Value.agg ⟨[.string ByteArray.empty, .slice none 0 0, .int .i64 0, .int .i64 0, .int .i64 0, .int .i64 0, .slice none 0 0, .slice none 0 0, .int .i64 0, .string ByteArray.empty, .string ByteArray.empty]⟩].toList 8 = some ([.agg [.lit (.string []), .agg [.nil], .agg [.lit (.int .i64 0), .lit (.int .i64 0), .lit (.int .i64 0), .lit (.int .i64 0), .nil], .nil, .lit (.int .i64 0), .lit (.string []), .lit (.string [])]], [], places) :=
 ⟨[], by kernel_rfl⟩
set_option maxRecDepth 100000 in
theorem liftedUpto (os : Os) (started : os.Started) (H : Type) (enc : TypeId × Value → H) (F : Stop.Interp) :
  ReturnsInHanded {} Tryz.checked os 9 .any ((Rows.OpenSpec.upto Rows.queryExactSpec).preRow enc Tryz.prog Tryz.f9 Rows.queryExactUptoRow.domain false Rows.queryExactUptoRow.laid) (((Rows.OpenSpec.upto Rows.queryExactSpec).at F).post enc Tryz.prog Tryz.f9 false true false false) := by
 obtain ⟨places, hx⟩ := reads os enc
 refine returnsInHanded_of_row (C := Tryz.checked) (s := Rows.OpenSpec.upto Rows.queryExactSpec) own started (by kernel_rfl) Tryz.func9
  (witness_row_atRef (enc := enc) (C := Tryz.checked) false (Qi4 os) #[.agg ⟨[.string ByteArray.empty, .slice none 0 0, .int .i64 0, .int .i64 0, .int .i64 0, .int .i64 0, .slice none 0 0, .slice none 0 0, .int .i64 0, .string ByteArray.empty, .string ByteArray.empty]⟩] rfl (by kernel_rfl) (by kernel_rfl) (by kernel_rfl)
   (OpenSpec.preRow_of_cond 8 hx (by kernel_rfl) (fun k hk => by cases hk; kernel_rfl) (by kernel_rfl) (laid_met os))) ?_
 intro W base args ds gs before hval hW _ hcond _ hL _ _
 exact contract H enc W base args ds gs before (hcond _ rfl) hval hW hL
theorem saidUpto : Rows.QueryExactUptoSaid :=
 OpenClaim.holds_of_cond 9 Tryz.f9 rfl rfl rfl rfl rfl rfl rfl ⟨rfl, rfl, rfl, rfl, rfl⟩ rfl rfl rfl rfl rfl (by kernel_rfl) Tryz.func9 (by kernel_rfl)
  (of_decide_eq_true (by kernel_rfl)) (by unfold Func.isWrapper; first | (rw [if_pos (by decide +kernel)]; kernel_rfl) | (rw [if_neg (by decide +kernel)]; exact ⟨rfl, rfl⟩))
  (fun os started H enc _ F => by rw [OpenClaim.pre_eq_preRow]; exact liftedUpto os started H enc F)
theorem plain (f : FuncId) (fn : Func) (hf : Tryz.pinned.checked.prog.funcNamed "abreast/abreastlaw30.QueryExact" = some f) (hfn : Tryz.pinned.checked.prog.funcs[f]? = some fn) :
  true = Tryz.pinned.checked.prog.looks [] ∧ ∀ (j : Nat) t, fn.params[j]? = some t → Tryz.pinned.checked.prog.wantsStandIn t = false := by
 obtain rfl : f = 9 := Option.some.inj ((show Tryz.prog.funcNamed "abreast/abreastlaw30.QueryExact" = some 9 by kernel_rfl).symm.trans hf) |>.symm
 obtain rfl : fn = Tryz.f9 := (Option.some.inj (Tryz.func9.symm.trans hfn)).symm
 refine ⟨by kernel_rfl, fun j t ht => ?_⟩
 rw [Tryz.params9] at ht
 have hm := Array.mem_of_getElem? ht
 simp only [List.mem_toArray, List.mem_cons, List.not_mem_nil, or_false] at hm
 subst hm
 ·exact (show Tryz.prog.wantsStandIn 30 = false by kernel_rfl)
theorem proved : Rows.QueryExactUptoCardSaid :=
 Claim7.holds_tied_plain_at .later [] _ _ _ _ saidUpto (fun _ h => by cases h) (by kernel_rfl) (fun _ h => by cases h) queryExactUpto_row_tie rfl ⟨rfl, rfl⟩ (by kernel_rfl) rfl plain (by kernel_rfl)
#print axioms proved
end Go.Proofs.YtkgngbpkiklckaaGreatDoor.queryExact

