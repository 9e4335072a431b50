/-
  NARROWER THAN 'FOR EVERY INPUT', by the rows' own cells (each row's printed sentence says how): BitsOrder: laid · BitsWords: laid · BitsCloses: laid · BitsRelations: laid · BitsAlgebra: laid · BitsPlays: laid · BitsNil: laid.
  DERIVED. THE GIVEN ROWS OF THIS SEAT. 7 by the template 'for every input the law returns true; each argument reads behind the call as it read before'; 0 by the template 'total and deterministic' (their statements: YtdfkhnhmcanncaaDoorTotals.lean).
  GIVEN WITH THE SEED: the statements are not yours to turn. If you find one false, say at which input.
  Laid BY PROGRAM, IN A SANDBOX (cutbox-rows.mjs): the forced cells as the released guide's own fill.sh prints them over the translation f08a3c661c5ccf5b… (all of the seat's roots in one cut). By AI agents, Wed Nov 11 2026. No macro, syntax, notation, axiom, sorry.
-/
import Derived.Test.YtdfkhnhmcanncaaDoorChecked
import GoSem.Claim
import GoSem.ClaimJoined
import GoSem.ClaimMapViews
import Derived.JoinedTies
import Derived.KernelRfl
namespace Go.Proofs.YtdfkhnhmcanncaaDoor
/- THE CELL 'sum', in the pinned program and in every row, IS THE sha256 OF THE DUMP (.gsa) THAT YtdfkhnhmcanncaaDoorProg.lean LOADS. Nothing in Lean hashes anything: it is a label: what it is worth is what the hold of that sum in a sandbox is worth. -/
noncomputable def Tryd.pinned : Pinned := { name := "ytdfkhnhmcanncaadoor", sum := "f08a3c661c5ccf5bcbd65df73ba4543443120a8b0c76b867e2e5a601e594d971", checked := Tryd.checked }
namespace Rows
def none {H : Type} : Left H := { results := [], args := [] }

/- WHAT THE LISTED PACKAGE-LEVEL VARIABLES READ AS WHEN THE CALL BEGINS. Each datum BY PROGRAM (the guide's laid-datum.mjs) off the statement by which the dump's own 'gosem.cut.vars' lays the variable. In a bare row this is a premise. The card (YtdfkhnhmcanncaaDoorCards.lean) ties it to the program's text. -/
def laid_math_bits_deBruijn64tab {H : Type} : DataW H := .agg [.lit (.int .u8 0), .lit (.int .u8 1), .lit (.int .u8 56), .lit (.int .u8 2), .lit (.int .u8 57), .lit (.int .u8 49), .lit (.int .u8 28), .lit (.int .u8 3), .lit (.int .u8 61), .lit (.int .u8 58), .lit (.int .u8 42), .lit (.int .u8 50), .lit (.int .u8 38), .lit (.int .u8 29), .lit (.int .u8 17), .lit (.int .u8 4), .lit (.int .u8 62), .lit (.int .u8 47), .lit (.int .u8 59), .lit (.int .u8 36), .lit (.int .u8 45), .lit (.int .u8 43), .lit (.int .u8 51), .lit (.int .u8 22), .lit (.int .u8 53), .lit (.int .u8 39), .lit (.int .u8 33), .lit (.int .u8 30), .lit (.int .u8 24), .lit (.int .u8 18), .lit (.int .u8 12), .lit (.int .u8 5), .lit (.int .u8 63), .lit (.int .u8 55), .lit (.int .u8 48), .lit (.int .u8 27), .lit (.int .u8 60), .lit (.int .u8 41), .lit (.int .u8 37), .lit (.int .u8 16), .lit (.int .u8 46), .lit (.int .u8 35), .lit (.int .u8 44), .lit (.int .u8 21), .lit (.int .u8 52), .lit (.int .u8 32), .lit (.int .u8 23), .lit (.int .u8 11), .lit (.int .u8 54), .lit (.int .u8 26), .lit (.int .u8 40), .lit (.int .u8 15), .lit (.int .u8 34), .lit (.int .u8 20), .lit (.int .u8 31), .lit (.int .u8 10), .lit (.int .u8 25), .lit (.int .u8 14), .lit (.int .u8 19), .lit (.int .u8 9), .lit (.int .u8 13), .lit (.int .u8 8), .lit (.int .u8 7), .lit (.int .u8 6)]

/-- 'abreastlaw05.BitsOrder': WHATEVER THE INPUT: true; the input reads as it did. -/
def bitsOrderSpec : ChangeSpec := { name := "bitsOrder", fn := fun _ => fun
  | [d1, d2] => { results := [.lit (.bool true)], args := [d1, d2] }
  | _ => none }
def bitsOrderRow : OpenClaim := { program := "ytdfkhnhmcanncaadoor", sum := "f08a3c661c5ccf5bcbd65df73ba4543443120a8b0c76b867e2e5a601e594d971", func := "abreast/abreastlaw05.BitsOrder", spec := "bitsOrder", unfollowed := true, recurses := true, named := ["math/bits.deBruijn64tab"], apart := false, laid := [("math/bits.deBruijn64tab", laid_math_bits_deBruijn64tab)] }
def BitsOrderSaid : Prop := bitsOrderRow.holds Tryd.pinned (OpenSpec.ofChange bitsOrderSpec)

/-- ITS FALSE NEIGHBOUR: 'it returns false'. Refute it at one input. -/
def bitsOrderWrong : ChangeSpec := { name := "bitsOrder", fn := fun _ => fun
  | [d1, d2] => { results := [.lit (.bool false)], args := [d1, d2] }
  | _ => none }
def BitsOrderWrongFalsely : Prop := bitsOrderRow.holds Tryd.pinned (OpenSpec.ofChange bitsOrderWrong)

/-- 'abreastlaw05.BitsWords': WHATEVER THE INPUT: true; the input reads as it did. -/
def bitsWordsSpec : ChangeSpec := { name := "bitsWords", fn := fun _ => fun
  | [d] => { results := [.lit (.bool true)], args := [d] }
  | _ => none }
def bitsWordsRow : OpenClaim := { program := "ytdfkhnhmcanncaadoor", sum := "f08a3c661c5ccf5bcbd65df73ba4543443120a8b0c76b867e2e5a601e594d971", func := "abreast/abreastlaw05.BitsWords", spec := "bitsWords", unfollowed := true, recurses := true, named := ["math/bits.deBruijn64tab"], apart := false, laid := [("math/bits.deBruijn64tab", laid_math_bits_deBruijn64tab)] }
def BitsWordsSaid : Prop := bitsWordsRow.holds Tryd.pinned (OpenSpec.ofChange bitsWordsSpec)

/-- ITS FALSE NEIGHBOUR: 'it returns false'. Refute it at one input. -/
def bitsWordsWrong : ChangeSpec := { name := "bitsWords", fn := fun _ => fun
  | [d] => { results := [.lit (.bool false)], args := [d] }
  | _ => none }
def BitsWordsWrongFalsely : Prop := bitsWordsRow.holds Tryd.pinned (OpenSpec.ofChange bitsWordsWrong)

/-- 'abreastlaw05.BitsCloses': WHATEVER THE INPUT: true; the input reads as it did. -/
def bitsClosesSpec : ChangeSpec := { name := "bitsCloses", fn := fun _ => fun
  | [d1, d2] => { results := [.lit (.bool true)], args := [d1, d2] }
  | _ => none }
def bitsClosesRow : OpenClaim := { program := "ytdfkhnhmcanncaadoor", sum := "f08a3c661c5ccf5bcbd65df73ba4543443120a8b0c76b867e2e5a601e594d971", func := "abreast/abreastlaw05.BitsCloses", spec := "bitsCloses", unfollowed := true, recurses := true, named := ["math/bits.deBruijn64tab"], apart := false, laid := [("math/bits.deBruijn64tab", laid_math_bits_deBruijn64tab)] }
def BitsClosesSaid : Prop := bitsClosesRow.holds Tryd.pinned (OpenSpec.ofChange bitsClosesSpec)

/-- ITS FALSE NEIGHBOUR: 'it returns false'. Refute it at one input. -/
def bitsClosesWrong : ChangeSpec := { name := "bitsCloses", fn := fun _ => fun
  | [d1, d2] => { results := [.lit (.bool false)], args := [d1, d2] }
  | _ => none }
def BitsClosesWrongFalsely : Prop := bitsClosesRow.holds Tryd.pinned (OpenSpec.ofChange bitsClosesWrong)

/-- 'abreastlaw05.BitsRelations': WHATEVER THE INPUT: true; the input reads as it did. -/
def bitsRelationsSpec : ChangeSpec := { name := "bitsRelations", fn := fun _ => fun
  | [d1, d2] => { results := [.lit (.bool true)], args := [d1, d2] }
  | _ => none }
def bitsRelationsRow : OpenClaim := { program := "ytdfkhnhmcanncaadoor", sum := "f08a3c661c5ccf5bcbd65df73ba4543443120a8b0c76b867e2e5a601e594d971", func := "abreast/abreastlaw05.BitsRelations", spec := "bitsRelations", unfollowed := true, recurses := true, named := ["math/bits.deBruijn64tab"], apart := false, laid := [("math/bits.deBruijn64tab", laid_math_bits_deBruijn64tab)] }
def BitsRelationsSaid : Prop := bitsRelationsRow.holds Tryd.pinned (OpenSpec.ofChange bitsRelationsSpec)

/-- ITS FALSE NEIGHBOUR: 'it returns false'. Refute it at one input. -/
def bitsRelationsWrong : ChangeSpec := { name := "bitsRelations", fn := fun _ => fun
  | [d1, d2] => { results := [.lit (.bool false)], args := [d1, d2] }
  | _ => none }
def BitsRelationsWrongFalsely : Prop := bitsRelationsRow.holds Tryd.pinned (OpenSpec.ofChange bitsRelationsWrong)

/-- 'abreastlaw05.BitsAlgebra': WHATEVER THE INPUT: true; the input reads as it did. -/
def bitsAlgebraSpec : ChangeSpec := { name := "bitsAlgebra", fn := fun _ => fun
  | [d1, d2] => { results := [.lit (.bool true)], args := [d1, d2] }
  | _ => none }
def bitsAlgebraRow : OpenClaim := { program := "ytdfkhnhmcanncaadoor", sum := "f08a3c661c5ccf5bcbd65df73ba4543443120a8b0c76b867e2e5a601e594d971", func := "abreast/abreastlaw05.BitsAlgebra", spec := "bitsAlgebra", unfollowed := true, recurses := true, named := ["math/bits.deBruijn64tab"], apart := false, laid := [("math/bits.deBruijn64tab", laid_math_bits_deBruijn64tab)] }
def BitsAlgebraSaid : Prop := bitsAlgebraRow.holds Tryd.pinned (OpenSpec.ofChange bitsAlgebraSpec)

/-- ITS FALSE NEIGHBOUR: 'it returns false'. Refute it at one input. -/
def bitsAlgebraWrong : ChangeSpec := { name := "bitsAlgebra", fn := fun _ => fun
  | [d1, d2] => { results := [.lit (.bool false)], args := [d1, d2] }
  | _ => none }
def BitsAlgebraWrongFalsely : Prop := bitsAlgebraRow.holds Tryd.pinned (OpenSpec.ofChange bitsAlgebraWrong)

/-- 'abreastlaw05.BitsPlays': WHATEVER THE INPUT: true; the input reads as it did. -/
def bitsPlaysSpec : ChangeSpec := { name := "bitsPlays", fn := fun _ => fun
  | [d] => { results := [.lit (.bool true)], args := [d] }
  | _ => none }
def bitsPlaysRow : OpenClaim := { program := "ytdfkhnhmcanncaadoor", sum := "f08a3c661c5ccf5bcbd65df73ba4543443120a8b0c76b867e2e5a601e594d971", func := "abreast/abreastlaw05.BitsPlays", spec := "bitsPlays", unfollowed := true, recurses := true, named := ["math/bits.deBruijn64tab"], apart := false, laid := [("math/bits.deBruijn64tab", laid_math_bits_deBruijn64tab)] }
def BitsPlaysSaid : Prop := bitsPlaysRow.holds Tryd.pinned (OpenSpec.ofChange bitsPlaysSpec)

/-- ITS FALSE NEIGHBOUR: 'it returns false'. Refute it at one input. -/
def bitsPlaysWrong : ChangeSpec := { name := "bitsPlays", fn := fun _ => fun
  | [d] => { results := [.lit (.bool false)], args := [d] }
  | _ => none }
def BitsPlaysWrongFalsely : Prop := bitsPlaysRow.holds Tryd.pinned (OpenSpec.ofChange bitsPlaysWrong)

/-- 'abreastlaw05.BitsNil': WHATEVER THE INPUT: true; the input reads as it did. -/
def bitsNilSpec : ChangeSpec := { name := "bitsNil", fn := fun _ => fun
  | [] => { results := [.lit (.bool true)], args := [] }
  | _ => none }
def bitsNilRow : OpenClaim := { program := "ytdfkhnhmcanncaadoor", sum := "f08a3c661c5ccf5bcbd65df73ba4543443120a8b0c76b867e2e5a601e594d971", func := "abreast/abreastlaw05.BitsNil", spec := "bitsNil", unfollowed := true, recurses := true, named := ["math/bits.deBruijn64tab"], apart := false, laid := [("math/bits.deBruijn64tab", laid_math_bits_deBruijn64tab)] }
def BitsNilSaid : Prop := bitsNilRow.holds Tryd.pinned (OpenSpec.ofChange bitsNilSpec)

/-- ITS FALSE NEIGHBOUR: 'it returns false'. Refute it at one input. -/
def bitsNilWrong : ChangeSpec := { name := "bitsNil", fn := fun _ => fun
  | [] => { results := [.lit (.bool false)], args := [] }
  | _ => none }
def BitsNilWrongFalsely : Prop := bitsNilRow.holds Tryd.pinned (OpenSpec.ofChange bitsNilWrong)

/- THE SECOND FORM. 'bulk': how many values and letters a reading holds, each counted each time it is reached (what is shared counts as often as it is met; a slice's spare places count too). A statement '..UptoSaid' is the law's where the arguments, and the package variables that the reading takes, are together of bulk at most 1048576: NARROWER than '..Said'. Prove '..Said' where nothing that the law and all that it calls make is longer than what came in: it says more and counts as full. Else prove '..UptoSaid'. A law counts once. -/
mutual
def uptoBulk {H : Type} : DataW H → Nat
  | .lit (.string bytes) => bytes.length + 1
  | .lit _ => 1
  | .nil => 1
  | .ptr d => uptoBulk d + 1
  | .slice elems spare => uptoBulkAll elems + uptoBulkAll spare + 1
  | .agg parts => uptoBulkAll parts + 1
  | .iface _ d => uptoBulk d + 1
  | .map entries => uptoBulkEntries entries + 1
  | .held _ => 1
def uptoBulkAll {H : Type} : List (DataW H) → Nat
  | [] => 0
  | d :: r => uptoBulk d + uptoBulkAll r
def uptoBulkEntries {H : Type} : List (Lit × DataW H) → Nat
  | [] => 0
  | x :: r => uptoBulkEntry x + uptoBulkEntries r
def uptoBulkEntry {H : Type} : Lit × DataW H → Nat
  | (.string bytes, d) => bytes.length + uptoBulk d + 1
  | (_, d) => uptoBulk d + 1
 end
def uptoSmall : (H : Type) → List (DataW H) → Bool := fun _ ds => decide (uptoBulkAll ds ≤ 1048576)
def OpenSpec.upto (s : _root_.Go.ChangeSpec) : _root_.Go.OpenSpec := { _root_.Go.OpenSpec.ofChange s with cond := some uptoSmall }

/-- 'abreastlaw05.BitsOrder', WHERE WHAT IT READS IS OF BULK AT MOST 1048576: true; the input reads as it did. -/
def bitsOrderUptoRow : OpenClaim := { program := "ytdfkhnhmcanncaadoor", sum := "f08a3c661c5ccf5bcbd65df73ba4543443120a8b0c76b867e2e5a601e594d971", func := "abreast/abreastlaw05.BitsOrder", spec := "bitsOrder", unfollowed := true, recurses := true, named := ["math/bits.deBruijn64tab"], apart := false, laid := [("math/bits.deBruijn64tab", laid_math_bits_deBruijn64tab)], narrowed := true }
def BitsOrderUptoSaid : Prop := bitsOrderUptoRow.holds Tryd.pinned (OpenSpec.upto bitsOrderSpec)

/-- 'abreastlaw05.BitsWords', WHERE WHAT IT READS IS OF BULK AT MOST 1048576: true; the input reads as it did. -/
def bitsWordsUptoRow : OpenClaim := { program := "ytdfkhnhmcanncaadoor", sum := "f08a3c661c5ccf5bcbd65df73ba4543443120a8b0c76b867e2e5a601e594d971", func := "abreast/abreastlaw05.BitsWords", spec := "bitsWords", unfollowed := true, recurses := true, named := ["math/bits.deBruijn64tab"], apart := false, laid := [("math/bits.deBruijn64tab", laid_math_bits_deBruijn64tab)], narrowed := true }
def BitsWordsUptoSaid : Prop := bitsWordsUptoRow.holds Tryd.pinned (OpenSpec.upto bitsWordsSpec)

/-- 'abreastlaw05.BitsCloses', WHERE WHAT IT READS IS OF BULK AT MOST 1048576: true; the input reads as it did. -/
def bitsClosesUptoRow : OpenClaim := { program := "ytdfkhnhmcanncaadoor", sum := "f08a3c661c5ccf5bcbd65df73ba4543443120a8b0c76b867e2e5a601e594d971", func := "abreast/abreastlaw05.BitsCloses", spec := "bitsCloses", unfollowed := true, recurses := true, named := ["math/bits.deBruijn64tab"], apart := false, laid := [("math/bits.deBruijn64tab", laid_math_bits_deBruijn64tab)], narrowed := true }
def BitsClosesUptoSaid : Prop := bitsClosesUptoRow.holds Tryd.pinned (OpenSpec.upto bitsClosesSpec)

/-- 'abreastlaw05.BitsRelations', WHERE WHAT IT READS IS OF BULK AT MOST 1048576: true; the input reads as it did. -/
def bitsRelationsUptoRow : OpenClaim := { program := "ytdfkhnhmcanncaadoor", sum := "f08a3c661c5ccf5bcbd65df73ba4543443120a8b0c76b867e2e5a601e594d971", func := "abreast/abreastlaw05.BitsRelations", spec := "bitsRelations", unfollowed := true, recurses := true, named := ["math/bits.deBruijn64tab"], apart := false, laid := [("math/bits.deBruijn64tab", laid_math_bits_deBruijn64tab)], narrowed := true }
def BitsRelationsUptoSaid : Prop := bitsRelationsUptoRow.holds Tryd.pinned (OpenSpec.upto bitsRelationsSpec)

/-- 'abreastlaw05.BitsAlgebra', WHERE WHAT IT READS IS OF BULK AT MOST 1048576: true; the input reads as it did. -/
def bitsAlgebraUptoRow : OpenClaim := { program := "ytdfkhnhmcanncaadoor", sum := "f08a3c661c5ccf5bcbd65df73ba4543443120a8b0c76b867e2e5a601e594d971", func := "abreast/abreastlaw05.BitsAlgebra", spec := "bitsAlgebra", unfollowed := true, recurses := true, named := ["math/bits.deBruijn64tab"], apart := false, laid := [("math/bits.deBruijn64tab", laid_math_bits_deBruijn64tab)], narrowed := true }
def BitsAlgebraUptoSaid : Prop := bitsAlgebraUptoRow.holds Tryd.pinned (OpenSpec.upto bitsAlgebraSpec)

/-- 'abreastlaw05.BitsPlays', WHERE WHAT IT READS IS OF BULK AT MOST 1048576: true; the input reads as it did. -/
def bitsPlaysUptoRow : OpenClaim := { program := "ytdfkhnhmcanncaadoor", sum := "f08a3c661c5ccf5bcbd65df73ba4543443120a8b0c76b867e2e5a601e594d971", func := "abreast/abreastlaw05.BitsPlays", spec := "bitsPlays", unfollowed := true, recurses := true, named := ["math/bits.deBruijn64tab"], apart := false, laid := [("math/bits.deBruijn64tab", laid_math_bits_deBruijn64tab)], narrowed := true }
def BitsPlaysUptoSaid : Prop := bitsPlaysUptoRow.holds Tryd.pinned (OpenSpec.upto bitsPlaysSpec)

/-- 'abreastlaw05.BitsNil', WHERE WHAT IT READS IS OF BULK AT MOST 1048576: true; the input reads as it did. -/
def bitsNilUptoRow : OpenClaim := { program := "ytdfkhnhmcanncaadoor", sum := "f08a3c661c5ccf5bcbd65df73ba4543443120a8b0c76b867e2e5a601e594d971", func := "abreast/abreastlaw05.BitsNil", spec := "bitsNil", unfollowed := true, recurses := true, named := ["math/bits.deBruijn64tab"], apart := false, laid := [("math/bits.deBruijn64tab", laid_math_bits_deBruijn64tab)], narrowed := true }
def BitsNilUptoSaid : Prop := bitsNilUptoRow.holds Tryd.pinned (OpenSpec.upto bitsNilSpec)

end Rows
end Go.Proofs.YtdfkhnhmcanncaaDoor
