/-
  No cell of these rows narrows 'for every input' (looked for: loops, veiled, ifaces, maps, wideKeys, modest, calm, conditions, laid).
  DERIVED. THE GIVEN ROWS OF THIS SEAT. 5 by the template 'for every input the law returns true; each argument reads behind the call as it read before'; 0 by the template 'total and deterministic' (their statements: YtghdpibdidfpbaaTotals.lean).
  GIVEN WITH THE SEED: the statements are not yours to turn. If you find one false, say at which input.
  Laid BY PROGRAM, IN A SANDBOX (cutbox-rows.mjs): the forced cells as the released guide's own fill.sh prints them over the translation 151176c9a3fae4b4… (all of the seat's roots in one cut). By AI agents, Wed Nov 11 2026. No macro, syntax, notation, axiom, sorry.
-/
import Derived.Test.YtghdpibdidfpbaaChecked
import GoSem.Claim
import GoSem.ClaimJoined
import GoSem.ClaimMapViews
import Derived.JoinedTies
import Derived.KernelRfl
namespace Go.Proofs.Ytghdpibdidfpbaa
/- THE CELL 'sum', in the pinned program and in every row, IS THE sha256 OF THE DUMP (.gsa) THAT YtghdpibdidfpbaaProg.lean LOADS. Nothing in Lean hashes anything: it is a label: what it is worth is what the hold of that sum in a sandbox is worth. -/
noncomputable def Try.pinned : Pinned := { name := "ytghdpibdidfpbaa", sum := "151176c9a3fae4b40d0fc601d1cc21b0e9b5c0ca144b20c26eba8af58c061b4f", checked := Try.checked }
namespace Rows
def none {H : Type} : Left H := { results := [], args := [] }

/-- 'abreastlaw06.NamesEdits': WHATEVER THE INPUT: true; the input reads as it did. -/
def namesEditsSpec : ChangeSpec := { name := "namesEdits", fn := fun _ => fun
  | [d1, d2, d3] => { results := [.lit (.bool true)], args := [d1, d2, d3] }
  | _ => none }
def namesEditsRow : OpenClaim := { program := "ytghdpibdidfpbaa", sum := "151176c9a3fae4b40d0fc601d1cc21b0e9b5c0ca144b20c26eba8af58c061b4f", func := "abreast/abreastlaw06.NamesEdits", spec := "namesEdits", apart := false }
def NamesEditsSaid : Prop := namesEditsRow.holds Try.pinned (OpenSpec.ofChange namesEditsSpec)

/-- ITS FALSE NEIGHBOUR: 'it returns false'. Refute it at one input. -/
def namesEditsWrong : ChangeSpec := { name := "namesEdits", fn := fun _ => fun
  | [d1, d2, d3] => { results := [.lit (.bool false)], args := [d1, d2, d3] }
  | _ => none }
def NamesEditsWrongFalsely : Prop := namesEditsRow.holds Try.pinned (OpenSpec.ofChange namesEditsWrong)

/-- 'abreastlaw06.NamesNames': WHATEVER THE INPUT: true; the input reads as it did. -/
def namesNamesSpec : ChangeSpec := { name := "namesNames", fn := fun _ => fun
  | [] => { results := [.lit (.bool true)], args := [] }
  | _ => none }
def namesNamesRow : OpenClaim := { program := "ytghdpibdidfpbaa", sum := "151176c9a3fae4b40d0fc601d1cc21b0e9b5c0ca144b20c26eba8af58c061b4f", func := "abreast/abreastlaw06.NamesNames", spec := "namesNames", apart := false }
def NamesNamesSaid : Prop := namesNamesRow.holds Try.pinned (OpenSpec.ofChange namesNamesSpec)

/-- ITS FALSE NEIGHBOUR: 'it returns false'. Refute it at one input. -/
def namesNamesWrong : ChangeSpec := { name := "namesNames", fn := fun _ => fun
  | [] => { results := [.lit (.bool false)], args := [] }
  | _ => none }
def NamesNamesWrongFalsely : Prop := namesNamesRow.holds Try.pinned (OpenSpec.ofChange namesNamesWrong)

/-- 'abreastlaw06.NamesTexts': WHATEVER THE INPUT: true; the input reads as it did. -/
def namesTextsSpec : ChangeSpec := { name := "namesTexts", fn := fun _ => fun
  | [d1, d2] => { results := [.lit (.bool true)], args := [d1, d2] }
  | _ => none }
def namesTextsRow : OpenClaim := { program := "ytghdpibdidfpbaa", sum := "151176c9a3fae4b40d0fc601d1cc21b0e9b5c0ca144b20c26eba8af58c061b4f", func := "abreast/abreastlaw06.NamesTexts", spec := "namesTexts", apart := false }
def NamesTextsSaid : Prop := namesTextsRow.holds Try.pinned (OpenSpec.ofChange namesTextsSpec)

/-- ITS FALSE NEIGHBOUR: 'it returns false'. Refute it at one input. -/
def namesTextsWrong : ChangeSpec := { name := "namesTexts", fn := fun _ => fun
  | [d1, d2] => { results := [.lit (.bool false)], args := [d1, d2] }
  | _ => none }
def NamesTextsWrongFalsely : Prop := namesTextsRow.holds Try.pinned (OpenSpec.ofChange namesTextsWrong)

/-- 'abreastlaw06.NamesMetric': WHATEVER THE INPUT: true; the input reads as it did. -/
def namesMetricSpec : ChangeSpec := { name := "namesMetric", fn := fun _ => fun
  | [d1, d2, d3] => { results := [.lit (.bool true)], args := [d1, d2, d3] }
  | _ => none }
def namesMetricRow : OpenClaim := { program := "ytghdpibdidfpbaa", sum := "151176c9a3fae4b40d0fc601d1cc21b0e9b5c0ca144b20c26eba8af58c061b4f", func := "abreast/abreastlaw06.NamesMetric", spec := "namesMetric", apart := false }
def NamesMetricSaid : Prop := namesMetricRow.holds Try.pinned (OpenSpec.ofChange namesMetricSpec)

/-- ITS FALSE NEIGHBOUR: 'it returns false'. Refute it at one input. -/
def namesMetricWrong : ChangeSpec := { name := "namesMetric", fn := fun _ => fun
  | [d1, d2, d3] => { results := [.lit (.bool false)], args := [d1, d2, d3] }
  | _ => none }
def NamesMetricWrongFalsely : Prop := namesMetricRow.holds Try.pinned (OpenSpec.ofChange namesMetricWrong)

/-- 'abreastlaw06.NamesOrder': WHATEVER THE INPUT: true; the input reads as it did. -/
def namesOrderSpec : ChangeSpec := { name := "namesOrder", fn := fun _ => fun
  | [d] => { results := [.lit (.bool true)], args := [d] }
  | _ => none }
def namesOrderRow : OpenClaim := { program := "ytghdpibdidfpbaa", sum := "151176c9a3fae4b40d0fc601d1cc21b0e9b5c0ca144b20c26eba8af58c061b4f", func := "abreast/abreastlaw06.NamesOrder", spec := "namesOrder", unfollowed := true, recurses := true, apart := false }
def NamesOrderSaid : Prop := namesOrderRow.holds Try.pinned (OpenSpec.ofChange namesOrderSpec)

/-- ITS FALSE NEIGHBOUR: 'it returns false'. Refute it at one input. -/
def namesOrderWrong : ChangeSpec := { name := "namesOrder", fn := fun _ => fun
  | [d] => { results := [.lit (.bool false)], args := [d] }
  | _ => none }
def NamesOrderWrongFalsely : Prop := namesOrderRow.holds Try.pinned (OpenSpec.ofChange namesOrderWrong)

/- THE SECOND FORM. 'bulk': how many values and letters a reading holds, each counted each time it is reached (what is shared counts as often as it is met; a slice's spare places count too). A statement '..UptoSaid' is the law's where the arguments, and the package variables that the reading takes, are together of bulk at most 1048576: NARROWER than '..Said'. Prove '..Said' where nothing that the law and all that it calls make is longer than what came in: it says more and counts as full. Else prove '..UptoSaid'. A law counts once. -/
mutual
def uptoBulk {H : Type} : DataW H → Nat
  | .lit (.string bytes) => bytes.length + 1
  | .lit _ => 1
  | .nil => 1
  | .ptr d => uptoBulk d + 1
  | .slice elems spare => uptoBulkAll elems + uptoBulkAll spare + 1
  | .agg parts => uptoBulkAll parts + 1
  | .iface _ d => uptoBulk d + 1
  | .map entries => uptoBulkEntries entries + 1
  | .held _ => 1
def uptoBulkAll {H : Type} : List (DataW H) → Nat
  | [] => 0
  | d :: r => uptoBulk d + uptoBulkAll r
def uptoBulkEntries {H : Type} : List (Lit × DataW H) → Nat
  | [] => 0
  | x :: r => uptoBulkEntry x + uptoBulkEntries r
def uptoBulkEntry {H : Type} : Lit × DataW H → Nat
  | (.string bytes, d) => bytes.length + uptoBulk d + 1
  | (_, d) => uptoBulk d + 1
 end
def uptoSmall : (H : Type) → List (DataW H) → Bool := fun _ ds => decide (uptoBulkAll ds ≤ 1048576)
def OpenSpec.upto (s : _root_.Go.ChangeSpec) : _root_.Go.OpenSpec := { _root_.Go.OpenSpec.ofChange s with cond := some uptoSmall }

/-- 'abreastlaw06.NamesEdits', WHERE WHAT IT READS IS OF BULK AT MOST 1048576: true; the input reads as it did. -/
def namesEditsUptoRow : OpenClaim := { program := "ytghdpibdidfpbaa", sum := "151176c9a3fae4b40d0fc601d1cc21b0e9b5c0ca144b20c26eba8af58c061b4f", func := "abreast/abreastlaw06.NamesEdits", spec := "namesEdits", apart := false, narrowed := true }
def NamesEditsUptoSaid : Prop := namesEditsUptoRow.holds Try.pinned (OpenSpec.upto namesEditsSpec)

/-- 'abreastlaw06.NamesNames', WHERE WHAT IT READS IS OF BULK AT MOST 1048576: true; the input reads as it did. -/
def namesNamesUptoRow : OpenClaim := { program := "ytghdpibdidfpbaa", sum := "151176c9a3fae4b40d0fc601d1cc21b0e9b5c0ca144b20c26eba8af58c061b4f", func := "abreast/abreastlaw06.NamesNames", spec := "namesNames", apart := false, narrowed := true }
def NamesNamesUptoSaid : Prop := namesNamesUptoRow.holds Try.pinned (OpenSpec.upto namesNamesSpec)

/-- 'abreastlaw06.NamesTexts', WHERE WHAT IT READS IS OF BULK AT MOST 1048576: true; the input reads as it did. -/
def namesTextsUptoRow : OpenClaim := { program := "ytghdpibdidfpbaa", sum := "151176c9a3fae4b40d0fc601d1cc21b0e9b5c0ca144b20c26eba8af58c061b4f", func := "abreast/abreastlaw06.NamesTexts", spec := "namesTexts", apart := false, narrowed := true }
def NamesTextsUptoSaid : Prop := namesTextsUptoRow.holds Try.pinned (OpenSpec.upto namesTextsSpec)

/-- 'abreastlaw06.NamesMetric', WHERE WHAT IT READS IS OF BULK AT MOST 1048576: true; the input reads as it did. -/
def namesMetricUptoRow : OpenClaim := { program := "ytghdpibdidfpbaa", sum := "151176c9a3fae4b40d0fc601d1cc21b0e9b5c0ca144b20c26eba8af58c061b4f", func := "abreast/abreastlaw06.NamesMetric", spec := "namesMetric", apart := false, narrowed := true }
def NamesMetricUptoSaid : Prop := namesMetricUptoRow.holds Try.pinned (OpenSpec.upto namesMetricSpec)

/-- 'abreastlaw06.NamesOrder', WHERE WHAT IT READS IS OF BULK AT MOST 1048576: true; the input reads as it did. -/
def namesOrderUptoRow : OpenClaim := { program := "ytghdpibdidfpbaa", sum := "151176c9a3fae4b40d0fc601d1cc21b0e9b5c0ca144b20c26eba8af58c061b4f", func := "abreast/abreastlaw06.NamesOrder", spec := "namesOrder", unfollowed := true, recurses := true, apart := false, narrowed := true }
def NamesOrderUptoSaid : Prop := namesOrderUptoRow.holds Try.pinned (OpenSpec.upto namesOrderSpec)

end Rows
end Go.Proofs.Ytghdpibdidfpbaa
