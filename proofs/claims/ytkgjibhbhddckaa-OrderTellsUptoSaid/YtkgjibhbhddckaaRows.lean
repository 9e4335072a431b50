/-
  No cell of these rows narrows 'for every input' (looked for: loops, veiled, ifaces, maps, wideKeys, modest, calm, conditions, laid).
  DERIVED. THE GIVEN ROWS OF THIS SEAT. 6 by the template 'for every input the law returns true; each argument reads behind the call as it read before'; 0 by the template 'total and deterministic' (their statements: YtkgjibhbhddckaaTotals.lean).
  GIVEN WITH THE SEED: the statements are not yours to turn. If you find one false, say at which input.
  Laid BY PROGRAM, IN A SANDBOX (cutbox-rows.mjs): the forced cells as the released guide's own fill.sh prints them over the translation 6cb5f82f2e3045f1… (all of the seat's roots in one cut). By AI agents, Wed Nov 11 2026. No macro, syntax, notation, axiom, sorry.
-/
import Derived.Test.YtkgjibhbhddckaaChecked
import GoSem.Claim
import GoSem.ClaimJoined
import GoSem.ClaimMapViews
import Derived.JoinedTies
import Derived.KernelRfl
namespace Go.Proofs.Ytkgjibhbhddckaa
/- THE CELL 'sum', in the pinned program and in every row, IS THE sha256 OF THE DUMP (.gsa) THAT YtkgjibhbhddckaaProg.lean LOADS. Nothing in Lean hashes anything: it is a label: what it is worth is what the hold of that sum in a sandbox is worth. -/
noncomputable def Try.pinned : Pinned := { name := "ytkgjibhbhddckaa", sum := "6cb5f82f2e3045f12328388d7576dc4b22158ef816e08e22164346b0d4ea7672", checked := Try.checked }
namespace Rows
def none {H : Type} : Left H := { results := [], args := [] }

/-- 'abreastlaw20.OrderChains': WHATEVER THE INPUT: true; the input reads as it did. -/
def orderChainsSpec : ChangeSpec := { name := "orderChains", fn := fun _ => fun
  | [d1, d2, d3] => { results := [.lit (.bool true)], args := [d1, d2, d3] }
  | _ => none }
def orderChainsRow : OpenClaim := { program := "ytkgjibhbhddckaa", sum := "6cb5f82f2e3045f12328388d7576dc4b22158ef816e08e22164346b0d4ea7672", func := "abreast/abreastlaw20.OrderChains", spec := "orderChains", unfollowed := true, recurses := true, apart := false }
def OrderChainsSaid : Prop := orderChainsRow.holds Try.pinned (OpenSpec.ofChange orderChainsSpec)

/-- ITS FALSE NEIGHBOUR: 'it returns false'. Refute it at one input. -/
def orderChainsWrong : ChangeSpec := { name := "orderChains", fn := fun _ => fun
  | [d1, d2, d3] => { results := [.lit (.bool false)], args := [d1, d2, d3] }
  | _ => none }
def OrderChainsWrongFalsely : Prop := orderChainsRow.holds Try.pinned (OpenSpec.ofChange orderChainsWrong)

/-- 'abreastlaw20.OrderBegins': WHATEVER THE INPUT: true; the input reads as it did. -/
def orderBeginsSpec : ChangeSpec := { name := "orderBegins", fn := fun _ => fun
  | [d1, d2, d3] => { results := [.lit (.bool true)], args := [d1, d2, d3] }
  | _ => none }
def orderBeginsRow : OpenClaim := { program := "ytkgjibhbhddckaa", sum := "6cb5f82f2e3045f12328388d7576dc4b22158ef816e08e22164346b0d4ea7672", func := "abreast/abreastlaw20.OrderBegins", spec := "orderBegins", unfollowed := true, recurses := true, apart := false }
def OrderBeginsSaid : Prop := orderBeginsRow.holds Try.pinned (OpenSpec.ofChange orderBeginsSpec)

/-- ITS FALSE NEIGHBOUR: 'it returns false'. Refute it at one input. -/
def orderBeginsWrong : ChangeSpec := { name := "orderBegins", fn := fun _ => fun
  | [d1, d2, d3] => { results := [.lit (.bool false)], args := [d1, d2, d3] }
  | _ => none }
def OrderBeginsWrongFalsely : Prop := orderBeginsRow.holds Try.pinned (OpenSpec.ofChange orderBeginsWrong)

/-- 'abreastlaw20.OrderLocked': WHATEVER THE INPUT: true; the input reads as it did. -/
def orderLockedSpec : ChangeSpec := { name := "orderLocked", fn := fun _ => fun
  | [d1, d2] => { results := [.lit (.bool true)], args := [d1, d2] }
  | _ => none }
def orderLockedRow : OpenClaim := { program := "ytkgjibhbhddckaa", sum := "6cb5f82f2e3045f12328388d7576dc4b22158ef816e08e22164346b0d4ea7672", func := "abreast/abreastlaw20.OrderLocked", spec := "orderLocked", unfollowed := true, recurses := true, apart := false }
def OrderLockedSaid : Prop := orderLockedRow.holds Try.pinned (OpenSpec.ofChange orderLockedSpec)

/-- ITS FALSE NEIGHBOUR: 'it returns false'. Refute it at one input. -/
def orderLockedWrong : ChangeSpec := { name := "orderLocked", fn := fun _ => fun
  | [d1, d2] => { results := [.lit (.bool false)], args := [d1, d2] }
  | _ => none }
def OrderLockedWrongFalsely : Prop := orderLockedRow.holds Try.pinned (OpenSpec.ofChange orderLockedWrong)

/-- 'abreastlaw20.OrderStrict': WHATEVER THE INPUT: true; the input reads as it did. -/
def orderStrictSpec : ChangeSpec := { name := "orderStrict", fn := fun _ => fun
  | [d1, d2] => { results := [.lit (.bool true)], args := [d1, d2] }
  | _ => none }
def orderStrictRow : OpenClaim := { program := "ytkgjibhbhddckaa", sum := "6cb5f82f2e3045f12328388d7576dc4b22158ef816e08e22164346b0d4ea7672", func := "abreast/abreastlaw20.OrderStrict", spec := "orderStrict", unfollowed := true, recurses := true, apart := false }
def OrderStrictSaid : Prop := orderStrictRow.holds Try.pinned (OpenSpec.ofChange orderStrictSpec)

/-- ITS FALSE NEIGHBOUR: 'it returns false'. Refute it at one input. -/
def orderStrictWrong : ChangeSpec := { name := "orderStrict", fn := fun _ => fun
  | [d1, d2] => { results := [.lit (.bool false)], args := [d1, d2] }
  | _ => none }
def OrderStrictWrongFalsely : Prop := orderStrictRow.holds Try.pinned (OpenSpec.ofChange orderStrictWrong)

/-- 'abreastlaw20.OrderTells': WHATEVER THE INPUT: true; the input reads as it did. -/
def orderTellsSpec : ChangeSpec := { name := "orderTells", fn := fun _ => fun
  | [d1, d2] => { results := [.lit (.bool true)], args := [d1, d2] }
  | _ => none }
def orderTellsRow : OpenClaim := { program := "ytkgjibhbhddckaa", sum := "6cb5f82f2e3045f12328388d7576dc4b22158ef816e08e22164346b0d4ea7672", func := "abreast/abreastlaw20.OrderTells", spec := "orderTells", unfollowed := true, recurses := true, apart := false }
def OrderTellsSaid : Prop := orderTellsRow.holds Try.pinned (OpenSpec.ofChange orderTellsSpec)

/-- ITS FALSE NEIGHBOUR: 'it returns false'. Refute it at one input. -/
def orderTellsWrong : ChangeSpec := { name := "orderTells", fn := fun _ => fun
  | [d1, d2] => { results := [.lit (.bool false)], args := [d1, d2] }
  | _ => none }
def OrderTellsWrongFalsely : Prop := orderTellsRow.holds Try.pinned (OpenSpec.ofChange orderTellsWrong)

/-- 'abreastlaw20.OrderNil': WHATEVER THE INPUT: true; the input reads as it did. -/
def orderNilSpec : ChangeSpec := { name := "orderNil", fn := fun _ => fun
  | [] => { results := [.lit (.bool true)], args := [] }
  | _ => none }
def orderNilRow : OpenClaim := { program := "ytkgjibhbhddckaa", sum := "6cb5f82f2e3045f12328388d7576dc4b22158ef816e08e22164346b0d4ea7672", func := "abreast/abreastlaw20.OrderNil", spec := "orderNil", unfollowed := true, recurses := true, apart := false }
def OrderNilSaid : Prop := orderNilRow.holds Try.pinned (OpenSpec.ofChange orderNilSpec)

/-- ITS FALSE NEIGHBOUR: 'it returns false'. Refute it at one input. -/
def orderNilWrong : ChangeSpec := { name := "orderNil", fn := fun _ => fun
  | [] => { results := [.lit (.bool false)], args := [] }
  | _ => none }
def OrderNilWrongFalsely : Prop := orderNilRow.holds Try.pinned (OpenSpec.ofChange orderNilWrong)

/- THE SECOND FORM. 'bulk': how many values and letters a reading holds, each counted each time it is reached (what is shared counts as often as it is met; a slice's spare places count too). A statement '..UptoSaid' is the law's where the arguments, and the package variables that the reading takes, are together of bulk at most 1048576: NARROWER than '..Said'. Prove '..Said' where nothing that the law and all that it calls make is longer than what came in: it says more and counts as full. Else prove '..UptoSaid'. A law counts once. -/
mutual
def uptoBulk {H : Type} : DataW H → Nat
  | .lit (.string bytes) => bytes.length + 1
  | .lit _ => 1
  | .nil => 1
  | .ptr d => uptoBulk d + 1
  | .slice elems spare => uptoBulkAll elems + uptoBulkAll spare + 1
  | .agg parts => uptoBulkAll parts + 1
  | .iface _ d => uptoBulk d + 1
  | .map entries => uptoBulkEntries entries + 1
  | .held _ => 1
def uptoBulkAll {H : Type} : List (DataW H) → Nat
  | [] => 0
  | d :: r => uptoBulk d + uptoBulkAll r
def uptoBulkEntries {H : Type} : List (Lit × DataW H) → Nat
  | [] => 0
  | x :: r => uptoBulkEntry x + uptoBulkEntries r
def uptoBulkEntry {H : Type} : Lit × DataW H → Nat
  | (.string bytes, d) => bytes.length + uptoBulk d + 1
  | (_, d) => uptoBulk d + 1
 end
def uptoSmall : (H : Type) → List (DataW H) → Bool := fun _ ds => decide (uptoBulkAll ds ≤ 1048576)
def OpenSpec.upto (s : _root_.Go.ChangeSpec) : _root_.Go.OpenSpec := { _root_.Go.OpenSpec.ofChange s with cond := some uptoSmall }

/-- 'abreastlaw20.OrderChains', WHERE WHAT IT READS IS OF BULK AT MOST 1048576: true; the input reads as it did. -/
def orderChainsUptoRow : OpenClaim := { program := "ytkgjibhbhddckaa", sum := "6cb5f82f2e3045f12328388d7576dc4b22158ef816e08e22164346b0d4ea7672", func := "abreast/abreastlaw20.OrderChains", spec := "orderChains", unfollowed := true, recurses := true, apart := false, narrowed := true }
def OrderChainsUptoSaid : Prop := orderChainsUptoRow.holds Try.pinned (OpenSpec.upto orderChainsSpec)

/-- 'abreastlaw20.OrderBegins', WHERE WHAT IT READS IS OF BULK AT MOST 1048576: true; the input reads as it did. -/
def orderBeginsUptoRow : OpenClaim := { program := "ytkgjibhbhddckaa", sum := "6cb5f82f2e3045f12328388d7576dc4b22158ef816e08e22164346b0d4ea7672", func := "abreast/abreastlaw20.OrderBegins", spec := "orderBegins", unfollowed := true, recurses := true, apart := false, narrowed := true }
def OrderBeginsUptoSaid : Prop := orderBeginsUptoRow.holds Try.pinned (OpenSpec.upto orderBeginsSpec)

/-- 'abreastlaw20.OrderLocked', WHERE WHAT IT READS IS OF BULK AT MOST 1048576: true; the input reads as it did. -/
def orderLockedUptoRow : OpenClaim := { program := "ytkgjibhbhddckaa", sum := "6cb5f82f2e3045f12328388d7576dc4b22158ef816e08e22164346b0d4ea7672", func := "abreast/abreastlaw20.OrderLocked", spec := "orderLocked", unfollowed := true, recurses := true, apart := false, narrowed := true }
def OrderLockedUptoSaid : Prop := orderLockedUptoRow.holds Try.pinned (OpenSpec.upto orderLockedSpec)

/-- 'abreastlaw20.OrderStrict', WHERE WHAT IT READS IS OF BULK AT MOST 1048576: true; the input reads as it did. -/
def orderStrictUptoRow : OpenClaim := { program := "ytkgjibhbhddckaa", sum := "6cb5f82f2e3045f12328388d7576dc4b22158ef816e08e22164346b0d4ea7672", func := "abreast/abreastlaw20.OrderStrict", spec := "orderStrict", unfollowed := true, recurses := true, apart := false, narrowed := true }
def OrderStrictUptoSaid : Prop := orderStrictUptoRow.holds Try.pinned (OpenSpec.upto orderStrictSpec)

/-- 'abreastlaw20.OrderTells', WHERE WHAT IT READS IS OF BULK AT MOST 1048576: true; the input reads as it did. -/
def orderTellsUptoRow : OpenClaim := { program := "ytkgjibhbhddckaa", sum := "6cb5f82f2e3045f12328388d7576dc4b22158ef816e08e22164346b0d4ea7672", func := "abreast/abreastlaw20.OrderTells", spec := "orderTells", unfollowed := true, recurses := true, apart := false, narrowed := true }
def OrderTellsUptoSaid : Prop := orderTellsUptoRow.holds Try.pinned (OpenSpec.upto orderTellsSpec)

/-- 'abreastlaw20.OrderNil', WHERE WHAT IT READS IS OF BULK AT MOST 1048576: true; the input reads as it did. -/
def orderNilUptoRow : OpenClaim := { program := "ytkgjibhbhddckaa", sum := "6cb5f82f2e3045f12328388d7576dc4b22158ef816e08e22164346b0d4ea7672", func := "abreast/abreastlaw20.OrderNil", spec := "orderNil", unfollowed := true, recurses := true, apart := false, narrowed := true }
def OrderNilUptoSaid : Prop := orderNilUptoRow.holds Try.pinned (OpenSpec.upto orderNilSpec)

end Rows
end Go.Proofs.Ytkgjibhbhddckaa
