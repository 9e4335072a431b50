/-
  DERIVED. GIVEN WITH THE SEED: THE CARDS: each row of YtkgjibhbhddckaaDoorRows.lean that lists a variable, with what it lists TIED to the program's text (the seventh form; the later family's looks); each row that meets fmt, with fmt's text TOLD by the authors' own Lean function (tested against real Go, not proved from fmt's source: count such statements apart). THE CARD IS WHAT COUNTS. Prove the row's statement (the work); the ties are given (YtkgjibhbhddckaaDoorTie.lean); close each card by the builder's one call (the guide's Derived/Test/ToyasCard.lean, 'card_holds'). Laid BY PROGRAM, IN A SANDBOX (cutbox-door.mjs). By AI agents, Wed Nov 11 2026. No macro, syntax, notation, axiom, sorry.
-/
import Derived.Test.YtkgjibhbhddckaaDoorRows
import GoSem.ClaimSeven
namespace Go.Proofs.YtkgjibhbhddckaaDoor
namespace Rows

/-- THE TIED CARD OF 'abreastlaw23.LocksetAlone'. -/
def locksetAloneCard : Claim7 := { stood := { row := locksetAloneRow, standIns := [], harness := (true, "043814abb46389feb2bdc362bd3c016fa93f10c3dbd519bacb720b6d410e990e"), looks := true }, kinds := [], alts := [], laidByText := true, laidKinds := [.data], laidTests := true, laidLooks := .later }
def LocksetAloneCardSaid : Prop := Claim7.holds Tryd.pinned (.plain (OpenSpec.ofChange locksetAloneSpec)) locksetAloneCard

/-- THE TIED CARD OF 'abreastlaw23.LocksetPlays'. -/
def locksetPlaysCard : Claim7 := { stood := { row := locksetPlaysRow, standIns := [], harness := (true, "043814abb46389feb2bdc362bd3c016fa93f10c3dbd519bacb720b6d410e990e"), looks := true }, kinds := [], alts := [], laidByText := true, laidKinds := [.data], laidTests := true, laidLooks := .later }
def LocksetPlaysCardSaid : Prop := Claim7.holds Tryd.pinned (.plain (OpenSpec.ofChange locksetPlaysSpec)) locksetPlaysCard

/-- THE TIED CARD OF 'abreastlaw23.LocksetNil'. -/
def locksetNilCard : Claim7 := { stood := { row := locksetNilRow, standIns := [], harness := (true, "043814abb46389feb2bdc362bd3c016fa93f10c3dbd519bacb720b6d410e990e"), looks := true }, kinds := [], alts := [], laidByText := true, laidKinds := [.data], laidTests := true, laidLooks := .later }
def LocksetNilCardSaid : Prop := Claim7.holds Tryd.pinned (.plain (OpenSpec.ofChange locksetNilSpec)) locksetNilCard

/-- THE TIED CARD OF 'abreastlaw23.LocksetKeeps'. -/
def locksetKeepsCard : Claim7 := { stood := { row := locksetKeepsRow, standIns := [], harness := (true, "043814abb46389feb2bdc362bd3c016fa93f10c3dbd519bacb720b6d410e990e"), looks := true }, kinds := [], alts := [], laidByText := true, laidKinds := [.data], laidTests := true, laidLooks := .later }
def LocksetKeepsCardSaid : Prop := Claim7.holds Tryd.pinned (.plain (OpenSpec.ofChange locksetKeepsSpec)) locksetKeepsCard

/-- THE SECOND FORM's CARD OF 'abreastlaw23.LocksetAlone'. -/
def locksetAloneUptoCard : Claim7 := { stood := { row := locksetAloneUptoRow, standIns := [], harness := (true, "043814abb46389feb2bdc362bd3c016fa93f10c3dbd519bacb720b6d410e990e"), looks := true }, kinds := [], alts := [], laidByText := true, laidKinds := [.data], laidTests := true, laidLooks := .later }
def LocksetAloneUptoCardSaid : Prop := Claim7.holds Tryd.pinned (.plain (OpenSpec.upto locksetAloneSpec)) locksetAloneUptoCard

/-- THE SECOND FORM's CARD OF 'abreastlaw23.LocksetPlays'. -/
def locksetPlaysUptoCard : Claim7 := { stood := { row := locksetPlaysUptoRow, standIns := [], harness := (true, "043814abb46389feb2bdc362bd3c016fa93f10c3dbd519bacb720b6d410e990e"), looks := true }, kinds := [], alts := [], laidByText := true, laidKinds := [.data], laidTests := true, laidLooks := .later }
def LocksetPlaysUptoCardSaid : Prop := Claim7.holds Tryd.pinned (.plain (OpenSpec.upto locksetPlaysSpec)) locksetPlaysUptoCard

/-- THE SECOND FORM's CARD OF 'abreastlaw23.LocksetNil'. -/
def locksetNilUptoCard : Claim7 := { stood := { row := locksetNilUptoRow, standIns := [], harness := (true, "043814abb46389feb2bdc362bd3c016fa93f10c3dbd519bacb720b6d410e990e"), looks := true }, kinds := [], alts := [], laidByText := true, laidKinds := [.data], laidTests := true, laidLooks := .later }
def LocksetNilUptoCardSaid : Prop := Claim7.holds Tryd.pinned (.plain (OpenSpec.upto locksetNilSpec)) locksetNilUptoCard

/-- THE SECOND FORM's CARD OF 'abreastlaw23.LocksetKeeps'. -/
def locksetKeepsUptoCard : Claim7 := { stood := { row := locksetKeepsUptoRow, standIns := [], harness := (true, "043814abb46389feb2bdc362bd3c016fa93f10c3dbd519bacb720b6d410e990e"), looks := true }, kinds := [], alts := [], laidByText := true, laidKinds := [.data], laidTests := true, laidLooks := .later }
def LocksetKeepsUptoCardSaid : Prop := Claim7.holds Tryd.pinned (.plain (OpenSpec.upto locksetKeepsSpec)) locksetKeepsUptoCard
end Rows
end Go.Proofs.YtkgjibhbhddckaaDoor
