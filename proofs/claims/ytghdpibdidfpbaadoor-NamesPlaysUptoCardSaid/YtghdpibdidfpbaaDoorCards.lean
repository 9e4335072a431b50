/-
  DERIVED. GIVEN WITH THE SEED: THE CARDS: each row of YtghdpibdidfpbaaDoorRows.lean that lists a variable, with what it lists TIED to the program's text (the seventh form; the later family's looks); each row that meets fmt, with fmt's text TOLD by the authors' own Lean function (tested against real Go, not proved from fmt's source: count such statements apart). THE CARD IS WHAT COUNTS. Prove the row's statement (the work); the ties are given (YtghdpibdidfpbaaDoorTie.lean); close each card by the builder's one call (the guide's Derived/Test/ToyasCard.lean, 'card_holds'). Laid BY PROGRAM, IN A SANDBOX (cutbox-door.mjs). By AI agents, Wed Nov 11 2026. No macro, syntax, notation, axiom, sorry.
-/
import Derived.Test.YtghdpibdidfpbaaDoorRows
import GoSem.ClaimSeven
namespace Go.Proofs.YtghdpibdidfpbaaDoor
namespace Rows

/-- THE TIED CARD OF 'abreastlaw06.NamesFresh'. -/
def namesFreshCard : Claim7 := { stood := { row := namesFreshRow, standIns := [], harness := (true, "19efa8f9168b4648f6680b62ce37c9ea7f0045f38630140e6d3beb3924a27240"), looks := true }, kinds := [], alts := [], laidByText := true, laidKinds := [.data, .data, .data], laidTests := true, laidLooks := .later }
def NamesFreshCardSaid : Prop := Claim7.holds Tryd.pinned (.plain (OpenSpec.ofChange namesFreshSpec)) namesFreshCard

/-- THE TIED CARD OF 'abreastlaw06.NamesPlays'. -/
def namesPlaysCard : Claim7 := { stood := { row := namesPlaysRow, standIns := [], harness := (true, "19efa8f9168b4648f6680b62ce37c9ea7f0045f38630140e6d3beb3924a27240"), looks := true }, kinds := [], alts := [], laidByText := true, laidKinds := [.data, .data, .data], laidTests := true, laidLooks := .later }
def NamesPlaysCardSaid : Prop := Claim7.holds Tryd.pinned (.plain (OpenSpec.ofChange namesPlaysSpec)) namesPlaysCard

/-- THE SECOND FORM's CARD OF 'abreastlaw06.NamesFresh'. -/
def namesFreshUptoCard : Claim7 := { stood := { row := namesFreshUptoRow, standIns := [], harness := (true, "19efa8f9168b4648f6680b62ce37c9ea7f0045f38630140e6d3beb3924a27240"), looks := true }, kinds := [], alts := [], laidByText := true, laidKinds := [.data, .data, .data], laidTests := true, laidLooks := .later }
def NamesFreshUptoCardSaid : Prop := Claim7.holds Tryd.pinned (.plain (OpenSpec.upto namesFreshSpec)) namesFreshUptoCard

/-- THE SECOND FORM's CARD OF 'abreastlaw06.NamesPlays'. -/
def namesPlaysUptoCard : Claim7 := { stood := { row := namesPlaysUptoRow, standIns := [], harness := (true, "19efa8f9168b4648f6680b62ce37c9ea7f0045f38630140e6d3beb3924a27240"), looks := true }, kinds := [], alts := [], laidByText := true, laidKinds := [.data, .data, .data], laidTests := true, laidLooks := .later }
def NamesPlaysUptoCardSaid : Prop := Claim7.holds Tryd.pinned (.plain (OpenSpec.upto namesPlaysSpec)) namesPlaysUptoCard
end Rows
end Go.Proofs.YtghdpibdidfpbaaDoor
