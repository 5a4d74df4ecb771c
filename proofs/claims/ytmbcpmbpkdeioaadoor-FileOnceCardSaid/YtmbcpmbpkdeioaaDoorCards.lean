/-
  DERIVED. GIVEN WITH THE SEED: THE CARDS: each row of YtmbcpmbpkdeioaaDoorRows.lean that lists a variable, with what it lists TIED to the program's text (the seventh form; the later family's looks); each row that meets fmt, with fmt's text TOLD by the authors' own Lean function (tested against real Go, not proved from fmt's source: count such statements apart). THE CARD IS WHAT COUNTS. Prove the row's statement (the work); the ties are given (YtmbcpmbpkdeioaaDoorTie.lean); close each card by the builder's one call (the guide's Derived/Test/ToyasCard.lean, 'card_holds'). Laid BY PROGRAM, IN A SANDBOX (cutbox-door.mjs). By AI agents, Wed Nov 11 2026. No macro, syntax, notation, axiom, sorry.
-/
import Derived.Test.YtmbcpmbpkdeioaaDoorRows
import GoSem.ClaimSeven
namespace Go.Proofs.YtmbcpmbpkdeioaaDoor
namespace Rows

/-- THE TIED CARD OF 'mummerlaw30.FileOnce'. -/
def fileOnceCard : Claim7 := { stood := { row := fileOnceRow, standIns := [], harness := (true, "fc731d77fb8feaacbb2cd6f7844c2b0c163987ce359b70209d64a3bb668f3e8c"), looks := true }, kinds := [], alts := [], laidByText := true, laidKinds := [.data, .data, .data], laidTests := true, laidLooks := .later }
def FileOnceCardSaid : Prop := Claim7.holds Tryd.pinned (.plain (OpenSpec.ofChange fileOnceSpec)) fileOnceCard

/-- THE TIED CARD OF 'mummerlaw30.FileBack'. -/
def fileBackCard : Claim7 := { stood := { row := fileBackRow, standIns := [], harness := (true, "fc731d77fb8feaacbb2cd6f7844c2b0c163987ce359b70209d64a3bb668f3e8c"), looks := true }, kinds := [], alts := [], laidByText := true, laidKinds := [.data, .data, .data], laidTests := true, laidLooks := .later }
def FileBackCardSaid : Prop := Claim7.holds Tryd.pinned (.plain (OpenSpec.ofChange fileBackSpec)) fileBackCard

/-- THE SECOND FORM's CARD OF 'mummerlaw30.FileOnce'. -/
def fileOnceUptoCard : Claim7 := { stood := { row := fileOnceUptoRow, standIns := [], harness := (true, "fc731d77fb8feaacbb2cd6f7844c2b0c163987ce359b70209d64a3bb668f3e8c"), looks := true }, kinds := [], alts := [], laidByText := true, laidKinds := [.data, .data, .data], laidTests := true, laidLooks := .later }
def FileOnceUptoCardSaid : Prop := Claim7.holds Tryd.pinned (.plain (OpenSpec.upto fileOnceSpec)) fileOnceUptoCard

/-- THE SECOND FORM's CARD OF 'mummerlaw30.FileBack'. -/
def fileBackUptoCard : Claim7 := { stood := { row := fileBackUptoRow, standIns := [], harness := (true, "fc731d77fb8feaacbb2cd6f7844c2b0c163987ce359b70209d64a3bb668f3e8c"), looks := true }, kinds := [], alts := [], laidByText := true, laidKinds := [.data, .data, .data], laidTests := true, laidLooks := .later }
def FileBackUptoCardSaid : Prop := Claim7.holds Tryd.pinned (.plain (OpenSpec.upto fileBackSpec)) fileBackUptoCard
end Rows
end Go.Proofs.YtmbcpmbpkdeioaaDoor
