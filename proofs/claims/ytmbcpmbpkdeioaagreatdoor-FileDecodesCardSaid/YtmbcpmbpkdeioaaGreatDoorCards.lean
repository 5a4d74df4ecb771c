/-
  DERIVED. GIVEN WITH THE SEED: THE CARDS: each row of YtmbcpmbpkdeioaaGreatDoorRows.lean that lists a variable, with what it lists TIED to the program's text (the seventh form; the later family's looks); each row that meets fmt, with fmt's text TOLD by the authors' own Lean function (tested against real Go, not proved from fmt's source: count such statements apart). THE CARD IS WHAT COUNTS. Prove the row's statement (the work); the ties are given (YtmbcpmbpkdeioaaGreatDoorTie.lean); close each card by the builder's one call (the guide's Derived/Test/ToyasCard.lean, 'card_holds'). Laid BY PROGRAM, IN A SANDBOX (cutbox-door.mjs). By AI agents, Wed Nov 11 2026. No macro, syntax, notation, axiom, sorry.
-/
import Derived.Test.YtmbcpmbpkdeioaaGreatDoorRows
import GoSem.ClaimSeven
namespace Go.Proofs.YtmbcpmbpkdeioaaGreatDoor
namespace Rows

/-- THE TIED CARD OF 'mummerlaw30.FileDecodes'. -/
def fileDecodesCard : Claim7 := { stood := { row := fileDecodesRow, standIns := [], harness := (true, "ca40e4bee3dd6a9695f35b82d1a9966ef3e819ec9d8b4fbf4b88abf309d32663"), looks := true }, kinds := [], alts := [], laidByText := true, laidKinds := [.data, .data, .data], laidTests := true, laidLooks := .later }
def FileDecodesCardSaid : Prop := Claim7.holds Tryz.pinned (.plain (OpenSpec.ofChange fileDecodesSpec)) fileDecodesCard

/-- THE SECOND FORM's CARD OF 'mummerlaw30.FileDecodes'. -/
def fileDecodesUptoCard : Claim7 := { stood := { row := fileDecodesUptoRow, standIns := [], harness := (true, "ca40e4bee3dd6a9695f35b82d1a9966ef3e819ec9d8b4fbf4b88abf309d32663"), looks := true }, kinds := [], alts := [], laidByText := true, laidKinds := [.data, .data, .data], laidTests := true, laidLooks := .later }
def FileDecodesUptoCardSaid : Prop := Claim7.holds Tryz.pinned (.plain (OpenSpec.upto fileDecodesSpec)) fileDecodesUptoCard
end Rows
end Go.Proofs.YtmbcpmbpkdeioaaGreatDoor
