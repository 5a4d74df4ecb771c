/-
  DERIVED. GIVEN WITH THE SEED: THE CARDS: each row of YtilmgiompalggaaGreatDoorRows.lean that lists a variable, with what it lists TIED to the program's text (the seventh form; the later family's looks); each row that meets fmt, with fmt's text TOLD by the authors' own Lean function (tested against real Go, not proved from fmt's source: count such statements apart). THE CARD IS WHAT COUNTS. Prove the row's statement (the work); the ties are given (YtilmgiompalggaaGreatDoorTie.lean); close each card by the builder's one call (the guide's Derived/Test/ToyasCard.lean, 'card_holds'). Laid BY PROGRAM, IN A SANDBOX (cutbox-door.mjs). By AI agents, Wed Nov 11 2026. No macro, syntax, notation, axiom, sorry.
-/
import Derived.Test.YtilmgiompalggaaGreatDoorRows
import GoSem.ClaimSeven
namespace Go.Proofs.YtilmgiompalggaaGreatDoor
namespace Rows

/-- THE TIED CARD OF 'mummerlaw28.PairBegins'. -/
def pairBeginsCard : Claim7 := { stood := { row := pairBeginsRow, standIns := [], harness := (true, "314ab9d3099077fb090fc0a3488a9b6443a1638d9bd4700da815930dbe9ca156"), looks := true }, kinds := [], alts := [], laidByText := true, laidKinds := [.data, .data, .data], laidTests := true, laidLooks := .later }
def PairBeginsCardSaid : Prop := Claim7.holds Tryz.pinned (.plain (OpenSpec.ofChange pairBeginsSpec)) pairBeginsCard

/-- THE SECOND FORM's CARD OF 'mummerlaw28.PairBegins'. -/
def pairBeginsUptoCard : Claim7 := { stood := { row := pairBeginsUptoRow, standIns := [], harness := (true, "314ab9d3099077fb090fc0a3488a9b6443a1638d9bd4700da815930dbe9ca156"), looks := true }, kinds := [], alts := [], laidByText := true, laidKinds := [.data, .data, .data], laidTests := true, laidLooks := .later }
def PairBeginsUptoCardSaid : Prop := Claim7.holds Tryz.pinned (.plain (OpenSpec.upto pairBeginsSpec)) pairBeginsUptoCard
end Rows
end Go.Proofs.YtilmgiompalggaaGreatDoor
