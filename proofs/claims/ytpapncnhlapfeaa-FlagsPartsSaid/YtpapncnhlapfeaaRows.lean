/-
  No cell of these rows narrows 'for every input' (looked for: loops, veiled, ifaces, maps, wideKeys, modest, calm, conditions, laid).
  DERIVED. THE GIVEN ROWS OF THIS SEAT. 13 by the template 'for every input the law returns true; each argument reads behind the call as it read before'; 0 by the template 'total and deterministic' (their statements: YtpapncnhlapfeaaTotals.lean).
  GIVEN WITH THE SEED: the statements are not yours to turn. If you find one false, say at which input.
  Laid BY PROGRAM, IN A SANDBOX (cutbox-rows.mjs): the forced cells as the released guide's own fill.sh prints them over the translation 8cfcad47c5331f22… (all of the seat's roots in one cut). By AI agents, Wed Nov 11 2026. No macro, syntax, notation, axiom, sorry.
-/
import Derived.Test.YtpapncnhlapfeaaChecked
import GoSem.Claim
import GoSem.ClaimJoined
import GoSem.ClaimMapViews
import Derived.JoinedTies
import Derived.KernelRfl
namespace Go.Proofs.Ytpapncnhlapfeaa
/- THE CELL 'sum', in the pinned program and in every row, IS THE sha256 OF THE DUMP (.gsa) THAT YtpapncnhlapfeaaProg.lean LOADS. Nothing in Lean hashes anything: it is a label: what it is worth is what the hold of that sum in a sandbox is worth. -/
noncomputable def Try.pinned : Pinned := { name := "ytpapncnhlapfeaa", sum := "8cfcad47c5331f22a992e3b9f10c9cca920117bc4c30a8c102649319db06d814", checked := Try.checked }
namespace Rows
def none {H : Type} : Left H := { results := [], args := [] }

/-- 'mummerlaw01.FlagsAsked': WHATEVER THE INPUT: true; the input reads as it did. -/
def flagsAskedSpec : ChangeSpec := { name := "flagsAsked", fn := fun _ => fun
  | [d1, d2] => { results := [.lit (.bool true)], args := [d1, d2] }
  | _ => none }
def flagsAskedRow : OpenClaim := { program := "ytpapncnhlapfeaa", sum := "8cfcad47c5331f22a992e3b9f10c9cca920117bc4c30a8c102649319db06d814", func := "mummer/mummerlaw01.FlagsAsked", spec := "flagsAsked", apart := false }
def FlagsAskedSaid : Prop := flagsAskedRow.holds Try.pinned (OpenSpec.ofChange flagsAskedSpec)

/-- ITS FALSE NEIGHBOUR: 'it returns false'. Refute it at one input. -/
def flagsAskedWrong : ChangeSpec := { name := "flagsAsked", fn := fun _ => fun
  | [d1, d2] => { results := [.lit (.bool false)], args := [d1, d2] }
  | _ => none }
def FlagsAskedWrongFalsely : Prop := flagsAskedRow.holds Try.pinned (OpenSpec.ofChange flagsAskedWrong)

/-- 'mummerlaw01.FlagsBits': WHATEVER THE INPUT: true; the input reads as it did. -/
def flagsBitsSpec : ChangeSpec := { name := "flagsBits", fn := fun _ => fun
  | [d1, d2] => { results := [.lit (.bool true)], args := [d1, d2] }
  | _ => none }
def flagsBitsRow : OpenClaim := { program := "ytpapncnhlapfeaa", sum := "8cfcad47c5331f22a992e3b9f10c9cca920117bc4c30a8c102649319db06d814", func := "mummer/mummerlaw01.FlagsBits", spec := "flagsBits", apart := false }
def FlagsBitsSaid : Prop := flagsBitsRow.holds Try.pinned (OpenSpec.ofChange flagsBitsSpec)

/-- ITS FALSE NEIGHBOUR: 'it returns false'. Refute it at one input. -/
def flagsBitsWrong : ChangeSpec := { name := "flagsBits", fn := fun _ => fun
  | [d1, d2] => { results := [.lit (.bool false)], args := [d1, d2] }
  | _ => none }
def FlagsBitsWrongFalsely : Prop := flagsBitsRow.holds Try.pinned (OpenSpec.ofChange flagsBitsWrong)

/-- 'mummerlaw01.FlagsSums': WHATEVER THE INPUT: true; the input reads as it did. -/
def flagsSumsSpec : ChangeSpec := { name := "flagsSums", fn := fun _ => fun
  | [d1, d2] => { results := [.lit (.bool true)], args := [d1, d2] }
  | _ => none }
def flagsSumsRow : OpenClaim := { program := "ytpapncnhlapfeaa", sum := "8cfcad47c5331f22a992e3b9f10c9cca920117bc4c30a8c102649319db06d814", func := "mummer/mummerlaw01.FlagsSums", spec := "flagsSums", apart := false }
def FlagsSumsSaid : Prop := flagsSumsRow.holds Try.pinned (OpenSpec.ofChange flagsSumsSpec)

/-- ITS FALSE NEIGHBOUR: 'it returns false'. Refute it at one input. -/
def flagsSumsWrong : ChangeSpec := { name := "flagsSums", fn := fun _ => fun
  | [d1, d2] => { results := [.lit (.bool false)], args := [d1, d2] }
  | _ => none }
def FlagsSumsWrongFalsely : Prop := flagsSumsRow.holds Try.pinned (OpenSpec.ofChange flagsSumsWrong)

/-- 'mummerlaw01.FlagsShifts': WHATEVER THE INPUT: true; the input reads as it did. -/
def flagsShiftsSpec : ChangeSpec := { name := "flagsShifts", fn := fun _ => fun
  | [d1, d2] => { results := [.lit (.bool true)], args := [d1, d2] }
  | _ => none }
def flagsShiftsRow : OpenClaim := { program := "ytpapncnhlapfeaa", sum := "8cfcad47c5331f22a992e3b9f10c9cca920117bc4c30a8c102649319db06d814", func := "mummer/mummerlaw01.FlagsShifts", spec := "flagsShifts", unfollowed := true, recurses := true, apart := false }
def FlagsShiftsSaid : Prop := flagsShiftsRow.holds Try.pinned (OpenSpec.ofChange flagsShiftsSpec)

/-- ITS FALSE NEIGHBOUR: 'it returns false'. Refute it at one input. -/
def flagsShiftsWrong : ChangeSpec := { name := "flagsShifts", fn := fun _ => fun
  | [d1, d2] => { results := [.lit (.bool false)], args := [d1, d2] }
  | _ => none }
def FlagsShiftsWrongFalsely : Prop := flagsShiftsRow.holds Try.pinned (OpenSpec.ofChange flagsShiftsWrong)

/-- 'mummerlaw01.FlagsProducts': WHATEVER THE INPUT: true; the input reads as it did. -/
def flagsProductsSpec : ChangeSpec := { name := "flagsProducts", fn := fun _ => fun
  | [d1, d2] => { results := [.lit (.bool true)], args := [d1, d2] }
  | _ => none }
def flagsProductsRow : OpenClaim := { program := "ytpapncnhlapfeaa", sum := "8cfcad47c5331f22a992e3b9f10c9cca920117bc4c30a8c102649319db06d814", func := "mummer/mummerlaw01.FlagsProducts", spec := "flagsProducts", apart := false }
def FlagsProductsSaid : Prop := flagsProductsRow.holds Try.pinned (OpenSpec.ofChange flagsProductsSpec)

/-- ITS FALSE NEIGHBOUR: 'it returns false'. Refute it at one input. -/
def flagsProductsWrong : ChangeSpec := { name := "flagsProducts", fn := fun _ => fun
  | [d1, d2] => { results := [.lit (.bool false)], args := [d1, d2] }
  | _ => none }
def FlagsProductsWrongFalsely : Prop := flagsProductsRow.holds Try.pinned (OpenSpec.ofChange flagsProductsWrong)

/-- 'mummerlaw01.FlagsRests': WHATEVER THE INPUT: true; the input reads as it did. -/
def flagsRestsSpec : ChangeSpec := { name := "flagsRests", fn := fun _ => fun
  | [d1, d2] => { results := [.lit (.bool true)], args := [d1, d2] }
  | _ => none }
def flagsRestsRow : OpenClaim := { program := "ytpapncnhlapfeaa", sum := "8cfcad47c5331f22a992e3b9f10c9cca920117bc4c30a8c102649319db06d814", func := "mummer/mummerlaw01.FlagsRests", spec := "flagsRests", apart := false }
def FlagsRestsSaid : Prop := flagsRestsRow.holds Try.pinned (OpenSpec.ofChange flagsRestsSpec)

/-- ITS FALSE NEIGHBOUR: 'it returns false'. Refute it at one input. -/
def flagsRestsWrong : ChangeSpec := { name := "flagsRests", fn := fun _ => fun
  | [d1, d2] => { results := [.lit (.bool false)], args := [d1, d2] }
  | _ => none }
def FlagsRestsWrongFalsely : Prop := flagsRestsRow.holds Try.pinned (OpenSpec.ofChange flagsRestsWrong)

/-- 'mummerlaw01.FlagsOrder': WHATEVER THE INPUT: true; the input reads as it did. -/
def flagsOrderSpec : ChangeSpec := { name := "flagsOrder", fn := fun _ => fun
  | [d1, d2] => { results := [.lit (.bool true)], args := [d1, d2] }
  | _ => none }
def flagsOrderRow : OpenClaim := { program := "ytpapncnhlapfeaa", sum := "8cfcad47c5331f22a992e3b9f10c9cca920117bc4c30a8c102649319db06d814", func := "mummer/mummerlaw01.FlagsOrder", spec := "flagsOrder", apart := false }
def FlagsOrderSaid : Prop := flagsOrderRow.holds Try.pinned (OpenSpec.ofChange flagsOrderSpec)

/-- ITS FALSE NEIGHBOUR: 'it returns false'. Refute it at one input. -/
def flagsOrderWrong : ChangeSpec := { name := "flagsOrder", fn := fun _ => fun
  | [d1, d2] => { results := [.lit (.bool false)], args := [d1, d2] }
  | _ => none }
def FlagsOrderWrongFalsely : Prop := flagsOrderRow.holds Try.pinned (OpenSpec.ofChange flagsOrderWrong)

/-- 'mummerlaw01.FlagsTurns': WHATEVER THE INPUT: true; the input reads as it did. -/
def flagsTurnsSpec : ChangeSpec := { name := "flagsTurns", fn := fun _ => fun
  | [d1, d2] => { results := [.lit (.bool true)], args := [d1, d2] }
  | _ => none }
def flagsTurnsRow : OpenClaim := { program := "ytpapncnhlapfeaa", sum := "8cfcad47c5331f22a992e3b9f10c9cca920117bc4c30a8c102649319db06d814", func := "mummer/mummerlaw01.FlagsTurns", spec := "flagsTurns", unfollowed := true, recurses := true, apart := false }
def FlagsTurnsSaid : Prop := flagsTurnsRow.holds Try.pinned (OpenSpec.ofChange flagsTurnsSpec)

/-- ITS FALSE NEIGHBOUR: 'it returns false'. Refute it at one input. -/
def flagsTurnsWrong : ChangeSpec := { name := "flagsTurns", fn := fun _ => fun
  | [d1, d2] => { results := [.lit (.bool false)], args := [d1, d2] }
  | _ => none }
def FlagsTurnsWrongFalsely : Prop := flagsTurnsRow.holds Try.pinned (OpenSpec.ofChange flagsTurnsWrong)

/-- 'mummerlaw01.FlagsBack': WHATEVER THE INPUT: true; the input reads as it did. -/
def flagsBackSpec : ChangeSpec := { name := "flagsBack", fn := fun _ => fun
  | [d1, d2] => { results := [.lit (.bool true)], args := [d1, d2] }
  | _ => none }
def flagsBackRow : OpenClaim := { program := "ytpapncnhlapfeaa", sum := "8cfcad47c5331f22a992e3b9f10c9cca920117bc4c30a8c102649319db06d814", func := "mummer/mummerlaw01.FlagsBack", spec := "flagsBack", apart := false }
def FlagsBackSaid : Prop := flagsBackRow.holds Try.pinned (OpenSpec.ofChange flagsBackSpec)

/-- ITS FALSE NEIGHBOUR: 'it returns false'. Refute it at one input. -/
def flagsBackWrong : ChangeSpec := { name := "flagsBack", fn := fun _ => fun
  | [d1, d2] => { results := [.lit (.bool false)], args := [d1, d2] }
  | _ => none }
def FlagsBackWrongFalsely : Prop := flagsBackRow.holds Try.pinned (OpenSpec.ofChange flagsBackWrong)

/-- 'mummerlaw01.FlagsQuotient': WHATEVER THE INPUT: true; the input reads as it did. -/
def flagsQuotientSpec : ChangeSpec := { name := "flagsQuotient", fn := fun _ => fun
  | [d1, d2] => { results := [.lit (.bool true)], args := [d1, d2] }
  | _ => none }
def flagsQuotientRow : OpenClaim := { program := "ytpapncnhlapfeaa", sum := "8cfcad47c5331f22a992e3b9f10c9cca920117bc4c30a8c102649319db06d814", func := "mummer/mummerlaw01.FlagsQuotient", spec := "flagsQuotient", apart := false }
def FlagsQuotientSaid : Prop := flagsQuotientRow.holds Try.pinned (OpenSpec.ofChange flagsQuotientSpec)

/-- ITS FALSE NEIGHBOUR: 'it returns false'. Refute it at one input. -/
def flagsQuotientWrong : ChangeSpec := { name := "flagsQuotient", fn := fun _ => fun
  | [d1, d2] => { results := [.lit (.bool false)], args := [d1, d2] }
  | _ => none }
def FlagsQuotientWrongFalsely : Prop := flagsQuotientRow.holds Try.pinned (OpenSpec.ofChange flagsQuotientWrong)

/-- 'mummerlaw01.FlagsRound': WHATEVER THE INPUT: true; the input reads as it did. -/
def flagsRoundSpec : ChangeSpec := { name := "flagsRound", fn := fun _ => fun
  | [d1, d2] => { results := [.lit (.bool true)], args := [d1, d2] }
  | _ => none }
def flagsRoundRow : OpenClaim := { program := "ytpapncnhlapfeaa", sum := "8cfcad47c5331f22a992e3b9f10c9cca920117bc4c30a8c102649319db06d814", func := "mummer/mummerlaw01.FlagsRound", spec := "flagsRound", unfollowed := true, recurses := true, apart := false }
def FlagsRoundSaid : Prop := flagsRoundRow.holds Try.pinned (OpenSpec.ofChange flagsRoundSpec)

/-- ITS FALSE NEIGHBOUR: 'it returns false'. Refute it at one input. -/
def flagsRoundWrong : ChangeSpec := { name := "flagsRound", fn := fun _ => fun
  | [d1, d2] => { results := [.lit (.bool false)], args := [d1, d2] }
  | _ => none }
def FlagsRoundWrongFalsely : Prop := flagsRoundRow.holds Try.pinned (OpenSpec.ofChange flagsRoundWrong)

/-- 'mummerlaw01.FlagsParts': WHATEVER THE INPUT: true; the input reads as it did. -/
def flagsPartsSpec : ChangeSpec := { name := "flagsParts", fn := fun _ => fun
  | [d1, d2] => { results := [.lit (.bool true)], args := [d1, d2] }
  | _ => none }
def flagsPartsRow : OpenClaim := { program := "ytpapncnhlapfeaa", sum := "8cfcad47c5331f22a992e3b9f10c9cca920117bc4c30a8c102649319db06d814", func := "mummer/mummerlaw01.FlagsParts", spec := "flagsParts", unfollowed := true, recurses := true, apart := false }
def FlagsPartsSaid : Prop := flagsPartsRow.holds Try.pinned (OpenSpec.ofChange flagsPartsSpec)

/-- ITS FALSE NEIGHBOUR: 'it returns false'. Refute it at one input. -/
def flagsPartsWrong : ChangeSpec := { name := "flagsParts", fn := fun _ => fun
  | [d1, d2] => { results := [.lit (.bool false)], args := [d1, d2] }
  | _ => none }
def FlagsPartsWrongFalsely : Prop := flagsPartsRow.holds Try.pinned (OpenSpec.ofChange flagsPartsWrong)

/-- 'mummerlaw01.FlagsWhole': WHATEVER THE INPUT: true; the input reads as it did. -/
def flagsWholeSpec : ChangeSpec := { name := "flagsWhole", fn := fun _ => fun
  | [d1, d2] => { results := [.lit (.bool true)], args := [d1, d2] }
  | _ => none }
def flagsWholeRow : OpenClaim := { program := "ytpapncnhlapfeaa", sum := "8cfcad47c5331f22a992e3b9f10c9cca920117bc4c30a8c102649319db06d814", func := "mummer/mummerlaw01.FlagsWhole", spec := "flagsWhole", apart := false }
def FlagsWholeSaid : Prop := flagsWholeRow.holds Try.pinned (OpenSpec.ofChange flagsWholeSpec)

/-- ITS FALSE NEIGHBOUR: 'it returns false'. Refute it at one input. -/
def flagsWholeWrong : ChangeSpec := { name := "flagsWhole", fn := fun _ => fun
  | [d1, d2] => { results := [.lit (.bool false)], args := [d1, d2] }
  | _ => none }
def FlagsWholeWrongFalsely : Prop := flagsWholeRow.holds Try.pinned (OpenSpec.ofChange flagsWholeWrong)

/- THE SECOND FORM. 'bulk': how many values and letters a reading holds, each counted each time it is reached (what is shared counts as often as it is met; a slice's spare places count too). A statement '..UptoSaid' is the law's where the arguments, and the package variables that the reading takes, are together of bulk at most 1048576: NARROWER than '..Said'. Prove '..Said' where nothing that the law and all that it calls make is longer than what came in: it says more and counts as full. Else prove '..UptoSaid'. A law counts once. -/
mutual
def uptoBulk {H : Type} : DataW H → Nat
  | .lit (.string bytes) => bytes.length + 1
  | .lit _ => 1
  | .nil => 1
  | .ptr d => uptoBulk d + 1
  | .slice elems spare => uptoBulkAll elems + uptoBulkAll spare + 1
  | .agg parts => uptoBulkAll parts + 1
  | .iface _ d => uptoBulk d + 1
  | .map entries => uptoBulkEntries entries + 1
  | .held _ => 1
def uptoBulkAll {H : Type} : List (DataW H) → Nat
  | [] => 0
  | d :: r => uptoBulk d + uptoBulkAll r
def uptoBulkEntries {H : Type} : List (Lit × DataW H) → Nat
  | [] => 0
  | x :: r => uptoBulkEntry x + uptoBulkEntries r
def uptoBulkEntry {H : Type} : Lit × DataW H → Nat
  | (.string bytes, d) => bytes.length + uptoBulk d + 1
  | (_, d) => uptoBulk d + 1
 end
def uptoSmall : (H : Type) → List (DataW H) → Bool := fun _ ds => decide (uptoBulkAll ds ≤ 1048576)
def OpenSpec.upto (s : _root_.Go.ChangeSpec) : _root_.Go.OpenSpec := { _root_.Go.OpenSpec.ofChange s with cond := some uptoSmall }

/-- 'mummerlaw01.FlagsAsked', WHERE WHAT IT READS IS OF BULK AT MOST 1048576: true; the input reads as it did. -/
def flagsAskedUptoRow : OpenClaim := { program := "ytpapncnhlapfeaa", sum := "8cfcad47c5331f22a992e3b9f10c9cca920117bc4c30a8c102649319db06d814", func := "mummer/mummerlaw01.FlagsAsked", spec := "flagsAsked", apart := false, narrowed := true }
def FlagsAskedUptoSaid : Prop := flagsAskedUptoRow.holds Try.pinned (OpenSpec.upto flagsAskedSpec)

/-- 'mummerlaw01.FlagsBits', WHERE WHAT IT READS IS OF BULK AT MOST 1048576: true; the input reads as it did. -/
def flagsBitsUptoRow : OpenClaim := { program := "ytpapncnhlapfeaa", sum := "8cfcad47c5331f22a992e3b9f10c9cca920117bc4c30a8c102649319db06d814", func := "mummer/mummerlaw01.FlagsBits", spec := "flagsBits", apart := false, narrowed := true }
def FlagsBitsUptoSaid : Prop := flagsBitsUptoRow.holds Try.pinned (OpenSpec.upto flagsBitsSpec)

/-- 'mummerlaw01.FlagsSums', WHERE WHAT IT READS IS OF BULK AT MOST 1048576: true; the input reads as it did. -/
def flagsSumsUptoRow : OpenClaim := { program := "ytpapncnhlapfeaa", sum := "8cfcad47c5331f22a992e3b9f10c9cca920117bc4c30a8c102649319db06d814", func := "mummer/mummerlaw01.FlagsSums", spec := "flagsSums", apart := false, narrowed := true }
def FlagsSumsUptoSaid : Prop := flagsSumsUptoRow.holds Try.pinned (OpenSpec.upto flagsSumsSpec)

/-- 'mummerlaw01.FlagsShifts', WHERE WHAT IT READS IS OF BULK AT MOST 1048576: true; the input reads as it did. -/
def flagsShiftsUptoRow : OpenClaim := { program := "ytpapncnhlapfeaa", sum := "8cfcad47c5331f22a992e3b9f10c9cca920117bc4c30a8c102649319db06d814", func := "mummer/mummerlaw01.FlagsShifts", spec := "flagsShifts", unfollowed := true, recurses := true, apart := false, narrowed := true }
def FlagsShiftsUptoSaid : Prop := flagsShiftsUptoRow.holds Try.pinned (OpenSpec.upto flagsShiftsSpec)

/-- 'mummerlaw01.FlagsProducts', WHERE WHAT IT READS IS OF BULK AT MOST 1048576: true; the input reads as it did. -/
def flagsProductsUptoRow : OpenClaim := { program := "ytpapncnhlapfeaa", sum := "8cfcad47c5331f22a992e3b9f10c9cca920117bc4c30a8c102649319db06d814", func := "mummer/mummerlaw01.FlagsProducts", spec := "flagsProducts", apart := false, narrowed := true }
def FlagsProductsUptoSaid : Prop := flagsProductsUptoRow.holds Try.pinned (OpenSpec.upto flagsProductsSpec)

/-- 'mummerlaw01.FlagsRests', WHERE WHAT IT READS IS OF BULK AT MOST 1048576: true; the input reads as it did. -/
def flagsRestsUptoRow : OpenClaim := { program := "ytpapncnhlapfeaa", sum := "8cfcad47c5331f22a992e3b9f10c9cca920117bc4c30a8c102649319db06d814", func := "mummer/mummerlaw01.FlagsRests", spec := "flagsRests", apart := false, narrowed := true }
def FlagsRestsUptoSaid : Prop := flagsRestsUptoRow.holds Try.pinned (OpenSpec.upto flagsRestsSpec)

/-- 'mummerlaw01.FlagsOrder', WHERE WHAT IT READS IS OF BULK AT MOST 1048576: true; the input reads as it did. -/
def flagsOrderUptoRow : OpenClaim := { program := "ytpapncnhlapfeaa", sum := "8cfcad47c5331f22a992e3b9f10c9cca920117bc4c30a8c102649319db06d814", func := "mummer/mummerlaw01.FlagsOrder", spec := "flagsOrder", apart := false, narrowed := true }
def FlagsOrderUptoSaid : Prop := flagsOrderUptoRow.holds Try.pinned (OpenSpec.upto flagsOrderSpec)

/-- 'mummerlaw01.FlagsTurns', WHERE WHAT IT READS IS OF BULK AT MOST 1048576: true; the input reads as it did. -/
def flagsTurnsUptoRow : OpenClaim := { program := "ytpapncnhlapfeaa", sum := "8cfcad47c5331f22a992e3b9f10c9cca920117bc4c30a8c102649319db06d814", func := "mummer/mummerlaw01.FlagsTurns", spec := "flagsTurns", unfollowed := true, recurses := true, apart := false, narrowed := true }
def FlagsTurnsUptoSaid : Prop := flagsTurnsUptoRow.holds Try.pinned (OpenSpec.upto flagsTurnsSpec)

/-- 'mummerlaw01.FlagsBack', WHERE WHAT IT READS IS OF BULK AT MOST 1048576: true; the input reads as it did. -/
def flagsBackUptoRow : OpenClaim := { program := "ytpapncnhlapfeaa", sum := "8cfcad47c5331f22a992e3b9f10c9cca920117bc4c30a8c102649319db06d814", func := "mummer/mummerlaw01.FlagsBack", spec := "flagsBack", apart := false, narrowed := true }
def FlagsBackUptoSaid : Prop := flagsBackUptoRow.holds Try.pinned (OpenSpec.upto flagsBackSpec)

/-- 'mummerlaw01.FlagsQuotient', WHERE WHAT IT READS IS OF BULK AT MOST 1048576: true; the input reads as it did. -/
def flagsQuotientUptoRow : OpenClaim := { program := "ytpapncnhlapfeaa", sum := "8cfcad47c5331f22a992e3b9f10c9cca920117bc4c30a8c102649319db06d814", func := "mummer/mummerlaw01.FlagsQuotient", spec := "flagsQuotient", apart := false, narrowed := true }
def FlagsQuotientUptoSaid : Prop := flagsQuotientUptoRow.holds Try.pinned (OpenSpec.upto flagsQuotientSpec)

/-- 'mummerlaw01.FlagsRound', WHERE WHAT IT READS IS OF BULK AT MOST 1048576: true; the input reads as it did. -/
def flagsRoundUptoRow : OpenClaim := { program := "ytpapncnhlapfeaa", sum := "8cfcad47c5331f22a992e3b9f10c9cca920117bc4c30a8c102649319db06d814", func := "mummer/mummerlaw01.FlagsRound", spec := "flagsRound", unfollowed := true, recurses := true, apart := false, narrowed := true }
def FlagsRoundUptoSaid : Prop := flagsRoundUptoRow.holds Try.pinned (OpenSpec.upto flagsRoundSpec)

/-- 'mummerlaw01.FlagsParts', WHERE WHAT IT READS IS OF BULK AT MOST 1048576: true; the input reads as it did. -/
def flagsPartsUptoRow : OpenClaim := { program := "ytpapncnhlapfeaa", sum := "8cfcad47c5331f22a992e3b9f10c9cca920117bc4c30a8c102649319db06d814", func := "mummer/mummerlaw01.FlagsParts", spec := "flagsParts", unfollowed := true, recurses := true, apart := false, narrowed := true }
def FlagsPartsUptoSaid : Prop := flagsPartsUptoRow.holds Try.pinned (OpenSpec.upto flagsPartsSpec)

/-- 'mummerlaw01.FlagsWhole', WHERE WHAT IT READS IS OF BULK AT MOST 1048576: true; the input reads as it did. -/
def flagsWholeUptoRow : OpenClaim := { program := "ytpapncnhlapfeaa", sum := "8cfcad47c5331f22a992e3b9f10c9cca920117bc4c30a8c102649319db06d814", func := "mummer/mummerlaw01.FlagsWhole", spec := "flagsWhole", apart := false, narrowed := true }
def FlagsWholeUptoSaid : Prop := flagsWholeUptoRow.holds Try.pinned (OpenSpec.upto flagsWholeSpec)

end Rows
end Go.Proofs.Ytpapncnhlapfeaa
