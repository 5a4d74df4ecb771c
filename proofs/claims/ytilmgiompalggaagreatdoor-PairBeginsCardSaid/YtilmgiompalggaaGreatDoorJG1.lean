/- PairBegins: the row's closed cells, one by one. No condition. -/
import Derived.Test.YtilmgiompalggaaGreatDoorRows
import Derived.ProofKit
namespace Go.Proofs.YtilmgiompalggaaGreatDoor.JF
open Go Go.ChangeShapes Go.WideShapes Go.ChangeAt Go.RowKit
set_option maxRecDepth 1000000
theorem a1 : laidOutB Tryz.prog = true := by kernel_rfl
theorem a2 : mapsRowed Tryz.prog = true := by kernel_rfl
theorem a3 : (Tryz.prog.stops == []) = true := by kernel_rfl
theorem a4 : (Tryz.prog.stopKnobs == []) = true := by kernel_rfl
theorem a5 : Tryz.prog.stopsHeard = true := by kernel_rfl
theorem a6 : Tryz.prog.mayEnter = true := by kernel_rfl
theorem a7 : (Rows.pairBeginsRow.lifted == Tryz.prog.liftsFinal) = true := by kernel_rfl
theorem a8 : (Tryz.prog.make == some Rows.pairBeginsRow.make) = true := by kernel_rfl
theorem a9 : (Rows.pairBeginsRow.plainKeys == Tryz.prog.plainKeys) = true := by kernel_rfl
theorem b1 : (Rows.pairBeginsRow.named == Tryz.prog.varsNamed 3) = true := by kernel_rfl
theorem b2 : (Rows.pairBeginsRow.recurses == Tryz.prog.recurses 3) = true := by kernel_rfl
theorem b3 : (Rows.pairBeginsRow.unfollowed == Tryz.prog.unfollowed 3) = true := by kernel_rfl
theorem b4 : (Rows.pairBeginsRow.inPlace == Tryz.prog.inPlace 3) = true := by kernel_rfl
end Go.Proofs.YtilmgiompalggaaGreatDoor.JF
