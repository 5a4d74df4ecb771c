/- MonitorNone: the row's closed cells, one by one. No condition. -/
import Derived.Test.YtieikjgfndojpaaGreatRows
import Derived.ProofKit
namespace Go.Proofs.YtieikjgfndojpaaGreat.JF
open Go Go.ChangeShapes Go.WideShapes Go.ChangeAt Go.RowKit
set_option maxRecDepth 1000000
theorem a1 : laidOutB Tryz.prog = true := by kernel_rfl
theorem a2 : mapsRowed Tryz.prog = true := by kernel_rfl
theorem a3 : (Tryz.prog.stops == []) = true := by kernel_rfl
theorem a4 : (Tryz.prog.stopKnobs == []) = true := by kernel_rfl
theorem a5 : Tryz.prog.stopsHeard = true := by kernel_rfl
theorem a6 : Tryz.prog.mayEnter = true := by kernel_rfl
theorem a7 : (Rows.monitorNoneRow.lifted == Tryz.prog.liftsFinal) = true := by kernel_rfl
theorem a8 : (Tryz.prog.make == some Rows.monitorNoneRow.make) = true := by kernel_rfl
theorem a9 : (Rows.monitorNoneRow.plainKeys == Tryz.prog.plainKeys) = true := by kernel_rfl
theorem b1 : (Rows.monitorNoneRow.named == Tryz.prog.varsNamed 3) = true := by kernel_rfl
theorem b2 : (Rows.monitorNoneRow.recurses == Tryz.prog.recurses 3) = true := by kernel_rfl
theorem b3 : (Rows.monitorNoneRow.unfollowed == Tryz.prog.unfollowed 3) = true := by kernel_rfl
theorem b4 : (Rows.monitorNoneRow.inPlace == Tryz.prog.inPlace 3) = true := by kernel_rfl
end Go.Proofs.YtieikjgfndojpaaGreat.JF
