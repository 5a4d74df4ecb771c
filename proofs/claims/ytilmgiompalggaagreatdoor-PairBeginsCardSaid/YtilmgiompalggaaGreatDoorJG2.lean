/- PairBegins: the row's closed cells, together. No condition. -/
import Derived.Test.YtilmgiompalggaaGreatDoorJG1
namespace Go.Proofs.YtilmgiompalggaaGreatDoor.JF
open Go Go.ChangeShapes Go.WideShapes Go.ChangeAt Go.RowKit
set_option maxRecDepth 1000000
theorem joined : joinedFacts Tryz.prog 3 Tryz.f3 Rows.pairBeginsSpec Rows.pairBeginsRow = true := by
  unfold joinedFacts
  rw [a1, a2, a3, a4, a5, a6, a7, a8, a9, b1, b2, b3, b4]
  kernel_rfl
end Go.Proofs.YtilmgiompalggaaGreatDoor.JF
