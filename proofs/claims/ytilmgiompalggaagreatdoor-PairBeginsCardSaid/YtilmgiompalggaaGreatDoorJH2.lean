/- PairBegins: the card's closed cells, goes. No condition. -/
import Derived.Test.YtilmgiompalggaaGreatDoorCards
import Derived.Test.YtilmgiompalggaaGreatDoorTie
import Derived.SevenTiedAt
import Derived.KernelRfl
namespace Go.Proofs.YtilmgiompalggaaGreatDoor.JH
open Go
set_option maxRecDepth 100000
set_option linter.unusedVariables false
set_option linter.unusedSimpArgs false
set_option maxRecDepth 1000000
theorem h2 : false = Rows.pairBeginsRow.goesBy Tryz.prog := by kernel_rfl
end Go.Proofs.YtilmgiompalggaaGreatDoor.JH
