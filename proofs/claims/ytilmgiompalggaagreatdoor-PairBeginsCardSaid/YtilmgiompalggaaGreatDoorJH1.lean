/- PairBegins: the card's closed cells, looks. No condition. -/
import Derived.Test.YtilmgiompalggaaGreatDoorCards
import Derived.Test.YtilmgiompalggaaGreatDoorTie
import Derived.SevenTiedAt
import Derived.KernelRfl
namespace Go.Proofs.YtilmgiompalggaaGreatDoor.JH
open Go
set_option maxRecDepth 100000
set_option linter.unusedVariables false
set_option linter.unusedSimpArgs false
set_option maxRecDepth 1000000
theorem h1 : true = Tryz.prog.looks [] := by kernel_rfl
theorem h4 : Tryz.prog.funcNamed "mummer/mummerlaw28.PairBegins" = some 3 := by kernel_rfl
theorem h3 : Tryz.prog.mainIs = some (true, "314ab9d3099077fb090fc0a3488a9b6443a1638d9bd4700da815930dbe9ca156".toList) := by kernel_rfl
end Go.Proofs.YtilmgiompalggaaGreatDoor.JH
