/- PairBegins: a configuration that may not be makes no pair; a pair that is not there does nothing; for every configuration and number of turns. The card: what is laid is tied to the program's text. No condition. -/
import Derived.Test.YtilmgiompalggaaGreatDoorGL
import Derived.Test.YtilmgiompalggaaGreatDoorJH1
import Derived.Test.YtilmgiompalggaaGreatDoorJH2
set_option maxRecDepth 100000
namespace Go.Proofs.YtilmgiompalggaaGreatDoor
open Go Go.RowKit
set_option maxRecDepth 100000
set_option linter.unusedVariables false
set_option linter.unusedSimpArgs false
open Go.Proofs.YtilmgiompalggaaGreatDoor.W
theorem pairBegins_holds : Rows.PairBeginsSaid := pairBegins.proved
theorem pairBeginsCard_holds : Rows.PairBeginsCardSaid :=
  Claim7.holds_tied_plain_at .later [] [.data, .data, .data] true (true, "314ab9d3099077fb090fc0a3488a9b6443a1638d9bd4700da815930dbe9ca156") true
    pairBegins_holds (fun _ h => by cases h) (by kernel_rfl) (fun _ h => by cases h) pairBegins_row_tie rfl ⟨rfl, rfl⟩ JH.h3 rfl
    (fun f fn hf hfn => by
      obtain rfl : f = 3 := Option.some.inj (JH.h4.symm.trans hf) |>.symm
      obtain rfl : fn = Tryz.f3 := (Option.some.inj (Tryz.func3.symm.trans hfn)).symm
      exact ⟨JH.h1, fun j t ht => by
        rw [Tryz.params3] at ht
        match j, ht with
        | 0, ht =>
          obtain rfl : t = T_api_Config := by simpa using ht.symm
          exact (show Tryz.prog.wantsStandIn T_api_Config = false by kernel_rfl)
        | 1, ht =>
          obtain rfl : t = 3 := by simpa using ht.symm
          exact (show Tryz.prog.wantsStandIn 3 = false by kernel_rfl)
        | j + 2, ht => simp at ht⟩)
    JH.h2
#print axioms pairBeginsCard_holds
end Go.Proofs.YtilmgiompalggaaGreatDoor
