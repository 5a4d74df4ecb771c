/- The functions that are told by hand. No condition. -/
import Derived.Test.YtilmgiompalggaaGreatDoorFX
import Derived.Test.YtilmgiompalggaaGreatDoorEn35
namespace Go.Proofs.YtilmgiompalggaaGreatDoor.W
open Go Go.RowKit Go.Eng Go.Proofs Go.Eng.St
set_option maxRecDepth 1000000
noncomputable section
theorem mixed : Tryz.prog.follows .mixedOrders = true := by kernel_rfl
/-- By hand: AppendSeq; dev.Come's range; the functions that defer. -/
def spc0 : FuncId → Option FB := fun f => bif Nat.beq f 335 then some (asqB 282) else bif Nat.beq f 41 then some (rangeB Tryz.prog 100000 f) else bif Nat.beq f 27 || Nat.beq f 102 || Nat.beq f 373 || Nat.beq f 185 then some (defB Tryz.prog 100000 f) else none
theorem spc0_ok : SpcOK Tryz.prog spc0 := by
  intro f b h
  unfold spc0 at h
  rcases h1 : Nat.beq f 335 with _ | _
  · rw [h1] at h
    rcases h2 : Nat.beq f 41 with _ | _
    · rw [h2] at h
      rcases h3 : (Nat.beq f 27 || Nat.beq f 102 || Nat.beq f 373 || Nat.beq f 185) with _ | _
      · rw [h3] at h; cases h
      · rw [h3] at h
        cases h
        exact defB_ok mixed 100000 f
    · rw [h2] at h
      cases h
      exact rangeB_ok mixed 100000 f
  · rw [h1] at h
    cases h
    rw [Nat.eq_of_beq_eq_true h1]
    exact asq_ok
end
end Go.Proofs.YtilmgiompalggaaGreatDoor.W
/- Trees of values that stand in the stages. No condition. -/
namespace Go.Proofs.YtilmgiompalggaaGreatDoor.W
open Go Go.RowKit Go.Eng Go.Proofs Go.Eng.St
set_option maxRecDepth 1000000
noncomputable section
def vt0 : VT := (n (n e (.ptr 6 0 0) e) (.ptr 7 0 0) (n e (i 0) e))
def vt1 : VT := (n (n e (u 0) e) (u 0) e)
def vt2 : VT := (n vt1 (u 0) vt1)
def vt3 : VT := (n (n e (i 0) e) (u 0) e)
def vt4 : VT := (n vt1 (u 0) vt3)
def vt5 : VT := (n (n e (.bool false) e) (u 0) e)
def vt6 : VT := (n vt1 (u 0) vt5)
def vt7 : VT := (n (n e (.nils) e) (u 0) e)
def vt8 : VT := (n vt6 (u 0) (n vt1 (u 0) vt7))
def vt9 : VT := (n (n e (u 0) e) (u 0) (n e (i 0) e))
def vt10 : VT := (n vt9 (u 0) vt1)
def vt11 : VT := (n (n e (.bool false) e) (.nilp) e)
def vt12 : VT := (n (n (n e (u 0) e) (.bool false) (n e (i 0) e)) (u 0) vt11)
def vt13 : VT := (n (n e (.bool false) e) (.bool false) e)
def vt14 : VT := (n (n e (.nilp) e) (u 0) e)
def vt15 : VT := (n (n e (u 0) e) (.bool false) e)
def vt16 : VT := (n vt14 (.bool false) vt15)
def vt17 : VT := (n e (.sl 30 0 0 1 1 false) e)
def vt18 : VT := (n vt1 (.nilp) vt13)
def vt19 : VT := (n vt18 (.bool false) (n vt15 (u 0) vt11))
def vt20 : VT := (n vt11 (.bool false) vt1)
def vt21 : VT := (n vt20 (u 0) (n vt14 (.bool false) (n (n e (i 0) e) (.bool false) e)))
def vt22 : VT := (n (n (n e (u 0) e) (.nils) (n e (.nils) e)) (u 0) vt1)
def vt23 : VT := (n (n e (.bool true) e) (u 0) e)
def vt24 : VT := (n vt22 (u 0) (n (n (n e (u 0) e) (u 0) (n e (.nils) e)) (.nils) vt23))
def vt25 : VT := (n (n e (i 1) e) (i 0) (n e (i 0) e))
def vt26 : VT := (n vt15 (u 0) (n e (u 0) e))
def vt27 : VT := (n vt1 (u 0) (n e (u 0) e))
def vt28 : VT := (n (n e (u 0) e) (u 0) (n e (u 0) e))
def vt29 : VT := (n (n vt5 (u 0) (n e (u 0) e)) (u 0) vt28)
def vt30 : VT := (n (n vt1 (u 0) (n e (.bool false) e)) (u 0) vt28)
def vt31 : VT := (n vt27 (.bool false) vt28)
def vt32 : VT := (n vt27 (u 0) (n (n e (.bool false) e) (u 0) (n e (u 0) e)))
def vt33 : VT := (n vt27 (u 0) vt28)
def vt34 : VT := (n vt32 (.bool false) vt33)
def vt35 : VT := (n vt27 (u 0) (n (n e (u 0) e) (u 0) (n e (.bool false) e)))
def vt36 : VT := (n vt1 (.bool false) (n e (u 0) e))
def vt37 : VT := (n vt36 (u 0) vt28)
def vt38 : VT := (n vt35 (u 0) vt37)
def vt39 : VT := (n (n (n (n vt26 (u 0) vt27) (u 0) vt29) (u 0) (n vt30 (u 0) vt31)) (u 0) (n vt34 (u 0) vt38))
def vt40 : VT := (n vt26 (u 0) vt28)
def vt41 : VT := (n vt37 (u 0) vt30)
def vt42 : VT := (n vt31 (u 0) vt32)
def vt43 : VT := (n vt27 (u 0) (n (n e (u 0) e) (.bool false) (n e (u 0) e)))
def vt44 : VT := (n vt43 (u 0) vt35)
def vt45 : VT := (n vt42 (u 0) vt44)
def vt46 : VT := (n vt39 (.bool false) (n (n (n (n vt27 (u 0) (n vt7 (u 0) (n e (u 0) e))) (u 0) vt40) (u 0) vt41) (u 0) vt45))
def vt47 : VT := (n (n (n (n (n vt36 (u 0) vt27) (u 0) vt30) (u 0) (n vt40 (u 0) vt29)) (u 0) (n vt44 (u 0) vt34)) (u 0) (n (n vt38 (.bool false) (n vt33 (u 0) vt40)) (u 0) (n (n vt29 (u 0) vt43) (u 0) vt42)))
def vt48 : VT := (n (n (n e (u 0) e) (i 0) e) (u 0) (n e (u 0) e))
def vt49 : VT := (n (n vt3 (u 0) (n e (u 0) e)) (u 0) vt28)
def vt50 : VT := (n (n vt1 (u 0) (n e (i 0) e)) (u 0) vt28)
def vt51 : VT := (n vt27 (i 0) vt28)
def vt52 : VT := (n vt27 (u 0) (n (n e (i 0) e) (u 0) (n e (u 0) e)))
def vt53 : VT := (n vt52 (i 0) vt33)
def vt54 : VT := (n vt27 (u 0) vt9)
def vt55 : VT := (n vt1 (i 0) (n e (u 0) e))
def vt56 : VT := (n vt55 (u 0) vt28)
def vt57 : VT := (n vt54 (u 0) vt56)
def vt58 : VT := (n vt48 (u 0) vt28)
def vt59 : VT := (n vt33 (u 0) vt58)
def vt60 : VT := (n vt51 (u 0) vt52)
def vt61 : VT := (n vt27 (u 0) (n (n e (u 0) e) (i 0) (n e (u 0) e)))
def vt62 : VT := (n vt61 (u 0) vt54)
def vt63 : VT := (n (n (n (n (n (n vt48 (u 0) vt27) (u 0) vt49) (u 0) (n vt50 (u 0) vt51)) (u 0) (n vt53 (u 0) vt57)) (i 0) (n (n vt59 (u 0) (n vt56 (u 0) vt50)) (u 0) (n vt60 (u 0) vt62))) (i 5) (n (n (n (n (n vt55 (u 0) vt27) (u 0) vt50) (u 0) (n vt58 (u 0) vt49)) (u 0) (n vt62 (u 0) vt53)) (u 0) (n (n vt57 (i 0) vt59) (u 0) (n (n vt49 (u 0) vt61) (u 0) vt60))))
def vt64 : VT := (n (n e (y 0) e) (y 0) (n e (y 0) e))
def vt65 : VT := (n vt64 (y 0) vt64)
def vt66 : VT := (n vt65 (y 0) vt65)
def vt67 : VT := (n vt66 (y 0) vt66)
def vt68 : VT := (n vt67 (y 0) vt67)
def vt69 : VT := (n vt68 (y 0) vt68)
def vt70 : VT := (n vt69 (y 0) vt69)
def vt71 : VT := (n (n e (y 0) e) (y 141) (n e (y 0) e))
def vt72 : VT := (n (n (n (n (n (n (n e (y 0) e) (y 205) (n e (y 0) e)) (y 0) vt64) (y 0) vt65) (y 0) vt66) (y 0) vt67) (y 0) vt68)
def vt73 : VT := (n (n vt70 (y 0) vt70) (y 32) (n (n (n (n (n (n (n vt71 (y 0) vt64) (y 0) vt65) (y 0) vt66) (y 0) vt67) (y 1) vt68) (y 0) vt72) (y 5) (n vt69 (y 101) vt69)))
def vt74 : VT := (n (n e (i 0) e) (i 0) (n e (i 0) e))
def vt75 : VT := (n (n (n (n e (i 0) e) (i 0) e) (i 0) (n e (i 0) e)) (i 0) vt74)
def vt76 : VT := (n vt74 (i 0) vt74)
def vt77 : VT := (n vt28 (u 0) vt28)
def vt78 : VT := (n vt77 (u 0) vt77)
def vt79 : VT := (n (n e (.bool false) e) (.bool false) (n e (.bool false) e))
def vt80 : VT := (n vt79 (.bool false) vt79)
def vt81 : VT := (n vt80 (.bool false) vt80)
def vt82 : VT := (n (n (n vt75 (i 0) vt76) (u 0) vt78) (.bool false) (n vt81 (u 0) vt78))
def vt83 : VT := (n vt69 (y 32) (n (n (n vt66 (y 1) vt66) (y 0) vt67) (y 5) (n vt67 (y 101) vt67)))
def vt84 : VT := (n (n (n e (.ptr 1 0 0) e) (u 0) (n e (i 0) e)) (i 3) (n (n e (.nils) e) (.ptr 2 0 0) (n e (i 0) e)))
def vt85 : VT := (n (n e (.ptr 3 0 0) e) (.ptr 4 0 0) (n e (i 0) e))
def vt86 : VT := (n (n (n e (.nils) e) (.ptr 9 0 0) (n e (i 0) e)) (.bool false) (n (n e (i 0) e) (.ptr 10 0 0) e))
def vt87 : VT := (n (n e (u 0) e) (u 0) (n e (.map 20) e))
def vt88 : VT := (n vt1 (.nilp) (n (n e (.sl 25 0 0 1 1 false) e) (.bool false) e))
def vt89 : VT := (n (n vt84 (i 2) (n vt85 (i 50) (n (n e (i 1) e) (.ptr 5 0 0) e))) (i 2) (n (n vt0 (i 1) (n (n e (i 1) e) (.ptr 8 0 0) (n e (i 1) e))) (i 9) vt86))
def vt90 : VT := (n vt1 (u 0) (n (n e (i 2) e) (u 0) e))
def vt91 : VT := (n vt2 (.ptr 4 0 0) vt90)
def vt92 : VT := (n vt6 (u 5) (n (n (n e (u 0) e) (u 8) e) (u 0) vt7))
def vt93 : VT := (n (n e (u 0) e) (u 5) e)
def vt94 : VT := (n (n (n e (u 0) e) (u 0) (n e (i 1) e)) (u 0) vt93)
def vt95 : VT := (n vt1 (u 0) vt23)
def vt96 : VT := (n (n e (.bool false) e) (u 320) e)
def vt97 : VT := (n (n e (i 50) e) (u 0) e)
def vt98 : VT := (n (n (n e (u 0) e) (u 16392) e) (u 0) vt97)
def vt99 : VT := (n (n (n e (u 0) e) (.bool false) (n e (i 1) e)) (u 0) vt11)
def vt100 : VT := (n e (.sl 32 0 0 1 1 false) e)
def vt101 : VT := (n vt18 (.bool true) (n vt15 (u 0) (n (n e (.bool true) e) (.nilp) e)))
def vt102 : VT := (n e (.sl 34 0 0 1 1 false) e)
def vt103 : VT := (n (n (n (n vt64 (y 1) vt64) (y 0) vt65) (y 0) vt66) (y 0) vt67)
def vt104 : VT := (n vt68 (y 0) vt103)
def vt105 : VT := (n (n (n (n (n vt64 (y 0) (n (n e (y 0) e) (y 1) (n e (y 0) e))) (y 0) vt65) (y 0) vt66) (y 0) vt67) (y 0) vt68)
def vt106 : VT := (n (n (n (n vt64 (y 113) vt64) (y 0) vt65) (y 0) vt66) (y 0) vt67)
def vt107 : VT := (n (n (n (n (n (n vt71 (y 32) (n (n e (y 0) e) (y 7) (n e (y 0) e))) (y 0) vt65) (y 0) vt66) (y 0) vt67) (y 1) vt106) (y 0) vt72)
def vt108 : VT := (n (n (n (n (n vt64 (y 5) vt64) (y 0) vt65) (y 0) vt66) (y 0) vt67) (y 0) vt68)
def vt109 : VT := (n (n (n (n vt64 (y 112) vt64) (y 0) vt65) (y 0) vt66) (y 0) vt67)
def vt110 : VT := (n (n (n vt104 (y 0) vt69) (y 0) (n vt105 (y 0) vt69)) (y 32) (n vt107 (y 5) (n vt108 (y 101) (n vt109 (y 0) vt68))))
def vt111 : VT := (n (n (n vt75 (i 2) vt76) (u 256) vt78) (.bool true) (n vt81 (u 13) vt78))
def vt112 : VT := (n (n (n e (.ptr 3 0 0) e) (u 0) (n e (i 0) e)) (i 3) (n (n e (.nils) e) (.ptr 4 0 0) (n e (i 0) e)))
def vt113 : VT := (n (n e (.ptr 5 0 0) e) (.ptr 6 0 0) (n e (i 0) e))
def vt114 : VT := (n (n e (.ptr 8 0 0) e) (.ptr 9 0 0) (n e (i 0) e))
def vt115 : VT := (n (n (n e (.nils) e) (.ptr 11 0 0) (n e (i 0) e)) (.bool false) (n (n e (i 0) e) (.ptr 12 0 0) e))
def vt116 : VT := (n (n vt112 (i 2) (n vt113 (i 50) (n (n e (i 1) e) (.ptr 7 0 0) e))) (i 2) (n (n vt114 (i 1) (n (n e (i 1) e) (.ptr 10 0 0) (n e (i 1) e))) (i 9) vt115))
def vt117 : VT := (n (n vt2 (.ptr 13 0 0) vt90) (.ptr 14 0 0) vt92)
def vt118 : VT := (n (n vt2 (.ptr 6 0 0) vt90) (.ptr 18 0 0) vt92)
def vt119 : VT := (n (n (n e (u 0) e) (u 0) (n e (.map 26) e)) (u 0) vt96)
def vt120 : VT := (n (n vt94 (.ptr 25 0 0) vt95) (.ptr 9 0 0) (n vt119 (u 5) vt98))
def vt121 : VT := (n (n vt99 (.ptr 29 0 0) (n vt13 (u 0) (n vt17 (u 0) e))) (.ptr 9 0 0) (n vt16 (.bool true) (n vt1 (.nilp) (n (n e (.sl 31 0 0 1 1 false) e) (.bool false) e))))
def vt122 : VT := (n vt121 (.bool true) (n vt101 (.ptr 32 0 0) vt21))
def vt123 : VT := (n vt22 (u 0) (n (n (n e (u 0) e) (u 0) vt102) (.nils) vt23))
def vt124 : VT := (n e (.sl 38 0 0 1 1 false) e)
def vt125 : VT := (n vt22 (u 0) (n (n (n e (u 0) e) (u 0) vt124) (.nils) vt23))
def vt126 : VT := (n e (.sl 41 0 0 1 1 false) e)
def vt127 : VT := (n (n (n vt39 (.bool false) (n (n (n (n vt27 (u 0) (n (n vt126 (u 0) e) (u 0) (n e (u 0) e))) (u 0) vt40) (u 0) vt41) (u 0) vt45)) (.ptr 32 0 0) vt47) (.ptr 9 0 0) vt63)
def vt128 : VT := (n (n (n e (u 0) e) (u 0) (n e (.map 22) e)) (u 0) vt96)
def vt129 : VT := (n vt16 (.bool true) (n vt1 (.nilp) (n (n e (.sl 27 0 0 1 1 false) e) (.bool false) e)))
def vt130 : VT := (n (n vt99 (.ptr 25 0 0) (n vt13 (u 0) (n (n e (.sl 26 0 0 1 1 false) e) (u 0) e))) (.ptr 7 0 0) vt129)
def vt131 : VT := (n vt22 (u 0) (n (n (n e (u 0) e) (u 0) vt100) (.nils) vt23))
def vt132 : VT := (n e (.sl 35 0 0 1 1 false) e)
def vt133 : VT := (n (n (n vt39 (.bool false) (n (n (n (n vt27 (u 0) (n (n vt132 (u 0) e) (u 0) (n e (u 0) e))) (u 0) vt40) (u 0) vt41) (u 0) vt45)) (.ptr 28 0 0) vt47) (.ptr 7 0 0) vt63)
def vt134 : VT := (n (n vt84 (i 2) (n vt85 (i 50) (n (n e (i 2) e) (.ptr 5 0 0) e))) (i 2) (n (n vt0 (i 1) (n (n e (i 2) e) (.ptr 8 0 0) (n e (i 2) e))) (i 9) vt86))
def vt135 : VT := (n vt1 (u 0) (n (n e (i 3) e) (u 0) e))
def vt136 : VT := (n vt95 (u 5) (n (n (n e (u 0) e) (u 9) e) (u 0) vt7))
def vt137 : VT := (n (n vt2 (.ptr 4 0 0) vt135) (.ptr 14 0 0) vt136)
def vt138 : VT := (n vt9 (u 0) vt93)
def vt139 : VT := (n (n (n e (u 0) e) (u 16397) e) (u 0) vt97)
def vt140 : VT := (n (n vt138 (.ptr 21 0 0) vt95) (.ptr 7 0 0) (n vt128 (u 5) vt139))
def vt141 : VT := (n vt20 (u 0) (n vt14 (.bool false) (n (n e (i 1) e) (.bool false) e)))
def vt142 : VT := (n vt101 (.ptr 28 0 0) vt141)
def vt143 : VT := (n (n (n vt104 (y 0) (n vt68 (y 0) vt109)) (y 0) (n vt105 (y 0) (n vt68 (y 0) vt106))) (y 32) (n vt107 (y 5) (n vt108 (y 101) (n vt109 (y 0) vt103))))
def vt144 : VT := (n (n vt112 (i 2) (n vt113 (i 50) (n (n e (i 2) e) (.ptr 7 0 0) e))) (i 2) (n (n vt114 (i 1) (n (n e (i 2) e) (.ptr 10 0 0) (n e (i 2) e))) (i 9) vt115))
def vt145 : VT := (n (n vt2 (.ptr 13 0 0) vt135) (.ptr 14 0 0) vt136)
def vt146 : VT := (n (n vt2 (.ptr 6 0 0) vt135) (.ptr 18 0 0) vt136)
def vt147 : VT := (n (n vt138 (.ptr 25 0 0) vt95) (.ptr 9 0 0) (n vt119 (u 5) vt139))
def vt148 : VT := (n vt121 (.bool true) (n vt101 (.ptr 32 0 0) vt141))
def vt149 : VT := (n vt22 (u 0) (n (n (n e (u 0) e) (u 0) vt126) (.nils) vt23))
def vt150 : VT := (n (n (n vt39 (.bool false) (n (n (n (n vt27 (u 0) (n (n (n e (.sl 44 0 0 1 1 false) e) (u 0) e) (u 0) (n e (u 0) e))) (u 0) vt40) (u 0) vt41) (u 0) vt45)) (.ptr 32 0 0) vt47) (.ptr 9 0 0) vt63)
def vt151 : VT := (n vt130 (.bool true) vt142)
def vt152 : VT := (n vt22 (u 0) (n (n (n e (u 0) e) (u 0) vt132) (.nils) vt23))
def vt153 : VT := (n (n (n vt39 (.bool false) (n (n (n (n vt27 (u 0) (n (n vt124 (u 0) e) (u 0) (n e (u 0) e))) (u 0) vt40) (u 0) vt41) (u 0) vt45)) (.ptr 28 0 0) vt47) (.ptr 7 0 0) vt63)
end
end Go.Proofs.YtilmgiompalggaaGreatDoor.W
