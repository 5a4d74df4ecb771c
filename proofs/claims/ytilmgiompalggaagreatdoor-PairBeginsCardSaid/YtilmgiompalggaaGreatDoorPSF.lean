/- works() answers true. No condition. -/
import Derived.Test.YtilmgiompalggaaGreatDoorPS1
import Derived.Test.YtilmgiompalggaaGreatDoorPS2
import Derived.Test.YtilmgiompalggaaGreatDoorPS3
import Derived.Test.YtilmgiompalggaaGreatDoorPS4
import Derived.Test.YtilmgiompalggaaGreatDoorPS5
import Derived.Test.YtilmgiompalggaaGreatDoorPS6
namespace Go.Proofs.YtilmgiompalggaaGreatDoor.W
open Go Go.RowKit Go.Eng Go.Proofs Go.Eng.St
set_option maxRecDepth 1000000
noncomputable section
def spcF : FuncId → Option FB := fun f => bif Nat.beq f 8 then some (stgs [G1]) else bif Nat.beq f 11 then some (stgs [G2, G4, G6]) else bif Nat.beq f 14 then some (stgs [G3, G5]) else spc0 f
theorem spcF_ok : SpcOK Tryz.prog spcF := by
  intro f b h
  unfold spcF at h
  rcases h0 : Nat.beq f 8 with _ | _
  · rw [h0] at h
    rcases h1 : Nat.beq f 11 with _ | _
    · rw [h1] at h
      rcases h2 : Nat.beq f 14 with _ | _
      · rw [h2] at h
        exact spc0_ok f b h
      · rw [h2] at h
        cases h
        refine stgs_ok (fun c hc => ?_)
        have hc : c = G3 ∨ c = G5 := by simpa using hc
        rcases hc with rfl | rfl
        · exact ⟨(Nat.eq_of_beq_eq_true h2).symm, g3_ok⟩
        · exact ⟨(Nat.eq_of_beq_eq_true h2).symm, g5_ok⟩
    · rw [h1] at h
      cases h
      refine stgs_ok (fun c hc => ?_)
      have hc : c = G2 ∨ c = G4 ∨ c = G6 := by simpa using hc
      rcases hc with rfl | rfl | rfl
      · exact ⟨(Nat.eq_of_beq_eq_true h1).symm, g2_ok⟩
      · exact ⟨(Nat.eq_of_beq_eq_true h1).symm, g4_ok⟩
      · exact ⟨(Nat.eq_of_beq_eq_true h1).symm, g6_ok⟩
  · rw [h0] at h
    cases h
    refine stgs_ok (fun c hc => ?_)
    have hc : c = G1 := by simpa using hc
    rcases hc with rfl
    · exact ⟨(Nat.eq_of_beq_eq_true h0).symm, g1_ok⟩
def G0 : Stg := ⟨9, 0, [], [], .ret (.bool true), 0, []⟩
theorem g0_e : xF Tryz.prog spcF 100000 60 G0.f G0.ars (AH.of G0.n0 G0.L0) G0.at = True := by kernel_rfl
theorem g0_ok : G0.con.OK Tryz.prog := Stg.con_ok (xF_ok mixed spcF_ok 100000 60 _ _ _ _ (by rw [g0_e]; trivial))
end
end Go.Proofs.YtilmgiompalggaaGreatDoor.W
