/- works() of mummerlaw26 answers true. -/
import Derived.Test.YtieikjgfndojpaaGreatFX2
namespace Go.Proofs.YtieikjgfndojpaaGreat.W
open Go Go.RowKit Go.Eng Go.Proofs
set_option maxRecDepth 1000000
noncomputable section
def spc1 : FuncId → Option FB := fun f => bif Nat.beq f 46 then some (stgB new_a new_h0 new1_o new1_h) else spc0 f
theorem spc1_ok : SpcOK Tryz.prog spc1 := by
  intro f b h
  unfold spc1 at h
  rcases h1 : Nat.beq f 46 with _ | _
  · rw [h1] at h
    exact spc0_ok f b h
  · rw [h1] at h
    cases h
    rw [Nat.eq_of_beq_eq_true h1]
    exact stgB_ok new_ok
theorem works_e : xF Tryz.prog spc1 100000 60 19 [] ⟨0, .e⟩ (fun out _ => chk (AOut.eqB out (.ret (.bool true))) True) = True := by kernel_rfl
theorem works_ok : RunsK Tryz.prog 19 [] ⟨0, .e⟩ (fun out _ => out = .ret (.bool true)) :=
  RunsK.mono (xF_ok mixed spc1_ok 100000 60 _ _ _ _ (by rw [works_e]; trivial)) (fun out _ h => AOut.eqB_ok _ _ (chk_of h).1)
end
end Go.Proofs.YtieikjgfndojpaaGreat.W
