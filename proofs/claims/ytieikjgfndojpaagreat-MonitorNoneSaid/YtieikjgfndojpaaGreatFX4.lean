/- MonitorNone: monitors that are not there, and such as no call made, do and answer nothing; for every state, place and bytes. No condition. -/
import Derived.Test.YtieikjgfndojpaaGreatFX3
namespace Go.Proofs.YtieikjgfndojpaaGreat.W
open Go Go.RowKit Go.Eng Go.Proofs
set_option maxRecDepth 1000000
noncomputable section
def spc2 : FuncId → Option FB := fun f => bif Nat.beq f 19 then some (constB true) else spc0 f
theorem spc2_ok : SpcOK Tryz.prog spc2 := by
  intro f b h
  unfold spc2 at h
  rcases h1 : Nat.beq f 19 with _ | _
  · rw [h1] at h
    exact spc0_ok f b h
  · rw [h1] at h
    cases h
    rw [Nat.eq_of_beq_eq_true h1]
    exact constB_ok works_ok
def st_a (n0 n1 n2 n3 n4 n5 n6 n7 n8 n9 n10 n11 n12 n13 n14 n15 n16 n17 n18 : Int) (h : Bool) : List AV := [.agg [.int .u32 n0, .int .u32 n1, .int .u32 n2, .int .u32 n3, .int .u32 n4, .int .u32 n5, .int .u32 n6, .int .u32 n7, .int .u32 n8, .int .u32 n9, .int .u32 n10, .int .u32 n11, .int .u32 n12, .int .u32 n13, .int .u32 n14, .int .u32 n15, .int .u32 n16, .int .u32 n17, .bool h], .int .u32 n18, .any]
theorem none_e (n0 n1 n2 n3 n4 n5 n6 n7 n8 n9 n10 n11 n12 n13 n14 n15 n16 n17 n18 : Int) (h : Bool) : xF Tryz.prog spc2 100000 60 3 (st_a n0 n1 n2 n3 n4 n5 n6 n7 n8 n9 n10 n11 n12 n13 n14 n15 n16 n17 n18 h) ⟨0, .e⟩ (fun out _ => chk (AOut.eqB out (.ret (.bool true))) True) = True := by kernel_rfl
theorem none_ok (n0 n1 n2 n3 n4 n5 n6 n7 n8 n9 n10 n11 n12 n13 n14 n15 n16 n17 n18 : Int) (h : Bool) : RunsK Tryz.prog 3 (st_a n0 n1 n2 n3 n4 n5 n6 n7 n8 n9 n10 n11 n12 n13 n14 n15 n16 n17 n18 h) ⟨0, .e⟩ (fun out _ => out = .ret (.bool true)) :=
  RunsK.mono (xF_ok mixed spc2_ok 100000 60 _ _ _ _ (by rw [none_e]; trivial)) (fun out _ h => AOut.eqB_ok _ _ (chk_of h).1)
end
end Go.Proofs.YtieikjgfndojpaaGreat.W
