/- FlagsShifts: any number of 32 bits is moved up and down by any number of places as the reference says, with its flags. -/
import Derived.Test.YtpapncnhlapfeaaRows
import Derived.Test.YtpapncnhlapfeaaShiftRef
import Derived.WalkKit
import Derived.ProofKit
import Derived.OpenShut
import Derived.ShutString
import Derived.ChangeOld
import Derived.Below
import Derived.SizedLaws
namespace Go.Proofs.Ytpapncnhlapfeaa.FlagsShiftsW
open Go Go.RowKit Go.Proofs.Ytpapncnhlapfeaa.FlagBits Go.Proofs.Ytpapncnhlapfeaa.Arith Go.Proofs.YtpapncnhlapfeaaW.PrintWords Go.Proofs.YtpapncnhlapfeaaW.PrintLast Go.Proofs.YtpapncnhlapfeaaW.PrintMore Go.Proofs.Ytpapncnhlapfeaa.PFlagsShifts Go.Proofs.Ytpapncnhlapfeaa.Moves Go.Proofs.Ytpapncnhlapfeaa.ShiftRef

set_option maxHeartbeats 1000000 in
set_option maxRecDepth 100000 in
theorem walk (a n : Int) (w : World) (ha : (Lit.int .u32 a).wf = true) (hn : (Lit.int .u32 n).wf = true) :
    Calls Try.prog 6 #[.int .u32 a, .int .u32 n] w fun e w' => e = .returned (.bool true) ∧ Below w.heap.size w w' := by
  obtain ⟨ha0, ha⟩ := u32_bd ha
  obtain ⟨hn0, hn⟩ := u32_bd hn
  obtain ⟨x, rfl⟩ := Int.eq_ofNat_of_zero_le ha0
  have x' : x < 4294967296 := by omega
  have A := Aside0.mk (ref_up x n x' hn0)
  have B := Aside0.mk (ref_down x n x' hn0)
  have U := fun w => call_up x n w (by omega) (by omega) hn0
  have D := fun w => call_down x n w (by omega) (by omega) hn0
  generalize upV x n = a1 at *
  generalize upF x n = f1 at *
  generalize downV x n = a2 at *
  generalize downF x n = f2 at *
  have U := Aside0.mk U
  have D := Aside0.mk D
  have kd : Aside0 (Below w.heap.size w w) := .mk (Below.refl _ _)
  go_enter Try.func6, Try.ntmps6
  go_wp2_with (first | (go_at_call 26; (with_reducible refine (U.out _).mono ?_); rintro e w1 ⟨rfl, hb1⟩; have kd1 := Aside0.mk (below_step kd.out hb1); clear hb1) | (go_at_call 27; (with_reducible refine (D.out _).mono ?_); rintro e w2 ⟨rfl, hb2⟩; have kd2 := Aside0.mk (below_step kd1.out hb2); clear hb2) | (go_at_call 28; (with_reducible refine (mummerref01_Shift.calls 100 true x n _ _ _ A.out).mono ?_); rintro e w' ⟨rfl, ⟨nd, rfl⟩⟩) | (go_at_call 28; (with_reducible refine (mummerref01_Shift.calls 100 false x n _ _ _ B.out).mono ?_); rintro e w' ⟨rfl, ⟨nd, rfl⟩⟩))
  go_ret
  exact ⟨by first | rfl | (simp; done), by repeat (first | exact kd2.out | exact kd1.out | apply below_alloc | apply pw_below_drewN | apply below_drew1)⟩
end Go.Proofs.Ytpapncnhlapfeaa.FlagsShiftsW

namespace Go.Proofs.Ytpapncnhlapfeaa.flagsShifts
open Go.ChangeShapes Go.WideShapes Go.ChangeAt Go.RowKit
set_option linter.unusedVariables false
theorem own : ownKnob Try.prog.godebug = none := by kernel_rfl
set_option maxRecDepth 100000 in
theorem lifted (os : Os) (started : os.Started) (H : Type) (enc : TypeId × Value → H) :
    ReturnsInHanded {} Try.checked os 6 .any (Rows.flagsShiftsSpec.pre6 enc Try.prog Try.f6 Rows.flagsShiftsRow.domain false) (Rows.flagsShiftsSpec.post enc Try.prog Try.f6 false true false false) := by
  refine returnsInHanded_of_change_sized (C := Try.checked) own started (by kernel_rfl) Try.func6
    (ChangeSpec.witness6 (enc := enc) (C := Try.checked) false ⟨#[], #[.int .u32 0, .int .u32 0], []⟩ 8 (by kernel_rfl) (by kernel_rfl) (by kernel_rfl) (by kernel_rfl)) ?_
  intro W base args ds gs before hval0 hW hcnd hsz0 _
  have hval : ∀ (j : Nat) t v, Try.f6.params[j]? = some t → args[j]? = some v → Value.okWide Try.prog W .any base t v := hval0
  have hW' := hW
  obtain ⟨p, q, hA0, hV, rfl, hfz, hnd⟩ := hW
  have hA : DataW.TrodAll enc Try.prog W 0 (fun _ => true) true Try.f6.params.toList args.toList ds p := hA0
  rw [Try.params6] at hA hval
  obtain ⟨v0, vs0, d0, ds0, p0, q0, hargs, rfl, rfl, h0, r0⟩ := trodAll_cons hA
  obtain ⟨v1, vs1, d1, ds1, p1, q1, rfl, rfl, rfl, h1, r1⟩ := trodAll_cons r0
  obtain ⟨rfl, rfl, rfl⟩ := trodAll_nil r1
  obtain rfl : args = #[v0, v1] := by cases args; simp_all
  obtain ⟨rfl, rfl⟩ := trodVars_none hV
  obtain ⟨a0, rfl, rfl, rfl, w0⟩ := open_int Try.underlying22 (hval 0 22 v0 rfl rfl) h0
  obtain ⟨a1, rfl, rfl, rfl, w1⟩ := open_int Try.underlying22 (hval 1 22 v1 rfl rfl) h1
  clear hA0 hval0 hsz0
  refine (FlagsShiftsW.walk a0 a1 W w0 w1).mono fun e W' ⟨he, bel⟩ => ?_
  subst he
  exact ⟨_, rfl, _, _, _, [], _, [], hW', trodAll_mk1 (shut_bool Try.underlying4 _), (trodAll_cons_mk (shut_int Try.underlying22 w0) (trodAll_cons_mk (shut_int Try.underlying22 w1) trodAll_mk0)), rfl, bel.frame _, fun h => by cases h⟩
theorem proved : Rows.FlagsShiftsSaid :=
  OpenClaim.holds_of_wide 6 Try.f6 rfl rfl rfl rfl rfl rfl rfl ⟨rfl, rfl, rfl, rfl, rfl⟩ rfl rfl rfl rfl rfl (by kernel_rfl) Try.func6 (by kernel_rfl)
    (of_decide_eq_true (by kernel_rfl)) (by unfold Func.isWrapper; first | (rw [if_pos (by decide +kernel)]; kernel_rfl) | (rw [if_neg (by decide +kernel)]; exact ⟨rfl, rfl⟩))
    (fun os started H enc _ => lifted os started H enc)
#print axioms proved
end Go.Proofs.Ytpapncnhlapfeaa.flagsShifts
namespace Go.Proofs.Ytpapncnhlapfeaa
theorem flagsShifts_holds : Rows.FlagsShiftsSaid := flagsShifts.proved
end Go.Proofs.Ytpapncnhlapfeaa
