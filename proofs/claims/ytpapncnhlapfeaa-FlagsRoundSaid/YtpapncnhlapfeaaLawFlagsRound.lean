/- FlagsRound: what is turned round by some places, and by the others, is as it was; what was moved down with its sign has that sign; for any number of 32 bits and any number of places. -/
import Derived.Test.YtpapncnhlapfeaaRows
import Derived.Test.YtpapncnhlapfeaaRoundVals
import Derived.WalkKit
import Derived.ProofKit
import Derived.OpenShut
import Derived.ShutString
import Derived.ChangeOld
import Derived.Below
import Derived.SizedLaws
namespace Go.Proofs.Ytpapncnhlapfeaa.FlagsRoundW
open Go Go.RowKit Go.Proofs.Ytpapncnhlapfeaa.FlagBits Go.Proofs.Ytpapncnhlapfeaa.Arith Go.Proofs.YtpapncnhlapfeaaW.PrintWords Go.Proofs.YtpapncnhlapfeaaW.PrintLast Go.Proofs.YtpapncnhlapfeaaW.PrintMore Go.Proofs.Ytpapncnhlapfeaa.PFlagsRound Go.Proofs.Ytpapncnhlapfeaa.Moves Go.Proofs.Ytpapncnhlapfeaa.RoundVals

set_option maxHeartbeats 1000000 in
set_option maxRecDepth 100000 in
theorem walk (a n : Int) (w : World) (ha : (Lit.int .u32 a).wf = true) (hn : (Lit.int .u32 n).wf = true) :
    Calls Try.prog 13 #[.int .u32 a, .int .u32 n] w fun e w' => e = .returned (.bool true) ∧ Below w.heap.size w w' := by
  obtain ⟨ha0, ha⟩ := u32_bd ha
  obtain ⟨hn0, hn⟩ := u32_bd hn
  obtain ⟨x, rfl⟩ := Int.eq_ofNat_of_zero_le ha0
  have x' : x < 4294967296 := by omega
  have R1 := fun w => call_round x (n % 32) w (by omega) (by omega) (by omega)
  have b := roundV_bd x (n % 32) (by omega) (by omega)
  have R2 := fun w => call_round (roundV x (n % 32)) (32 - n % 32) w b.1 b.2 (by omega)
  rw [round_back x n x' hn0] at R2
  have S := fun w => call_signed x (n % 32) w (by omega) (by omega) (by omega)
  have Z := zero_holds x (n % 32) x' (by omega)
  have G := signed_sign x (n % 32) x' (by omega)
  generalize roundV x (n % 32) = a1 at *
  generalize roundF x (n % 32) = f1 at *
  generalize roundF a1 (32 - n % 32) = f3 at *
  generalize signedV x (n % 32) = a2 at *
  generalize signedF x (n % 32) = f2 at *
  have R1 := Aside0.mk R1
  have R2 := Aside0.mk R2
  have S := Aside0.mk S
  have Z := Aside0.mk Z
  have kd0 : Aside0 (Below w.heap.size w w) := .mk (Below.refl _ _)
  go_enter Try.func13, Try.ntmps13
  go_wp2_with (first | (go_at_call 37; (with_reducible refine (R1.out _).mono ?_); rintro e w1 ⟨rfl, hb1⟩; have kd1 := Aside0.mk (below_step (by repeat (first | (with_reducible first | exact kd0.out | apply below_alloc | apply pw_below_drewN | apply below_drew1) | exact kd0.out)) hb1); clear hb1) | (go_at_call 37; (with_reducible refine (R2.out _).mono ?_); rintro e w2 ⟨rfl, hb2⟩; have kd2 := Aside0.mk (below_step (by repeat (first | (with_reducible first | exact kd1.out | apply below_alloc | apply pw_below_drewN | apply below_drew1) | exact kd1.out)) hb2); clear hb2) | (go_at_call 38; (with_reducible refine (S.out _).mono ?_); rintro e w3 ⟨rfl, hb3⟩; have kd3 := Aside0.mk (below_step (by repeat (first | (with_reducible first | exact kd2.out | apply below_alloc | apply pw_below_drewN | apply below_drew1) | exact kd2.out)) hb3); clear hb3) | (go_at_call 16; (with_reducible refine (flags_Holds.calls 3 1 f2 _ _ Z.out).mono ?_); rintro e w' ⟨rfl, ⟨nd, rfl⟩⟩) | (go_at_call 16; (with_reducible refine (flags_Holds.calls 3 0 x true _ (holds0 _ _)).mono ?_); rintro e w' ⟨rfl, ⟨nd, rfl⟩⟩))
  go_ret
  exact ⟨by first | rfl | (simp; done) | (simp [*]; done), by repeat (first | exact kd3.out | exact kd2.out | exact kd1.out | exact kd0.out | apply below_alloc | apply pw_below_drewN | apply below_drew1)⟩
end Go.Proofs.Ytpapncnhlapfeaa.FlagsRoundW

namespace Go.Proofs.Ytpapncnhlapfeaa.flagsRound
open Go.ChangeShapes Go.WideShapes Go.ChangeAt Go.RowKit
set_option linter.unusedVariables false
theorem own : ownKnob Try.prog.godebug = none := by kernel_rfl
set_option maxRecDepth 100000 in
theorem lifted (os : Os) (started : os.Started) (H : Type) (enc : TypeId × Value → H) :
    ReturnsInHanded {} Try.checked os 13 .any (Rows.flagsRoundSpec.pre6 enc Try.prog Try.f13 Rows.flagsRoundRow.domain false) (Rows.flagsRoundSpec.post enc Try.prog Try.f13 false true false false) := by
  refine returnsInHanded_of_change_sized (C := Try.checked) own started (by kernel_rfl) Try.func13
    (ChangeSpec.witness6 (enc := enc) (C := Try.checked) false ⟨#[], #[.int .u32 0, .int .u32 0], []⟩ 8 (by kernel_rfl) (by kernel_rfl) (by kernel_rfl) (by kernel_rfl)) ?_
  intro W base args ds gs before hval0 hW hcnd hsz0 _
  have hval : ∀ (j : Nat) t v, Try.f13.params[j]? = some t → args[j]? = some v → Value.okWide Try.prog W .any base t v := hval0
  have hW' := hW
  obtain ⟨p, q, hA0, hV, rfl, hfz, hnd⟩ := hW
  have hA : DataW.TrodAll enc Try.prog W 0 (fun _ => true) true Try.f13.params.toList args.toList ds p := hA0
  rw [Try.params13] at hA hval
  obtain ⟨v0, vs0, d0, ds0, p0, q0, hargs, rfl, rfl, h0, r0⟩ := trodAll_cons hA
  obtain ⟨v1, vs1, d1, ds1, p1, q1, rfl, rfl, rfl, h1, r1⟩ := trodAll_cons r0
  obtain ⟨rfl, rfl, rfl⟩ := trodAll_nil r1
  obtain rfl : args = #[v0, v1] := by cases args; simp_all
  obtain ⟨rfl, rfl⟩ := trodVars_none hV
  obtain ⟨a0, rfl, rfl, rfl, w0⟩ := open_int Try.underlying22 (hval 0 22 v0 rfl rfl) h0
  obtain ⟨a1, rfl, rfl, rfl, w1⟩ := open_int Try.underlying22 (hval 1 22 v1 rfl rfl) h1
  clear hA0 hval0 hsz0
  refine (FlagsRoundW.walk a0 a1 W w0 w1).mono fun e W' ⟨he, bel⟩ => ?_
  subst he
  exact ⟨_, rfl, _, _, _, [], _, [], hW', trodAll_mk1 (shut_bool Try.underlying4 _), (trodAll_cons_mk (shut_int Try.underlying22 w0) (trodAll_cons_mk (shut_int Try.underlying22 w1) trodAll_mk0)), rfl, bel.frame _, fun h => by cases h⟩
theorem proved : Rows.FlagsRoundSaid :=
  OpenClaim.holds_of_wide 13 Try.f13 rfl rfl rfl rfl rfl rfl rfl ⟨rfl, rfl, rfl, rfl, rfl⟩ rfl rfl rfl rfl rfl (by kernel_rfl) Try.func13 (by kernel_rfl)
    (of_decide_eq_true (by kernel_rfl)) (by unfold Func.isWrapper; first | (rw [if_pos (by decide +kernel)]; kernel_rfl) | (rw [if_neg (by decide +kernel)]; exact ⟨rfl, rfl⟩))
    (fun os started H enc _ => lifted os started H enc)
#print axioms proved
end Go.Proofs.Ytpapncnhlapfeaa.flagsRound
namespace Go.Proofs.Ytpapncnhlapfeaa
theorem flagsRound_holds : Rows.FlagsRoundSaid := flagsRound.proved
end Go.Proofs.Ytpapncnhlapfeaa
