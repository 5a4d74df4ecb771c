/- FlagsBack: what was added is taken away again, and there was a carry just if there is a borrow; for any two numbers of 32 bits. -/
import Derived.Test.YtpapncnhlapfeaaRows
import Derived.Test.YtpapncnhlapfeaaBackAdd
import Derived.Test.YtpapncnhlapfeaaBackSub
import Derived.WalkKit
import Derived.ProofKit
import Derived.OpenShut
import Derived.ShutString
import Derived.ChangeOld
import Derived.Below
import Derived.SizedLaws
namespace Go.Proofs.Ytpapncnhlapfeaa.FlagsBackW
open Go Go.RowKit Go.Proofs.Ytpapncnhlapfeaa.FlagBits Go.Proofs.Ytpapncnhlapfeaa.Arith Go.Proofs.YtpapncnhlapfeaaW.PrintWords Go.Proofs.YtpapncnhlapfeaaW.PrintLast Go.Proofs.YtpapncnhlapfeaaW.PrintMore 

set_option maxHeartbeats 1000000 in
set_option maxRecDepth 100000 in
theorem walk (a b : Int) (w : World) (ha : (Lit.int .u32 a).wf = true) (hb : (Lit.int .u32 b).wf = true) :
    Calls Try.prog 11 #[.int .u32 a, .int .u32 b] w fun e w' => e = .returned (.bool true) ∧ Below w.heap.size w w' := by
  obtain ⟨ha0, ha⟩ := u32_bd ha
  obtain ⟨hb0, hb⟩ := u32_bd hb
  have e1 : ((a + b) % 4294967296 - b) % 4294967296 = a := by omega
  have e2 : decide ((a + b) % 4294967296 < b) = decide (a + b ≥ 4294967296) := decide_eq_decide.mpr (by omega)
  have e3 : decide ((a + b) % 4294967296 < a) = decide (a + b ≥ 4294967296) := decide_eq_decide.mpr (by omega)
  have A := BackAdd.add_is 0 a b ha0 ha hb0 hb
  have S1 := BackSub.sub_is 0 ((a + b) % 4294967296) b (by omega) (by omega) hb0 hb
  have S2 := BackSub.sub_is 0 ((a + b) % 4294967296) a (by omega) (by omega) ha0 ha
  rw [e1, e2] at S1
  rw [e3] at S2
  have H1 := BackAdd.holds5 0 ((a + b) % 4294967296) (decide (a + b ≥ 4294967296)) (wrap64 (BackAdd.sg a + BackAdd.sg b) != BackAdd.sg ((a + b) % 4294967296))
  have H2 := BackAdd.holds5 0 a (decide (a + b ≥ 4294967296)) (wrap64 (BackSub.sg ((a + b) % 4294967296) - BackSub.sg b) != BackSub.sg a)
  have H3 := BackAdd.holds5 0 (((a + b) % 4294967296 - a) % 4294967296) (decide (a + b ≥ 4294967296)) (wrap64 (BackSub.sg ((a + b) % 4294967296) - BackSub.sg a) != BackSub.sg (((a + b) % 4294967296 - a) % 4294967296))
  generalize fl ((a + b) % 4294967296) (decide (a + b ≥ 4294967296)) (wrap64 (BackAdd.sg a + BackAdd.sg b) != BackAdd.sg ((a + b) % 4294967296)) = f1 at *
  generalize fl a (decide (a + b ≥ 4294967296)) (wrap64 (BackSub.sg ((a + b) % 4294967296) - BackSub.sg b) != BackSub.sg a) = f2 at *
  generalize fl (((a + b) % 4294967296 - a) % 4294967296) (decide (a + b ≥ 4294967296)) (wrap64 (BackSub.sg ((a + b) % 4294967296) - BackSub.sg a) != BackSub.sg (((a + b) % 4294967296 - a) % 4294967296)) = f3 at *
  generalize decide (a + b ≥ 4294967296) = c at *
  generalize ((a + b) % 4294967296 - a) % 4294967296 = d at *
  clear e1 e2 e3
  generalize (a + b) % 4294967296 = s at *
  have A := Aside0.mk A
  have S1 := Aside0.mk S1
  have S2 := Aside0.mk S2
  have H1 := Aside0.mk H1
  have H2 := Aside0.mk H2
  have H3 := Aside0.mk H3
  have kd0 : Aside0 (Below w.heap.size w w) := .mk (Below.refl _ _)
  go_enter Try.func11, Try.ntmps11
  go_wp2_with (first | (go_at_call 22; (with_reducible refine (PFlagsParts.flags_Add.calls 5 a b s f1 _ A.out).mono ?_); rintro e w1 ⟨rfl, hb1⟩; have kd1 := Aside0.mk (below_step (by repeat (first | (with_reducible first | exact kd0.out | apply below_alloc | apply pw_below_drewN | apply below_drew1) | exact kd0.out)) hb1); clear hb1) | (go_at_call 23; (with_reducible refine (PFlagsOrder.flags_Sub.calls 5 s b a f2 _ S1.out).mono ?_); rintro e w2 ⟨rfl, hb2⟩; have kd2 := Aside0.mk (below_step (by repeat (first | (with_reducible first | exact kd1.out | apply below_alloc | apply pw_below_drewN | apply below_drew1) | exact kd1.out)) hb2); clear hb2) | (go_at_call 23; (with_reducible refine (PFlagsOrder.flags_Sub.calls 5 s a d f3 _ S2.out).mono ?_); rintro e w3 ⟨rfl, hb3⟩; have kd3 := Aside0.mk (below_step (by repeat (first | (with_reducible first | exact kd2.out | apply below_alloc | apply pw_below_drewN | apply below_drew1) | exact kd2.out)) hb3); clear hb3) | (go_at_call 16; (with_reducible refine (PFlagsParts.flags_Holds.calls 3 5 f1 c _ H1.out).mono ?_); rintro e w' ⟨rfl, ⟨nd, rfl⟩⟩) | (go_at_call 16; (with_reducible refine (PFlagsParts.flags_Holds.calls 3 5 f2 c _ H2.out).mono ?_); rintro e w' ⟨rfl, ⟨nd, rfl⟩⟩) | (go_at_call 16; (with_reducible refine (PFlagsParts.flags_Holds.calls 3 5 f3 c _ H3.out).mono ?_); rintro e w' ⟨rfl, ⟨nd, rfl⟩⟩) | (go_at_call 16; (with_reducible refine (PFlagsParts.flags_Holds.calls 3 0 f1 true _ (BackAdd.holds0 _ _)).mono ?_); rintro e w' ⟨rfl, ⟨nd, rfl⟩⟩))
  go_ret
  exact ⟨by first | rfl | (simp; done) | (simp [*]; done), by repeat (first | exact kd3.out | exact kd2.out | exact kd1.out | exact kd0.out | apply below_alloc | apply pw_below_drewN | apply below_drew1)⟩
end Go.Proofs.Ytpapncnhlapfeaa.FlagsBackW

namespace Go.Proofs.Ytpapncnhlapfeaa.flagsBack
open Go.ChangeShapes Go.WideShapes Go.ChangeAt Go.RowKit
set_option linter.unusedVariables false
theorem own : ownKnob Try.prog.godebug = none := by kernel_rfl
set_option maxRecDepth 100000 in
theorem lifted (os : Os) (started : os.Started) (H : Type) (enc : TypeId × Value → H) :
    ReturnsInHanded {} Try.checked os 11 .any (Rows.flagsBackSpec.pre6 enc Try.prog Try.f11 Rows.flagsBackRow.domain false) (Rows.flagsBackSpec.post enc Try.prog Try.f11 false true false false) := by
  refine returnsInHanded_of_change_sized (C := Try.checked) own started (by kernel_rfl) Try.func11
    (ChangeSpec.witness6 (enc := enc) (C := Try.checked) false ⟨#[], #[.int .u32 0, .int .u32 0], []⟩ 8 (by kernel_rfl) (by kernel_rfl) (by kernel_rfl) (by kernel_rfl)) ?_
  intro W base args ds gs before hval0 hW hcnd hsz0 _
  have hval : ∀ (j : Nat) t v, Try.f11.params[j]? = some t → args[j]? = some v → Value.okWide Try.prog W .any base t v := hval0
  have hW' := hW
  obtain ⟨p, q, hA0, hV, rfl, hfz, hnd⟩ := hW
  have hA : DataW.TrodAll enc Try.prog W 0 (fun _ => true) true Try.f11.params.toList args.toList ds p := hA0
  rw [Try.params11] at hA hval
  obtain ⟨v0, vs0, d0, ds0, p0, q0, hargs, rfl, rfl, h0, r0⟩ := trodAll_cons hA
  obtain ⟨v1, vs1, d1, ds1, p1, q1, rfl, rfl, rfl, h1, r1⟩ := trodAll_cons r0
  obtain ⟨rfl, rfl, rfl⟩ := trodAll_nil r1
  obtain rfl : args = #[v0, v1] := by cases args; simp_all
  obtain ⟨rfl, rfl⟩ := trodVars_none hV
  obtain ⟨a0, rfl, rfl, rfl, w0⟩ := open_int Try.underlying22 (hval 0 22 v0 rfl rfl) h0
  obtain ⟨a1, rfl, rfl, rfl, w1⟩ := open_int Try.underlying22 (hval 1 22 v1 rfl rfl) h1
  clear hA0 hval0 hsz0
  refine (FlagsBackW.walk a0 a1 W w0 w1).mono fun e W' ⟨he, bel⟩ => ?_
  subst he
  exact ⟨_, rfl, _, _, _, [], _, [], hW', trodAll_mk1 (shut_bool Try.underlying4 _), (trodAll_cons_mk (shut_int Try.underlying22 w0) (trodAll_cons_mk (shut_int Try.underlying22 w1) trodAll_mk0)), rfl, bel.frame _, fun h => by cases h⟩
theorem proved : Rows.FlagsBackSaid :=
  OpenClaim.holds_of_wide 11 Try.f11 rfl rfl rfl rfl rfl rfl rfl ⟨rfl, rfl, rfl, rfl, rfl⟩ rfl rfl rfl rfl rfl (by kernel_rfl) Try.func11 (by kernel_rfl)
    (of_decide_eq_true (by kernel_rfl)) (by unfold Func.isWrapper; first | (rw [if_pos (by decide +kernel)]; kernel_rfl) | (rw [if_neg (by decide +kernel)]; exact ⟨rfl, rfl⟩))
    (fun os started H enc _ => lifted os started H enc)
#print axioms proved
end Go.Proofs.Ytpapncnhlapfeaa.flagsBack
namespace Go.Proofs.Ytpapncnhlapfeaa
theorem flagsBack_holds : Rows.FlagsBackSaid := flagsBack.proved
end Go.Proofs.Ytpapncnhlapfeaa
