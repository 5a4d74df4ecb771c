/- FlagsParts: a number's lower and upper bits, moved apart and back, are the number; for any number of 32 bits and any number of places. -/
import Derived.Test.YtpapncnhlapfeaaRows
import Derived.Test.YtpapncnhlapfeaaPartsVals
import Derived.WalkKit
import Derived.ProofKit
import Derived.OpenShut
import Derived.ShutString
import Derived.ChangeOld
import Derived.Below
import Derived.SizedLaws
namespace Go.Proofs.Ytpapncnhlapfeaa.FlagsPartsW
open Go Go.RowKit Go.Proofs.Ytpapncnhlapfeaa.FlagBits Go.Proofs.Ytpapncnhlapfeaa.Arith Go.Proofs.YtpapncnhlapfeaaW.PrintWords Go.Proofs.YtpapncnhlapfeaaW.PrintLast Go.Proofs.YtpapncnhlapfeaaW.PrintMore Go.Proofs.Ytpapncnhlapfeaa.PFlagsParts Go.Proofs.Ytpapncnhlapfeaa.Moves Go.Proofs.Ytpapncnhlapfeaa.PartsVals

set_option maxHeartbeats 1000000 in
set_option maxRecDepth 100000 in
theorem walk (a n : Int) (w : World) (ha : (Lit.int .u32 a).wf = true) (hn : (Lit.int .u32 n).wf = true) :
    Calls Try.prog 14 #[.int .u32 a, .int .u32 n] w fun e w' => e = .returned (.bool true) ∧ Below w.heap.size w w' := by
  obtain ⟨ha0, ha⟩ := u32_bd ha
  obtain ⟨hn0, hn⟩ := u32_bd hn
  obtain ⟨x, rfl⟩ := Int.eq_ofNat_of_zero_le ha0
  have x' : x < 4294967296 := by omega
  have kd0 : Aside0 (Below w.heap.size w w) := .mk (Below.refl _ _)
  by_cases hz : 0 < n % 32
  · obtain ⟨u, b, l, s, e1, e2, e3, e4, lu, lb, ll, ls, ho, hs⟩ := apart x n x' hz
    have D1 := fun w => call_down x (n % 32) w (by omega) (by omega) (by omega)
    have U1 := fun w => call_up u (n % 32) w (by omega) (by omega) (by omega)
    have U2 := fun w => call_up x (32 - n % 32) w (by omega) (by omega) (by omega)
    have D2 := fun w => call_down l (32 - n % 32) w (by omega) (by omega) (by omega)
    obtain ⟨fo, hO⟩ := or_some b s lb ls
    obtain ⟨fa, hA⟩ := add_some b s
    have es : ((b : Int) + (s : Int)) % 4294967296 = (x : Int) := by omega
    rw [ho] at hO
    rw [es] at hA
    rw [e1] at D1
    rw [e2] at U1
    rw [e3] at U2
    rw [e4] at D2
    clear e1 e2 e3 e4 ho hs es lu lb ll ls x'
    generalize ((u : Nat) : Int) = u at *
    generalize ((b : Nat) : Int) = b at *
    generalize ((l : Nat) : Int) = l at *
    generalize ((s : Nat) : Int) = s at *
    have D1 := Aside0.mk D1
    have D2 := Aside0.mk D2
    have U1 := Aside0.mk U1
    have U2 := Aside0.mk U2
    have O := Aside0.mk hO
    have A := Aside0.mk hA
    clear hO hA
    go_enter Try.func14, Try.ntmps14
    go_wp2_with (first | (go_at_call 27; (with_reducible refine (D1.out _).mono ?_); rintro e w1 ⟨rfl, hb1⟩; have kd1 := Aside0.mk (below_step (by repeat (first | (with_reducible first | exact kd0.out | apply below_alloc | apply pw_below_drewN | apply below_drew1) | exact kd0.out)) hb1); clear hb1) | (go_at_call 26; (with_reducible refine (U1.out _).mono ?_); rintro e w2 ⟨rfl, hb2⟩; have kd2 := Aside0.mk (below_step (by repeat (first | (with_reducible first | exact kd1.out | apply below_alloc | apply pw_below_drewN | apply below_drew1) | exact kd1.out)) hb2); clear hb2) | (go_at_call 26; (with_reducible refine (U2.out _).mono ?_); rintro e w3 ⟨rfl, hb3⟩; have kd3 := Aside0.mk (below_step (by repeat (first | (with_reducible first | exact kd2.out | apply below_alloc | apply pw_below_drewN | apply below_drew1) | exact kd2.out)) hb3); clear hb3) | (go_at_call 27; (with_reducible refine (D2.out _).mono ?_); rintro e w4 ⟨rfl, hb4⟩; have kd4 := Aside0.mk (below_step (by repeat (first | (with_reducible first | exact kd3.out | apply below_alloc | apply pw_below_drewN | apply below_drew1) | exact kd3.out)) hb4); clear hb4) | (go_at_call 19; (with_reducible refine (flags_Or.calls 3 _ _ _ _ _ O.out).mono ?_); rintro e w' ⟨rfl, ⟨nd, rfl⟩⟩) | (go_at_call 22; (with_reducible refine (flags_Add.calls 5 _ _ _ _ _ A.out).mono ?_); rintro e w5 ⟨rfl, hb5⟩; have kd5 := Aside0.mk (below_step (by repeat (first | (with_reducible first | exact kd4.out | apply below_alloc | apply pw_below_drewN | apply below_drew1) | exact kd4.out)) hb5); clear hb5) | (go_at_call 16; (with_reducible refine (flags_Holds.calls 3 0 x true _ (holds0 _ _)).mono ?_); rintro e w' ⟨rfl, ⟨nd, rfl⟩⟩))
    go_ret
    exact ⟨by first | rfl | (simp; done) | (simp [*]; done), by repeat (first | exact kd5.out | exact kd4.out | exact kd3.out | exact kd2.out | exact kd1.out | exact kd0.out | apply below_alloc | apply pw_below_drewN | apply below_drew1)⟩
  · have hz0 : n % 32 = 0 := by omega
    have t : decide (0 < n % 32) = false := decide_eq_false hz
    have S := same x n hz0
    have D1 := fun w => call_down x (n % 32) w (by omega) (by omega) (by omega)
    have U1 := fun w => call_up x (n % 32) w (by omega) (by omega) (by omega)
    rw [S.1] at D1
    rw [S.2] at U1
    obtain ⟨fo, hO⟩ := or_some x 0 x' (by omega)
    obtain ⟨fn, hN⟩ := and_zero x x'
    obtain ⟨fa, hA⟩ := add_some x 0
    have es : ((x : Int) + 0) % 4294967296 = (x : Int) := by omega
    rw [Nat.or_zero] at hO
    rw [es] at hA
    have zz : ((0 : Nat) : Int) = 0 := rfl
    rw [zz] at hO
    have D1 := Aside0.mk D1
    have U1 := Aside0.mk U1
    have O := Aside0.mk hO
    have A := Aside0.mk hA
    have B := Aside0.mk hN
    clear hO hA hN S es zz hz0 hz
    generalize ((x : Nat) : Int) = y at *
    go_enter Try.func14, Try.ntmps14
    go_wp2_with (first | (go_at_call 27; (with_reducible refine (D1.out _).mono ?_); rintro e w1 ⟨rfl, hb1⟩; have kd1 := Aside0.mk (below_step (by repeat (first | (with_reducible first | exact kd0.out | apply below_alloc | apply pw_below_drewN | apply below_drew1) | exact kd0.out)) hb1); clear hb1) | (go_at_call 26; (with_reducible refine (U1.out _).mono ?_); rintro e w2 ⟨rfl, hb2⟩; have kd2 := Aside0.mk (below_step (by repeat (first | (with_reducible first | exact kd1.out | apply below_alloc | apply pw_below_drewN | apply below_drew1) | exact kd1.out)) hb2); clear hb2) | (go_at_call 18; (with_reducible refine (flags_And.calls 3 _ _ _ _ _ B.out).mono ?_); rintro e w' ⟨rfl, ⟨nd, rfl⟩⟩) | (go_at_call 19; (with_reducible refine (flags_Or.calls 3 _ _ _ _ _ O.out).mono ?_); rintro e w' ⟨rfl, ⟨nd, rfl⟩⟩) | (go_at_call 22; (with_reducible refine (flags_Add.calls 5 _ _ _ _ _ A.out).mono ?_); rintro e w3 ⟨rfl, hb3⟩; have kd3 := Aside0.mk (below_step (by repeat (first | (with_reducible first | exact kd2.out | apply below_alloc | apply pw_below_drewN | apply below_drew1) | exact kd2.out)) hb3); clear hb3) | (go_at_call 16; (with_reducible refine (flags_Holds.calls 3 0 _ true _ (holds0 _ _)).mono ?_); rintro e w' ⟨rfl, ⟨nd, rfl⟩⟩))
    go_ret
    exact ⟨by first | rfl | (simp; done) | (simp [*]; done), by repeat (first | exact kd3.out | exact kd2.out | exact kd1.out | exact kd0.out | apply below_alloc | apply pw_below_drewN | apply below_drew1)⟩
end Go.Proofs.Ytpapncnhlapfeaa.FlagsPartsW

namespace Go.Proofs.Ytpapncnhlapfeaa.flagsParts
open Go.ChangeShapes Go.WideShapes Go.ChangeAt Go.RowKit
set_option linter.unusedVariables false
theorem own : ownKnob Try.prog.godebug = none := by kernel_rfl
set_option maxRecDepth 100000 in
theorem lifted (os : Os) (started : os.Started) (H : Type) (enc : TypeId × Value → H) :
    ReturnsInHanded {} Try.checked os 14 .any (Rows.flagsPartsSpec.pre6 enc Try.prog Try.f14 Rows.flagsPartsRow.domain false) (Rows.flagsPartsSpec.post enc Try.prog Try.f14 false true false false) := by
  refine returnsInHanded_of_change_sized (C := Try.checked) own started (by kernel_rfl) Try.func14
    (ChangeSpec.witness6 (enc := enc) (C := Try.checked) false ⟨#[], #[.int .u32 0, .int .u32 0], []⟩ 8 (by kernel_rfl) (by kernel_rfl) (by kernel_rfl) (by kernel_rfl)) ?_
  intro W base args ds gs before hval0 hW hcnd hsz0 _
  have hval : ∀ (j : Nat) t v, Try.f14.params[j]? = some t → args[j]? = some v → Value.okWide Try.prog W .any base t v := hval0
  have hW' := hW
  obtain ⟨p, q, hA0, hV, rfl, hfz, hnd⟩ := hW
  have hA : DataW.TrodAll enc Try.prog W 0 (fun _ => true) true Try.f14.params.toList args.toList ds p := hA0
  rw [Try.params14] at hA hval
  obtain ⟨v0, vs0, d0, ds0, p0, q0, hargs, rfl, rfl, h0, r0⟩ := trodAll_cons hA
  obtain ⟨v1, vs1, d1, ds1, p1, q1, rfl, rfl, rfl, h1, r1⟩ := trodAll_cons r0
  obtain ⟨rfl, rfl, rfl⟩ := trodAll_nil r1
  obtain rfl : args = #[v0, v1] := by cases args; simp_all
  obtain ⟨rfl, rfl⟩ := trodVars_none hV
  obtain ⟨a0, rfl, rfl, rfl, w0⟩ := open_int Try.underlying22 (hval 0 22 v0 rfl rfl) h0
  obtain ⟨a1, rfl, rfl, rfl, w1⟩ := open_int Try.underlying22 (hval 1 22 v1 rfl rfl) h1
  clear hA0 hval0 hsz0
  refine (FlagsPartsW.walk a0 a1 W w0 w1).mono fun e W' ⟨he, bel⟩ => ?_
  subst he
  exact ⟨_, rfl, _, _, _, [], _, [], hW', trodAll_mk1 (shut_bool Try.underlying4 _), (trodAll_cons_mk (shut_int Try.underlying22 w0) (trodAll_cons_mk (shut_int Try.underlying22 w1) trodAll_mk0)), rfl, bel.frame _, fun h => by cases h⟩
theorem proved : Rows.FlagsPartsSaid :=
  OpenClaim.holds_of_wide 14 Try.f14 rfl rfl rfl rfl rfl rfl rfl ⟨rfl, rfl, rfl, rfl, rfl⟩ rfl rfl rfl rfl rfl (by kernel_rfl) Try.func14 (by kernel_rfl)
    (of_decide_eq_true (by kernel_rfl)) (by unfold Func.isWrapper; first | (rw [if_pos (by decide +kernel)]; kernel_rfl) | (rw [if_neg (by decide +kernel)]; exact ⟨rfl, rfl⟩))
    (fun os started H enc _ => lifted os started H enc)
#print axioms proved
end Go.Proofs.Ytpapncnhlapfeaa.flagsParts
namespace Go.Proofs.Ytpapncnhlapfeaa
theorem flagsParts_holds : Rows.FlagsPartsSaid := flagsParts.proved
end Go.Proofs.Ytpapncnhlapfeaa
