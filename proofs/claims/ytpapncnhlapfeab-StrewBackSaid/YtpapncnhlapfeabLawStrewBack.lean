/- StrewBack: each guest's frame is found again from the host's; for any number of frames, place and key. -/
import Derived.Test.YtpapncnhlapfeabRows
import Derived.Test.YtpapncnhlapfeabMapFacts
import Derived.WalkKit
import Derived.ProofKit
import Derived.OpenShut
import Derived.ShutString
import Derived.ChangeOld
import Derived.Below
import Derived.SizedLaws
namespace Go.Proofs.Ytpapncnhlapfeab.StrewBackW
open Go Go.RowKit Go.Proofs.Ytpapncnhlapfeab.Order Go.Proofs.Ytpapncnhlapfeab.RefOrder Go.Proofs.YtpapncnhlapfeabW.PrintWords Go.Proofs.YtpapncnhlapfeabW.PrintLast Go.Proofs.YtpapncnhlapfeabW.PrintMore Go.Proofs.Ytpapncnhlapfeab.Perm Go.Proofs.Ytpapncnhlapfeab.PStrewOrders Go.Proofs.Ytpapncnhlapfeab.StrewMap Go.Maps Go.Proofs.Ytpapncnhlapfeab.MapFacts
theorem i64_bd {a : Int} (h : (Lit.int .i64 a).wf = true) : -9223372036854775808 ≤ a ∧ a ≤ 9223372036854775807 := by
  simp [Lit.wf, IntKind.min, IntKind.max, IntKind.bits, IntKind.signed] at h; omega
theorem u32_bd {a : Int} (h : (Lit.int .u32 a).wf = true) : 0 ≤ a ∧ a < 4294967296 := by
  simp [Lit.wf, IntKind.min, IntKind.max, IntKind.bits, IntKind.signed] at h; omega

theorem u8_bd {a : Int} (h : (Lit.int .u8 a).wf = true) : 0 ≤ a ∧ a < 256 := by
  simp [Lit.wf, IntKind.min, IntKind.max, IntKind.bits, IntKind.signed] at h; omega
set_option maxHeartbeats 1600000 in
set_option maxRecDepth 100000 in
theorem walk (fr first key : Int) (w : World) (hfr : (Lit.int .u8 fr).wf = true) (hfi : (Lit.int .u8 first).wf = true) (hk : (Lit.int .u32 key).wf = true) :
    Calls Try.prog 8 #[.int .u8 fr, .int .u8 first, .int .u32 key] w fun e w' => e = .returned (.bool true) ∧ Below w.heap.size w w' := by
  obtain ⟨hk0, hk1⟩ := u32_bd hk
  obtain ⟨a0, a1⟩ := u8_bd hfr
  obtain ⟨f0, f1⟩ := u8_bd hfi
  clear hfr hfi hk
  obtain ⟨n, hn⟩ : ∃ n : Nat, 1 + fr % 64 = n := ⟨(1 + fr % 64).toNat, by omega⟩
  have n1 : 1 ≤ n := by omega
  have n2 : n ≤ 64 := by omega
  have NW := fun w => new_any n first key w n1 n2 f0 (by omega) hk0 hk1
  have HG := Aside0.mk (good_ord n key n1)
  generalize ord n key = l at *
  have IN := Aside0.mk (mpk_in (addk l first n) n (addk_inj l first n HG.out) n (Nat.le_refl _))
  have LL : (addk l first n).length = n := by rw [addk_len]; exact HG.out.1
  have BDS := Aside0.mk (addk_bd l first n HG.out)
  generalize addk l first n = m at *
  have HL := Aside0.mk LL
  have NW := Aside0.mk NW
  have HN := Aside0.mk hn
  clear LL
  have HB := Aside0.mk (Below.refl w.heap.size w)
  go_enter Try.func8, Try.ntmps8
  go_upto_region 2 with (fail)
  clear hn
  go_wp2_with (go_at_call 22; (with_reducible refine (NW.out _).mono ?_); rintro e w1 ⟨p, rfl, hm, hb⟩; have HM := Aside0.mk hm; have HB1 := Aside0.mk hb; clear hm hb)
  obtain ⟨g, cap, b, c0, c1, cs, om, pl, _⟩ := map_cells HM.out
  rw [HL.out] at c0 cs om
  have C0 := Aside0.mk c0
  have C1 := Aside0.mk c1
  have CS := Aside0.mk cs
  have OM := Aside0.mk om
  clear c0 c1 cs om pl NW HB
  go_loop [11] (fun v11 => ∃ k : Nat, k ≤ n ∧ v11 = .int .i64 k) (fun v11 => n - (intOf v11).toNat)
  case atStart => exact ⟨0, Nat.zero_le _, rfl⟩
  case round =>
    obtain ⟨k, hk, rfl⟩ := hrel
    by_cases hlt : k < n
    · have bd := BDS.out k hlt
      have hx := Aside0.mk (CS.out k hlt)
      have hin := IN.out k hlt
      generalize rd m (k : Int) = x at *
      have A1 := Aside0.mk hin.1
      have A2 := Aside0.mk hin.2
      clear hin
      have WX := Aside0.mk (wf_i64 (a := x) (by omega) (by omega))
      obtain ⟨b1, b2⟩ := bd
      have t1 : decide (x < first) = false := decide_eq_false (by omega)
      have t2 : decide (first + (n : Int) ≤ x) = false := decide_eq_false (by omega)
      go_wp2_with (first | (go_at_call 17; (with_reducible refine (host_in p n cap g k x _ C0.out hlt hx.out).mono ?_); rintro e w' ⟨rfl, rfl⟩) | (go_at_call 18; (with_reducible refine (guest_at p b n (mpk m n) x k true _ WX.out C1.out OM A1 A2).mono ?_); rintro e w' ⟨rfl, rfl⟩))
      go_round
      case rel => exact ⟨k + 1, by omega, by go_num⟩
      case measure => simp [intOf]; omega
    · obtain rfl : k = n := by omega
      have WF := Aside0.mk (wf_i64 (a := first + (k : Int)) (by omega) (by omega))
      have OUT := mpk_out m (first + (k : Int)) k (fun i hi => by have := BDS.out i hi; omega)
      have A1 := Aside0.mk OUT.1
      have A2 := Aside0.mk OUT.2
      clear OUT
      go_wp2_with (first | (go_at_call 17; (with_reducible refine (host_out p k cap _ k _ C0.out (by omega)).mono ?_); rintro e w' ⟨rfl, rfl⟩) | (go_at_call 18; (with_reducible refine (guest_at p b k (mpk m k) (first + (k : Int)) 0 false _ WF.out C1.out OM A1 A2).mono ?_); rintro e w' ⟨rfl, rfl⟩) | (go_at_call 16; (with_reducible refine (works_any _).mono ?_); rintro e w9 ⟨rfl, hb⟩; have HB9 := Aside0.mk (below_step (by repeat (first | (with_reducible first | exact HB1.out | apply below_alloc | apply pw_below_drewN | apply below_drew1) | exact HB1.out)) hb); clear hb))
      go_ret
      exact ⟨rfl, HB9.out⟩

end Go.Proofs.Ytpapncnhlapfeab.StrewBackW

namespace Go.Proofs.Ytpapncnhlapfeab.strewBack
open Go.ChangeShapes Go.WideShapes Go.ChangeAt Go.RowKit
set_option linter.unusedVariables false
theorem own : ownKnob Try.prog.godebug = none := by kernel_rfl
set_option maxRecDepth 100000 in
theorem lifted (os : Os) (started : os.Started) (H : Type) (enc : TypeId × Value → H) :
    ReturnsInHanded {} Try.checked os 8 .any (Rows.strewBackSpec.pre6 enc Try.prog Try.f8 Rows.strewBackRow.domain false) (Rows.strewBackSpec.post enc Try.prog Try.f8 false true false false) := by
  refine returnsInHanded_of_change_sized (C := Try.checked) own started (by kernel_rfl) Try.func8
    (ChangeSpec.witness6 (enc := enc) (C := Try.checked) false ⟨#[], #[.int .u8 0, .int .u8 0, .int .u32 0], []⟩ 8 (by kernel_rfl) (by kernel_rfl) (by kernel_rfl) (by kernel_rfl)) ?_
  intro W base args ds gs before hval0 hW hcnd hsz0 _
  have hval : ∀ (j : Nat) t v, Try.f8.params[j]? = some t → args[j]? = some v → Value.okWide Try.prog W .any base t v := hval0
  have hW' := hW
  obtain ⟨p, q, hA0, hV, rfl, hfz, hnd⟩ := hW
  have hA : DataW.TrodAll enc Try.prog W 0 (fun _ => true) true Try.f8.params.toList args.toList ds p := hA0
  rw [Try.params8] at hA hval
  obtain ⟨v0, vs0, d0, ds0, p0, q0, hargs, rfl, rfl, h0, r0⟩ := trodAll_cons hA
  obtain ⟨v1, vs1, d1, ds1, p1, q1, rfl, rfl, rfl, h1, r1⟩ := trodAll_cons r0
  obtain ⟨v2, vs2, d2, ds2, p2, q2, rfl, rfl, rfl, h2, r2⟩ := trodAll_cons r1
  obtain ⟨rfl, rfl, rfl⟩ := trodAll_nil r2
  obtain rfl : args = #[v0, v1, v2] := by cases args; simp_all
  obtain ⟨rfl, rfl⟩ := trodVars_none hV
  obtain ⟨a0, rfl, rfl, rfl, w0⟩ := open_int Try.underlying5 (hval 0 5 v0 rfl rfl) h0
  obtain ⟨a1, rfl, rfl, rfl, w1⟩ := open_int Try.underlying5 (hval 1 5 v1 rfl rfl) h1
  obtain ⟨a2, rfl, rfl, rfl, w2⟩ := open_int Try.underlying26 (hval 2 26 v2 rfl rfl) h2
  clear hA0 hval0 hsz0
  refine (StrewBackW.walk a0 a1 a2 W w0 w1 w2).mono fun e W' ⟨he, bel⟩ => ?_
  subst he
  exact ⟨_, rfl, _, _, _, [], _, [], hW', trodAll_mk1 (shut_bool Try.underlying4 _), (trodAll_cons_mk (shut_int Try.underlying5 w0) (trodAll_cons_mk (shut_int Try.underlying5 w1) (trodAll_cons_mk (shut_int Try.underlying26 w2) trodAll_mk0))), rfl, bel.frame _, fun h => by cases h⟩
theorem proved : Rows.StrewBackSaid :=
  OpenClaim.holds_of_wide 8 Try.f8 rfl rfl rfl rfl rfl rfl rfl ⟨rfl, rfl, rfl, rfl, rfl⟩ rfl rfl rfl rfl rfl (by kernel_rfl) Try.func8 (by kernel_rfl)
    (of_decide_eq_true (by kernel_rfl)) (by unfold Func.isWrapper; first | (rw [if_pos (by decide +kernel)]; kernel_rfl) | (rw [if_neg (by decide +kernel)]; exact ⟨rfl, rfl⟩))
    (fun os started H enc _ => lifted os started H enc)
#print axioms proved
end Go.Proofs.Ytpapncnhlapfeab.strewBack
namespace Go.Proofs.Ytpapncnhlapfeab
theorem strewBack_holds : Rows.StrewBackSaid := strewBack.proved
end Go.Proofs.Ytpapncnhlapfeab
