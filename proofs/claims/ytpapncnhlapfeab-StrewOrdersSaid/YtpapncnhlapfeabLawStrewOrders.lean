/- StrewOrders: any number of places is strewn by any key as the reference says. -/
import Derived.Test.YtpapncnhlapfeabRows
import Derived.Test.YtpapncnhlapfeabRefOrder
import Derived.WalkKit
import Derived.ProofKit
import Derived.OpenShut
import Derived.ShutString
import Derived.ChangeOld
import Derived.Below
import Derived.SizedLaws
namespace Go.Proofs.Ytpapncnhlapfeab.StrewOrdersW
open Go Go.RowKit Go.Proofs.Ytpapncnhlapfeab.Order Go.Proofs.Ytpapncnhlapfeab.RefOrder Go.Proofs.YtpapncnhlapfeabW.PrintWords Go.Proofs.YtpapncnhlapfeabW.PrintLast Go.Proofs.YtpapncnhlapfeabW.PrintMore
theorem i64_bd {a : Int} (h : (Lit.int .i64 a).wf = true) : -9223372036854775808 ≤ a ∧ a ≤ 9223372036854775807 := by
  simp [Lit.wf, IntKind.min, IntKind.max, IntKind.bits, IntKind.signed] at h; omega
theorem u32_bd {a : Int} (h : (Lit.int .u32 a).wf = true) : 0 ≤ a ∧ a < 4294967296 := by
  simp [Lit.wf, IntKind.min, IntKind.max, IntKind.bits, IntKind.signed] at h; omega
theorem order_ord (m : Nat) (key : Int) (w : World) (h1 : 1 ≤ m) (hn : m ≤ 512) (hk0 : 0 ≤ key) (hk : key < 4294967296) :
    Calls Try.prog 14 #[.int .i64 m, .int .u32 key] w fun e w' => ∃ v : Value, e = .returned v ∧ Kd.R (Kd.int .i64) 3 w' w.heap.size (fun _ => True) v (ord m key) ∧ Below w.heap.size w w' := order_any m key w h1 hn hk0 hk

theorem C_later {w w' : World} {A : Option Addr} {n c : Nat} {base : Nat} {ok : Nat → Prop} {l : List Int} (h : Kd.R (Kd.int .i64) 3 w base ok (.slice A n c) l) (hb : Below w.heap.size w w') : Kd.C (Kd.int .i64) w' A l.length l :=
  Kd.C_below (Kd.R_reads' h).2.2 hb
set_option maxHeartbeats 1000000 in
set_option maxRecDepth 100000 in
theorem walk (n key : Int) (w : World) (_hn : (Lit.int .i64 n).wf = true) (hk : (Lit.int .u32 key).wf = true) :
    Calls Try.prog 4 #[.int .i64 n, .int .u32 key] w fun e w' => e = .returned (.bool true) ∧ Below w.heap.size w w' := by
  obtain ⟨hk0, hk1⟩ := u32_bd hk
  have HB := Aside0.mk (Below.refl w.heap.size w)
  clear hk
  by_cases hr : 1 ≤ n ∧ n ≤ 512
  · obtain ⟨h1, h2⟩ := hr
    obtain ⟨m, rfl⟩ := Int.eq_ofNat_of_zero_le (show 0 ≤ n by omega)
    have O := fun w => order_ord m key w (by omega) (by omega) hk0 hk1
    have R := fun w => ref_any m key w (by omega) (by omega) hk0 hk1
    have HL := Aside0.mk (ord_len m key)
    generalize ord m key = l at *
    have O := Aside0.mk O
    have R := Aside0.mk R
    go_enter Try.func4, Try.ntmps4
    go_wp2_with (first | (go_at_call 14; (with_reducible refine (O.out _).mono ?_); rintro e w1 ⟨v, rfl, hr, hb⟩; have HR1 := Aside0.mk hr; have HB1 := Aside0.mk (below_step (by repeat (first | (with_reducible first | exact HB.out | apply below_alloc | apply pw_below_drewN | apply below_drew1) | exact HB.out)) hb); clear hr hb; obtain ⟨A, c, ev⟩ := Kd.R_slice HR1.out; subst ev) | (go_at_call 15; (with_reducible refine (R.out _).mono ?_); rintro e w2 ⟨v, rfl, hr, hb⟩; have HR2 := Aside0.mk hr; have HC1 := Aside0.mk (C_later HR1.out hb); have HB2 := Aside0.mk (below_step (by repeat (first | (with_reducible first | exact HB1.out | apply below_alloc | apply pw_below_drewN | apply below_drew1) | exact HB1.out)) hb); clear hr hb; obtain ⟨A2, c2, ev⟩ := Kd.R_slice HR2.out; subst ev) | (go_at_call 13; (with_reducible refine (same_eq A A2 c c2 l _ ?s1 HC1.out (Kd.R_reads' HR2.out).2.2).mono ?_); (case s1 => (have := HL.out; omega)); rintro e w3 ⟨rfl, hb⟩; have HB3 := Aside0.mk (below_step (by repeat (first | (with_reducible first | exact HB2.out | apply below_alloc | apply pw_below_drewN | apply below_drew1) | exact HB2.out)) hb); clear hb) | (go_at_call 16; (with_reducible refine (works_any _).mono ?_); rintro e w9 ⟨rfl, hb⟩; have HB9 := Aside0.mk (below_step (by repeat (first | (with_reducible first | exact HB3.out | apply below_alloc | apply pw_below_drewN | apply below_drew1) | exact HB3.out)) hb); clear hb))
    go_ret
    exact ⟨rfl, HB9.out⟩
  · have hr' : n < 1 ∨ 512 < n := by omega
    have O := Aside0.mk (fun w => order_none n key w hr')
    have R := Aside0.mk (fun w => ref_none n key w hr')
    have S := Aside0.mk (fun w => same_eq none none 0 0 [] w (by simp) (Kd.C_nil _ _) (Kd.C_nil _ _))
    clear hr hr'
    go_enter Try.func4, Try.ntmps4
    go_wp2_with (first | (go_at_call 14; (with_reducible refine (O.out _).mono ?_); rintro e w1 ⟨rfl, rfl⟩) | (go_at_call 15; (with_reducible refine (R.out _).mono ?_); rintro e w2 ⟨rfl, rfl⟩) | (go_at_call 13; (refine (S.out _).mono ?_); rintro e w3 ⟨rfl, hb⟩; have HB3 := Aside0.mk (below_step (by repeat (first | (with_reducible first | exact HB.out | apply below_alloc | apply pw_below_drewN | apply below_drew1) | exact HB.out)) hb); clear hb) | (go_at_call 16; (with_reducible refine (works_any _).mono ?_); rintro e w9 ⟨rfl, hb⟩; have HB9 := Aside0.mk (below_step (by repeat (first | (with_reducible first | exact HB3.out | apply below_alloc | apply pw_below_drewN | apply below_drew1) | exact HB3.out)) hb); clear hb))
    go_ret
    exact ⟨rfl, HB9.out⟩

end Go.Proofs.Ytpapncnhlapfeab.StrewOrdersW

namespace Go.Proofs.Ytpapncnhlapfeab.strewOrders
open Go.ChangeShapes Go.WideShapes Go.ChangeAt Go.RowKit
set_option linter.unusedVariables false
theorem own : ownKnob Try.prog.godebug = none := by kernel_rfl
set_option maxRecDepth 100000 in
theorem lifted (os : Os) (started : os.Started) (H : Type) (enc : TypeId × Value → H) :
    ReturnsInHanded {} Try.checked os 4 .any (Rows.strewOrdersSpec.pre6 enc Try.prog Try.f4 Rows.strewOrdersRow.domain false) (Rows.strewOrdersSpec.post enc Try.prog Try.f4 false true false false) := by
  refine returnsInHanded_of_change_sized (C := Try.checked) own started (by kernel_rfl) Try.func4
    (ChangeSpec.witness6 (enc := enc) (C := Try.checked) false ⟨#[], #[.int .i64 0, .int .u32 0], []⟩ 8 (by kernel_rfl) (by kernel_rfl) (by kernel_rfl) (by kernel_rfl)) ?_
  intro W base args ds gs before hval0 hW hcnd hsz0 _
  have hval : ∀ (j : Nat) t v, Try.f4.params[j]? = some t → args[j]? = some v → Value.okWide Try.prog W .any base t v := hval0
  have hW' := hW
  obtain ⟨p, q, hA0, hV, rfl, hfz, hnd⟩ := hW
  have hA : DataW.TrodAll enc Try.prog W 0 (fun _ => true) true Try.f4.params.toList args.toList ds p := hA0
  rw [Try.params4] at hA hval
  obtain ⟨v0, vs0, d0, ds0, p0, q0, hargs, rfl, rfl, h0, r0⟩ := trodAll_cons hA
  obtain ⟨v1, vs1, d1, ds1, p1, q1, rfl, rfl, rfl, h1, r1⟩ := trodAll_cons r0
  obtain ⟨rfl, rfl, rfl⟩ := trodAll_nil r1
  obtain rfl : args = #[v0, v1] := by cases args; simp_all
  obtain ⟨rfl, rfl⟩ := trodVars_none hV
  obtain ⟨a0, rfl, rfl, rfl, w0⟩ := open_int Try.underlying3 (hval 0 3 v0 rfl rfl) h0
  obtain ⟨a1, rfl, rfl, rfl, w1⟩ := open_int Try.underlying26 (hval 1 26 v1 rfl rfl) h1
  clear hA0 hval0 hsz0
  refine (StrewOrdersW.walk a0 a1 W w0 w1).mono fun e W' ⟨he, bel⟩ => ?_
  subst he
  exact ⟨_, rfl, _, _, _, [], _, [], hW', trodAll_mk1 (shut_bool Try.underlying4 _), (trodAll_cons_mk (shut_int Try.underlying3 w0) (trodAll_cons_mk (shut_int Try.underlying26 w1) trodAll_mk0)), rfl, bel.frame _, fun h => by cases h⟩
theorem proved : Rows.StrewOrdersSaid :=
  OpenClaim.holds_of_wide 4 Try.f4 rfl rfl rfl rfl rfl rfl rfl ⟨rfl, rfl, rfl, rfl, rfl⟩ rfl rfl rfl rfl rfl (by kernel_rfl) Try.func4 (by kernel_rfl)
    (of_decide_eq_true (by kernel_rfl)) (by unfold Func.isWrapper; first | (rw [if_pos (by decide +kernel)]; kernel_rfl) | (rw [if_neg (by decide +kernel)]; exact ⟨rfl, rfl⟩))
    (fun os started H enc _ => lifted os started H enc)
#print axioms proved
end Go.Proofs.Ytpapncnhlapfeab.strewOrders
namespace Go.Proofs.Ytpapncnhlapfeab
theorem strewOrders_holds : Rows.StrewOrdersSaid := strewOrders.proved
end Go.Proofs.Ytpapncnhlapfeab
