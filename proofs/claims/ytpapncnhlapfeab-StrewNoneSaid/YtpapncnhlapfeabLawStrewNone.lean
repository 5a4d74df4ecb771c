/- StrewNone: a map that is not there, and one that no call made, tell nothing; for any number. -/
import Derived.Test.YtpapncnhlapfeabRows
import Derived.Test.YtpapncnhlapfeabStrewAsk
import Derived.WalkKit
import Derived.ProofKit
import Derived.OpenShut
import Derived.ShutString
import Derived.ChangeOld
import Derived.Below
import Derived.SizedLaws
namespace Go.Proofs.Ytpapncnhlapfeab.StrewNoneW
open Go Go.RowKit Go.Proofs.Ytpapncnhlapfeab.Order Go.Proofs.Ytpapncnhlapfeab.RefOrder Go.Proofs.YtpapncnhlapfeabW.PrintWords Go.Proofs.YtpapncnhlapfeabW.PrintLast Go.Proofs.YtpapncnhlapfeabW.PrintMore Go.Proofs.Ytpapncnhlapfeab.Perm Go.Proofs.Ytpapncnhlapfeab.PStrewOrders Go.Proofs.Ytpapncnhlapfeab.StrewMap

set_option maxHeartbeats 1000000 in
set_option maxRecDepth 100000 in
theorem walk (k : Int) (w : World) (hk : (Lit.int .i64 k).wf = true) :
    Calls Try.prog 6 #[.int .i64 k] w fun e w' => e = .returned (.bool true) ∧ Below w.heap.size w w' := by
  have HK := Aside0.mk hk
  clear hk
  have HB := Aside0.mk (Below.refl w.heap.size w)
  go_enter Try.func6, Try.ntmps6
  go_wp2
  have X0 := Aside0.mk ((heap_alloc_old (w.alloc (Obj.cells #[.slice none 0 0, .map none] 35)) (Obj.cells #[.pointer none, .pointer (some ⟨w.heap.size, 0, none⟩)] 32) (r := w.heap.size) (by simp)).trans (heap_alloc_new w _))
  have X1 := Aside0.mk (heap_alloc_new (w.alloc (Obj.cells #[.slice none 0 0, .map none] 35)) (Obj.cells #[.pointer none, .pointer (some ⟨w.heap.size, 0, none⟩)] 32))
  rw [show (w.alloc (Obj.cells #[.slice none 0 0, .map none] 35)).heap.size = w.heap.size + 1 by simp] at X1
  have HB2 := Aside0.mk (below_alloc (below_alloc HB.out (Obj.cells #[.slice none 0 0, .map none] 35)) (Obj.cells #[.pointer none, .pointer (some ⟨w.heap.size, 0, none⟩)] 32))
  generalize (w.alloc (Obj.cells #[.slice none 0 0, .map none] 35)).alloc (Obj.cells #[.pointer none, .pointer (some ⟨w.heap.size, 0, none⟩)] 32) = w2 at *
  obtain ⟨p, hp⟩ : ∃ p, p = w.heap.size := ⟨_, rfl⟩
  rw [← hp] at X0 X1
  rw [← hp]
  clear HB hp
  go_loopw [5] (fun v5 wr => ∃ j : Nat, j ≤ 2 ∧ v5 = .int .i64 j ∧ Aside0 (wr.heap[p]? = some (.cells #[.slice none 0 0, .map none] 35 (0, 0))) ∧ Aside0 (wr.heap[p + 1]? = some (.cells #[.pointer none, .pointer (some ⟨p, 0, none⟩)] 32 (0, 0))) ∧ Aside0 (Below w.heap.size w wr)) (fun v5 _ => 2 - (intOf v5).toNat)
  case atStart => exact ⟨0, by omega, rfl, X0, X1, HB2⟩
  case round =>
    clear X0 X1 HB2
    obtain ⟨j, hj, rfl, X0, X1, HB⟩ := hrel
    have c0 : wr.cell? ⟨p + 1, 0, none⟩ = some (.pointer none) := by simp [World.cell?, X1.out]
    have c1 : wr.cell? ⟨p + 1, 1, none⟩ = some (.pointer (some ⟨p, 0, none⟩)) := by simp [World.cell?, X1.out]
    have C2 := Aside0.mk (show wr.cell? ⟨p, 0, none⟩ = some (.slice none 0 0) by simp [World.cell?, X0.out])
    have C3 := Aside0.mk (show wr.cell? ⟨p, 1, none⟩ = some (.map none) by simp [World.cell?, X0.out])
    have PS := Aside0.mk (lt_of_block X0.out)
    match j, hj with
    | 0, _ =>
      go_wp2_with (first | (go_at_call 17; (with_reducible refine (host_nil k _).mono ?_); rintro e w' ⟨rfl, rfl⟩) | (go_at_call 18; (with_reducible refine (guest_nil k _).mono ?_); rintro e w' ⟨rfl, rfl⟩) | (go_at_call 19; (with_reducible refine (list_nil _).mono ?_); rintro e w' ⟨rfl, rfl⟩))
      go_roundw
      case rel => exact ⟨1, by omega, rfl, X0, X1, HB⟩
      case measure => simp [intOf]
    | 1, _ =>
      go_wp2_with (first | (go_at_call 17; (with_reducible refine (host_out p 0 0 none k _ C2.out (by omega)).mono ?_); rintro e w' ⟨rfl, rfl⟩) | (go_at_call 18; (with_reducible refine (guest_empty p k _ HK.out C3.out).mono ?_); rintro e w' ⟨rfl, rfl⟩) | (go_at_call 19; (with_reducible refine (list_empty p _ PS.out C2.out).mono ?_); rintro e w3 ⟨A, c, rfl, hb⟩; have HB3 := Aside0.mk hb; clear hb))
      go_roundw
      case rel => exact ⟨2, by omega, rfl, ⟨(HB3.out.block p (lt_of_block X0.out)).trans X0.out⟩, ⟨(HB3.out.block (p + 1) (lt_of_block X1.out)).trans X1.out⟩, ⟨below_step HB.out HB3.out⟩⟩
      case measure => simp [intOf]
    | 2, _ =>
      go_wp2_with (go_at_call 16; (with_reducible refine (works_any _).mono ?_); rintro e w9 ⟨rfl, hb⟩; have HB9 := Aside0.mk (below_step (by repeat (first | (with_reducible first | exact HB.out | apply below_alloc | apply pw_below_drewN | apply below_drew1) | exact HB.out)) hb); clear hb)
      go_ret
      exact ⟨rfl, HB9.out⟩

end Go.Proofs.Ytpapncnhlapfeab.StrewNoneW

namespace Go.Proofs.Ytpapncnhlapfeab.strewNone
open Go.ChangeShapes Go.WideShapes Go.ChangeAt Go.RowKit
set_option linter.unusedVariables false
theorem own : ownKnob Try.prog.godebug = none := by kernel_rfl
set_option maxRecDepth 100000 in
theorem lifted (os : Os) (started : os.Started) (H : Type) (enc : TypeId × Value → H) :
    ReturnsInHanded {} Try.checked os 6 .any (Rows.strewNoneSpec.pre6 enc Try.prog Try.f6 Rows.strewNoneRow.domain false) (Rows.strewNoneSpec.post enc Try.prog Try.f6 false true false false) := by
  refine returnsInHanded_of_change_sized (C := Try.checked) own started (by kernel_rfl) Try.func6
    (ChangeSpec.witness6 (enc := enc) (C := Try.checked) false ⟨#[], #[.int .i64 0], []⟩ 8 (by kernel_rfl) (by kernel_rfl) (by kernel_rfl) (by kernel_rfl)) ?_
  intro W base args ds gs before hval0 hW hcnd hsz0 _
  have hval : ∀ (j : Nat) t v, Try.f6.params[j]? = some t → args[j]? = some v → Value.okWide Try.prog W .any base t v := hval0
  have hW' := hW
  obtain ⟨p, q, hA0, hV, rfl, hfz, hnd⟩ := hW
  have hA : DataW.TrodAll enc Try.prog W 0 (fun _ => true) true Try.f6.params.toList args.toList ds p := hA0
  rw [Try.params6] at hA hval
  obtain ⟨v0, vs0, d0, ds0, p0, q0, hargs, rfl, rfl, h0, r0⟩ := trodAll_cons hA
  obtain ⟨rfl, rfl, rfl⟩ := trodAll_nil r0
  obtain rfl : args = #[v0] := by cases args; simp_all
  obtain ⟨rfl, rfl⟩ := trodVars_none hV
  obtain ⟨a0, rfl, rfl, rfl, w0⟩ := open_int Try.underlying3 (hval 0 3 v0 rfl rfl) h0
  clear hA0 hval0 hsz0
  refine (StrewNoneW.walk a0 W w0).mono fun e W' ⟨he, bel⟩ => ?_
  subst he
  exact ⟨_, rfl, _, _, _, [], _, [], hW', trodAll_mk1 (shut_bool Try.underlying4 _), (trodAll_cons_mk (shut_int Try.underlying3 w0) trodAll_mk0), rfl, bel.frame _, fun h => by cases h⟩
theorem proved : Rows.StrewNoneSaid :=
  OpenClaim.holds_of_wide 6 Try.f6 rfl rfl rfl rfl rfl rfl rfl ⟨rfl, rfl, rfl, rfl, rfl⟩ rfl rfl rfl rfl rfl (by kernel_rfl) Try.func6 (by kernel_rfl)
    (of_decide_eq_true (by kernel_rfl)) (by unfold Func.isWrapper; first | (rw [if_pos (by decide +kernel)]; kernel_rfl) | (rw [if_neg (by decide +kernel)]; exact ⟨rfl, rfl⟩))
    (fun os started H enc _ => lifted os started H enc)
#print axioms proved
end Go.Proofs.Ytpapncnhlapfeab.strewNone
namespace Go.Proofs.Ytpapncnhlapfeab
theorem strewNone_holds : Rows.StrewNoneSaid := strewNone.proved
end Go.Proofs.Ytpapncnhlapfeab
