/- StrewOnce: strewn places are all the places, each once; for any number of places and any key. -/
import Derived.Test.YtpapncnhlapfeabRows
import Derived.Test.YtpapncnhlapfeabPerm
import Derived.WalkKit
import Derived.ProofKit
import Derived.OpenShut
import Derived.ShutString
import Derived.ChangeOld
import Derived.Below
import Derived.SizedLaws
namespace Go.Proofs.Ytpapncnhlapfeab.StrewOnceW
open Go Go.RowKit Go.Proofs.Ytpapncnhlapfeab.Order Go.Proofs.Ytpapncnhlapfeab.RefOrder Go.Proofs.YtpapncnhlapfeabW.PrintWords Go.Proofs.YtpapncnhlapfeabW.PrintLast Go.Proofs.YtpapncnhlapfeabW.PrintMore Go.Proofs.Ytpapncnhlapfeab.Perm Go.Proofs.Ytpapncnhlapfeab.PStrewOrders
theorem i64_bd {a : Int} (h : (Lit.int .i64 a).wf = true) : -9223372036854775808 ≤ a ∧ a ≤ 9223372036854775807 := by
  simp [Lit.wf, IntKind.min, IntKind.max, IntKind.bits, IntKind.signed] at h; omega
theorem u32_bd {a : Int} (h : (Lit.int .u32 a).wf = true) : 0 ≤ a ∧ a < 4294967296 := by
  simp [Lit.wf, IntKind.min, IntKind.max, IntKind.bits, IntKind.signed] at h; omega
theorem order_ord (m : Nat) (key : Int) (w : World) (h1 : 1 ≤ m) (hn : m ≤ 512) (hk0 : 0 ≤ key) (hk : key < 4294967296) :
    Calls Try.prog 14 #[.int .i64 m, .int .u32 key] w fun e w' => ∃ v : Value, e = .returned v ∧ Kd.R (Kd.int .i64) 3 w' w.heap.size (fun _ => True) v (ord m key) ∧ Below w.heap.size w w' := order_any m key w h1 hn hk0 hk

theorem info4 : (Try.prog.info? 4).map (fun i => (i.zero, i.size, i.bytes)) = some (some (.bool false), 1, 1) := by kernel_rfl
theorem rdb_set (t : List Bool) (a i : Nat) (y : Bool) (ha : a < t.length) : rdOf false (t.set a y) (i : Int) = if i = a then y else rdOf false t (i : Int) := by
  show (t.set a y).getD i false = if i = a then y else t.getD i false
  rw [List.getD_eq_getElem?_getD, List.getD_eq_getElem?_getD, List.getElem?_set]
  by_cases h : i = a
  · subst h; simp [ha]
  · rw [if_neg (fun e => h e.symm), if_neg h]
theorem rdb_rep (n i : Nat) : rdOf false (List.replicate n false) (i : Int) = false := by
  show (List.replicate n false).getD i false = false
  rw [List.getD_eq_getElem?_getD, List.getElem?_replicate]; split <;> rfl
set_option maxHeartbeats 1000000 in
set_option maxRecDepth 100000 in
theorem walk (n key : Int) (w : World) (_hn : (Lit.int .i64 n).wf = true) (hk : (Lit.int .u32 key).wf = true) :
    Calls Try.prog 5 #[.int .i64 n, .int .u32 key] w fun e w' => e = .returned (.bool true) ∧ Below w.heap.size w w' := by
  obtain ⟨hk0, hk1⟩ := u32_bd hk
  have HB := Aside0.mk (Below.refl w.heap.size w)
  clear hk
  by_cases hr : 1 ≤ n ∧ n ≤ 512
  · obtain ⟨h1, h2⟩ := hr
    obtain ⟨m, rfl⟩ := Int.eq_ofNat_of_zero_le (show 0 ≤ n by omega)
    have O := fun w => order_ord m key w (by omega) (by omega) hk0 hk1
    have HG := Aside0.mk (good_ord m key (by omega))
    generalize ord m key = l at *
    have O := Aside0.mk O
    have t1 : decide ((m : Int) < 1) = false := decide_eq_false (by omega)
    have t2 : decide (512 < (m : Int)) = false := decide_eq_false (by omega)
    go_enter Try.func5, Try.ntmps5
    go_wp2_with (first | (go_at_call 14; (with_reducible refine (O.out _).mono ?_); rintro e w1 ⟨v, rfl, hr, hb⟩; have HR1 := Aside0.mk hr; have HB1 := Aside0.mk (below_step (by repeat (first | (with_reducible first | exact HB.out | apply below_alloc | apply pw_below_drewN | apply below_drew1) | exact HB.out)) hb); clear hr hb; obtain ⟨gl, cl, el, bl, ll, cells, hl⟩ := Kd.R_form HR1.out (by have := HG.out.1; omega); have EL := HG.out.1; rw [EL] at el; clear EL; subst el; clear bl ll hl cells) | ((with_reducible refine gate_dst (N := 24) rfl ?_); refine Kd.R_make Kd.bool w.heap.size 4 rfl (N := 24) rfl 31 (.tmp 23) (.tmp 23) rfl (m : Int) rfl rfl Try.underlying31 (.bool false) 1 info4 rfl (by decide) (by omega) false (okp := fun _ => False) (ok := fun _ => True) ?aP (fun _ hk => hk.elim) trivial (by omega) (by omega) HB1.out (below_size HB1.out) ?_; (case aP => exact rfl); intro v6 w2 ho hb hg hat; have HT := Aside0.mk ho; have HB2 := Aside0.mk hb; have HR2 := Aside0.mk (Kd.R_grown HR1.out hg (fun _ _ => by simp)); clear ho hb hg hat))
    obtain ⟨gt, ct, et, bt, lt, cellst, ht⟩ := Kd.R_form HT.out (by simp; omega)
    rw [show (List.replicate (m : Int).toNat false).length = m by simp] at et
    subst et
    have GT := Aside0.mk bt
    clear bt lt ht cellst
    have HM := Aside0.mk (show 1 ≤ m by omega)
    go_loopw [7] (fun v7 wr => ∃ (k : Nat) (t : List Bool), k ≤ m ∧ v7 = .int .i64 k ∧ Aside0 (t.length = m) ∧ Aside0 (∀ i : Nat, k ≤ i → i < m → rdOf false t (rd l (i : Int)) = false) ∧ Aside0 (Kd.R (Kd.int .i64) 3 wr w.heap.size (fun _ => True) (.slice (some ⟨gl, 0, none⟩) m cl) l) ∧ Aside0 (Kd.R Kd.bool 4 wr w.heap.size (fun _ => True) (.slice (some ⟨gt, 0, none⟩) m ct) t) ∧ Aside0 (Below w.heap.size w wr)) (fun v7 _ => m - (intOf v7).toNat)
    case atStart =>
      refine ⟨0, List.replicate m false, Nat.zero_le _, rfl, ⟨by simp⟩, ⟨fun i _ hi => ?_⟩, HR2, HT, HB2⟩
      obtain ⟨x, hx⟩ := Int.eq_ofNat_of_zero_le (HG.out.2.1 i hi).1
      rw [hx]; exact rdb_rep m x
    case round =>
      clear HR1 HR2 HT HB HB1 HB2
      obtain ⟨k, t, hk, rfl, TL, TF, HR, HT, HB⟩ := hrel
      by_cases hlt : k < m
      · obtain ⟨x, hx⟩ := Int.eq_ofNat_of_zero_le (HG.out.2.1 k hlt).1
        have hxm : x < m := by have := (HG.out.2.1 k hlt).2; omega
        have tf := TF.out k (Nat.le_refl _) hlt
        obtain ⟨lc0, lf0⟩ := Kd.R_celln 0 HR.out (k : Int) (by omega) (by omega)
        obtain ⟨tc0, tf0⟩ := Kd.R_celln false HT.out (x : Int) (by omega) (by omega)
        have P := Aside0.mk (Kd.R_putg HT.out (x : Int) true).1
        obtain ⟨gt', ct', et', bt', lt', cellst', ht'⟩ := Kd.R_form HT.out (by have := TL.out; omega)
        have eg : gt' = gt := by injection et' with ea; injection ea with ea; injection ea with ea; exact ea.symm
        subst eg
        have P2 := Aside0.mk (Kd.R_set HR.out ht' (by decide) x (.bool true))
        have TF2 : Aside0 (∀ i : Nat, k + 1 ≤ i → i < m → rdOf false (t.set x true) (rd l (i : Int)) = false) := .mk (fun i h1 h2 => by
          obtain ⟨y, hy⟩ := Int.eq_ofNat_of_zero_le (HG.out.2.1 i h2).1
          rw [hy, rdb_set t x y true (by rw [TL.out]; exact hxm)]
          have ne : y ≠ x := by
            rintro rfl
            have := HG.out.2.2 i k h2 hlt (by rw [hy, hx])
            omega
          rw [if_neg ne, ← hy]; exact TF.out i (by omega) h2)
        rw [hx] at tf
        have c1 : wr.cell? ⟨gl, k, none⟩ = some (.int .i64 x) := by rw [← hx]; exact lc0
        have c2 : wr.cell? ⟨gt', x, none⟩ = some (.bool false) := by rw [← tf]; exact tc0
        have f2 : wr.frozen? ⟨gt', x, none⟩ = false := tf0
        clear lc0 lf0 tc0 tf0 et' bt' lt' cellst' ht' tf hx
        have t3 : decide ((x : Int) < 0) = false := decide_eq_false (by omega)
        have t4 : decide ((m : Int) ≤ (x : Int)) = false := decide_eq_false (by omega)
        go_wp2
        go_roundw
        case rel => exact ⟨k + 1, t.set x true, by omega, by go_num, ⟨by simp [TL.out]⟩, TF2, P2, P, ⟨below_set HB.out GT.out⟩⟩
        case measure => simp [intOf]; omega
      · obtain rfl : k = m := by omega
        go_wp2_with (go_at_call 16; (with_reducible refine (works_any _).mono ?_); rintro e w9 ⟨rfl, hb⟩; have HB9 := Aside0.mk (below_step (by repeat (first | (with_reducible first | exact HB.out | apply below_alloc | apply pw_below_drewN | apply below_drew1) | exact HB.out)) hb); clear hb)
        go_ret
        exact ⟨rfl, HB9.out⟩
  · have hr' : n < 1 ∨ 512 < n := by omega
    have O := Aside0.mk (fun w => order_none n key w hr')
    by_cases h1 : n < 1
    · have t1 : decide (n < 1) = true := decide_eq_true h1
      clear hr hr'
      go_enter Try.func5, Try.ntmps5
      go_wp2_with (first | (go_at_call 14; (with_reducible refine (O.out _).mono ?_); rintro e w1 ⟨rfl, rfl⟩) | (go_at_call 16; (with_reducible refine (works_any _).mono ?_); rintro e w9 ⟨rfl, hb⟩; have HB9 := Aside0.mk (below_step (by repeat (first | (with_reducible first | exact HB.out | apply below_alloc | apply pw_below_drewN | apply below_drew1) | exact HB.out)) hb); clear hb))
      go_ret
      exact ⟨rfl, HB9.out⟩
    · have t1 : decide (n < 1) = false := decide_eq_false h1
      have t2 : decide (512 < n) = true := decide_eq_true (by omega)
      clear hr hr'
      go_enter Try.func5, Try.ntmps5
      go_wp2_with (first | (go_at_call 14; (with_reducible refine (O.out _).mono ?_); rintro e w1 ⟨rfl, rfl⟩) | (go_at_call 16; (with_reducible refine (works_any _).mono ?_); rintro e w9 ⟨rfl, hb⟩; have HB9 := Aside0.mk (below_step (by repeat (first | (with_reducible first | exact HB.out | apply below_alloc | apply pw_below_drewN | apply below_drew1) | exact HB.out)) hb); clear hb))
      go_ret
      exact ⟨rfl, HB9.out⟩

end Go.Proofs.Ytpapncnhlapfeab.StrewOnceW

namespace Go.Proofs.Ytpapncnhlapfeab.strewOnce
open Go.ChangeShapes Go.WideShapes Go.ChangeAt Go.RowKit
set_option linter.unusedVariables false
theorem own : ownKnob Try.prog.godebug = none := by kernel_rfl
set_option maxRecDepth 100000 in
theorem lifted (os : Os) (started : os.Started) (H : Type) (enc : TypeId × Value → H) :
    ReturnsInHanded {} Try.checked os 5 .any (Rows.strewOnceSpec.pre6 enc Try.prog Try.f5 Rows.strewOnceRow.domain false) (Rows.strewOnceSpec.post enc Try.prog Try.f5 false true false false) := by
  refine returnsInHanded_of_change_sized (C := Try.checked) own started (by kernel_rfl) Try.func5
    (ChangeSpec.witness6 (enc := enc) (C := Try.checked) false ⟨#[], #[.int .i64 0, .int .u32 0], []⟩ 8 (by kernel_rfl) (by kernel_rfl) (by kernel_rfl) (by kernel_rfl)) ?_
  intro W base args ds gs before hval0 hW hcnd hsz0 _
  have hval : ∀ (j : Nat) t v, Try.f5.params[j]? = some t → args[j]? = some v → Value.okWide Try.prog W .any base t v := hval0
  have hW' := hW
  obtain ⟨p, q, hA0, hV, rfl, hfz, hnd⟩ := hW
  have hA : DataW.TrodAll enc Try.prog W 0 (fun _ => true) true Try.f5.params.toList args.toList ds p := hA0
  rw [Try.params5] at hA hval
  obtain ⟨v0, vs0, d0, ds0, p0, q0, hargs, rfl, rfl, h0, r0⟩ := trodAll_cons hA
  obtain ⟨v1, vs1, d1, ds1, p1, q1, rfl, rfl, rfl, h1, r1⟩ := trodAll_cons r0
  obtain ⟨rfl, rfl, rfl⟩ := trodAll_nil r1
  obtain rfl : args = #[v0, v1] := by cases args; simp_all
  obtain ⟨rfl, rfl⟩ := trodVars_none hV
  obtain ⟨a0, rfl, rfl, rfl, w0⟩ := open_int Try.underlying3 (hval 0 3 v0 rfl rfl) h0
  obtain ⟨a1, rfl, rfl, rfl, w1⟩ := open_int Try.underlying26 (hval 1 26 v1 rfl rfl) h1
  clear hA0 hval0 hsz0
  refine (StrewOnceW.walk a0 a1 W w0 w1).mono fun e W' ⟨he, bel⟩ => ?_
  subst he
  exact ⟨_, rfl, _, _, _, [], _, [], hW', trodAll_mk1 (shut_bool Try.underlying4 _), (trodAll_cons_mk (shut_int Try.underlying3 w0) (trodAll_cons_mk (shut_int Try.underlying26 w1) trodAll_mk0)), rfl, bel.frame _, fun h => by cases h⟩
theorem proved : Rows.StrewOnceSaid :=
  OpenClaim.holds_of_wide 5 Try.f5 rfl rfl rfl rfl rfl rfl rfl ⟨rfl, rfl, rfl, rfl, rfl⟩ rfl rfl rfl rfl rfl (by kernel_rfl) Try.func5 (by kernel_rfl)
    (of_decide_eq_true (by kernel_rfl)) (by unfold Func.isWrapper; first | (rw [if_pos (by decide +kernel)]; kernel_rfl) | (rw [if_neg (by decide +kernel)]; exact ⟨rfl, rfl⟩))
    (fun os started H enc _ => lifted os started H enc)
#print axioms proved
end Go.Proofs.Ytpapncnhlapfeab.strewOnce
namespace Go.Proofs.Ytpapncnhlapfeab
theorem strewOnce_holds : Rows.StrewOnceSaid := strewOnce.proved
end Go.Proofs.Ytpapncnhlapfeab
