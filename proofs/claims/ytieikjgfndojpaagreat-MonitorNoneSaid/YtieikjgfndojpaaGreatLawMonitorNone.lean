/- MonitorNone: monitors that are not there, and such as no call made, do and answer nothing; for every state, place and bytes. No condition. -/
import Derived.Test.YtieikjgfndojpaaGreatFX4
import Derived.Test.YtieikjgfndojpaaGreatJF2
import Derived.Test.YtieikjgfndojpaaGreatEn46
import Derived.Test.YtieikjgfndojpaaGreatRows
import Derived.WalkKit
import Derived.ProofKit
import Derived.OpenShut
import Derived.ShutString
import Derived.ChangeOld
import Derived.Below
import Derived.SizedLaws
namespace Go.Proofs.YtieikjgfndojpaaGreat.W
open Go Go.RowKit Go.Eng
set_option maxRecDepth 100000
set_option linter.unusedVariables false
set_option linter.unusedSimpArgs false
def stLeaves : List LT := [.i .u32, .i .u32, .i .u32, .i .u32, .i .u32, .i .u32, .i .u32, .i .u32, .i .u32, .i .u32, .i .u32, .i .u32, .i .u32, .i .u32, .i .u32, .i .u32, .i .u32, .i .u32, .b]
theorem stLeaves_eq : leaves Tryz.prog 8 25 = some stLeaves := by kernel_rfl
theorem st_in {H : Type} {enc : TypeId × Value → H} {W : World} {cs : List Value} (hT : LTypeds enc Tryz.prog W 0 (fun _ => true) true stLeaves cs) : ∃ n0 n1 n2 n3 n4 n5 n6 n7 n8 n9 n10 n11 n12 n13 n14 n15 n16 n17 : Int, ∃ h : Bool, cs = [.int .u32 n0, .int .u32 n1, .int .u32 n2, .int .u32 n3, .int .u32 n4, .int .u32 n5, .int .u32 n6, .int .u32 n7, .int .u32 n8, .int .u32 n9, .int .u32 n10, .int .u32 n11, .int .u32 n12, .int .u32 n13, .int .u32 n14, .int .u32 n15, .int .u32 n16, .int .u32 n17, .bool h] := by
  unfold stLeaves at hT
  obtain ⟨x0, r0, q0, ⟨n0, rfl, _⟩, t0⟩ := hT.cons
  obtain ⟨x1, r1, q1, ⟨n1, rfl, _⟩, t1⟩ := t0.cons
  obtain ⟨x2, r2, q2, ⟨n2, rfl, _⟩, t2⟩ := t1.cons
  obtain ⟨x3, r3, q3, ⟨n3, rfl, _⟩, t3⟩ := t2.cons
  obtain ⟨x4, r4, q4, ⟨n4, rfl, _⟩, t4⟩ := t3.cons
  obtain ⟨x5, r5, q5, ⟨n5, rfl, _⟩, t5⟩ := t4.cons
  obtain ⟨x6, r6, q6, ⟨n6, rfl, _⟩, t6⟩ := t5.cons
  obtain ⟨x7, r7, q7, ⟨n7, rfl, _⟩, t7⟩ := t6.cons
  obtain ⟨x8, r8, q8, ⟨n8, rfl, _⟩, t8⟩ := t7.cons
  obtain ⟨x9, r9, q9, ⟨n9, rfl, _⟩, t9⟩ := t8.cons
  obtain ⟨x10, r10, q10, ⟨n10, rfl, _⟩, t10⟩ := t9.cons
  obtain ⟨x11, r11, q11, ⟨n11, rfl, _⟩, t11⟩ := t10.cons
  obtain ⟨x12, r12, q12, ⟨n12, rfl, _⟩, t12⟩ := t11.cons
  obtain ⟨x13, r13, q13, ⟨n13, rfl, _⟩, t13⟩ := t12.cons
  obtain ⟨x14, r14, q14, ⟨n14, rfl, _⟩, t14⟩ := t13.cons
  obtain ⟨x15, r15, q15, ⟨n15, rfl, _⟩, t15⟩ := t14.cons
  obtain ⟨x16, r16, q16, ⟨n16, rfl, _⟩, t16⟩ := t15.cons
  obtain ⟨x17, r17, q17, ⟨n17, rfl, _⟩, t17⟩ := t16.cons
  obtain ⟨x18, r18, q18, ⟨h, rfl⟩, t18⟩ := t17.cons
  have e := t18.nil
  subst e
  subst q18 q17 q16 q15 q14 q13 q12 q11 q10 q9 q8 q7 q6 q5 q4 q3 q2 q1 q0
  exact ⟨n0, n1, n2, n3, n4, n5, n6, n7, n8, n9, n10, n11, n12, n13, n14, n15, n16, n17, h, rfl⟩
theorem noneWalk {W : World} {cs : List Value} (hc : ∃ n0 n1 n2 n3 n4 n5 n6 n7 n8 n9 n10 n11 n12 n13 n14 n15 n16 n17 : Int, ∃ h : Bool, cs = [.int .u32 n0, .int .u32 n1, .int .u32 n2, .int .u32 n3, .int .u32 n4, .int .u32 n5, .int .u32 n6, .int .u32 n7, .int .u32 n8, .int .u32 n9, .int .u32 n10, .int .u32 n11, .int .u32 n12, .int .u32 n13, .int .u32 n14, .int .u32 n15, .int .u32 n16, .int .u32 n17, .bool h]) (p : Int) (v : Value) :
    Calls Tryz.prog 3 #[.agg ⟨cs⟩, .int .u32 p, v] W fun e W' => e = .returned (.bool true) ∧ Below W.heap.size W W' := by
  obtain ⟨n0, n1, n2, n3, n4, n5, n6, n7, n8, n9, n10, n11, n12, n13, n14, n15, n16, n17, h, rfl⟩ := hc
  refine Calls.mono (none_ok n0 n1 n2 n3 n4 n5 n6 n7 n8 n9 n10 n11 n12 n13 n14 n15 n16 n17 p h (fun _ => Option.none) W #[.agg _, .int .u32 p, v] ⟨⟨_, rfl, rfl, rfl, rfl, rfl, rfl, rfl, rfl, rfl, rfl, rfl, rfl, rfl, rfl, rfl, rfl, rfl, rfl, rfl, rfl, trivial⟩, rfl, trivial, trivial⟩ (Sat.none W)) (fun e W' hq => ?_)
  obtain ⟨out, H', μ', rfl, k2, k3, k4⟩ := hq
  obtain ⟨x, rfl, rfl⟩ := k2
  exact ⟨rfl, below_of (n := 0) (L := []) (fun p hp => by cases hp) k4⟩
end Go.Proofs.YtieikjgfndojpaaGreat.W
namespace Go.Proofs.YtieikjgfndojpaaGreat.monitorNone
open Go.ChangeShapes Go.WideShapes Go.ChangeAt Go.RowKit Go.Eng
open Go.Proofs.YtieikjgfndojpaaGreat.W
set_option linter.unusedVariables false
theorem own : ownKnob Tryz.prog.godebug = none := by kernel_rfl
theorem laidOut : laidOutB Tryz.prog = true := JF.a1
set_option maxRecDepth 100000 in
theorem lifted (os : Os) (started : os.Started) (H : Type) (enc : TypeId × Value → H) :
    ReturnsInHanded {} Tryz.checked os 3 .any (Rows.monitorNoneSpec.pre6 enc Tryz.prog Tryz.f3 Rows.monitorNoneRow.domain false) (Rows.monitorNoneSpec.post enc Tryz.prog Tryz.f3 false true false false) := by
  refine returnsInHanded_of_change_sized (C := Tryz.checked) own started (by kernel_rfl) Tryz.func3
    (ChangeSpec.witness6 (enc := enc) (C := Tryz.checked) false ⟨#[], #[.agg #[.int .u32 0, .int .u32 0, .int .u32 0, .int .u32 0, .int .u32 0, .int .u32 0, .int .u32 0, .int .u32 0, .int .u32 0, .int .u32 0, .int .u32 0, .int .u32 0, .int .u32 0, .int .u32 0, .int .u32 0, .int .u32 0, .int .u32 0, .int .u32 0, .bool false], .int .u32 0, .slice none 0 0], []⟩ 8 (by kernel_rfl) (by kernel_rfl) (by kernel_rfl) (by kernel_rfl)) ?_
  intro W base args ds gs before hval0 hW hcnd hsz0 _
  have hsz : (DataW.weightsEach Tryz.prog (Tryz.f3.params.toList ++ Rows.monitorNoneSpec.plain.varTypes Tryz.prog) (ds ++ gs)).all (· ≤ reachBytes) = true := hsz0
  have hval : ∀ (j : Nat) t v, Tryz.f3.params[j]? = some t → args[j]? = some v → Value.okWide Tryz.prog W .any base t v := hval0
  have hW' := hW
  obtain ⟨p, q, hA0, hV, rfl, hfz, hnd⟩ := hW
  have hA : DataW.TrodAll enc Tryz.prog W 0 (fun _ => true) true Tryz.f3.params.toList args.toList ds p := hA0
  rw [Tryz.params3] at hA hval hsz
  obtain ⟨v0, vs0, d0, ds0, p0, q0, hargs, rfl, rfl, h0, r0⟩ := trodAll_cons hA
  obtain ⟨v1, vs1, d1, ds1, p1, q1, rfl, rfl, rfl, h1, r1⟩ := trodAll_cons r0
  obtain ⟨v2, vs2, d2, ds2, p2, q2, rfl, rfl, rfl, h2, r2⟩ := trodAll_cons r1
  obtain ⟨rfl, rfl, rfl⟩ := trodAll_nil r2
  obtain rfl : args = #[v0, v1, v2] := by cases args; simp_all
  obtain ⟨rfl, rfl⟩ := trodVars_none hV
  have ht : ∃ fs, (Tryz.prog).underlying 25 = some (.struct fs) := ⟨_, rfl⟩
  obtain ⟨fs, ht⟩ := ht
  obtain ⟨cs, rfl, _⟩ := okWide_struct ht (hval 0 25 v0 rfl rfl)
  have k0 := h0
  have lt0 : ∀ x ∈ p0, x.block < W.heap.size := by obtain ⟨m, hm⟩ := k0; exact DataW.trod_lt m _ _ _ hm
  have hT : LTypeds enc Tryz.prog W 0 (fun _ => true) true stLeaves cs.toList := by
    obtain ⟨fuel, hf⟩ := h0
    refine leaves_ok 8 25 stLeaves stLeaves_eq fuel _ _ hf (fun w hw => ?_)
    have := List.all_eq_true.1 hsz w (DataW.weights_mem_each (j := 0) (t := 25) (d := d0) rfl rfl w hw)
    simpa using this
  obtain ⟨a, rfl⟩ := okWide_int (k := .u32) (by kernel_rfl) (hval 1 _ v1 rfl rfl)
  clear hA0 hval0 hsz0 hsz
  refine (noneWalk (W := W) (cs := cs.toList) (st_in hT) a v2).mono fun e W' ⟨he, bel⟩ => ?_
  subst he
  exact ⟨_, rfl, _, _, _, [], _, [], hW', trodAll_mk1 (shut_bool Tryz.underlying4 _), (trodAll_cons_mk (Below.trod laidOut (by kernel_rfl) (of_decide_eq_true (by kernel_rfl)) k0 bel lt0) (trodAll_cons_mk (Below.trod laidOut (by kernel_rfl) (of_decide_eq_true (by kernel_rfl)) h1 bel (fun x hx => by obtain ⟨n, hn⟩ := h1; exact DataW.trod_lt n _ _ _ hn x hx)) (trodAll_cons_mk (Below.trod laidOut (by kernel_rfl) (of_decide_eq_true (by kernel_rfl)) h2 bel (fun x hx => by obtain ⟨n, hn⟩ := h2; exact DataW.trod_lt n _ _ _ hn x hx)) trodAll_mk0))), rfl, bel.frame _, fun h => by cases h⟩
theorem proved : Rows.MonitorNoneSaid :=
  OpenClaim.holds_of_wide 3 Tryz.f3 rfl rfl rfl rfl rfl rfl rfl ⟨rfl, rfl, rfl, rfl, rfl⟩ rfl rfl rfl rfl rfl (by kernel_rfl) Tryz.func3 JF.joined
    (of_decide_eq_true (by kernel_rfl)) (by unfold Func.isWrapper; first | (rw [if_pos (by decide +kernel)]; kernel_rfl) | (rw [if_neg (by decide +kernel)]; exact ⟨rfl, rfl⟩))
    (fun os started H enc _ => lifted os started H enc)
#print axioms proved
end Go.Proofs.YtieikjgfndojpaaGreat.monitorNone
namespace Go.Proofs.YtieikjgfndojpaaGreat
theorem monitorNone_holds : Rows.MonitorNoneSaid := monitorNone.proved
end Go.Proofs.YtieikjgfndojpaaGreat
