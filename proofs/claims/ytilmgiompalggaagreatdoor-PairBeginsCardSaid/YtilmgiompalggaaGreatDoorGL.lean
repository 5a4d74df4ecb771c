/- PairBegins: the walk, whole. No condition. -/
import Derived.Test.YtilmgiompalggaaGreatDoorGX3
import Derived.Test.YtilmgiompalggaaGreatDoorPSF
import Derived.Test.YtilmgiompalggaaGreatDoorJG2
import Derived.Test.YtilmgiompalggaaGreatDoorEn21
import Derived.Test.YtilmgiompalggaaGreatDoorCards
import Derived.Test.YtilmgiompalggaaGreatDoorTie
import Derived.Test.YtilmgiompalggaaGreatDoorRows
import Derived.WalkKit
import Derived.ProofKit
import Derived.OpenShut
import Derived.ShutString
import Derived.ChangeOld
import Derived.Below
import Derived.SizedLaws
import Derived.LaidMore
import Derived.SevenTiedAt
import Derived.Stop.Joined
namespace Go.Proofs.YtilmgiompalggaaGreatDoor.W
open Go Go.RowKit Go.Eng
set_option maxRecDepth 100000
set_option linter.unusedVariables false
set_option linter.unusedSimpArgs false
theorem pw_ok : pwC.OK Go.Proofs.Tryz.prog := fun x _ => g0_ok x trivial
theorem pb_ok : pbC.OK Go.Proofs.Tryz.prog := pbC_ok begC_ok pw_ok
end Go.Proofs.YtilmgiompalggaaGreatDoor.W
/- PairBegins: a configuration that may not be makes no pair; a pair that is not there does nothing; for every configuration and number of turns. No condition. -/
namespace Go.Proofs.YtilmgiompalggaaGreatDoor.W
open Go Go.RowKit Go.Eng
set_option maxRecDepth 100000
set_option linter.unusedVariables false
set_option linter.unusedSimpArgs false
set_option maxRecDepth 100000
set_option linter.unusedVariables false
set_option linter.unusedSimpArgs false
def cfLeaves : List LT := [.i .i64, .i .i64, .i .i64, .i .i64, .i .i64, .i .i64, .b, .i .u32]
theorem cfLeaves_eq : leaves Go.Proofs.Tryz.prog 8 T_api_Config = some cfLeaves := by kernel_rfl
theorem cf_in {H : Type} {enc : TypeId × Value → H} {W : World} {cs : List Value} (hT : LTypeds enc Go.Proofs.Tryz.prog W 0 (fun _ => true) true cfLeaves cs) : ∃ x : Cf0, keyP x ∧ cs = [.int .i64 x.F, .int .i64 x.C, .int .i64 x.B, .int .i64 x.P, .int .i64 x.S, .int .i64 x.L, .bool x.ch, .int .u32 x.key] := by
  unfold cfLeaves at hT
  obtain ⟨x0, r0, q0, ⟨n0, rfl, _⟩, t0⟩ := hT.cons
  obtain ⟨x1, r1, q1, ⟨n1, rfl, _⟩, t1⟩ := t0.cons
  obtain ⟨x2, r2, q2, ⟨n2, rfl, _⟩, t2⟩ := t1.cons
  obtain ⟨x3, r3, q3, ⟨n3, rfl, _⟩, t3⟩ := t2.cons
  obtain ⟨x4, r4, q4, ⟨n4, rfl, _⟩, t4⟩ := t3.cons
  obtain ⟨x5, r5, q5, ⟨n5, rfl, _⟩, t5⟩ := t4.cons
  obtain ⟨x6, r6, q6, ⟨h, rfl⟩, t6⟩ := t5.cons
  obtain ⟨x7, r7, q7, ⟨n7, rfl, g7⟩, t7⟩ := t6.cons
  have e := t7.nil
  subst e
  subst q7 q6 q5 q4 q3 q2 q1 q0
  refine ⟨⟨n0, n1, n2, n3, n4, n5, h, n7⟩, ?_, rfl⟩
  have g7 : (0 : Int) ≤ n7 ∧ n7 ≤ 4294967295 := g7
  exact ⟨g7.1, by show n7 < 4294967296; omega⟩
theorem pbWalk {W : World} (x : Cf0) (hx : keyP x) (m : Int) :
    Calls Go.Proofs.Tryz.prog F_mummerlaw28_PairBegins #[.agg ⟨[.int .i64 x.F, .int .i64 x.C, .int .i64 x.B, .int .i64 x.P, .int .i64 x.S, .int .i64 x.L, .bool x.ch, .int .u32 x.key]⟩, .int .i64 m] W fun e W' => e = .returned (.bool true) ∧ Below W.heap.size W W' := by
  refine Calls.mono (pb_ok ⟨x, m⟩ hx (fun _ => Option.none) W #[.agg _, .int .i64 m] ⟨⟨_, rfl, rfl, rfl, rfl, rfl, rfl, rfl, rfl, rfl, trivial⟩, rfl, trivial⟩ (Sat.none W)) (fun e W' hq => ?_)
  obtain ⟨out, H', μ', k1, k2, k3, k4⟩ := hq
  rcases k1 with ⟨_, _, rfl, rfl⟩ | k1
  · obtain ⟨v, rfl, rfl⟩ := k2
    exact ⟨rfl, below_of (n := 0) (L := []) (fun p hp => by cases hp) k4⟩
  · exact k1.elim
end Go.Proofs.YtilmgiompalggaaGreatDoor.W
namespace Go.Proofs.YtilmgiompalggaaGreatDoor.pairBegins
open Go.ChangeShapes Go.WideShapes Go.ChangeAt Go.RowKit Go.Eng
open Go.Proofs.YtilmgiompalggaaGreatDoor.W
set_option linter.unusedVariables false
theorem own : ownKnob Go.Proofs.Tryz.prog.godebug = none := by kernel_rfl
theorem laidOut : laidOutB Go.Proofs.Tryz.prog = true := JF.a1
/-- The door's own heap meets the condition. -/
theorem door_met (os : Os) (args : Array Value) : laidMetH Go.Proofs.Tryz.prog Rows.pairBeginsRow.laid ((World.doorLaid Go.Proofs.Tryz.prog 400 os).forCall (fun _ _ => 0) ⟨#[], args, []⟩).memory :=
  laidMetH_of_parts3 (fuel := 8) (laidMet_of_run' 8 (by kernel_rfl) (by kernel_rfl)) (by kernel_rfl) (by kernel_rfl)
set_option maxRecDepth 100000 in
theorem lifted (os : Os) (started : os.Started) (H : Type) (enc : TypeId × Value → H) :
    ReturnsInHanded {} Tryz.checked os F_mummerlaw28_PairBegins .any (fun w args => (Rows.pairBeginsSpec.pre enc Go.Proofs.Tryz.prog Tryz.f3 Rows.pairBeginsRow.domain false w args ∧ laidMetH Go.Proofs.Tryz.prog Rows.pairBeginsRow.laid w) ∧ sizedMet enc Go.Proofs.Tryz.prog Tryz.f3 (OpenSpec.ofChange Rows.pairBeginsSpec) false w args) (Rows.pairBeginsSpec.post enc Go.Proofs.Tryz.prog Tryz.f3 false true false false) := by
  refine returnsInHanded_of_change_and (C := Tryz.checked) (X := fun w _ => laidMetH Go.Proofs.Tryz.prog Rows.pairBeginsRow.laid w) (fun _ _ _ hh h => h.of_heap hh) own started (by kernel_rfl) Tryz.func3
    (ChangeSpec.witness_shaped (enc := enc) (C := Tryz.checked) (os := os) (X := fun w _ => laidMetH Go.Proofs.Tryz.prog Rows.pairBeginsRow.laid w) false (World.doorLaid Go.Proofs.Tryz.prog 400 os) #[.agg #[.int .i64 0, .int .i64 0, .int .i64 0, .int .i64 0, .int .i64 0, .int .i64 0, .bool false, .int .u32 0], .int .i64 0] 8 rfl (World.shaped_of_RefB (by kernel_rfl) (by kernel_rfl)) (by kernel_rfl) (by kernel_rfl) (by kernel_rfl) (door_met os _)) ?_
  intro W base args ds gs before hval0 hW hcnd hsz0 hL _
  have hsz : (DataW.weightsEach Go.Proofs.Tryz.prog (Tryz.f3.params.toList ++ Rows.pairBeginsSpec.plain.varTypes Go.Proofs.Tryz.prog) (ds ++ gs)).all (· ≤ reachBytes) = true := hsz0
  have hval : ∀ (j : Nat) t v, Tryz.f3.params[j]? = some t → args[j]? = some v → Value.okWide Go.Proofs.Tryz.prog W .any base t v := hval0
  have hW' := hW
  obtain ⟨p, q, hA0, hV, rfl, hfz, hnd⟩ := hW
  have hA : DataW.TrodAll enc Go.Proofs.Tryz.prog W 0 (fun _ => true) true Tryz.f3.params.toList args.toList ds p := hA0
  rw [Tryz.params3] at hA hval hsz
  obtain ⟨v0, vs0, d0, ds0, p0, q0, hargs, rfl, rfl, h0, r0⟩ := trodAll_cons hA
  obtain ⟨v1, vs1, d1, ds1, p1, q1, rfl, rfl, rfl, h1, r1⟩ := trodAll_cons r0
  obtain ⟨rfl, rfl, rfl⟩ := trodAll_nil r1
  obtain rfl : args = #[v0, v1] := by cases args; simp_all
  obtain ⟨rfl, rfl⟩ := trodVars_none hV
  have ht : ∃ fs, (Go.Proofs.Tryz.prog).underlying T_api_Config = some (.struct fs) := ⟨_, rfl⟩
  obtain ⟨fs, ht⟩ := ht
  obtain ⟨cs, rfl, _⟩ := okWide_struct ht (hval 0 T_api_Config v0 rfl rfl)
  have k0 := h0
  have lt0 : ∀ x ∈ p0, x.block < W.heap.size := by obtain ⟨m, hm⟩ := k0; exact DataW.trod_lt m _ _ _ hm
  have hT : LTypeds enc Go.Proofs.Tryz.prog W 0 (fun _ => true) true cfLeaves cs.toList := by
    obtain ⟨fuel, hf⟩ := h0
    refine leaves_ok 8 T_api_Config cfLeaves cfLeaves_eq fuel _ _ hf (fun w hw => ?_)
    have := List.all_eq_true.1 hsz w (DataW.weights_mem_each (j := 0) (t := T_api_Config) (d := d0) rfl rfl w hw)
    simpa using this
  obtain ⟨a, rfl⟩ := okWide_int (k := .i64) (by kernel_rfl) (hval 1 _ v1 rfl rfl)
  obtain ⟨x, hx, hcs⟩ := cf_in hT
  obtain ⟨cs⟩ := cs
  have hcs : cs = _ := hcs
  subst hcs
  clear hA0 hval0 hsz0 hsz
  refine (pbWalk (W := W) x hx a).mono fun e W' ⟨he, bel⟩ => ?_
  subst he
  exact ⟨_, rfl, _, _, _, [], _, [], hW', trodAll_mk1 (shut_bool Tryz.underlying4 _), (trodAll_cons_mk (Below.trod laidOut (by kernel_rfl) (of_decide_eq_true (by kernel_rfl)) k0 bel lt0) (trodAll_cons_mk (Below.trod laidOut (by kernel_rfl) (of_decide_eq_true (by kernel_rfl)) h1 bel (fun x hx => by obtain ⟨n, hn⟩ := h1; exact DataW.trod_lt n _ _ _ hn x hx)) trodAll_mk0)), rfl, bel.frame _, fun h => by cases h⟩
theorem proved : Rows.PairBeginsSaid :=
  OpenClaim.holds_of_wide F_mummerlaw28_PairBegins Tryz.f3 rfl rfl rfl rfl rfl rfl rfl ⟨rfl, rfl, rfl, rfl, rfl⟩ rfl rfl rfl rfl rfl (by kernel_rfl) Tryz.func3 JF.joined
    (of_decide_eq_true (by kernel_rfl)) (by unfold Func.isWrapper; first | (rw [if_pos (by decide +kernel)]; kernel_rfl) | (rw [if_neg (by decide +kernel)]; exact ⟨rfl, rfl⟩))
    (fun os started H enc _ => lifted os started H enc)
end Go.Proofs.YtilmgiompalggaaGreatDoor.pairBegins
