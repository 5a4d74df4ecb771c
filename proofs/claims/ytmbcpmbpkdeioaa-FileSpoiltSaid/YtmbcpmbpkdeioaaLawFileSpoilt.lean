/- FileSpoilt: a guest's bytes that are spoilt within 32 bits are refused, and those that are not are taken; for every guest, place and mask. No condition. -/
import Derived.Test.YtmbcpmbpkdeioaaF10
import Derived.Test.YtmbcpmbpkdeioaaRows
import Derived.WalkKit
import Derived.ProofKit
import Derived.OpenShut
import Derived.ShutString
import Derived.ChangeOld
import Derived.Below
import Derived.SizedLaws
namespace Go.Proofs.Ytmbcpmbpkdeioaa.W
open Go Go.RowKit Go.Eng
set_option linter.unusedVariables false
set_option linter.unusedSimpArgs false
theorem fsWalk {H : Type} {enc : TypeId × Value → H} {W : World} {cs : Array Value} (hT : LTypeds enc Go.Proofs.Try.prog W 0 (fun _ => true) true svLeaves cs.toList) (a m : Int) (hm : 0 ≤ m) :
    Calls Go.Proofs.Try.prog F_mummerlaw30_FileSpoilt #[.agg cs, .int .i64 a, .int .u32 m] W fun e W' => e = .returned (.bool true) ∧ Below W.heap.size W W' := by
  rcases sv_in hT with ⟨x, h1, h2, h3, ls, h4, h5, h6⟩ | ⟨x, hx⟩
  · refine Calls.mono (fs_ok ⟨x, a, m⟩ ⟨h1, h2, h3, hm⟩ (fun b => ls[b]?) W #[.agg cs, .int .i64 a, .int .u32 m] ⟨h6, rfl, rfl, trivial⟩ h5) (fun e W' hq => ?_)
    obtain ⟨out, H', μ', k1, k2, k3, k4⟩ := hq
    rcases k1 with ⟨_, _, rfl, rfl⟩ | k1
    · obtain ⟨v, rfl, rfl⟩ := k2
      refine ⟨rfl, below_of (n := 6) (L := x.L) (fun p hp => ?_) k4⟩
      simp only [Sv.L, List.mem_cons, List.not_mem_nil, or_false] at hp
      rcases hp with rfl | rfl | rfl | rfl | rfl | rfl <;> rfl
    · exact k1.elim
  · have hv := hx (fun b => if b < 6 then some ⟨0, 0, 0, 0⟩ else none) (fun b hb => ⟨⟨0, 0, 0, 0⟩, if_pos hb⟩)
    have s0 : Sat (fun b => if b < 6 then some ⟨0, 0, 0, 0⟩ else none) (AH.of 6 []) W := ⟨fun b hb => if_neg (by rw [AH.of_next] at hb; omega), fun b k hk => by simp [AH.of, AH.get, T.get] at hk, fun b b' k k' l l' hk => by simp [AH.of, AH.get, T.get] at hk⟩
    refine Calls.mono (fs0_ok ⟨x, a, m⟩ trivial _ W #[.agg cs, .int .i64 a, .int .u32 m] ⟨hv, rfl, rfl, trivial⟩ s0) (fun e W' hq => ?_)
    obtain ⟨out, H', μ', k1, k2, k3, k4⟩ := hq
    rcases k1 with ⟨_, _, rfl, rfl⟩ | k1
    · obtain ⟨v, rfl, rfl⟩ := k2
      exact ⟨rfl, below_of (n := 6) (L := []) (fun p hp => by cases hp) k4⟩
    · exact k1.elim
end Go.Proofs.Ytmbcpmbpkdeioaa.W
namespace Go.Proofs.Ytmbcpmbpkdeioaa.fileSpoilt
open Go.ChangeShapes Go.WideShapes Go.ChangeAt Go.RowKit Go.Eng
set_option linter.unusedVariables false
set_option linter.unusedSimpArgs false
open Go.Proofs.Ytmbcpmbpkdeioaa.W
set_option linter.unusedVariables false
set_option linter.unusedSimpArgs false
set_option linter.unusedVariables false
theorem own : ownKnob Go.Proofs.Try.prog.godebug = none := by kernel_rfl
theorem laidOut : laidOutB Go.Proofs.Try.prog = true := by kernel_rfl
set_option maxRecDepth 100000 in
theorem lifted (os : Os) (started : os.Started) (H : Type) (enc : TypeId × Value → H) :
    ReturnsInHanded {} Try.checked os F_mummerlaw30_FileSpoilt .any (Rows.fileSpoiltSpec.pre6 enc Go.Proofs.Try.prog Try.f3 Rows.fileSpoiltRow.domain false) (Rows.fileSpoiltSpec.post enc Go.Proofs.Try.prog Try.f3 false true false false) := by
  refine returnsInHanded_of_change_sized (C := Try.checked) own started (by kernel_rfl) Try.func3
    (ChangeSpec.witness6 (enc := enc) (C := Try.checked) false ⟨#[], #[.agg #[.int .i64 0, .slice none 0 0, .int .u32 0, .int .u32 0, .int .u32 0, .int .u32 0, .int .u32 0, .int .u32 0, .int .u32 0, .int .u32 0, .int .u32 0, .int .u32 0, .int .u32 0, .int .u32 0, .int .u32 0, .int .u32 0, .int .u32 0, .int .u32 0, .int .u32 0, .int .u32 0, .bool false, .int .i64 0, .slice none 0 0, .slice none 0 0, .slice none 0 0, .slice none 0 0, .slice none 0 0, .int .u32 0, .int .u32 0, .int .u32 0, .int .u32 0, .int .u32 0, .int .u32 0, .int .u32 0, .int .u32 0], .int .i64 0, .int .u32 0], []⟩ 8 (by kernel_rfl) (by kernel_rfl) (by kernel_rfl) (by kernel_rfl)) ?_
  intro W base args ds gs before hval0 hW hcnd hsz0 _
  have hsz : (DataW.weightsEach Go.Proofs.Try.prog (Try.f3.params.toList ++ Rows.fileSpoiltSpec.plain.varTypes Go.Proofs.Try.prog) (ds ++ gs)).all (· ≤ reachBytes) = true := hsz0
  have hval : ∀ (j : Nat) t v, Try.f3.params[j]? = some t → args[j]? = some v → Value.okWide Go.Proofs.Try.prog W .any base t v := hval0
  have hW' := hW
  obtain ⟨p, q, hA0, hV, rfl, hfz, hnd⟩ := hW
  have hA : DataW.TrodAll enc Go.Proofs.Try.prog W 0 (fun _ => true) true Try.f3.params.toList args.toList ds p := hA0
  rw [Try.params3] at hA hval hsz
  obtain ⟨v0, vs0, d0, ds0, p0, q0, hargs, rfl, rfl, h0, r0⟩ := trodAll_cons hA
  obtain ⟨v1, vs1, d1, ds1, p1, q1, rfl, rfl, rfl, h1, r1⟩ := trodAll_cons r0
  obtain ⟨v2, vs2, d2, ds2, p2, q2, rfl, rfl, rfl, h2, r2⟩ := trodAll_cons r1
  obtain ⟨rfl, rfl, rfl⟩ := trodAll_nil r2
  obtain rfl : args = #[v0, v1, v2] := by cases args; simp_all
  obtain ⟨rfl, rfl⟩ := trodVars_none hV
  have ht : ∃ fs, (Go.Proofs.Try.prog).underlying T_api_Saved = some (.struct fs) := ⟨_, rfl⟩
  obtain ⟨fs, ht⟩ := ht
  obtain ⟨cs, rfl, _⟩ := okWide_struct ht (hval 0 T_api_Saved v0 rfl rfl)
  have k0 := h0
  have lt0 : ∀ x ∈ p0, x.block < W.heap.size := by obtain ⟨m, hm⟩ := k0; exact DataW.trod_lt m _ _ _ hm
  have hT : LTypeds enc Go.Proofs.Try.prog W 0 (fun _ => true) true svLeaves cs.toList := by
    obtain ⟨fuel, hf⟩ := h0
    refine leaves_ok 8 T_api_Saved svLeaves svLeaves_eq fuel _ _ hf (fun w hw => ?_)
    have := List.all_eq_true.1 hsz w (DataW.weights_mem_each (j := 0) (t := T_api_Saved) (d := d0) rfl rfl w hw)
    simpa using this
  obtain ⟨a, rfl⟩ := okWide_int (k := .i64) (by kernel_rfl) (hval 1 _ v1 rfl rfl)
  obtain ⟨m, rfl⟩ := okWide_int (k := .u32) (by kernel_rfl) (hval 2 _ v2 rfl rfl)
  have hm : 0 ≤ m := by
    obtain ⟨fuel, hf⟩ := h2
    have T2 : LTypeds enc Go.Proofs.Try.prog W 0 (fun _ => true) true [.i .u32] [.int .u32 m] := leaves_ok 1 _ _ (by kernel_rfl) fuel _ _ hf (fun w hw => by
      have := List.all_eq_true.1 hsz w (DataW.weights_mem_each (j := 2) (d := d2) rfl rfl w hw)
      simpa using this)
    obtain ⟨⟨n, e, g⟩, _⟩ := T2
    cases e
    exact g.1
  clear hA0 hval0 hsz0 hsz
  refine (fsWalk hT a m hm).mono fun e W' ⟨he, bel⟩ => ?_
  subst he
  exact ⟨_, rfl, _, _, _, [], _, [], hW', trodAll_mk1 (shut_bool Try.underlying4 _), (trodAll_cons_mk (Below.trod laidOut (by kernel_rfl) (of_decide_eq_true (by kernel_rfl)) k0 bel lt0) (trodAll_cons_mk (Below.trod laidOut (by kernel_rfl) (of_decide_eq_true (by kernel_rfl)) h1 bel (fun x hx => by obtain ⟨n, hn⟩ := h1; exact DataW.trod_lt n _ _ _ hn x hx)) (trodAll_cons_mk (Below.trod laidOut (by kernel_rfl) (of_decide_eq_true (by kernel_rfl)) h2 bel (fun x hx => by obtain ⟨n, hn⟩ := h2; exact DataW.trod_lt n _ _ _ hn x hx)) trodAll_mk0))), rfl, bel.frame _, fun h => by cases h⟩
theorem proved : Rows.FileSpoiltSaid :=
  OpenClaim.holds_of_wide F_mummerlaw30_FileSpoilt Try.f3 rfl rfl rfl rfl rfl rfl rfl ⟨rfl, rfl, rfl, rfl, rfl⟩ rfl rfl rfl rfl rfl (by kernel_rfl) Try.func3 (by kernel_rfl)
    (of_decide_eq_true (by kernel_rfl)) (by unfold Func.isWrapper; first | (rw [if_pos (by decide +kernel)]; kernel_rfl) | (rw [if_neg (by decide +kernel)]; exact ⟨rfl, rfl⟩))
    (fun os started H enc _ => lifted os started H enc)
#print axioms proved
end Go.Proofs.Ytmbcpmbpkdeioaa.fileSpoilt
namespace Go.Proofs.Ytmbcpmbpkdeioaa
theorem fileSpoilt_holds : Rows.FileSpoiltSaid := fileSpoilt.proved
end Go.Proofs.Ytmbcpmbpkdeioaa
