/- FileBack: what is encoded is decoded as it was; for every guest. The card: what is laid is tied to the program's text. No condition. -/
import Derived.Test.YtmbcpmbpkdeioaaDoorF37
import Derived.Test.YtmbcpmbpkdeioaaDoorCards
import Derived.Test.YtmbcpmbpkdeioaaDoorTie
import Derived.Test.YtmbcpmbpkdeioaaDoorRows
import Derived.WalkKit
import Derived.ProofKit
import Derived.OpenShut
import Derived.ShutString
import Derived.ChangeOld
import Derived.Below
import Derived.SizedLaws
import Derived.LaidMore
import Derived.SevenTiedAt
import Derived.Stop.Joined
namespace Go.Proofs.YtmbcpmbpkdeioaaDoor.W
open Go Go.RowKit Go.Eng
set_option maxRecDepth 100000
set_option linter.unusedVariables false
set_option linter.unusedSimpArgs false
theorem fbWalk {H : Type} {enc : TypeId × Value → H} {W : World} {cs : Array Value} (hT : LTypeds enc Go.Proofs.Tryd.prog W 0 (fun _ => true) true svLeaves cs.toList) :
    Calls Go.Proofs.Tryd.prog F_mummerlaw30_FileBack #[.agg cs] W fun e W' => e = .returned (.bool true) ∧ Below W.heap.size W W' := by
  rcases sv_in hT with ⟨x, h1, h2, h3, ls, h4, h5, h6⟩ | ⟨x, hx⟩
  · refine Calls.mono (fbk_ok x ⟨h1, h2, h3⟩ (fun b => ls[b]?) W #[.agg cs] ⟨h6, trivial⟩ h5) (fun e W' hq => ?_)
    obtain ⟨out, H', μ', k1, k2, k3, k4⟩ := hq
    rcases k1 with ⟨_, _, rfl, rfl⟩ | k1
    · obtain ⟨v, rfl, rfl⟩ := k2
      refine ⟨rfl, below_of (n := 6) (L := x.L) (fun p hp => ?_) k4⟩
      simp only [Sv.L, List.mem_cons, List.not_mem_nil, or_false] at hp
      rcases hp with rfl | rfl | rfl | rfl | rfl | rfl <;> rfl
    · exact k1.elim
  · have hv := hx (fun b => if b < 6 then some ⟨0, 0, 0, 0⟩ else none) (fun b hb => ⟨⟨0, 0, 0, 0⟩, if_pos hb⟩)
    have s0 : Sat (fun b => if b < 6 then some ⟨0, 0, 0, 0⟩ else none) (AH.of 6 []) W := ⟨fun b hb => if_neg (by rw [AH.of_next] at hb; omega), fun b k hk => by simp [AH.of, AH.get, T.get] at hk, fun b b' k k' l l' hk => by simp [AH.of, AH.get, T.get] at hk⟩
    refine Calls.mono (fbk0_ok x trivial _ W #[.agg cs] ⟨hv, trivial⟩ s0) (fun e W' hq => ?_)
    obtain ⟨out, H', μ', k1, k2, k3, k4⟩ := hq
    rcases k1 with ⟨_, _, rfl, rfl⟩ | k1
    · obtain ⟨v, rfl, rfl⟩ := k2
      exact ⟨rfl, below_of (n := 6) (L := []) (fun p hp => by cases hp) k4⟩
    · exact k1.elim
end Go.Proofs.YtmbcpmbpkdeioaaDoor.W
namespace Go.Proofs.YtmbcpmbpkdeioaaDoor.fileBack
open Go.ChangeShapes Go.WideShapes Go.ChangeAt Go.RowKit Go.Eng
open Go.Proofs.YtmbcpmbpkdeioaaDoor.W
set_option linter.unusedVariables false
theorem own : ownKnob Go.Proofs.Tryd.prog.godebug = none := by kernel_rfl
theorem laidOut : laidOutB Go.Proofs.Tryd.prog = true := by kernel_rfl
/-- The door's own heap meets the condition. -/
theorem door_met (os : Os) (args : Array Value) : laidMetH Go.Proofs.Tryd.prog Rows.fileBackRow.laid ((World.doorLaid Go.Proofs.Tryd.prog 400 os).forCall (fun _ _ => 0) ⟨#[], args, []⟩).memory :=
  laidMetH_of_parts3 (fuel := 8) (laidMet_of_run' 8 (by kernel_rfl) (by kernel_rfl)) (by kernel_rfl) (by kernel_rfl)
set_option maxRecDepth 100000 in
theorem lifted (os : Os) (started : os.Started) (H : Type) (enc : TypeId × Value → H) :
    ReturnsInHanded {} Tryd.checked os F_mummerlaw30_FileBack .any (fun w args => (Rows.fileBackSpec.pre enc Go.Proofs.Tryd.prog Tryd.f4 Rows.fileBackRow.domain false w args ∧ laidMetH Go.Proofs.Tryd.prog Rows.fileBackRow.laid w) ∧ sizedMet enc Go.Proofs.Tryd.prog Tryd.f4 (OpenSpec.ofChange Rows.fileBackSpec) false w args) (Rows.fileBackSpec.post enc Go.Proofs.Tryd.prog Tryd.f4 false true false false) := by
  refine returnsInHanded_of_change_and (C := Tryd.checked) (X := fun w _ => laidMetH Go.Proofs.Tryd.prog Rows.fileBackRow.laid w) (fun _ _ _ hh h => h.of_heap hh) own started (by kernel_rfl) Tryd.func4
    (ChangeSpec.witness_shaped (enc := enc) (C := Tryd.checked) (os := os) (X := fun w _ => laidMetH Go.Proofs.Tryd.prog Rows.fileBackRow.laid w) false (World.doorLaid Go.Proofs.Tryd.prog 400 os) #[.agg #[.int .i64 0, .slice none 0 0, .int .u32 0, .int .u32 0, .int .u32 0, .int .u32 0, .int .u32 0, .int .u32 0, .int .u32 0, .int .u32 0, .int .u32 0, .int .u32 0, .int .u32 0, .int .u32 0, .int .u32 0, .int .u32 0, .int .u32 0, .int .u32 0, .int .u32 0, .int .u32 0, .bool false, .int .i64 0, .slice none 0 0, .slice none 0 0, .slice none 0 0, .slice none 0 0, .slice none 0 0, .int .u32 0, .int .u32 0, .int .u32 0, .int .u32 0, .int .u32 0, .int .u32 0, .int .u32 0, .int .u32 0]] 8 rfl (World.shaped_of_RefB (by kernel_rfl) (by kernel_rfl)) (by kernel_rfl) (by kernel_rfl) (by kernel_rfl) (door_met os _)) ?_
  intro W base args ds gs before hval0 hW hcnd hsz0 hL _
  have hsz : (DataW.weightsEach Go.Proofs.Tryd.prog (Tryd.f4.params.toList ++ Rows.fileBackSpec.plain.varTypes Go.Proofs.Tryd.prog) (ds ++ gs)).all (· ≤ reachBytes) = true := hsz0
  have hval : ∀ (j : Nat) t v, Tryd.f4.params[j]? = some t → args[j]? = some v → Value.okWide Go.Proofs.Tryd.prog W .any base t v := hval0
  have hW' := hW
  obtain ⟨p, q, hA0, hV, rfl, hfz, hnd⟩ := hW
  have hA : DataW.TrodAll enc Go.Proofs.Tryd.prog W 0 (fun _ => true) true Tryd.f4.params.toList args.toList ds p := hA0
  rw [Tryd.params4] at hA hval hsz
  obtain ⟨v0, vs0, d0, ds0, p0, q0, hargs, rfl, rfl, h0, r0⟩ := trodAll_cons hA
  obtain ⟨rfl, rfl, rfl⟩ := trodAll_nil r0
  obtain rfl : args = #[v0] := by cases args; simp_all
  obtain ⟨rfl, rfl⟩ := trodVars_none hV
  have ht : ∃ fs, (Go.Proofs.Tryd.prog).underlying T_api_Saved = some (.struct fs) := ⟨_, rfl⟩
  obtain ⟨fs, ht⟩ := ht
  obtain ⟨cs, rfl, _⟩ := okWide_struct ht (hval 0 T_api_Saved v0 rfl rfl)
  have k0 := h0
  have lt0 : ∀ x ∈ p0, x.block < W.heap.size := by obtain ⟨m, hm⟩ := k0; exact DataW.trod_lt m _ _ _ hm
  have hT : LTypeds enc Go.Proofs.Tryd.prog W 0 (fun _ => true) true svLeaves cs.toList := by
    obtain ⟨fuel, hf⟩ := h0
    refine leaves_ok 8 T_api_Saved svLeaves svLeaves_eq fuel _ _ hf (fun w hw => ?_)
    have := List.all_eq_true.1 hsz w (DataW.weights_mem_each (j := 0) (t := T_api_Saved) (d := d0) rfl rfl w hw)
    simpa using this
  clear hA0 hval0 hsz0 hsz
  refine (fbWalk hT).mono fun e W' ⟨he, bel⟩ => ?_
  subst he
  exact ⟨_, rfl, _, _, _, [], _, [], hW', trodAll_mk1 (shut_bool Tryd.underlying4 _), (trodAll_cons_mk (Below.trod laidOut (by kernel_rfl) (of_decide_eq_true (by kernel_rfl)) k0 bel lt0) trodAll_mk0), rfl, bel.frame _, fun h => by cases h⟩
theorem proved : Rows.FileBackSaid :=
  OpenClaim.holds_of_wide F_mummerlaw30_FileBack Tryd.f4 rfl rfl rfl rfl rfl rfl rfl ⟨rfl, rfl, rfl, rfl, rfl⟩ rfl rfl rfl rfl rfl (by kernel_rfl) Tryd.func4 (by kernel_rfl)
    (of_decide_eq_true (by kernel_rfl)) (by unfold Func.isWrapper; first | (rw [if_pos (by decide +kernel)]; kernel_rfl) | (rw [if_neg (by decide +kernel)]; exact ⟨rfl, rfl⟩))
    (fun os started H enc _ => lifted os started H enc)
end Go.Proofs.YtmbcpmbpkdeioaaDoor.fileBack
namespace Go.Proofs.YtmbcpmbpkdeioaaDoor
theorem fileBack_holds : Rows.FileBackSaid := fileBack.proved
theorem fileBackCard_holds : Rows.FileBackCardSaid :=
  Claim7.holds_tied_plain_at .later [] [.data, .data, .data] true (true, "fc731d77fb8feaacbb2cd6f7844c2b0c163987ce359b70209d64a3bb668f3e8c") true
    fileBack_holds (fun _ h => by cases h) (by kernel_rfl) (fun _ h => by cases h) fileBack_row_tie rfl ⟨rfl, rfl⟩ (by kernel_rfl) rfl
    (fun f fn hf hfn => by
      obtain rfl : f = 4 := Option.some.inj ((show Tryd.prog.funcNamed "mummer/mummerlaw30.FileBack" = some 4 by kernel_rfl).symm.trans hf) |>.symm
      obtain rfl : fn = Tryd.f4 := (Option.some.inj (Tryd.func4.symm.trans hfn)).symm
      exact ⟨by kernel_rfl, fun j t ht => by
        rw [Tryd.params4] at ht
        have h3 : t = 31 := by
          rcases j with _ | j
          · simpa using ht.symm
          · simp at ht
        subst h3
        exact (show Tryd.prog.wantsStandIn 31 = false by kernel_rfl)⟩)
    (by kernel_rfl)
#print axioms fileBackCard_holds
end Go.Proofs.YtmbcpmbpkdeioaaDoor
