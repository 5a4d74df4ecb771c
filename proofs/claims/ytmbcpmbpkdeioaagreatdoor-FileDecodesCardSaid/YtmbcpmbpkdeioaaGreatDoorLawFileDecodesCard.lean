/- FileDecodes: any bytes, sealed first or not, are the guest that the document tells, or are refused for its reason. The card: what is laid is tied to the program's text. No condition. -/
import Derived.Test.YtmbcpmbpkdeioaaGreatDoorF39
import Derived.Test.YtmbcpmbpkdeioaaGreatDoorF43
import Derived.Test.YtmbcpmbpkdeioaaGreatDoorCards
import Derived.Test.YtmbcpmbpkdeioaaGreatDoorTie
import Derived.Test.YtmbcpmbpkdeioaaGreatDoorRows
import Derived.WalkKit
import Derived.ProofKit
import Derived.OpenShut
import Derived.ShutString
import Derived.ChangeOld
import Derived.Below
import Derived.SizedLaws
import Derived.LaidMore
import Derived.SevenTiedAt
import Derived.Stop.Joined
namespace Go.Proofs.YtmbcpmbpkdeioaaGreatDoor.W
open Go Go.RowKit Go.Eng
set_option maxRecDepth 100000
set_option linter.unusedVariables false
set_option linter.unusedSimpArgs false
theorem row_in {H : Type} {enc : TypeId × Value → H} {W : World} {v : Value} (s : LTyped enc Go.Proofs.Tryz.prog W 0 (fun _ => true) true (.sl T_sl_uint8) v) :
    (∃ x : Row, (IsBytes x.bs ∧ x.bs.length ≤ 140737488351232 ∧ x.bs.length ≤ x.c) ∧ ∃ l : Eng.Loc, VRel (fun b => [l][b]?) (.msl 0 0 0 x.bs.length x.c) v ∧ Sat (fun b => [l][b]?) (AH.of 1 [(0, ⟨false, 1, .ints .u8 x.bs⟩)]) W) ∨
    (∀ μ : Mu, (∃ l, μ 0 = some l) → VRel μ (.msl 0 0 0 0 0) v) := by
  obtain ⟨r, a, l, m, y⟩ := bytes_in (t := T_sl_uint8) (e := T_sl_b_uint8) (by kernel_rfl) (by kernel_rfl) (by kernel_rfl) (by kernel_rfl) s
  by_cases z : r.c = 0
  · right
    intro μ ⟨p, hp⟩
    exact (a.empty z).2 μ 0 p hp
  · left
    obtain ⟨B, C, t, fz, hB⟩ := a.block z
    obtain ⟨p, i, j⟩ := a.loc hB
    refine ⟨r, ⟨y, Nat.le_trans l m, l⟩, p, j _ 0 rfl, sat_ro rfl (fun q hq => ?_)⟩
    simp only [List.mem_cons, List.not_mem_nil, or_false] at hq
    subst hq
    exact ⟨rfl, p, rfl, i⟩
theorem fdWalk {H : Type} {enc : TypeId × Value → H} {W : World} {v : Value} (s : LTyped enc Go.Proofs.Tryz.prog W 0 (fun _ => true) true (.sl T_sl_uint8) v) (se : Bool) :
    Calls Go.Proofs.Tryz.prog F_mummerlaw30_FileDecodes #[v, .bool se] W fun e W' => e = .returned (.bool true) ∧ Below W.heap.size W W' := by
  have oka : (fdecC se).OK Go.Proofs.Tryz.prog := by cases se; exact fd2_ok; exact fd1_ok
  have okb : (fdec0C se).OK Go.Proofs.Tryz.prog := by cases se; exact fd4_ok; exact fd3_ok
  rcases row_in s with ⟨x, h1, l, h6, h5⟩ | hx
  · refine Calls.mono (oka x h1 (fun b => [l][b]?) W #[v, .bool se] ⟨h6, rfl, trivial⟩ h5) (fun e W' hq => ?_)
    obtain ⟨out, H', μ', k1, k2, k3, k4⟩ := hq
    rcases k1 with ⟨_, _, rfl, rfl⟩ | k1
    · obtain ⟨v, rfl, rfl⟩ := k2
      refine ⟨rfl, below_of (n := 1) (L := [(0, ⟨false, 1, .ints .u8 x.bs⟩)]) (fun p hp => ?_) k4⟩
      simp only [List.mem_cons, List.not_mem_nil, or_false] at hp
      subst hp
      rfl
    · exact k1.elim
  · have hv := hx (fun b => if b < 1 then some ⟨0, 0, 0, 0⟩ else none) ⟨⟨0, 0, 0, 0⟩, if_pos (by decide)⟩
    have s0 : Sat (fun b => if b < 1 then some ⟨0, 0, 0, 0⟩ else none) (AH.of 1 []) W := ⟨fun b hb => if_neg (by rw [AH.of_next] at hb; omega), fun b k hk => by simp [AH.of, AH.get, T.get] at hk, fun b b' k k' l l' hk => by simp [AH.of, AH.get, T.get] at hk⟩
    refine Calls.mono (okb () trivial _ W #[v, .bool se] ⟨hv, rfl, trivial⟩ s0) (fun e W' hq => ?_)
    obtain ⟨out, H', μ', k1, k2, k3, k4⟩ := hq
    rcases k1 with ⟨_, _, rfl, rfl⟩ | k1
    · obtain ⟨v, rfl, rfl⟩ := k2
      exact ⟨rfl, below_of (n := 1) (L := []) (fun p hp => by cases hp) k4⟩
    · exact k1.elim
end Go.Proofs.YtmbcpmbpkdeioaaGreatDoor.W
namespace Go.Proofs.YtmbcpmbpkdeioaaGreatDoor.fileDecodes
open Go.ChangeShapes Go.WideShapes Go.ChangeAt Go.RowKit Go.Eng
open Go.Proofs.YtmbcpmbpkdeioaaGreatDoor.W
set_option linter.unusedVariables false
theorem own : ownKnob Go.Proofs.Tryz.prog.godebug = none := by kernel_rfl
theorem laidOut : laidOutB Go.Proofs.Tryz.prog = true := by kernel_rfl
/-- The door's own heap meets the condition. -/
theorem door_met (os : Os) (args : Array Value) : laidMetH Go.Proofs.Tryz.prog Rows.fileDecodesRow.laid ((World.doorLaid Go.Proofs.Tryz.prog 400 os).forCall (fun _ _ => 0) ⟨#[], args, []⟩).memory :=
  laidMetH_of_parts3 (fuel := 8) (laidMet_of_run' 8 (by kernel_rfl) (by kernel_rfl)) (by kernel_rfl) (by kernel_rfl)
set_option maxRecDepth 100000 in
theorem lifted (os : Os) (started : os.Started) (H : Type) (enc : TypeId × Value → H) :
    ReturnsInHanded {} Tryz.checked os F_mummerlaw30_FileDecodes .any (fun w args => (Rows.fileDecodesSpec.pre enc Go.Proofs.Tryz.prog Tryz.f3 Rows.fileDecodesRow.domain false w args ∧ laidMetH Go.Proofs.Tryz.prog Rows.fileDecodesRow.laid w) ∧ sizedMet enc Go.Proofs.Tryz.prog Tryz.f3 (OpenSpec.ofChange Rows.fileDecodesSpec) false w args) (Rows.fileDecodesSpec.post enc Go.Proofs.Tryz.prog Tryz.f3 false true false false) := by
  refine returnsInHanded_of_change_and (C := Tryz.checked) (X := fun w _ => laidMetH Go.Proofs.Tryz.prog Rows.fileDecodesRow.laid w) (fun _ _ _ hh h => h.of_heap hh) own started (by kernel_rfl) Tryz.func3
    (ChangeSpec.witness_shaped (enc := enc) (C := Tryz.checked) (os := os) (X := fun w _ => laidMetH Go.Proofs.Tryz.prog Rows.fileDecodesRow.laid w) false (World.doorLaid Go.Proofs.Tryz.prog 400 os) #[.slice none 0 0, .bool false] 8 rfl (World.shaped_of_RefB (by kernel_rfl) (by kernel_rfl)) (by kernel_rfl) (by kernel_rfl) (by kernel_rfl) (door_met os _)) ?_
  intro W base args ds gs before hval0 hW hcnd hsz0 hL _
  have hsz : (DataW.weightsEach Go.Proofs.Tryz.prog (Tryz.f3.params.toList ++ Rows.fileDecodesSpec.plain.varTypes Go.Proofs.Tryz.prog) (ds ++ gs)).all (· ≤ reachBytes) = true := hsz0
  have hval : ∀ (j : Nat) t v, Tryz.f3.params[j]? = some t → args[j]? = some v → Value.okWide Go.Proofs.Tryz.prog W .any base t v := hval0
  have hW' := hW
  obtain ⟨p, q, hA0, hV, rfl, hfz, hnd⟩ := hW
  have hA : DataW.TrodAll enc Go.Proofs.Tryz.prog W 0 (fun _ => true) true Tryz.f3.params.toList args.toList ds p := hA0
  rw [Tryz.params3] at hA hval hsz
  obtain ⟨v0, vs0, d0, ds0, p0, q0, hargs, rfl, rfl, h0, r0⟩ := trodAll_cons hA
  obtain ⟨v1, vs1, d1, ds1, p1, q1, rfl, rfl, rfl, h1, r1⟩ := trodAll_cons r0
  obtain ⟨rfl, rfl, rfl⟩ := trodAll_nil r1
  obtain rfl : args = #[v0, v1] := by cases args; simp_all
  obtain ⟨rfl, rfl⟩ := trodVars_none hV
  obtain ⟨sa, sn, sc, rfl⟩ := okWide_slice (e := T_sl_b_uint8) (by kernel_rfl) (hval 0 T_sl_uint8 v0 rfl rfl)
  have lt0 : ∀ x ∈ p0, x.block < W.heap.size := by obtain ⟨m, hm⟩ := h0; exact DataW.trod_lt m _ _ _ hm
  have hT : LTypeds enc Go.Proofs.Tryz.prog W 0 (fun _ => true) true [.sl T_sl_uint8] [.slice sa sn sc] := by
    obtain ⟨fuel, hf⟩ := h0
    refine leaves_ok 8 T_sl_uint8 [.sl T_sl_uint8] (by kernel_rfl) fuel _ _ hf (fun w hw => ?_)
    have := List.all_eq_true.1 hsz w (DataW.weights_mem_each (j := 0) (t := T_sl_uint8) (d := d0) rfl rfl w hw)
    simpa using this
  obtain ⟨_, _, e0, s0, t0⟩ := hT.cons
  cases e0
  obtain ⟨se, rfl⟩ := okWide_bool Tryz.underlying4 (hval 1 _ v1 rfl rfl)
  clear hA0 hval0 hsz0 hsz
  refine (fdWalk s0 se).mono fun e W' ⟨he, bel⟩ => ?_
  subst he
  exact ⟨_, rfl, _, _, _, [], _, [], hW', trodAll_mk1 (shut_bool Tryz.underlying4 _), (trodAll_cons_mk (Below.trod laidOut (by kernel_rfl) (of_decide_eq_true (by kernel_rfl)) h0 bel lt0) (trodAll_cons_mk (Below.trod laidOut (by kernel_rfl) (of_decide_eq_true (by kernel_rfl)) h1 bel (fun x hx => by obtain ⟨n, hn⟩ := h1; exact DataW.trod_lt n _ _ _ hn x hx)) trodAll_mk0)), rfl, bel.frame _, fun h => by cases h⟩
theorem proved : Rows.FileDecodesSaid :=
  OpenClaim.holds_of_wide F_mummerlaw30_FileDecodes Tryz.f3 rfl rfl rfl rfl rfl rfl rfl ⟨rfl, rfl, rfl, rfl, rfl⟩ rfl rfl rfl rfl rfl (by kernel_rfl) Tryz.func3 (by kernel_rfl)
    (of_decide_eq_true (by kernel_rfl)) (by unfold Func.isWrapper; first | (rw [if_pos (by decide +kernel)]; kernel_rfl) | (rw [if_neg (by decide +kernel)]; exact ⟨rfl, rfl⟩))
    (fun os started H enc _ => lifted os started H enc)
end Go.Proofs.YtmbcpmbpkdeioaaGreatDoor.fileDecodes
namespace Go.Proofs.YtmbcpmbpkdeioaaGreatDoor
theorem fileDecodes_holds : Rows.FileDecodesSaid := fileDecodes.proved
theorem fileDecodesCard_holds : Rows.FileDecodesCardSaid :=
  Claim7.holds_tied_plain_at .later [] [.data, .data, .data] true (true, "ca40e4bee3dd6a9695f35b82d1a9966ef3e819ec9d8b4fbf4b88abf309d32663") true
    fileDecodes_holds (fun _ h => by cases h) (by kernel_rfl) (fun _ h => by cases h) fileDecodes_row_tie rfl ⟨rfl, rfl⟩ (by kernel_rfl) rfl
    (fun f fn hf hfn => by
      obtain rfl : f = 3 := Option.some.inj ((show Tryz.prog.funcNamed "mummer/mummerlaw30.FileDecodes" = some 3 by kernel_rfl).symm.trans hf) |>.symm
      obtain rfl : fn = Tryz.f3 := (Option.some.inj (Tryz.func3.symm.trans hfn)).symm
      exact ⟨by kernel_rfl, fun j t ht => by
        rw [Tryz.params3] at ht
        have h3 : t = 22 ∨ t = 4 := by
          rcases j with _ | _ | j
          · exact .inl (by simpa using ht.symm)
          · exact .inr (by simpa using ht.symm)
          · simp at ht
        rcases h3 with rfl | rfl
        · exact (show Tryz.prog.wantsStandIn 22 = false by kernel_rfl)
        · exact (show Tryz.prog.wantsStandIn 4 = false by kernel_rfl)⟩)
    (by kernel_rfl)
#print axioms fileDecodesCard_holds
end Go.Proofs.YtmbcpmbpkdeioaaGreatDoor
