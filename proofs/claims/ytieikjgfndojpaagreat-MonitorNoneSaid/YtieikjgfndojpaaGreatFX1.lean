/- slices.Values of one number, slices.AppendSeq of nil: in the engine's words. -/
import Derived.Test.YtieikjgfndojpaaGreatEn43
import Derived.RangeFuncBox
import Derived.RangeFuncLeaves
import Derived.Shelf.Abstract
import Derived.WalkKit
import Derived.OwnWalkIn
import Derived.TacticsInMore
import Derived.LoopNIn
import Derived.LoopIn
import Derived.Test.YtieikjgfndojpaaGreatProg
namespace Go.Proofs.YtieikjgfndojpaaGreat.W
open Go Go.RowKit Go.Shelf Go.Eng Go.Proofs
attribute [local go_sem] Oper.semAt_some
def ival : Value → Int
  | .int _ q => q
  | _ => 0
set_option maxRecDepth 100000 in
set_option maxHeartbeats 2000000 in
theorem values_one : GivesOne Tryz.prog 296 := by
  intro w B o b off c' x hp hA hcp hcA l J W hW hJ hY h0
  have hBs := (hW.cell (p := ⟨B, o, none⟩) hp).trans hcp
  have hcx := (hW.cell (p := ⟨b, off, none⟩) hA).trans hcA
  have hAW : b < W.heap.size := Nat.lt_of_lt_of_le hA hW.size
  refine callsIn_of_wp Tryz.func296 rfl trivial ?_ rfl
  simp only [Tryz.ntmps296, List.size_toArray, List.length_cons, List.length_nil, Nat.reduceAdd, Nat.reduceSub, Array.replicate_succ, Array.replicate_zero, List.push_toArray, List.append_toArray, List.nil_append, List.cons_append]
  gi_wp2
  gi_loopw [7] (fun i wr => ∃ k : Nat, k ≤ 1 ∧ i = .int .i64 k ∧ J (([x] : List Int).take k) wr ∧ (k = 0 → Below W.heap.size W wr))
    (fun i _ => 1 - (ival i).toNat)
  case atStart => exact ⟨0, Nat.zero_le _, rfl, h0, fun _ => Below.refl _ _⟩
  case round =>
    obtain ⟨k, hk, rfl, hJs, hnx⟩ := hrel
    by_cases hlt : k < 1
    · obtain rfl : k = 0 := by omega
      have hnx := hnx rfl
      have hcx' := (hnx.cell (p := ⟨b, off, none⟩) hAW).trans hcx
      obtain ⟨fn, tmps, assign, body, hy, hR⟩ := hY [] x wr hJs (by simp)
      gi_wp2
      refine hR.mono ?_
      rintro e W3 ⟨rfl, hJ3, hk3⟩
      gi_wp2
      go_roundw
      case rel => exact ⟨1, by omega, by simp, by simpa using hJ3, fun h => by cases h⟩
      case measure => simp [ival]
    · obtain rfl : k = 1 := by omega
      gi_wp2
      go_end0
      exact ⟨⟨_, rfl⟩, [x], rfl, hJs⟩
def ren : Ren := ⟨fun k => if k = 11 then 324 else 0, fun k => if k = 24 then 66 else if k = 26 then 3 else if k = 28 then 263 else if k = 33 then 50 else 0, fun k => k⟩
theorem lays : SlLaysZI.n11 Tryz.prog ren where
  mixed := by kernel_rfl
  f11 := ⟨_, by kernel_rfl, Tryz.func324⟩
  t0 := by kernel_rfl
  a0 := fun w => by kernel_rfl
  z0 := fun w => by kernel_rfl
  v0 := fun w => by kernel_rfl
  t24 := by kernel_rfl
  a24 := fun w => by kernel_rfl
  z24 := fun w => by kernel_rfl
  v24 := fun w => by kernel_rfl
  t26 := by kernel_rfl
  a26 := fun w => by kernel_rfl
  z26 := fun w => by kernel_rfl
  v26 := fun w => by kernel_rfl
  t28 := by kernel_rfl
  a28 := fun w => by kernel_rfl
  z28 := fun w => by kernel_rfl
  v28 := fun w => by kernel_rfl
  i26 := by kernel_rfl
theorem asq_ok : FBOK Tryz.prog 324 (asqB 296) := asqB_ok lays (by kernel_rfl) values_one
end Go.Proofs.YtieikjgfndojpaaGreat.W
