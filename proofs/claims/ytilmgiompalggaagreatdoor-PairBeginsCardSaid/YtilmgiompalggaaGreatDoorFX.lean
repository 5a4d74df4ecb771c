/- slices.Values of one number, slices.AppendSeq of nil: in the engine's words. -/
import Derived.Test.YtilmgiompalggaaGreatDoorEn34
import Derived.RangeFuncBox
import Derived.RangeFuncLeaves
import Derived.Shelf.Abstract
import Derived.WalkKit
import Derived.OwnWalkIn
import Derived.TacticsInMore
import Derived.LoopNIn
import Derived.LoopIn
import Derived.Test.YtilmgiompalggaaGreatDoorProg
import Derived.RangeFuncWrites
import Derived.Maps.AppendAt
import Derived.Shelf.SortM.Plain
import Derived.Shelf.SlIterI.Sorted
import Derived.Test.YtilmgiompalggaaGreatDoorEn35
namespace Go.Proofs.YtilmgiompalggaaGreatDoor.W
open Go Go.RowKit Go.Shelf Go.Eng Go.Proofs
attribute [local go_sem] Oper.semAt_some
def ival : Value → Int
  | .int _ q => q
  | _ => 0
set_option maxRecDepth 100000 in
set_option maxHeartbeats 2000000 in
theorem values_one : GivesOne Tryz.prog 282 := by
  intro w B o b off c' x hp hA hcp hcA l J W hW hJ hY h0
  have hBs := (hW.cell (p := ⟨B, o, none⟩) hp).trans hcp
  have hcx := (hW.cell (p := ⟨b, off, none⟩) hA).trans hcA
  have hAW : b < W.heap.size := Nat.lt_of_lt_of_le hA hW.size
  refine callsIn_of_wp Tryz.func282 rfl trivial ?_ rfl
  simp only [Tryz.ntmps282, List.size_toArray, List.length_cons, List.length_nil, Nat.reduceAdd, Nat.reduceSub, Array.replicate_succ, Array.replicate_zero, List.push_toArray, List.append_toArray, List.nil_append, List.cons_append]
  gi_wp2
  gi_loopw [7] (fun i wr => ∃ k : Nat, k ≤ 1 ∧ i = .int .i64 k ∧ J (([x] : List Int).take k) wr ∧ (k = 0 → Below W.heap.size W wr))
    (fun i _ => 1 - (ival i).toNat)
  case atStart => exact ⟨0, Nat.zero_le _, rfl, h0, fun _ => Below.refl _ _⟩
  case round =>
    obtain ⟨k, hk, rfl, hJs, hnx⟩ := hrel
    by_cases hlt : k < 1
    · obtain rfl : k = 0 := by omega
      have hnx := hnx rfl
      have hcx' := (hnx.cell (p := ⟨b, off, none⟩) hAW).trans hcx
      obtain ⟨fn, tmps, assign, body, hy, hR⟩ := hY [] x wr hJs (by simp)
      gi_wp2
      refine hR.mono ?_
      rintro e W3 ⟨rfl, hJ3, hk3⟩
      gi_wp2
      go_roundw
      case rel => exact ⟨1, by omega, by simp, by simpa using hJ3, fun h => by cases h⟩
      case measure => simp [ival]
    · obtain rfl : k = 1 := by omega
      gi_wp2
      go_end0
      exact ⟨⟨_, rfl⟩, [x], rfl, hJs⟩
def ren : Ren := ⟨fun k => if k = 11 then 335 else 0, fun k => if k = 24 then 76 else if k = 26 then 3 else if k = 28 then 288 else if k = 33 then 45 else 0, fun k => k⟩
theorem lays : SlLaysZI.n11 Tryz.prog ren where
  mixed := by kernel_rfl
  f11 := ⟨_, by kernel_rfl, Tryz.func335⟩
  t0 := by kernel_rfl
  a0 := fun w => by kernel_rfl
  z0 := fun w => by kernel_rfl
  v0 := fun w => by kernel_rfl
  t24 := by kernel_rfl
  a24 := fun w => by kernel_rfl
  z24 := fun w => by kernel_rfl
  v24 := fun w => by kernel_rfl
  t26 := by kernel_rfl
  a26 := fun w => by kernel_rfl
  z26 := fun w => by kernel_rfl
  v26 := fun w => by kernel_rfl
  t28 := by kernel_rfl
  a28 := fun w => by kernel_rfl
  z28 := fun w => by kernel_rfl
  v28 := fun w => by kernel_rfl
  i26 := by kernel_rfl
theorem asq_ok : FBOK Tryz.prog 335 (asqB 282) := asqB_ok lays (by kernel_rfl) values_one
end Go.Proofs.YtilmgiompalggaaGreatDoor.W
/- slices.AppendSeq of nil and slices.Values, however many numbers. -/
namespace Go.Proofs.YtilmgiompalggaaGreatDoor.W
open Go Go.RowKit Go.Shelf Go.Proofs
attribute [local go_sem] Oper.semAt_some
def upto {α : Type} (f : Nat → α) (k : Nat) : List α := (List.range k).map f
theorem upto_succ {α : Type} (f : Nat → α) (k : Nat) : upto f (k + 1) = upto f k ++ [f k] := by simp [upto, List.range_succ]
theorem upto_length {α : Type} (f : Nat → α) (k : Nat) : (upto f k).length = k := by simp [upto]
theorem upto_all (zs : List Int) : upto (fun j => zs[j]?.getD 0) zs.length = zs := by
  apply List.ext_getElem
  · simp [upto]
  · intro i h1 h2
    simp [upto, h2]
theorem upto_take (zs : List Int) {k : Nat} (hk : k ≤ zs.length) : upto (fun j => zs[j]?.getD 0) k = zs.take k := by
  apply List.ext_getElem
  · simp [upto, hk]
  · intro i h1 h2
    have : i < zs.length := by simp [upto] at h1; omega
    simp [upto, this]
set_option maxRecDepth 100000 in
set_option maxHeartbeats 2000000 in
theorem values1_in (F : Fence) (n : Nat) (h7 : F.fn 282) (hro : F.round = none) (hn : 1 ≤ n) (l Bs o n₀ b off len cap : Nat) (zs : List Int) (hreach : len * 8 ≤ 140737488351232) (hb : b < n₀) (J Jx : List Int → World → Prop)
    (hY : ∀ pre x W, J pre W → pre.length < len → YieldAt F (n - 1) Tryz.prog l #[.int .i64 x] W fun e W' =>
      (e = .returned (.bool true) ∧ J (pre ++ [x]) W' ∧ Below n₀ W W') ∨ (e = .returned (.bool false) ∧ Jx (pre ++ [x]) W'))
    (W : World) (hBs : W.cell? ⟨Bs, o, none⟩ = some (.slice (some ⟨b, off, none⟩) len cap)) (hc : ∀ j, j < len → W.cell? ⟨b, off + j, none⟩ = some (.int .i64 (zs[j]?.getD 0))) (h0 : J [] W) :
    CallsIn F n Tryz.prog 282 #[.func (.yield l) #[] #[], .pointer (some ⟨Bs, o, none⟩)] W fun e W' => (∃ v, e = .returned v) ∧
      ((∃ ys, ys = upto (fun j => zs[j]?.getD 0) len ∧ J ys W') ∨ (∃ pre, (∃ k, k ≤ len ∧ pre = upto (fun j => zs[j]?.getD 0) k) ∧ Jx pre W')) := by
  refine callsIn_of_wp Tryz.func282 rfl h7 ?_ hro
  simp only [Tryz.ntmps282, List.size_toArray, List.length_cons, List.length_nil, Nat.reduceAdd, Nat.reduceSub, Array.replicate_succ, Array.replicate_zero, List.push_toArray, List.append_toArray, List.nil_append, List.cons_append]
  gi_wp2
  gi_loopw [7] (fun i wr => ∃ k : Nat, k ≤ len ∧ i = .int .i64 k ∧ J (upto (fun j => zs[j]?.getD 0) k) wr ∧ Below n₀ W wr)
    (fun i _ => len - (ival i).toNat)
  case atStart => exact ⟨0, Nat.zero_le _, rfl, h0, Below.refl _ _⟩
  case round =>
    obtain ⟨k, hk, rfl, hJs, hnx⟩ := hrel
    have hcx : k < len → wr.cell? ⟨b, off + k, none⟩ = some (.int .i64 (zs[k]?.getD 0)) := fun h => (hnx.cell (p := ⟨b, off + k, none⟩) hb).trans (hc k h)
    by_cases hlt : k < len
    · obtain ⟨fn, tmps, assign, body, hy, hR⟩ := hY _ (zs[k]?.getD 0) wr hJs (by rw [upto_length]; exact hlt)
      have hcx' := hcx hlt
      gi_wp2
      refine hR.mono ?_
      rintro e W3 (⟨rfl, hJ3, hk3⟩ | ⟨rfl, hJx3⟩)
      · gi_wp2
        go_roundw
        case rel => exact ⟨k + 1, by omega, by simp, by rw [upto_succ]; exact hJ3, hnx.trans hk3⟩
        case measure => simp [ival]; omega
      · gi_wp2
        refine bodyPost_ret (results_none rfl _ _ _) rfl ?_
        exact ⟨⟨_, rfl⟩, .inr ⟨_, ⟨k + 1, by omega, (upto_succ _ _).symm⟩, hJx3⟩⟩
    · obtain rfl : k = len := by omega
      gi_wp2
      go_end0
      exact ⟨⟨_, rfl⟩, .inl ⟨_, rfl, hJs⟩⟩
theorem values_stops (F : Fence) (n : Nat) (h7 : F.fn 282) (hro : F.round = none) (hn : 1 ≤ n) (Bs o n₀ b off cap : Nat) (zs : List Int) (hreach : zs.length * 8 ≤ 140737488351232) (w : World) (hBs : Bs < w.heap.size) (hn₀ : n₀ ≤ w.heap.size) (hb : b < n₀)
    (hc : w.cell? ⟨Bs, o, none⟩ = some (.slice (some ⟨b, off, none⟩) zs.length cap)) (hz : ∀ j, j < zs.length → w.cell? ⟨b, off + j, none⟩ = some (.int .i64 (zs[j]?.getD 0))) :
    SeqStopsK F n Tryz.prog 282 #[.pointer (some ⟨Bs, o, none⟩)] (fun x : Int => #[Value.int .i64 x]) (Below n₀) (fun ys => ys = zs) (fun pre => pre <+: zs) zs.length w := fun l J Jx W hW _ _ hY h0 => by
  have hc' := (hW.cell (p := ⟨Bs, o, none⟩) hBs).trans hc
  have hz' : ∀ j, j < zs.length → W.cell? ⟨b, off + j, none⟩ = some (.int .i64 (zs[j]?.getD 0)) := fun j hj => (hW.cell (p := ⟨b, off + j, none⟩) (Nat.lt_of_lt_of_le hb hn₀)).trans (hz j hj)
  refine (values1_in F n h7 hro hn l Bs o n₀ b off zs.length cap zs hreach hb J Jx hY W hc' hz' h0).mono ?_
  rintro e W' ⟨he, ⟨ys, rfl, hj⟩ | ⟨pre, ⟨k, hk, rfl⟩, hj⟩⟩
  · exact ⟨he, .inl ⟨_, upto_all zs, hj⟩⟩
  · exact ⟨he, .inr ⟨_, by rw [upto_take zs hk]; exact List.take_prefix _ _, hj⟩⟩
theorem info3 : (Tryz.prog.info? 3).map (fun i => (i.zero, i.size, i.bytes)) = some (some (.int .i64 0), 1, 8) := by kernel_rfl
set_option maxRecDepth 100000 in
set_option maxHeartbeats 2000000 in
/-- slices.AppendSeq(nil, slices.Values(zs)): a new slice of the same numbers. -/
theorem asqN_in (F : Fence) (n : Nat) (h3 : F.fn 335) (h7 : F.fn 282) (hro : F.round = none) (hn : 3 ≤ n) (Bs o b off cap : Nat) (zs : List Int) (hlen : zs.length ≤ maxLen) (hbytes : zs.length * 8 ≤ 140737488351232) (w : World) (hBs : Bs < w.heap.size) (hb : b < w.heap.size)
    (hc : w.cell? ⟨Bs, o, none⟩ = some (.slice (some ⟨b, off, none⟩) zs.length cap)) (hz : ∀ j, j < zs.length → w.cell? ⟨b, off + j, none⟩ = some (.int .i64 (zs[j]?.getD 0))) :
    CallsIn F n Tryz.prog 335 #[.slice none 0 0, .func (.func 282) #[] #[.pointer (some ⟨Bs, o, none⟩)]] w fun e W' => ∃ v, e = .returned v ∧ W'.ownsRow w.heap.size 3 1 v zs.length (zs.map (Value.int .i64)) ∧ (v = .slice none 0 0 ↔ zs = []) ∧ Below w.heap.size w W' := by
  have h1 : 1 ≤ n := by omega
  obtain ⟨i0, hi, hz0, hz1, hz2⟩ := info_parts info3
  refine callsIn_of_wp_marks Tryz.func335 rfl h3 ?_ hro
  simp only [Tryz.ntmps335, List.size_toArray, List.length_cons, List.length_nil, Nat.reduceAdd, Nat.reduceSub, Array.replicate_succ, Array.replicate_zero, List.push_toArray, List.append_toArray, List.nil_append, List.cons_append]
  gi_wp2
  have bO := Boxed.new w 76 (.slice none 0 0)
  have hB0 : Below w.heap.size w (w.alloc (.cells #[.slice none 0 0] 76)) := (Below.refl _ w).alloc (Nat.le_refl _) _
  refine wpIn_rangeFunc_ownG hro h1 (gf := 282) (lb := #[.pointer (some ⟨Bs, o, none⟩)]) rfl h7 (enters_of Tryz.func282 (by kernel_rfl) rfl)
    (values_stops F (n - 1) h7 hro (by omega) Bs o w.heap.size b off cap zs hbytes _ (by simp; omega) (by simp) hb ((hB0.cell (p := ⟨Bs, o, none⟩) hBs).trans hc) (fun j hj => (hB0.cell (p := ⟨b, off + j, none⟩) hb).trans (hz j hj))) belowK_t (belowK_b (by simp)) (Below.refl _ _) (fun _ => rfl)
    (fun pre W => (∃ v, Boxed W w.heap.size 76 v ∧ W.ownsRow w.heap.size 3 1 v pre.length (pre.map (Value.int .i64)) ∧ (v = .slice none 0 0 ↔ pre = [])) ∧ Below w.heap.size w W)
    (fun _ _ _ => False)
    (OwnFrom.and (Own.from (holdsRow_own w.heap.size w.heap.size 76 3 1 (fun pre : List Int => pre.length) (fun pre => pre.map (Value.int .i64)) (fun pre v => v = .slice none 0 0 ↔ pre = [])) _) (ownFrom_below (Nat.le_refl _) (by simp)))
    (fun _ _ _ _ _ hs _ _ => hs)
    ⟨⟨_, bO, World.ownsRow_nil _ _ _ _, by simp⟩, hB0⟩
    (fun x => { tmps := #[.slice none 0 0, .func (.func 282) #[] #[.pointer (some ⟨Bs, o, none⟩)], .pointer (some ⟨w.heap.size, 0, none⟩), undef, .slice none 0 0, .int .i64 x, .func (.func 282) #[] #[.pointer (some ⟨Bs, o, none⟩)], .int .i64 x, undef, undef, undef, undef, undef], defers := [] }) ?assign ?body ?done ?stop
  case assign =>
    intro l x W K hK
    gi_wp2
    exact hK
  case body =>
    rintro l pre x W ⟨⟨v, hv, hrow, hnil⟩, hB⟩ hlt
    have hc := hv.cell
    gi_wp2_with (gi_at_builtin; refine wpListIn_append_own _ rfl _ _ 76 rfl w.heap.size 3 i0 (.int .i64 0) 1 8 Tryz.underlying76 hi hz0 hz1 hz2 rfl (by decide) _ _ _ rfl (hrow.alloc _) ⟨W.heap.size, 0, none⟩ 1 1 [.int .i64 x] rfl rfl (cell_one_new _ _ _) (by simp [Value.oneCell']) (by omega) (by omega) (by have := hB.size; simp; omega) ?_; intro v' w1 hown' hgrow _; obtain ⟨g', cap', rfl⟩ := ownsRow_succ hown'; obtain ⟨hv1, hv2, hr2, hk2, hb2⟩ := hv.appended (by decide) hrow hB.size (Nat.le_refl _) hown' hgrow; have hc1 := hv1.cell; have hf1 := hv1.frozen)
    exact ⟨hk2.from _, hb2, ⟨_, hv2, by simpa using hr2, by simp⟩, hB.trans hb2⟩
  case done =>
    rintro D ys W hD rfl ⟨⟨v, hv, hrow, hnil⟩, hB⟩ hK
    have hc := hv.cell
    gi_wp2
    refine ⟨by simp, .inl ⟨_, _, rfl, run_takeDeferred hK, ?_⟩⟩
    exact ⟨_, results_tmp rfl _ _ _, v, rfl, ownsRow_putObj hrow _ hK rfl, hnil, hB.trans (belowK_b (w := w) (Nat.le_refl _) W D _ _ (by simp at hD; omega) hK rfl rfl)⟩
  case stop =>
    rintro D c pre W _ _ h _
    exact h.elim
end Go.Proofs.YtilmgiompalggaaGreatDoor.W
/- slices.Sort of ints, laid. -/
namespace Go.Proofs.YtilmgiompalggaaGreatDoor.W
open Go Go.RowKit Go.Shelf Go.Proofs
set_option maxRecDepth 1000000
def renS : Ren := ⟨fun k => if k = 5 then 84 else if k = 7 then 141 else if k = 8 then 142 else if k = 10 then 211 else if k = 11 then 212 else if k = 12 then 213 else if k = 13 then 214 else if k = 14 then 215 else if k = 15 then 216 else if k = 16 then 217 else if k = 17 then 218 else if k = 18 then 219 else if k = 19 then 220 else if k = 20 then 221 else if k = 30 then 283 else if k = 31 then 284 else if k = 32 then 285 else if k = 33 then 286 else if k = 34 then 287 else if k = 35 then 288 else if k = 40 then 336 else 0, fun k => if k = 0 then 0 else if k = 3 then 3 else if k = 4 then 4 else if k = 5 then 5 else if k = 9 then 9 else if k = 22 then 76 else if k = 23 then 76 else if k = 25 then 3 else if k = 32 then 278 else if k = 35 then 372 else if k = 36 then 373 else if k = 41 then 80 else if k = 44 then 22 else if k = 46 then 379 else if k = 53 then 435 else if k = 57 then 439 else if k = 63 then 499 else if k = 64 then 500 else 0, fun k => k⟩
theorem laysS : SlLaysM.n5 Tryz.prog renS where
  mixed := by kernel_rfl
  f5 := ⟨_, by kernel_rfl, Tryz.func84⟩
  f7 := ⟨_, by kernel_rfl, Tryz.func141⟩
  f8 := Tryz.func142
  f10 := ⟨_, by kernel_rfl, Tryz.func211⟩
  f11 := ⟨_, by kernel_rfl, Tryz.func212⟩
  f12 := ⟨_, by kernel_rfl, Tryz.func213⟩
  f13 := ⟨_, by kernel_rfl, Tryz.func214⟩
  f14 := ⟨_, by kernel_rfl, Tryz.func215⟩
  f15 := ⟨_, by kernel_rfl, Tryz.func216⟩
  f16 := ⟨_, by kernel_rfl, Tryz.func217⟩
  f17 := ⟨_, by kernel_rfl, Tryz.func218⟩
  f18 := ⟨_, by kernel_rfl, Tryz.func219⟩
  f19 := Tryz.func220
  f20 := Tryz.func221
  f30 := ⟨_, by kernel_rfl, Tryz.func283⟩
  f31 := Tryz.func284
  f32 := Tryz.func285
  f33 := ⟨_, by kernel_rfl, Tryz.func286⟩
  f34 := ⟨_, by kernel_rfl, Tryz.func287⟩
  f35 := ⟨_, by kernel_rfl, Tryz.func288⟩
  f40 := ⟨_, by kernel_rfl, Tryz.func336⟩
  t0 := by kernel_rfl
  a0 := fun w => by kernel_rfl
  z0 := fun w => by kernel_rfl
  v0 := fun w => by kernel_rfl
  t3 := by kernel_rfl
  a3 := fun w => by kernel_rfl
  z3 := fun w => by kernel_rfl
  v3 := fun w => by kernel_rfl
  t4 := by kernel_rfl
  a4 := fun w => by kernel_rfl
  z4 := fun w => by kernel_rfl
  v4 := fun w => by kernel_rfl
  t5 := by kernel_rfl
  a5 := fun w => by kernel_rfl
  z5 := fun w => by kernel_rfl
  v5 := fun w => by kernel_rfl
  t9 := by kernel_rfl
  a9 := fun w => by kernel_rfl
  z9 := fun w => by kernel_rfl
  v9 := fun w => by kernel_rfl
  t22 := by kernel_rfl
  a22 := fun w => by kernel_rfl
  z22 := fun w => by kernel_rfl
  v22 := fun w => by kernel_rfl
  t23 := by kernel_rfl
  a23 := fun w => by kernel_rfl
  z23 := fun w => by kernel_rfl
  v23 := fun w => by kernel_rfl
  t25 := by kernel_rfl
  a25 := fun w => by kernel_rfl
  z25 := fun w => by kernel_rfl
  v25 := fun w => by kernel_rfl
  t32 := by kernel_rfl
  a32 := fun w => by kernel_rfl
  z32 := fun w => by kernel_rfl
  v32 := fun w => by kernel_rfl
  t35 := by kernel_rfl
  a35 := fun w => by kernel_rfl
  z35 := fun w => by kernel_rfl
  v35 := fun w => by kernel_rfl
  t36 := by kernel_rfl
  a36 := fun w => by kernel_rfl
  z36 := fun w => by kernel_rfl
  v36 := fun w => by kernel_rfl
  t41 := by kernel_rfl
  a41 := fun w => by kernel_rfl
  z41 := fun w => by kernel_rfl
  v41 := fun w => by kernel_rfl
  t44 := by kernel_rfl
  a44 := fun w => by kernel_rfl
  z44 := fun w => by kernel_rfl
  v44 := fun w => by kernel_rfl
  t46 := by kernel_rfl
  a46 := fun w => by kernel_rfl
  z46 := fun w => by kernel_rfl
  v46 := fun w => by kernel_rfl
  t53 := by kernel_rfl
  a53 := fun w => by kernel_rfl
  z53 := fun w => by kernel_rfl
  v53 := fun w => by kernel_rfl
  t57 := by kernel_rfl
  a57 := fun w => by kernel_rfl
  z57 := fun w => by kernel_rfl
  v57 := fun w => by kernel_rfl
  t63 := by kernel_rfl
  a63 := fun w => by kernel_rfl
  z63 := fun w => by kernel_rfl
  v63 := fun w => by kernel_rfl
  t64 := by kernel_rfl
  a64 := fun w => by kernel_rfl
  z64 := fun w => by kernel_rfl
  v64 := fun w => by kernel_rfl
end Go.Proofs.YtilmgiompalggaaGreatDoor.W
/- slices.Sorted of slices.Values: so many numbers. -/
namespace Go.Proofs.YtilmgiompalggaaGreatDoor.W
open Go Go.RowKit Go.Shelf Go.Maps Go.Sort Go.Proofs
attribute [local go_sem] Oper.semAt_some
set_option maxRecDepth 100000 in
set_option maxHeartbeats 2000000 in
theorem collect_in (Bs o b off cap : Nat) (zs : List Int) (hlen : zs.length ≤ maxLen) (hbytes : zs.length * 8 ≤ 140737488351232) (w : World) (hBs : Bs < w.heap.size) (hb : b < w.heap.size)
    (hc : w.cell? ⟨Bs, o, none⟩ = some (.slice (some ⟨b, off, none⟩) zs.length cap)) (hz : ∀ j, j < zs.length → w.cell? ⟨b, off + j, none⟩ = some (.int .i64 (zs[j]?.getD 0))) :
    CallsIn Fence.wide 4 Tryz.prog 281 #[.func (.func 282) #[] #[.pointer (some ⟨Bs, o, none⟩)]] w fun e W' => ∃ v, e = .returned v ∧ W'.ownsRow w.heap.size 3 1 v zs.length (zs.map (Value.int .i64)) ∧ (v = .slice none 0 0 ↔ zs = []) ∧ Below w.heap.size w W' := by
  have cA := asqN_in Fence.wide 3 trivial trivial rfl (by omega) Bs o b off cap zs hlen hbytes w hBs hb hc hz
  have hf : Fence.wide.fn 335 := trivial
  refine callsIn_of_wp Tryz.func281 rfl trivial ?_ rfl
  simp only [Tryz.ntmps281, List.size_toArray, List.length_cons, List.length_nil, Nat.reduceAdd, Nat.reduceSub, Array.replicate_succ, Array.replicate_zero, List.push_toArray, List.append_toArray, List.nil_append, List.cons_append]
  gi_wp2_with (gi_at_call 335; refine cA.mono ?_; rintro e w' ⟨v, rfl, hrow, hnil, hbl⟩)
  go_ret
  exact ⟨v, rfl, hrow, hnil, hbl⟩
set_option maxRecDepth 100000 in
set_option maxHeartbeats 2000000 in
theorem sorted_in (Bs o b off cap : Nat) (zs : List Int) (hlen : zs.length ≤ maxLen) (hbytes : zs.length * 8 ≤ 140737488351232) (h0 : zs ≠ []) (w : World) (hBs : Bs < w.heap.size) (hb : b < w.heap.size)
    (hc : w.cell? ⟨Bs, o, none⟩ = some (.slice (some ⟨b, off, none⟩) zs.length cap)) (hz : ∀ j, j < zs.length → w.cell? ⟨b, off + j, none⟩ = some (.int .i64 (zs[j]?.getD 0))) :
    CallsIn Fence.wide 5 Tryz.prog 207 #[.func (.func 282) #[] #[.pointer (some ⟨Bs, o, none⟩)]] w fun e W' => ∃ v, e = .returned v ∧ W'.ownsRow w.heap.size 3 1 v zs.length ((zs.mergeSort (fun x y => decide (x ≤ y))).map (Value.int .i64)) ∧ Below w.heap.size w W' := by
  have cC := collect_in Bs o b off cap zs hlen hbytes w hBs hb hc hz
  have hf : Fence.wide.fn 281 := trivial
  have hf2 : Fence.wide.fn 84 := trivial
  refine callsIn_of_wp Tryz.func207 rfl trivial ?_ rfl
  simp only [Tryz.ntmps207, List.size_toArray, List.length_cons, List.length_nil, Nat.reduceAdd, Nat.reduceSub, Array.replicate_succ, Array.replicate_zero, List.push_toArray, List.append_toArray, List.nil_append, List.cons_append]
  gi_wp2_with (gi_at_call 281; refine cC.mono ?_; rintro e W ⟨v, rfl, hrow, hnil, hbl⟩)
  rcases hrow.2 with ⟨rfl, hz0⟩ | ⟨gb, cp, cur, rfl, hbase, hgb, r1, r2, r3, r4⟩
  · exact absurd (List.eq_nil_of_length_eq_zero hz0) h0
  · have hH : Holds encZ W gb 0 zs.toArray := holds_of_block_i hgb (by simpa [encZ] using r4)
    have hgl : gb < W.heap.size := (Array.getElem?_eq_some_iff.1 hgb).1
    have cS : CallsIn Fence.wide 4 Tryz.prog 84 #[.slice (some ⟨gb, 0, none⟩) zs.length cp] W fun e w' => e = .returned (.tuple #[]) ∧ ∃ n os, w' = grow (putRow (Value.int .i64) (Sort.ahead W n) gb 0 (zs.mergeSort fun x y => decide (x ≤ y)).toArray) os := callsIn_wide.2 (AnyM.slices_Sort_int laysS gb 0 cp zs W hH hgl (by unfold maxLen at hlen; omega))
    gi_wp2_with (gi_at_call 84; refine cS.mono ?_; rintro e w' ⟨rfl, nn, os, rfl⟩)
    go_ret
    exact ⟨_, rfl, ownsRow_sorted_i (by simp) hbase hgb r1 r2 r3, hbl.grown (grownBy_sorted_i _) hbl.size (fun j hj => by cases hj; exact hbase)⟩
end Go.Proofs.YtilmgiompalggaaGreatDoor.W
/- slices.Sorted of slices.Values, as a summary: so many numbers. -/
namespace Go.Proofs.YtilmgiompalggaaGreatDoor.W
open Go Go.RowKit Go.Eng Go.Proofs
noncomputable section
def srtA (g282 : FuncId) (ars : List AV) (H : AH) : Option (Nat × Nat × Nat × List Int) := match ars with
  | [.fn (.func g) [] [.ptr b k j]] => bif Nat.beq g g282 then match H.get b with
    | some y => bif y.c.inb y.st k j then match y.c.val y.st k j with
      | .sl b2 k2 j2 n _ _ => bif Nat.beq j2 0 then match H.get b2 with
        | some z => match z.c with
          | .ints .i64 l => bif Nat.beq z.st 1 then some (b2, k2, n, l) else none
          | _ => none
        | none => none else none
      | _ => none else none
    | none => none else none
  | _ => none
def srtK (f207 g282 : FuncId) : OrcK := fun f ars H K =>
  bif Nat.beq f f207 then match srtA g282 ars H with
    | some (_, k2, n, l) => some (1 ≤ n ∧ n ≤ 1048576 ∧ k2 + n ≤ l.length ∧ ∀ ys : List Int, ys.length = n → K (.ret (.sl H.next 0 0 n n false)) (H.push ⟨true, 1, .ints .i64 ys⟩))
    | none => none else none
theorem srtA_of {g : FuncId} {ars : List AV} {H : AH} {b2 k2 n : Nat} {l : List Int} (h : srtA g ars H = some (b2, k2, n, l)) : ∃ b k j y c ex z, ars = [.fn (.func g) [] [.ptr b k j]] ∧ H.get b = some y ∧ y.c.inb y.st k j = true ∧ y.c.val y.st k j = .sl b2 k2 0 n c ex ∧ H.get b2 = some z ∧ z.c = .ints .i64 l ∧ z.st = 1 := by
  unfold srtA at h
  split at h
  · rename_i g' b k j
    rcases h1 : Nat.beq g' g with _ | _
    · rw [h1] at h; cases h
    · rw [h1] at h
      simp only [cond_true] at h
      split at h
      · rename_i y hy
        rcases h2 : y.c.inb y.st k j with _ | _
        · rw [h2] at h; cases h
        · rw [h2] at h
          simp only [cond_true] at h
          split at h
          · rename_i b3 k3 j3 n3 c3 ex3 hv
            rcases h3 : Nat.beq j3 0 with _ | _
            · rw [h3] at h; cases h
            · rw [h3] at h
              simp only [cond_true] at h
              split at h
              · rename_i z hz
                split at h
                · rename_i l3 hl
                  rcases h4 : Nat.beq z.st 1 with _ | _
                  · rw [h4] at h; cases h
                  · rw [h4] at h
                    simp only [cond_true, Option.some.injEq, Prod.mk.injEq] at h
                    obtain ⟨rfl, rfl, rfl, rfl⟩ := h
                    have e1 := Nat.eq_of_beq_eq_true h1
                    have e3 := Nat.eq_of_beq_eq_true h3
                    subst e1 e3
                    exact ⟨b, k, j, y, c3, ex3, z, rfl, hy, h2, hv, hz, hl, Nat.eq_of_beq_eq_true h4⟩
                · cases h
              · cases h
          · cases h
      · cases h
  · cases h
theorem srtK_ok : OrcKOK Tryz.prog (srtK 207 282) := by
  intro f ars H K p h hp
  unfold srtK at h
  rcases hf : Nat.beq f 207 with _ | _
  · rw [hf] at h; cases h
  · rw [hf] at h
    have ef := Nat.eq_of_beq_eq_true hf
    subst ef
    simp only [cond_true] at h
    split at h
    · rename_i b2 k2 n l hA
      cases h
      obtain ⟨h1, h2, h3, h4⟩ := hp
      obtain ⟨b, k, j, y, c, ex, z, rfl, hy, hi, hvv, hz, hzc, hzs⟩ := srtA_of hA
      intro μ w vs hv s
      obtain ⟨lo, hl, hb⟩ := s.blk b y hy
      obtain ⟨v, c1, c2, _⟩ := s.read hy hl hi
      rw [hvv] at c2
      obtain ⟨l2, A, c', r1, rfl, r3, r4, r5, r6, r7⟩ := c2
      have hA : A = l2.at k2 0 := by
        rcases r6 with q | q
        · exact q
        · omega
      subst hA
      have hb2 : BSat μ z l2 w := by
        obtain ⟨l', q1, q2⟩ := s.blk b2 z hz
        rw [r1] at q1; cases q1
        exact q2
      have hst : l2.st = 1 := by
        unfold BSat at hb2
        rw [hzc] at hb2
        exact hb2.1.trans hzs
      have hvs : vs = #[.func (.func 282) #[] #[.pointer (some (lo.at k j))]] := by
        obtain ⟨vs⟩ := vs
        match vs, hv with
        | [x2], ⟨q2, _⟩ =>
          obtain ⟨a', c0, rfl, e2, e3⟩ := q2
          obtain ⟨a'⟩ := a'
          obtain ⟨c0⟩ := c0
          match a', e2 with
          | [], _ =>
            match c0, e3 with
            | [x3], ⟨⟨l', g1, g2⟩, _⟩ =>
              rw [hl] at g1
              cases g1
              rw [g2]
      subst hvs
      have hlz : ((l.drop k2).take n).length = n := by rw [List.length_take, List.length_drop]; omega
      have cells : ∀ i, i < ((l.drop k2).take n).length → w.cell? ⟨l2.blk, l2.off + k2 * l2.st + 0 + i, none⟩ = some (.int .i64 (((l.drop k2).take n)[i]?.getD 0)) := by
        intro i hi
        rw [hlz] at hi
        have hin : z.c.inb z.st (k2 + i) 0 = true := by
          rw [hzc, hzs]
          simp [AC.inb]
          omega
        obtain ⟨v, d1, d2, _⟩ := s.read hz r1 hin
        rw [hzc, hzs] at d2
        have e : (l2.at (k2 + i) 0) = ⟨l2.blk, l2.off + k2 * l2.st + 0 + i, none⟩ := by
          unfold Loc.at
          rw [hst]
          congr 1
          omega
        rw [← e, d1]
        have hg : (((l.drop k2).take n)[i]?).getD 0 = l.getD (k2 + i) 0 := by
          rw [List.getElem?_take, if_pos hi, List.getElem?_drop, List.getD_eq_getElem?_getD]
        rw [hg]
        simpa [AC.val, VRel] using d2
      have key := sorted_in lo.blk (lo.off + k * lo.st + j) l2.blk (l2.off + k2 * l2.st + 0) c' ((l.drop k2).take n) (by rw [hlz]; unfold maxLen; omega) (by rw [hlz]; omega) (by intro e; rw [e] at hlz; simp at hlz; omega) w hb.blk_lt hb2.blk_lt (by rw [hlz]; exact c1) cells
      refine Calls.mono (callsIn_wide.1 key) (fun e w' hq => ?_)
      obtain ⟨v, rfl, hrow, hbl⟩ := hq
      generalize hys : ((l.drop k2).take n).mergeSort (fun x y => decide (x ≤ y)) = ys at hrow
      have hyl : ys.length = n := by rw [← hys, List.length_mergeSort, hlz]
      rw [hlz] at hrow
      obtain ⟨_, ⟨_, e0⟩ | ⟨gb, cap, cur, rfl, hbase, hgb, t1, t2, t3, t4⟩⟩ := hrow
      · omega
      · have hbs : BSat (μ.add H.next ⟨gb, 0, 1, cap⟩) ⟨true, 1, .ints .i64 ys⟩ ⟨gb, 0, 1, cap⟩ w' := by
          refine ⟨rfl, cur, _, _, hgb, fun _ => ⟨.inl rfl, by show 0 + cap * 1 ≤ cur.size; omega⟩, fun k j hkj => ?_⟩
          have hk : k + j < ys.length := by simpa [AC.inb] using hkj
          have hc0 : cur.toList[k + j]? = some (.int .i64 (ys.getD (k + j) 0)) := by
            have t4 : cur.toList.take (n * 1) = ys.map (Value.int .i64) := t4
            have : (cur.toList.take (n * 1))[k + j]? = (ys.map (Value.int .i64))[k + j]? := by rw [t4]
            rw [List.getElem?_take, if_pos (by omega), List.getElem?_map, List.getElem?_eq_getElem hk] at this
            rw [this, List.getD_eq_getElem?_getD, List.getElem?_eq_getElem hk]
            rfl
          refine ⟨.int .i64 (ys.getD (k + j) 0), by simpa using hc0, ?_, rfl⟩
          simp [AC.val, VRel]
        obtain ⟨g1, g2⟩ := s.fresh_blk hbl hbase hbs
        refine ⟨_, _, _, h4 ys hyl, ⟨_, rfl, ⟨gb, 0, 1, cap⟩, ⟨gb, 0, none⟩, cap, ?_, rfl, Nat.le_refl _, t1, fun e => (by cases e), .inl rfl, fun _ => ⟨rfl, Nat.le_refl _⟩⟩, g1, g2⟩
        unfold Mu.add; rw [if_pos rfl]
    · cases h
end
end Go.Proofs.YtilmgiompalggaaGreatDoor.W
