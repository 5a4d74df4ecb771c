/- A guest's state laid: the walk. No condition. -/
import Derived.Test.YtmbcpmbpkdeioaaDoorF30
import Derived.KernelRfl
namespace Go.Proofs.YtmbcpmbpkdeioaaDoor.W
open Go Go.RowKit Go.Eng
set_option maxRecDepth 100000
set_option linter.unusedVariables false
set_option linter.unusedSimpArgs false
def n8f0_c_V (out : List Int) (ex : Bool) (s : St) : Prop :=
  sp (decide (IntKind.u64.wrap s.r0 = IntKind.u64.wrap s.r0)) (sp (decide (s.r0 = s.r0)) (sp (out.length.beq out.length && out.length.beq out.length && ex == ex) ((putN (IntKind.u64.wrap s.r0)).length.le 900 ∧ [] ++ [AV.nils, nL (IntKind.u64.wrap s.r0)] ++ [] = [AV.nils, nL (IntKind.u64.wrap s.r0)] ∧ True ∧ (∀ (y : Unit), True → sp (out.length.beq out.length && out.length.beq out.length && ex == ex) (sp (decide (0 + (putN (IntKind.u64.wrap s.r0)).length ≤ (putN (IntKind.u64.wrap s.r0)).length) && (decide (0 + out.length ≤ out.length) && true && true && true && (!ex || decide (out.length = out.length) || decide (0 + out.length ≤ out.length)) && decide ((out.length + (putN (IntKind.u64.wrap s.r0)).length) * 1 ≤ 140737488355328) && decide (out.length + (putN (IntKind.u64.wrap s.r0)).length ≤ 9223372036854775807))) (∃ (j : W8I), (j.out.length ≤ 900000000 + 10 * j.k ∧ j.k ≤ 8) ∧ 8 - j.k < 8 ∧
  [(true, LOut.mk (AX.exit 0) [] 4 [(0, bC [AV.sl 3 0 0 (j.out ++ encs (List.drop j.k j.s.rl)).length (j.out ++ encs (List.drop j.k j.s.rl)).length (j.ex && decide (8 ≤ j.k))]), (1, ABlk.mk true 19 (AC.cells [nU j.s.r0, nU j.s.r1, nU j.s.r2, nU j.s.r3, nU j.s.r4, nU j.s.r5, nU j.s.r6, nU j.s.r7, nU j.s.pc, nU j.s.ps, nU j.s.c0, nU j.s.c1, nU j.s.c2, nU j.s.c3, nU j.s.c4, nU j.s.c5, nU j.s.c6, nU j.s.c7, AV.bool j.s.h])), (3, bW ((j.out ++ encs (List.drop j.k j.s.rl))))])] = [(true, LOut.mk (AX.exit 0) [] 4 [(0, bC [AV.sl 3 0 0 (out ++ encs (List.drop 0 s.rl)).length (out ++ encs (List.drop 0 s.rl)).length (ex && false)]), (1, ABlk.mk true 19 (AC.cells [nU s.r0, nU s.r1, nU s.r2, nU s.r3, nU s.r4, nU s.r5, nU s.r6, nU s.r7, nU s.pc, nU s.ps, nU s.c0, nU s.c1, nU s.c2, nU s.c3, nU s.c4, nU s.c5, nU s.c6, nU s.c7, AV.bool s.h])), (3, bW ((out ++ encs (List.drop 0 s.rl))))])] ∧ (AV.ptr 0 0 0 =
  AV.ptr 0 0 0 ∧ AV.sl 1 0 0 8 8 true = AV.sl 1 0 0 8 8 true ∧ nI 8 = nI 8 ∧ nI 1 = nI (↑j.k : Int) ∧ True) ∧ bC (([AV.sl 3 0 0 out.length out.length ex].set 0 (AV.sl 5 0 0 (out.length + (putN (IntKind.u64.wrap s.r0)).length) (out.length + (putN (IntKind.u64.wrap s.r0)).length) false))) = bC [AV.sl 5 0 0 j.out.length j.out.length j.ex] ∧ ABlk.mk true 19 (AC.cells [nU s.r0, nU s.r1, nU s.r2, nU s.r3, nU s.r4, nU s.r5, nU s.r6, nU s.r7, nU s.pc, nU s.ps, nU s.c0, nU s.c1, nU s.c2, nU s.c3, nU s.c4, nU s.c5, nU s.c6, nU s.c7, AV.bool s.h]) = ABlk.mk true 19 (AC.cells [nU j.s.r0, nU j.s.r1, nU j.s.r2, nU j.s.r3, nU j.s.r4, nU j.s.r5, nU j.s.r6, nU j.s.r7, nU j.s.pc, nU j.s.ps, nU j.s.c0, nU j.s.c1, nU j.s.c2, nU j.s.c3, nU j.s.c4, nU j.s.c5, nU j.s.c6, nU j.s.c7, AV.bool j.s.h]) ∧ bW ((List.take out.length (List.drop 0 out) ++ List.take (putN (IntKind.u64.wrap s.r0)).length (List.drop 0 (putN
  (IntKind.u64.wrap s.r0))))) = bW j.out ∧ True) False) False) ∧ True) False) False) False
theorem n8f0_c_e (out : List Int) (ex : Bool) (s : St) : some (n8f0_c_V out ex s) = (some ((nums8L Go.Proofs.Tryd.prog 0 St.rl).body sp Go.Proofs.Tryd.prog (putC.orc sp) (drP sp Go.Proofs.Tryd.prog (putC.orc sp)) noLo 40 ⟨out, ex, 0, s⟩)) := by kernel_rfl
theorem n8f0_ok (out : List Int) (ex : Bool) (s : St) (h : out.length ≤ 900000000 + 10 * 0) : n8f0_c_V out ex s := by
  have hp := putN_w (s.r0)
  unfold n8f0_c_V
  have he : encs (St.rl s |>.drop 0) = putN (IntKind.wrap .u64 (s.r0)) ++ encs (St.rl s |>.drop 1) := rfl
  generalize hq : putN (IntKind.wrap .u64 (s.r0)) = q at *
  have b1 : q.length ≤ 900 := by omega
  have b2 : out.length + q.length ≤ 140737488355328 := by omega
  have b3 : out.length + q.length ≤ 9223372036854775807 := by omega
  simp only [sp, b1, b2, b3, decide_true, Bool.and_true, Bool.true_and, Nat.beq_refl, beq_self_eq_true, Nat.zero_add, Nat.mul_one, Nat.le_refl, Bool.or_true, true_and, and_true, List.nil_append, List.append_nil]
  refine ⟨b1, fun _ _ => ⟨⟨out ++ q, false, 1, s⟩, ⟨?_, ?_⟩, ?_, ?_, ?_⟩⟩
  · simp only [List.length_append]; omega
  · show 1 ≤ 8; omega
  · show 8 - 1 < 8; omega
  · rw [he]; simp
  · simp [St.av]
def n8f1_c_V (out : List Int) (ex : Bool) (s : St) : Prop :=
  sp (decide (IntKind.u64.wrap s.r1 = IntKind.u64.wrap s.r1)) (sp (decide (s.r1 = s.r1)) (sp (out.length.beq out.length && out.length.beq out.length && ex == ex) ((putN (IntKind.u64.wrap s.r1)).length.le 900 ∧ [] ++ [AV.nils, nL (IntKind.u64.wrap s.r1)] ++ [] = [AV.nils, nL (IntKind.u64.wrap s.r1)] ∧ True ∧ (∀ (y : Unit), True → sp (out.length.beq out.length && out.length.beq out.length && ex == ex) (sp (decide (0 + (putN (IntKind.u64.wrap s.r1)).length ≤ (putN (IntKind.u64.wrap s.r1)).length) && (decide (0 + out.length ≤ out.length) && true && true && true && (!ex || decide (out.length = out.length) || decide (0 + out.length ≤ out.length)) && decide ((out.length + (putN (IntKind.u64.wrap s.r1)).length) * 1 ≤ 140737488355328) && decide (out.length + (putN (IntKind.u64.wrap s.r1)).length ≤ 9223372036854775807))) (∃ (j : W8I), (j.out.length ≤ 900000000 + 10 * j.k ∧ j.k ≤ 8) ∧ 8 - j.k < 7 ∧
  [(true, LOut.mk (AX.exit 0) [] 4 [(0, bC [AV.sl 3 0 0 (j.out ++ encs (List.drop j.k j.s.rl)).length (j.out ++ encs (List.drop j.k j.s.rl)).length (j.ex && decide (8 ≤ j.k))]), (1, ABlk.mk true 19 (AC.cells [nU j.s.r0, nU j.s.r1, nU j.s.r2, nU j.s.r3, nU j.s.r4, nU j.s.r5, nU j.s.r6, nU j.s.r7, nU j.s.pc, nU j.s.ps, nU j.s.c0, nU j.s.c1, nU j.s.c2, nU j.s.c3, nU j.s.c4, nU j.s.c5, nU j.s.c6, nU j.s.c7, AV.bool j.s.h])), (3, bW ((j.out ++ encs (List.drop j.k j.s.rl))))])] = [(true, LOut.mk (AX.exit 0) [] 4 [(0, bC [AV.sl 3 0 0 (out ++ encs (List.drop 1 s.rl)).length (out ++ encs (List.drop 1 s.rl)).length (ex && false)]), (1, ABlk.mk true 19 (AC.cells [nU s.r0, nU s.r1, nU s.r2, nU s.r3, nU s.r4, nU s.r5, nU s.r6, nU s.r7, nU s.pc, nU s.ps, nU s.c0, nU s.c1, nU s.c2, nU s.c3, nU s.c4, nU s.c5, nU s.c6, nU s.c7, AV.bool s.h])), (3, bW ((out ++ encs (List.drop 1 s.rl))))])] ∧ (AV.ptr 0 0 0 =
  AV.ptr 0 0 0 ∧ AV.sl 1 0 0 8 8 true = AV.sl 1 0 0 8 8 true ∧ nI 8 = nI 8 ∧ nI 2 = nI (↑j.k : Int) ∧ True) ∧ bC (([AV.sl 3 0 0 out.length out.length ex].set 0 (AV.sl 5 0 0 (out.length + (putN (IntKind.u64.wrap s.r1)).length) (out.length + (putN (IntKind.u64.wrap s.r1)).length) false))) = bC [AV.sl 5 0 0 j.out.length j.out.length j.ex] ∧ ABlk.mk true 19 (AC.cells [nU s.r0, nU s.r1, nU s.r2, nU s.r3, nU s.r4, nU s.r5, nU s.r6, nU s.r7, nU s.pc, nU s.ps, nU s.c0, nU s.c1, nU s.c2, nU s.c3, nU s.c4, nU s.c5, nU s.c6, nU s.c7, AV.bool s.h]) = ABlk.mk true 19 (AC.cells [nU j.s.r0, nU j.s.r1, nU j.s.r2, nU j.s.r3, nU j.s.r4, nU j.s.r5, nU j.s.r6, nU j.s.r7, nU j.s.pc, nU j.s.ps, nU j.s.c0, nU j.s.c1, nU j.s.c2, nU j.s.c3, nU j.s.c4, nU j.s.c5, nU j.s.c6, nU j.s.c7, AV.bool j.s.h]) ∧ bW ((List.take out.length (List.drop 0 out) ++ List.take (putN (IntKind.u64.wrap s.r1)).length (List.drop 0 (putN
  (IntKind.u64.wrap s.r1))))) = bW j.out ∧ True) False) False) ∧ True) False) False) False
theorem n8f1_c_e (out : List Int) (ex : Bool) (s : St) : some (n8f1_c_V out ex s) = (some ((nums8L Go.Proofs.Tryd.prog 0 St.rl).body sp Go.Proofs.Tryd.prog (putC.orc sp) (drP sp Go.Proofs.Tryd.prog (putC.orc sp)) noLo 40 ⟨out, ex, 1, s⟩)) := by kernel_rfl
theorem n8f1_ok (out : List Int) (ex : Bool) (s : St) (h : out.length ≤ 900000000 + 10 * 1) : n8f1_c_V out ex s := by
  have hp := putN_w (s.r1)
  unfold n8f1_c_V
  have he : encs (St.rl s |>.drop 1) = putN (IntKind.wrap .u64 (s.r1)) ++ encs (St.rl s |>.drop 2) := rfl
  generalize hq : putN (IntKind.wrap .u64 (s.r1)) = q at *
  have b1 : q.length ≤ 900 := by omega
  have b2 : out.length + q.length ≤ 140737488355328 := by omega
  have b3 : out.length + q.length ≤ 9223372036854775807 := by omega
  simp only [sp, b1, b2, b3, decide_true, Bool.and_true, Bool.true_and, Nat.beq_refl, beq_self_eq_true, Nat.zero_add, Nat.mul_one, Nat.le_refl, Bool.or_true, true_and, and_true, List.nil_append, List.append_nil]
  refine ⟨b1, fun _ _ => ⟨⟨out ++ q, false, 2, s⟩, ⟨?_, ?_⟩, ?_, ?_, ?_⟩⟩
  · simp only [List.length_append]; omega
  · show 2 ≤ 8; omega
  · show 8 - 2 < 7; omega
  · rw [he]; simp
  · simp [St.av]
def n8f2_c_V (out : List Int) (ex : Bool) (s : St) : Prop :=
  sp (decide (IntKind.u64.wrap s.r2 = IntKind.u64.wrap s.r2)) (sp (decide (s.r2 = s.r2)) (sp (out.length.beq out.length && out.length.beq out.length && ex == ex) ((putN (IntKind.u64.wrap s.r2)).length.le 900 ∧ [] ++ [AV.nils, nL (IntKind.u64.wrap s.r2)] ++ [] = [AV.nils, nL (IntKind.u64.wrap s.r2)] ∧ True ∧ (∀ (y : Unit), True → sp (out.length.beq out.length && out.length.beq out.length && ex == ex) (sp (decide (0 + (putN (IntKind.u64.wrap s.r2)).length ≤ (putN (IntKind.u64.wrap s.r2)).length) && (decide (0 + out.length ≤ out.length) && true && true && true && (!ex || decide (out.length = out.length) || decide (0 + out.length ≤ out.length)) && decide ((out.length + (putN (IntKind.u64.wrap s.r2)).length) * 1 ≤ 140737488355328) && decide (out.length + (putN (IntKind.u64.wrap s.r2)).length ≤ 9223372036854775807))) (∃ (j : W8I), (j.out.length ≤ 900000000 + 10 * j.k ∧ j.k ≤ 8) ∧ 8 - j.k < 6 ∧
  [(true, LOut.mk (AX.exit 0) [] 4 [(0, bC [AV.sl 3 0 0 (j.out ++ encs (List.drop j.k j.s.rl)).length (j.out ++ encs (List.drop j.k j.s.rl)).length (j.ex && decide (8 ≤ j.k))]), (1, ABlk.mk true 19 (AC.cells [nU j.s.r0, nU j.s.r1, nU j.s.r2, nU j.s.r3, nU j.s.r4, nU j.s.r5, nU j.s.r6, nU j.s.r7, nU j.s.pc, nU j.s.ps, nU j.s.c0, nU j.s.c1, nU j.s.c2, nU j.s.c3, nU j.s.c4, nU j.s.c5, nU j.s.c6, nU j.s.c7, AV.bool j.s.h])), (3, bW ((j.out ++ encs (List.drop j.k j.s.rl))))])] = [(true, LOut.mk (AX.exit 0) [] 4 [(0, bC [AV.sl 3 0 0 (out ++ encs (List.drop 2 s.rl)).length (out ++ encs (List.drop 2 s.rl)).length (ex && false)]), (1, ABlk.mk true 19 (AC.cells [nU s.r0, nU s.r1, nU s.r2, nU s.r3, nU s.r4, nU s.r5, nU s.r6, nU s.r7, nU s.pc, nU s.ps, nU s.c0, nU s.c1, nU s.c2, nU s.c3, nU s.c4, nU s.c5, nU s.c6, nU s.c7, AV.bool s.h])), (3, bW ((out ++ encs (List.drop 2 s.rl))))])] ∧ (AV.ptr 0 0 0 =
  AV.ptr 0 0 0 ∧ AV.sl 1 0 0 8 8 true = AV.sl 1 0 0 8 8 true ∧ nI 8 = nI 8 ∧ nI 3 = nI (↑j.k : Int) ∧ True) ∧ bC (([AV.sl 3 0 0 out.length out.length ex].set 0 (AV.sl 5 0 0 (out.length + (putN (IntKind.u64.wrap s.r2)).length) (out.length + (putN (IntKind.u64.wrap s.r2)).length) false))) = bC [AV.sl 5 0 0 j.out.length j.out.length j.ex] ∧ ABlk.mk true 19 (AC.cells [nU s.r0, nU s.r1, nU s.r2, nU s.r3, nU s.r4, nU s.r5, nU s.r6, nU s.r7, nU s.pc, nU s.ps, nU s.c0, nU s.c1, nU s.c2, nU s.c3, nU s.c4, nU s.c5, nU s.c6, nU s.c7, AV.bool s.h]) = ABlk.mk true 19 (AC.cells [nU j.s.r0, nU j.s.r1, nU j.s.r2, nU j.s.r3, nU j.s.r4, nU j.s.r5, nU j.s.r6, nU j.s.r7, nU j.s.pc, nU j.s.ps, nU j.s.c0, nU j.s.c1, nU j.s.c2, nU j.s.c3, nU j.s.c4, nU j.s.c5, nU j.s.c6, nU j.s.c7, AV.bool j.s.h]) ∧ bW ((List.take out.length (List.drop 0 out) ++ List.take (putN (IntKind.u64.wrap s.r2)).length (List.drop 0 (putN
  (IntKind.u64.wrap s.r2))))) = bW j.out ∧ True) False) False) ∧ True) False) False) False
theorem n8f2_c_e (out : List Int) (ex : Bool) (s : St) : some (n8f2_c_V out ex s) = (some ((nums8L Go.Proofs.Tryd.prog 0 St.rl).body sp Go.Proofs.Tryd.prog (putC.orc sp) (drP sp Go.Proofs.Tryd.prog (putC.orc sp)) noLo 40 ⟨out, ex, 2, s⟩)) := by kernel_rfl
theorem n8f2_ok (out : List Int) (ex : Bool) (s : St) (h : out.length ≤ 900000000 + 10 * 2) : n8f2_c_V out ex s := by
  have hp := putN_w (s.r2)
  unfold n8f2_c_V
  have he : encs (St.rl s |>.drop 2) = putN (IntKind.wrap .u64 (s.r2)) ++ encs (St.rl s |>.drop 3) := rfl
  generalize hq : putN (IntKind.wrap .u64 (s.r2)) = q at *
  have b1 : q.length ≤ 900 := by omega
  have b2 : out.length + q.length ≤ 140737488355328 := by omega
  have b3 : out.length + q.length ≤ 9223372036854775807 := by omega
  simp only [sp, b1, b2, b3, decide_true, Bool.and_true, Bool.true_and, Nat.beq_refl, beq_self_eq_true, Nat.zero_add, Nat.mul_one, Nat.le_refl, Bool.or_true, true_and, and_true, List.nil_append, List.append_nil]
  refine ⟨b1, fun _ _ => ⟨⟨out ++ q, false, 3, s⟩, ⟨?_, ?_⟩, ?_, ?_, ?_⟩⟩
  · simp only [List.length_append]; omega
  · show 3 ≤ 8; omega
  · show 8 - 3 < 6; omega
  · rw [he]; simp
  · simp [St.av]
def n8f3_c_V (out : List Int) (ex : Bool) (s : St) : Prop :=
  sp (decide (IntKind.u64.wrap s.r3 = IntKind.u64.wrap s.r3)) (sp (decide (s.r3 = s.r3)) (sp (out.length.beq out.length && out.length.beq out.length && ex == ex) ((putN (IntKind.u64.wrap s.r3)).length.le 900 ∧ [] ++ [AV.nils, nL (IntKind.u64.wrap s.r3)] ++ [] = [AV.nils, nL (IntKind.u64.wrap s.r3)] ∧ True ∧ (∀ (y : Unit), True → sp (out.length.beq out.length && out.length.beq out.length && ex == ex) (sp (decide (0 + (putN (IntKind.u64.wrap s.r3)).length ≤ (putN (IntKind.u64.wrap s.r3)).length) && (decide (0 + out.length ≤ out.length) && true && true && true && (!ex || decide (out.length = out.length) || decide (0 + out.length ≤ out.length)) && decide ((out.length + (putN (IntKind.u64.wrap s.r3)).length) * 1 ≤ 140737488355328) && decide (out.length + (putN (IntKind.u64.wrap s.r3)).length ≤ 9223372036854775807))) (∃ (j : W8I), (j.out.length ≤ 900000000 + 10 * j.k ∧ j.k ≤ 8) ∧ 8 - j.k < 5 ∧
  [(true, LOut.mk (AX.exit 0) [] 4 [(0, bC [AV.sl 3 0 0 (j.out ++ encs (List.drop j.k j.s.rl)).length (j.out ++ encs (List.drop j.k j.s.rl)).length (j.ex && decide (8 ≤ j.k))]), (1, ABlk.mk true 19 (AC.cells [nU j.s.r0, nU j.s.r1, nU j.s.r2, nU j.s.r3, nU j.s.r4, nU j.s.r5, nU j.s.r6, nU j.s.r7, nU j.s.pc, nU j.s.ps, nU j.s.c0, nU j.s.c1, nU j.s.c2, nU j.s.c3, nU j.s.c4, nU j.s.c5, nU j.s.c6, nU j.s.c7, AV.bool j.s.h])), (3, bW ((j.out ++ encs (List.drop j.k j.s.rl))))])] = [(true, LOut.mk (AX.exit 0) [] 4 [(0, bC [AV.sl 3 0 0 (out ++ encs (List.drop 3 s.rl)).length (out ++ encs (List.drop 3 s.rl)).length (ex && false)]), (1, ABlk.mk true 19 (AC.cells [nU s.r0, nU s.r1, nU s.r2, nU s.r3, nU s.r4, nU s.r5, nU s.r6, nU s.r7, nU s.pc, nU s.ps, nU s.c0, nU s.c1, nU s.c2, nU s.c3, nU s.c4, nU s.c5, nU s.c6, nU s.c7, AV.bool s.h])), (3, bW ((out ++ encs (List.drop 3 s.rl))))])] ∧ (AV.ptr 0 0 0 =
  AV.ptr 0 0 0 ∧ AV.sl 1 0 0 8 8 true = AV.sl 1 0 0 8 8 true ∧ nI 8 = nI 8 ∧ nI 4 = nI (↑j.k : Int) ∧ True) ∧ bC (([AV.sl 3 0 0 out.length out.length ex].set 0 (AV.sl 5 0 0 (out.length + (putN (IntKind.u64.wrap s.r3)).length) (out.length + (putN (IntKind.u64.wrap s.r3)).length) false))) = bC [AV.sl 5 0 0 j.out.length j.out.length j.ex] ∧ ABlk.mk true 19 (AC.cells [nU s.r0, nU s.r1, nU s.r2, nU s.r3, nU s.r4, nU s.r5, nU s.r6, nU s.r7, nU s.pc, nU s.ps, nU s.c0, nU s.c1, nU s.c2, nU s.c3, nU s.c4, nU s.c5, nU s.c6, nU s.c7, AV.bool s.h]) = ABlk.mk true 19 (AC.cells [nU j.s.r0, nU j.s.r1, nU j.s.r2, nU j.s.r3, nU j.s.r4, nU j.s.r5, nU j.s.r6, nU j.s.r7, nU j.s.pc, nU j.s.ps, nU j.s.c0, nU j.s.c1, nU j.s.c2, nU j.s.c3, nU j.s.c4, nU j.s.c5, nU j.s.c6, nU j.s.c7, AV.bool j.s.h]) ∧ bW ((List.take out.length (List.drop 0 out) ++ List.take (putN (IntKind.u64.wrap s.r3)).length (List.drop 0 (putN
  (IntKind.u64.wrap s.r3))))) = bW j.out ∧ True) False) False) ∧ True) False) False) False
theorem n8f3_c_e (out : List Int) (ex : Bool) (s : St) : some (n8f3_c_V out ex s) = (some ((nums8L Go.Proofs.Tryd.prog 0 St.rl).body sp Go.Proofs.Tryd.prog (putC.orc sp) (drP sp Go.Proofs.Tryd.prog (putC.orc sp)) noLo 40 ⟨out, ex, 3, s⟩)) := by kernel_rfl
theorem n8f3_ok (out : List Int) (ex : Bool) (s : St) (h : out.length ≤ 900000000 + 10 * 3) : n8f3_c_V out ex s := by
  have hp := putN_w (s.r3)
  unfold n8f3_c_V
  have he : encs (St.rl s |>.drop 3) = putN (IntKind.wrap .u64 (s.r3)) ++ encs (St.rl s |>.drop 4) := rfl
  generalize hq : putN (IntKind.wrap .u64 (s.r3)) = q at *
  have b1 : q.length ≤ 900 := by omega
  have b2 : out.length + q.length ≤ 140737488355328 := by omega
  have b3 : out.length + q.length ≤ 9223372036854775807 := by omega
  simp only [sp, b1, b2, b3, decide_true, Bool.and_true, Bool.true_and, Nat.beq_refl, beq_self_eq_true, Nat.zero_add, Nat.mul_one, Nat.le_refl, Bool.or_true, true_and, and_true, List.nil_append, List.append_nil]
  refine ⟨b1, fun _ _ => ⟨⟨out ++ q, false, 4, s⟩, ⟨?_, ?_⟩, ?_, ?_, ?_⟩⟩
  · simp only [List.length_append]; omega
  · show 4 ≤ 8; omega
  · show 8 - 4 < 5; omega
  · rw [he]; simp
  · simp [St.av]
def n8f4_c_V (out : List Int) (ex : Bool) (s : St) : Prop :=
  sp (decide (IntKind.u64.wrap s.r4 = IntKind.u64.wrap s.r4)) (sp (decide (s.r4 = s.r4)) (sp (out.length.beq out.length && out.length.beq out.length && ex == ex) ((putN (IntKind.u64.wrap s.r4)).length.le 900 ∧ [] ++ [AV.nils, nL (IntKind.u64.wrap s.r4)] ++ [] = [AV.nils, nL (IntKind.u64.wrap s.r4)] ∧ True ∧ (∀ (y : Unit), True → sp (out.length.beq out.length && out.length.beq out.length && ex == ex) (sp (decide (0 + (putN (IntKind.u64.wrap s.r4)).length ≤ (putN (IntKind.u64.wrap s.r4)).length) && (decide (0 + out.length ≤ out.length) && true && true && true && (!ex || decide (out.length = out.length) || decide (0 + out.length ≤ out.length)) && decide ((out.length + (putN (IntKind.u64.wrap s.r4)).length) * 1 ≤ 140737488355328) && decide (out.length + (putN (IntKind.u64.wrap s.r4)).length ≤ 9223372036854775807))) (∃ (j : W8I), (j.out.length ≤ 900000000 + 10 * j.k ∧ j.k ≤ 8) ∧ 8 - j.k < 4 ∧
  [(true, LOut.mk (AX.exit 0) [] 4 [(0, bC [AV.sl 3 0 0 (j.out ++ encs (List.drop j.k j.s.rl)).length (j.out ++ encs (List.drop j.k j.s.rl)).length (j.ex && decide (8 ≤ j.k))]), (1, ABlk.mk true 19 (AC.cells [nU j.s.r0, nU j.s.r1, nU j.s.r2, nU j.s.r3, nU j.s.r4, nU j.s.r5, nU j.s.r6, nU j.s.r7, nU j.s.pc, nU j.s.ps, nU j.s.c0, nU j.s.c1, nU j.s.c2, nU j.s.c3, nU j.s.c4, nU j.s.c5, nU j.s.c6, nU j.s.c7, AV.bool j.s.h])), (3, bW ((j.out ++ encs (List.drop j.k j.s.rl))))])] = [(true, LOut.mk (AX.exit 0) [] 4 [(0, bC [AV.sl 3 0 0 (out ++ encs (List.drop 4 s.rl)).length (out ++ encs (List.drop 4 s.rl)).length (ex && false)]), (1, ABlk.mk true 19 (AC.cells [nU s.r0, nU s.r1, nU s.r2, nU s.r3, nU s.r4, nU s.r5, nU s.r6, nU s.r7, nU s.pc, nU s.ps, nU s.c0, nU s.c1, nU s.c2, nU s.c3, nU s.c4, nU s.c5, nU s.c6, nU s.c7, AV.bool s.h])), (3, bW ((out ++ encs (List.drop 4 s.rl))))])] ∧ (AV.ptr 0 0 0 =
  AV.ptr 0 0 0 ∧ AV.sl 1 0 0 8 8 true = AV.sl 1 0 0 8 8 true ∧ nI 8 = nI 8 ∧ nI 5 = nI (↑j.k : Int) ∧ True) ∧ bC (([AV.sl 3 0 0 out.length out.length ex].set 0 (AV.sl 5 0 0 (out.length + (putN (IntKind.u64.wrap s.r4)).length) (out.length + (putN (IntKind.u64.wrap s.r4)).length) false))) = bC [AV.sl 5 0 0 j.out.length j.out.length j.ex] ∧ ABlk.mk true 19 (AC.cells [nU s.r0, nU s.r1, nU s.r2, nU s.r3, nU s.r4, nU s.r5, nU s.r6, nU s.r7, nU s.pc, nU s.ps, nU s.c0, nU s.c1, nU s.c2, nU s.c3, nU s.c4, nU s.c5, nU s.c6, nU s.c7, AV.bool s.h]) = ABlk.mk true 19 (AC.cells [nU j.s.r0, nU j.s.r1, nU j.s.r2, nU j.s.r3, nU j.s.r4, nU j.s.r5, nU j.s.r6, nU j.s.r7, nU j.s.pc, nU j.s.ps, nU j.s.c0, nU j.s.c1, nU j.s.c2, nU j.s.c3, nU j.s.c4, nU j.s.c5, nU j.s.c6, nU j.s.c7, AV.bool j.s.h]) ∧ bW ((List.take out.length (List.drop 0 out) ++ List.take (putN (IntKind.u64.wrap s.r4)).length (List.drop 0 (putN
  (IntKind.u64.wrap s.r4))))) = bW j.out ∧ True) False) False) ∧ True) False) False) False
theorem n8f4_c_e (out : List Int) (ex : Bool) (s : St) : some (n8f4_c_V out ex s) = (some ((nums8L Go.Proofs.Tryd.prog 0 St.rl).body sp Go.Proofs.Tryd.prog (putC.orc sp) (drP sp Go.Proofs.Tryd.prog (putC.orc sp)) noLo 40 ⟨out, ex, 4, s⟩)) := by kernel_rfl
theorem n8f4_ok (out : List Int) (ex : Bool) (s : St) (h : out.length ≤ 900000000 + 10 * 4) : n8f4_c_V out ex s := by
  have hp := putN_w (s.r4)
  unfold n8f4_c_V
  have he : encs (St.rl s |>.drop 4) = putN (IntKind.wrap .u64 (s.r4)) ++ encs (St.rl s |>.drop 5) := rfl
  generalize hq : putN (IntKind.wrap .u64 (s.r4)) = q at *
  have b1 : q.length ≤ 900 := by omega
  have b2 : out.length + q.length ≤ 140737488355328 := by omega
  have b3 : out.length + q.length ≤ 9223372036854775807 := by omega
  simp only [sp, b1, b2, b3, decide_true, Bool.and_true, Bool.true_and, Nat.beq_refl, beq_self_eq_true, Nat.zero_add, Nat.mul_one, Nat.le_refl, Bool.or_true, true_and, and_true, List.nil_append, List.append_nil]
  refine ⟨b1, fun _ _ => ⟨⟨out ++ q, false, 5, s⟩, ⟨?_, ?_⟩, ?_, ?_, ?_⟩⟩
  · simp only [List.length_append]; omega
  · show 5 ≤ 8; omega
  · show 8 - 5 < 4; omega
  · rw [he]; simp
  · simp [St.av]
def n8f5_c_V (out : List Int) (ex : Bool) (s : St) : Prop :=
  sp (decide (IntKind.u64.wrap s.r5 = IntKind.u64.wrap s.r5)) (sp (decide (s.r5 = s.r5)) (sp (out.length.beq out.length && out.length.beq out.length && ex == ex) ((putN (IntKind.u64.wrap s.r5)).length.le 900 ∧ [] ++ [AV.nils, nL (IntKind.u64.wrap s.r5)] ++ [] = [AV.nils, nL (IntKind.u64.wrap s.r5)] ∧ True ∧ (∀ (y : Unit), True → sp (out.length.beq out.length && out.length.beq out.length && ex == ex) (sp (decide (0 + (putN (IntKind.u64.wrap s.r5)).length ≤ (putN (IntKind.u64.wrap s.r5)).length) && (decide (0 + out.length ≤ out.length) && true && true && true && (!ex || decide (out.length = out.length) || decide (0 + out.length ≤ out.length)) && decide ((out.length + (putN (IntKind.u64.wrap s.r5)).length) * 1 ≤ 140737488355328) && decide (out.length + (putN (IntKind.u64.wrap s.r5)).length ≤ 9223372036854775807))) (∃ (j : W8I), (j.out.length ≤ 900000000 + 10 * j.k ∧ j.k ≤ 8) ∧ 8 - j.k < 3 ∧
  [(true, LOut.mk (AX.exit 0) [] 4 [(0, bC [AV.sl 3 0 0 (j.out ++ encs (List.drop j.k j.s.rl)).length (j.out ++ encs (List.drop j.k j.s.rl)).length (j.ex && decide (8 ≤ j.k))]), (1, ABlk.mk true 19 (AC.cells [nU j.s.r0, nU j.s.r1, nU j.s.r2, nU j.s.r3, nU j.s.r4, nU j.s.r5, nU j.s.r6, nU j.s.r7, nU j.s.pc, nU j.s.ps, nU j.s.c0, nU j.s.c1, nU j.s.c2, nU j.s.c3, nU j.s.c4, nU j.s.c5, nU j.s.c6, nU j.s.c7, AV.bool j.s.h])), (3, bW ((j.out ++ encs (List.drop j.k j.s.rl))))])] = [(true, LOut.mk (AX.exit 0) [] 4 [(0, bC [AV.sl 3 0 0 (out ++ encs (List.drop 5 s.rl)).length (out ++ encs (List.drop 5 s.rl)).length (ex && false)]), (1, ABlk.mk true 19 (AC.cells [nU s.r0, nU s.r1, nU s.r2, nU s.r3, nU s.r4, nU s.r5, nU s.r6, nU s.r7, nU s.pc, nU s.ps, nU s.c0, nU s.c1, nU s.c2, nU s.c3, nU s.c4, nU s.c5, nU s.c6, nU s.c7, AV.bool s.h])), (3, bW ((out ++ encs (List.drop 5 s.rl))))])] ∧ (AV.ptr 0 0 0 =
  AV.ptr 0 0 0 ∧ AV.sl 1 0 0 8 8 true = AV.sl 1 0 0 8 8 true ∧ nI 8 = nI 8 ∧ nI 6 = nI (↑j.k : Int) ∧ True) ∧ bC (([AV.sl 3 0 0 out.length out.length ex].set 0 (AV.sl 5 0 0 (out.length + (putN (IntKind.u64.wrap s.r5)).length) (out.length + (putN (IntKind.u64.wrap s.r5)).length) false))) = bC [AV.sl 5 0 0 j.out.length j.out.length j.ex] ∧ ABlk.mk true 19 (AC.cells [nU s.r0, nU s.r1, nU s.r2, nU s.r3, nU s.r4, nU s.r5, nU s.r6, nU s.r7, nU s.pc, nU s.ps, nU s.c0, nU s.c1, nU s.c2, nU s.c3, nU s.c4, nU s.c5, nU s.c6, nU s.c7, AV.bool s.h]) = ABlk.mk true 19 (AC.cells [nU j.s.r0, nU j.s.r1, nU j.s.r2, nU j.s.r3, nU j.s.r4, nU j.s.r5, nU j.s.r6, nU j.s.r7, nU j.s.pc, nU j.s.ps, nU j.s.c0, nU j.s.c1, nU j.s.c2, nU j.s.c3, nU j.s.c4, nU j.s.c5, nU j.s.c6, nU j.s.c7, AV.bool j.s.h]) ∧ bW ((List.take out.length (List.drop 0 out) ++ List.take (putN (IntKind.u64.wrap s.r5)).length (List.drop 0 (putN
  (IntKind.u64.wrap s.r5))))) = bW j.out ∧ True) False) False) ∧ True) False) False) False
theorem n8f5_c_e (out : List Int) (ex : Bool) (s : St) : some (n8f5_c_V out ex s) = (some ((nums8L Go.Proofs.Tryd.prog 0 St.rl).body sp Go.Proofs.Tryd.prog (putC.orc sp) (drP sp Go.Proofs.Tryd.prog (putC.orc sp)) noLo 40 ⟨out, ex, 5, s⟩)) := by kernel_rfl
theorem n8f5_ok (out : List Int) (ex : Bool) (s : St) (h : out.length ≤ 900000000 + 10 * 5) : n8f5_c_V out ex s := by
  have hp := putN_w (s.r5)
  unfold n8f5_c_V
  have he : encs (St.rl s |>.drop 5) = putN (IntKind.wrap .u64 (s.r5)) ++ encs (St.rl s |>.drop 6) := rfl
  generalize hq : putN (IntKind.wrap .u64 (s.r5)) = q at *
  have b1 : q.length ≤ 900 := by omega
  have b2 : out.length + q.length ≤ 140737488355328 := by omega
  have b3 : out.length + q.length ≤ 9223372036854775807 := by omega
  simp only [sp, b1, b2, b3, decide_true, Bool.and_true, Bool.true_and, Nat.beq_refl, beq_self_eq_true, Nat.zero_add, Nat.mul_one, Nat.le_refl, Bool.or_true, true_and, and_true, List.nil_append, List.append_nil]
  refine ⟨b1, fun _ _ => ⟨⟨out ++ q, false, 6, s⟩, ⟨?_, ?_⟩, ?_, ?_, ?_⟩⟩
  · simp only [List.length_append]; omega
  · show 6 ≤ 8; omega
  · show 8 - 6 < 3; omega
  · rw [he]; simp
  · simp [St.av]
def n8f6_c_V (out : List Int) (ex : Bool) (s : St) : Prop :=
  sp (decide (IntKind.u64.wrap s.r6 = IntKind.u64.wrap s.r6)) (sp (decide (s.r6 = s.r6)) (sp (out.length.beq out.length && out.length.beq out.length && ex == ex) ((putN (IntKind.u64.wrap s.r6)).length.le 900 ∧ [] ++ [AV.nils, nL (IntKind.u64.wrap s.r6)] ++ [] = [AV.nils, nL (IntKind.u64.wrap s.r6)] ∧ True ∧ (∀ (y : Unit), True → sp (out.length.beq out.length && out.length.beq out.length && ex == ex) (sp (decide (0 + (putN (IntKind.u64.wrap s.r6)).length ≤ (putN (IntKind.u64.wrap s.r6)).length) && (decide (0 + out.length ≤ out.length) && true && true && true && (!ex || decide (out.length = out.length) || decide (0 + out.length ≤ out.length)) && decide ((out.length + (putN (IntKind.u64.wrap s.r6)).length) * 1 ≤ 140737488355328) && decide (out.length + (putN (IntKind.u64.wrap s.r6)).length ≤ 9223372036854775807))) (∃ (j : W8I), (j.out.length ≤ 900000000 + 10 * j.k ∧ j.k ≤ 8) ∧ 8 - j.k < 2 ∧
  [(true, LOut.mk (AX.exit 0) [] 4 [(0, bC [AV.sl 3 0 0 (j.out ++ encs (List.drop j.k j.s.rl)).length (j.out ++ encs (List.drop j.k j.s.rl)).length (j.ex && decide (8 ≤ j.k))]), (1, ABlk.mk true 19 (AC.cells [nU j.s.r0, nU j.s.r1, nU j.s.r2, nU j.s.r3, nU j.s.r4, nU j.s.r5, nU j.s.r6, nU j.s.r7, nU j.s.pc, nU j.s.ps, nU j.s.c0, nU j.s.c1, nU j.s.c2, nU j.s.c3, nU j.s.c4, nU j.s.c5, nU j.s.c6, nU j.s.c7, AV.bool j.s.h])), (3, bW ((j.out ++ encs (List.drop j.k j.s.rl))))])] = [(true, LOut.mk (AX.exit 0) [] 4 [(0, bC [AV.sl 3 0 0 (out ++ encs (List.drop 6 s.rl)).length (out ++ encs (List.drop 6 s.rl)).length (ex && false)]), (1, ABlk.mk true 19 (AC.cells [nU s.r0, nU s.r1, nU s.r2, nU s.r3, nU s.r4, nU s.r5, nU s.r6, nU s.r7, nU s.pc, nU s.ps, nU s.c0, nU s.c1, nU s.c2, nU s.c3, nU s.c4, nU s.c5, nU s.c6, nU s.c7, AV.bool s.h])), (3, bW ((out ++ encs (List.drop 6 s.rl))))])] ∧ (AV.ptr 0 0 0 =
  AV.ptr 0 0 0 ∧ AV.sl 1 0 0 8 8 true = AV.sl 1 0 0 8 8 true ∧ nI 8 = nI 8 ∧ nI 7 = nI (↑j.k : Int) ∧ True) ∧ bC (([AV.sl 3 0 0 out.length out.length ex].set 0 (AV.sl 5 0 0 (out.length + (putN (IntKind.u64.wrap s.r6)).length) (out.length + (putN (IntKind.u64.wrap s.r6)).length) false))) = bC [AV.sl 5 0 0 j.out.length j.out.length j.ex] ∧ ABlk.mk true 19 (AC.cells [nU s.r0, nU s.r1, nU s.r2, nU s.r3, nU s.r4, nU s.r5, nU s.r6, nU s.r7, nU s.pc, nU s.ps, nU s.c0, nU s.c1, nU s.c2, nU s.c3, nU s.c4, nU s.c5, nU s.c6, nU s.c7, AV.bool s.h]) = ABlk.mk true 19 (AC.cells [nU j.s.r0, nU j.s.r1, nU j.s.r2, nU j.s.r3, nU j.s.r4, nU j.s.r5, nU j.s.r6, nU j.s.r7, nU j.s.pc, nU j.s.ps, nU j.s.c0, nU j.s.c1, nU j.s.c2, nU j.s.c3, nU j.s.c4, nU j.s.c5, nU j.s.c6, nU j.s.c7, AV.bool j.s.h]) ∧ bW ((List.take out.length (List.drop 0 out) ++ List.take (putN (IntKind.u64.wrap s.r6)).length (List.drop 0 (putN
  (IntKind.u64.wrap s.r6))))) = bW j.out ∧ True) False) False) ∧ True) False) False) False
theorem n8f6_c_e (out : List Int) (ex : Bool) (s : St) : some (n8f6_c_V out ex s) = (some ((nums8L Go.Proofs.Tryd.prog 0 St.rl).body sp Go.Proofs.Tryd.prog (putC.orc sp) (drP sp Go.Proofs.Tryd.prog (putC.orc sp)) noLo 40 ⟨out, ex, 6, s⟩)) := by kernel_rfl
theorem n8f6_ok (out : List Int) (ex : Bool) (s : St) (h : out.length ≤ 900000000 + 10 * 6) : n8f6_c_V out ex s := by
  have hp := putN_w (s.r6)
  unfold n8f6_c_V
  have he : encs (St.rl s |>.drop 6) = putN (IntKind.wrap .u64 (s.r6)) ++ encs (St.rl s |>.drop 7) := rfl
  generalize hq : putN (IntKind.wrap .u64 (s.r6)) = q at *
  have b1 : q.length ≤ 900 := by omega
  have b2 : out.length + q.length ≤ 140737488355328 := by omega
  have b3 : out.length + q.length ≤ 9223372036854775807 := by omega
  simp only [sp, b1, b2, b3, decide_true, Bool.and_true, Bool.true_and, Nat.beq_refl, beq_self_eq_true, Nat.zero_add, Nat.mul_one, Nat.le_refl, Bool.or_true, true_and, and_true, List.nil_append, List.append_nil]
  refine ⟨b1, fun _ _ => ⟨⟨out ++ q, false, 7, s⟩, ⟨?_, ?_⟩, ?_, ?_, ?_⟩⟩
  · simp only [List.length_append]; omega
  · show 7 ≤ 8; omega
  · show 8 - 7 < 2; omega
  · rw [he]; simp
  · simp [St.av]
def n8f7_c_V (out : List Int) (ex : Bool) (s : St) : Prop :=
  sp (decide (IntKind.u64.wrap s.r7 = IntKind.u64.wrap s.r7)) (sp (decide (s.r7 = s.r7)) (sp (out.length.beq out.length && out.length.beq out.length && ex == ex) ((putN (IntKind.u64.wrap s.r7)).length.le 900 ∧ [] ++ [AV.nils, nL (IntKind.u64.wrap s.r7)] ++ [] = [AV.nils, nL (IntKind.u64.wrap s.r7)] ∧ True ∧ (∀ (y : Unit), True → sp (out.length.beq out.length && out.length.beq out.length && ex == ex) (sp (decide (0 + (putN (IntKind.u64.wrap s.r7)).length ≤ (putN (IntKind.u64.wrap s.r7)).length) && (decide (0 + out.length ≤ out.length) && true && true && true && (!ex || decide (out.length = out.length) || decide (0 + out.length ≤ out.length)) && decide ((out.length + (putN (IntKind.u64.wrap s.r7)).length) * 1 ≤ 140737488355328) && decide (out.length + (putN (IntKind.u64.wrap s.r7)).length ≤ 9223372036854775807))) (∃ (j : W8I), (j.out.length ≤ 900000000 + 10 * j.k ∧ j.k ≤ 8) ∧ 8 - j.k < 1 ∧
  [(true, LOut.mk (AX.exit 0) [] 4 [(0, bC [AV.sl 3 0 0 (j.out ++ encs (List.drop j.k j.s.rl)).length (j.out ++ encs (List.drop j.k j.s.rl)).length (j.ex && decide (8 ≤ j.k))]), (1, ABlk.mk true 19 (AC.cells [nU j.s.r0, nU j.s.r1, nU j.s.r2, nU j.s.r3, nU j.s.r4, nU j.s.r5, nU j.s.r6, nU j.s.r7, nU j.s.pc, nU j.s.ps, nU j.s.c0, nU j.s.c1, nU j.s.c2, nU j.s.c3, nU j.s.c4, nU j.s.c5, nU j.s.c6, nU j.s.c7, AV.bool j.s.h])), (3, bW ((j.out ++ encs (List.drop j.k j.s.rl))))])] = [(true, LOut.mk (AX.exit 0) [] 4 [(0, bC [AV.sl 3 0 0 (out ++ encs (List.drop 7 s.rl)).length (out ++ encs (List.drop 7 s.rl)).length (ex && false)]), (1, ABlk.mk true 19 (AC.cells [nU s.r0, nU s.r1, nU s.r2, nU s.r3, nU s.r4, nU s.r5, nU s.r6, nU s.r7, nU s.pc, nU s.ps, nU s.c0, nU s.c1, nU s.c2, nU s.c3, nU s.c4, nU s.c5, nU s.c6, nU s.c7, AV.bool s.h])), (3, bW ((out ++ encs (List.drop 7 s.rl))))])] ∧ (AV.ptr 0 0 0 =
  AV.ptr 0 0 0 ∧ AV.sl 1 0 0 8 8 true = AV.sl 1 0 0 8 8 true ∧ nI 8 = nI 8 ∧ nI 8 = nI (↑j.k : Int) ∧ True) ∧ bC (([AV.sl 3 0 0 out.length out.length ex].set 0 (AV.sl 5 0 0 (out.length + (putN (IntKind.u64.wrap s.r7)).length) (out.length + (putN (IntKind.u64.wrap s.r7)).length) false))) = bC [AV.sl 5 0 0 j.out.length j.out.length j.ex] ∧ ABlk.mk true 19 (AC.cells [nU s.r0, nU s.r1, nU s.r2, nU s.r3, nU s.r4, nU s.r5, nU s.r6, nU s.r7, nU s.pc, nU s.ps, nU s.c0, nU s.c1, nU s.c2, nU s.c3, nU s.c4, nU s.c5, nU s.c6, nU s.c7, AV.bool s.h]) = ABlk.mk true 19 (AC.cells [nU j.s.r0, nU j.s.r1, nU j.s.r2, nU j.s.r3, nU j.s.r4, nU j.s.r5, nU j.s.r6, nU j.s.r7, nU j.s.pc, nU j.s.ps, nU j.s.c0, nU j.s.c1, nU j.s.c2, nU j.s.c3, nU j.s.c4, nU j.s.c5, nU j.s.c6, nU j.s.c7, AV.bool j.s.h]) ∧ bW ((List.take out.length (List.drop 0 out) ++ List.take (putN (IntKind.u64.wrap s.r7)).length (List.drop 0 (putN
  (IntKind.u64.wrap s.r7))))) = bW j.out ∧ True) False) False) ∧ True) False) False) False
theorem n8f7_c_e (out : List Int) (ex : Bool) (s : St) : some (n8f7_c_V out ex s) = (some ((nums8L Go.Proofs.Tryd.prog 0 St.rl).body sp Go.Proofs.Tryd.prog (putC.orc sp) (drP sp Go.Proofs.Tryd.prog (putC.orc sp)) noLo 40 ⟨out, ex, 7, s⟩)) := by kernel_rfl
theorem n8f7_ok (out : List Int) (ex : Bool) (s : St) (h : out.length ≤ 900000000 + 10 * 7) : n8f7_c_V out ex s := by
  have hp := putN_w (s.r7)
  unfold n8f7_c_V
  have he : encs (St.rl s |>.drop 7) = putN (IntKind.wrap .u64 (s.r7)) ++ encs (St.rl s |>.drop 8) := rfl
  generalize hq : putN (IntKind.wrap .u64 (s.r7)) = q at *
  have b1 : q.length ≤ 900 := by omega
  have b2 : out.length + q.length ≤ 140737488355328 := by omega
  have b3 : out.length + q.length ≤ 9223372036854775807 := by omega
  simp only [sp, b1, b2, b3, decide_true, Bool.and_true, Bool.true_and, Nat.beq_refl, beq_self_eq_true, Nat.zero_add, Nat.mul_one, Nat.le_refl, Bool.or_true, true_and, and_true, List.nil_append, List.append_nil]
  refine ⟨b1, fun _ _ => ⟨⟨out ++ q, false, 8, s⟩, ⟨?_, ?_⟩, ?_, ?_, ?_⟩⟩
  · simp only [List.length_append]; omega
  · show 8 ≤ 8; omega
  · show 8 - 8 < 1; omega
  · rw [he]; simp
  · simp [St.av]
def n8f8_c_V (out : List Int) (ex : Bool) (s : St) : Prop :=
  True ∧ bC [AV.sl 3 0 0 out.length out.length ex] = bC [AV.sl 3 0 0 (out ++ encs (List.drop 8 s.rl)).length (out ++ encs (List.drop 8 s.rl)).length (ex && true)] ∧ ABlk.mk true 19 (AC.cells [nU s.r0, nU s.r1, nU s.r2, nU s.r3, nU s.r4, nU s.r5, nU s.r6, nU s.r7, nU s.pc, nU s.ps, nU s.c0, nU s.c1, nU s.c2, nU s.c3, nU s.c4, nU s.c5, nU s.c6, nU s.c7, AV.bool s.h]) = ABlk.mk true 19 (AC.cells [nU s.r0, nU s.r1, nU s.r2, nU s.r3, nU s.r4, nU s.r5, nU s.r6, nU s.r7, nU s.pc, nU s.ps, nU s.c0, nU s.c1, nU s.c2, nU s.c3, nU s.c4, nU s.c5, nU s.c6, nU s.c7, AV.bool s.h]) ∧ bW out = bW ((out ++ encs (List.drop 8 s.rl))) ∧ True
theorem n8f8_c_e (out : List Int) (ex : Bool) (s : St) : some (n8f8_c_V out ex s) = (some ((nums8L Go.Proofs.Tryd.prog 0 St.rl).body sp Go.Proofs.Tryd.prog (putC.orc sp) (drP sp Go.Proofs.Tryd.prog (putC.orc sp)) noLo 40 ⟨out, ex, 8, s⟩)) := by kernel_rfl
theorem n8f8_ok (out : List Int) (ex : Bool) (s : St) (h : out.length ≤ 900000000 + 10 * 8) : n8f8_c_V out ex s := by
  have he : encs (St.rl s |>.drop 8) = [] := rfl
  simp [n8f8_c_V, he, St.av]
set_option maxRecDepth 100000 in
theorem n8fB (out : List Int) (ex : Bool) (k : Nat) (s : St) (h1 : out.length ≤ 900000000 + 10 * k) (h2 : k ≤ 8) : (nums8L Go.Proofs.Tryd.prog 0 St.rl).body sp Go.Proofs.Tryd.prog (putC.orc sp) (drP sp Go.Proofs.Tryd.prog (putC.orc sp)) noLo 40 ⟨out, ex, k, s⟩ := by
  have : k = 0 ∨ k = 1 ∨ k = 2 ∨ k = 3 ∨ k = 4 ∨ k = 5 ∨ k = 6 ∨ k = 7 ∨ k = 8 := by omega
  rcases this with e | e | e | e | e | e | e | e | e
  · rw [e] at h1 ⊢
    rw [← Option.some.inj (n8f0_c_e out ex s)]
    exact n8f0_ok out ex s h1
  · rw [e] at h1 ⊢
    rw [← Option.some.inj (n8f1_c_e out ex s)]
    exact n8f1_ok out ex s h1
  · rw [e] at h1 ⊢
    rw [← Option.some.inj (n8f2_c_e out ex s)]
    exact n8f2_ok out ex s h1
  · rw [e] at h1 ⊢
    rw [← Option.some.inj (n8f3_c_e out ex s)]
    exact n8f3_ok out ex s h1
  · rw [e] at h1 ⊢
    rw [← Option.some.inj (n8f4_c_e out ex s)]
    exact n8f4_ok out ex s h1
  · rw [e] at h1 ⊢
    rw [← Option.some.inj (n8f5_c_e out ex s)]
    exact n8f5_ok out ex s h1
  · rw [e] at h1 ⊢
    rw [← Option.some.inj (n8f6_c_e out ex s)]
    exact n8f6_ok out ex s h1
  · rw [e] at h1 ⊢
    rw [← Option.some.inj (n8f7_c_e out ex s)]
    exact n8f7_ok out ex s h1
  · rw [e] at h1 ⊢
    rw [← Option.some.inj (n8f8_c_e out ex s)]
    exact n8f8_ok out ex s h1
set_option maxRecDepth 100000 in
theorem n8fL_ok : (nums8L Go.Proofs.Tryd.prog 0 St.rl).OK Go.Proofs.Tryd.prog := by
  refine Lp.ok_of (Con.orc_ok putC_ok) (drP_ok hmix _ (Con.orc_ok putC_ok)) (noLo_ok _) (by decide) 40 (fun i hi => ?_)
  exact n8fB i.out i.ex i.k i.s hi.1 hi.2
def nums8f_c_V (x : W8) : Prop :=
  same (loopOf Proofs.Tryd.prog F_file_writer_numbers 0) (loopOf Proofs.Tryd.prog F_file_writer_numbers 0) ∧ (x.out.length ≤ 900000000 ∧ 0 ≤ 8) ∧ ((AV.ptr 0 0 0 = AV.ptr 0 0 0 ∧ AV.sl 1 0 0 8 8 true = AV.sl 1 0 0 8 8 true ∧ nI 8 = nI 8 ∧ nI 0 = nI 0 ∧ True) ∧ bC [AV.sl 2 0 0 x.out.length x.out.length x.ex] = bC [AV.sl 2 0 0 x.out.length x.out.length x.ex] ∧ ABlk.mk true 19 (AC.cells [nU x.s.r0, nU x.s.r1, nU x.s.r2, nU x.s.r3, nU x.s.r4, nU x.s.r5, nU x.s.r6, nU x.s.r7, nU x.s.pc, nU x.s.ps, nU x.s.c0, nU x.s.c1, nU x.s.c2, nU x.s.c3, nU x.s.c4, nU x.s.c5, nU x.s.c6, nU x.s.c7, AV.bool x.s.h]) = ABlk.mk true 19 (AC.cells [nU x.s.r0, nU x.s.r1, nU x.s.r2, nU x.s.r3, nU x.s.r4, nU x.s.r5, nU x.s.r6, nU x.s.r7, nU x.s.pc, nU x.s.ps, nU x.s.c0, nU x.s.c1, nU x.s.c2, nU x.s.c3, nU x.s.c4, nU x.s.c5, nU x.s.c6, nU x.s.c7, AV.bool x.s.h]) ∧ bW x.out = bW x.out ∧ True) ∧ ∃ (y : List Int), y = x.out
  ++ encs [x.s.r0, x.s.r1, x.s.r2, x.s.r3, x.s.r4, x.s.r5, x.s.r6, x.s.r7] ∧ [AV.tup []] = [AV.tup []] ∧ bC [AV.sl 3 0 0 (x.out ++ encs (List.drop 0 (St.mk x.s.r0 x.s.r1 x.s.r2 x.s.r3 x.s.r4 x.s.r5 x.s.r6 x.s.r7 x.s.pc x.s.ps x.s.c0 x.s.c1 x.s.c2 x.s.c3 x.s.c4 x.s.c5 x.s.c6 x.s.c7 x.s.h).rl)).length (x.out ++ encs (List.drop 0 (St.mk x.s.r0 x.s.r1 x.s.r2 x.s.r3 x.s.r4 x.s.r5 x.s.r6 x.s.r7 x.s.pc x.s.ps x.s.c0 x.s.c1 x.s.c2 x.s.c3 x.s.c4 x.s.c5 x.s.c6 x.s.c7 x.s.h).rl)).length (x.ex && false)] = bC [AV.sl 3 0 0 y.length y.length false] ∧ ABlk.mk true 19 (AC.cells [nU x.s.r0, nU x.s.r1, nU x.s.r2, nU x.s.r3, nU x.s.r4, nU x.s.r5, nU x.s.r6, nU x.s.r7, nU x.s.pc, nU x.s.ps, nU x.s.c0, nU x.s.c1, nU x.s.c2, nU x.s.c3, nU x.s.c4, nU x.s.c5, nU x.s.c6, nU x.s.c7, AV.bool x.s.h]) = ABlk.mk true 19 (AC.cells [nU x.s.r0, nU x.s.r1, nU x.s.r2, nU x.s.r3, nU x.s.r4, nU x.s.r5, nU x.s.r6, nU x.s.r7, nU
  x.s.pc, nU x.s.ps, nU x.s.c0, nU x.s.c1, nU x.s.c2, nU x.s.c3, nU x.s.c4, nU x.s.c5, nU x.s.c6, nU x.s.c7, AV.bool x.s.h]) ∧ bW ((x.out ++ encs (List.drop 0 (St.mk x.s.r0 x.s.r1 x.s.r2 x.s.r3 x.s.r4 x.s.r5 x.s.r6 x.s.r7 x.s.pc x.s.ps x.s.c0 x.s.c1 x.s.c2 x.s.c3 x.s.c4 x.s.c5 x.s.c6 x.s.c7 x.s.h).rl))) = bW y ∧ True
theorem nums8f_c_e (x : W8) : some (nums8f_c_V x) = (nums8f.cond sp Go.Proofs.Tryd.prog (drP sp Go.Proofs.Tryd.prog) (forF F_file_writer_numbers ((nums8L Go.Proofs.Tryd.prog 0 St.rl).lo sp Go.Proofs.Tryd.prog (isLoop 1) (loopOf Go.Proofs.Tryd.prog F_file_writer_numbers 0)) noLoops) (putC.orc sp) 40 2 x) := by kernel_rfl
theorem nums8f_ok : nums8f.OK Go.Proofs.Tryd.prog := by
  refine Con.by hmix (forF_ok (Lp.lo_ok n8fL_ok rfl) (noLoops_ok _)) (Con.orc_ok putC_ok) nums8f_c_V nums8f_c_e (fun x hx => ?_)
  have h1 : x.out.length ≤ 900000000 := hx
  have he : (nums8L Go.Proofs.Tryd.prog 0 St.rl).outs ⟨x.out, x.ex, 0, x.s⟩ = (nums8L Go.Proofs.Tryd.prog 0 St.rl).outs ⟨x.out, x.ex, 0, x.s⟩ := rfl
  simp [nums8f_c_V, same, h1, St.av, St.rl]
def n8t0_c_V (out : List Int) (ex : Bool) (s : St) : Prop :=
  sp (decide (IntKind.u64.wrap s.c0 = IntKind.u64.wrap s.c0)) (sp (decide (s.c0 = s.c0)) (sp (out.length.beq out.length && out.length.beq out.length && ex == ex) ((putN (IntKind.u64.wrap s.c0)).length.le 900 ∧ [] ++ [AV.nils, nL (IntKind.u64.wrap s.c0)] ++ [] = [AV.nils, nL (IntKind.u64.wrap s.c0)] ∧ True ∧ (∀ (y : Unit), True → sp (out.length.beq out.length && out.length.beq out.length && ex == ex) (sp (decide (0 + (putN (IntKind.u64.wrap s.c0)).length ≤ (putN (IntKind.u64.wrap s.c0)).length) && (decide (0 + out.length ≤ out.length) && true && true && true && (!ex || decide (out.length = out.length) || decide (0 + out.length ≤ out.length)) && decide ((out.length + (putN (IntKind.u64.wrap s.c0)).length) * 1 ≤ 140737488355328) && decide (out.length + (putN (IntKind.u64.wrap s.c0)).length ≤ 9223372036854775807))) (∃ (j : W8I), (j.out.length ≤ 900000000 + 10 * j.k ∧ j.k ≤ 8) ∧ 8 - j.k < 8 ∧
  [(true, LOut.mk (AX.exit 0) [] 4 [(0, bC [AV.sl 3 0 0 (j.out ++ encs (List.drop j.k j.s.cl)).length (j.out ++ encs (List.drop j.k j.s.cl)).length (j.ex && decide (8 ≤ j.k))]), (1, ABlk.mk true 19 (AC.cells [nU j.s.r0, nU j.s.r1, nU j.s.r2, nU j.s.r3, nU j.s.r4, nU j.s.r5, nU j.s.r6, nU j.s.r7, nU j.s.pc, nU j.s.ps, nU j.s.c0, nU j.s.c1, nU j.s.c2, nU j.s.c3, nU j.s.c4, nU j.s.c5, nU j.s.c6, nU j.s.c7, AV.bool j.s.h])), (3, bW ((j.out ++ encs (List.drop j.k j.s.cl))))])] = [(true, LOut.mk (AX.exit 0) [] 4 [(0, bC [AV.sl 3 0 0 (out ++ encs (List.drop 0 s.cl)).length (out ++ encs (List.drop 0 s.cl)).length (ex && false)]), (1, ABlk.mk true 19 (AC.cells [nU s.r0, nU s.r1, nU s.r2, nU s.r3, nU s.r4, nU s.r5, nU s.r6, nU s.r7, nU s.pc, nU s.ps, nU s.c0, nU s.c1, nU s.c2, nU s.c3, nU s.c4, nU s.c5, nU s.c6, nU s.c7, AV.bool s.h])), (3, bW ((out ++ encs (List.drop 0 s.cl))))])] ∧ (AV.ptr 0 0 0 =
  AV.ptr 0 0 0 ∧ AV.sl 1 0 10 8 8 true = AV.sl 1 0 10 8 8 true ∧ nI 8 = nI 8 ∧ nI 1 = nI (↑j.k : Int) ∧ True) ∧ bC (([AV.sl 3 0 0 out.length out.length ex].set 0 (AV.sl 5 0 0 (out.length + (putN (IntKind.u64.wrap s.c0)).length) (out.length + (putN (IntKind.u64.wrap s.c0)).length) false))) = bC [AV.sl 5 0 0 j.out.length j.out.length j.ex] ∧ ABlk.mk true 19 (AC.cells [nU s.r0, nU s.r1, nU s.r2, nU s.r3, nU s.r4, nU s.r5, nU s.r6, nU s.r7, nU s.pc, nU s.ps, nU s.c0, nU s.c1, nU s.c2, nU s.c3, nU s.c4, nU s.c5, nU s.c6, nU s.c7, AV.bool s.h]) = ABlk.mk true 19 (AC.cells [nU j.s.r0, nU j.s.r1, nU j.s.r2, nU j.s.r3, nU j.s.r4, nU j.s.r5, nU j.s.r6, nU j.s.r7, nU j.s.pc, nU j.s.ps, nU j.s.c0, nU j.s.c1, nU j.s.c2, nU j.s.c3, nU j.s.c4, nU j.s.c5, nU j.s.c6, nU j.s.c7, AV.bool j.s.h]) ∧ bW ((List.take out.length (List.drop 0 out) ++ List.take (putN (IntKind.u64.wrap s.c0)).length (List.drop 0 (putN
  (IntKind.u64.wrap s.c0))))) = bW j.out ∧ True) False) False) ∧ True) False) False) False
theorem n8t0_c_e (out : List Int) (ex : Bool) (s : St) : some (n8t0_c_V out ex s) = (some ((nums8L Go.Proofs.Tryd.prog 10 St.cl).body sp Go.Proofs.Tryd.prog (putC.orc sp) (drP sp Go.Proofs.Tryd.prog (putC.orc sp)) noLo 40 ⟨out, ex, 0, s⟩)) := by kernel_rfl
theorem n8t0_ok (out : List Int) (ex : Bool) (s : St) (h : out.length ≤ 900000000 + 10 * 0) : n8t0_c_V out ex s := by
  have hp := putN_w (s.c0)
  unfold n8t0_c_V
  have he : encs (St.cl s |>.drop 0) = putN (IntKind.wrap .u64 (s.c0)) ++ encs (St.cl s |>.drop 1) := rfl
  generalize hq : putN (IntKind.wrap .u64 (s.c0)) = q at *
  have b1 : q.length ≤ 900 := by omega
  have b2 : out.length + q.length ≤ 140737488355328 := by omega
  have b3 : out.length + q.length ≤ 9223372036854775807 := by omega
  simp only [sp, b1, b2, b3, decide_true, Bool.and_true, Bool.true_and, Nat.beq_refl, beq_self_eq_true, Nat.zero_add, Nat.mul_one, Nat.le_refl, Bool.or_true, true_and, and_true, List.nil_append, List.append_nil]
  refine ⟨b1, fun _ _ => ⟨⟨out ++ q, false, 1, s⟩, ⟨?_, ?_⟩, ?_, ?_, ?_⟩⟩
  · simp only [List.length_append]; omega
  · show 1 ≤ 8; omega
  · show 8 - 1 < 8; omega
  · rw [he]; simp
  · simp [St.av]
def n8t1_c_V (out : List Int) (ex : Bool) (s : St) : Prop :=
  sp (decide (IntKind.u64.wrap s.c1 = IntKind.u64.wrap s.c1)) (sp (decide (s.c1 = s.c1)) (sp (out.length.beq out.length && out.length.beq out.length && ex == ex) ((putN (IntKind.u64.wrap s.c1)).length.le 900 ∧ [] ++ [AV.nils, nL (IntKind.u64.wrap s.c1)] ++ [] = [AV.nils, nL (IntKind.u64.wrap s.c1)] ∧ True ∧ (∀ (y : Unit), True → sp (out.length.beq out.length && out.length.beq out.length && ex == ex) (sp (decide (0 + (putN (IntKind.u64.wrap s.c1)).length ≤ (putN (IntKind.u64.wrap s.c1)).length) && (decide (0 + out.length ≤ out.length) && true && true && true && (!ex || decide (out.length = out.length) || decide (0 + out.length ≤ out.length)) && decide ((out.length + (putN (IntKind.u64.wrap s.c1)).length) * 1 ≤ 140737488355328) && decide (out.length + (putN (IntKind.u64.wrap s.c1)).length ≤ 9223372036854775807))) (∃ (j : W8I), (j.out.length ≤ 900000000 + 10 * j.k ∧ j.k ≤ 8) ∧ 8 - j.k < 7 ∧
  [(true, LOut.mk (AX.exit 0) [] 4 [(0, bC [AV.sl 3 0 0 (j.out ++ encs (List.drop j.k j.s.cl)).length (j.out ++ encs (List.drop j.k j.s.cl)).length (j.ex && decide (8 ≤ j.k))]), (1, ABlk.mk true 19 (AC.cells [nU j.s.r0, nU j.s.r1, nU j.s.r2, nU j.s.r3, nU j.s.r4, nU j.s.r5, nU j.s.r6, nU j.s.r7, nU j.s.pc, nU j.s.ps, nU j.s.c0, nU j.s.c1, nU j.s.c2, nU j.s.c3, nU j.s.c4, nU j.s.c5, nU j.s.c6, nU j.s.c7, AV.bool j.s.h])), (3, bW ((j.out ++ encs (List.drop j.k j.s.cl))))])] = [(true, LOut.mk (AX.exit 0) [] 4 [(0, bC [AV.sl 3 0 0 (out ++ encs (List.drop 1 s.cl)).length (out ++ encs (List.drop 1 s.cl)).length (ex && false)]), (1, ABlk.mk true 19 (AC.cells [nU s.r0, nU s.r1, nU s.r2, nU s.r3, nU s.r4, nU s.r5, nU s.r6, nU s.r7, nU s.pc, nU s.ps, nU s.c0, nU s.c1, nU s.c2, nU s.c3, nU s.c4, nU s.c5, nU s.c6, nU s.c7, AV.bool s.h])), (3, bW ((out ++ encs (List.drop 1 s.cl))))])] ∧ (AV.ptr 0 0 0 =
  AV.ptr 0 0 0 ∧ AV.sl 1 0 10 8 8 true = AV.sl 1 0 10 8 8 true ∧ nI 8 = nI 8 ∧ nI 2 = nI (↑j.k : Int) ∧ True) ∧ bC (([AV.sl 3 0 0 out.length out.length ex].set 0 (AV.sl 5 0 0 (out.length + (putN (IntKind.u64.wrap s.c1)).length) (out.length + (putN (IntKind.u64.wrap s.c1)).length) false))) = bC [AV.sl 5 0 0 j.out.length j.out.length j.ex] ∧ ABlk.mk true 19 (AC.cells [nU s.r0, nU s.r1, nU s.r2, nU s.r3, nU s.r4, nU s.r5, nU s.r6, nU s.r7, nU s.pc, nU s.ps, nU s.c0, nU s.c1, nU s.c2, nU s.c3, nU s.c4, nU s.c5, nU s.c6, nU s.c7, AV.bool s.h]) = ABlk.mk true 19 (AC.cells [nU j.s.r0, nU j.s.r1, nU j.s.r2, nU j.s.r3, nU j.s.r4, nU j.s.r5, nU j.s.r6, nU j.s.r7, nU j.s.pc, nU j.s.ps, nU j.s.c0, nU j.s.c1, nU j.s.c2, nU j.s.c3, nU j.s.c4, nU j.s.c5, nU j.s.c6, nU j.s.c7, AV.bool j.s.h]) ∧ bW ((List.take out.length (List.drop 0 out) ++ List.take (putN (IntKind.u64.wrap s.c1)).length (List.drop 0 (putN
  (IntKind.u64.wrap s.c1))))) = bW j.out ∧ True) False) False) ∧ True) False) False) False
theorem n8t1_c_e (out : List Int) (ex : Bool) (s : St) : some (n8t1_c_V out ex s) = (some ((nums8L Go.Proofs.Tryd.prog 10 St.cl).body sp Go.Proofs.Tryd.prog (putC.orc sp) (drP sp Go.Proofs.Tryd.prog (putC.orc sp)) noLo 40 ⟨out, ex, 1, s⟩)) := by kernel_rfl
theorem n8t1_ok (out : List Int) (ex : Bool) (s : St) (h : out.length ≤ 900000000 + 10 * 1) : n8t1_c_V out ex s := by
  have hp := putN_w (s.c1)
  unfold n8t1_c_V
  have he : encs (St.cl s |>.drop 1) = putN (IntKind.wrap .u64 (s.c1)) ++ encs (St.cl s |>.drop 2) := rfl
  generalize hq : putN (IntKind.wrap .u64 (s.c1)) = q at *
  have b1 : q.length ≤ 900 := by omega
  have b2 : out.length + q.length ≤ 140737488355328 := by omega
  have b3 : out.length + q.length ≤ 9223372036854775807 := by omega
  simp only [sp, b1, b2, b3, decide_true, Bool.and_true, Bool.true_and, Nat.beq_refl, beq_self_eq_true, Nat.zero_add, Nat.mul_one, Nat.le_refl, Bool.or_true, true_and, and_true, List.nil_append, List.append_nil]
  refine ⟨b1, fun _ _ => ⟨⟨out ++ q, false, 2, s⟩, ⟨?_, ?_⟩, ?_, ?_, ?_⟩⟩
  · simp only [List.length_append]; omega
  · show 2 ≤ 8; omega
  · show 8 - 2 < 7; omega
  · rw [he]; simp
  · simp [St.av]
def n8t2_c_V (out : List Int) (ex : Bool) (s : St) : Prop :=
  sp (decide (IntKind.u64.wrap s.c2 = IntKind.u64.wrap s.c2)) (sp (decide (s.c2 = s.c2)) (sp (out.length.beq out.length && out.length.beq out.length && ex == ex) ((putN (IntKind.u64.wrap s.c2)).length.le 900 ∧ [] ++ [AV.nils, nL (IntKind.u64.wrap s.c2)] ++ [] = [AV.nils, nL (IntKind.u64.wrap s.c2)] ∧ True ∧ (∀ (y : Unit), True → sp (out.length.beq out.length && out.length.beq out.length && ex == ex) (sp (decide (0 + (putN (IntKind.u64.wrap s.c2)).length ≤ (putN (IntKind.u64.wrap s.c2)).length) && (decide (0 + out.length ≤ out.length) && true && true && true && (!ex || decide (out.length = out.length) || decide (0 + out.length ≤ out.length)) && decide ((out.length + (putN (IntKind.u64.wrap s.c2)).length) * 1 ≤ 140737488355328) && decide (out.length + (putN (IntKind.u64.wrap s.c2)).length ≤ 9223372036854775807))) (∃ (j : W8I), (j.out.length ≤ 900000000 + 10 * j.k ∧ j.k ≤ 8) ∧ 8 - j.k < 6 ∧
  [(true, LOut.mk (AX.exit 0) [] 4 [(0, bC [AV.sl 3 0 0 (j.out ++ encs (List.drop j.k j.s.cl)).length (j.out ++ encs (List.drop j.k j.s.cl)).length (j.ex && decide (8 ≤ j.k))]), (1, ABlk.mk true 19 (AC.cells [nU j.s.r0, nU j.s.r1, nU j.s.r2, nU j.s.r3, nU j.s.r4, nU j.s.r5, nU j.s.r6, nU j.s.r7, nU j.s.pc, nU j.s.ps, nU j.s.c0, nU j.s.c1, nU j.s.c2, nU j.s.c3, nU j.s.c4, nU j.s.c5, nU j.s.c6, nU j.s.c7, AV.bool j.s.h])), (3, bW ((j.out ++ encs (List.drop j.k j.s.cl))))])] = [(true, LOut.mk (AX.exit 0) [] 4 [(0, bC [AV.sl 3 0 0 (out ++ encs (List.drop 2 s.cl)).length (out ++ encs (List.drop 2 s.cl)).length (ex && false)]), (1, ABlk.mk true 19 (AC.cells [nU s.r0, nU s.r1, nU s.r2, nU s.r3, nU s.r4, nU s.r5, nU s.r6, nU s.r7, nU s.pc, nU s.ps, nU s.c0, nU s.c1, nU s.c2, nU s.c3, nU s.c4, nU s.c5, nU s.c6, nU s.c7, AV.bool s.h])), (3, bW ((out ++ encs (List.drop 2 s.cl))))])] ∧ (AV.ptr 0 0 0 =
  AV.ptr 0 0 0 ∧ AV.sl 1 0 10 8 8 true = AV.sl 1 0 10 8 8 true ∧ nI 8 = nI 8 ∧ nI 3 = nI (↑j.k : Int) ∧ True) ∧ bC (([AV.sl 3 0 0 out.length out.length ex].set 0 (AV.sl 5 0 0 (out.length + (putN (IntKind.u64.wrap s.c2)).length) (out.length + (putN (IntKind.u64.wrap s.c2)).length) false))) = bC [AV.sl 5 0 0 j.out.length j.out.length j.ex] ∧ ABlk.mk true 19 (AC.cells [nU s.r0, nU s.r1, nU s.r2, nU s.r3, nU s.r4, nU s.r5, nU s.r6, nU s.r7, nU s.pc, nU s.ps, nU s.c0, nU s.c1, nU s.c2, nU s.c3, nU s.c4, nU s.c5, nU s.c6, nU s.c7, AV.bool s.h]) = ABlk.mk true 19 (AC.cells [nU j.s.r0, nU j.s.r1, nU j.s.r2, nU j.s.r3, nU j.s.r4, nU j.s.r5, nU j.s.r6, nU j.s.r7, nU j.s.pc, nU j.s.ps, nU j.s.c0, nU j.s.c1, nU j.s.c2, nU j.s.c3, nU j.s.c4, nU j.s.c5, nU j.s.c6, nU j.s.c7, AV.bool j.s.h]) ∧ bW ((List.take out.length (List.drop 0 out) ++ List.take (putN (IntKind.u64.wrap s.c2)).length (List.drop 0 (putN
  (IntKind.u64.wrap s.c2))))) = bW j.out ∧ True) False) False) ∧ True) False) False) False
theorem n8t2_c_e (out : List Int) (ex : Bool) (s : St) : some (n8t2_c_V out ex s) = (some ((nums8L Go.Proofs.Tryd.prog 10 St.cl).body sp Go.Proofs.Tryd.prog (putC.orc sp) (drP sp Go.Proofs.Tryd.prog (putC.orc sp)) noLo 40 ⟨out, ex, 2, s⟩)) := by kernel_rfl
theorem n8t2_ok (out : List Int) (ex : Bool) (s : St) (h : out.length ≤ 900000000 + 10 * 2) : n8t2_c_V out ex s := by
  have hp := putN_w (s.c2)
  unfold n8t2_c_V
  have he : encs (St.cl s |>.drop 2) = putN (IntKind.wrap .u64 (s.c2)) ++ encs (St.cl s |>.drop 3) := rfl
  generalize hq : putN (IntKind.wrap .u64 (s.c2)) = q at *
  have b1 : q.length ≤ 900 := by omega
  have b2 : out.length + q.length ≤ 140737488355328 := by omega
  have b3 : out.length + q.length ≤ 9223372036854775807 := by omega
  simp only [sp, b1, b2, b3, decide_true, Bool.and_true, Bool.true_and, Nat.beq_refl, beq_self_eq_true, Nat.zero_add, Nat.mul_one, Nat.le_refl, Bool.or_true, true_and, and_true, List.nil_append, List.append_nil]
  refine ⟨b1, fun _ _ => ⟨⟨out ++ q, false, 3, s⟩, ⟨?_, ?_⟩, ?_, ?_, ?_⟩⟩
  · simp only [List.length_append]; omega
  · show 3 ≤ 8; omega
  · show 8 - 3 < 6; omega
  · rw [he]; simp
  · simp [St.av]
def n8t3_c_V (out : List Int) (ex : Bool) (s : St) : Prop :=
  sp (decide (IntKind.u64.wrap s.c3 = IntKind.u64.wrap s.c3)) (sp (decide (s.c3 = s.c3)) (sp (out.length.beq out.length && out.length.beq out.length && ex == ex) ((putN (IntKind.u64.wrap s.c3)).length.le 900 ∧ [] ++ [AV.nils, nL (IntKind.u64.wrap s.c3)] ++ [] = [AV.nils, nL (IntKind.u64.wrap s.c3)] ∧ True ∧ (∀ (y : Unit), True → sp (out.length.beq out.length && out.length.beq out.length && ex == ex) (sp (decide (0 + (putN (IntKind.u64.wrap s.c3)).length ≤ (putN (IntKind.u64.wrap s.c3)).length) && (decide (0 + out.length ≤ out.length) && true && true && true && (!ex || decide (out.length = out.length) || decide (0 + out.length ≤ out.length)) && decide ((out.length + (putN (IntKind.u64.wrap s.c3)).length) * 1 ≤ 140737488355328) && decide (out.length + (putN (IntKind.u64.wrap s.c3)).length ≤ 9223372036854775807))) (∃ (j : W8I), (j.out.length ≤ 900000000 + 10 * j.k ∧ j.k ≤ 8) ∧ 8 - j.k < 5 ∧
  [(true, LOut.mk (AX.exit 0) [] 4 [(0, bC [AV.sl 3 0 0 (j.out ++ encs (List.drop j.k j.s.cl)).length (j.out ++ encs (List.drop j.k j.s.cl)).length (j.ex && decide (8 ≤ j.k))]), (1, ABlk.mk true 19 (AC.cells [nU j.s.r0, nU j.s.r1, nU j.s.r2, nU j.s.r3, nU j.s.r4, nU j.s.r5, nU j.s.r6, nU j.s.r7, nU j.s.pc, nU j.s.ps, nU j.s.c0, nU j.s.c1, nU j.s.c2, nU j.s.c3, nU j.s.c4, nU j.s.c5, nU j.s.c6, nU j.s.c7, AV.bool j.s.h])), (3, bW ((j.out ++ encs (List.drop j.k j.s.cl))))])] = [(true, LOut.mk (AX.exit 0) [] 4 [(0, bC [AV.sl 3 0 0 (out ++ encs (List.drop 3 s.cl)).length (out ++ encs (List.drop 3 s.cl)).length (ex && false)]), (1, ABlk.mk true 19 (AC.cells [nU s.r0, nU s.r1, nU s.r2, nU s.r3, nU s.r4, nU s.r5, nU s.r6, nU s.r7, nU s.pc, nU s.ps, nU s.c0, nU s.c1, nU s.c2, nU s.c3, nU s.c4, nU s.c5, nU s.c6, nU s.c7, AV.bool s.h])), (3, bW ((out ++ encs (List.drop 3 s.cl))))])] ∧ (AV.ptr 0 0 0 =
  AV.ptr 0 0 0 ∧ AV.sl 1 0 10 8 8 true = AV.sl 1 0 10 8 8 true ∧ nI 8 = nI 8 ∧ nI 4 = nI (↑j.k : Int) ∧ True) ∧ bC (([AV.sl 3 0 0 out.length out.length ex].set 0 (AV.sl 5 0 0 (out.length + (putN (IntKind.u64.wrap s.c3)).length) (out.length + (putN (IntKind.u64.wrap s.c3)).length) false))) = bC [AV.sl 5 0 0 j.out.length j.out.length j.ex] ∧ ABlk.mk true 19 (AC.cells [nU s.r0, nU s.r1, nU s.r2, nU s.r3, nU s.r4, nU s.r5, nU s.r6, nU s.r7, nU s.pc, nU s.ps, nU s.c0, nU s.c1, nU s.c2, nU s.c3, nU s.c4, nU s.c5, nU s.c6, nU s.c7, AV.bool s.h]) = ABlk.mk true 19 (AC.cells [nU j.s.r0, nU j.s.r1, nU j.s.r2, nU j.s.r3, nU j.s.r4, nU j.s.r5, nU j.s.r6, nU j.s.r7, nU j.s.pc, nU j.s.ps, nU j.s.c0, nU j.s.c1, nU j.s.c2, nU j.s.c3, nU j.s.c4, nU j.s.c5, nU j.s.c6, nU j.s.c7, AV.bool j.s.h]) ∧ bW ((List.take out.length (List.drop 0 out) ++ List.take (putN (IntKind.u64.wrap s.c3)).length (List.drop 0 (putN
  (IntKind.u64.wrap s.c3))))) = bW j.out ∧ True) False) False) ∧ True) False) False) False
theorem n8t3_c_e (out : List Int) (ex : Bool) (s : St) : some (n8t3_c_V out ex s) = (some ((nums8L Go.Proofs.Tryd.prog 10 St.cl).body sp Go.Proofs.Tryd.prog (putC.orc sp) (drP sp Go.Proofs.Tryd.prog (putC.orc sp)) noLo 40 ⟨out, ex, 3, s⟩)) := by kernel_rfl
theorem n8t3_ok (out : List Int) (ex : Bool) (s : St) (h : out.length ≤ 900000000 + 10 * 3) : n8t3_c_V out ex s := by
  have hp := putN_w (s.c3)
  unfold n8t3_c_V
  have he : encs (St.cl s |>.drop 3) = putN (IntKind.wrap .u64 (s.c3)) ++ encs (St.cl s |>.drop 4) := rfl
  generalize hq : putN (IntKind.wrap .u64 (s.c3)) = q at *
  have b1 : q.length ≤ 900 := by omega
  have b2 : out.length + q.length ≤ 140737488355328 := by omega
  have b3 : out.length + q.length ≤ 9223372036854775807 := by omega
  simp only [sp, b1, b2, b3, decide_true, Bool.and_true, Bool.true_and, Nat.beq_refl, beq_self_eq_true, Nat.zero_add, Nat.mul_one, Nat.le_refl, Bool.or_true, true_and, and_true, List.nil_append, List.append_nil]
  refine ⟨b1, fun _ _ => ⟨⟨out ++ q, false, 4, s⟩, ⟨?_, ?_⟩, ?_, ?_, ?_⟩⟩
  · simp only [List.length_append]; omega
  · show 4 ≤ 8; omega
  · show 8 - 4 < 5; omega
  · rw [he]; simp
  · simp [St.av]
def n8t4_c_V (out : List Int) (ex : Bool) (s : St) : Prop :=
  sp (decide (IntKind.u64.wrap s.c4 = IntKind.u64.wrap s.c4)) (sp (decide (s.c4 = s.c4)) (sp (out.length.beq out.length && out.length.beq out.length && ex == ex) ((putN (IntKind.u64.wrap s.c4)).length.le 900 ∧ [] ++ [AV.nils, nL (IntKind.u64.wrap s.c4)] ++ [] = [AV.nils, nL (IntKind.u64.wrap s.c4)] ∧ True ∧ (∀ (y : Unit), True → sp (out.length.beq out.length && out.length.beq out.length && ex == ex) (sp (decide (0 + (putN (IntKind.u64.wrap s.c4)).length ≤ (putN (IntKind.u64.wrap s.c4)).length) && (decide (0 + out.length ≤ out.length) && true && true && true && (!ex || decide (out.length = out.length) || decide (0 + out.length ≤ out.length)) && decide ((out.length + (putN (IntKind.u64.wrap s.c4)).length) * 1 ≤ 140737488355328) && decide (out.length + (putN (IntKind.u64.wrap s.c4)).length ≤ 9223372036854775807))) (∃ (j : W8I), (j.out.length ≤ 900000000 + 10 * j.k ∧ j.k ≤ 8) ∧ 8 - j.k < 4 ∧
  [(true, LOut.mk (AX.exit 0) [] 4 [(0, bC [AV.sl 3 0 0 (j.out ++ encs (List.drop j.k j.s.cl)).length (j.out ++ encs (List.drop j.k j.s.cl)).length (j.ex && decide (8 ≤ j.k))]), (1, ABlk.mk true 19 (AC.cells [nU j.s.r0, nU j.s.r1, nU j.s.r2, nU j.s.r3, nU j.s.r4, nU j.s.r5, nU j.s.r6, nU j.s.r7, nU j.s.pc, nU j.s.ps, nU j.s.c0, nU j.s.c1, nU j.s.c2, nU j.s.c3, nU j.s.c4, nU j.s.c5, nU j.s.c6, nU j.s.c7, AV.bool j.s.h])), (3, bW ((j.out ++ encs (List.drop j.k j.s.cl))))])] = [(true, LOut.mk (AX.exit 0) [] 4 [(0, bC [AV.sl 3 0 0 (out ++ encs (List.drop 4 s.cl)).length (out ++ encs (List.drop 4 s.cl)).length (ex && false)]), (1, ABlk.mk true 19 (AC.cells [nU s.r0, nU s.r1, nU s.r2, nU s.r3, nU s.r4, nU s.r5, nU s.r6, nU s.r7, nU s.pc, nU s.ps, nU s.c0, nU s.c1, nU s.c2, nU s.c3, nU s.c4, nU s.c5, nU s.c6, nU s.c7, AV.bool s.h])), (3, bW ((out ++ encs (List.drop 4 s.cl))))])] ∧ (AV.ptr 0 0 0 =
  AV.ptr 0 0 0 ∧ AV.sl 1 0 10 8 8 true = AV.sl 1 0 10 8 8 true ∧ nI 8 = nI 8 ∧ nI 5 = nI (↑j.k : Int) ∧ True) ∧ bC (([AV.sl 3 0 0 out.length out.length ex].set 0 (AV.sl 5 0 0 (out.length + (putN (IntKind.u64.wrap s.c4)).length) (out.length + (putN (IntKind.u64.wrap s.c4)).length) false))) = bC [AV.sl 5 0 0 j.out.length j.out.length j.ex] ∧ ABlk.mk true 19 (AC.cells [nU s.r0, nU s.r1, nU s.r2, nU s.r3, nU s.r4, nU s.r5, nU s.r6, nU s.r7, nU s.pc, nU s.ps, nU s.c0, nU s.c1, nU s.c2, nU s.c3, nU s.c4, nU s.c5, nU s.c6, nU s.c7, AV.bool s.h]) = ABlk.mk true 19 (AC.cells [nU j.s.r0, nU j.s.r1, nU j.s.r2, nU j.s.r3, nU j.s.r4, nU j.s.r5, nU j.s.r6, nU j.s.r7, nU j.s.pc, nU j.s.ps, nU j.s.c0, nU j.s.c1, nU j.s.c2, nU j.s.c3, nU j.s.c4, nU j.s.c5, nU j.s.c6, nU j.s.c7, AV.bool j.s.h]) ∧ bW ((List.take out.length (List.drop 0 out) ++ List.take (putN (IntKind.u64.wrap s.c4)).length (List.drop 0 (putN
  (IntKind.u64.wrap s.c4))))) = bW j.out ∧ True) False) False) ∧ True) False) False) False
theorem n8t4_c_e (out : List Int) (ex : Bool) (s : St) : some (n8t4_c_V out ex s) = (some ((nums8L Go.Proofs.Tryd.prog 10 St.cl).body sp Go.Proofs.Tryd.prog (putC.orc sp) (drP sp Go.Proofs.Tryd.prog (putC.orc sp)) noLo 40 ⟨out, ex, 4, s⟩)) := by kernel_rfl
theorem n8t4_ok (out : List Int) (ex : Bool) (s : St) (h : out.length ≤ 900000000 + 10 * 4) : n8t4_c_V out ex s := by
  have hp := putN_w (s.c4)
  unfold n8t4_c_V
  have he : encs (St.cl s |>.drop 4) = putN (IntKind.wrap .u64 (s.c4)) ++ encs (St.cl s |>.drop 5) := rfl
  generalize hq : putN (IntKind.wrap .u64 (s.c4)) = q at *
  have b1 : q.length ≤ 900 := by omega
  have b2 : out.length + q.length ≤ 140737488355328 := by omega
  have b3 : out.length + q.length ≤ 9223372036854775807 := by omega
  simp only [sp, b1, b2, b3, decide_true, Bool.and_true, Bool.true_and, Nat.beq_refl, beq_self_eq_true, Nat.zero_add, Nat.mul_one, Nat.le_refl, Bool.or_true, true_and, and_true, List.nil_append, List.append_nil]
  refine ⟨b1, fun _ _ => ⟨⟨out ++ q, false, 5, s⟩, ⟨?_, ?_⟩, ?_, ?_, ?_⟩⟩
  · simp only [List.length_append]; omega
  · show 5 ≤ 8; omega
  · show 8 - 5 < 4; omega
  · rw [he]; simp
  · simp [St.av]
def n8t5_c_V (out : List Int) (ex : Bool) (s : St) : Prop :=
  sp (decide (IntKind.u64.wrap s.c5 = IntKind.u64.wrap s.c5)) (sp (decide (s.c5 = s.c5)) (sp (out.length.beq out.length && out.length.beq out.length && ex == ex) ((putN (IntKind.u64.wrap s.c5)).length.le 900 ∧ [] ++ [AV.nils, nL (IntKind.u64.wrap s.c5)] ++ [] = [AV.nils, nL (IntKind.u64.wrap s.c5)] ∧ True ∧ (∀ (y : Unit), True → sp (out.length.beq out.length && out.length.beq out.length && ex == ex) (sp (decide (0 + (putN (IntKind.u64.wrap s.c5)).length ≤ (putN (IntKind.u64.wrap s.c5)).length) && (decide (0 + out.length ≤ out.length) && true && true && true && (!ex || decide (out.length = out.length) || decide (0 + out.length ≤ out.length)) && decide ((out.length + (putN (IntKind.u64.wrap s.c5)).length) * 1 ≤ 140737488355328) && decide (out.length + (putN (IntKind.u64.wrap s.c5)).length ≤ 9223372036854775807))) (∃ (j : W8I), (j.out.length ≤ 900000000 + 10 * j.k ∧ j.k ≤ 8) ∧ 8 - j.k < 3 ∧
  [(true, LOut.mk (AX.exit 0) [] 4 [(0, bC [AV.sl 3 0 0 (j.out ++ encs (List.drop j.k j.s.cl)).length (j.out ++ encs (List.drop j.k j.s.cl)).length (j.ex && decide (8 ≤ j.k))]), (1, ABlk.mk true 19 (AC.cells [nU j.s.r0, nU j.s.r1, nU j.s.r2, nU j.s.r3, nU j.s.r4, nU j.s.r5, nU j.s.r6, nU j.s.r7, nU j.s.pc, nU j.s.ps, nU j.s.c0, nU j.s.c1, nU j.s.c2, nU j.s.c3, nU j.s.c4, nU j.s.c5, nU j.s.c6, nU j.s.c7, AV.bool j.s.h])), (3, bW ((j.out ++ encs (List.drop j.k j.s.cl))))])] = [(true, LOut.mk (AX.exit 0) [] 4 [(0, bC [AV.sl 3 0 0 (out ++ encs (List.drop 5 s.cl)).length (out ++ encs (List.drop 5 s.cl)).length (ex && false)]), (1, ABlk.mk true 19 (AC.cells [nU s.r0, nU s.r1, nU s.r2, nU s.r3, nU s.r4, nU s.r5, nU s.r6, nU s.r7, nU s.pc, nU s.ps, nU s.c0, nU s.c1, nU s.c2, nU s.c3, nU s.c4, nU s.c5, nU s.c6, nU s.c7, AV.bool s.h])), (3, bW ((out ++ encs (List.drop 5 s.cl))))])] ∧ (AV.ptr 0 0 0 =
  AV.ptr 0 0 0 ∧ AV.sl 1 0 10 8 8 true = AV.sl 1 0 10 8 8 true ∧ nI 8 = nI 8 ∧ nI 6 = nI (↑j.k : Int) ∧ True) ∧ bC (([AV.sl 3 0 0 out.length out.length ex].set 0 (AV.sl 5 0 0 (out.length + (putN (IntKind.u64.wrap s.c5)).length) (out.length + (putN (IntKind.u64.wrap s.c5)).length) false))) = bC [AV.sl 5 0 0 j.out.length j.out.length j.ex] ∧ ABlk.mk true 19 (AC.cells [nU s.r0, nU s.r1, nU s.r2, nU s.r3, nU s.r4, nU s.r5, nU s.r6, nU s.r7, nU s.pc, nU s.ps, nU s.c0, nU s.c1, nU s.c2, nU s.c3, nU s.c4, nU s.c5, nU s.c6, nU s.c7, AV.bool s.h]) = ABlk.mk true 19 (AC.cells [nU j.s.r0, nU j.s.r1, nU j.s.r2, nU j.s.r3, nU j.s.r4, nU j.s.r5, nU j.s.r6, nU j.s.r7, nU j.s.pc, nU j.s.ps, nU j.s.c0, nU j.s.c1, nU j.s.c2, nU j.s.c3, nU j.s.c4, nU j.s.c5, nU j.s.c6, nU j.s.c7, AV.bool j.s.h]) ∧ bW ((List.take out.length (List.drop 0 out) ++ List.take (putN (IntKind.u64.wrap s.c5)).length (List.drop 0 (putN
  (IntKind.u64.wrap s.c5))))) = bW j.out ∧ True) False) False) ∧ True) False) False) False
theorem n8t5_c_e (out : List Int) (ex : Bool) (s : St) : some (n8t5_c_V out ex s) = (some ((nums8L Go.Proofs.Tryd.prog 10 St.cl).body sp Go.Proofs.Tryd.prog (putC.orc sp) (drP sp Go.Proofs.Tryd.prog (putC.orc sp)) noLo 40 ⟨out, ex, 5, s⟩)) := by kernel_rfl
theorem n8t5_ok (out : List Int) (ex : Bool) (s : St) (h : out.length ≤ 900000000 + 10 * 5) : n8t5_c_V out ex s := by
  have hp := putN_w (s.c5)
  unfold n8t5_c_V
  have he : encs (St.cl s |>.drop 5) = putN (IntKind.wrap .u64 (s.c5)) ++ encs (St.cl s |>.drop 6) := rfl
  generalize hq : putN (IntKind.wrap .u64 (s.c5)) = q at *
  have b1 : q.length ≤ 900 := by omega
  have b2 : out.length + q.length ≤ 140737488355328 := by omega
  have b3 : out.length + q.length ≤ 9223372036854775807 := by omega
  simp only [sp, b1, b2, b3, decide_true, Bool.and_true, Bool.true_and, Nat.beq_refl, beq_self_eq_true, Nat.zero_add, Nat.mul_one, Nat.le_refl, Bool.or_true, true_and, and_true, List.nil_append, List.append_nil]
  refine ⟨b1, fun _ _ => ⟨⟨out ++ q, false, 6, s⟩, ⟨?_, ?_⟩, ?_, ?_, ?_⟩⟩
  · simp only [List.length_append]; omega
  · show 6 ≤ 8; omega
  · show 8 - 6 < 3; omega
  · rw [he]; simp
  · simp [St.av]
def n8t6_c_V (out : List Int) (ex : Bool) (s : St) : Prop :=
  sp (decide (IntKind.u64.wrap s.c6 = IntKind.u64.wrap s.c6)) (sp (decide (s.c6 = s.c6)) (sp (out.length.beq out.length && out.length.beq out.length && ex == ex) ((putN (IntKind.u64.wrap s.c6)).length.le 900 ∧ [] ++ [AV.nils, nL (IntKind.u64.wrap s.c6)] ++ [] = [AV.nils, nL (IntKind.u64.wrap s.c6)] ∧ True ∧ (∀ (y : Unit), True → sp (out.length.beq out.length && out.length.beq out.length && ex == ex) (sp (decide (0 + (putN (IntKind.u64.wrap s.c6)).length ≤ (putN (IntKind.u64.wrap s.c6)).length) && (decide (0 + out.length ≤ out.length) && true && true && true && (!ex || decide (out.length = out.length) || decide (0 + out.length ≤ out.length)) && decide ((out.length + (putN (IntKind.u64.wrap s.c6)).length) * 1 ≤ 140737488355328) && decide (out.length + (putN (IntKind.u64.wrap s.c6)).length ≤ 9223372036854775807))) (∃ (j : W8I), (j.out.length ≤ 900000000 + 10 * j.k ∧ j.k ≤ 8) ∧ 8 - j.k < 2 ∧
  [(true, LOut.mk (AX.exit 0) [] 4 [(0, bC [AV.sl 3 0 0 (j.out ++ encs (List.drop j.k j.s.cl)).length (j.out ++ encs (List.drop j.k j.s.cl)).length (j.ex && decide (8 ≤ j.k))]), (1, ABlk.mk true 19 (AC.cells [nU j.s.r0, nU j.s.r1, nU j.s.r2, nU j.s.r3, nU j.s.r4, nU j.s.r5, nU j.s.r6, nU j.s.r7, nU j.s.pc, nU j.s.ps, nU j.s.c0, nU j.s.c1, nU j.s.c2, nU j.s.c3, nU j.s.c4, nU j.s.c5, nU j.s.c6, nU j.s.c7, AV.bool j.s.h])), (3, bW ((j.out ++ encs (List.drop j.k j.s.cl))))])] = [(true, LOut.mk (AX.exit 0) [] 4 [(0, bC [AV.sl 3 0 0 (out ++ encs (List.drop 6 s.cl)).length (out ++ encs (List.drop 6 s.cl)).length (ex && false)]), (1, ABlk.mk true 19 (AC.cells [nU s.r0, nU s.r1, nU s.r2, nU s.r3, nU s.r4, nU s.r5, nU s.r6, nU s.r7, nU s.pc, nU s.ps, nU s.c0, nU s.c1, nU s.c2, nU s.c3, nU s.c4, nU s.c5, nU s.c6, nU s.c7, AV.bool s.h])), (3, bW ((out ++ encs (List.drop 6 s.cl))))])] ∧ (AV.ptr 0 0 0 =
  AV.ptr 0 0 0 ∧ AV.sl 1 0 10 8 8 true = AV.sl 1 0 10 8 8 true ∧ nI 8 = nI 8 ∧ nI 7 = nI (↑j.k : Int) ∧ True) ∧ bC (([AV.sl 3 0 0 out.length out.length ex].set 0 (AV.sl 5 0 0 (out.length + (putN (IntKind.u64.wrap s.c6)).length) (out.length + (putN (IntKind.u64.wrap s.c6)).length) false))) = bC [AV.sl 5 0 0 j.out.length j.out.length j.ex] ∧ ABlk.mk true 19 (AC.cells [nU s.r0, nU s.r1, nU s.r2, nU s.r3, nU s.r4, nU s.r5, nU s.r6, nU s.r7, nU s.pc, nU s.ps, nU s.c0, nU s.c1, nU s.c2, nU s.c3, nU s.c4, nU s.c5, nU s.c6, nU s.c7, AV.bool s.h]) = ABlk.mk true 19 (AC.cells [nU j.s.r0, nU j.s.r1, nU j.s.r2, nU j.s.r3, nU j.s.r4, nU j.s.r5, nU j.s.r6, nU j.s.r7, nU j.s.pc, nU j.s.ps, nU j.s.c0, nU j.s.c1, nU j.s.c2, nU j.s.c3, nU j.s.c4, nU j.s.c5, nU j.s.c6, nU j.s.c7, AV.bool j.s.h]) ∧ bW ((List.take out.length (List.drop 0 out) ++ List.take (putN (IntKind.u64.wrap s.c6)).length (List.drop 0 (putN
  (IntKind.u64.wrap s.c6))))) = bW j.out ∧ True) False) False) ∧ True) False) False) False
theorem n8t6_c_e (out : List Int) (ex : Bool) (s : St) : some (n8t6_c_V out ex s) = (some ((nums8L Go.Proofs.Tryd.prog 10 St.cl).body sp Go.Proofs.Tryd.prog (putC.orc sp) (drP sp Go.Proofs.Tryd.prog (putC.orc sp)) noLo 40 ⟨out, ex, 6, s⟩)) := by kernel_rfl
theorem n8t6_ok (out : List Int) (ex : Bool) (s : St) (h : out.length ≤ 900000000 + 10 * 6) : n8t6_c_V out ex s := by
  have hp := putN_w (s.c6)
  unfold n8t6_c_V
  have he : encs (St.cl s |>.drop 6) = putN (IntKind.wrap .u64 (s.c6)) ++ encs (St.cl s |>.drop 7) := rfl
  generalize hq : putN (IntKind.wrap .u64 (s.c6)) = q at *
  have b1 : q.length ≤ 900 := by omega
  have b2 : out.length + q.length ≤ 140737488355328 := by omega
  have b3 : out.length + q.length ≤ 9223372036854775807 := by omega
  simp only [sp, b1, b2, b3, decide_true, Bool.and_true, Bool.true_and, Nat.beq_refl, beq_self_eq_true, Nat.zero_add, Nat.mul_one, Nat.le_refl, Bool.or_true, true_and, and_true, List.nil_append, List.append_nil]
  refine ⟨b1, fun _ _ => ⟨⟨out ++ q, false, 7, s⟩, ⟨?_, ?_⟩, ?_, ?_, ?_⟩⟩
  · simp only [List.length_append]; omega
  · show 7 ≤ 8; omega
  · show 8 - 7 < 2; omega
  · rw [he]; simp
  · simp [St.av]
def n8t7_c_V (out : List Int) (ex : Bool) (s : St) : Prop :=
  sp (decide (IntKind.u64.wrap s.c7 = IntKind.u64.wrap s.c7)) (sp (decide (s.c7 = s.c7)) (sp (out.length.beq out.length && out.length.beq out.length && ex == ex) ((putN (IntKind.u64.wrap s.c7)).length.le 900 ∧ [] ++ [AV.nils, nL (IntKind.u64.wrap s.c7)] ++ [] = [AV.nils, nL (IntKind.u64.wrap s.c7)] ∧ True ∧ (∀ (y : Unit), True → sp (out.length.beq out.length && out.length.beq out.length && ex == ex) (sp (decide (0 + (putN (IntKind.u64.wrap s.c7)).length ≤ (putN (IntKind.u64.wrap s.c7)).length) && (decide (0 + out.length ≤ out.length) && true && true && true && (!ex || decide (out.length = out.length) || decide (0 + out.length ≤ out.length)) && decide ((out.length + (putN (IntKind.u64.wrap s.c7)).length) * 1 ≤ 140737488355328) && decide (out.length + (putN (IntKind.u64.wrap s.c7)).length ≤ 9223372036854775807))) (∃ (j : W8I), (j.out.length ≤ 900000000 + 10 * j.k ∧ j.k ≤ 8) ∧ 8 - j.k < 1 ∧
  [(true, LOut.mk (AX.exit 0) [] 4 [(0, bC [AV.sl 3 0 0 (j.out ++ encs (List.drop j.k j.s.cl)).length (j.out ++ encs (List.drop j.k j.s.cl)).length (j.ex && decide (8 ≤ j.k))]), (1, ABlk.mk true 19 (AC.cells [nU j.s.r0, nU j.s.r1, nU j.s.r2, nU j.s.r3, nU j.s.r4, nU j.s.r5, nU j.s.r6, nU j.s.r7, nU j.s.pc, nU j.s.ps, nU j.s.c0, nU j.s.c1, nU j.s.c2, nU j.s.c3, nU j.s.c4, nU j.s.c5, nU j.s.c6, nU j.s.c7, AV.bool j.s.h])), (3, bW ((j.out ++ encs (List.drop j.k j.s.cl))))])] = [(true, LOut.mk (AX.exit 0) [] 4 [(0, bC [AV.sl 3 0 0 (out ++ encs (List.drop 7 s.cl)).length (out ++ encs (List.drop 7 s.cl)).length (ex && false)]), (1, ABlk.mk true 19 (AC.cells [nU s.r0, nU s.r1, nU s.r2, nU s.r3, nU s.r4, nU s.r5, nU s.r6, nU s.r7, nU s.pc, nU s.ps, nU s.c0, nU s.c1, nU s.c2, nU s.c3, nU s.c4, nU s.c5, nU s.c6, nU s.c7, AV.bool s.h])), (3, bW ((out ++ encs (List.drop 7 s.cl))))])] ∧ (AV.ptr 0 0 0 =
  AV.ptr 0 0 0 ∧ AV.sl 1 0 10 8 8 true = AV.sl 1 0 10 8 8 true ∧ nI 8 = nI 8 ∧ nI 8 = nI (↑j.k : Int) ∧ True) ∧ bC (([AV.sl 3 0 0 out.length out.length ex].set 0 (AV.sl 5 0 0 (out.length + (putN (IntKind.u64.wrap s.c7)).length) (out.length + (putN (IntKind.u64.wrap s.c7)).length) false))) = bC [AV.sl 5 0 0 j.out.length j.out.length j.ex] ∧ ABlk.mk true 19 (AC.cells [nU s.r0, nU s.r1, nU s.r2, nU s.r3, nU s.r4, nU s.r5, nU s.r6, nU s.r7, nU s.pc, nU s.ps, nU s.c0, nU s.c1, nU s.c2, nU s.c3, nU s.c4, nU s.c5, nU s.c6, nU s.c7, AV.bool s.h]) = ABlk.mk true 19 (AC.cells [nU j.s.r0, nU j.s.r1, nU j.s.r2, nU j.s.r3, nU j.s.r4, nU j.s.r5, nU j.s.r6, nU j.s.r7, nU j.s.pc, nU j.s.ps, nU j.s.c0, nU j.s.c1, nU j.s.c2, nU j.s.c3, nU j.s.c4, nU j.s.c5, nU j.s.c6, nU j.s.c7, AV.bool j.s.h]) ∧ bW ((List.take out.length (List.drop 0 out) ++ List.take (putN (IntKind.u64.wrap s.c7)).length (List.drop 0 (putN
  (IntKind.u64.wrap s.c7))))) = bW j.out ∧ True) False) False) ∧ True) False) False) False
theorem n8t7_c_e (out : List Int) (ex : Bool) (s : St) : some (n8t7_c_V out ex s) = (some ((nums8L Go.Proofs.Tryd.prog 10 St.cl).body sp Go.Proofs.Tryd.prog (putC.orc sp) (drP sp Go.Proofs.Tryd.prog (putC.orc sp)) noLo 40 ⟨out, ex, 7, s⟩)) := by kernel_rfl
theorem n8t7_ok (out : List Int) (ex : Bool) (s : St) (h : out.length ≤ 900000000 + 10 * 7) : n8t7_c_V out ex s := by
  have hp := putN_w (s.c7)
  unfold n8t7_c_V
  have he : encs (St.cl s |>.drop 7) = putN (IntKind.wrap .u64 (s.c7)) ++ encs (St.cl s |>.drop 8) := rfl
  generalize hq : putN (IntKind.wrap .u64 (s.c7)) = q at *
  have b1 : q.length ≤ 900 := by omega
  have b2 : out.length + q.length ≤ 140737488355328 := by omega
  have b3 : out.length + q.length ≤ 9223372036854775807 := by omega
  simp only [sp, b1, b2, b3, decide_true, Bool.and_true, Bool.true_and, Nat.beq_refl, beq_self_eq_true, Nat.zero_add, Nat.mul_one, Nat.le_refl, Bool.or_true, true_and, and_true, List.nil_append, List.append_nil]
  refine ⟨b1, fun _ _ => ⟨⟨out ++ q, false, 8, s⟩, ⟨?_, ?_⟩, ?_, ?_, ?_⟩⟩
  · simp only [List.length_append]; omega
  · show 8 ≤ 8; omega
  · show 8 - 8 < 1; omega
  · rw [he]; simp
  · simp [St.av]
def n8t8_c_V (out : List Int) (ex : Bool) (s : St) : Prop :=
  True ∧ bC [AV.sl 3 0 0 out.length out.length ex] = bC [AV.sl 3 0 0 (out ++ encs (List.drop 8 s.cl)).length (out ++ encs (List.drop 8 s.cl)).length (ex && true)] ∧ ABlk.mk true 19 (AC.cells [nU s.r0, nU s.r1, nU s.r2, nU s.r3, nU s.r4, nU s.r5, nU s.r6, nU s.r7, nU s.pc, nU s.ps, nU s.c0, nU s.c1, nU s.c2, nU s.c3, nU s.c4, nU s.c5, nU s.c6, nU s.c7, AV.bool s.h]) = ABlk.mk true 19 (AC.cells [nU s.r0, nU s.r1, nU s.r2, nU s.r3, nU s.r4, nU s.r5, nU s.r6, nU s.r7, nU s.pc, nU s.ps, nU s.c0, nU s.c1, nU s.c2, nU s.c3, nU s.c4, nU s.c5, nU s.c6, nU s.c7, AV.bool s.h]) ∧ bW out = bW ((out ++ encs (List.drop 8 s.cl))) ∧ True
theorem n8t8_c_e (out : List Int) (ex : Bool) (s : St) : some (n8t8_c_V out ex s) = (some ((nums8L Go.Proofs.Tryd.prog 10 St.cl).body sp Go.Proofs.Tryd.prog (putC.orc sp) (drP sp Go.Proofs.Tryd.prog (putC.orc sp)) noLo 40 ⟨out, ex, 8, s⟩)) := by kernel_rfl
theorem n8t8_ok (out : List Int) (ex : Bool) (s : St) (h : out.length ≤ 900000000 + 10 * 8) : n8t8_c_V out ex s := by
  have he : encs (St.cl s |>.drop 8) = [] := rfl
  simp [n8t8_c_V, he, St.av]
set_option maxRecDepth 100000 in
theorem n8tB (out : List Int) (ex : Bool) (k : Nat) (s : St) (h1 : out.length ≤ 900000000 + 10 * k) (h2 : k ≤ 8) : (nums8L Go.Proofs.Tryd.prog 10 St.cl).body sp Go.Proofs.Tryd.prog (putC.orc sp) (drP sp Go.Proofs.Tryd.prog (putC.orc sp)) noLo 40 ⟨out, ex, k, s⟩ := by
  have : k = 0 ∨ k = 1 ∨ k = 2 ∨ k = 3 ∨ k = 4 ∨ k = 5 ∨ k = 6 ∨ k = 7 ∨ k = 8 := by omega
  rcases this with e | e | e | e | e | e | e | e | e
  · rw [e] at h1 ⊢
    rw [← Option.some.inj (n8t0_c_e out ex s)]
    exact n8t0_ok out ex s h1
  · rw [e] at h1 ⊢
    rw [← Option.some.inj (n8t1_c_e out ex s)]
    exact n8t1_ok out ex s h1
  · rw [e] at h1 ⊢
    rw [← Option.some.inj (n8t2_c_e out ex s)]
    exact n8t2_ok out ex s h1
  · rw [e] at h1 ⊢
    rw [← Option.some.inj (n8t3_c_e out ex s)]
    exact n8t3_ok out ex s h1
  · rw [e] at h1 ⊢
    rw [← Option.some.inj (n8t4_c_e out ex s)]
    exact n8t4_ok out ex s h1
  · rw [e] at h1 ⊢
    rw [← Option.some.inj (n8t5_c_e out ex s)]
    exact n8t5_ok out ex s h1
  · rw [e] at h1 ⊢
    rw [← Option.some.inj (n8t6_c_e out ex s)]
    exact n8t6_ok out ex s h1
  · rw [e] at h1 ⊢
    rw [← Option.some.inj (n8t7_c_e out ex s)]
    exact n8t7_ok out ex s h1
  · rw [e] at h1 ⊢
    rw [← Option.some.inj (n8t8_c_e out ex s)]
    exact n8t8_ok out ex s h1
set_option maxRecDepth 100000 in
theorem n8tL_ok : (nums8L Go.Proofs.Tryd.prog 10 St.cl).OK Go.Proofs.Tryd.prog := by
  refine Lp.ok_of (Con.orc_ok putC_ok) (drP_ok hmix _ (Con.orc_ok putC_ok)) (noLo_ok _) (by decide) 40 (fun i hi => ?_)
  exact n8tB i.out i.ex i.k i.s hi.1 hi.2
def nums8t_c_V (x : W8) : Prop :=
  same (loopOf Proofs.Tryd.prog F_file_writer_numbers 0) (loopOf Proofs.Tryd.prog F_file_writer_numbers 0) ∧ (x.out.length ≤ 900000000 ∧ 0 ≤ 8) ∧ ((AV.ptr 0 0 0 = AV.ptr 0 0 0 ∧ AV.sl 1 0 10 8 8 true = AV.sl 1 0 10 8 8 true ∧ nI 8 = nI 8 ∧ nI 0 = nI 0 ∧ True) ∧ bC [AV.sl 2 0 0 x.out.length x.out.length x.ex] = bC [AV.sl 2 0 0 x.out.length x.out.length x.ex] ∧ ABlk.mk true 19 (AC.cells [nU x.s.r0, nU x.s.r1, nU x.s.r2, nU x.s.r3, nU x.s.r4, nU x.s.r5, nU x.s.r6, nU x.s.r7, nU x.s.pc, nU x.s.ps, nU x.s.c0, nU x.s.c1, nU x.s.c2, nU x.s.c3, nU x.s.c4, nU x.s.c5, nU x.s.c6, nU x.s.c7, AV.bool x.s.h]) = ABlk.mk true 19 (AC.cells [nU x.s.r0, nU x.s.r1, nU x.s.r2, nU x.s.r3, nU x.s.r4, nU x.s.r5, nU x.s.r6, nU x.s.r7, nU x.s.pc, nU x.s.ps, nU x.s.c0, nU x.s.c1, nU x.s.c2, nU x.s.c3, nU x.s.c4, nU x.s.c5, nU x.s.c6, nU x.s.c7, AV.bool x.s.h]) ∧ bW x.out = bW x.out ∧ True) ∧ ∃ (y : List Int), y =
  x.out ++ encs [x.s.c0, x.s.c1, x.s.c2, x.s.c3, x.s.c4, x.s.c5, x.s.c6, x.s.c7] ∧ [AV.tup []] = [AV.tup []] ∧ bC [AV.sl 3 0 0 (x.out ++ encs (List.drop 0 (St.mk x.s.r0 x.s.r1 x.s.r2 x.s.r3 x.s.r4 x.s.r5 x.s.r6 x.s.r7 x.s.pc x.s.ps x.s.c0 x.s.c1 x.s.c2 x.s.c3 x.s.c4 x.s.c5 x.s.c6 x.s.c7 x.s.h).cl)).length (x.out ++ encs (List.drop 0 (St.mk x.s.r0 x.s.r1 x.s.r2 x.s.r3 x.s.r4 x.s.r5 x.s.r6 x.s.r7 x.s.pc x.s.ps x.s.c0 x.s.c1 x.s.c2 x.s.c3 x.s.c4 x.s.c5 x.s.c6 x.s.c7 x.s.h).cl)).length (x.ex && false)] = bC [AV.sl 3 0 0 y.length y.length false] ∧ ABlk.mk true 19 (AC.cells [nU x.s.r0, nU x.s.r1, nU x.s.r2, nU x.s.r3, nU x.s.r4, nU x.s.r5, nU x.s.r6, nU x.s.r7, nU x.s.pc, nU x.s.ps, nU x.s.c0, nU x.s.c1, nU x.s.c2, nU x.s.c3, nU x.s.c4, nU x.s.c5, nU x.s.c6, nU x.s.c7, AV.bool x.s.h]) = ABlk.mk true 19 (AC.cells [nU x.s.r0, nU x.s.r1, nU x.s.r2, nU x.s.r3, nU x.s.r4, nU x.s.r5, nU x.s.r6, nU
  x.s.r7, nU x.s.pc, nU x.s.ps, nU x.s.c0, nU x.s.c1, nU x.s.c2, nU x.s.c3, nU x.s.c4, nU x.s.c5, nU x.s.c6, nU x.s.c7, AV.bool x.s.h]) ∧ bW ((x.out ++ encs (List.drop 0 (St.mk x.s.r0 x.s.r1 x.s.r2 x.s.r3 x.s.r4 x.s.r5 x.s.r6 x.s.r7 x.s.pc x.s.ps x.s.c0 x.s.c1 x.s.c2 x.s.c3 x.s.c4 x.s.c5 x.s.c6 x.s.c7 x.s.h).cl))) = bW y ∧ True
theorem nums8t_c_e (x : W8) : some (nums8t_c_V x) = (nums8t.cond sp Go.Proofs.Tryd.prog (drP sp Go.Proofs.Tryd.prog) (forF F_file_writer_numbers ((nums8L Go.Proofs.Tryd.prog 10 St.cl).lo sp Go.Proofs.Tryd.prog (isLoop 1) (loopOf Go.Proofs.Tryd.prog F_file_writer_numbers 0)) noLoops) (putC.orc sp) 40 2 x) := by kernel_rfl
theorem nums8t_ok : nums8t.OK Go.Proofs.Tryd.prog := by
  refine Con.by hmix (forF_ok (Lp.lo_ok n8tL_ok rfl) (noLoops_ok _)) (Con.orc_ok putC_ok) nums8t_c_V nums8t_c_e (fun x hx => ?_)
  have h1 : x.out.length ≤ 900000000 := hx
  have he : (nums8L Go.Proofs.Tryd.prog 10 St.cl).outs ⟨x.out, x.ex, 0, x.s⟩ = (nums8L Go.Proofs.Tryd.prog 10 St.cl).outs ⟨x.out, x.ex, 0, x.s⟩ := rfl
  simp [nums8t_c_V, same, h1, St.av, St.cl]
end Go.Proofs.YtmbcpmbpkdeioaaDoor.W
/- A guest's state laid: the walk, whole. No condition. -/
namespace Go.Proofs.YtmbcpmbpkdeioaaDoor.W
open Go Go.RowKit Go.Eng
set_option maxRecDepth 100000
set_option linter.unusedVariables false
set_option linter.unusedSimpArgs false
def stateC_c_V (x : WS) : Prop :=
  x.out.length.le 900000000 ∧ [AV.ptr 0 0 0, AV.sl 2 0 0 8 8 true] = [AV.ptr 0 0 0, AV.sl 2 0 0 8 8 true] ∧ (some (bC [AV.sl 1 0 0 x.out.length x.out.length x.ex]) = some (bC [AV.sl 1 0 0 x.out.length x.out.length x.ex]) ∧ some (ABlk.mk true [nU x.s.r0, nU x.s.r1, nU x.s.r2, nU x.s.r3, nU x.s.r4, nU x.s.r5, nU x.s.r6, nU x.s.r7, nU x.s.pc, nU x.s.ps, nU x.s.c0, nU x.s.c1, nU x.s.c2, nU x.s.c3, nU x.s.c4, nU x.s.c5, nU x.s.c6, nU x.s.c7, AV.bool x.s.h].length (AC.cells [nU x.s.r0, nU x.s.r1, nU x.s.r2, nU x.s.r3, nU x.s.r4, nU x.s.r5, nU x.s.r6, nU x.s.r7, nU x.s.pc, nU x.s.ps, nU x.s.c0, nU x.s.c1, nU x.s.c2, nU x.s.c3, nU x.s.c4, nU x.s.c5, nU x.s.c6, nU x.s.c7, AV.bool x.s.h])) = some (ABlk.mk true 19 (AC.cells [nU x.s.r0, nU x.s.r1, nU x.s.r2, nU x.s.r3, nU x.s.r4, nU x.s.r5, nU x.s.r6, nU x.s.r7, nU x.s.pc, nU x.s.ps, nU x.s.c0, nU x.s.c1, nU x.s.c2, nU x.s.c3, nU x.s.c4, nU x.s.c5, nU
  x.s.c6, nU x.s.c7, AV.bool x.s.h])) ∧ some (bW x.out) = some (bW x.out) ∧ True) ∧ (∀ (y : List Int), y = x.out ++ encs [x.s.r0, x.s.r1, x.s.r2, x.s.r3, x.s.r4, x.s.r5, x.s.r6, x.s.r7] → (y.length + 10 * [x.s.pc, x.s.ps].length).le 1000000000 ∧ [AV.ptr 0 0 0, AV.sl 4 0 0 2 2 true] = [AV.ptr 0 0 0, AV.sl 4 0 0 [x.s.pc, x.s.ps].length [x.s.pc, x.s.ps].length true] ∧ (some (bC [AV.sl 3 0 0 y.length y.length false]) = some (bC [AV.sl 3 0 0 y.length y.length false]) ∧ some (ABlk.mk true 1 (AC.ints IntKind.u32 [x.s.pc, x.s.ps])) = some (ABlk.mk true 1 (AC.ints IntKind.u32 [x.s.pc, x.s.ps])) ∧ some (bW y) = some (bW y) ∧ True) ∧ (∀ (y_1 : List Int), y_1 = y ++ encs [x.s.pc, x.s.ps] → y_1.length.le 900000000 ∧ [AV.ptr 0 0 0, AV.sl 2 0 10 8 8 true] = [AV.ptr 0 0 0, AV.sl 2 0 10 8 8 true] ∧ (some (bC [AV.sl 5 0 0 y_1.length y_1.length false]) = some (bC [AV.sl 5 0 0 y_1.length y_1.length false]) ∧
  some (ABlk.mk true 19 (AC.cells [nU x.s.r0, nU x.s.r1, nU x.s.r2, nU x.s.r3, nU x.s.r4, nU x.s.r5, nU x.s.r6, nU x.s.r7, nU x.s.pc, nU x.s.ps, nU x.s.c0, nU x.s.c1, nU x.s.c2, nU x.s.c3, nU x.s.c4, nU x.s.c5, nU x.s.c6, nU x.s.c7, AV.bool x.s.h])) = some (ABlk.mk true 19 (AC.cells [nU x.s.r0, nU x.s.r1, nU x.s.r2, nU x.s.r3, nU x.s.r4, nU x.s.r5, nU x.s.r6, nU x.s.r7, nU x.s.pc, nU x.s.ps, nU x.s.c0, nU x.s.c1, nU x.s.c2, nU x.s.c3, nU x.s.c4, nU x.s.c5, nU x.s.c6, nU x.s.c7, AV.bool x.s.h])) ∧ some (bW y_1) = some (bW y_1) ∧ True) ∧ (∀ (y : List Int), y = y_1 ++ encs [x.s.c0, x.s.c1, x.s.c2, x.s.c3, x.s.c4, x.s.c5, x.s.c6, x.s.c7] → sp x.s.h ((y.length + 10).le 1000000000 ∧ [AV.ptr 0 0 0, AV.sl 7 0 0 1 1 true] = [AV.ptr 0 0 0, AV.sl 7 0 0 1 1 true] ∧ (some (bC [AV.sl 6 0 0 y.length y.length false]) = some (bC [AV.sl 6 0 0 y.length y.length false]) ∧ some (ABlk.mk true 1 (AC.ints
  IntKind.i64 [1])) = some (ABlk.mk true 1 (AC.ints IntKind.i64 [1])) ∧ some (bW y) = some (bW y) ∧ True) ∧ (∀ (y_2 : List Int), y_2 = y ++ encs [1] → ∃ (y : List Int), y = x.out ++ encs x.s.nums ∧ [AV.tup []] = [AV.tup []] ∧ bC [AV.sl 8 0 0 y_2.length y_2.length false] = bC [AV.sl 8 0 0 y.length y.length false] ∧ bW y_2 = bW y ∧ True) ∧ True) ((y.length + 10).le 1000000000 ∧ [AV.ptr 0 0 0, AV.sl 7 0 0 1 1 true] = [AV.ptr 0 0 0, AV.sl 7 0 0 1 1 true] ∧ (some (bC [AV.sl 6 0 0 y.length y.length false]) = some (bC [AV.sl 6 0 0 y.length y.length false]) ∧ some (ABlk.mk true 1 (AC.ints IntKind.i64 [0])) = some (ABlk.mk true 1 (AC.ints IntKind.i64 [0])) ∧ some (bW y) = some (bW y) ∧ True) ∧ (∀ (y_2 : List Int), y_2 = y ++ encs [0] → ∃ (y : List Int), y = x.out ++ encs x.s.nums ∧ [AV.tup []] = [AV.tup []] ∧ bC [AV.sl 8 0 0 y_2.length y_2.length false] = bC [AV.sl 8 0 0 y.length y.length false] ∧
  bW y_2 = bW y ∧ True) ∧ True)) ∧ True) ∧ True) ∧ True
theorem stateC_c_e (x : WS) : some (stateC_c_V x) = (stateC.cond sp Go.Proofs.Tryd.prog (drP sp Go.Proofs.Tryd.prog) noLoops (orK (nums8f.orc sp) (orK (nums8t.orc sp) (orK ((intsC F_file_writer_numbers .u32).orc sp) ((intsC F_file_writer_ints .i64).orc sp)))) 40 2 x) := by kernel_rfl
set_option maxRecDepth 100000 in
theorem stateC_ok : stateC.OK Go.Proofs.Tryd.prog := by
  refine Con.by hmix (noLoops_ok _) (orK_ok (Con.orc_ok nums8f_ok) (orK_ok (Con.orc_ok nums8t_ok) (orK_ok (Con.orc_ok numsC_ok) (Con.orc_ok intsC_ok)))) stateC_c_V stateC_c_e (fun x hx => ?_)
  have h1 : x.out.length ≤ 800000000 := hx
  unfold stateC_c_V
  refine ⟨by show x.out.length ≤ 900000000; omega, rfl, ⟨rfl, rfl, rfl, trivial⟩, fun y hy => ?_, trivial⟩
  have l1 : y.length ≤ 800000100 := by rw [hy, List.length_append]; have := encs_len [x.s.r0, x.s.r1, x.s.r2, x.s.r3, x.s.r4, x.s.r5, x.s.r6, x.s.r7]; simp at this; omega
  refine ⟨by show y.length + 10 * 2 ≤ 1000000000; omega, rfl, ⟨rfl, rfl, rfl, trivial⟩, fun y1 hy1 => ?_, trivial⟩
  have l2 : y1.length ≤ 800000200 := by rw [hy1, List.length_append]; have := encs_len [x.s.pc, x.s.ps]; simp at this; omega
  refine ⟨by show y1.length ≤ 900000000; omega, rfl, ⟨rfl, rfl, rfl, trivial⟩, fun y2 hy2 => ?_, trivial⟩
  have l3 : y2.length ≤ 800000300 := by rw [hy2, List.length_append]; have := encs_len [x.s.c0, x.s.c1, x.s.c2, x.s.c3, x.s.c4, x.s.c5, x.s.c6, x.s.c7]; simp at this; omega
  refine spI (fun h => ?_) (fun h => ?_)
  · refine ⟨by show y2.length + 10 * 1 ≤ 1000000000; omega, rfl, ⟨rfl, rfl, rfl, trivial⟩, fun y3 hy3 => ?_, trivial⟩
    refine ⟨y3, ?_, by simp, by simp⟩
    rw [hy3, hy2, hy1, hy]
    simp [St.nums, h, encs]
  · refine ⟨by show y2.length + 10 * 1 ≤ 1000000000; omega, rfl, ⟨rfl, rfl, rfl, trivial⟩, fun y3 hy3 => ?_, trivial⟩
    refine ⟨y3, ?_, by simp, by simp⟩
    rw [hy3, hy2, hy1, hy]
    simp [St.nums, h, encs]
end Go.Proofs.YtmbcpmbpkdeioaaDoor.W
/- A machine of a saved guest: what is reckoned, and the loops' states. No condition. -/
namespace Go.Proofs.YtmbcpmbpkdeioaaDoor.W
open Go Go.RowKit Go.Eng
set_option maxRecDepth 100000
set_option linter.unusedVariables false
set_option linter.unusedSimpArgs false
/-- Rows of notes, and of events, of the call's; each may be nil. -/
structure NRow where
  n : Nat
  c : Nat
  at_ : Nat → Int
  cause : Nat → Int
  back : Nat → Int
  addr : Nat → Int
structure ERow where
  n : Nat
  c : Nat
  at_ : Nat → Int
  kind : Nat → Int
  byte : Nat → Int
def NRow.f (r : NRow) (i : Nat) : List AV := [.int .i64 (r.at_ i), .int .i64 (r.cause i), .int .u32 (r.back i), .int .u32 (r.addr i)]
def ERow.f (r : ERow) (i : Nat) : List AV := [.int .i64 (r.at_ i), .int .i64 (r.kind i), .int .u8 (r.byte i)]
def NRow.av (b : Nat) (r : NRow) : AV := .msl b 0 0 r.n r.c
def ERow.av (b : Nat) (r : ERow) : AV := .msl b 0 0 r.n r.c
def NRow.blk (r : NRow) : ABlk := ⟨false, 4, .recs r.n r.f⟩
def ERow.blk (r : ERow) : ABlk := ⟨false, 3, .recs r.n r.f⟩
def numAt (l : List AV) (j : Nat) : Int := match l.getD j .any with
  | .int _ n => n
  | _ => 0
def rowOf (H : AH) (b c : Nat) : Option Row := match H.get b with
  | some k => match k.c with
    | .ints _ l => some ⟨l, c⟩
    | _ => none
  | none => none
def nrowOf (H : AH) (b c : Nat) : Option NRow := match H.get b with
  | some k => match k.c with
    | .recs n f => some ⟨n, c, fun i => numAt (f i) 0, fun i => numAt (f i) 1, fun i => numAt (f i) 2, fun i => numAt (f i) 3⟩
    | _ => none
  | none => none
def erowOf (H : AH) (b c : Nat) : Option ERow := match H.get b with
  | some k => match k.c with
    | .recs n f => some ⟨n, c, fun i => numAt (f i) 0, fun i => numAt (f i) 1, fun i => numAt (f i) 2⟩
    | _ => none
  | none => none
/-- A saved guest. -/
structure Sv where
  fr : Int
  mem : Row
  s : St
  steps : Int
  notes : NRow
  out : Row
  disk : Row
  queue : Row
  script : ERow
  b1 : Int
  b2 : Int
  b3 : Int
  b4 : Int
  b5 : Int
  b6 : Int
  b7 : Int
  b8 : Int
def Sv.av (x : Sv) : List AV := [.int .i64 x.fr, x.mem.av 0,
  .int .u32 x.s.r0, .int .u32 x.s.r1, .int .u32 x.s.r2, .int .u32 x.s.r3, .int .u32 x.s.r4, .int .u32 x.s.r5, .int .u32 x.s.r6, .int .u32 x.s.r7, .int .u32 x.s.pc, .int .u32 x.s.ps,
  .int .u32 x.s.c0, .int .u32 x.s.c1, .int .u32 x.s.c2, .int .u32 x.s.c3, .int .u32 x.s.c4, .int .u32 x.s.c5, .int .u32 x.s.c6, .int .u32 x.s.c7, .bool x.s.h,
  .int .i64 x.steps, x.notes.av 1, x.out.av 2, x.disk.av 3, x.queue.av 4, x.script.av 5,
  .int .u32 x.b1, .int .u32 x.b2, .int .u32 x.b3, .int .u32 x.b4, .int .u32 x.b5, .int .u32 x.b6, .int .u32 x.b7, .int .u32 x.b8]
def Sv.L (x : Sv) : LH := [(0, x.mem.blk), (1, x.notes.blk), (2, x.out.blk), (3, x.disk.blk), (4, x.queue.blk), (5, x.script.blk)]
/-- What is told of a guest by value. -/
def svOf (H : AH) : List AV → Option (List Nat × Sv)
  | .int _ fr :: .msl m0 _ _ _ c0 :: .int _ r0 :: .int _ r1 :: .int _ r2 :: .int _ r3 :: .int _ r4 :: .int _ r5 :: .int _ r6 :: .int _ r7 :: .int _ pc :: .int _ ps :: .int _ d0 :: .int _ d1 :: .int _ d2 :: .int _ d3 :: .int _ d4 :: .int _ d5 :: .int _ d6 :: .int _ d7 :: .bool h :: .int _ steps :: .msl m1 _ _ _ c1 :: .msl m2 _ _ _ c2 :: .msl m3 _ _ _ c3 :: .msl m4 _ _ _ c4 :: .msl m5 _ _ _ c5 :: l =>
    match l with
    | [.int _ b1, .int _ b2, .int _ b3, .int _ b4, .int _ b5, .int _ b6, .int _ b7, .int _ b8] => match rowOf H m0 c0, nrowOf H m1 c1, rowOf H m2 c2, rowOf H m3 c3, rowOf H m4 c4, erowOf H m5 c5 with
      | some l0, some l1, some l2, some l3, some l4, some l5 => some ([m0, m1, m2, m3, m4, m5], ⟨fr, l0, ⟨r0, r1, r2, r3, r4, r5, r6, r7, pc, ps, d0, d1, d2, d3, d4, d5, d6, d7, h⟩, steps, l1, l2, l3, l4, l5, b1, b2, b3, b4, b5, b6, b7, b8⟩)
      | _, _, _, _, _, _ => none
    | _ => none
  | _ => none
def svFit (vs : List AV) (H : AH) : Option (List Nat × Sv) := match vs with
  | [.agg cs] => svOf H cs
  | _ => none
/-! ### whether it fits -/
def fitsN (x : Sv) : Bool := decide (x.fr ≥ 1) && decide (x.fr ≤ 64) && ((x.mem.bs.length : Int) == IntKind.wrap .i64 (x.fr * 64)) && (bits .andNot .u32 x.s.ps 247 == 0) && decide (x.steps ≥ 0) && decide (x.steps ≤ 1099511627776)
def fitsC : Con Sv Unit where
  f := F_machine_fits
  fit := svFit
  n0 := 6
  pre _ := True
  args x := [.agg x.av]
  L0 x := x.L
  outs x := [(fun _ => True, fun _ => (.ret (.bool (fitsN x)), 6, x.L))]
def orderedN (x : Sv) : Bool := bif x.b5 == 1 then x.b6 == 1 || x.b6 == 2 else decide (x.b5 ≤ 2) && (x.b6 == 0) && (x.b7 == 0) && (x.b8 == 0)
def orderedC : Con Sv Unit where
  f := F_dev_ordered
  fit := svFit
  n0 := 6
  pre _ := True
  args x := [.agg x.av]
  L0 x := x.L
  outs x := [(fun _ => True, fun _ => (.ret (.bool (orderedN x)), 6, x.L))]
structure EvX where
  a : Int
  k : Int
  b : Int
def mayN (x : EvX) : Bool := decide (x.k ≥ 0) && decide (x.k ≤ 2) && decide (x.a ≥ 0) && decide (x.a ≤ 1073741824) && (x.k == 1 || x.b == 0)
def evC : Con EvX Unit where
  f := F_dev_may
  fit vs H := match vs with
    | [.agg [.int _ a, .int _ k, .int _ b]] => some ([], ⟨a, k, b⟩)
    | _ => none
  n0 := 0
  pre _ := True
  args x := [.agg [.int .i64 x.a, .int .i64 x.k, .int .u8 x.b]]
  L0 _ := []
  outs x := [(fun _ => True, fun _ => (.ret (.bool (mayN x)), 0, []))]
/-! ### copies of rows -/
def cloneS : Con Row Unit where
  f := F_slices_Clone_byte_byte
  fit _ _ := none
  n0 := 1
  pre r := r.bs.length ≤ 140737488351232 ∧ r.bs.length ≤ r.c
  args r := [.sl 0 0 0 r.bs.length r.c true]
  L0 r := [(0, r.blk)]
  outs r := [(fun _ => True, fun _ => (.ret (.sl 1 0 0 r.bs.length r.bs.length false), 2, [(0, r.blk)]))]
def cloneZ : Con Row Unit where
  f := F_slices_Clone_byte_byte
  fit _ _ := none
  n0 := 1
  pre _ := True
  args _ := [.nils]
  L0 r := [(0, r.blk)]
  outs r := [(fun _ => True, fun _ => (.ret .nils, 2, [(0, r.blk)]))]
def cloneC : Con Row Unit where
  f := F_slices_Clone_byte_byte
  fit vs H := match vs with
    | [.msl b _ _ _ c] => (rowOf H b c).map fun r => ([b], r)
    | _ => none
  n0 := 1
  pre r := r.bs.length ≤ 140737488351232 ∧ r.bs.length ≤ r.c
  args r := [r.av 0]
  L0 r := [(0, r.blk)]
  outs r := [(fun _ => True, fun _ => (.ret (.msl 1 0 0 r.bs.length r.bs.length), 2, [(0, r.blk)]))]
def eclS : Con ERow Unit where
  f := F_slices_Clone_api_Event_api_Event
  fit _ _ := none
  n0 := 1
  pre r := r.n ≤ 100000000 ∧ r.n ≤ r.c
  args r := [.sl 0 0 0 r.n r.c true]
  L0 r := [(0, r.blk)]
  outs r := [(fun _ => True, fun _ => (.ret (.sl 1 0 0 r.n r.n false), 2, [(0, r.blk)]))]
def eclZ : Con ERow Unit where
  f := F_slices_Clone_api_Event_api_Event
  fit _ _ := none
  n0 := 1
  pre _ := True
  args _ := [.nils]
  L0 r := [(0, r.blk)]
  outs r := [(fun _ => True, fun _ => (.ret .nils, 2, [(0, r.blk)]))]
def eclC : Con ERow Unit where
  f := F_slices_Clone_api_Event_api_Event
  fit vs H := match vs with
    | [.msl b _ _ _ c] => (erowOf H b c).map fun r => ([b], r)
    | _ => none
  n0 := 1
  pre r := r.n ≤ 100000000 ∧ r.n ≤ r.c
  args r := [r.av 0]
  L0 r := [(0, r.blk)]
  outs r := [(fun _ => True, fun _ => (.ret (.msl 1 0 0 r.n r.n), 2, [(0, r.blk)]))]
end Go.Proofs.YtmbcpmbpkdeioaaDoor.W
/- A machine of a saved guest: the walks of what asks of it. No condition. -/
namespace Go.Proofs.YtmbcpmbpkdeioaaDoor.W
open Go Go.RowKit Go.Eng
set_option maxRecDepth 100000
set_option linter.unusedVariables false
set_option linter.unusedSimpArgs false
def fitsC_c_V (x : Sv) : Prop :=
  sp (decide (x.fr ≥ 1)) (sp (bif true then decide (x.fr ≤ 64) else false) (sp (bif true then (↑x.mem.bs.length : Int) == IntKind.i64.wrap (x.fr * 64) else false) (sp (bif true then bits BinOp.andNot IntKind.u32 x.s.ps 247 == 0 else false) (sp (bif true then decide (x.steps ≥ 0) else false) (∃ (y : Unit), True ∧ [AV.bool (bif true then decide (x.steps ≤ 1099511627776) else false)] = [AV.bool (fitsN x)] ∧ bR x.mem.bs = bR x.mem.bs ∧ (false = false ∧ 4 = 4 ∧ x.notes.n = x.notes.n ∧ ∀ (i : Nat), i < x.notes.n → [nI (x.notes.at_ i), nI (x.notes.cause i), nU (x.notes.back i), nU (x.notes.addr i)] = [nI (x.notes.at_ i), nI (x.notes.cause i), nU (x.notes.back i), nU (x.notes.addr i)]) ∧ bR x.out.bs = bR x.out.bs ∧ bR x.disk.bs = bR x.disk.bs ∧ bR x.queue.bs = bR x.queue.bs ∧ (false = false ∧ 3 = 3 ∧ x.script.n = x.script.n ∧ ∀ (i : Nat), i < x.script.n → [nI (x.script.at_ i), nI (x.script.kind i),
  nB (x.script.byte i)] = [nI (x.script.at_ i), nI (x.script.kind i), nB (x.script.byte i)]) ∧ True) (∃ (y : Unit), True ∧ [AV.bool false] = [AV.bool (fitsN x)] ∧ bR x.mem.bs = bR x.mem.bs ∧ (false = false ∧ 4 = 4 ∧ x.notes.n = x.notes.n ∧ ∀ (i : Nat), i < x.notes.n → [nI (x.notes.at_ i), nI (x.notes.cause i), nU (x.notes.back i), nU (x.notes.addr i)] = [nI (x.notes.at_ i), nI (x.notes.cause i), nU (x.notes.back i), nU (x.notes.addr i)]) ∧ bR x.out.bs = bR x.out.bs ∧ bR x.disk.bs = bR x.disk.bs ∧ bR x.queue.bs = bR x.queue.bs ∧ (false = false ∧ 3 = 3 ∧ x.script.n = x.script.n ∧ ∀ (i : Nat), i < x.script.n → [nI (x.script.at_ i), nI (x.script.kind i), nB (x.script.byte i)] = [nI (x.script.at_ i), nI (x.script.kind i), nB (x.script.byte i)]) ∧ True)) (∃ (y : Unit), True ∧ [AV.bool false] = [AV.bool (fitsN x)] ∧ bR x.mem.bs = bR x.mem.bs ∧ (false = false ∧ 4 = 4 ∧ x.notes.n = x.notes.n ∧ ∀ (i
  : Nat), i < x.notes.n → [nI (x.notes.at_ i), nI (x.notes.cause i), nU (x.notes.back i), nU (x.notes.addr i)] = [nI (x.notes.at_ i), nI (x.notes.cause i), nU (x.notes.back i), nU (x.notes.addr i)]) ∧ bR x.out.bs = bR x.out.bs ∧ bR x.disk.bs = bR x.disk.bs ∧ bR x.queue.bs = bR x.queue.bs ∧ (false = false ∧ 3 = 3 ∧ x.script.n = x.script.n ∧ ∀ (i : Nat), i < x.script.n → [nI (x.script.at_ i), nI (x.script.kind i), nB (x.script.byte i)] = [nI (x.script.at_ i), nI (x.script.kind i), nB (x.script.byte i)]) ∧ True)) (∃ (y : Unit), True ∧ [AV.bool false] = [AV.bool (fitsN x)] ∧ bR x.mem.bs = bR x.mem.bs ∧ (false = false ∧ 4 = 4 ∧ x.notes.n = x.notes.n ∧ ∀ (i : Nat), i < x.notes.n → [nI (x.notes.at_ i), nI (x.notes.cause i), nU (x.notes.back i), nU (x.notes.addr i)] = [nI (x.notes.at_ i), nI (x.notes.cause i), nU (x.notes.back i), nU (x.notes.addr i)]) ∧ bR x.out.bs = bR x.out.bs ∧ bR x.disk.bs =
  bR x.disk.bs ∧ bR x.queue.bs = bR x.queue.bs ∧ (false = false ∧ 3 = 3 ∧ x.script.n = x.script.n ∧ ∀ (i : Nat), i < x.script.n → [nI (x.script.at_ i), nI (x.script.kind i), nB (x.script.byte i)] = [nI (x.script.at_ i), nI (x.script.kind i), nB (x.script.byte i)]) ∧ True)) (∃ (y : Unit), True ∧ [AV.bool false] = [AV.bool (fitsN x)] ∧ bR x.mem.bs = bR x.mem.bs ∧ (false = false ∧ 4 = 4 ∧ x.notes.n = x.notes.n ∧ ∀ (i : Nat), i < x.notes.n → [nI (x.notes.at_ i), nI (x.notes.cause i), nU (x.notes.back i), nU (x.notes.addr i)] = [nI (x.notes.at_ i), nI (x.notes.cause i), nU (x.notes.back i), nU (x.notes.addr i)]) ∧ bR x.out.bs = bR x.out.bs ∧ bR x.disk.bs = bR x.disk.bs ∧ bR x.queue.bs = bR x.queue.bs ∧ (false = false ∧ 3 = 3 ∧ x.script.n = x.script.n ∧ ∀ (i : Nat), i < x.script.n → [nI (x.script.at_ i), nI (x.script.kind i), nB (x.script.byte i)] = [nI (x.script.at_ i), nI (x.script.kind i), nB
  (x.script.byte i)]) ∧ True)) (∃ (y : Unit), True ∧ [AV.bool false] = [AV.bool (fitsN x)] ∧ bR x.mem.bs = bR x.mem.bs ∧ (false = false ∧ 4 = 4 ∧ x.notes.n = x.notes.n ∧ ∀ (i : Nat), i < x.notes.n → [nI (x.notes.at_ i), nI (x.notes.cause i), nU (x.notes.back i), nU (x.notes.addr i)] = [nI (x.notes.at_ i), nI (x.notes.cause i), nU (x.notes.back i), nU (x.notes.addr i)]) ∧ bR x.out.bs = bR x.out.bs ∧ bR x.disk.bs = bR x.disk.bs ∧ bR x.queue.bs = bR x.queue.bs ∧ (false = false ∧ 3 = 3 ∧ x.script.n = x.script.n ∧ ∀ (i : Nat), i < x.script.n → [nI (x.script.at_ i), nI (x.script.kind i), nB (x.script.byte i)] = [nI (x.script.at_ i), nI (x.script.kind i), nB (x.script.byte i)]) ∧ True)
theorem fitsC_c_e (x : Sv) : some (fitsC_c_V x) = (fitsC.cond sp Go.Proofs.Tryd.prog (drP sp Go.Proofs.Tryd.prog) noLoops noBaseK 40 2 x) := by kernel_rfl
theorem fitsC_ok : fitsC.OK Go.Proofs.Tryd.prog := by
  refine Con.by hmix (noLoops_ok _) (noBaseK_ok _) fitsC_c_V fitsC_c_e (fun x _ => ?_)
  unfold fitsC_c_V
  refine spI (fun h1 => spI (fun h2 => spI (fun h3 => spI (fun h4 => spI (fun h5 => ?_) (fun h5 => ?_)) (fun h4 => ?_)) (fun h3 => ?_)) (fun h2 => ?_)) (fun h1 => ?_)
  all_goals
    simp only [cond_true] at *
    simp [fitsN, *]
def orderedC_c_V (x : Sv) : Prop :=
  sp (x.b5 == 1) (sp (x.b6 == 1) (∃ (y : Unit), True ∧ [AV.bool true] = [AV.bool (orderedN x)] ∧ bR x.mem.bs = bR x.mem.bs ∧ (false = false ∧ 4 = 4 ∧ x.notes.n = x.notes.n ∧ ∀ (i : Nat), i < x.notes.n → [nI (x.notes.at_ i), nI (x.notes.cause i), nU (x.notes.back i), nU (x.notes.addr i)] = [nI (x.notes.at_ i), nI (x.notes.cause i), nU (x.notes.back i), nU (x.notes.addr i)]) ∧ bR x.out.bs = bR x.out.bs ∧ bR x.disk.bs = bR x.disk.bs ∧ bR x.queue.bs = bR x.queue.bs ∧ (false = false ∧ 3 = 3 ∧ x.script.n = x.script.n ∧ ∀ (i : Nat), i < x.script.n → [nI (x.script.at_ i), nI (x.script.kind i), nB (x.script.byte i)] = [nI (x.script.at_ i), nI (x.script.kind i), nB (x.script.byte i)]) ∧ True) (∃ (y : Unit), True ∧ [AV.bool (bif false then true else x.b6 == 2)] = [AV.bool (orderedN x)] ∧ bR x.mem.bs = bR x.mem.bs ∧ (false = false ∧ 4 = 4 ∧ x.notes.n = x.notes.n ∧ ∀ (i : Nat), i < x.notes.n → [nI
  (x.notes.at_ i), nI (x.notes.cause i), nU (x.notes.back i), nU (x.notes.addr i)] = [nI (x.notes.at_ i), nI (x.notes.cause i), nU (x.notes.back i), nU (x.notes.addr i)]) ∧ bR x.out.bs = bR x.out.bs ∧ bR x.disk.bs = bR x.disk.bs ∧ bR x.queue.bs = bR x.queue.bs ∧ (false = false ∧ 3 = 3 ∧ x.script.n = x.script.n ∧ ∀ (i : Nat), i < x.script.n → [nI (x.script.at_ i), nI (x.script.kind i), nB (x.script.byte i)] = [nI (x.script.at_ i), nI (x.script.kind i), nB (x.script.byte i)]) ∧ True)) (sp (decide (x.b5 ≤ 2)) (sp (bif true then x.b6 == 0 else false) (sp (bif true then x.b7 == 0 else false) (∃ (y : Unit), True ∧ [AV.bool (bif true then x.b8 == 0 else false)] = [AV.bool (orderedN x)] ∧ bR x.mem.bs = bR x.mem.bs ∧ (false = false ∧ 4 = 4 ∧ x.notes.n = x.notes.n ∧ ∀ (i : Nat), i < x.notes.n → [nI (x.notes.at_ i), nI (x.notes.cause i), nU (x.notes.back i), nU (x.notes.addr i)] = [nI (x.notes.at_ i),
  nI (x.notes.cause i), nU (x.notes.back i), nU (x.notes.addr i)]) ∧ bR x.out.bs = bR x.out.bs ∧ bR x.disk.bs = bR x.disk.bs ∧ bR x.queue.bs = bR x.queue.bs ∧ (false = false ∧ 3 = 3 ∧ x.script.n = x.script.n ∧ ∀ (i : Nat), i < x.script.n → [nI (x.script.at_ i), nI (x.script.kind i), nB (x.script.byte i)] = [nI (x.script.at_ i), nI (x.script.kind i), nB (x.script.byte i)]) ∧ True) (∃ (y : Unit), True ∧ [AV.bool false] = [AV.bool (orderedN x)] ∧ bR x.mem.bs = bR x.mem.bs ∧ (false = false ∧ 4 = 4 ∧ x.notes.n = x.notes.n ∧ ∀ (i : Nat), i < x.notes.n → [nI (x.notes.at_ i), nI (x.notes.cause i), nU (x.notes.back i), nU (x.notes.addr i)] = [nI (x.notes.at_ i), nI (x.notes.cause i), nU (x.notes.back i), nU (x.notes.addr i)]) ∧ bR x.out.bs = bR x.out.bs ∧ bR x.disk.bs = bR x.disk.bs ∧ bR x.queue.bs = bR x.queue.bs ∧ (false = false ∧ 3 = 3 ∧ x.script.n = x.script.n ∧ ∀ (i : Nat), i < x.script.n → [nI
  (x.script.at_ i), nI (x.script.kind i), nB (x.script.byte i)] = [nI (x.script.at_ i), nI (x.script.kind i), nB (x.script.byte i)]) ∧ True)) (∃ (y : Unit), True ∧ [AV.bool false] = [AV.bool (orderedN x)] ∧ bR x.mem.bs = bR x.mem.bs ∧ (false = false ∧ 4 = 4 ∧ x.notes.n = x.notes.n ∧ ∀ (i : Nat), i < x.notes.n → [nI (x.notes.at_ i), nI (x.notes.cause i), nU (x.notes.back i), nU (x.notes.addr i)] = [nI (x.notes.at_ i), nI (x.notes.cause i), nU (x.notes.back i), nU (x.notes.addr i)]) ∧ bR x.out.bs = bR x.out.bs ∧ bR x.disk.bs = bR x.disk.bs ∧ bR x.queue.bs = bR x.queue.bs ∧ (false = false ∧ 3 = 3 ∧ x.script.n = x.script.n ∧ ∀ (i : Nat), i < x.script.n → [nI (x.script.at_ i), nI (x.script.kind i), nB (x.script.byte i)] = [nI (x.script.at_ i), nI (x.script.kind i), nB (x.script.byte i)]) ∧ True)) (∃ (y : Unit), True ∧ [AV.bool false] = [AV.bool (orderedN x)] ∧ bR x.mem.bs = bR x.mem.bs ∧ (false
  = false ∧ 4 = 4 ∧ x.notes.n = x.notes.n ∧ ∀ (i : Nat), i < x.notes.n → [nI (x.notes.at_ i), nI (x.notes.cause i), nU (x.notes.back i), nU (x.notes.addr i)] = [nI (x.notes.at_ i), nI (x.notes.cause i), nU (x.notes.back i), nU (x.notes.addr i)]) ∧ bR x.out.bs = bR x.out.bs ∧ bR x.disk.bs = bR x.disk.bs ∧ bR x.queue.bs = bR x.queue.bs ∧ (false = false ∧ 3 = 3 ∧ x.script.n = x.script.n ∧ ∀ (i : Nat), i < x.script.n → [nI (x.script.at_ i), nI (x.script.kind i), nB (x.script.byte i)] = [nI (x.script.at_ i), nI (x.script.kind i), nB (x.script.byte i)]) ∧ True))
theorem orderedC_c_e (x : Sv) : some (orderedC_c_V x) = (orderedC.cond sp Go.Proofs.Tryd.prog (drP sp Go.Proofs.Tryd.prog) noLoops noBaseK 40 2 x) := by kernel_rfl
theorem orderedC_ok : orderedC.OK Go.Proofs.Tryd.prog := by
  refine Con.by hmix (noLoops_ok _) (noBaseK_ok _) orderedC_c_V orderedC_c_e (fun x _ => ?_)
  unfold orderedC_c_V
  refine spI (fun h1 => spI (fun h2 => ?_) (fun h2 => ?_)) (fun h1 => spI (fun h2 => spI (fun h3 => spI (fun h4 => ?_) (fun h4 => ?_)) (fun h3 => ?_)) (fun h2 => ?_))
  all_goals
    simp only [cond_true, cond_false] at *
    simp [orderedN, *]
def evC_c_V (x : EvX) : Prop :=
  sp (decide (x.k ≥ 0)) (sp (bif true then decide (x.k ≤ 2) else false) (sp (bif true then decide (x.a ≥ 0) else false) (sp (bif true then decide (x.a ≤ 1073741824) else false) (sp (x.k == 1) (∃ (y : Unit), True ∧ [AV.bool true] = [AV.bool (mayN x)] ∧ True) (∃ (y : Unit), True ∧ [AV.bool (bif true then bif false then true else x.b == 0 else false)] = [AV.bool (mayN x)] ∧ True)) (∃ (y : Unit), True ∧ [AV.bool false] = [AV.bool (mayN x)] ∧ True)) (∃ (y : Unit), True ∧ [AV.bool false] = [AV.bool (mayN x)] ∧ True)) (∃ (y : Unit), True ∧ [AV.bool false] = [AV.bool (mayN x)] ∧ True)) (∃ (y : Unit), True ∧ [AV.bool false] = [AV.bool (mayN x)] ∧ True)
theorem evC_c_e (x : EvX) : some (evC_c_V x) = (evC.cond sp Go.Proofs.Tryd.prog (drP sp Go.Proofs.Tryd.prog) noLoops noBaseK 40 2 x) := by kernel_rfl
theorem evC_ok : evC.OK Go.Proofs.Tryd.prog := by
  refine Con.by hmix (noLoops_ok _) (noBaseK_ok _) evC_c_V evC_c_e (fun x _ => ?_)
  unfold evC_c_V
  repeat' refine spI (fun _ => ?_) (fun _ => ?_)
  all_goals
    try simp only [cond_true, cond_false] at *
    simp [mayN, *]
def cloneS_c_V (r : Row) : Prop :=
  sp (decide (0 + r.bs.length ≤ r.bs.length) && (decide ((0 + r.bs.length) * 1 ≤ 140737488355328) && decide (0 + r.bs.length ≤ 9223372036854775807))) (∃ (y : Unit), True ∧ [AV.sl 2 0 0 (0 + r.bs.length) (0 + r.bs.length) false] = [AV.sl 2 0 0 r.bs.length r.bs.length false] ∧ bR r.bs = bR r.bs ∧ True) False
theorem cloneS_c_e (r : Row) : some (cloneS_c_V r) = (cloneS.cond sp Go.Proofs.Tryd.prog (drP sp Go.Proofs.Tryd.prog) noLoops noBaseK 40 2 r) := by kernel_rfl
theorem cloneS_ok : cloneS.OK Go.Proofs.Tryd.prog := by
  refine Con.by hmix (noLoops_ok _) (noBaseK_ok _) cloneS_c_V cloneS_c_e (fun r hr => ?_)
  have h1 : r.bs.length ≤ 140737488351232 := hr.1
  have h2 : r.bs.length ≤ 140737488355328 := by omega
  have h3 : r.bs.length ≤ 9223372036854775807 := by omega
  simp [cloneS_c_V, sp, h2, h3]
def cloneZ_c_V (r : Row) : Prop :=
  ∃ (y : Unit), True ∧ [AV.nils] = [AV.nils] ∧ bR r.bs = bR r.bs ∧ True
theorem cloneZ_c_e (r : Row) : some (cloneZ_c_V r) = (cloneZ.cond sp Go.Proofs.Tryd.prog (drP sp Go.Proofs.Tryd.prog) noLoops noBaseK 40 2 r) := by kernel_rfl
theorem cloneZ_ok : cloneZ.OK Go.Proofs.Tryd.prog := by
  refine Con.by hmix (noLoops_ok _) (noBaseK_ok _) cloneZ_c_V cloneZ_c_e (fun r hr => ?_)
  simp [cloneZ_c_V]
theorem cloneC_ok : cloneC.OK Go.Proofs.Tryd.prog := by
  intro r hr μ w vs hv s
  have h1 : r.bs.length ≤ 140737488351232 := hr.1
  have h2 : r.bs.length ≤ r.c := hr.2
  obtain ⟨v, vs', hv1⟩ : ∃ v, vs.toList = [v] ∧ VRel μ (r.av 0) v := by
    match hq : vs.toList, hv with
    | [v], h => exact ⟨v, rfl, h.1⟩
    | [], h => exact h.elim
    | _ :: _ :: _, h => exact h.2.elim
  rcases hv1 with ⟨hn, h0, hc⟩ | ⟨l, A, c', g1, g2, g3, g4, g6⟩
  · refine Calls.mono (cloneZ_ok r trivial μ w vs (by rw [vs']; exact ⟨hn, trivial⟩) s) (fun e w' hq => ?_)
    obtain ⟨out, H', μ', q1, q2, q3, q4⟩ := hq
    rcases q1 with ⟨y, _, rfl, rfl⟩ | q1
    · obtain ⟨x, rfl, hx⟩ := q2
      exact ⟨_, _, μ', .inl ⟨(), trivial, rfl, rfl⟩, ⟨x, rfl, .inl ⟨hx, h0, h0⟩⟩, q3, q4⟩
    · exact q1.elim
  · refine Calls.mono (cloneS_ok { r with c := c' } ⟨h1, by show r.bs.length ≤ c'; omega⟩ μ w vs (by rw [vs']; exact ⟨⟨l, A, c', g1, g2, Nat.le_trans h2 g4, Nat.le_refl _, fun _ => rfl, g6, fun e => by cases e⟩, trivial⟩) s) (fun e w' hq => ?_)
    obtain ⟨out, H', μ', q1, q2, q3, q4⟩ := hq
    rcases q1 with ⟨y, _, rfl, rfl⟩ | q1
    · obtain ⟨x, rfl, l2, A2, c2, k1, k2, k3, k4, k5, k6, k7⟩ := q2
      exact ⟨_, _, μ', .inl ⟨(), trivial, rfl, rfl⟩, ⟨x, rfl, .inr ⟨l2, A2, c2, k1, k2, k3, k4, k6⟩⟩, q3, q4⟩
    · exact q1.elim
def eclS_c_V (r : ERow) : Prop :=
  sp (decide (0 + r.n ≤ r.n) && (decide ((0 + r.n) * 24 ≤ 140737488355328) && decide (0 + r.n ≤ 9223372036854775807))) (∃ (y : Unit), True ∧ [AV.sl 2 0 0 (0 + r.n) (0 + r.n) false] = [AV.sl 2 0 0 r.n r.n false] ∧ (false = false ∧ 3 = 3 ∧ r.n = r.n ∧ ∀ (i : Nat), i < r.n → [nI (r.at_ i), nI (r.kind i), nB (r.byte i)] = [nI (r.at_ i), nI (r.kind i), nB (r.byte i)]) ∧ True) False
theorem eclS_c_e (r : ERow) : some (eclS_c_V r) = (eclS.cond sp Go.Proofs.Tryd.prog (drP sp Go.Proofs.Tryd.prog) noLoops noBaseK 40 2 r) := by kernel_rfl
theorem eclS_ok : eclS.OK Go.Proofs.Tryd.prog := by
  refine Con.by hmix (noLoops_ok _) (noBaseK_ok _) eclS_c_V eclS_c_e (fun r hr => ?_)
  have h1 : r.n ≤ 100000000 := hr.1
  have h2 : r.n * 24 ≤ 140737488355328 := by omega
  have h3 : r.n ≤ 9223372036854775807 := by omega
  simp [eclS_c_V, sp, h2, h3]
def eclZ_c_V (r : ERow) : Prop :=
  ∃ (y : Unit), True ∧ [AV.nils] = [AV.nils] ∧ (false = false ∧ 3 = 3 ∧ r.n = r.n ∧ ∀ (i : Nat), i < r.n → [nI (r.at_ i), nI (r.kind i), nB (r.byte i)] = [nI (r.at_ i), nI (r.kind i), nB (r.byte i)]) ∧ True
theorem eclZ_c_e (r : ERow) : some (eclZ_c_V r) = (eclZ.cond sp Go.Proofs.Tryd.prog (drP sp Go.Proofs.Tryd.prog) noLoops noBaseK 40 2 r) := by kernel_rfl
theorem eclZ_ok : eclZ.OK Go.Proofs.Tryd.prog := by
  refine Con.by hmix (noLoops_ok _) (noBaseK_ok _) eclZ_c_V eclZ_c_e (fun r hr => ?_)
  simp [eclZ_c_V]
theorem eclC_ok : eclC.OK Go.Proofs.Tryd.prog := by
  intro r hr μ w vs hv s
  have h1 : r.n ≤ 100000000 := hr.1
  have h2 : r.n ≤ r.c := hr.2
  obtain ⟨v, vs', hv1⟩ : ∃ v, vs.toList = [v] ∧ VRel μ (r.av 0) v := by
    match hq : vs.toList, hv with
    | [v], h => exact ⟨v, rfl, h.1⟩
    | [], h => exact h.elim
    | _ :: _ :: _, h => exact h.2.elim
  rcases hv1 with ⟨hn, h0, hc⟩ | ⟨l, A, c', g1, g2, g3, g4, g6⟩
  · refine Calls.mono (eclZ_ok r trivial μ w vs (by rw [vs']; exact ⟨hn, trivial⟩) s) (fun e w' hq => ?_)
    obtain ⟨out, H', μ', q1, q2, q3, q4⟩ := hq
    rcases q1 with ⟨y, _, rfl, rfl⟩ | q1
    · obtain ⟨x, rfl, hx⟩ := q2
      exact ⟨_, _, μ', .inl ⟨(), trivial, rfl, rfl⟩, ⟨x, rfl, .inl ⟨hx, h0, h0⟩⟩, q3, q4⟩
    · exact q1.elim
  · refine Calls.mono (eclS_ok { r with c := c' } ⟨h1, by show r.n ≤ c'; omega⟩ μ w vs (by rw [vs']; exact ⟨⟨l, A, c', g1, g2, Nat.le_trans h2 g4, Nat.le_refl _, fun _ => rfl, g6, fun e => by cases e⟩, trivial⟩) s) (fun e w' hq => ?_)
    obtain ⟨out, H', μ', q1, q2, q3, q4⟩ := hq
    rcases q1 with ⟨y, _, rfl, rfl⟩ | q1
    · obtain ⟨x, rfl, l2, A2, c2, k1, k2, k3, k4, k5, k6, k7⟩ := q2
      exact ⟨_, _, μ', .inl ⟨(), trivial, rfl, rfl⟩, ⟨x, rfl, .inr ⟨l2, A2, c2, k1, k2, k3, k4, k6⟩⟩, q3, q4⟩
    · exact q1.elim
end Go.Proofs.YtmbcpmbpkdeioaaDoor.W
/- Devices of a saved guest: what is reckoned, and the loops' states. No condition. -/
namespace Go.Proofs.YtmbcpmbpkdeioaaDoor.W
open Go Go.RowKit Go.Eng
set_option maxRecDepth 100000
set_option linter.unusedVariables false
set_option linter.unusedSimpArgs false
/-! ### a disk -/
def z7 (v : AV) : List AV := [v, .int .u32 0, .int .u32 0, .int .u32 0, .int .u32 0, .int .u32 0, .int .u32 0]
structure LdI where
  r : Row
  k : Nat
  g : Nat → List AV
  s : Bool
def laidL (P : Program) : Lp LdI where
  B := 1
  n := ntmpsOf P F_dev_laid
  code := loopOf P F_dev_laid 0
  fit s H := match s.get 0 with
    | .msl b _ _ _ c => (rowOf H b c).map fun r => ⟨r, 0, fun _ => [.nils], false⟩
    | _ => none
  pre i := 64 * i.k ≤ i.r.bs.length ∧ i.r.bs.length ≤ 100000000 ∧ i.r.bs.length ≤ i.r.c ∧ (i.s = true → 1 ≤ i.k ∧ ∀ σ n, AV.rens σ (i.g n) = i.g n) ∧ (i.s = false → i.k = 0)
  slots i := [(0, .msl 0 (64 * i.k) 0 (i.r.bs.length - 64 * i.k) (i.r.c - 64 * i.k)), (2, .ptr 1 0 0), (3, .ptr 2 0 0)]
  nx i := 4
  L i := bif i.s then [(0, i.r.blk), (1, ⟨true, 7, .cells (z7 .nils)⟩), (2, ⟨true, 7, .cells (z7 (.sl 3 0 0 i.k i.k false))⟩), (3, ⟨true, 64, .recs i.k i.g⟩)] else [(0, i.r.blk), (1, ⟨true, 7, .cells (z7 .nils)⟩), (2, ⟨true, 7, .cells (z7 .nils)⟩)]
  m i := i.r.bs.length - i.k
  outs i := [(decide (i.r.bs.length < 64), ⟨.exit 0, [(2, .ptr 1 0 0), (3, .ptr 2 0 0)], 4, [(0, i.r.blk), (1, ⟨true, 7, .cells (z7 .nils)⟩), (2, ⟨true, 7, .cells (z7 .nils)⟩)]⟩),
    (true, ⟨.exit 0, [(2, .ptr 1 0 0), (3, .ptr 2 0 0)], 4, [(0, i.r.blk), (1, ⟨true, 7, .cells (z7 .nils)⟩), (2, ⟨true, 7, .cells (z7 (.sl 3 0 0 (i.r.bs.length / 64) (i.r.bs.length / 64) false))⟩)]⟩)]
  sh j := { j with s := true }
def laidC : Con Row Unit where
  f := F_dev_laid
  fit vs H := match vs with
    | [.msl b _ _ _ c] => (rowOf H b c).map fun r => ([b], r)
    | _ => none
  n0 := 1
  pre r := r.bs.length ≤ 100000000 ∧ r.bs.length ≤ r.c
  args r := [r.av 0]
  L0 r := [(0, r.blk)]
  outs r := [(fun _ => decide (r.bs.length < 64) = true, fun _ => (.ret (.agg (z7 .nils)), 4, [(0, r.blk)])), (fun _ => decide (r.bs.length < 64) = false, fun _ => (.ret (.agg (z7 (.sl 3 0 0 (r.bs.length / 64) (r.bs.length / 64) false))), 4, [(0, r.blk)]))]
/-! ### devices -/
def ERow.x (e : ERow) (i : Nat) : EvX := ⟨e.at_ i, e.kind i, e.byte i⟩
def evsOk (e : ERow) (k : Nat) : Bool := (List.range' k (e.n - k)).all fun i => mayN (e.x i)
structure DnX where
  e : ERow
  d : Row
structure DnI where
  e : ERow
  d : Row
  k : Nat
def devNewL (P : Program) : Lp DnI where
  B := 2
  n := ntmpsOf P F_dev_New
  code := loopOf P F_dev_New 0
  fit s H := match s.get 0, s.get 1, s.get 18 with
    | .msl b _ _ _ c, .msl b1 _ _ _ c1, .int _ k => match erowOf H b c, rowOf H b1 c1 with
      | some e, some d => some ⟨e, d, k.toNat⟩
      | _, _ => none
    | _, _, _ => none
  pre i := i.k ≤ i.e.n ∧ i.e.n ≤ 100000000
  slots i := [(0, i.e.av 0), (1, i.d.av 1), (16, i.e.av 0), (17, .int .i64 i.e.n), (18, .int .i64 i.k)]
  nx i := 2
  L i := [(0, i.e.blk), (1, i.d.blk)]
  m i := i.e.n - i.k
  outs i := [(evsOk i.e i.k, ⟨.exit 0, [(0, i.e.av 0), (1, i.d.av 1)], 2, [(0, i.e.blk), (1, i.d.blk)]⟩), (true, ⟨.ret, [(4, .nilp), (5, .int .i64 2)], 2, [(0, i.e.blk), (1, i.d.blk)]⟩)]
def devN (x : DnX) : Int := bif decide (x.e.n > 64) || decide (x.d.bs.length > 2048) then 3 else bif evsOk x.e 0 then (bif x.d.bs.length % 64 == 0 then 0 else 2) else 2
def devAV (v : AV) (sc : AV) : List AV := [.int .u32 0, .int .u32 0, .nils, v, .int .u32 0, .int .u32 0, .int .u32 0, .int .u32 0, .int .u32 0, .int .u32 0, .bool true, sc, .nils]
def devNewC : Con DnX Unit where
  f := F_dev_New
  fit vs H := match vs with
    | [.msl b _ _ _ c, .msl b1 _ _ _ c1] => match erowOf H b c, rowOf H b1 c1 with
      | some e, some d => some ([b, b1], ⟨e, d⟩)
      | _, _ => none
    | _ => none
  n0 := 2
  pre x := x.e.n ≤ 140737488351232 ∧ x.e.n ≤ x.e.c ∧ x.d.bs.length ≤ 140737488351232 ∧ x.d.bs.length ≤ x.d.c
  args x := [x.e.av 0, x.d.av 1]
  L0 x := [(0, x.e.blk), (1, x.d.blk)]
  outs x := [(fun _ => devN x = 3, fun _ => (.ret (.tup [.nilp, .int .i64 3]), 6, [(0, x.e.blk), (1, x.d.blk)])), (fun _ => devN x = 2, fun _ => (.ret (.tup [.nilp, .int .i64 2]), 6, [(0, x.e.blk), (1, x.d.blk)])),
    (fun _ => devN x = 0 ∧ x.d.bs.length < 64, fun _ => (.ret (.tup [.ptr 3 0 0, .int .i64 0]), 6, [(0, x.e.blk), (1, x.d.blk), (3, ⟨true, 13, .cells (devAV .nils (.msl 4 0 0 x.e.n x.e.n))⟩)])),
    (fun _ => devN x = 0 ∧ ¬ x.d.bs.length < 64, fun _ => (.ret (.tup [.ptr 3 0 0, .int .i64 0]), 6, [(0, x.e.blk), (1, x.d.blk), (3, ⟨true, 13, .cells (devAV (.sl 5 0 0 (x.d.bs.length / 64) (x.d.bs.length / 64) false) (.msl 4 0 0 x.e.n x.e.n))⟩)]))]
def devLN (x : Sv) : Int := bif devN ⟨x.script, x.disk⟩ == 0 then (bif decide (x.queue.bs.length > 32) then 3 else bif bits .andNot .u32 x.b1 7 != 0 || bits .andNot .u32 x.b2 7 != 0 || !orderedN x then 2 else 0) else devN ⟨x.script, x.disk⟩
def Sv.fine (x : Sv) : Prop := (x.mem.bs.length ≤ 140737488351232 ∧ x.mem.bs.length ≤ x.mem.c) ∧ (x.notes.n ≤ 5864062014634 ∧ x.notes.n ≤ x.notes.c) ∧ (x.out.bs.length ≤ 140737488351232 ∧ x.out.bs.length ≤ x.out.c) ∧ (x.disk.bs.length ≤ 140737488351232 ∧ x.disk.bs.length ≤ x.disk.c) ∧ (x.queue.bs.length ≤ 140737488351232 ∧ x.queue.bs.length ≤ x.queue.c) ∧ (x.script.n ≤ 140737488351232 ∧ x.script.n ≤ x.script.c)
def devLoadC : Con Sv Unit where
  f := F_dev_Load
  fit := svFit
  n0 := 6
  pre := Sv.fine
  args x := [.agg x.av]
  L0 x := x.L
  outs x := [(fun _ => devLN x = 3, fun _ => (.ret (.tup [.nilp, .int .i64 3]), 8, x.L)), (fun _ => devLN x = 2, fun _ => (.ret (.tup [.nilp, .int .i64 2]), 8, x.L)), (fun _ => devLN x = 0, fun _ => (.ret (.tup [.ptr 7 0 0, .int .i64 0]), 8, x.L))]
theorem spT {b : Bool} {A B : Prop} (hb : b = true) (h : A) : sp b A B := by subst hb; exact h
theorem spF {b : Bool} {A B : Prop} (hb : b = false) (h : B) : sp b A B := by subst hb; exact h
theorem evsOk_step (e : ERow) (k : Nat) (h : k < e.n) : evsOk e k = (mayN (e.x k) && evsOk e (k + 1)) := by
  unfold evsOk
  rw [show e.n - k = (e.n - (k + 1)) + 1 by omega, List.range'_succ, List.all_cons]
theorem evsOk_end (e : ERow) (k : Nat) (h : e.n ≤ k) : evsOk e k = true := by
  unfold evsOk
  rw [show e.n - k = 0 by omega]; rfl
end Go.Proofs.YtmbcpmbpkdeioaaDoor.W
