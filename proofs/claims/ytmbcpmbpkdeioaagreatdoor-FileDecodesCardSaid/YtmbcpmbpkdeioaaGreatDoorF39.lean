/- Two guests told apart: the walks of the small parts. No condition. -/
import Derived.Test.YtmbcpmbpkdeioaaGreatDoorF38
import Derived.KernelRfl
import Derived.Test.YtmbcpmbpkdeioaaGreatDoorEn29
import Derived.Test.YtmbcpmbpkdeioaaGreatDoorF35
import Derived.Test.YtmbcpmbpkdeioaaGreatDoorEn32
namespace Go.Proofs.YtmbcpmbpkdeioaaGreatDoor.W
open Go Go.RowKit Go.Eng
set_option maxRecDepth 100000
set_option linter.unusedVariables false
set_option linter.unusedSimpArgs false
def numbersC_c_V (x : NmX) : Prop :=
  ∃ (y : Unit), True ∧ [AV.agg [AV.str x.nm, AV.bool (x.n != x.n), AV.fn (Fn.func 57) [] [AV.ptr 0 0 0, AV.ptr 1 0 0]]] = [AV.agg [AV.str x.nm, AV.bool false, AV.fn (Fn.func F_judge_numbers_1) [] [AV.ptr 0 0 0, AV.ptr 1 0 0]]] ∧ True
theorem numbersC_c_e (x : NmX) : some (numbersC_c_V x) = (numbersC.cond sp Go.Proofs.Tryz.prog (drP sp Go.Proofs.Tryz.prog) noLoops noBaseK 40 2 x) := by kernel_rfl
theorem numbersC_ok : numbersC.OK Go.Proofs.Tryz.prog := by
  refine Con.by hmix (noLoops_ok _) (noBaseK_ok _) numbersC_c_V numbersC_c_e (fun x _ => ⟨(), trivial, by simp, trivial⟩)
def listC_c_V (x : ByteArray) : Prop :=
  ∃ (y : Unit), True ∧ [AV.agg [AV.str x, AV.bool false, AV.fn (Fn.func 65) [] [AV.ptr 0 0 0]]] = [AV.agg [AV.str x, AV.bool false, AV.fn (Fn.func F_judge_list_1) [] [AV.ptr 0 0 0]]] ∧ True
theorem listC_c_e (x : ByteArray) : some (listC_c_V x) = (listC.cond sp Go.Proofs.Tryz.prog (drP sp Go.Proofs.Tryz.prog) noLoops noBaseK 40 2 x) := by kernel_rfl
theorem listC_ok : listC.OK Go.Proofs.Tryz.prog := by
  refine Con.by hmix (noLoops_ok _) (noBaseK_ok _) listC_c_V listC_c_e (fun x _ => ⟨(), trivial, rfl, trivial⟩)
def statesC_c_V (x : St) : Prop :=
  sp (bif false then !(x.r0 == x.r0 && (x.r1 == x.r1 && (x.r2 == x.r2 && (x.r3 == x.r3 && (x.r4 == x.r4 && (x.r5 == x.r5 && (x.r6 == x.r6 && (x.r7 == x.r7 && true))))))) && (x.pc == x.pc && (x.ps == x.ps && (x.c0 == x.c0 && (x.c1 == x.c1 && (x.c2 == x.c2 && (x.c3 == x.c3 && (x.c4 == x.c4 && (x.c5 == x.c5 && (x.c6 == x.c6 && (x.c7 == x.c7 && true))))))) && (x.h == x.h && true))))) else x.r0 == x.r0 && (x.r1 == x.r1 && (x.r2 == x.r2 && (x.r3 == x.r3 && (x.r4 == x.r4 && (x.r5 == x.r5 && (x.r6 == x.r6 && (x.r7 == x.r7 && true))))))) && (x.pc == x.pc && (x.ps == x.ps && (x.c0 == x.c0 && (x.c1 == x.c1 && (x.c2 == x.c2 && (x.c3 == x.c3 && (x.c4 == x.c4 && (x.c5 == x.c5 && (x.c6 == x.c6 && (x.c7 == x.c7 && true))))))) && (x.h == x.h && true))))) (∃ (y : Unit), True ∧ [AV.agg [AV.str (ByteArray.mk (Array.mk [115, 116, 97, 116, 101])), AV.bool false, AV.fn (Fn.func 61) [] [AV.ptr 5 0 0, AV.ptr 6 0
  0]]] = [AV.agg [AV.str stateS, AV.bool false, AV.fn (Fn.func F_judge_states_1) [] [AV.ptr 5 0 0, AV.ptr 6 0 0]]] ∧ True) (sp (decide (x.r0 = x.r0) && (decide (x.r1 = x.r1) && (decide (x.r2 = x.r2) && (decide (x.r3 = x.r3) && (decide (x.r4 = x.r4) && (decide (x.r5 = x.r5) && (decide (x.r6 = x.r6) && (decide (x.r7 = x.r7) && (decide (x.pc = x.pc) && (decide (x.ps = x.ps) && (decide (x.c0 = x.c0) && (decide (x.c1 = x.c1) && (decide (x.c2 = x.c2) && (decide (x.c3 = x.c3) && (decide (x.c4 = x.c4) && (decide (x.c5 = x.c5) && (decide (x.c6 = x.c6) && (decide (x.c7 = x.c7) && (x.h == x.h && true))))))))))))))))))) (sp (decide (x.r0 = x.r0) && (decide (x.r1 = x.r1) && (decide (x.r2 = x.r2) && (decide (x.r3 = x.r3) && (decide (x.r4 = x.r4) && (decide (x.r5 = x.r5) && (decide (x.r6 = x.r6) && (decide (x.r7 = x.r7) && (decide (x.pc = x.pc) && (decide (x.ps = x.ps) && (decide (x.c0 = x.c0) && (decide
  (x.c1 = x.c1) && (decide (x.c2 = x.c2) && (decide (x.c3 = x.c3) && (decide (x.c4 = x.c4) && (decide (x.c5 = x.c5) && (decide (x.c6 = x.c6) && (decide (x.c7 = x.c7) && (x.h == x.h && true))))))))))))))))))) False False) False)
theorem statesC_c_e (x : St) : some (statesC_c_V x) = (statesC.cond sp Go.Proofs.Tryz.prog (drP sp Go.Proofs.Tryz.prog) noLoops (vF sp Go.Proofs.Tryz.prog (drP sp Go.Proofs.Tryz.prog) noLoops (noK tellNo) 40 2) 40 2 x) := by kernel_rfl
theorem statesC_ok : statesC.OK Go.Proofs.Tryz.prog := by
  refine Con.by hmix (noLoops_ok _) (vF_ok (fun _ hk => drP_ok hmix _ hk) (noLoops_ok _) (noK_ok _ _) 40 2) statesC_c_V statesC_c_e (fun x _ => ?_)
  unfold statesC_c_V
  exact spT (by simp) ⟨(), trivial, rfl, trivial⟩
end Go.Proofs.YtmbcpmbpkdeioaaGreatDoor.W
/- Two guests told apart: the walks of the parts. No condition. -/
namespace Go.Proofs.YtmbcpmbpkdeioaaGreatDoor.W
open Go Go.RowKit Go.Eng
set_option maxRecDepth 100000
set_option linter.unusedVariables false
set_option linter.unusedSimpArgs false
def bytesC_c_V (x : BtX) : Prop :=
  x.x.bs.length.le 140737488355328 ∧ [] ++ [AV.msl 0 0 0 x.x.bs.length x.x.c, AV.msl 1 0 0 x.x.bs.length x.x.d] ++ [] = [AV.msl 0 0 0 x.x.bs.length x.x.c, AV.msl 1 0 0 x.x.bs.length x.x.d] ∧ (some (bR x.x.bs) = some (bR x.x.bs) ∧ some (bR x.x.bs) = some (bR x.x.bs) ∧ True) ∧ (∀ (y : Unit), True → ∃ (y : Unit), True ∧ [AV.agg [AV.str x.nm, AV.bool false, AV.fn (Fn.func 63) [] [AV.ptr 7 0 0, AV.ptr 2 0 0, AV.ptr 3 0 0]]] = [AV.agg [AV.str x.nm, AV.bool false, AV.fn (Fn.func F_judge_bytes_1) [] [AV.ptr 7 0 0, AV.ptr 2 0 0, AV.ptr 3 0 0]]] ∧ bR x.x.bs = bR x.x.bs ∧ bR x.x.bs = bR x.x.bs ∧ True) ∧ True
theorem bytesC_c_e (x : BtX) : some (bytesC_c_V x) = (bytesC.cond sp Go.Proofs.Tryz.prog (drP sp Go.Proofs.Tryz.prog) noLoops (fbC.orc sp) 40 2 x) := by kernel_rfl
theorem bytesC_ok : bytesC.OK Go.Proofs.Tryz.prog := by
  refine Con.by hmix (noLoops_ok _) (Con.orc_ok fbC_ok) bytesC_c_V bytesC_c_e (fun x hx => ⟨hx, rfl, ⟨rfl, rfl, trivial⟩, fun _ _ => ⟨(), trivial, rfl, rfl, rfl, trivial⟩, trivial⟩)
def devicesC_c_V (x : Sv) : Prop :=
  ∃ (y : Unit), True ∧ [AV.agg [nU x.b1, nU x.b2, nU x.b3, nU x.b4, nU x.b5, nU x.b6, nU x.b7, nU x.b8]] = [AV.agg [nU x.b1, nU x.b2, nU x.b3, nU x.b4, nU x.b5, nU x.b6, nU x.b7, nU x.b8]] ∧ bR x.mem.bs = bR x.mem.bs ∧ (false = false ∧ 4 = 4 ∧ x.notes.n = x.notes.n ∧ ∀ (i : Nat), i < x.notes.n → [nI (x.notes.at_ i), nI (x.notes.cause i), nU (x.notes.back i), nU (x.notes.addr i)] = [nI (x.notes.at_ i), nI (x.notes.cause i), nU (x.notes.back i), nU (x.notes.addr i)]) ∧ bR x.out.bs = bR x.out.bs ∧ bR x.disk.bs = bR x.disk.bs ∧ bR x.queue.bs = bR x.queue.bs ∧ (false = false ∧ 3 = 3 ∧ x.script.n = x.script.n ∧ ∀ (i : Nat), i < x.script.n → [nI (x.script.at_ i), nI (x.script.kind i), nB (x.script.byte i)] = [nI (x.script.at_ i), nI (x.script.kind i), nB (x.script.byte i)]) ∧ True
theorem devicesC_c_e (x : Sv) : some (devicesC_c_V x) = (devicesC.cond sp Go.Proofs.Tryz.prog (drP sp Go.Proofs.Tryz.prog) noLoops noBaseK 40 2 x) := by kernel_rfl
theorem devicesC_ok : devicesC.OK Go.Proofs.Tryz.prog := by
  refine Con.by hmix (noLoops_ok _) (noBaseK_ok _) devicesC_c_V devicesC_c_e (fun x _ => ⟨(), trivial, rfl, rfl, ⟨rfl, rfl, rfl, fun _ _ => rfl⟩, rfl, rfl, rfl, ⟨rfl, rfl, rfl, fun _ _ => rfl⟩, trivial⟩)
def notesC_c_V (x : FnX) : Prop :=
  (x.q.n = x.r.n ∧ x.r.n ≤ 140737488355328 ∧ ∀ (i : Nat), i < x.r.n → x.q.at_ i = x.r.at_ i ∧ x.q.cause i = x.r.cause i ∧ x.q.back i = x.r.back i ∧ x.q.addr i = x.r.addr i) ∧ [] ++ [AV.msl 0 0 0 x.r.n x.r.c, AV.msl 1 0 0 x.q.n x.q.c] ++ [] = [AV.msl 0 0 0 x.r.n x.r.c, AV.msl 1 0 0 x.q.n x.q.c] ∧ (some (ABlk.mk false 4 (AC.recs x.r.n x.r.f)) = some (ABlk.mk false 4 (AC.recs x.r.n fun (i : Nat) => [nI (x.r.at_ i), nI (x.r.cause i), nU (x.r.back i), nU (x.r.addr i)])) ∧ some (ABlk.mk false 4 (AC.recs x.q.n x.q.f)) = some (ABlk.mk false 4 (AC.recs x.q.n fun (i : Nat) => [nI (x.q.at_ i), nI (x.q.cause i), nU (x.q.back i), nU (x.q.addr i)])) ∧ True) ∧ (∀ (y : Unit), True → ∃ (y : Unit), True ∧ [nI (-1)] = [nI (-1)] ∧ (false = false ∧ 4 = 4 ∧ x.r.n = x.r.n ∧ ∀ (i : Nat), i < x.r.n → [nI (x.r.at_ i), nI (x.r.cause i), nU (x.r.back i), nU (x.r.addr i)] = [nI (x.r.at_ i), nI (x.r.cause i), nU
  (x.r.back i), nU (x.r.addr i)]) ∧ (false = false ∧ 4 = 4 ∧ x.q.n = x.q.n ∧ ∀ (i : Nat), i < x.q.n → [nI (x.q.at_ i), nI (x.q.cause i), nU (x.q.back i), nU (x.q.addr i)] = [nI (x.q.at_ i), nI (x.q.cause i), nU (x.q.back i), nU (x.q.addr i)]) ∧ True) ∧ True
theorem notesC_c_e (x : FnX) : some (notesC_c_V x) = (notesC.cond sp Go.Proofs.Tryz.prog (drP sp Go.Proofs.Tryz.prog) noLoops (fnC.orc sp) 40 2 x) := by kernel_rfl
theorem notesC_ok : notesC.OK Go.Proofs.Tryz.prog := by
  refine Con.by hmix (noLoops_ok _) (Con.orc_ok fnC_ok) notesC_c_V notesC_c_e (fun x hx => ⟨hx, rfl, ⟨rfl, rfl, trivial⟩, fun _ _ => ⟨(), trivial, rfl, ⟨rfl, rfl, rfl, fun _ _ => rfl⟩, ⟨rfl, rfl, rfl, fun _ _ => rfl⟩, trivial⟩, trivial⟩)
def eventsC_c_V (x : FeX) : Prop :=
  (x.q.n = x.r.n ∧ x.r.n ≤ 140737488355328 ∧ ∀ (i : Nat), i < x.r.n → x.q.at_ i = x.r.at_ i ∧ x.q.kind i = x.r.kind i ∧ x.q.byte i = x.r.byte i) ∧ [] ++ [AV.msl 0 0 0 x.r.n x.r.c, AV.msl 1 0 0 x.q.n x.q.c] ++ [] = [AV.msl 0 0 0 x.r.n x.r.c, AV.msl 1 0 0 x.q.n x.q.c] ∧ (some (ABlk.mk false 3 (AC.recs x.r.n x.r.f)) = some (ABlk.mk false 3 (AC.recs x.r.n fun (i : Nat) => [nI (x.r.at_ i), nI (x.r.kind i), nB (x.r.byte i)])) ∧ some (ABlk.mk false 3 (AC.recs x.q.n x.q.f)) = some (ABlk.mk false 3 (AC.recs x.q.n fun (i : Nat) => [nI (x.q.at_ i), nI (x.q.kind i), nB (x.q.byte i)])) ∧ True) ∧ (∀ (y : Unit), True → ∃ (y : Unit), True ∧ [nI (-1)] = [nI (-1)] ∧ (false = false ∧ 3 = 3 ∧ x.r.n = x.r.n ∧ ∀ (i : Nat), i < x.r.n → [nI (x.r.at_ i), nI (x.r.kind i), nB (x.r.byte i)] = [nI (x.r.at_ i), nI (x.r.kind i), nB (x.r.byte i)]) ∧ (false = false ∧ 3 = 3 ∧ x.q.n = x.q.n ∧ ∀ (i : Nat), i < x.q.n → [nI
  (x.q.at_ i), nI (x.q.kind i), nB (x.q.byte i)] = [nI (x.q.at_ i), nI (x.q.kind i), nB (x.q.byte i)]) ∧ True) ∧ True
theorem eventsC_c_e (x : FeX) : some (eventsC_c_V x) = (eventsC.cond sp Go.Proofs.Tryz.prog (drP sp Go.Proofs.Tryz.prog) noLoops (feC.orc sp) 40 2 x) := by kernel_rfl
theorem eventsC_ok : eventsC.OK Go.Proofs.Tryz.prog := by
  refine Con.by hmix (noLoops_ok _) (Con.orc_ok feC_ok) eventsC_c_V eventsC_c_e (fun x hx => ⟨hx, rfl, ⟨rfl, rfl, trivial⟩, fun _ _ => ⟨(), trivial, rfl, ⟨rfl, rfl, rfl, fun _ _ => rfl⟩, ⟨rfl, rfl, rfl, fun _ _ => rfl⟩, trivial⟩, trivial⟩)
end Go.Proofs.YtmbcpmbpkdeioaaGreatDoor.W
/- Two guests told apart: the walks. No condition. -/
namespace Go.Proofs.YtmbcpmbpkdeioaaGreatDoor.W
open Go Go.RowKit Go.Eng
set_option maxRecDepth 100000
set_option linter.unusedVariables false
set_option linter.unusedSimpArgs false
def part_c_b0 (t : TlX) : Bool :=
  decide (t.x.fr = t.x.fr) && (t.x.mem.bs.length.beq t.x.mem.bs.length && t.x.mem.c.beq t.x.mem.c && (decide (t.x.s.r0 = t.x.s.r0) && (decide (t.x.s.r1 = t.x.s.r1) && (decide (t.x.s.r2 = t.x.s.r2) && (decide (t.x.s.r3 = t.x.s.r3) && (decide (t.x.s.r4 = t.x.s.r4) && (decide (t.x.s.r5 = t.x.s.r5) && (decide (t.x.s.r6 = t.x.s.r6) && (decide (t.x.s.r7 = t.x.s.r7) && (decide (t.x.s.pc = t.x.s.pc) && (decide (t.x.s.ps = t.x.s.ps) && (decide (t.x.s.c0 = t.x.s.c0) && (decide (t.x.s.c1 = t.x.s.c1) && (decide (t.x.s.c2 = t.x.s.c2) && (decide (t.x.s.c3 = t.x.s.c3) && (decide (t.x.s.c4 = t.x.s.c4) && (decide (t.x.s.c5 = t.x.s.c5) && (decide (t.x.s.c6 = t.x.s.c6) && (decide (t.x.s.c7 = t.x.s.c7) && (t.x.s.h == t.x.s.h && (decide (t.x.steps = t.x.steps) && (t.x.notes.n.beq t.x.notes.n && t.x.notes.c.beq t.x.notes.c && (t.x.out.bs.length.beq t.x.out.bs.length && t.x.out.c.beq t.x.out.c &&
  (t.x.disk.bs.length.beq t.x.disk.bs.length && t.x.disk.c.beq t.x.disk.c && (t.x.queue.bs.length.beq t.x.queue.bs.length && t.x.queue.c.beq t.x.queue.c && (t.x.script.n.beq t.x.script.n && t.x.script.c.beq t.x.script.c && (decide (t.x.b1 = t.x.b1) && (decide (t.x.b2 = t.x.b2) && (decide (t.x.b3 = t.x.b3) && (decide (t.x.b4 = t.x.b4) && (decide (t.x.b5 = t.x.b5) && (decide (t.x.b6 = t.x.b6) && (decide (t.x.b7 = t.x.b7) && (decide (t.x.b8 = t.x.b8) && true))))))))))))))))))))))))))))))))))
def part_c_b1 (t : TlX) : Bool :=
  decide (t.x.fr = t.x.fr) && (t.x.mem.bs.length.beq t.x.mem.bs.length && t.c0.beq t.c0 && (decide (t.x.s.r0 = t.x.s.r0) && (decide (t.x.s.r1 = t.x.s.r1) && (decide (t.x.s.r2 = t.x.s.r2) && (decide (t.x.s.r3 = t.x.s.r3) && (decide (t.x.s.r4 = t.x.s.r4) && (decide (t.x.s.r5 = t.x.s.r5) && (decide (t.x.s.r6 = t.x.s.r6) && (decide (t.x.s.r7 = t.x.s.r7) && (decide (t.x.s.pc = t.x.s.pc) && (decide (t.x.s.ps = t.x.s.ps) && (decide (t.x.s.c0 = t.x.s.c0) && (decide (t.x.s.c1 = t.x.s.c1) && (decide (t.x.s.c2 = t.x.s.c2) && (decide (t.x.s.c3 = t.x.s.c3) && (decide (t.x.s.c4 = t.x.s.c4) && (decide (t.x.s.c5 = t.x.s.c5) && (decide (t.x.s.c6 = t.x.s.c6) && (decide (t.x.s.c7 = t.x.s.c7) && (t.x.s.h == t.x.s.h && (decide (t.x.steps = t.x.steps) && (t.q.n.beq t.q.n && t.q.c.beq t.q.c && (t.x.out.bs.length.beq t.x.out.bs.length && t.c2.beq t.c2 && (t.x.disk.bs.length.beq t.x.disk.bs.length && t.c3.beq t.c3
  && (t.x.queue.bs.length.beq t.x.queue.bs.length && t.c4.beq t.c4 && (t.e.n.beq t.e.n && t.e.c.beq t.e.c && (decide (t.x.b1 = t.x.b1) && (decide (t.x.b2 = t.x.b2) && (decide (t.x.b3 = t.x.b3) && (decide (t.x.b4 = t.x.b4) && (decide (t.x.b5 = t.x.b5) && (decide (t.x.b6 = t.x.b6) && (decide (t.x.b7 = t.x.b7) && (decide (t.x.b8 = t.x.b8) && true))))))))))))))))))))))))))))))))))
def part_c_b2 (t : TlX) : Bool :=
  decide (t.x.s.r0 = t.x.s.r0) && (decide (t.x.s.r1 = t.x.s.r1) && (decide (t.x.s.r2 = t.x.s.r2) && (decide (t.x.s.r3 = t.x.s.r3) && (decide (t.x.s.r4 = t.x.s.r4) && (decide (t.x.s.r5 = t.x.s.r5) && (decide (t.x.s.r6 = t.x.s.r6) && (decide (t.x.s.r7 = t.x.s.r7) && (decide (t.x.s.pc = t.x.s.pc) && (decide (t.x.s.ps = t.x.s.ps) && (decide (t.x.s.c0 = t.x.s.c0) && (decide (t.x.s.c1 = t.x.s.c1) && (decide (t.x.s.c2 = t.x.s.c2) && (decide (t.x.s.c3 = t.x.s.c3) && (decide (t.x.s.c4 = t.x.s.c4) && (decide (t.x.s.c5 = t.x.s.c5) && (decide (t.x.s.c6 = t.x.s.c6) && (decide (t.x.s.c7 = t.x.s.c7) && (t.x.s.h == t.x.s.h && true))))))))))))))))))
abbrev part_c_p0 (t : TlX) : List AV :=
  [AV.agg [nI t.x.fr, AV.msl 0 0 0 t.x.mem.bs.length t.x.mem.c, nU t.x.s.r0, nU t.x.s.r1, nU t.x.s.r2, nU t.x.s.r3, nU t.x.s.r4, nU t.x.s.r5, nU t.x.s.r6, nU t.x.s.r7, nU t.x.s.pc, nU t.x.s.ps, nU t.x.s.c0, nU t.x.s.c1, nU t.x.s.c2, nU t.x.s.c3, nU t.x.s.c4, nU t.x.s.c5, nU t.x.s.c6, nU t.x.s.c7, AV.bool t.x.s.h, nI t.x.steps, AV.msl 1 0 0 t.x.notes.n t.x.notes.c, AV.msl 2 0 0 t.x.out.bs.length t.x.out.c, AV.msl 3 0 0 t.x.disk.bs.length t.x.disk.c, AV.msl 4 0 0 t.x.queue.bs.length t.x.queue.c, AV.msl 5 0 0 t.x.script.n t.x.script.c, nU t.x.b1, nU t.x.b2, nU t.x.b3, nU t.x.b4, nU t.x.b5, nU t.x.b6, nU t.x.b7, nU t.x.b8]]
abbrev part_c_p1 (t : TlX) : List AV :=
  [AV.agg [nU t.x.s.r0, nU t.x.s.r1, nU t.x.s.r2, nU t.x.s.r3, nU t.x.s.r4, nU t.x.s.r5, nU t.x.s.r6, nU t.x.s.r7, nU t.x.s.pc, nU t.x.s.ps, nU t.x.s.c0, nU t.x.s.c1, nU t.x.s.c2, nU t.x.s.c3, nU t.x.s.c4, nU t.x.s.c5, nU t.x.s.c6, nU t.x.s.c7, AV.bool t.x.s.h], AV.agg [nU t.x.s.r0, nU t.x.s.r1, nU t.x.s.r2, nU t.x.s.r3, nU t.x.s.r4, nU t.x.s.r5, nU t.x.s.r6, nU t.x.s.r7, nU t.x.s.pc, nU t.x.s.ps, nU t.x.s.c0, nU t.x.s.c1, nU t.x.s.c2, nU t.x.s.c3, nU t.x.s.c4, nU t.x.s.c5, nU t.x.s.c6, nU t.x.s.c7, AV.bool t.x.s.h]]
abbrev part_c_p2 (t : TlX) (i : Nat) : List AV :=
  [nI (t.x.notes.at_ i), nI (t.x.notes.cause i), nU (t.x.notes.back i), nU (t.x.notes.addr i)]
abbrev part_c_p3 (t : TlX) : List AV :=
  [AV.str (ByteArray.mk (Array.mk [115, 116, 101, 112, 115])), nI t.x.steps, nI t.x.steps]
abbrev part_c_p4 (t : TlX) : List AV :=
  [AV.str (ByteArray.mk (Array.mk [102, 114, 97, 109, 101, 115])), nI t.x.fr, nI t.x.fr]
abbrev part_c_p5 (t : TlX) : List AV :=
  [AV.str (ByteArray.mk (Array.mk [115, 99, 114, 105, 112, 116])), nI (-1)]
def part_c_V (t : TlX) : Prop :=
  sp (part_c_b1 t) (sp (part_c_b0 t) (sp (t.e.n.beq t.e.n && t.e.c.beq t.e.c) (sp (t.x.script.n.beq t.x.script.n && t.x.script.c.beq t.x.script.c) (sp (t.x.queue.bs.length.beq t.x.queue.bs.length && t.c4.beq t.c4) (sp (t.x.queue.bs.length.beq t.x.queue.bs.length && t.x.queue.c.beq t.x.queue.c) (sp (t.x.disk.bs.length.beq t.x.disk.bs.length && t.c3.beq t.c3) (sp (t.x.disk.bs.length.beq t.x.disk.bs.length && t.x.disk.c.beq t.x.disk.c) (sp (t.x.out.bs.length.beq t.x.out.bs.length && t.c2.beq t.c2) (sp (t.x.out.bs.length.beq t.x.out.bs.length && t.x.out.c.beq t.x.out.c) (sp (t.q.n.beq t.q.n && t.q.c.beq t.q.c) (sp (t.x.notes.n.beq t.x.notes.n && t.x.notes.c.beq t.x.notes.c) (sp (t.x.mem.bs.length.beq t.x.mem.bs.length && t.c0.beq t.c0) (sp (t.x.mem.bs.length.beq t.x.mem.bs.length && t.x.mem.c.beq t.x.mem.c) (sp (part_c_b2 t) (sp (part_c_b2 t) (sp (decide (t.x.steps = t.x.steps)) (sp (decide
  (t.x.steps = t.x.steps)) (sp (decide (t.x.fr = t.x.fr)) (sp (decide (t.x.fr = t.x.fr)) (True ∧ [] ++ (part_c_p4 t) ++ [] = (part_c_p4 t) ∧ True ∧ (∀ (y : Unit), True → sp (part_c_b1 t) (sp (part_c_b0 t) (sp (t.e.n.beq t.e.n && t.e.c.beq t.e.c) (sp (t.x.script.n.beq t.x.script.n && t.x.script.c.beq t.x.script.c) (sp (t.x.queue.bs.length.beq t.x.queue.bs.length && t.c4.beq t.c4) (sp (t.x.queue.bs.length.beq t.x.queue.bs.length && t.x.queue.c.beq t.x.queue.c) (sp (t.x.disk.bs.length.beq t.x.disk.bs.length && t.c3.beq t.c3) (sp (t.x.disk.bs.length.beq t.x.disk.bs.length && t.x.disk.c.beq t.x.disk.c) (sp (t.x.out.bs.length.beq t.x.out.bs.length && t.c2.beq t.c2) (sp (t.x.out.bs.length.beq t.x.out.bs.length && t.x.out.c.beq t.x.out.c) (sp (t.q.n.beq t.q.n && t.q.c.beq t.q.c) (sp (t.x.notes.n.beq t.x.notes.n && t.x.notes.c.beq t.x.notes.c) (sp (t.x.mem.bs.length.beq t.x.mem.bs.length && t.c0.beq
  t.c0) (sp (t.x.mem.bs.length.beq t.x.mem.bs.length && t.x.mem.c.beq t.x.mem.c) (sp (part_c_b2 t) (sp (part_c_b2 t) (sp (decide (t.x.steps = t.x.steps)) (sp (decide (t.x.steps = t.x.steps)) (True ∧ [] ++ (part_c_p3 t) ++ [] = (part_c_p3 t) ∧ True ∧ (∀ (y : Unit), True → sp (part_c_b1 t) (sp (part_c_b0 t) (sp (t.e.n.beq t.e.n && t.e.c.beq t.e.c) (sp (t.x.script.n.beq t.x.script.n && t.x.script.c.beq t.x.script.c) (sp (t.x.queue.bs.length.beq t.x.queue.bs.length && t.c4.beq t.c4) (sp (t.x.queue.bs.length.beq t.x.queue.bs.length && t.x.queue.c.beq t.x.queue.c) (sp (t.x.disk.bs.length.beq t.x.disk.bs.length && t.c3.beq t.c3) (sp (t.x.disk.bs.length.beq t.x.disk.bs.length && t.x.disk.c.beq t.x.disk.c) (sp (t.x.out.bs.length.beq t.x.out.bs.length && t.c2.beq t.c2) (sp (t.x.out.bs.length.beq t.x.out.bs.length && t.x.out.c.beq t.x.out.c) (sp (t.q.n.beq t.q.n && t.q.c.beq t.q.c) (sp
  (t.x.notes.n.beq t.x.notes.n && t.x.notes.c.beq t.x.notes.c) (sp (t.x.mem.bs.length.beq t.x.mem.bs.length && t.c0.beq t.c0) (sp (t.x.mem.bs.length.beq t.x.mem.bs.length && t.x.mem.c.beq t.x.mem.c) (sp (part_c_b2 t) (sp (part_c_b2 t) (True ∧ [] ++ (part_c_p1 t) ++ [] = (part_c_p1 t) ∧ True ∧ (∀ (y : Unit), True → sp (part_c_b1 t) (sp (part_c_b0 t) (sp (t.e.n.beq t.e.n && t.e.c.beq t.e.c) (sp (t.x.script.n.beq t.x.script.n && t.x.script.c.beq t.x.script.c) (sp (t.x.queue.bs.length.beq t.x.queue.bs.length && t.c4.beq t.c4) (sp (t.x.queue.bs.length.beq t.x.queue.bs.length && t.x.queue.c.beq t.x.queue.c) (sp (t.x.disk.bs.length.beq t.x.disk.bs.length && t.c3.beq t.c3) (sp (t.x.disk.bs.length.beq t.x.disk.bs.length && t.x.disk.c.beq t.x.disk.c) (sp (t.x.out.bs.length.beq t.x.out.bs.length && t.c2.beq t.c2) (sp (t.x.out.bs.length.beq t.x.out.bs.length && t.x.out.c.beq t.x.out.c) (sp (t.q.n.beq
  t.q.n && t.q.c.beq t.q.c) (sp (t.x.notes.n.beq t.x.notes.n && t.x.notes.c.beq t.x.notes.c) (sp (t.x.mem.bs.length.beq t.x.mem.bs.length && t.c0.beq t.c0) (sp (t.x.mem.bs.length.beq t.x.mem.bs.length && t.x.mem.c.beq t.x.mem.c) (t.x.mem.bs.length.le 140737488355328 ∧ [] ++ [AV.str (ByteArray.mk (Array.mk [109, 101, 109])), AV.msl 0 0 0 t.x.mem.bs.length t.x.mem.c, AV.msl (up6 0) 0 0 t.x.mem.bs.length t.c0] ++ [] = [AV.str (ByteArray.mk (Array.mk [109, 101, 109])), AV.msl 0 0 0 t.x.mem.bs.length t.x.mem.c, AV.msl 6 0 0 t.x.mem.bs.length t.c0] ∧ (some (bR t.x.mem.bs) = some (bR t.x.mem.bs) ∧ some (bR t.x.mem.bs) = some (bR t.x.mem.bs) ∧ True) ∧ (∀ (y : Unit), True → sp (part_c_b1 t) (sp (part_c_b0 t) (sp (t.e.n.beq t.e.n && t.e.c.beq t.e.c) (sp (t.x.script.n.beq t.x.script.n && t.x.script.c.beq t.x.script.c) (sp (t.x.queue.bs.length.beq t.x.queue.bs.length && t.c4.beq t.c4) (sp
  (t.x.queue.bs.length.beq t.x.queue.bs.length && t.x.queue.c.beq t.x.queue.c) (sp (t.x.disk.bs.length.beq t.x.disk.bs.length && t.c3.beq t.c3) (sp (t.x.disk.bs.length.beq t.x.disk.bs.length && t.x.disk.c.beq t.x.disk.c) (sp (t.x.out.bs.length.beq t.x.out.bs.length && t.c2.beq t.c2) (sp (t.x.out.bs.length.beq t.x.out.bs.length && t.x.out.c.beq t.x.out.c) (sp (t.q.n.beq t.q.n && t.q.c.beq t.q.c) (sp (t.x.notes.n.beq t.x.notes.n && t.x.notes.c.beq t.x.notes.c) ((t.q.n = t.x.notes.n ∧ t.x.notes.n ≤ 140737488355328 ∧ ∀ (i : Nat), i < t.x.notes.n → t.q.at_ i = t.x.notes.at_ i ∧ t.q.cause i = t.x.notes.cause i ∧ t.q.back i = t.x.notes.back i ∧ t.q.addr i = t.x.notes.addr i) ∧ [] ++ [AV.msl 1 0 0 t.x.notes.n t.x.notes.c, AV.msl (up6 1) 0 0 t.q.n t.q.c] ++ [] = [AV.msl 1 0 0 t.x.notes.n t.x.notes.c, AV.msl 7 0 0 t.q.n t.q.c] ∧ (some (ABlk.mk false 4 (AC.recs t.x.notes.n t.x.notes.f)) = some
  (ABlk.mk false 4 (AC.recs t.x.notes.n fun (i : Nat) => (part_c_p2 t i))) ∧ some (ABlk.mk false 4 (AC.recs t.q.n t.q.f)) = some (ABlk.mk false 4 (AC.recs t.q.n fun (i : Nat) => [nI (t.q.at_ i), nI (t.q.cause i), nU (t.q.back i), nU (t.q.addr i)])) ∧ True) ∧ (∀ (y : Unit), True → sp (part_c_b1 t) (sp (part_c_b0 t) (sp (t.e.n.beq t.e.n && t.e.c.beq t.e.c) (sp (t.x.script.n.beq t.x.script.n && t.x.script.c.beq t.x.script.c) (sp (t.x.queue.bs.length.beq t.x.queue.bs.length && t.c4.beq t.c4) (sp (t.x.queue.bs.length.beq t.x.queue.bs.length && t.x.queue.c.beq t.x.queue.c) (sp (t.x.disk.bs.length.beq t.x.disk.bs.length && t.c3.beq t.c3) (sp (t.x.disk.bs.length.beq t.x.disk.bs.length && t.x.disk.c.beq t.x.disk.c) (sp (t.x.out.bs.length.beq t.x.out.bs.length && t.c2.beq t.c2) (sp (t.x.out.bs.length.beq t.x.out.bs.length && t.x.out.c.beq t.x.out.c) (True ∧ [AV.str (ByteArray.mk (Array.mk [110, 111,
  116, 101, 115])), nI (-1)] = [AV.str (ByteArray.mk (Array.mk [110, 111, 116, 101, 115])), nI (-1)] ∧ True ∧ (∀ (y : Unit), True → sp (part_c_b1 t) (sp (part_c_b0 t) (sp (t.e.n.beq t.e.n && t.e.c.beq t.e.c) (sp (t.x.script.n.beq t.x.script.n && t.x.script.c.beq t.x.script.c) (sp (t.x.queue.bs.length.beq t.x.queue.bs.length && t.c4.beq t.c4) (sp (t.x.queue.bs.length.beq t.x.queue.bs.length && t.x.queue.c.beq t.x.queue.c) (sp (t.x.disk.bs.length.beq t.x.disk.bs.length && t.c3.beq t.c3) (sp (t.x.disk.bs.length.beq t.x.disk.bs.length && t.x.disk.c.beq t.x.disk.c) (sp (t.x.out.bs.length.beq t.x.out.bs.length && t.c2.beq t.c2) (sp (t.x.out.bs.length.beq t.x.out.bs.length && t.x.out.c.beq t.x.out.c) (t.x.out.bs.length.le 140737488355328 ∧ [] ++ [AV.str (ByteArray.mk (Array.mk [111, 117, 116])), AV.msl 2 0 0 t.x.out.bs.length t.x.out.c, AV.msl (up6 2) 0 0 t.x.out.bs.length t.c2] ++ [] = [AV.str
  (ByteArray.mk (Array.mk [111, 117, 116])), AV.msl 2 0 0 t.x.out.bs.length t.x.out.c, AV.msl 8 0 0 t.x.out.bs.length t.c2] ∧ (some (bR t.x.out.bs) = some (bR t.x.out.bs) ∧ some (bR t.x.out.bs) = some (bR t.x.out.bs) ∧ True) ∧ (∀ (y : Unit), True → sp (part_c_b1 t) (sp (part_c_b0 t) (sp (t.e.n.beq t.e.n && t.e.c.beq t.e.c) (sp (t.x.script.n.beq t.x.script.n && t.x.script.c.beq t.x.script.c) (sp (t.x.queue.bs.length.beq t.x.queue.bs.length && t.c4.beq t.c4) (sp (t.x.queue.bs.length.beq t.x.queue.bs.length && t.x.queue.c.beq t.x.queue.c) (sp (t.x.disk.bs.length.beq t.x.disk.bs.length && t.c3.beq t.c3) (sp (t.x.disk.bs.length.beq t.x.disk.bs.length && t.x.disk.c.beq t.x.disk.c) (t.x.disk.bs.length.le 140737488355328 ∧ [] ++ [AV.str (ByteArray.mk (Array.mk [100, 105, 115, 107])), AV.msl 3 0 0 t.x.disk.bs.length t.x.disk.c, AV.msl (up6 3) 0 0 t.x.disk.bs.length t.c3] ++ [] = [AV.str
  (ByteArray.mk (Array.mk [100, 105, 115, 107])), AV.msl 3 0 0 t.x.disk.bs.length t.x.disk.c, AV.msl 9 0 0 t.x.disk.bs.length t.c3] ∧ (some (bR t.x.disk.bs) = some (bR t.x.disk.bs) ∧ some (bR t.x.disk.bs) = some (bR t.x.disk.bs) ∧ True) ∧ (∀ (y : Unit), True → sp (part_c_b1 t) (sp (part_c_b0 t) (sp (t.e.n.beq t.e.n && t.e.c.beq t.e.c) (sp (t.x.script.n.beq t.x.script.n && t.x.script.c.beq t.x.script.c) (sp (t.x.queue.bs.length.beq t.x.queue.bs.length && t.c4.beq t.c4) (sp (t.x.queue.bs.length.beq t.x.queue.bs.length && t.x.queue.c.beq t.x.queue.c) (t.x.queue.bs.length.le 140737488355328 ∧ [] ++ [AV.str (ByteArray.mk (Array.mk [113, 117, 101, 117, 101])), AV.msl 4 0 0 t.x.queue.bs.length t.x.queue.c, AV.msl (up6 4) 0 0 t.x.queue.bs.length t.c4] ++ [] = [AV.str (ByteArray.mk (Array.mk [113, 117, 101, 117, 101])), AV.msl 4 0 0 t.x.queue.bs.length t.x.queue.c, AV.msl 10 0 0 t.x.queue.bs.length
  t.c4] ∧ (some (bR t.x.queue.bs) = some (bR t.x.queue.bs) ∧ some (bR t.x.queue.bs) = some (bR t.x.queue.bs) ∧ True) ∧ (∀ (y : Unit), True → sp (part_c_b1 t) (sp (part_c_b0 t) (sp (t.e.n.beq t.e.n && t.e.c.beq t.e.c) (sp (t.x.script.n.beq t.x.script.n && t.x.script.c.beq t.x.script.c) ((t.e.n = t.x.script.n ∧ t.x.script.n ≤ 140737488355328 ∧ ∀ (i : Nat), i < t.x.script.n → t.e.at_ i = t.x.script.at_ i ∧ t.e.kind i = t.x.script.kind i ∧ t.e.byte i = t.x.script.byte i) ∧ [] ++ [AV.msl 5 0 0 t.x.script.n t.x.script.c, AV.msl (up6 5) 0 0 t.e.n t.e.c] ++ [] = [AV.msl 5 0 0 t.x.script.n t.x.script.c, AV.msl 11 0 0 t.e.n t.e.c] ∧ (some (ABlk.mk false 3 (AC.recs t.x.script.n t.x.script.f)) = some (ABlk.mk false 3 (AC.recs t.x.script.n fun (i : Nat) => [nI (t.x.script.at_ i), nI (t.x.script.kind i), nB (t.x.script.byte i)])) ∧ some (ABlk.mk false 3 (AC.recs t.e.n t.e.f)) = some (ABlk.mk false 3
  (AC.recs t.e.n fun (i : Nat) => [nI (t.e.at_ i), nI (t.e.kind i), nB (t.e.byte i)])) ∧ True) ∧ (∀ (y : Unit), True → sp (part_c_b1 t) (sp (part_c_b0 t) (True ∧ (part_c_p5 t) = (part_c_p5 t) ∧ True ∧ (∀ (y : Unit), True → sp (part_c_b1 t) (sp (part_c_b0 t) (True ∧ [] ++ (part_c_p0 t) ++ [] = (part_c_p0 t) ∧ (some (bR t.x.mem.bs) = some (bR t.x.mem.bs) ∧ some (ABlk.mk false 4 (AC.recs t.x.notes.n fun (i : Nat) => (part_c_p2 t i))) = some (ABlk.mk false 4 (AC.recs t.x.notes.n fun (i : Nat) => (part_c_p2 t i))) ∧ some (bR t.x.out.bs) = some (bR t.x.out.bs) ∧ some (bR t.x.disk.bs) = some (bR t.x.disk.bs) ∧ some (bR t.x.queue.bs) = some (bR t.x.queue.bs) ∧ some (ABlk.mk false 3 (AC.recs t.x.script.n fun (i : Nat) => [nI (t.x.script.at_ i), nI (t.x.script.kind i), nB (t.x.script.byte i)])) = some (ABlk.mk false 3 (AC.recs t.x.script.n fun (i : Nat) => [nI (t.x.script.at_ i), nI (t.x.script.kind
  i), nB (t.x.script.byte i)])) ∧ True) ∧ (∀ (y : Unit), True → sp (part_c_b1 t) (True ∧ [] ++ [AV.agg [nI t.x.fr, AV.msl (up6 0) 0 0 t.x.mem.bs.length t.c0, nU t.x.s.r0, nU t.x.s.r1, nU t.x.s.r2, nU t.x.s.r3, nU t.x.s.r4, nU t.x.s.r5, nU t.x.s.r6, nU t.x.s.r7, nU t.x.s.pc, nU t.x.s.ps, nU t.x.s.c0, nU t.x.s.c1, nU t.x.s.c2, nU t.x.s.c3, nU t.x.s.c4, nU t.x.s.c5, nU t.x.s.c6, nU t.x.s.c7, AV.bool t.x.s.h, nI t.x.steps, AV.msl (up6 1) 0 0 t.q.n t.q.c, AV.msl (up6 2) 0 0 t.x.out.bs.length t.c2, AV.msl (up6 3) 0 0 t.x.disk.bs.length t.c3, AV.msl (up6 4) 0 0 t.x.queue.bs.length t.c4, AV.msl (up6 5) 0 0 t.e.n t.e.c, nU t.x.b1, nU t.x.b2, nU t.x.b3, nU t.x.b4, nU t.x.b5, nU t.x.b6, nU t.x.b7, nU t.x.b8]] ++ [] = [AV.agg [nI t.x.fr, AV.msl 6 0 0 t.x.mem.bs.length t.c0, nU t.x.s.r0, nU t.x.s.r1, nU t.x.s.r2, nU t.x.s.r3, nU t.x.s.r4, nU t.x.s.r5, nU t.x.s.r6, nU t.x.s.r7, nU t.x.s.pc, nU t.x.s.ps,
  nU t.x.s.c0, nU t.x.s.c1, nU t.x.s.c2, nU t.x.s.c3, nU t.x.s.c4, nU t.x.s.c5, nU t.x.s.c6, nU t.x.s.c7, AV.bool t.x.s.h, nI t.x.steps, AV.msl 7 0 0 t.q.n t.q.c, AV.msl 8 0 0 t.x.out.bs.length t.c2, AV.msl 9 0 0 t.x.disk.bs.length t.c3, AV.msl 10 0 0 t.x.queue.bs.length t.c4, AV.msl 11 0 0 t.e.n t.e.c, nU t.x.b1, nU t.x.b2, nU t.x.b3, nU t.x.b4, nU t.x.b5, nU t.x.b6, nU t.x.b7, nU t.x.b8]] ∧ (some (bR t.x.mem.bs) = some (bR t.x.mem.bs) ∧ some (ABlk.mk false 4 (AC.recs t.q.n fun (i : Nat) => [nI (t.q.at_ i), nI (t.q.cause i), nU (t.q.back i), nU (t.q.addr i)])) = some (ABlk.mk false 4 (AC.recs t.q.n fun (i : Nat) => [nI (t.q.at_ i), nI (t.q.cause i), nU (t.q.back i), nU (t.q.addr i)])) ∧ some (bR t.x.out.bs) = some (bR t.x.out.bs) ∧ some (bR t.x.disk.bs) = some (bR t.x.disk.bs) ∧ some (bR t.x.queue.bs) = some (bR t.x.queue.bs) ∧ some (ABlk.mk false 3 (AC.recs t.e.n fun (i : Nat) => [nI
  (t.e.at_ i), nI (t.e.kind i), nB (t.e.byte i)])) = some (ABlk.mk false 3 (AC.recs t.e.n fun (i : Nat) => [nI (t.e.at_ i), nI (t.e.kind i), nB (t.e.byte i)])) ∧ True) ∧ (∀ (y : Unit), True → sp ((bif true then !(t.x.b1 == t.x.b1 && (t.x.b2 == t.x.b2 && (t.x.b3 == t.x.b3 && (t.x.b4 == t.x.b4 && (t.x.b5 == t.x.b5 && (t.x.b6 == t.x.b6 && (t.x.b7 == t.x.b7 && (t.x.b8 == t.x.b8 && true)))))))) else t.x.b1 == t.x.b1 && (t.x.b2 == t.x.b2 && (t.x.b3 == t.x.b3 && (t.x.b4 == t.x.b4 && (t.x.b5 == t.x.b5 && (t.x.b6 == t.x.b6 && (t.x.b7 == t.x.b7 && (t.x.b8 == t.x.b8 && true)))))))) == bif true then !(t.x.b1 == t.x.b1 && (t.x.b2 == t.x.b2 && (t.x.b3 == t.x.b3 && (t.x.b4 == t.x.b4 && (t.x.b5 == t.x.b5 && (t.x.b6 == t.x.b6 && (t.x.b7 == t.x.b7 && (t.x.b8 == t.x.b8 && true)))))))) else t.x.b1 == t.x.b1 && (t.x.b2 == t.x.b2 && (t.x.b3 == t.x.b3 && (t.x.b4 == t.x.b4 && (t.x.b5 == t.x.b5 && (t.x.b6 == t.x.b6
  && (t.x.b7 == t.x.b7 && (t.x.b8 == t.x.b8 && true)))))))) (∃ (y : Unit), True ∧ [AV.sl 55 0 0 10 10 true] = [AV.sl 55 0 0 10 10 true] ∧ bR t.x.mem.bs = bR t.x.mem.bs ∧ (false = false ∧ 4 = 4 ∧ t.x.notes.n = t.x.notes.n ∧ ∀ (i : Nat), i < t.x.notes.n → (part_c_p2 t i) = (part_c_p2 t i)) ∧ bR t.x.out.bs = bR t.x.out.bs ∧ bR t.x.disk.bs = bR t.x.disk.bs ∧ bR t.x.queue.bs = bR t.x.queue.bs ∧ (false = false ∧ 3 = 3 ∧ t.x.script.n = t.x.script.n ∧ ∀ (i : Nat), i < t.x.script.n → [nI (t.x.script.at_ i), nI (t.x.script.kind i), nB (t.x.script.byte i)] = [nI (t.x.script.at_ i), nI (t.x.script.kind i), nB (t.x.script.byte i)]) ∧ bR t.x.mem.bs = bR t.x.mem.bs ∧ (false = false ∧ 4 = 4 ∧ t.q.n = t.q.n ∧ ∀ (i : Nat), i < t.q.n → [nI (t.q.at_ i), nI (t.q.cause i), nU (t.q.back i), nU (t.q.addr i)] = [nI (t.q.at_ i), nI (t.q.cause i), nU (t.q.back i), nU (t.q.addr i)]) ∧ bR t.x.out.bs = bR t.x.out.bs ∧
  bR t.x.disk.bs = bR t.x.disk.bs ∧ bR t.x.queue.bs = bR t.x.queue.bs ∧ (false = false ∧ 3 = 3 ∧ t.e.n = t.e.n ∧ ∀ (i : Nat), i < t.e.n → [nI (t.e.at_ i), nI (t.e.kind i), nB (t.e.byte i)] = [nI (t.e.at_ i), nI (t.e.kind i), nB (t.e.byte i)]) ∧ ABlk.mk true 3 (AC.cells [AV.str (ByteArray.mk (Array.mk [102, 114, 97, 109, 101, 115])), AV.bool false, AV.fn (Fn.func F_judge_numbers_1) [] [AV.ptr 14 0 0, AV.ptr 15 0 0], AV.str (ByteArray.mk (Array.mk [115, 116, 101, 112, 115])), AV.bool false, AV.fn (Fn.func F_judge_numbers_1) [] [AV.ptr 17 0 0, AV.ptr 18 0 0], AV.str stateS, AV.bool false, AV.fn (Fn.func F_judge_states_1) [] [AV.ptr 25 0 0, AV.ptr 26 0 0], AV.str (ByteArray.mk (Array.mk [109, 101, 109])), AV.bool false, AV.fn (Fn.func F_judge_bytes_1) [] [AV.ptr 30 0 0, AV.ptr 27 0 0, AV.ptr 28 0 0], AV.str (ByteArray.mk (Array.mk [110, 111, 116, 101, 115])), AV.bool false, AV.fn (Fn.func
  F_judge_list_1) [] [AV.ptr 33 0 0], AV.str (ByteArray.mk (Array.mk [111, 117, 116])), AV.bool false, AV.fn (Fn.func F_judge_bytes_1) [] [AV.ptr 38 0 0, AV.ptr 35 0 0, AV.ptr 36 0 0], AV.str (ByteArray.mk (Array.mk [100, 105, 115, 107])), AV.bool false, AV.fn (Fn.func F_judge_bytes_1) [] [AV.ptr 42 0 0, AV.ptr 39 0 0, AV.ptr 40 0 0], AV.str (ByteArray.mk (Array.mk [113, 117, 101, 117, 101])), AV.bool false, AV.fn (Fn.func F_judge_bytes_1) [] [AV.ptr 46 0 0, AV.ptr 43 0 0, AV.ptr 44 0 0], AV.str (ByteArray.mk (Array.mk [115, 99, 114, 105, 112, 116])), AV.bool false, AV.fn (Fn.func F_judge_list_1) [] [AV.ptr 49 0 0], AV.str (ByteArray.mk (Array.mk [100, 101, 118, 105, 99, 101, 115])), AV.bool (bif true then !(t.x.b1 == t.x.b1 && (t.x.b2 == t.x.b2 && (t.x.b3 == t.x.b3 && (t.x.b4 == t.x.b4 && (t.x.b5 == t.x.b5 && (t.x.b6 == t.x.b6 && (t.x.b7 == t.x.b7 && (t.x.b8 == t.x.b8 && true)))))))) else
  t.x.b1 == t.x.b1 && (t.x.b2 == t.x.b2 && (t.x.b3 == t.x.b3 && (t.x.b4 == t.x.b4 && (t.x.b5 == t.x.b5 && (t.x.b6 == t.x.b6 && (t.x.b7 == t.x.b7 && (t.x.b8 == t.x.b8 && true)))))))), AV.fn (Fn.func 42) [] []]) = ABlk.mk true 3 (AC.cells [AV.str (ByteArray.mk (Array.mk [102, 114, 97, 109, 101, 115])), AV.bool false, AV.fn (Fn.func F_judge_numbers_1) [] [AV.ptr 14 0 0, AV.ptr 15 0 0], AV.str (ByteArray.mk (Array.mk [115, 116, 101, 112, 115])), AV.bool false, AV.fn (Fn.func F_judge_numbers_1) [] [AV.ptr 17 0 0, AV.ptr 18 0 0], AV.str (ByteArray.mk (Array.mk [115, 116, 97, 116, 101])), AV.bool false, AV.fn (Fn.func F_judge_states_1) [] [AV.ptr 25 0 0, AV.ptr 26 0 0], AV.str (ByteArray.mk (Array.mk [109, 101, 109])), AV.bool false, AV.fn (Fn.func F_judge_bytes_1) [] [AV.ptr 30 0 0, AV.ptr 27 0 0, AV.ptr 28 0 0], AV.str (ByteArray.mk (Array.mk [110, 111, 116, 101, 115])), AV.bool false, AV.fn
  (Fn.func F_judge_list_1) [] [AV.ptr 33 0 0], AV.str (ByteArray.mk (Array.mk [111, 117, 116])), AV.bool false, AV.fn (Fn.func F_judge_bytes_1) [] [AV.ptr 38 0 0, AV.ptr 35 0 0, AV.ptr 36 0 0], AV.str (ByteArray.mk (Array.mk [100, 105, 115, 107])), AV.bool false, AV.fn (Fn.func F_judge_bytes_1) [] [AV.ptr 42 0 0, AV.ptr 39 0 0, AV.ptr 40 0 0], AV.str (ByteArray.mk (Array.mk [113, 117, 101, 117, 101])), AV.bool false, AV.fn (Fn.func F_judge_bytes_1) [] [AV.ptr 46 0 0, AV.ptr 43 0 0, AV.ptr 44 0 0], AV.str (ByteArray.mk (Array.mk [115, 99, 114, 105, 112, 116])), AV.bool false, AV.fn (Fn.func F_judge_list_1) [] [AV.ptr 49 0 0], AV.str (ByteArray.mk (Array.mk [100, 101, 118, 105, 99, 101, 115])), AV.bool false, AV.fn (Fn.func F_judge_parts_1) [] []]) ∧ True) False) ∧ True) False) ∧ True) False) False) ∧ True) False) False) ∧ True) False) False) False) False) ∧ True) False) False) False) False)
  False) False) ∧ True) False) False) False) False) False) False) False) False) ∧ True) False) False) False) False) False) False) False) False) False) False) ∧ True) False) False) False) False) False) False) False) False) False) False) ∧ True) False) False) False) False) False) False) False) False) False) False) False) False) ∧ True) False) False) False) False) False) False) False) False) False) False) False) False) False) False) ∧ True) False) False) False) False) False) False) False) False) False) False) False) False) False) False) False) False) ∧ True) False) False) False) False) False) False) False) False) False) False) False) False) False) False) False) False) False) False) ∧ True) False) False) False) False) False) False) False) False) False) False) False) False) False) False) False) False) False) False) False) False
theorem part_c_e (t : TlX) : some (part_c_V t) = (partC.cond sp Go.Proofs.Tryz.prog (drP sp Go.Proofs.Tryz.prog) noLoops (orK (numbersC.orc sp) (orK (listC.orc sp) (orK (bytesC.orc sp) (orK (statesC.orc sp) (orK (devicesC.orc sp) (orK (notesC.orc sp) (eventsC.orc sp))))))) 40 2 t) := by kernel_rfl
set_option maxHeartbeats 4000000 in
theorem part_ok : partC.OK Go.Proofs.Tryz.prog := by
  refine Con.by hmix (noLoops_ok _) (orK_ok (Con.orc_ok numbersC_ok) (orK_ok (Con.orc_ok listC_ok) (orK_ok (Con.orc_ok bytesC_ok) (orK_ok (Con.orc_ok statesC_ok) (orK_ok (Con.orc_ok devicesC_ok) (orK_ok (Con.orc_ok notesC_ok) (Con.orc_ok eventsC_ok))))))) part_c_V part_c_e (fun t ht => ?_)
  obtain ⟨hm, hn, ho, hd, hq, he⟩ := ht
  have b0 : part_c_b0 t = true := by simp [part_c_b0]
  have b1 : part_c_b1 t = true := by simp [part_c_b1]
  have b2 : part_c_b2 t = true := by simp [part_c_b2]
  unfold part_c_V part_c_p5 part_c_p4 part_c_p3 part_c_p2 part_c_p1 part_c_p0
  iterate 40 try refine spT (by first | exact b0 | exact b1 | exact b2 | (simp; done)) ?_
  refine ⟨trivial, rfl, trivial, fun _ _ => ?_, trivial⟩
  iterate 40 try refine spT (by first | exact b0 | exact b1 | exact b2 | (simp; done)) ?_
  refine ⟨trivial, rfl, trivial, fun _ _ => ?_, trivial⟩
  iterate 40 try refine spT (by first | exact b0 | exact b1 | exact b2 | (simp; done)) ?_
  refine ⟨trivial, rfl, trivial, fun _ _ => ?_, trivial⟩
  iterate 40 try refine spT (by first | exact b0 | exact b1 | exact b2 | (simp; done)) ?_
  refine ⟨hm, rfl, ⟨rfl, rfl, trivial⟩, fun _ _ => ?_, trivial⟩
  iterate 40 try refine spT (by first | exact b0 | exact b1 | exact b2 | (simp; done)) ?_
  refine ⟨hn, rfl, ⟨rfl, rfl, trivial⟩, fun _ _ => ?_, trivial⟩
  iterate 40 try refine spT (by first | exact b0 | exact b1 | exact b2 | (simp; done)) ?_
  refine ⟨trivial, rfl, trivial, fun _ _ => ?_, trivial⟩
  iterate 40 try refine spT (by first | exact b0 | exact b1 | exact b2 | (simp; done)) ?_
  refine ⟨ho, rfl, ⟨rfl, rfl, trivial⟩, fun _ _ => ?_, trivial⟩
  iterate 40 try refine spT (by first | exact b0 | exact b1 | exact b2 | (simp; done)) ?_
  refine ⟨hd, rfl, ⟨rfl, rfl, trivial⟩, fun _ _ => ?_, trivial⟩
  iterate 40 try refine spT (by first | exact b0 | exact b1 | exact b2 | (simp; done)) ?_
  refine ⟨hq, rfl, ⟨rfl, rfl, trivial⟩, fun _ _ => ?_, trivial⟩
  iterate 40 try refine spT (by first | exact b0 | exact b1 | exact b2 | (simp; done)) ?_
  refine ⟨he, rfl, ⟨rfl, rfl, trivial⟩, fun _ _ => ?_, trivial⟩
  iterate 40 try refine spT (by first | exact b0 | exact b1 | exact b2 | (simp; done)) ?_
  refine ⟨trivial, rfl, trivial, fun _ _ => ?_, trivial⟩
  iterate 40 try refine spT (by first | exact b0 | exact b1 | exact b2 | (simp; done)) ?_
  refine ⟨trivial, rfl, ⟨rfl, rfl, rfl, rfl, rfl, rfl, trivial⟩, fun _ _ => ?_, trivial⟩
  iterate 40 try refine spT (by first | exact b0 | exact b1 | exact b2 | (simp; done)) ?_
  refine ⟨trivial, rfl, ⟨rfl, rfl, rfl, rfl, rfl, rfl, trivial⟩, fun _ _ => ?_, trivial⟩
  iterate 40 try refine spT (by first | exact b0 | exact b1 | exact b2 | (simp; done)) ?_
  refine ⟨(), trivial, rfl, rfl, ⟨rfl, rfl, rfl, fun _ _ => rfl⟩, rfl, rfl, rfl, ⟨rfl, rfl, rfl, fun _ _ => rfl⟩, rfl, ⟨rfl, rfl, rfl, fun _ _ => rfl⟩, rfl, rfl, rfl, ⟨rfl, rfl, rfl, fun _ _ => rfl⟩, ?_, trivial⟩
  simp
  rfl
abbrev tell_c_p0 (t : TlX) : List AV :=
  [nI t.x.fr, AV.msl 0 0 0 t.x.mem.bs.length t.x.mem.c, nU t.x.s.r0, nU t.x.s.r1, nU t.x.s.r2, nU t.x.s.r3, nU t.x.s.r4, nU t.x.s.r5, nU t.x.s.r6, nU t.x.s.r7, nU t.x.s.pc, nU t.x.s.ps, nU t.x.s.c0, nU t.x.s.c1, nU t.x.s.c2, nU t.x.s.c3, nU t.x.s.c4, nU t.x.s.c5, nU t.x.s.c6, nU t.x.s.c7, AV.bool t.x.s.h, nI t.x.steps, AV.msl 1 0 0 t.x.notes.n t.x.notes.c, AV.msl 2 0 0 t.x.out.bs.length t.x.out.c, AV.msl 3 0 0 t.x.disk.bs.length t.x.disk.c, AV.msl 4 0 0 t.x.queue.bs.length t.x.queue.c, AV.msl 5 0 0 t.x.script.n t.x.script.c, nU t.x.b1, nU t.x.b2, nU t.x.b3, nU t.x.b4, nU t.x.b5, nU t.x.b6, nU t.x.b7, nU t.x.b8]
abbrev tell_c_p1 (t : TlX) (i : Nat) : List AV :=
  [nI (t.x.notes.at_ i), nI (t.x.notes.cause i), nU (t.x.notes.back i), nU (t.x.notes.addr i)]
def tell_c_V (t : TlX) : Prop :=
  (t.x.mem.bs.length ≤ 140737488355328 ∧ (t.q.n = t.x.notes.n ∧ t.x.notes.n ≤ 140737488355328 ∧ ∀ (i : Nat), i < t.x.notes.n → t.q.at_ i = t.x.notes.at_ i ∧ t.q.cause i = t.x.notes.cause i ∧ t.q.back i = t.x.notes.back i ∧ t.q.addr i = t.x.notes.addr i) ∧ t.x.out.bs.length ≤ 140737488355328 ∧ t.x.disk.bs.length ≤ 140737488355328 ∧ t.x.queue.bs.length ≤ 140737488355328 ∧ t.e.n = t.x.script.n ∧ t.x.script.n ≤ 140737488355328 ∧ ∀ (i : Nat), i < t.x.script.n → t.e.at_ i = t.x.script.at_ i ∧ t.e.kind i = t.x.script.kind i ∧ t.e.byte i = t.x.script.byte i) ∧ [] ++ [AV.agg (tell_c_p0 t), AV.agg [nI t.x.fr, AV.msl (up6 0) 0 0 t.x.mem.bs.length t.c0, nU t.x.s.r0, nU t.x.s.r1, nU t.x.s.r2, nU t.x.s.r3, nU t.x.s.r4, nU t.x.s.r5, nU t.x.s.r6, nU t.x.s.r7, nU t.x.s.pc, nU t.x.s.ps, nU t.x.s.c0, nU t.x.s.c1, nU t.x.s.c2, nU t.x.s.c3, nU t.x.s.c4, nU t.x.s.c5, nU t.x.s.c6, nU t.x.s.c7, AV.bool t.x.s.h, nI
  t.x.steps, AV.msl (up6 1) 0 0 t.q.n t.q.c, AV.msl (up6 2) 0 0 t.x.out.bs.length t.c2, AV.msl (up6 3) 0 0 t.x.disk.bs.length t.c3, AV.msl (up6 4) 0 0 t.x.queue.bs.length t.c4, AV.msl (up6 5) 0 0 t.e.n t.e.c, nU t.x.b1, nU t.x.b2, nU t.x.b3, nU t.x.b4, nU t.x.b5, nU t.x.b6, nU t.x.b7, nU t.x.b8]] ++ [] = [AV.agg (tell_c_p0 t), AV.agg [nI t.x.fr, AV.msl 6 0 0 t.x.mem.bs.length t.c0, nU t.x.s.r0, nU t.x.s.r1, nU t.x.s.r2, nU t.x.s.r3, nU t.x.s.r4, nU t.x.s.r5, nU t.x.s.r6, nU t.x.s.r7, nU t.x.s.pc, nU t.x.s.ps, nU t.x.s.c0, nU t.x.s.c1, nU t.x.s.c2, nU t.x.s.c3, nU t.x.s.c4, nU t.x.s.c5, nU t.x.s.c6, nU t.x.s.c7, AV.bool t.x.s.h, nI t.x.steps, AV.msl 7 0 0 t.q.n t.q.c, AV.msl 8 0 0 t.x.out.bs.length t.c2, AV.msl 9 0 0 t.x.disk.bs.length t.c3, AV.msl 10 0 0 t.x.queue.bs.length t.c4, AV.msl 11 0 0 t.e.n t.e.c, nU t.x.b1, nU t.x.b2, nU t.x.b3, nU t.x.b4, nU t.x.b5, nU t.x.b6, nU t.x.b7, nU
  t.x.b8]] ∧ (some (bR t.x.mem.bs) = some (bR t.x.mem.bs) ∧ some (ABlk.mk false 4 (AC.recs t.x.notes.n t.x.notes.f)) = some (ABlk.mk false 4 (AC.recs t.x.notes.n fun (i : Nat) => (tell_c_p1 t i))) ∧ some (bR t.x.out.bs) = some (bR t.x.out.bs) ∧ some (bR t.x.disk.bs) = some (bR t.x.disk.bs) ∧ some (bR t.x.queue.bs) = some (bR t.x.queue.bs) ∧ some (ABlk.mk false 3 (AC.recs t.x.script.n t.x.script.f)) = some (ABlk.mk false 3 (AC.recs t.x.script.n fun (i : Nat) => [nI (t.x.script.at_ i), nI (t.x.script.kind i), nB (t.x.script.byte i)])) ∧ some (bR t.x.mem.bs) = some (bR t.x.mem.bs) ∧ some (ABlk.mk false 4 (AC.recs t.q.n t.q.f)) = some (ABlk.mk false 4 (AC.recs t.q.n fun (i : Nat) => [nI (t.q.at_ i), nI (t.q.cause i), nU (t.q.back i), nU (t.q.addr i)])) ∧ some (bR t.x.out.bs) = some (bR t.x.out.bs) ∧ some (bR t.x.disk.bs) = some (bR t.x.disk.bs) ∧ some (bR t.x.queue.bs) = some (bR t.x.queue.bs)
  ∧ some (ABlk.mk false 3 (AC.recs t.e.n t.e.f)) = some (ABlk.mk false 3 (AC.recs t.e.n fun (i : Nat) => [nI (t.e.at_ i), nI (t.e.kind i), nB (t.e.byte i)])) ∧ True) ∧ (∀ (y : Unit), True → ∃ (y : Unit), True ∧ [AV.str (ByteArray.mk (Array.mk []))] = [AV.str (ByteArray.mk (Array.mk []))] ∧ bR t.x.mem.bs = bR t.x.mem.bs ∧ (false = false ∧ 4 = 4 ∧ t.x.notes.n = t.x.notes.n ∧ ∀ (i : Nat), i < t.x.notes.n → (tell_c_p1 t i) = (tell_c_p1 t i)) ∧ bR t.x.out.bs = bR t.x.out.bs ∧ bR t.x.disk.bs = bR t.x.disk.bs ∧ bR t.x.queue.bs = bR t.x.queue.bs ∧ (false = false ∧ 3 = 3 ∧ t.x.script.n = t.x.script.n ∧ ∀ (i : Nat), i < t.x.script.n → [nI (t.x.script.at_ i), nI (t.x.script.kind i), nB (t.x.script.byte i)] = [nI (t.x.script.at_ i), nI (t.x.script.kind i), nB (t.x.script.byte i)]) ∧ bR t.x.mem.bs = bR t.x.mem.bs ∧ (false = false ∧ 4 = 4 ∧ t.q.n = t.q.n ∧ ∀ (i : Nat), i < t.q.n → [nI (t.q.at_ i), nI
  (t.q.cause i), nU (t.q.back i), nU (t.q.addr i)] = [nI (t.q.at_ i), nI (t.q.cause i), nU (t.q.back i), nU (t.q.addr i)]) ∧ bR t.x.out.bs = bR t.x.out.bs ∧ bR t.x.disk.bs = bR t.x.disk.bs ∧ bR t.x.queue.bs = bR t.x.queue.bs ∧ (false = false ∧ 3 = 3 ∧ t.e.n = t.e.n ∧ ∀ (i : Nat), i < t.e.n → [nI (t.e.at_ i), nI (t.e.kind i), nB (t.e.byte i)] = [nI (t.e.at_ i), nI (t.e.kind i), nB (t.e.byte i)]) ∧ True) ∧ True
theorem tell_c_e (t : TlX) : some (tell_c_V t) = (tellC.cond sp Go.Proofs.Tryz.prog (drP sp Go.Proofs.Tryz.prog) noLoops (orK (partC.orc sp) (noK tellNo)) 40 2 t) := by kernel_rfl
theorem tell_ok : tellC.OK Go.Proofs.Tryz.prog := by
  refine Con.by hmix (noLoops_ok _) (orK_ok (Con.orc_ok part_ok) (noK_ok _ _)) tell_c_V tell_c_e (fun t ht => ?_)
  unfold tell_c_V tell_c_p1 tell_c_p0
  exact ⟨ht, rfl, ⟨rfl, rfl, rfl, rfl, rfl, rfl, rfl, rfl, rfl, rfl, rfl, rfl, trivial⟩, fun _ _ => ⟨(), trivial, rfl, rfl, ⟨rfl, rfl, rfl, fun _ _ => rfl⟩, rfl, rfl, rfl, ⟨rfl, rfl, rfl, fun _ _ => rfl⟩, rfl, ⟨rfl, rfl, rfl, fun _ _ => rfl⟩, rfl, rfl, rfl, ⟨rfl, rfl, rfl, fun _ _ => rfl⟩, trivial⟩, trivial⟩
end Go.Proofs.YtmbcpmbpkdeioaaGreatDoor.W
/- Sums and seals as the document has them: what is reckoned, and the loops' states. No condition. -/
namespace Go.Proofs.YtmbcpmbpkdeioaaGreatDoor.W
open Go Go.RowKit Go.Eng
set_option maxRecDepth 100000
set_option linter.unusedVariables false
set_option linter.unusedSimpArgs false
structure RiI where
  bs : List Int
  c : Nat
  k : Nat
  r : Int
  i : Nat
def riL (P : Program) : Lp RiI where
  B := 1
  n := ntmpsOf P F_mummerref29_Sum
  code := (loopsIn (loopOf P F_mummerref29_Sum 0)).getD 0 .skip
  fit s H := match s.get 0, s.get 3, s.get 4, s.get 5 with
    | .msl b _ _ _ c, .int _ r, .int _ k, .int _ i => (rowOf H b c).map fun q => ⟨q.bs, c, k.toNat, r, i.toNat⟩
    | _, _, _, _ => none
  pre i := i.i ≤ 8 ∧ 0 ≤ i.r ∧ i.r ≤ 4294967295
  slots i := [(0, .msl 0 0 0 i.bs.length i.c), (3, .int .u32 i.r), (4, .int .i64 i.k), (5, .int .i64 i.i)]
  nx _ := 1
  L i := [(0, ⟨false, 1, .ints .u8 i.bs⟩)]
  m i := 8 - i.i
  outs i := [(true, ⟨.exit 2, [(0, .msl 0 0 0 i.bs.length i.c), (3, .int .u32 (movedSteps (8 - i.i) i.r)), (4, .int .i64 i.k)], 1, [(0, ⟨false, 1, .ints .u8 i.bs⟩)]⟩)]
structure RoI where
  bs : List Int
  c : Nat
  r : Int
  k : Nat
def roL (P : Program) : Lp RoI where
  B := 1
  n := ntmpsOf P F_mummerref29_Sum
  code := loopOf P F_mummerref29_Sum 0
  fit s H := match s.get 0, s.get 3, s.get 4 with
    | .msl b _ _ _ c, .int _ r, .int _ k => (rowOf H b c).map fun q => ⟨q.bs, c, r, k.toNat⟩
    | _, _, _ => none
  pre i := i.k ≤ i.bs.length ∧ i.bs.length ≤ 140737488355328 ∧ 0 ≤ i.r ∧ i.r ≤ 4294967295
  slots i := [(0, .msl 0 0 0 i.bs.length i.c), (3, .int .u32 i.r), (4, .int .i64 i.k)]
  nx _ := 1
  L i := [(0, ⟨false, 1, .ints .u8 i.bs⟩)]
  m i := i.bs.length - i.k
  outs i := [(true, ⟨.exit 0, [(3, .int .u32 (sumR i.r (i.bs.drop i.k)))], 1, [(0, ⟨false, 1, .ints .u8 i.bs⟩)]⟩)]
def rsumC : Con Row Unit where
  f := F_mummerref29_Sum
  fit vs H := match vs with
    | [.msl b _ _ _ c] => (rowOf H b c).map fun q => ([b], q)
    | _ => none
  n0 := 1
  pre x := x.bs.length ≤ 140737488355328
  args x := [.msl 0 0 0 x.bs.length x.c]
  L0 x := [(0, ⟨false, 1, .ints .u8 x.bs⟩)]
  outs x := [(fun _ => True, fun _ => (.ret (.int .u32 (sumB x.bs)), 1, [(0, ⟨false, 1, .ints .u8 x.bs⟩)]))]
structure SeI where
  bs : List Int
  c : Nat
  k : Nat
  s : Bool
def seL (P : Program) : Lp SeI where
  B := 1
  n := ntmpsOf P F_mummerref29_Sealed
  code := loopOf P F_mummerref29_Sealed 0
  fit s H := match s.get 0 with
    | .msl b _ _ _ c => (rowOf H b c).map fun q => ⟨q.bs, c, 0, false⟩
    | _ => none
  pre i := i.k ≤ i.bs.length ∧ i.bs.length ≤ 140737488355324 ∧ (i.s = true → 1 ≤ i.k) ∧ (i.s = false → i.k = 0)
  slots i := [(0, .msl 0 0 0 i.bs.length i.c), (3, bif i.s then .sl 1 0 0 i.k i.k false else .nils), (4, .int .i64 i.k)]
  nx _ := 2
  L i := bif i.s then [(0, ⟨false, 1, .ints .u8 i.bs⟩), (1, ⟨true, 1, .ints .u8 (i.bs.take i.k)⟩)] else [(0, ⟨false, 1, .ints .u8 i.bs⟩)]
  m i := i.bs.length - i.k
  outs i := [(decide (i.bs.length = 0), ⟨.exit 0, [(0, .msl 0 0 0 i.bs.length i.c), (3, .nils)], 2, [(0, ⟨false, 1, .ints .u8 i.bs⟩)]⟩),
    (true, ⟨.exit 0, [(0, .msl 0 0 0 i.bs.length i.c), (3, .sl 1 0 0 i.bs.length i.bs.length false)], 2, [(0, ⟨false, 1, .ints .u8 i.bs⟩), (1, ⟨true, 1, .ints .u8 i.bs⟩)]⟩)]
  sh j := { j with s := true }
def rsealC : Con Row Unit where
  f := F_mummerref29_Sealed
  fit vs H := match vs with
    | [.msl b _ _ _ c] => (rowOf H b c).map fun q => ([b], q)
    | _ => none
  n0 := 1
  pre x := x.bs.length ≤ 140737488355324
  args x := [.msl 0 0 0 x.bs.length x.c]
  L0 x := [(0, ⟨false, 1, .ints .u8 x.bs⟩)]
  outs x := [(fun _ => True, fun _ => (.ret (.sl 1 0 0 (sealB x.bs).length (sealB x.bs).length false), 2, [(0, ⟨false, 1, .ints .u8 x.bs⟩), (1, ⟨true, 1, .ints .u8 (sealB x.bs)⟩)]))]
end Go.Proofs.YtmbcpmbpkdeioaaGreatDoor.W
/- Sums and seals as the document has them: the walks. No condition. -/
namespace Go.Proofs.YtmbcpmbpkdeioaaGreatDoor.W
open Go Go.RowKit Go.Eng
set_option maxRecDepth 100000
set_option linter.unusedVariables false
set_option linter.unusedSimpArgs false
theorem and_one {r : Int} (h0 : 0 ≤ r) (h1 : r ≤ 4294967295) : bits .and .u32 r 1 = r % 2 := by
  rw [ba, BitVec.toNat_and, BitVec.toNat_ofInt, BitVec.toNat_ofInt]
  have e1 : ((1 : Int) % ((2 ^ 32 : Nat) : Int)).toNat = 1 := by decide
  rw [e1, Nat.and_one_is_mod]
  have : (r % ((2 ^ 32 : Nat) : Int)) = r := Int.emod_eq_of_lt h0 (by omega)
  rw [this]
  omega
theorem u32_bits (o : BinOp) (a b : Int) : 0 ≤ bits o .u32 a b ∧ bits o .u32 a b ≤ 4294967295 := by
  have := bits_within o .u32 a b
  have h1 : IntKind.u32.min = 0 := rfl
  have h2 : IntKind.u32.max = 4294967295 := rfl
  omega
theorem half {r : Int} (h0 : 0 ≤ r) (h1 : r ≤ 4294967295) : IntKind.wrap .u32 (r.tdiv 2) = r.fdiv 2 := by
  rw [Int.tdiv_eq_ediv_of_nonneg h0, Int.fdiv_eq_ediv_of_nonneg _ (by decide), IntKind.wrap_u32]
  omega
theorem movedStep_range {r : Int} (h0 : 0 ≤ r) (h1 : r ≤ 4294967295) : 0 ≤ movedStep r ∧ movedStep r ≤ 4294967295 := by
  unfold movedStep
  split
  · exact u32_bits _ _ _
  · rw [Int.fdiv_eq_ediv_of_nonneg _ (by decide)]
    omega
theorem movedSteps_range : ∀ (k : Nat) {r : Int}, 0 ≤ r → r ≤ 4294967295 → 0 ≤ movedSteps k r ∧ movedSteps k r ≤ 4294967295
  | 0, r, h0, h1 => ⟨h0, h1⟩
  | k + 1, r, h0, h1 => movedSteps_range k (movedStep_range h0 h1).1 (movedStep_range h0 h1).2
theorem sumR_range : ∀ (l : List Int) {r : Int}, 0 ≤ r → r ≤ 4294967295 → 0 ≤ sumR r l ∧ sumR r l ≤ 4294967295
  | [], r, h0, h1 => ⟨h0, h1⟩
  | x :: l, r, h0, h1 => sumR_range l (movedSteps_range 8 (u32_bits _ _ _).1 (u32_bits _ _ _).2).1 (movedSteps_range 8 (u32_bits _ _ _).1 (u32_bits _ _ _).2).2
theorem not_xor {r : Int} (h0 : 0 ≤ r) (h1 : r ≤ 4294967295) : IntKind.wrap .u32 (4294967295 - r) = bits .xor .u32 4294967295 r := by
  have e : BitVec.ofInt 32 4294967295 = BitVec.allOnes 32 := by decide
  rw [bx, e, BitVec.allOnes_xor, BitVec.toNat_not, BitVec.toNat_ofInt, IntKind.wrap_u32]
  have : (r % ((2 ^ 32 : Nat) : Int)) = r := Int.emod_eq_of_lt h0 (by omega)
  rw [this]
  omega
def ri_c_V (i : RiI) : Prop :=
  sp (decide ((↑i.i : Int) < 8)) (sp (i.r.tmod 2 == 1) (∃ (j : RiI), (j.i ≤ 8 ∧ 0 ≤ j.r ∧ j.r ≤ 4294967295) ∧ 8 - j.i < 8 - i.i ∧ [(true, LOut.mk (AX.exit 2) [(0, AV.msl 0 0 0 j.bs.length j.c), (3, nU (movedSteps (8 - j.i) j.r)), (4, nI (↑j.k : Int))] 1 [(0, bR j.bs)])] = [(true, LOut.mk (AX.exit 2) [(0, AV.msl 0 0 0 i.bs.length i.c), (3, nU (movedSteps (8 - i.i) i.r)), (4, nI (↑i.k : Int))] 1 [(0, bR i.bs)])] ∧ (AV.msl 0 0 0 i.bs.length i.c = AV.msl 0 0 0 j.bs.length j.c ∧ nU (bits BinOp.xor IntKind.u32 (IntKind.u32.wrap (i.r.tdiv 2)) 3988292384) = nU j.r ∧ nI (↑i.k : Int) = nI (↑j.k : Int) ∧ nI (IntKind.i64.wrap ((↑i.i : Int) + 1)) = nI (↑j.i : Int) ∧ True) ∧ bR i.bs = bR j.bs ∧ True) (∃ (j : RiI), (j.i ≤ 8 ∧ 0 ≤ j.r ∧ j.r ≤ 4294967295) ∧ 8 - j.i < 8 - i.i ∧ [(true, LOut.mk (AX.exit 2) [(0, AV.msl 0 0 0 j.bs.length j.c), (3, nU (movedSteps (8 - j.i) j.r)), (4, nI (↑j.k : Int))] 1 [(0, bR
  j.bs)])] = [(true, LOut.mk (AX.exit 2) [(0, AV.msl 0 0 0 i.bs.length i.c), (3, nU (movedSteps (8 - i.i) i.r)), (4, nI (↑i.k : Int))] 1 [(0, bR i.bs)])] ∧ (AV.msl 0 0 0 i.bs.length i.c = AV.msl 0 0 0 j.bs.length j.c ∧ nU (IntKind.u32.wrap (i.r.tdiv 2)) = nU j.r ∧ nI (↑i.k : Int) = nI (↑j.k : Int) ∧ nI (IntKind.i64.wrap ((↑i.i : Int) + 1)) = nI (↑j.i : Int) ∧ True) ∧ bR i.bs = bR j.bs ∧ True)) ((AV.msl 0 0 0 i.bs.length i.c = AV.msl 0 0 0 i.bs.length i.c ∧ nU i.r = nU (movedSteps (8 - i.i) i.r) ∧ nI (↑i.k : Int) = nI (↑i.k : Int) ∧ True) ∧ bR i.bs = bR i.bs ∧ True)
theorem ri_c_e (i : RiI) : some (ri_c_V i) = (some ((riL Go.Proofs.Tryz.prog).body sp Go.Proofs.Tryz.prog noBaseK (drP sp Go.Proofs.Tryz.prog noBaseK) noLo 40 i)) := by kernel_rfl
theorem ri_ok : (riL Go.Proofs.Tryz.prog).OK Go.Proofs.Tryz.prog := by
  refine Lp.ok_of (noBaseK_ok _) (drP_ok hmix _ (noBaseK_ok _)) (noLo_ok _) (by decide) 40 (fun i hi => ?_)
  rw [← Option.some.inj (ri_c_e i)]
  obtain ⟨h1, h2, h3⟩ := hi
  have hm := movedStep_range h2 h3
  unfold ri_c_V
  by_cases h : i.i < 8
  · have hw : IntKind.i64.wrap ((i.i : Int) + 1) = ((i.i + 1 : Nat) : Int) := by rw [IntWalk.i64_in _ (by omega)]; rfl
    have hs : 8 - i.i = (8 - (i.i + 1)) + 1 := by omega
    have t2 : i.r.tmod 2 = i.r % 2 := Int.tmod_eq_emod_of_nonneg h2
    refine spT (by simp; omega) (spI (fun g => ?_) (fun g => ?_))
    · have e : bits .xor .u32 (IntKind.wrap .u32 (i.r.tdiv 2)) 3988292384 = movedStep i.r := by
        unfold movedStep
        rw [if_pos (by rw [and_one h2 h3]; simpa [t2] using g), half h2 h3]
      refine ⟨⟨i.bs, i.c, i.k, movedStep i.r, i.i + 1⟩, ⟨h, hm⟩, by show 8 - (i.i + 1) < 8 - i.i; omega, ?_, ⟨rfl, by rw [e], rfl, by rw [hw], trivial⟩, rfl, trivial⟩
      rw [hs]; rfl
    · have e : IntKind.wrap .u32 (i.r.tdiv 2) = movedStep i.r := by
        unfold movedStep
        rw [if_neg (by rw [and_one h2 h3]; simpa [t2] using g), half h2 h3]
      refine ⟨⟨i.bs, i.c, i.k, movedStep i.r, i.i + 1⟩, ⟨h, hm⟩, by show 8 - (i.i + 1) < 8 - i.i; omega, ?_, ⟨rfl, by rw [e], rfl, by rw [hw], trivial⟩, rfl, trivial⟩
      rw [hs]; rfl
  · have e : 8 - i.i = 0 := by omega
    refine spF (by simp; omega) ⟨⟨rfl, ?_, rfl, trivial⟩, rfl, trivial⟩
    rw [e]; rfl
def ro_c_V (i : RoI) : Prop :=
  sp (decide ((↑i.k : Int) < (↑i.bs.length : Int))) (sp (decide ((↑i.k : Int) < (↑i.bs.length : Int)) && true) (sp (decide (0 + (↑i.k : Int).toNat + 0 < i.bs.length)) (same ((loopsIn (loopOf Proofs.Tryz.prog F_mummerref29_Sum 0)).getD 0 Code.skip) ((loopsIn (loopOf Proofs.Tryz.prog F_mummerref29_Sum 0)).getD 0 Code.skip) ∧ (0 ≤ 8 ∧ 0 ≤ bits BinOp.xor IntKind.u32 i.r (IntKind.u32.wrap (i.bs.getD (0 + (↑i.k : Int).toNat + 0) 0)) ∧ bits BinOp.xor IntKind.u32 i.r (IntKind.u32.wrap (i.bs.getD (0 + (↑i.k : Int).toNat + 0) 0)) ≤ 4294967295) ∧ ((AV.msl 0 0 0 i.bs.length i.c = AV.msl 0 0 0 i.bs.length i.c ∧ nU (bits BinOp.xor IntKind.u32 i.r (IntKind.u32.wrap (i.bs.getD (0 + (↑i.k : Int).toNat + 0) 0))) = nU (bits BinOp.xor IntKind.u32 i.r (IntKind.u32.wrap (i.bs.getD (0 + (↑i.k : Int).toNat + 0) 0))) ∧ nI (↑i.k : Int) = nI (↑(↑i.k : Int).toNat : Int) ∧ nI 0 = nI 0 ∧ True) ∧ bR i.bs = bR i.bs ∧
  True) ∧ ∃ (j : RoI), (j.k ≤ j.bs.length ∧ j.bs.length ≤ 140737488355328 ∧ 0 ≤ j.r ∧ j.r ≤ 4294967295) ∧ j.bs.length - j.k < i.bs.length - i.k ∧ [(true, LOut.mk (AX.exit 0) [(3, nU (sumR j.r (List.drop j.k j.bs)))] 1 [(0, bR j.bs)])] = [(true, LOut.mk (AX.exit 0) [(3, nU (sumR i.r (List.drop i.k i.bs)))] 1 [(0, bR i.bs)])] ∧ (AV.msl 0 0 0 i.bs.length i.c = AV.msl 0 0 0 j.bs.length j.c ∧ nU (movedSteps 8 (bits BinOp.xor IntKind.u32 i.r (IntKind.u32.wrap (i.bs.getD (0 + (↑i.k : Int).toNat + 0) 0)))) = nU j.r ∧ nI (IntKind.i64.wrap ((↑(↑i.k : Int).toNat : Int) + 1)) = nI (↑j.k : Int) ∧ True) ∧ bR i.bs = bR j.bs ∧ True) False) False) ((nU i.r = nU (sumR i.r (List.drop i.k i.bs)) ∧ True) ∧ bR i.bs = bR i.bs ∧ True)
theorem ro_c_e (i : RoI) : some (ro_c_V i) = (some ((roL Go.Proofs.Tryz.prog).body sp Go.Proofs.Tryz.prog noBaseK (drP sp Go.Proofs.Tryz.prog noBaseK) ((riL Go.Proofs.Tryz.prog).lo sp Go.Proofs.Tryz.prog (isLoop 7) ((loopsIn (loopOf Go.Proofs.Tryz.prog F_mummerref29_Sum 0)).getD 0 .skip)) 40 i)) := by kernel_rfl
theorem ro_ok : (roL Go.Proofs.Tryz.prog).OK Go.Proofs.Tryz.prog := by
  refine Lp.ok_of (noBaseK_ok _) (drP_ok hmix _ (noBaseK_ok _)) (Lp.lo_ok (id := isLoop 7) (nm := (loopsIn (loopOf Go.Proofs.Tryz.prog F_mummerref29_Sum 0)).getD 0 .skip) ri_ok rfl) (by decide) 40 (fun i hi => ?_)
  rw [← Option.some.inj (ro_c_e i)]
  obtain ⟨h1, h2, h3, h4⟩ := hi
  unfold ro_c_V
  by_cases h : i.k < i.bs.length
  · have hw : IntKind.i64.wrap ((i.k : Int) + 1) = ((i.k + 1 : Nat) : Int) := by rw [IntWalk.i64_in _ (by omega)]; rfl
    have e1 : i.bs.drop i.k = i.bs[i.k] :: i.bs.drop (i.k + 1) := List.drop_eq_getElem_cons h
    have eg : i.bs.getD (0 + (i.k : Int).toNat + 0) 0 = i.bs[i.k] := by simp [h]
    have hr := movedSteps_range 8 (u32_bits .xor i.r (IntKind.wrap .u32 i.bs[i.k])).1 (u32_bits .xor i.r (IntKind.wrap .u32 i.bs[i.k])).2
    rw [eg]
    refine spT (by simp; omega) (spT (by simp; omega) (spT (by simp; omega) ⟨rfl, ⟨by decide, u32_bits _ _ _⟩, ⟨⟨rfl, rfl, by simp, rfl, trivial⟩, rfl, trivial⟩, ⟨⟨i.bs, i.c, movedN i.r i.bs[i.k], i.k + 1⟩, ⟨h, h2, hr⟩, by show i.bs.length - (i.k + 1) < i.bs.length - i.k; omega, ?_, ⟨rfl, rfl, ?_, trivial⟩, rfl, trivial⟩⟩))
    · rw [e1]; rfl
    · rw [Int.toNat_natCast, hw]
  · have e1 : i.bs.drop i.k = [] := List.drop_eq_nil_of_le (by omega)
    refine spF (by simp; omega) ⟨⟨?_, trivial⟩, rfl, trivial⟩
    rw [e1]; rfl
def rsum_c_V (x : Row) : Prop :=
  same (loopOf Proofs.Tryz.prog F_mummerref29_Sum 0) (loopOf Proofs.Tryz.prog F_mummerref29_Sum 0) ∧ (0 ≤ x.bs.length ∧ x.bs.length ≤ 140737488355328 ∧ (0 : Int) ≤ 4294967295 ∧ (4294967295 : Int) ≤ 4294967295) ∧ ((AV.msl 0 0 0 x.bs.length x.c = AV.msl 0 0 0 x.bs.length x.c ∧ nU 4294967295 = nU 4294967295 ∧ nI 0 = nI 0 ∧ True) ∧ bR x.bs = bR x.bs ∧ True) ∧ ∃ (y : Unit), True ∧ [nU (IntKind.u32.wrap (4294967295 - sumR 4294967295 (List.drop 0 x.bs)))] = [nU (sumB x.bs)] ∧ bR x.bs = bR x.bs ∧ True
theorem rsum_c_e (x : Row) : some (rsum_c_V x) = (rsumC.cond sp Go.Proofs.Tryz.prog (drP sp Go.Proofs.Tryz.prog) (forF F_mummerref29_Sum ((roL Go.Proofs.Tryz.prog).lo sp Go.Proofs.Tryz.prog (isLoop 3) (loopOf Go.Proofs.Tryz.prog F_mummerref29_Sum 0)) noLoops) noBaseK 40 2 x) := by kernel_rfl
theorem rsum_ok : rsumC.OK Go.Proofs.Tryz.prog := by
  refine Con.by hmix (forF_ok (Lp.lo_ok ro_ok rfl) (noLoops_ok _)) (noBaseK_ok _) rsum_c_V rsum_c_e (fun x hx => ?_)
  have hr := sumR_range x.bs (r := 4294967295) (by decide) (by decide)
  unfold rsum_c_V
  refine ⟨rfl, ⟨Nat.zero_le _, hx, by decide, by decide⟩, ⟨⟨rfl, rfl, rfl, trivial⟩, rfl, trivial⟩, ⟨(), trivial, ?_, rfl, trivial⟩⟩
  rw [List.drop_zero, not_xor hr.1 hr.2]
  rfl
def seA_c_V (bs : List Int) (c : Nat) (k : Nat) : Prop :=
  sp (decide ((↑k : Int) < (↑bs.length : Int))) (sp (decide ((↑k : Int) < (↑bs.length : Int)) && true) (sp (decide (0 + (↑k : Int).toNat + 0 < bs.length)) (sp (decide (0 + k ≤ (List.take k bs).length) && true && true && true && true && decide ((k + 1) * 1 ≤ 140737488355328) && decide (k + 1 ≤ 9223372036854775807)) (∃ (j : SeI), (j.k ≤ j.bs.length ∧ j.bs.length ≤ 140737488355324 ∧ (true = true → 1 ≤ j.k) ∧ (true = false → j.k = 0)) ∧ j.bs.length - j.k < bs.length - k ∧ [(decide (j.bs.length = 0), LOut.mk (AX.exit 0) [(0, AV.msl 0 0 0 j.bs.length j.c), (3, AV.nils)] 2 [(0, bR j.bs)]), (true, LOut.mk (AX.exit 0) [(0, AV.msl 0 0 0 j.bs.length j.c), (3, AV.sl 1 0 0 j.bs.length j.bs.length false)] 2 [(0, bR j.bs), (1, bW j.bs)])] = [(decide (bs.length = 0), LOut.mk (AX.exit 0) [(0, AV.msl 0 0 0 bs.length c), (3, AV.nils)] 2 [(0, bR bs)]), (true, LOut.mk (AX.exit 0) [(0, AV.msl 0 0 0 bs.length c),
  (3, AV.sl 1 0 0 bs.length bs.length false)] 2 [(0, bR bs), (1, bW bs)])] ∧ (AV.msl 0 0 0 bs.length c = AV.msl 0 0 0 j.bs.length j.c ∧ AV.sl 3 0 0 (k + 1) (k + 1) false = AV.sl 3 0 0 j.k j.k false ∧ nI (IntKind.i64.wrap ((↑k : Int) + 1)) = nI (↑j.k : Int) ∧ True) ∧ bR bs = bR j.bs ∧ bW ((List.take k (List.drop 0 (List.take k bs)) ++ List.take 1 (List.drop 0 [bs.getD (0 + (↑k : Int).toNat + 0) 0]))) = bW ((List.take j.k j.bs)) ∧ True) False) False) False) (sp (decide (bs.length = 0)) ((AV.msl 0 0 0 bs.length c = AV.msl 0 0 0 bs.length c ∧ AV.sl 1 0 0 k k false = AV.nils ∧ True) ∧ bR bs = bR bs ∧ True) ((AV.msl 0 0 0 bs.length c = AV.msl 0 0 0 bs.length c ∧ AV.sl 1 0 0 k k false = AV.sl 1 0 0 bs.length bs.length false ∧ True) ∧ bR bs = bR bs ∧ bW ((List.take k bs)) = bW bs ∧ True))
theorem seA_c_e (bs : List Int) (c : Nat) (k : Nat) : some (seA_c_V bs c k) = (some ((seL Go.Proofs.Tryz.prog).body sp Go.Proofs.Tryz.prog noBaseK (drP sp Go.Proofs.Tryz.prog noBaseK) noLo 40 ⟨bs, c, k, true⟩)) := by kernel_rfl
def seB_c_V (bs : List Int) (c : Nat) : Prop :=
  sp (decide (0 < (↑bs.length : Int))) (sp (decide (0 < (↑bs.length : Int)) && true) (sp (decide (0 < bs.length)) (∃ (j : SeI), (j.k ≤ j.bs.length ∧ j.bs.length ≤ 140737488355324 ∧ (true = true → 1 ≤ j.k) ∧ (true = false → j.k = 0)) ∧ j.bs.length - j.k < bs.length - 0 ∧ [(decide (j.bs.length = 0), LOut.mk (AX.exit 0) [(0, AV.msl 0 0 0 j.bs.length j.c), (3, AV.nils)] 2 [(0, bR j.bs)]), (true, LOut.mk (AX.exit 0) [(0, AV.msl 0 0 0 j.bs.length j.c), (3, AV.sl 1 0 0 j.bs.length j.bs.length false)] 2 [(0, bR j.bs), (1, bW j.bs)])] = [(decide (bs.length = 0), LOut.mk (AX.exit 0) [(0, AV.msl 0 0 0 bs.length c), (3, AV.nils)] 2 [(0, bR bs)]), (true, LOut.mk (AX.exit 0) [(0, AV.msl 0 0 0 bs.length c), (3, AV.sl 1 0 0 bs.length bs.length false)] 2 [(0, bR bs), (1, bW bs)])] ∧ (AV.msl 0 0 0 bs.length c = AV.msl 0 0 0 j.bs.length j.c ∧ AV.sl 3 0 0 1 1 false = AV.sl 3 0 0 j.k j.k false ∧ nI 1 = nI (↑j.k
  : Int) ∧ True) ∧ bR bs = bR j.bs ∧ bW ((List.take 1 (List.drop 0 [bs.getD 0 0]))) = bW ((List.take j.k j.bs)) ∧ True) False) False) (sp (decide (bs.length = 0)) ((AV.msl 0 0 0 bs.length c = AV.msl 0 0 0 bs.length c ∧ AV.nils = AV.nils ∧ True) ∧ bR bs = bR bs ∧ True) ((AV.msl 0 0 0 bs.length c = AV.msl 0 0 0 bs.length c ∧ AV.nils = AV.sl 2 0 0 bs.length bs.length false ∧ True) ∧ bR bs = bR bs ∧ False ∧ True))
theorem seB_c_e (bs : List Int) (c : Nat) : some (seB_c_V bs c) = (some ((seL Go.Proofs.Tryz.prog).body sp Go.Proofs.Tryz.prog noBaseK (drP sp Go.Proofs.Tryz.prog noBaseK) noLo 40 ⟨bs, c, 0, false⟩)) := by kernel_rfl
theorem se_ok : (seL Go.Proofs.Tryz.prog).OK Go.Proofs.Tryz.prog := by
  refine Lp.ok_of (noBaseK_ok _) (drP_ok hmix _ (noBaseK_ok _)) (noLo_ok _) (by decide) 40 (fun i hi => ?_)
  obtain ⟨bs, c, k, s⟩ := i
  obtain ⟨h1, h2, h3, h4⟩ := hi
  have h1 : k ≤ bs.length := h1
  have h2 : bs.length ≤ 140737488355324 := h2
  cases s with
  | true =>
    rw [← Option.some.inj (seA_c_e bs c k)]
    have h3 : 1 ≤ k := h3 rfl
    unfold seA_c_V
    by_cases h : k < bs.length
    · have hw : IntKind.i64.wrap ((k : Int) + 1) = ((k + 1 : Nat) : Int) := by rw [IntWalk.i64_in _ (by omega)]; rfl
      refine spT (by simp; omega) (spT (by simp; omega) (spT (by simp; omega) (spT (by simp; omega) ⟨⟨bs, c, k + 1, true⟩, ⟨h, h2, (fun _ => Nat.le_add_left 1 k), fun e => (by cases e)⟩, by show bs.length - (k + 1) < bs.length - k; omega, rfl, ⟨rfl, rfl, by rw [hw], trivial⟩, rfl, ?_, trivial⟩)))
      have : List.take k (List.drop 0 (List.take k bs)) ++ List.take 1 (List.drop 0 [bs.getD (0 + (k : Int).toNat + 0) 0]) = List.take (k + 1) bs := by
        rw [List.drop_zero, List.drop_zero, List.take_take, Nat.min_self, Int.toNat_natCast, Nat.zero_add, Nat.add_zero, List.take_succ_eq_append_getElem h]
        congr 1
        simp [h]
      rw [this]
    · have e : k = bs.length := by omega
      subst e
      refine spF (by simp) (spF (by simp; intro q; rw [q] at h3; simp at h3) ⟨⟨rfl, rfl, trivial⟩, rfl, ?_, trivial⟩)
      rw [List.take_length]
  | false =>
    have h4 : k = 0 := h4 rfl
    subst h4
    rw [← Option.some.inj (seB_c_e bs c)]
    unfold seB_c_V
    cases bs with
    | nil => exact spF (by simp) (spT (by simp) ⟨⟨rfl, rfl, trivial⟩, rfl, trivial⟩)
    | cons b bs =>
      refine spT (by simp) (spT (by simp) (spT (by simp) ⟨⟨b :: bs, c, 1, true⟩, ⟨by simp, h2, (fun _ => Nat.le_refl 1), fun e => (by cases e)⟩, by show (b :: bs).length - 1 < (b :: bs).length - 0; simp, rfl, ⟨rfl, rfl, rfl, trivial⟩, rfl, ?_, trivial⟩))
      simp
def rseal_c_V (x : Row) : Prop :=
  same (loopOf Proofs.Tryz.prog F_mummerref29_Sealed 0) (loopOf Proofs.Tryz.prog F_mummerref29_Sealed 0) ∧ (0 ≤ x.bs.length ∧ x.bs.length ≤ 140737488355324 ∧ (false = true → 1 ≤ 0) ∧ (false = false → 0 = 0)) ∧ ((AV.msl 0 0 0 x.bs.length x.c = AV.msl 0 0 0 x.bs.length x.c ∧ AV.nils = AV.nils ∧ nI 0 = nI 0 ∧ True) ∧ bR x.bs = bR x.bs ∧ True) ∧ sp (decide (x.bs.length = 0)) (x.bs.length.le 140737488355328 ∧ [] ++ [AV.msl 0 0 0 x.bs.length x.c] ++ [] = [AV.msl 0 0 0 x.bs.length x.c] ∧ (some (bR x.bs) = some (bR x.bs) ∧ True) ∧ (∀ (y : Unit), True → ∃ (y : Unit), True ∧ [AV.sl 9 0 0 4 4 false] = [AV.sl 9 0 0 (sealB x.bs).length (sealB x.bs).length false] ∧ bR x.bs = bR x.bs ∧ bW ((List.take 3 (List.drop 0 (List.take 2 (List.drop 0 (List.take 1 (List.drop 0 (List.take 1 (List.drop 0 [IntKind.u8.wrap ((sumB x.bs).tmod 256)]))) ++ List.take 1 (List.drop 0 [IntKind.u8.wrap ((IntKind.u32.wrap ((sumB
  x.bs).tdiv 256)).tmod 256)]))) ++ List.take 1 (List.drop 0 [IntKind.u8.wrap ((IntKind.u32.wrap ((IntKind.u32.wrap ((sumB x.bs).tdiv 256)).tdiv 256)).tmod 256)]))) ++ List.take 1 (List.drop 0 [IntKind.u8.wrap ((IntKind.u32.wrap ((IntKind.u32.wrap ((IntKind.u32.wrap ((sumB x.bs).tdiv 256)).tdiv 256)).tdiv 256)).tmod 256)]))) = bW ((sealB x.bs)) ∧ True) ∧ True) (x.bs.length.le 140737488355328 ∧ [] ++ [AV.msl 0 0 0 x.bs.length x.c] ++ [] = [AV.msl 0 0 0 x.bs.length x.c] ∧ (some (bR x.bs) = some (bR x.bs) ∧ True) ∧ (∀ (y : Unit), True → sp (decide (0 + x.bs.length ≤ x.bs.length) && true && true && true && true && decide ((x.bs.length + 1) * 1 ≤ 140737488355328) && decide (x.bs.length + 1 ≤ 9223372036854775807)) (sp (decide (0 + (x.bs.length + 1) ≤ (List.take x.bs.length (List.drop 0 x.bs) ++ List.take 1 (List.drop 0 [IntKind.u8.wrap ((sumB x.bs).tmod 256)])).length) && true && true && true &&
  true && decide ((x.bs.length + 1 + 1) * 1 ≤ 140737488355328) && decide (x.bs.length + 1 + 1 ≤ 9223372036854775807)) (sp (decide (0 + (x.bs.length + 1 + 1) ≤ (List.take (x.bs.length + 1) (List.drop 0 (List.take x.bs.length (List.drop 0 x.bs) ++ List.take 1 (List.drop 0 [IntKind.u8.wrap ((sumB x.bs).tmod 256)]))) ++ List.take 1 (List.drop 0 [IntKind.u8.wrap ((IntKind.u32.wrap ((sumB x.bs).tdiv 256)).tmod 256)])).length) && true && true && true && true && decide ((x.bs.length + 1 + 1 + 1) * 1 ≤ 140737488355328) && decide (x.bs.length + 1 + 1 + 1 ≤ 9223372036854775807)) (sp (decide (0 + (x.bs.length + 1 + 1 + 1) ≤ (List.take (x.bs.length + 1 + 1) (List.drop 0 (List.take (x.bs.length + 1) (List.drop 0 (List.take x.bs.length (List.drop 0 x.bs) ++ List.take 1 (List.drop 0 [IntKind.u8.wrap ((sumB x.bs).tmod 256)]))) ++ List.take 1 (List.drop 0 [IntKind.u8.wrap ((IntKind.u32.wrap ((sumB x.bs).tdiv
  256)).tmod 256)]))) ++ List.take 1 (List.drop 0 [IntKind.u8.wrap ((IntKind.u32.wrap ((IntKind.u32.wrap ((sumB x.bs).tdiv 256)).tdiv 256)).tmod 256)])).length) && true && true && true && true && decide ((x.bs.length + 1 + 1 + 1 + 1) * 1 ≤ 140737488355328) && decide (x.bs.length + 1 + 1 + 1 + 1 ≤ 9223372036854775807)) (∃ (y : Unit), True ∧ [AV.sl 9 0 0 (x.bs.length + 1 + 1 + 1 + 1) (x.bs.length + 1 + 1 + 1 + 1) false] = [AV.sl 9 0 0 (sealB x.bs).length (sealB x.bs).length false] ∧ bR x.bs = bR x.bs ∧ bW ((List.take (x.bs.length + 1 + 1 + 1) (List.drop 0 (List.take (x.bs.length + 1 + 1) (List.drop 0 (List.take (x.bs.length + 1) (List.drop 0 (List.take x.bs.length (List.drop 0 x.bs) ++ List.take 1 (List.drop 0 [IntKind.u8.wrap ((sumB x.bs).tmod 256)]))) ++ List.take 1 (List.drop 0 [IntKind.u8.wrap ((IntKind.u32.wrap ((sumB x.bs).tdiv 256)).tmod 256)]))) ++ List.take 1 (List.drop 0
  [IntKind.u8.wrap ((IntKind.u32.wrap ((IntKind.u32.wrap ((sumB x.bs).tdiv 256)).tdiv 256)).tmod 256)]))) ++ List.take 1 (List.drop 0 [IntKind.u8.wrap ((IntKind.u32.wrap ((IntKind.u32.wrap ((IntKind.u32.wrap ((sumB x.bs).tdiv 256)).tdiv 256)).tdiv 256)).tmod 256)]))) = bW ((sealB x.bs)) ∧ True) False) False) False) False) ∧ True)
theorem rseal_c_e (x : Row) : some (rseal_c_V x) = (rsealC.cond sp Go.Proofs.Tryz.prog (drP sp Go.Proofs.Tryz.prog) (forF F_mummerref29_Sealed ((seL Go.Proofs.Tryz.prog).lo sp Go.Proofs.Tryz.prog (isLoop 3) (loopOf Go.Proofs.Tryz.prog F_mummerref29_Sealed 0)) noLoops) (rsumC.orc sp) 40 2 x) := by kernel_rfl
theorem rseal_ok : rsealC.OK Go.Proofs.Tryz.prog := by
  refine Con.by hmix (forF_ok (Lp.lo_ok se_ok rfl) (noLoops_ok _)) (Con.orc_ok rsum_ok) rseal_c_V rseal_c_e (fun x hx => ?_)
  have hx : x.bs.length ≤ 140737488355324 := hx
  have hle : x.bs.length.le 140737488355328 := (by omega : x.bs.length ≤ 140737488355328)
  have hs := sumB_range x.bs
  unfold rseal_c_V sealB
  generalize sumB x.bs = s at hs
  obtain ⟨h0, h1⟩ := hs
  have t1 : IntKind.wrap .u32 (s.tdiv 256) = s / 256 := by rw [Int.tdiv_eq_ediv_of_nonneg h0, IntKind.wrap_u32]; omega
  have t2 : IntKind.wrap .u32 ((s / 256).tdiv 256) = s / 65536 := by rw [Int.tdiv_eq_ediv_of_nonneg (by omega), IntKind.wrap_u32]; omega
  have t3 : IntKind.wrap .u32 ((s / 65536).tdiv 256) = s / 16777216 := by rw [Int.tdiv_eq_ediv_of_nonneg (by omega), IntKind.wrap_u32]; omega
  have m : ∀ z : Int, 0 ≤ z → IntKind.wrap .u8 (z.tmod 256) = IntKind.wrap .u8 z := fun z hz => by
    rw [Int.tmod_eq_emod_of_nonneg hz, IntKind.wrap_u8, IntKind.wrap_u8]; omega
  rw [Int.fdiv_eq_ediv_of_nonneg _ (by decide : (0 : Int) ≤ 256), Int.fdiv_eq_ediv_of_nonneg _ (by decide : (0 : Int) ≤ 65536), Int.fdiv_eq_ediv_of_nonneg _ (by decide : (0 : Int) ≤ 16777216)]
  rw [t1, t2, t3, m s h0, m (s / 256) (by omega), m (s / 65536) (by omega), m (s / 16777216) (by omega)]
  refine ⟨rfl, ⟨Nat.zero_le _, hx, (fun e => by cases e), fun _ => rfl⟩, ⟨⟨rfl, rfl, rfl, trivial⟩, rfl, trivial⟩, spI (fun h => ?_) (fun h => ?_)⟩
  · have h : x.bs.length = 0 := of_decide_eq_true h
    have hb : x.bs = [] := List.length_eq_zero_iff.1 h
    refine ⟨hle, rfl, ⟨rfl, trivial⟩, fun _ _ => ⟨(), trivial, ?_, rfl, ?_, trivial⟩, trivial⟩
    · simp [hb]
    · simp [hb]
  · have h : ¬ x.bs.length = 0 := of_decide_eq_false h
    refine ⟨hle, rfl, ⟨rfl, trivial⟩, fun _ _ => spT (by simp; omega) (spT (by simp; omega) (spT (by simp; omega) (spT (by simp; omega) ⟨(), trivial, ?_, rfl, ?_, trivial⟩))), trivial⟩
    · simp
    · simp [List.take_append, List.take_of_length_le]
end Go.Proofs.YtmbcpmbpkdeioaaGreatDoor.W
/- A row of bytes that came in: what is known of it. No condition. -/
namespace Go.Proofs.YtmbcpmbpkdeioaaGreatDoor.W
open Go Go.RowKit Go.Eng
set_option maxRecDepth 100000
set_option linter.unusedVariables false
set_option linter.unusedSimpArgs false
theorem u8_range {n : Int} (h : IntKind.u8.min ≤ n ∧ n ≤ IntKind.u8.max) : 0 ≤ n ∧ n < 256 := by
  have h1 : IntKind.u8.min = 0 := rfl
  have h2 : IntKind.u8.max = 255 := rfl
  omega
section
variable {H : Type} {enc : TypeId × Value → H} {W : World}
/-- A row of bytes that came in. -/
theorem bytes_in {t e : TypeId} {c : Value} (hu : (Go.Proofs.Tryz.prog).underlying t = some (.slice e)) (he : (Go.Proofs.Tryz.prog).underlying e = some (.int .u8)) (hc : (Go.Proofs.Tryz.prog).cellsOf e = 1) (hb : (Go.Proofs.Tryz.prog).bytesOf e = 1) (h : LTyped enc Go.Proofs.Tryz.prog W 0 (fun _ => true) true (.sl t) c) : ∃ r : Row, SlIn W 1 c r.bs.length r.c (.ints .u8 r.bs) ∧ r.bs.length ≤ r.c ∧ r.c ≤ 140737488351232 ∧ IsBytes r.bs := by
  obtain ⟨l, cap, h1, h2, h3, h4⟩ := slIn_ints h hu he hc
  rw [hb] at h3
  exact ⟨⟨l, cap⟩, h1, h2, by simpa [reachBytes] using h3, fun x hx => u8_range (h4 x hx)⟩
end
end Go.Proofs.YtmbcpmbpkdeioaaGreatDoor.W
/- The law FileOnce: what is reckoned. No condition. -/
namespace Go.Proofs.YtmbcpmbpkdeioaaGreatDoor.W
open Go Go.RowKit Go.Eng
set_option maxRecDepth 100000
set_option linter.unusedVariables false
set_option linter.unusedSimpArgs false
/-! ### two guests of which nothing is there -/
def down12 : Nat → Nat := fun b => b - 12
def bytes0C : Con ByteArray Unit where
  f := F_judge_bytes
  fit vs H := match vs with
    | [.str nm, .nils, .nils] => some ([], nm)
    | _ => none
  n0 := 0
  pre _ := True
  args nm := [.str nm, .nils, .nils]
  L0 _ := []
  outs nm := [(fun _ => True, fun _ => (.ret (.agg [.str nm, .bool false, .fn (.func F_judge_bytes_1) [] [.ptr 3 0 0, .ptr 0 0 0, .ptr 1 0 0]]), 4, []))]
def nils2 (vs : List AV) : Option (List Nat × Unit) := match vs with
  | [.nils, .nils] => some ([], ())
  | _ => none
def notes0C : Con Unit Unit where
  f := F_judge_Notes
  fit vs _ := nils2 vs
  n0 := 0
  pre _ := True
  args _ := [.nils, .nils]
  L0 _ := []
  outs _ := [(fun _ => True, fun _ => (.ret (.int .i64 (-1)), 0, []))]
def events0C : Con Unit Unit := { notes0C with f := F_judge_Events }
def zz (vs : List AV) : Option (List Nat × Unit) := match vs with
  | [.agg _, .agg _] => some ([], ())
  | _ => none
def devices0C : Con Unit Unit where
  f := F_judge_devices
  fit vs _ := match vs with
    | [.agg _] => some ([], ())
    | _ => none
  n0 := 0
  pre _ := True
  args _ := [.agg zeroSv]
  L0 _ := []
  outs _ := [(fun _ => True, fun _ => (.ret (.agg [.int .u32 0, .int .u32 0, .int .u32 0, .int .u32 0, .int .u32 0, .int .u32 0, .int .u32 0, .int .u32 0]), 2, []))]
def part0C : Con Unit Unit where
  f := F_judge_parts
  fit vs _ := zz vs
  n0 := 0
  pre _ := True
  args _ := [.agg zeroSv, .agg zeroSv]
  L0 _ := []
  outs _ := [(fun _ => True, fun _ => (.ret (.sl 0 0 0 10 10 true), 21, [(0, ⟨true, 3, .cells (AV.rens down12 partsAV)⟩)]))]
def tell0C : Con Unit Unit where
  f := F_judge_Tell
  fit vs _ := zz vs
  n0 := 0
  pre _ := True
  args _ := [.agg zeroSv, .agg zeroSv]
  L0 _ := []
  outs _ := [(fun _ => True, fun _ => (.ret (.str ⟨#[]⟩), 0, []))]
/-! ### a row that is not there -/
def none1 (vs : List AV) : Option (List Nat × Unit) := match vs with
  | [.msl b 0 0 0 0] => some ([b], ())
  | _ => none
def rseal0C : Con Unit Unit where
  f := F_mummerref29_Sealed
  fit vs _ := none1 vs
  n0 := 1
  pre _ := True
  args _ := [.msl 0 0 0 0 0]
  L0 _ := []
  outs _ := [(fun _ => True, fun _ => (.ret (.sl 1 0 0 4 4 false), 2, [(1, ⟨true, 1, .ints .u8 (sealB [])⟩)]))]
def open0C : Con Unit Unit where
  f := F_wire_Open
  fit vs _ := none1 vs
  n0 := 1
  pre _ := True
  args _ := [.msl 0 0 0 0 0]
  L0 _ := []
  outs _ := [(fun _ => True, fun _ => (.ret (.tup [.nils, .int .i64 290]), 1, []))]
def dec0C : Con Unit Unit where
  f := F_file_Decode
  fit vs _ := none1 vs
  n0 := 1
  pre _ := True
  args _ := [.msl 0 0 0 0 0]
  L0 _ := []
  outs _ := [(fun _ => True, fun _ => (.ret (.tup [.agg zeroSv, .int .i64 290]), 1, []))]
end Go.Proofs.YtmbcpmbpkdeioaaGreatDoor.W
/- The law FileOnce: the walks of what is not there. No condition. -/
namespace Go.Proofs.YtmbcpmbpkdeioaaGreatDoor.W
open Go Go.RowKit Go.Eng
set_option maxRecDepth 100000
set_option linter.unusedVariables false
set_option linter.unusedSimpArgs false
def bytes0_c_V (x : ByteArray) : Prop :=
  ∃ (y : Unit), True ∧ [AV.agg [AV.str x, AV.bool false, AV.fn (Fn.func 63) [] [AV.ptr 5 0 0, AV.ptr 0 0 0, AV.ptr 1 0 0]]] = [AV.agg [AV.str x, AV.bool false, AV.fn (Fn.func F_judge_bytes_1) [] [AV.ptr 5 0 0, AV.ptr 0 0 0, AV.ptr 1 0 0]]] ∧ True
theorem bytes0_c_e (x : ByteArray) : some (bytes0_c_V x) = (bytes0C.cond sp Go.Proofs.Tryz.prog (drP sp Go.Proofs.Tryz.prog) noLoops (vF sp Go.Proofs.Tryz.prog (drP sp Go.Proofs.Tryz.prog) noLoops noBaseK 40 3) 40 2 x) := by kernel_rfl
theorem bytes0_ok : bytes0C.OK Go.Proofs.Tryz.prog := by
  refine Con.by hmix (noLoops_ok _) (vF_ok (fun _ hk => drP_ok hmix _ hk) (noLoops_ok _) (noBaseK_ok _) 40 3) bytes0_c_V bytes0_c_e (fun _ _ => ?_)
  unfold bytes0_c_V
  exact ⟨(), trivial, rfl, trivial⟩
def notes0_c_V (x : Unit) : Prop :=
  ∃ (y : Unit), True ∧ [nI (-1)] = [nI (-1)] ∧ True
theorem notes0_c_e (x : Unit) : some (notes0_c_V x) = (notes0C.cond sp Go.Proofs.Tryz.prog (drP sp Go.Proofs.Tryz.prog) noLoops (vF sp Go.Proofs.Tryz.prog (drP sp Go.Proofs.Tryz.prog) noLoops noBaseK 40 3) 40 2 x) := by kernel_rfl
theorem notes0_ok : notes0C.OK Go.Proofs.Tryz.prog := by
  refine Con.by hmix (noLoops_ok _) (vF_ok (fun _ hk => drP_ok hmix _ hk) (noLoops_ok _) (noBaseK_ok _) 40 3) notes0_c_V notes0_c_e (fun _ _ => ?_)
  unfold notes0_c_V
  exact ⟨(), trivial, rfl, trivial⟩
def events0_c_V (x : Unit) : Prop :=
  ∃ (y : Unit), True ∧ [nI (-1)] = [nI (-1)] ∧ True
theorem events0_c_e (x : Unit) : some (events0_c_V x) = (events0C.cond sp Go.Proofs.Tryz.prog (drP sp Go.Proofs.Tryz.prog) noLoops (vF sp Go.Proofs.Tryz.prog (drP sp Go.Proofs.Tryz.prog) noLoops noBaseK 40 3) 40 2 x) := by kernel_rfl
theorem events0_ok : events0C.OK Go.Proofs.Tryz.prog := by
  refine Con.by hmix (noLoops_ok _) (vF_ok (fun _ hk => drP_ok hmix _ hk) (noLoops_ok _) (noBaseK_ok _) 40 3) events0_c_V events0_c_e (fun _ _ => ?_)
  unfold events0_c_V
  exact ⟨(), trivial, rfl, trivial⟩
def devices0_c_V (x : Unit) : Prop :=
  ∃ (y : Unit), True ∧ [AV.agg [nU 0, nU 0, nU 0, nU 0, nU 0, nU 0, nU 0, nU 0]] = [AV.agg [nU 0, nU 0, nU 0, nU 0, nU 0, nU 0, nU 0, nU 0]] ∧ True
theorem devices0_c_e (x : Unit) : some (devices0_c_V x) = (devices0C.cond sp Go.Proofs.Tryz.prog (drP sp Go.Proofs.Tryz.prog) noLoops noBaseK 40 2 x) := by kernel_rfl
theorem devices0_ok : devices0C.OK Go.Proofs.Tryz.prog := by
  refine Con.by hmix (noLoops_ok _) (noBaseK_ok _) devices0_c_V devices0_c_e (fun _ _ => ?_)
  unfold devices0_c_V
  exact ⟨(), trivial, rfl, trivial⟩
abbrev part0_c_p0 (x : Unit) : List AV :=
  [AV.agg [nU 0, nU 0, nU 0, nU 0, nU 0, nU 0, nU 0, nU 0, nU 0, nU 0, nU 0, nU 0, nU 0, nU 0, nU 0, nU 0, nU 0, nU 0, AV.bool false], AV.agg [nU 0, nU 0, nU 0, nU 0, nU 0, nU 0, nU 0, nU 0, nU 0, nU 0, nU 0, nU 0, nU 0, nU 0, nU 0, nU 0, nU 0, nU 0, AV.bool false]]
abbrev part0_c_p1 (x : Unit) : List AV :=
  [AV.agg [nI 0, AV.nils, nU 0, nU 0, nU 0, nU 0, nU 0, nU 0, nU 0, nU 0, nU 0, nU 0, nU 0, nU 0, nU 0, nU 0, nU 0, nU 0, nU 0, nU 0, AV.bool false, nI 0, AV.nils, AV.nils, AV.nils, AV.nils, AV.nils, nU 0, nU 0, nU 0, nU 0, nU 0, nU 0, nU 0, nU 0]]
abbrev part0_c_p2 (x : Unit) : List AV :=
  [AV.str (ByteArray.mk (Array.mk [113, 117, 101, 117, 101])), AV.nils, AV.nils]
abbrev part0_c_p3 (x : Unit) : List AV :=
  [AV.str (ByteArray.mk (Array.mk [102, 114, 97, 109, 101, 115])), nI 0, nI 0]
abbrev part0_c_p4 (x : Unit) : List AV :=
  [AV.str (ByteArray.mk (Array.mk [100, 105, 115, 107])), AV.nils, AV.nils]
abbrev part0_c_p5 (x : Unit) : List AV :=
  [AV.str (ByteArray.mk (Array.mk [115, 99, 114, 105, 112, 116])), nI (-1)]
def part0_c_V (x : Unit) : Prop :=
  True ∧ (part0_c_p3 x) = (part0_c_p3 x) ∧ True ∧ (∀ (y : Unit), True → True ∧ [AV.str (ByteArray.mk (Array.mk [115, 116, 101, 112, 115])), nI 0, nI 0] = [AV.str (ByteArray.mk (Array.mk [115, 116, 101, 112, 115])), nI 0, nI 0] ∧ True ∧ (∀ (y : Unit), True → True ∧ (part0_c_p0 x) = (part0_c_p0 x) ∧ True ∧ (∀ (y : Unit), True → True ∧ [AV.str (ByteArray.mk (Array.mk [109, 101, 109])), AV.nils, AV.nils] = [AV.str (ByteArray.mk (Array.mk [109, 101, 109])), AV.nils, AV.nils] ∧ True ∧ (∀ (y : Unit), True → True ∧ [AV.nils, AV.nils] = [AV.nils, AV.nils] ∧ True ∧ (∀ (y : Unit), True → True ∧ [AV.str (ByteArray.mk (Array.mk [110, 111, 116, 101, 115])), nI (-1)] = [AV.str (ByteArray.mk (Array.mk [110, 111, 116, 101, 115])), nI (-1)] ∧ True ∧ (∀ (y : Unit), True → True ∧ [AV.str (ByteArray.mk (Array.mk [111, 117, 116])), AV.nils, AV.nils] = [AV.str (ByteArray.mk (Array.mk [111, 117, 116])), AV.nils,
  AV.nils] ∧ True ∧ (∀ (y : Unit), True → True ∧ (part0_c_p4 x) = (part0_c_p4 x) ∧ True ∧ (∀ (y : Unit), True → True ∧ (part0_c_p2 x) = (part0_c_p2 x) ∧ True ∧ (∀ (y : Unit), True → True ∧ [AV.nils, AV.nils] = [AV.nils, AV.nils] ∧ True ∧ (∀ (y : Unit), True → True ∧ (part0_c_p5 x) = (part0_c_p5 x) ∧ True ∧ (∀ (y : Unit), True → True ∧ (part0_c_p1 x) = (part0_c_p1 x) ∧ True ∧ (∀ (y : Unit), True → True ∧ (part0_c_p1 x) = (part0_c_p1 x) ∧ True ∧ (∀ (y : Unit), True → ∃ (y : Unit), True ∧ [AV.sl 39 0 0 10 10 true] = [AV.sl 39 0 0 10 10 true] ∧ ABlk.mk true 3 (AC.cells [AV.str (ByteArray.mk (Array.mk [102, 114, 97, 109, 101, 115])), AV.bool false, AV.fn (Fn.func F_judge_numbers_1) [] [AV.ptr 2 0 0, AV.ptr 3 0 0], AV.str (ByteArray.mk (Array.mk [115, 116, 101, 112, 115])), AV.bool false, AV.fn (Fn.func F_judge_numbers_1) [] [AV.ptr 5 0 0, AV.ptr 6 0 0], AV.str stateS, AV.bool false, AV.fn
  (Fn.func F_judge_states_1) [] [AV.ptr 13 0 0, AV.ptr 14 0 0], AV.str (ByteArray.mk (Array.mk [109, 101, 109])), AV.bool false, AV.fn (Fn.func F_judge_bytes_1) [] [AV.ptr 18 0 0, AV.ptr 15 0 0, AV.ptr 16 0 0], AV.str (ByteArray.mk (Array.mk [110, 111, 116, 101, 115])), AV.bool false, AV.fn (Fn.func F_judge_list_1) [] [AV.ptr 19 0 0], AV.str (ByteArray.mk (Array.mk [111, 117, 116])), AV.bool false, AV.fn (Fn.func F_judge_bytes_1) [] [AV.ptr 24 0 0, AV.ptr 21 0 0, AV.ptr 22 0 0], AV.str (ByteArray.mk (Array.mk [100, 105, 115, 107])), AV.bool false, AV.fn (Fn.func F_judge_bytes_1) [] [AV.ptr 28 0 0, AV.ptr 25 0 0, AV.ptr 26 0 0], AV.str (ByteArray.mk (Array.mk [113, 117, 101, 117, 101])), AV.bool false, AV.fn (Fn.func F_judge_bytes_1) [] [AV.ptr 32 0 0, AV.ptr 29 0 0, AV.ptr 30 0 0], AV.str (ByteArray.mk (Array.mk [115, 99, 114, 105, 112, 116])), AV.bool false, AV.fn (Fn.func F_judge_list_1)
  [] [AV.ptr 33 0 0], AV.str (ByteArray.mk (Array.mk [100, 101, 118, 105, 99, 101, 115])), AV.bool false, AV.fn (Fn.func 42) [] []]) = ABlk.mk true 3 (AC.cells [AV.str (ByteArray.mk (Array.mk [102, 114, 97, 109, 101, 115])), AV.bool false, AV.fn (Fn.func F_judge_numbers_1) [] [AV.ptr 2 0 0, AV.ptr 3 0 0], AV.str (ByteArray.mk (Array.mk [115, 116, 101, 112, 115])), AV.bool false, AV.fn (Fn.func F_judge_numbers_1) [] [AV.ptr 5 0 0, AV.ptr 6 0 0], AV.str (ByteArray.mk (Array.mk [115, 116, 97, 116, 101])), AV.bool false, AV.fn (Fn.func F_judge_states_1) [] [AV.ptr 13 0 0, AV.ptr 14 0 0], AV.str (ByteArray.mk (Array.mk [109, 101, 109])), AV.bool false, AV.fn (Fn.func F_judge_bytes_1) [] [AV.ptr 18 0 0, AV.ptr 15 0 0, AV.ptr 16 0 0], AV.str (ByteArray.mk (Array.mk [110, 111, 116, 101, 115])), AV.bool false, AV.fn (Fn.func F_judge_list_1) [] [AV.ptr 19 0 0], AV.str (ByteArray.mk (Array.mk [111,
  117, 116])), AV.bool false, AV.fn (Fn.func F_judge_bytes_1) [] [AV.ptr 24 0 0, AV.ptr 21 0 0, AV.ptr 22 0 0], AV.str (ByteArray.mk (Array.mk [100, 105, 115, 107])), AV.bool false, AV.fn (Fn.func F_judge_bytes_1) [] [AV.ptr 28 0 0, AV.ptr 25 0 0, AV.ptr 26 0 0], AV.str (ByteArray.mk (Array.mk [113, 117, 101, 117, 101])), AV.bool false, AV.fn (Fn.func F_judge_bytes_1) [] [AV.ptr 32 0 0, AV.ptr 29 0 0, AV.ptr 30 0 0], AV.str (ByteArray.mk (Array.mk [115, 99, 114, 105, 112, 116])), AV.bool false, AV.fn (Fn.func F_judge_list_1) [] [AV.ptr 33 0 0], AV.str (ByteArray.mk (Array.mk [100, 101, 118, 105, 99, 101, 115])), AV.bool false, AV.fn (Fn.func F_judge_parts_1) [] []]) ∧ True) ∧ True) ∧ True) ∧ True) ∧ True) ∧ True) ∧ True) ∧ True) ∧ True) ∧ True) ∧ True) ∧ True) ∧ True) ∧ True
theorem part0_c_e (x : Unit) : some (part0_c_V x) = (part0C.cond sp Go.Proofs.Tryz.prog (drP sp Go.Proofs.Tryz.prog) noLoops (orK (numbersC.orc sp) (orK (listC.orc sp) (orK (bytes0C.orc sp) (orK (statesC.orc sp) (orK (devices0C.orc sp) (orK (notes0C.orc sp) (events0C.orc sp))))))) 40 2 x) := by kernel_rfl
theorem part0_ok : part0C.OK Go.Proofs.Tryz.prog := by
  refine Con.by hmix (noLoops_ok _) (orK_ok (Con.orc_ok numbersC_ok) (orK_ok (Con.orc_ok listC_ok) (orK_ok (Con.orc_ok bytes0_ok) (orK_ok (Con.orc_ok statesC_ok) (orK_ok (Con.orc_ok devices0_ok) (orK_ok (Con.orc_ok notes0_ok) (Con.orc_ok events0_ok))))))) part0_c_V part0_c_e (fun _ _ => ?_)
  unfold part0_c_V part0_c_p5 part0_c_p4 part0_c_p3 part0_c_p2 part0_c_p1 part0_c_p0
  exact ⟨trivial, rfl, trivial, fun _ _ => ⟨trivial, rfl, trivial, fun _ _ => ⟨trivial, rfl, trivial, fun _ _ => ⟨trivial, rfl, trivial, fun _ _ => ⟨trivial, rfl, trivial, fun _ _ => ⟨trivial, rfl, trivial, fun _ _ => ⟨trivial, rfl, trivial, fun _ _ => ⟨trivial, rfl, trivial, fun _ _ => ⟨trivial, rfl, trivial, fun _ _ => ⟨trivial, rfl, trivial, fun _ _ => ⟨trivial, rfl, trivial, fun _ _ => ⟨trivial, rfl, trivial, fun _ _ => ⟨trivial, rfl, trivial, fun _ _ => ⟨(), trivial, rfl, rfl, trivial⟩, trivial⟩, trivial⟩, trivial⟩, trivial⟩, trivial⟩, trivial⟩, trivial⟩, trivial⟩, trivial⟩, trivial⟩, trivial⟩, trivial⟩, trivial⟩
def tell0_c_V (x : Unit) : Prop :=
  True ∧ [AV.agg [nI 0, AV.nils, nU 0, nU 0, nU 0, nU 0, nU 0, nU 0, nU 0, nU 0, nU 0, nU 0, nU 0, nU 0, nU 0, nU 0, nU 0, nU 0, nU 0, nU 0, AV.bool false, nI 0, AV.nils, AV.nils, AV.nils, AV.nils, AV.nils, nU 0, nU 0, nU 0, nU 0, nU 0, nU 0, nU 0, nU 0], AV.agg [nI 0, AV.nils, nU 0, nU 0, nU 0, nU 0, nU 0, nU 0, nU 0, nU 0, nU 0, nU 0, nU 0, nU 0, nU 0, nU 0, nU 0, nU 0, nU 0, nU 0, AV.bool false, nI 0, AV.nils, AV.nils, AV.nils, AV.nils, AV.nils, nU 0, nU 0, nU 0, nU 0, nU 0, nU 0, nU 0, nU 0]] = [AV.agg [nI 0, AV.nils, nU 0, nU 0, nU 0, nU 0, nU 0, nU 0, nU 0, nU 0, nU 0, nU 0, nU 0, nU 0, nU 0, nU 0, nU 0, nU 0, nU 0, nU 0, AV.bool false, nI 0, AV.nils, AV.nils, AV.nils, AV.nils, AV.nils, nU 0, nU 0, nU 0, nU 0, nU 0, nU 0, nU 0, nU 0], AV.agg [nI 0, AV.nils, nU 0, nU 0, nU 0, nU 0, nU 0, nU 0, nU 0, nU 0, nU 0, nU 0, nU 0, nU 0, nU 0, nU 0, nU 0, nU 0, nU 0, nU 0, AV.bool false, nI 0,
  AV.nils, AV.nils, AV.nils, AV.nils, AV.nils, nU 0, nU 0, nU 0, nU 0, nU 0, nU 0, nU 0, nU 0]] ∧ True ∧ (∀ (y : Unit), True → ∃ (y : Unit), True ∧ [AV.str (ByteArray.mk (Array.mk []))] = [AV.str (ByteArray.mk (Array.mk []))] ∧ True) ∧ True
theorem tell0_c_e (x : Unit) : some (tell0_c_V x) = (tell0C.cond sp Go.Proofs.Tryz.prog (drP sp Go.Proofs.Tryz.prog) noLoops (orK (part0C.orc sp) (noK tellNo)) 40 2 x) := by kernel_rfl
theorem tell0_ok : tell0C.OK Go.Proofs.Tryz.prog := by
  refine Con.by hmix (noLoops_ok _) (orK_ok (Con.orc_ok part0_ok) (noK_ok _ _)) tell0_c_V tell0_c_e (fun _ _ => ?_)
  unfold tell0_c_V
  exact ⟨trivial, rfl, trivial, fun _ _ => ⟨(), trivial, rfl, trivial⟩, trivial⟩
def rseal0_c_V (x : Unit) : Prop :=
  ∃ (y : Unit), True ∧ [AV.sl 8 0 0 4 4 false] = [AV.sl 8 0 0 4 4 false] ∧ bW [0, 0, 0, 0] = bW ((sealB [])) ∧ True
theorem rseal0_c_e (x : Unit) : some (rseal0_c_V x) = (rseal0C.cond sp Go.Proofs.Tryz.prog (drP sp Go.Proofs.Tryz.prog) noLoops (vF sp Go.Proofs.Tryz.prog (drP sp Go.Proofs.Tryz.prog) noLoops noBaseK 40 2) 40 2 x) := by kernel_rfl
theorem rseal0_ok : rseal0C.OK Go.Proofs.Tryz.prog := by
  refine Con.by hmix (noLoops_ok _) (vF_ok (fun _ hk => drP_ok hmix _ hk) (noLoops_ok _) (noBaseK_ok _) 40 2) rseal0_c_V rseal0_c_e (fun _ _ => ?_)
  unfold rseal0_c_V
  exact ⟨(), trivial, rfl, rfl, trivial⟩
def open0_c_V (x : Unit) : Prop :=
  ∃ (y : Unit), True ∧ [AV.tup [AV.nils, nI 290]] = [AV.tup [AV.nils, nI 290]] ∧ True
theorem open0_c_e (x : Unit) : some (open0_c_V x) = (open0C.cond sp Go.Proofs.Tryz.prog (drP sp Go.Proofs.Tryz.prog) noLoops noBaseK 40 2 x) := by kernel_rfl
theorem open0_ok : open0C.OK Go.Proofs.Tryz.prog := by
  refine Con.by hmix (noLoops_ok _) (noBaseK_ok _) open0_c_V open0_c_e (fun _ _ => ?_)
  unfold open0_c_V
  exact ⟨(), trivial, rfl, trivial⟩
def dec0_c_V (x : Unit) : Prop :=
  True ∧ [AV.msl 0 0 0 0 0] = [AV.msl 0 0 0 0 0] ∧ True ∧ (∀ (y : Unit), True → ∃ (y : Unit), True ∧ [AV.tup [AV.agg [nI 0, AV.nils, nU 0, nU 0, nU 0, nU 0, nU 0, nU 0, nU 0, nU 0, nU 0, nU 0, nU 0, nU 0, nU 0, nU 0, nU 0, nU 0, nU 0, nU 0, AV.bool false, nI 0, AV.nils, AV.nils, AV.nils, AV.nils, AV.nils, nU 0, nU 0, nU 0, nU 0, nU 0, nU 0, nU 0, nU 0], nI 290]] = [AV.tup [AV.agg [nI 0, AV.nils, nU 0, nU 0, nU 0, nU 0, nU 0, nU 0, nU 0, nU 0, nU 0, nU 0, nU 0, nU 0, nU 0, nU 0, nU 0, nU 0, nU 0, nU 0, AV.bool false, nI 0, AV.nils, AV.nils, AV.nils, AV.nils, AV.nils, nU 0, nU 0, nU 0, nU 0, nU 0, nU 0, nU 0, nU 0], nI 290]] ∧ True) ∧ True
theorem dec0_c_e (x : Unit) : some (dec0_c_V x) = (dec0C.condD sp Go.Proofs.Tryz.prog (drP sp Go.Proofs.Tryz.prog) noLoops (vF sp Go.Proofs.Tryz.prog (drP sp Go.Proofs.Tryz.prog) noLoops (open0C.orc sp) 40 3) (vRD sp Go.Proofs.Tryz.prog noBaseK (drP sp Go.Proofs.Tryz.prog noBaseK) noLoops 40) 2 60 x) := by kernel_rfl
theorem dec0_ok : dec0C.OK Go.Proofs.Tryz.prog := by
  refine Con.byD hmix (noLoops_ok _) (vF_ok (fun c hc => drP_ok hmix c hc) (noLoops_ok _) (Con.orc_ok open0_ok) 40 3) (vRD_ok (noBaseK_ok _) (drP_ok hmix _ (noBaseK_ok _)) (noLoops_ok _) 40) dec0_c_V dec0_c_e (fun _ _ => ?_)
  unfold dec0_c_V
  exact ⟨trivial, rfl, trivial, fun _ _ => ⟨(), trivial, rfl, trivial⟩, trivial⟩
end Go.Proofs.YtmbcpmbpkdeioaaGreatDoor.W
/- The document's reader: numbers and rows: what is reckoned, and the loops' states. No condition. -/
namespace Go.Proofs.YtmbcpmbpkdeioaaGreatDoor.W
open Go Go.RowKit Go.Eng
set_option maxRecDepth 100000
set_option linter.unusedVariables false
set_option linter.unusedSimpArgs false
/-- A number that lies between two. (A structure: so that it stands in a condition as it is.) -/
structure InR (a n b : Int) : Prop where
  lo : a ≤ n
  hi : n ≤ b
/-- Of a row of bytes, m from o on. -/
structure RgX where
  bs : List Int
  o : Nat
  m : Nat
  c : Nat
def RgX.w (x : RgX) : List Int := (x.bs.drop x.o).take x.m
structure RgI where
  x : RgX
  k : Nat
  acc : Int
def RgX.L (x : RgX) : LH := [(0, ⟨false, 1, .ints .u8 x.bs⟩)]
def rgL (P : Program) : Lp RgI where
  B := 1
  n := ntmpsOf P F_mummerref29_Get
  code := loopOf P F_mummerref29_Get 0
  fit s H := match s.get 0, s.get 5, s.get 7 with
    | .msl b o _ m c, .int _ acc, .int _ k => (rowOf H b c).map fun q => ⟨⟨q.bs, o, m, c⟩, k.toNat, acc⟩
    | _, _, _ => none
  pre i := i.k ≤ 9 ∧ i.k ≤ i.x.m ∧ i.x.o + i.x.m ≤ i.x.bs.length ∧ i.x.bs.length ≤ 140737488355328 ∧ IsBytes i.x.bs ∧ InR 0 i.acc (128 ^ i.k - 1)
  slots i := [(0, .msl 0 i.x.o 0 i.x.m i.x.c), (5, .int .u64 i.acc), (6, .int .u64 (128 ^ i.k)), (7, .int .i64 i.k)]
  nx _ := 1
  L i := i.x.L
  m i := 10 - i.k
  outs i := [(decide ((getG (i.x.w.drop i.k) i.k i.acc).2.2 = 290), ⟨.exit 0, [], 1, i.x.L⟩), (true, ⟨.ret, [(2, .int .u64 (getG (i.x.w.drop i.k) i.k i.acc).1), (3, .int .i64 (getG (i.x.w.drop i.k) i.k i.acc).2.1), (4, .int .i64 (getG (i.x.w.drop i.k) i.k i.acc).2.2)], 1, i.x.L⟩)]
def rgC : Con RgX Got where
  f := F_mummerref29_Get
  fit vs H := match vs with
    | [.msl b o _ m c] => (rowOf H b c).map fun q => ([b], ⟨q.bs, o, m, c⟩)
    | _ => none
  n0 := 1
  pre x := x.o + x.m ≤ x.bs.length ∧ x.bs.length ≤ 140737488355328 ∧ IsBytes x.bs
  args x := [.msl 0 x.o 0 x.m x.c]
  L0 x := x.L
  outs x := [(fun y => getN x.w = (y.n, (y.u : Int), 0), fun y => (.ret (.tup [.int .u64 y.n, .int .i64 y.u, .int .i64 0]), 1, x.L)),
    (fun _ => getN x.w = (0, 0, 290), fun _ => (.ret (.tup [.int .u64 0, .int .i64 0, .int .i64 290]), 1, x.L)),
    (fun _ => getN x.w = (0, 0, 291), fun _ => (.ret (.tup [.int .u64 0, .int .i64 0, .int .i64 291]), 1, x.L))]
structure RgY where
  x : RgX
  most : Int
structure RnZ where
  u : Nat
  n : Nat
def rgbC : Con RgY RnZ where
  f := F_mummerref29_GetBytes
  fit vs H := match vs with
    | [.msl b o _ m c, .int _ most] => (rowOf H b c).map fun q => ([b], ⟨⟨q.bs, o, m, c⟩, most⟩)
    | _ => none
  n0 := 1
  pre y := y.x.o + y.x.m ≤ y.x.bs.length ∧ y.x.bs.length ≤ 140737488355328 ∧ IsBytes y.x.bs ∧ y.x.m ≤ y.x.c
  args y := [.msl 0 y.x.o 0 y.x.m y.x.c, .int .i64 y.most]
  L0 y := y.x.L
  outs y := [(fun z => rowN y.x.w y.most = .ok z.u z.n, fun z => (.ret (.tup [.msl 0 (y.x.o + z.u) 0 z.n (y.x.c - z.u), .int .i64 (z.u + z.n : Nat), .int .i64 0]), 1, y.x.L)),
    (fun _ => rowN y.x.w y.most = .no 290, fun _ => (.ret (.tup [.nils, .int .i64 0, .int .i64 290]), 1, y.x.L)),
    (fun _ => rowN y.x.w y.most = .no 291, fun _ => (.ret (.tup [.nils, .int .i64 0, .int .i64 291]), 1, y.x.L)),
    (fun _ => rowN y.x.w y.most = .no 3, fun _ => (.ret (.tup [.nils, .int .i64 0, .int .i64 3]), 1, y.x.L))]
/-! ### the reader -/
structure RS where
  o : Nat
  e : Int
/-- A number: the next one; where something was wrong nothing is read. -/
def rnum (l : List Int) (most : Int) (s : RS) : Int × RS := if s.e ≠ 0 then (0, s) else match upN l s.o most with
  | .ok n o => (n, ⟨o, 0⟩)
  | .no e => (0, ⟨s.o, e⟩)
def rrow (l : List Int) (most : Int) (s : RS) : List Int × RS := if s.e ≠ 0 then ([], s) else match rowN (l.drop s.o) most with
  | .ok u n => ((l.drop (s.o + u)).take n, ⟨s.o + (u + n), 0⟩)
  | .no e => ([], ⟨s.o, e⟩)
def rcnt (l : List Int) (most : Int) (s : RS) : Int × RS := match rnum l 1099511627776 s with
  | (n, s') => if n > most then (0, ⟨s'.o, 3⟩) else (n, s')
structure RdX where
  x : RgX
  e : Int
  most : Int
def RdX.l (x : RdX) : List Int := x.x.bs.take (x.x.o + x.x.m)
def rdB (o m c : Nat) (e : Int) : ABlk := ⟨true, 2, .cells [.msl 1 o 0 m c, .int .i64 e]⟩
def RdX.L (x : RdX) : LH := [(0, rdB x.x.o x.x.m x.x.c x.e), (1, ⟨false, 1, .ints .u8 x.x.bs⟩)]
def RdX.ok (x : RdX) : Prop := x.x.o + x.x.m ≤ x.x.bs.length ∧ x.x.bs.length ≤ 140737488355328 ∧ IsBytes x.x.bs ∧ x.x.m ≤ x.x.c
def rdxFit (b : Nat) (most : Int) (H : AH) : Option (List Nat × RdX) := match H.get b with
  | some k => match k.c with
    | .cells [.msl b1 o _ m c, .int _ e] => (rowOf H b1 c).map fun q => ([b, b1], ⟨⟨q.bs, o, m, c⟩, e, most⟩)
    | _ => none
  | none => none
structure RdY where
  n : Int
  o : Nat
  m : Nat
  c : Nat
  e : Int
/-- What is left after a reading. -/
def RdX.to (x : RdX) (y : RdY) (p : Int × RS) : Prop := p = (y.n, ⟨y.o, y.e⟩) ∧ y.o + y.m = x.x.o + x.x.m ∧ y.m ≤ y.c ∧ y.o + y.c = x.x.o + x.x.c
def rnumC (f : FuncId) (k : IntKind) (q : List Int → Int → RS → Int × RS) : Con RdX RdY where
  f := f
  fit vs H := match vs with
    | [.ptr b _ _, .int _ most] => rdxFit b most H
    | _ => none
  n0 := 2
  pre x := x.ok ∧ InR 0 x.most 1099511627776
  args x := [.ptr 0 0 0, .int k x.most]
  L0 x := x.L
  outs x := [(fun y => x.to y (q x.l x.most ⟨x.x.o, x.e⟩) ∧ InR 0 y.n x.most, fun y => (.ret (.int k y.n), 2, [(0, rdB y.o y.m y.c y.e), (1, ⟨false, 1, .ints .u8 x.x.bs⟩)]))]
def rwordC : Con RdX RdY where
  f := F_mummerref30_Reader_word
  fit vs H := match vs with
    | [.ptr b _ _] => rdxFit b 0 H
    | _ => none
  n0 := 2
  pre x := x.ok
  args x := [.ptr 0 0 0]
  L0 x := x.L
  outs x := [(fun y => x.to y (rnum x.l 4294967295 ⟨x.x.o, x.e⟩) ∧ InR 0 y.n 4294967295, fun y => (.ret (.int .u32 y.n), 2, [(0, rdB y.o y.m y.c y.e), (1, ⟨false, 1, .ints .u8 x.x.bs⟩)]))]
structure RrY where
  l : List Int
  cap : Nat
  o : Nat
  m : Nat
  c : Nat
  e : Int
def rrowC : Con RdX RrY where
  f := F_mummerref30_Reader_row
  fit vs H := match vs with
    | [.ptr b _ _, .int _ most] => rdxFit b most H
    | _ => none
  n0 := 2
  pre x := x.ok
  args x := [.ptr 0 0 0, .int .i64 x.most]
  L0 x := x.L
  outs x := [(fun y => rrow x.l x.most ⟨x.x.o, x.e⟩ = (y.l, ⟨y.o, y.e⟩) ∧ y.o + y.m = x.x.o + x.x.m ∧ (y.m ≤ y.c ∧ y.o + y.c = x.x.o + x.x.c) ∧ y.l.length ≤ y.cap,
    fun y => (.ret (.msl 2 0 0 y.l.length y.cap), 3, [(0, rdB y.o y.m y.c y.e), (1, ⟨false, 1, .ints .u8 x.x.bs⟩), (2, ⟨false, 1, .ints .u8 y.l⟩)]))]
end Go.Proofs.YtmbcpmbpkdeioaaGreatDoor.W
/- The document's reader: numbers and rows: the walks. No condition. -/
namespace Go.Proofs.YtmbcpmbpkdeioaaGreatDoor.W
open Go Go.RowKit Go.Eng
set_option maxRecDepth 100000
set_option linter.unusedVariables false
set_option linter.unusedSimpArgs false
theorem RgX.w_eq (x : RgX) : x.w = (x.bs.take (x.o + x.m)).drop x.o := by
  unfold RgX.w
  rw [List.drop_take, Nat.add_sub_cancel_left]
theorem upN_eq (l : List Int) (o : Nat) (most n : Int) (u e : Int) (h : getN (l.drop o) = (n, u, e)) : upN l o most = if e ≠ 0 then .no e else if n > most then .no 291 else .ok n (o + u.toNat) := by
  unfold upN
  rw [h]
abbrev rg_c_p0 (i : RgI) : Prop :=
  sp (decide ((↑i.k : Int) < (↑i.x.m : Int)) && true) (sp (decide (i.x.o + (↑i.k : Int).toNat + 0 < i.x.bs.length)) (sp (decide ((↑i.k : Int) < (↑i.x.m : Int)) && true) (sp (decide (i.x.o + (↑i.k : Int).toNat + 0 < i.x.bs.length)) (sp (decide (i.x.bs.getD (i.x.o + (↑i.k : Int).toNat + 0) 0 < 128)) (sp (decide ((↑i.k : Int) < (↑i.x.m : Int)) && true) (sp (decide (i.x.o + (↑i.k : Int).toNat + 0 < i.x.bs.length)) (sp (i.x.bs.getD (i.x.o + (↑i.k : Int).toNat + 0) 0 == 0) (sp (bif true then decide ((↑i.k : Int) > 0) else false) (sp (decide ((getG (List.drop i.k i.x.w) i.k i.acc).snd.snd = 290)) False ((nL 0 = nL (getG (List.drop i.k i.x.w) i.k i.acc).fst ∧ nI 0 = nI (getG (List.drop i.k i.x.w) i.k i.acc).snd.fst ∧ nI 291 = nI (getG (List.drop i.k i.x.w) i.k i.acc).snd.snd ∧ True) ∧ bR i.x.bs = bR i.x.bs ∧ True)) (sp (decide ((getG (List.drop i.k i.x.w) i.k i.acc).snd.snd = 290)) False ((nL
  (IntKind.u64.wrap (i.acc + IntKind.u64.wrap (128 ^ i.k * IntKind.u64.wrap ((i.x.bs.getD (i.x.o + (↑i.k : Int).toNat + 0) 0).tmod 128)))) = nL (getG (List.drop i.k i.x.w) i.k i.acc).fst ∧ nI (IntKind.i64.wrap ((↑i.k : Int) + 1)) = nI (getG (List.drop i.k i.x.w) i.k i.acc).snd.fst ∧ nI 0 = nI (getG (List.drop i.k i.x.w) i.k i.acc).snd.snd ∧ True) ∧ bR i.x.bs = bR i.x.bs ∧ True))) (sp (decide ((getG (List.drop i.k i.x.w) i.k i.acc).snd.snd = 290)) False ((nL (IntKind.u64.wrap (i.acc + IntKind.u64.wrap (128 ^ i.k * IntKind.u64.wrap ((i.x.bs.getD (i.x.o + (↑i.k : Int).toNat + 0) 0).tmod 128)))) = nL (getG (List.drop i.k i.x.w) i.k i.acc).fst ∧ nI (IntKind.i64.wrap ((↑i.k : Int) + 1)) = nI (getG (List.drop i.k i.x.w) i.k i.acc).snd.fst ∧ nI 0 = nI (getG (List.drop i.k i.x.w) i.k i.acc).snd.snd ∧ True) ∧ bR i.x.bs = bR i.x.bs ∧ True))) False) False) (∃ (j : RgI), (j.k ≤ 9 ∧ j.k ≤ j.x.m ∧ j.x.o +
  j.x.m ≤ j.x.bs.length ∧ j.x.bs.length ≤ 140737488355328 ∧ IsBytes j.x.bs ∧ InR 0 j.acc (128 ^ j.k - 1)) ∧ 10 - j.k < 10 - i.k ∧ [(decide ((getG (List.drop j.k j.x.w) j.k j.acc).snd.snd = 290), LOut.mk (AX.exit 0) [] 1 [(0, bR j.x.bs)]), (true, LOut.mk AX.ret [(2, nL (getG (List.drop j.k j.x.w) j.k j.acc).fst), (3, nI (getG (List.drop j.k j.x.w) j.k j.acc).snd.fst), (4, nI (getG (List.drop j.k j.x.w) j.k j.acc).snd.snd)] 1 [(0, bR j.x.bs)])] = [(decide ((getG (List.drop i.k i.x.w) i.k i.acc).snd.snd = 290), LOut.mk (AX.exit 0) [] 1 [(0, bR i.x.bs)]), (true, LOut.mk AX.ret [(2, nL (getG (List.drop i.k i.x.w) i.k i.acc).fst), (3, nI (getG (List.drop i.k i.x.w) i.k i.acc).snd.fst), (4, nI (getG (List.drop i.k i.x.w) i.k i.acc).snd.snd)] 1 [(0, bR i.x.bs)])] ∧ (AV.msl 0 i.x.o 0 i.x.m i.x.c = AV.msl 0 j.x.o 0 j.x.m j.x.c ∧ nL (IntKind.u64.wrap (i.acc + IntKind.u64.wrap (128 ^ i.k *
  IntKind.u64.wrap ((i.x.bs.getD (i.x.o + (↑i.k : Int).toNat + 0) 0).tmod 128)))) = nL j.acc ∧ nL (IntKind.u64.wrap (128 ^ i.k * 128)) = nL (128 ^ j.k) ∧ nI (IntKind.i64.wrap ((↑i.k : Int) + 1)) = nI (↑j.k : Int) ∧ True) ∧ bR i.x.bs = bR j.x.bs ∧ True)) False) False) False) False
abbrev rg_c_p1 (i : RgI) : Prop :=
  sp (decide ((getG (List.drop i.k i.x.w) i.k i.acc).snd.snd = 290)) (True ∧ bR i.x.bs = bR i.x.bs ∧ True) False
def rg_c_V (i : RgI) : Prop :=
  sp (decide ((↑i.k : Int) < (↑i.x.m : Int))) (sp (bif true then decide ((↑i.k : Int) < 10) else false) (sp ((↑i.k : Int) == 9) (sp (decide ((↑i.k : Int) < (↑i.x.m : Int)) && true) (sp (decide (i.x.o + (↑i.k : Int).toNat + 0 < i.x.bs.length)) (sp (bif true then decide (i.x.bs.getD (i.x.o + (↑i.k : Int).toNat + 0) 0 > 1) else false) (sp (decide ((getG (List.drop i.k i.x.w) i.k i.acc).snd.snd = 290)) False ((nL 0 = nL (getG (List.drop i.k i.x.w) i.k i.acc).fst ∧ nI 0 = nI (getG (List.drop i.k i.x.w) i.k i.acc).snd.fst ∧ nI 291 = nI (getG (List.drop i.k i.x.w) i.k i.acc).snd.snd ∧ True) ∧ bR i.x.bs = bR i.x.bs ∧ True)) (rg_c_p0 i)) False) False) (rg_c_p0 i)) (rg_c_p1 i)) (rg_c_p1 i)
theorem rg_c_e (i : RgI) : some (rg_c_V i) = (some ((rgL Go.Proofs.Tryz.prog).body sp Go.Proofs.Tryz.prog noBaseK (drP sp Go.Proofs.Tryz.prog noBaseK) noLo 40 i)) := by kernel_rfl
theorem acc_eq {k : Nat} {acc x : Int} (hk : k ≤ 9) (h0 : 0 ≤ acc) (h1 : acc ≤ 128 ^ k - 1) (hx0 : 0 ≤ x) (hx1 : x < 256) (hn : ¬ (k = 9 ∧ x > 1)) :
    IntKind.wrap .u64 (acc + IntKind.wrap .u64 (128 ^ k * IntKind.wrap .u64 (x.tmod 128))) = accN k acc x ∧ accN k acc x = acc + x % 128 * 128 ^ k := by
  have tm : x.tmod 128 = x % 128 := Int.tmod_eq_emod_of_nonneg hx0
  have w1 : IntKind.wrap .u64 (x % 128) = x % 128 := by rw [IntKind.wrap_u64]; omega
  have hP : (0 : Int) < 128 ^ k := Int.pow_pos (by decide)
  have hm0 : 0 ≤ x % 128 * 128 ^ k := Int.mul_nonneg (by omega) (Int.le_of_lt hP)
  have big : acc + x % 128 * 128 ^ k < 18446744073709551616 := by
    by_cases h9 : k = 9
    · subst h9
      have : x ≤ 1 := by omega
      have e : (128 : Int) ^ 9 = 9223372036854775808 := by decide
      rw [e] at *
      omega
    · have hp8 := pow128_le (k := k) (by omega)
      have hm1 : x % 128 * 128 ^ k ≤ 127 * 128 ^ k := Int.mul_le_mul_of_nonneg_right (by omega) (Int.le_of_lt hP)
      omega
  have ea := accN_eq hk h0 (by omega) hx0 hx1 (by omega)
  refine ⟨?_, ea⟩
  rw [ea, tm, w1, Int.mul_comm]
  generalize x % 128 * 128 ^ k = z at *
  have w2 : IntKind.wrap .u64 z = z := by rw [IntKind.wrap_u64]; omega
  rw [w2, IntKind.wrap_u64]
  omega
set_option maxHeartbeats 4000000 in
theorem rg_ok : (rgL Go.Proofs.Tryz.prog).OK Go.Proofs.Tryz.prog := by
  refine Lp.ok_of (noBaseK_ok _) (drP_ok hmix _ (noBaseK_ok _)) (noLo_ok _) (by decide) 40 (fun i hi => ?_)
  rw [← Option.some.inj (rg_c_e i)]
  obtain ⟨h1, h2, h3, h4, h5, ⟨h6, h7⟩⟩ := hi
  have hl : i.x.w.length = i.x.m := by unfold RgX.w; simp; omega
  unfold rg_c_V rg_c_p1 rg_c_p0
  by_cases hk : i.k < i.x.m
  · have hx0 : i.x.o + (i.k : Int).toNat + 0 = i.x.o + i.k := by simp
    have hlt : i.x.o + i.k < i.x.bs.length := by omega
    have e : i.x.w.drop i.k = i.x.bs.getD (i.x.o + i.k) 0 :: i.x.w.drop (i.k + 1) := by
      rw [List.drop_eq_getElem_cons (by omega)]
      congr 1
      simp [RgX.w, hlt]
    have hb : 0 ≤ i.x.bs.getD (i.x.o + i.k) 0 ∧ i.x.bs.getD (i.x.o + i.k) 0 < 256 := by
      have : i.x.bs.getD (i.x.o + i.k) 0 = i.x.bs[i.x.o + i.k] := by simp [hlt]
      rw [this]
      exact h5 _ (List.getElem_mem hlt)
    have hg := e ▸ getG.eq_2 i.k i.acc (i.x.bs.getD (i.x.o + i.k) 0) (i.x.w.drop (i.k + 1))
    rw [hx0]
    generalize i.x.bs.getD (i.x.o + i.k) 0 = X at *
    have hw : IntKind.wrap .i64 ((i.k : Int) + 1) = ((i.k + 1 : Nat) : Int) := by rw [IntWalk.i64_in _ (by omega)]; rfl
    have t1 : (decide ((i.k : Int) < (i.x.m : Int)) && true) = true := by simp; omega
    have t2 : decide (i.x.o + i.k < i.x.bs.length) = true := decide_eq_true hlt
    have bad : getG (i.x.w.drop i.k) i.k i.acc = (0, 0, 291) → sp (decide ((getG (List.drop i.k i.x.w) i.k i.acc).snd.snd = 290)) False ((nL 0 = nL (getG (List.drop i.k i.x.w) i.k i.acc).fst ∧ nI 0 = nI (getG (List.drop i.k i.x.w) i.k i.acc).snd.fst ∧ nI 291 = nI (getG (List.drop i.k i.x.w) i.k i.acc).snd.snd ∧ True) ∧ bR i.x.bs = bR i.x.bs ∧ True) := fun h => by
      rw [h]
      exact spF (by decide) ⟨⟨rfl, rfl, rfl, trivial⟩, rfl, trivial⟩
    refine spT (by simp; omega) (spT (by simp; omega) (spI (fun h9 => spT t1 (spT t2 (spI (fun hx => bad ?_) (fun hx => ?_)))) (fun h9 => ?_)))
    · have h9 : i.k = 9 := by have : (i.k : Int) = 9 := by simpa using h9
                              omega
      have hx : X > 1 := by simpa using hx
      rw [hg, if_pos ⟨h9, hx⟩]
    all_goals
      have hn : ¬ (i.k = 9 ∧ X > 1) := by
        rintro ⟨q1, q2⟩
        first
          | (have : ¬ X > 1 := by simpa using hx
             exact this q2)
          | (have : ¬ (i.k : Int) = 9 := by simpa using h9
             omega)
      rw [if_neg hn] at hg
      obtain ⟨ea, eb⟩ := acc_eq h1 h6 h7 hb.1 hb.2 hn
      rw [ea]
      refine spT t1 (spT t2 (spT t1 (spT t2 (spI (fun hl => spT t1 (spT t2 (spI (fun h0 => spI (fun hk0 => bad ?_) (fun hk0 => ?_)) (fun h0 => ?_)))) (fun hl => ?_)))))
      · have hl : ¬ X ≥ 128 := by have : X < 128 := of_decide_eq_true hl
                                  omega
        rw [hg, if_neg hl, if_pos ⟨by simpa using h0, by have : (i.k : Int) > 0 := by simpa using hk0
                                                         omega⟩]
      · have hl : ¬ X ≥ 128 := by have : X < 128 := of_decide_eq_true hl
                                  omega
        have hk0 : ¬ i.k > 0 := by have : ¬ (i.k : Int) > 0 := by simpa using hk0
                                   omega
        rw [if_neg hl, if_neg (fun q => hk0 q.2)] at hg
        rw [hg, hw]
        exact spF rfl ⟨⟨rfl, rfl, rfl, trivial⟩, rfl, trivial⟩
      · have hl : ¬ X ≥ 128 := by have : X < 128 := of_decide_eq_true hl
                                  omega
        have h0 : ¬ X = 0 := by simpa using h0
        rw [if_neg hl, if_neg (fun q => h0 q.1)] at hg
        rw [hg, hw]
        exact spF rfl ⟨⟨rfl, rfl, rfl, trivial⟩, rfl, trivial⟩
      · have hl : X ≥ 128 := by have : ¬ X < 128 := of_decide_eq_false hl
                                omega
        rw [if_pos hl] at hg
        have hk8 : i.k ≤ 8 := by
          rcases Nat.lt_or_ge 8 i.k with q | q
          · exact absurd ⟨by omega, by omega⟩ hn
          · exact q
        have hPP : (128 : Int) ^ (i.k + 1) = 128 ^ i.k * 128 := Int.pow_succ _ _
        have hp8 := pow128_le hk8
        have hP : (0 : Int) < 128 ^ i.k := Int.pow_pos (by decide)
        have hm0 : 0 ≤ X % 128 * 128 ^ i.k := Int.mul_nonneg (by omega) (Int.le_of_lt hP)
        have hm1 : X % 128 * 128 ^ i.k ≤ 127 * 128 ^ i.k := Int.mul_le_mul_of_nonneg_right (by omega) (Int.le_of_lt hP)
        refine ⟨⟨i.x, i.k + 1, accN i.k i.acc X⟩, ⟨by show i.k + 1 ≤ 9; omega, hk, h3, h4, h5, ⟨by show 0 ≤ accN i.k i.acc X; rw [eb]; omega, by show accN i.k i.acc X ≤ 128 ^ (i.k + 1) - 1; rw [eb, hPP]; omega⟩⟩, by show 10 - (i.k + 1) < 10 - i.k; omega, ?_, ⟨rfl, rfl, ?_, by rw [hw], trivial⟩, rfl, trivial⟩
        · rw [hg]
        · show nL _ = nL (128 ^ (i.k + 1))
          rw [hPP, IntKind.wrap_u64]
          congr 1
          omega
  · have e : i.x.w.drop i.k = [] := List.drop_eq_nil_of_le (by omega)
    have hg : getG (i.x.w.drop i.k) i.k i.acc = (0, 0, 290) := by rw [e]; rfl
    rw [hg]
    refine spF (by simp; omega) ?_
    exact spT rfl ⟨trivial, rfl, trivial⟩
abbrev rgC_c_p0 (x : RgX) : List AV :=
  [AV.tup [nL (getG (List.drop 0 (RgX.mk x.bs x.o x.m x.c).w) 0 0).fst, nI (getG (List.drop 0 (RgX.mk x.bs x.o x.m x.c).w) 0 0).snd.fst, nI (getG (List.drop 0 (RgX.mk x.bs x.o x.m x.c).w) 0 0).snd.snd]]
def rgC_c_V (x : RgX) : Prop :=
  same (loopOf Proofs.Tryz.prog F_mummerref29_Get 0) (loopOf Proofs.Tryz.prog F_mummerref29_Get 0) ∧ (0 ≤ 9 ∧ 0 ≤ x.m ∧ x.o + x.m ≤ x.bs.length ∧ x.bs.length ≤ 140737488355328 ∧ IsBytes x.bs ∧ InR 0 0 0) ∧ ((AV.msl 0 x.o 0 x.m x.c = AV.msl 0 x.o 0 x.m x.c ∧ nL 0 = nL 0 ∧ nL 1 = nL 1 ∧ nI 0 = nI 0 ∧ True) ∧ bR x.bs = bR x.bs ∧ True) ∧ sp (decide ((getG (List.drop 0 (RgX.mk x.bs x.o x.m x.c).w) 0 0).snd.snd = 290)) ((∃ (y : Got), getN x.w = (y.n, (↑y.u : Int), 0) ∧ [AV.tup [nL 0, nI 0, nI 290]] = [AV.tup [nL y.n, nI (↑y.u : Int), nI 0]] ∧ bR x.bs = bR x.bs ∧ True) ∨ (∃ (y : Got), getN x.w = (0, 0, 290) ∧ [AV.tup [nL 0, nI 0, nI 290]] = [AV.tup [nL 0, nI 0, nI 290]] ∧ bR x.bs = bR x.bs ∧ True) ∨ ∃ (y : Got), getN x.w = (0, 0, 291) ∧ [AV.tup [nL 0, nI 0, nI 290]] = [AV.tup [nL 0, nI 0, nI 291]] ∧ bR x.bs = bR x.bs ∧ True) ((∃ (y : Got), getN x.w = (y.n, (↑y.u : Int), 0) ∧ (rgC_c_p0 x) = [AV.tup
  [nL y.n, nI (↑y.u : Int), nI 0]] ∧ bR x.bs = bR x.bs ∧ True) ∨ (∃ (y : Got), getN x.w = (0, 0, 290) ∧ (rgC_c_p0 x) = [AV.tup [nL 0, nI 0, nI 290]] ∧ bR x.bs = bR x.bs ∧ True) ∨ ∃ (y : Got), getN x.w = (0, 0, 291) ∧ (rgC_c_p0 x) = [AV.tup [nL 0, nI 0, nI 291]] ∧ bR x.bs = bR x.bs ∧ True)
theorem rgC_c_e (x : RgX) : some (rgC_c_V x) = (rgC.cond sp Go.Proofs.Tryz.prog (drP sp Go.Proofs.Tryz.prog) (forF F_mummerref29_Get ((rgL Go.Proofs.Tryz.prog).lo sp Go.Proofs.Tryz.prog (isLoop 3) (loopOf Go.Proofs.Tryz.prog F_mummerref29_Get 0)) noLoops) noBaseK 40 2 x) := by kernel_rfl
theorem rgC_ok : rgC.OK Go.Proofs.Tryz.prog := by
  refine Con.by hmix (forF_ok (Lp.lo_ok rg_ok rfl) (noLoops_ok _)) (noBaseK_ok _) rgC_c_V rgC_c_e (fun x hx => ?_)
  obtain ⟨h1, h2, h3⟩ := hx
  have hN : getG (List.drop 0 (RgX.mk x.bs x.o x.m x.c).w) 0 0 = getN x.w := rfl
  unfold rgC_c_V rgC_c_p0
  refine ⟨rfl, ⟨by decide, Nat.zero_le _, h1, h2, h3, ⟨by decide, by decide⟩⟩, ⟨⟨rfl, rfl, rfl, rfl, trivial⟩, rfl, trivial⟩, ?_⟩
  rw [hN]
  rcases getN_range x.w with ⟨n, u, h, _⟩ | h | h
  · exact spF (by rw [h]; rfl) (.inl ⟨⟨n, u⟩, h, by rw [h], rfl, trivial⟩)
  · exact spT (by rw [h]; rfl) (.inr (.inl ⟨⟨0, 0⟩, h, rfl, rfl, trivial⟩))
  · exact spF (by rw [h]; rfl) (.inr (.inr ⟨⟨0, 0⟩, h, by rw [h], rfl, trivial⟩))
abbrev rgb_c_p2 (y : RgY) (y_2 : RnZ) : List AV :=
  [AV.tup [AV.msl 0 (y.x.o + y_2.u) 0 y_2.n (y.x.c - y_2.u), nI (↑(y_2.u + y_2.n) : Int), nI 0]]
abbrev rgb_c_p0 (y : RgY) (y_1 : Got) : Prop :=
  sp (decide (y_1.n > IntKind.u64.wrap (IntKind.i64.wrap ((↑y.x.m : Int) - (↑y_1.u : Int))))) ((∃ (y_2 : RnZ), rowN y.x.w y.most = RowR.ok y_2.u y_2.n ∧ [AV.tup [AV.nils, nI 0, nI 290]] = (rgb_c_p2 y y_2) ∧ bR y.x.bs = bR y.x.bs ∧ True) ∨ (∃ (y_2 : RnZ), rowN y.x.w y.most = RowR.no 290 ∧ [AV.tup [AV.nils, nI 0, nI 290]] = [AV.tup [AV.nils, nI 0, nI 290]] ∧ bR y.x.bs = bR y.x.bs ∧ True) ∨ (∃ (y_2 : RnZ), rowN y.x.w y.most = RowR.no 291 ∧ [AV.tup [AV.nils, nI 0, nI 290]] = [AV.tup [AV.nils, nI 0, nI 291]] ∧ bR y.x.bs = bR y.x.bs ∧ True) ∨ ∃ (y_2 : RnZ), rowN y.x.w y.most = RowR.no 3 ∧ [AV.tup [AV.nils, nI 0, nI 290]] = [AV.tup [AV.nils, nI 0, nI 3]] ∧ bR y.x.bs = bR y.x.bs ∧ True) (sp (decide (0 ≤ IntKind.i64.wrap ((↑y_1.u : Int) + IntKind.i64.wrap y_1.n)) && true && decide ((↑y_1.u : Int).toNat ≤ (IntKind.i64.wrap ((↑y_1.u : Int) + IntKind.i64.wrap y_1.n)).toNat) && decide ((IntKind.i64.wrap
  ((↑y_1.u : Int) + IntKind.i64.wrap y_1.n)).toNat ≤ y.x.c) && decide (y.x.c ≤ y.x.c) && true) ((∃ (y_2 : RnZ), rowN y.x.w y.most = RowR.ok y_2.u y_2.n ∧ [AV.tup [AV.msl 0 (y.x.o + (↑y_1.u : Int).toNat) 0 ((IntKind.i64.wrap ((↑y_1.u : Int) + IntKind.i64.wrap y_1.n)).toNat - (↑y_1.u : Int).toNat) (y.x.c - (↑y_1.u : Int).toNat), nI (IntKind.i64.wrap ((↑y_1.u : Int) + IntKind.i64.wrap y_1.n)), nI 0]] = (rgb_c_p2 y y_2) ∧ bR y.x.bs = bR y.x.bs ∧ True) ∨ (∃ (y_2 : RnZ), rowN y.x.w y.most = RowR.no 290 ∧ [AV.tup [AV.msl 0 (y.x.o + (↑y_1.u : Int).toNat) 0 ((IntKind.i64.wrap ((↑y_1.u : Int) + IntKind.i64.wrap y_1.n)).toNat - (↑y_1.u : Int).toNat) (y.x.c - (↑y_1.u : Int).toNat), nI (IntKind.i64.wrap ((↑y_1.u : Int) + IntKind.i64.wrap y_1.n)), nI 0]] = [AV.tup [AV.nils, nI 0, nI 290]] ∧ bR y.x.bs = bR y.x.bs ∧ True) ∨ (∃ (y_2 : RnZ), rowN y.x.w y.most = RowR.no 291 ∧ [AV.tup [AV.msl 0 (y.x.o +
  (↑y_1.u : Int).toNat) 0 ((IntKind.i64.wrap ((↑y_1.u : Int) + IntKind.i64.wrap y_1.n)).toNat - (↑y_1.u : Int).toNat) (y.x.c - (↑y_1.u : Int).toNat), nI (IntKind.i64.wrap ((↑y_1.u : Int) + IntKind.i64.wrap y_1.n)), nI 0]] = [AV.tup [AV.nils, nI 0, nI 291]] ∧ bR y.x.bs = bR y.x.bs ∧ True) ∨ ∃ (y_2 : RnZ), rowN y.x.w y.most = RowR.no 3 ∧ [AV.tup [AV.msl 0 (y.x.o + (↑y_1.u : Int).toNat) 0 ((IntKind.i64.wrap ((↑y_1.u : Int) + IntKind.i64.wrap y_1.n)).toNat - (↑y_1.u : Int).toNat) (y.x.c - (↑y_1.u : Int).toNat), nI (IntKind.i64.wrap ((↑y_1.u : Int) + IntKind.i64.wrap y_1.n)), nI 0]] = [AV.tup [AV.nils, nI 0, nI 3]] ∧ bR y.x.bs = bR y.x.bs ∧ True) False)
abbrev rgb_c_p1 (y : RgY) : Prop :=
  (∃ (y_2 : RnZ), rowN y.x.w y.most = RowR.ok y_2.u y_2.n ∧ [AV.tup [AV.nils, nI 0, nI 3]] = (rgb_c_p2 y y_2) ∧ bR y.x.bs = bR y.x.bs ∧ True) ∨ (∃ (y_2 : RnZ), rowN y.x.w y.most = RowR.no 290 ∧ [AV.tup [AV.nils, nI 0, nI 3]] = [AV.tup [AV.nils, nI 0, nI 290]] ∧ bR y.x.bs = bR y.x.bs ∧ True) ∨ (∃ (y_2 : RnZ), rowN y.x.w y.most = RowR.no 291 ∧ [AV.tup [AV.nils, nI 0, nI 3]] = [AV.tup [AV.nils, nI 0, nI 291]] ∧ bR y.x.bs = bR y.x.bs ∧ True) ∨ ∃ (y_2 : RnZ), rowN y.x.w y.most = RowR.no 3 ∧ [AV.tup [AV.nils, nI 0, nI 3]] = [AV.tup [AV.nils, nI 0, nI 3]] ∧ bR y.x.bs = bR y.x.bs ∧ True
def rgb_c_V (y : RgY) : Prop :=
  (y.x.o + y.x.m ≤ y.x.bs.length ∧ y.x.bs.length ≤ 140737488355328 ∧ ∀ (x : Int), List.Mem x y.x.bs → 0 ≤ x ∧ x < 256) ∧ [] ++ [AV.msl 0 y.x.o 0 y.x.m y.x.c] ++ [] = [AV.msl 0 y.x.o 0 y.x.m y.x.c] ∧ (some (bR y.x.bs) = some (bR y.x.bs) ∧ True) ∧ (∀ (y_1 : Got), getN (RgX.mk y.x.bs y.x.o y.x.m y.x.c).w = (y_1.n, (↑y_1.u : Int), 0) → sp (decide (y.most < 0)) (sp (decide (y_1.n > 0)) (rgb_c_p1 y) (rgb_c_p0 y y_1)) (sp (decide (y_1.n > IntKind.u64.wrap y.most)) (rgb_c_p1 y) (rgb_c_p0 y y_1))) ∧ (∀ (y_1 : Got), getN (RgX.mk y.x.bs y.x.o y.x.m y.x.c).w = (0, 0, 290) → (∃ (y_2 : RnZ), rowN y.x.w y.most = RowR.ok y_2.u y_2.n ∧ [AV.tup [AV.nils, nI 0, nI 290]] = (rgb_c_p2 y y_2) ∧ bR y.x.bs = bR y.x.bs ∧ True) ∨ (∃ (y_2 : RnZ), rowN y.x.w y.most = RowR.no 290 ∧ [AV.tup [AV.nils, nI 0, nI 290]] = [AV.tup [AV.nils, nI 0, nI 290]] ∧ bR y.x.bs = bR y.x.bs ∧ True) ∨ (∃ (y_2 : RnZ), rowN y.x.w y.most =
  RowR.no 291 ∧ [AV.tup [AV.nils, nI 0, nI 290]] = [AV.tup [AV.nils, nI 0, nI 291]] ∧ bR y.x.bs = bR y.x.bs ∧ True) ∨ ∃ (y_2 : RnZ), rowN y.x.w y.most = RowR.no 3 ∧ [AV.tup [AV.nils, nI 0, nI 290]] = [AV.tup [AV.nils, nI 0, nI 3]] ∧ bR y.x.bs = bR y.x.bs ∧ True) ∧ (∀ (y_1 : Got), getN (RgX.mk y.x.bs y.x.o y.x.m y.x.c).w = (0, 0, 291) → (∃ (y_2 : RnZ), rowN y.x.w y.most = RowR.ok y_2.u y_2.n ∧ [AV.tup [AV.nils, nI 0, nI 291]] = (rgb_c_p2 y y_2) ∧ bR y.x.bs = bR y.x.bs ∧ True) ∨ (∃ (y_2 : RnZ), rowN y.x.w y.most = RowR.no 290 ∧ [AV.tup [AV.nils, nI 0, nI 291]] = [AV.tup [AV.nils, nI 0, nI 290]] ∧ bR y.x.bs = bR y.x.bs ∧ True) ∨ (∃ (y_2 : RnZ), rowN y.x.w y.most = RowR.no 291 ∧ [AV.tup [AV.nils, nI 0, nI 291]] = [AV.tup [AV.nils, nI 0, nI 291]] ∧ bR y.x.bs = bR y.x.bs ∧ True) ∨ ∃ (y_2 : RnZ), rowN y.x.w y.most = RowR.no 3 ∧ [AV.tup [AV.nils, nI 0, nI 291]] = [AV.tup [AV.nils, nI 0, nI 3]] ∧ bR
  y.x.bs = bR y.x.bs ∧ True) ∧ True
theorem rgb_c_e (y : RgY) : some (rgb_c_V y) = (rgbC.cond sp Go.Proofs.Tryz.prog (drP sp Go.Proofs.Tryz.prog) noLoops (rgC.orc sp) 40 2 y) := by kernel_rfl
theorem rgb_ok : rgbC.OK Go.Proofs.Tryz.prog := by
  refine Con.by hmix (noLoops_ok _) (Con.orc_ok rgC_ok) rgb_c_V rgb_c_e (fun y hx => ?_)
  obtain ⟨h1, h2, h3, h4⟩ := hx
  have hl : y.x.w.length = y.x.m := by unfold RgX.w; simp; omega
  have hr := getN_range y.x.w
  unfold rgb_c_V rgb_c_p1 rgb_c_p0 rgb_c_p2
  refine ⟨⟨h1, h2, h3⟩, rfl, ⟨rfl, trivial⟩, (fun z hy => ?_), (fun z hy => ?_), (fun z hy => ?_), trivial⟩
  · obtain ⟨n, u⟩ := z
    have hy : getN y.x.w = (n, (u : Int), 0) := hy
    obtain ⟨q1, q2, q3⟩ : 0 < u ∧ u ≤ y.x.m ∧ 0 ≤ n := by
      rcases hr with ⟨n', u', h, h3, h4, h5⟩ | h | h
      · rw [h] at hy
        simp only [Prod.mk.injEq] at hy
        obtain ⟨rfl, h6, _⟩ := hy
        omega
      · rw [h] at hy; simp at hy
      · rw [h] at hy; simp at hy
    have hN : rowN y.x.w y.most = if n > IntKind.wrap .u64 (if (0 : Int) > y.most then 0 else y.most) then .no 3 else if n > IntKind.wrap .u64 (IntKind.wrap .i64 (((y.x.m : Nat) : Int) - u)) then .no 290 else .ok u n.toNat := by
      unfold rowN
      rw [hy, hl]
      simp
    have hw1 : IntKind.wrap .i64 (((y.x.m : Nat) : Int) - u) = ((y.x.m : Nat) : Int) - u := IntWalk.i64_in _ (by omega)
    have hw2 : IntKind.wrap .u64 (((y.x.m : Nat) : Int) - u) = ((y.x.m : Nat) : Int) - u := IntWalk.u64_in _ (by omega)
    rw [hw1, hw2] at hN
    dsimp only
    rw [hw1, hw2]
    have z0 : IntKind.wrap .u64 0 = 0 := rfl
    refine spI (fun hm => spI (fun g => ?_) (fun g => ?_)) (fun hm => spI (fun g => ?_) (fun g => ?_))
    · have hm : y.most < 0 := of_decide_eq_true hm
      have g : n > 0 := of_decide_eq_true g
      rw [if_pos (show (0 : Int) > y.most by omega), z0, if_pos g] at hN
      exact .inr (.inr (.inr ⟨⟨0, 0⟩, hN, rfl, rfl, trivial⟩))
    rotate_left
    · have hm : ¬ y.most < 0 := of_decide_eq_false hm
      have g : n > IntKind.wrap .u64 y.most := of_decide_eq_true g
      rw [if_neg (show ¬ (0 : Int) > y.most by omega), if_pos g] at hN
      exact .inr (.inr (.inr ⟨⟨0, 0⟩, hN, rfl, rfl, trivial⟩))
    · have hm : ¬ y.most < 0 := of_decide_eq_false hm
      have g : ¬ n > IntKind.wrap .u64 y.most := of_decide_eq_false g
      rw [if_neg (show ¬ (0 : Int) > y.most by omega), if_neg g] at hN
      refine spI (fun h => ?_) (fun h => ?_)
      · have h : n > ((y.x.m : Nat) : Int) - u := of_decide_eq_true h
        rw [if_pos h] at hN
        exact .inr (.inl ⟨⟨0, 0⟩, hN, rfl, rfl, trivial⟩)
      · have h : ¬ n > ((y.x.m : Nat) : Int) - u := of_decide_eq_false h
        rw [if_neg h] at hN
        have hwn : IntKind.wrap .i64 n = n := IntWalk.i64_in _ (by omega)
        have hwu : IntKind.wrap .i64 ((u : Int) + n) = (u : Int) + n := IntWalk.i64_in _ (by omega)
        obtain ⟨m, rfl⟩ : ∃ m : Nat, n = (m : Int) := ⟨n.toNat, by omega⟩
        rw [hwn, hwu]
        have t1 : ((u : Int) + (m : Int)).toNat = u + m := by omega
        have t2 : ((u : Nat) : Int).toNat = u := Int.toNat_natCast _
        have t3 : u + m - u = m := by omega
        have t4 : ((m : Nat) : Int).toNat = m := Int.toNat_natCast _
        rw [t1, t2, t3]
        rw [t4] at hN
        exact spT (by simp; omega) (.inl ⟨⟨u, m⟩, hN, by simp, rfl, trivial⟩)
    · have hm : y.most < 0 := of_decide_eq_true hm
      have g : ¬ n > 0 := of_decide_eq_false g
      rw [if_pos (show (0 : Int) > y.most by omega), z0, if_neg g] at hN
      refine spI (fun h => ?_) (fun h => ?_)
      · have h : n > ((y.x.m : Nat) : Int) - u := of_decide_eq_true h
        rw [if_pos h] at hN
        exact .inr (.inl ⟨⟨0, 0⟩, hN, rfl, rfl, trivial⟩)
      · have h : ¬ n > ((y.x.m : Nat) : Int) - u := of_decide_eq_false h
        rw [if_neg h] at hN
        have hwn : IntKind.wrap .i64 n = n := IntWalk.i64_in _ (by omega)
        have hwu : IntKind.wrap .i64 ((u : Int) + n) = (u : Int) + n := IntWalk.i64_in _ (by omega)
        obtain ⟨m, rfl⟩ : ∃ m : Nat, n = (m : Int) := ⟨n.toNat, by omega⟩
        rw [hwn, hwu]
        have t1 : ((u : Int) + (m : Int)).toNat = u + m := by omega
        have t2 : ((u : Nat) : Int).toNat = u := Int.toNat_natCast _
        have t3 : u + m - u = m := by omega
        have t4 : ((m : Nat) : Int).toNat = m := Int.toNat_natCast _
        rw [t1, t2, t3]
        rw [t4] at hN
        exact spT (by simp; omega) (.inl ⟨⟨u, m⟩, hN, by simp, rfl, trivial⟩)
  · have hy : getN y.x.w = (0, 0, 290) := hy
    have hN : rowN y.x.w y.most = .no 290 := by unfold rowN; rw [hy]; simp
    exact .inr (.inl ⟨⟨0, 0⟩, hN, rfl, rfl, trivial⟩)
  · have hy : getN y.x.w = (0, 0, 291) := hy
    have hN : rowN y.x.w y.most = .no 291 := by unfold rowN; rw [hy]; simp
    exact .inr (.inr (.inl ⟨⟨0, 0⟩, hN, rfl, rfl, trivial⟩))
abbrev rnum_c_p0 (x : RdX) (y : RdY) : Prop :=
  (rnum x.l x.most (RS.mk x.x.o x.e) = (y.n, RS.mk y.o y.e) ∧ y.o + y.m = x.x.o + x.x.m ∧ y.m ≤ y.c ∧ y.o + y.c = x.x.o + x.x.c) ∧ InR 0 y.n x.most
def rnum_c_V (x : RdX) : Prop :=
  sp (x.e != 0) (∃ (y : RdY), (rnum_c_p0 x y) ∧ [nL 0] = [nL y.n] ∧ rdB x.x.o x.x.m x.x.c x.e = rdB y.o y.m y.c y.e ∧ bR x.x.bs = bR x.x.bs ∧ True) ((x.x.o + x.x.m ≤ x.x.bs.length ∧ x.x.bs.length ≤ 140737488355328 ∧ ∀ (x_1 : Int), List.Mem x_1 x.x.bs → 0 ≤ x_1 ∧ x_1 < 256) ∧ [] ++ [AV.msl 1 x.x.o 0 x.x.m x.x.c] ++ [] = [AV.msl 1 x.x.o 0 x.x.m x.x.c] ∧ (some (bR x.x.bs) = some (bR x.x.bs) ∧ True) ∧ (∀ (y : Got), getN (RgX.mk x.x.bs x.x.o x.x.m x.x.c).w = (y.n, (↑y.u : Int), 0) → sp (decide (y.n > x.most)) (∃ (y : RdY), (rnum_c_p0 x y) ∧ [nL 0] = [nL y.n] ∧ ABlk.mk true 2 (AC.cells ([AV.msl 1 x.x.o 0 x.x.m x.x.c, nI x.e].set 1 (nI 291))) = rdB y.o y.m y.c y.e ∧ bR x.x.bs = bR x.x.bs ∧ True) (sp (decide ((↑y.u : Int).toNat ≤ x.x.m) && decide (x.x.m ≤ x.x.c) && decide (x.x.c ≤ x.x.c) && true) (∃ (y_1 : RdY), ((rnum x.l x.most (RS.mk x.x.o x.e) = (y_1.n, RS.mk y_1.o y_1.e) ∧ y_1.o + y_1.m =
  x.x.o + x.x.m ∧ y_1.m ≤ y_1.c ∧ y_1.o + y_1.c = x.x.o + x.x.c) ∧ InR 0 y_1.n x.most) ∧ [nL y.n] = [nL y_1.n] ∧ ABlk.mk true 2 (AC.cells ([AV.msl 1 x.x.o 0 x.x.m x.x.c, nI x.e].set 0 (AV.msl 1 (x.x.o + (↑y.u : Int).toNat) 0 (x.x.m - (↑y.u : Int).toNat) (x.x.c - (↑y.u : Int).toNat)))) = rdB y_1.o y_1.m y_1.c y_1.e ∧ bR x.x.bs = bR x.x.bs ∧ True) False)) ∧ (∀ (y : Got), getN (RgX.mk x.x.bs x.x.o x.x.m x.x.c).w = (0, 0, 290) → ∃ (y : RdY), (rnum_c_p0 x y) ∧ [nL 0] = [nL y.n] ∧ ABlk.mk true 2 (AC.cells ([AV.msl 1 x.x.o 0 x.x.m x.x.c, nI x.e].set 1 (nI 290))) = rdB y.o y.m y.c y.e ∧ bR x.x.bs = bR x.x.bs ∧ True) ∧ (∀ (y : Got), getN (RgX.mk x.x.bs x.x.o x.x.m x.x.c).w = (0, 0, 291) → ∃ (y : RdY), (rnum_c_p0 x y) ∧ [nL 0] = [nL y.n] ∧ ABlk.mk true 2 (AC.cells ([AV.msl 1 x.x.o 0 x.x.m x.x.c, nI x.e].set 1 (nI 291))) = rdB y.o y.m y.c y.e ∧ bR x.x.bs = bR x.x.bs ∧ True) ∧ True)
theorem rnum_c_e (x : RdX) : some (rnum_c_V x) = ((rnumC F_mummerref30_Reader_number .u64 rnum).cond sp Go.Proofs.Tryz.prog (drP sp Go.Proofs.Tryz.prog) noLoops (rgC.orc sp) 40 2 x) := by kernel_rfl
theorem rnum_ok (hg : rgC.OK Go.Proofs.Tryz.prog) : (rnumC F_mummerref30_Reader_number .u64 rnum).OK Go.Proofs.Tryz.prog := by
  refine Con.by hmix (noLoops_ok _) (Con.orc_ok hg) rnum_c_V rnum_c_e (fun x hx => ?_)
  obtain ⟨⟨h1, h2, h3, h4⟩, ⟨hm0, hm1⟩⟩ := hx
  have hN : ∀ n u e, getN x.x.w = (n, u, e) → upN x.l x.x.o x.most = if e ≠ 0 then .no e else if n > x.most then .no 291 else .ok n (x.x.o + u.toNat) := fun n u e h => upN_eq _ _ _ _ _ _ (by rw [← h, RgX.w_eq]; rfl)
  unfold rnum_c_V rnum_c_p0
  refine spI (fun he => ?_) (fun he => ⟨⟨h1, h2, h3⟩, rfl, ⟨rfl, trivial⟩, (fun y hy => ?_), (fun y hy => ?_), (fun y hy => ?_), trivial⟩)
  · have he : x.e ≠ 0 := by simpa using he
    exact ⟨⟨0, x.x.o, x.x.m, x.x.c, x.e⟩, ⟨⟨by unfold rnum; rw [if_pos he], rfl, h4, rfl⟩, ⟨Int.le_refl _, hm0⟩⟩, rfl, rfl, rfl, trivial⟩
  all_goals
    have he : x.e = 0 := by simpa using he
    have hr : rnum x.l x.most ⟨x.x.o, x.e⟩ = match upN x.l x.x.o x.most with
      | .ok n o => (n, ⟨o, 0⟩)
      | .no e => (0, ⟨x.x.o, e⟩) := by unfold rnum; exact if_neg (by simp [he])
  · have hy : getN x.x.w = (y.n, (y.u : Int), 0) := hy
    have hu : y.u ≤ x.x.m ∧ 0 ≤ y.n := by
      rcases getN_range x.x.w with ⟨n', u', h, q3, q4, q5⟩ | h | h
      · rw [h] at hy
        simp only [Prod.mk.injEq] at hy
        have : x.x.w.length ≤ x.x.m := by unfold RgX.w; simp; omega
        omega
      · rw [h] at hy; simp at hy
      · rw [h] at hy; simp at hy
    have hU := hN _ _ _ hy
    rw [if_neg (by simp)] at hU
    refine spI (fun h => ?_) (fun h => ?_)
    · have h : y.n > x.most := of_decide_eq_true h
      rw [if_pos h] at hU
      rw [hU] at hr
      exact ⟨⟨0, x.x.o, x.x.m, x.x.c, 291⟩, ⟨⟨hr, rfl, h4, rfl⟩, ⟨Int.le_refl _, hm0⟩⟩, rfl, rfl, rfl, trivial⟩
    · have h : ¬ y.n > x.most := of_decide_eq_false h
      rw [if_neg h] at hU
      rw [hU] at hr
      have t : ((y.u : Nat) : Int).toNat = y.u := Int.toNat_natCast _
      rw [t] at hr ⊢
      refine spT (by simp; omega) ⟨⟨y.n, x.x.o + y.u, x.x.m - y.u, x.x.c - y.u, 0⟩, ⟨⟨hr, by show x.x.o + y.u + (x.x.m - y.u) = _; omega, by show x.x.m - y.u ≤ x.x.c - y.u; omega, by show x.x.o + y.u + (x.x.c - y.u) = _; omega⟩, ⟨hu.2, by show y.n ≤ x.most; omega⟩⟩, rfl, ?_, rfl, trivial⟩
      rw [he]
      rfl
  · have hU := hN _ _ _ hy
    rw [if_pos (by decide)] at hU
    rw [hU] at hr
    exact ⟨⟨0, x.x.o, x.x.m, x.x.c, 290⟩, ⟨⟨hr, rfl, h4, rfl⟩, ⟨Int.le_refl _, hm0⟩⟩, rfl, rfl, rfl, trivial⟩
  · have hU := hN _ _ _ hy
    rw [if_pos (by decide)] at hU
    rw [hU] at hr
    exact ⟨⟨0, x.x.o, x.x.m, x.x.c, 291⟩, ⟨⟨hr, rfl, h4, rfl⟩, ⟨Int.le_refl _, hm0⟩⟩, rfl, rfl, rfl, trivial⟩
abbrev rrow_c_p0 (x : RdX) (y : RrY) : Prop :=
  rrow x.l x.most (RS.mk x.x.o x.e) = (y.l, RS.mk y.o y.e) ∧ y.o + y.m = x.x.o + x.x.m ∧ (y.m ≤ y.c ∧ y.o + y.c = x.x.o + x.x.c) ∧ y.l.length ≤ y.cap
def rrow_c_V (x : RdX) : Prop :=
  sp (x.e != 0) (∃ (y : RrY), (rrow_c_p0 x y) ∧ [AV.msl 2 0 0 0 0] = [AV.msl 2 0 0 y.l.length y.cap] ∧ rdB x.x.o x.x.m x.x.c x.e = rdB y.o y.m y.c y.e ∧ bR x.x.bs = bR x.x.bs ∧ bR [] = bR y.l ∧ True) ((x.x.o + x.x.m ≤ x.x.bs.length ∧ x.x.bs.length ≤ 140737488355328 ∧ IsBytes x.x.bs ∧ x.x.m ≤ x.x.c) ∧ [] ++ [AV.msl 1 x.x.o 0 x.x.m x.x.c, nI x.most] ++ [] = [AV.msl 1 x.x.o 0 x.x.m x.x.c, nI x.most] ∧ (some (bR x.x.bs) = some (bR x.x.bs) ∧ True) ∧ (∀ (y : RnZ), rowN (RgX.mk x.x.bs x.x.o x.x.m x.x.c).w x.most = RowR.ok y.u y.n → sp (decide ((↑(y.u + y.n) : Int).toNat ≤ x.x.m) && decide (x.x.m ≤ x.x.c) && decide (x.x.c ≤ x.x.c) && true) (∃ (y_1 : RrY), (rrow x.l x.most (RS.mk x.x.o x.e) = (y_1.l, RS.mk y_1.o y_1.e) ∧ y_1.o + y_1.m = x.x.o + x.x.m ∧ (y_1.m ≤ y_1.c ∧ y_1.o + y_1.c = x.x.o + x.x.c) ∧ y_1.l.length ≤ y_1.cap) ∧ [AV.msl 2 0 0 y.n (x.x.c - y.u)] = [AV.msl 2 0 0 y_1.l.length y_1.cap] ∧
  ABlk.mk true 2 (AC.cells ([AV.msl 1 x.x.o 0 x.x.m x.x.c, nI x.e].set 0 (AV.msl 1 (x.x.o + (↑(y.u + y.n) : Int).toNat) 0 (x.x.m - (↑(y.u + y.n) : Int).toNat) (x.x.c - (↑(y.u + y.n) : Int).toNat)))) = rdB y_1.o y_1.m y_1.c y_1.e ∧ bR x.x.bs = bR x.x.bs ∧ bR ((List.take y.n (List.drop (x.x.o + y.u) x.x.bs))) = bR y_1.l ∧ True) False) ∧ (∀ (y : RnZ), rowN (RgX.mk x.x.bs x.x.o x.x.m x.x.c).w x.most = RowR.no 290 → ∃ (y : RrY), (rrow_c_p0 x y) ∧ [AV.msl 2 0 0 0 0] = [AV.msl 2 0 0 y.l.length y.cap] ∧ ABlk.mk true 2 (AC.cells ([AV.msl 1 x.x.o 0 x.x.m x.x.c, nI x.e].set 1 (nI 290))) = rdB y.o y.m y.c y.e ∧ bR x.x.bs = bR x.x.bs ∧ bR [] = bR y.l ∧ True) ∧ (∀ (y : RnZ), rowN (RgX.mk x.x.bs x.x.o x.x.m x.x.c).w x.most = RowR.no 291 → ∃ (y : RrY), (rrow_c_p0 x y) ∧ [AV.msl 2 0 0 0 0] = [AV.msl 2 0 0 y.l.length y.cap] ∧ ABlk.mk true 2 (AC.cells ([AV.msl 1 x.x.o 0 x.x.m x.x.c, nI x.e].set 1 (nI 291))) =
  rdB y.o y.m y.c y.e ∧ bR x.x.bs = bR x.x.bs ∧ bR [] = bR y.l ∧ True) ∧ (∀ (y : RnZ), rowN (RgX.mk x.x.bs x.x.o x.x.m x.x.c).w x.most = RowR.no 3 → ∃ (y : RrY), (rrow_c_p0 x y) ∧ [AV.msl 2 0 0 0 0] = [AV.msl 2 0 0 y.l.length y.cap] ∧ ABlk.mk true 2 (AC.cells ([AV.msl 1 x.x.o 0 x.x.m x.x.c, nI x.e].set 1 (nI 3))) = rdB y.o y.m y.c y.e ∧ bR x.x.bs = bR x.x.bs ∧ bR [] = bR y.l ∧ True) ∧ True)
theorem rrow_c_e (x : RdX) : some (rrow_c_V x) = (rrowC.condF sp Go.Proofs.Tryz.prog (rowOut 1) (drP sp Go.Proofs.Tryz.prog) noLoops (rgbC.orc sp) 40 2 x) := by kernel_rfl
theorem rrow_ok (hg : rgbC.OK Go.Proofs.Tryz.prog) : rrowC.OK Go.Proofs.Tryz.prog := by
  refine Con.byF hmix (rowOut_ok 1) (noLoops_ok _) (Con.orc_ok hg) rrow_c_V rrow_c_e (fun x hx => ?_)
  obtain ⟨h1, h2, h3, h4⟩ := hx
  have hW : x.l.drop x.x.o = x.x.w := by rw [RgX.w_eq]; rfl
  unfold rrow_c_V rrow_c_p0
  refine spI (fun he => ?_) (fun he => ⟨⟨h1, h2, h3, h4⟩, rfl, ⟨rfl, trivial⟩, (fun y hy => ?_), (fun y hy => ?_), (fun y hy => ?_), (fun y hy => ?_), trivial⟩)
  · have he : x.e ≠ 0 := by simpa using he
    exact ⟨⟨[], 0, x.x.o, x.x.m, x.x.c, x.e⟩, ⟨by unfold rrow; rw [if_pos he], rfl, ⟨h4, rfl⟩, Nat.le_refl _⟩, rfl, rfl, rfl, rfl, trivial⟩
  all_goals
    have he : x.e = 0 := by simpa using he
    have hr : rrow x.l x.most ⟨x.x.o, x.e⟩ = match rowN x.x.w x.most with
      | .ok u n => ((x.l.drop (x.x.o + u)).take n, ⟨x.x.o + (u + n), 0⟩)
      | .no e => ([], ⟨x.x.o, e⟩) := by unfold rrow; rw [if_neg (by simp [he])]; show (match rowN (x.l.drop x.x.o) x.most with | .ok u n => ((x.l.drop (x.x.o + u)).take n, (⟨x.x.o + (u + n), 0⟩ : RS)) | .no e => ([], ⟨x.x.o, e⟩)) = _; rw [hW]
  · have hy : rowN x.x.w x.most = .ok y.u y.n := hy
    have hl : x.x.w.length = x.x.m := by unfold RgX.w; simp; omega
    have hu := rowN_ok (by omega) hy
    rw [hl] at hu
    rw [hy] at hr
    have t : ((y.u + y.n : Nat) : Int).toNat = y.u + y.n := Int.toNat_natCast _
    have hL : (x.l.drop (x.x.o + y.u)).take y.n = (x.x.bs.drop (x.x.o + y.u)).take y.n := by
      unfold RdX.l
      rw [List.drop_take, List.take_take, Nat.min_eq_left (by omega)]
    have hn : ((x.x.bs.drop (x.x.o + y.u)).take y.n).length = y.n := by simp; omega
    have hr : rrow x.l x.most ⟨x.x.o, x.e⟩ = ((x.l.drop (x.x.o + y.u)).take y.n, ⟨x.x.o + (y.u + y.n), 0⟩) := hr
    rw [hL] at hr
    rw [t]
    refine spT (by simp; omega) ⟨⟨(x.x.bs.drop (x.x.o + y.u)).take y.n, x.x.c - y.u, x.x.o + (y.u + y.n), x.x.m - (y.u + y.n), x.x.c - (y.u + y.n), 0⟩, ⟨hr, by show x.x.o + (y.u + y.n) + (x.x.m - (y.u + y.n)) = _; omega, ⟨by show x.x.m - (y.u + y.n) ≤ x.x.c - (y.u + y.n); omega, by show x.x.o + (y.u + y.n) + (x.x.c - (y.u + y.n)) = _; omega⟩, by show ((x.x.bs.drop (x.x.o + y.u)).take y.n).length ≤ x.x.c - y.u; omega⟩, ?_, ?_, rfl, rfl, trivial⟩
    · rw [hn]
    · rw [he]
      rfl
  · have hy : rowN x.x.w x.most = .no 290 := hy
    rw [hy] at hr
    exact ⟨⟨[], 0, x.x.o, x.x.m, x.x.c, 290⟩, ⟨hr, rfl, ⟨h4, rfl⟩, Nat.le_refl _⟩, rfl, rfl, rfl, rfl, trivial⟩
  · have hy : rowN x.x.w x.most = .no 291 := hy
    rw [hy] at hr
    exact ⟨⟨[], 0, x.x.o, x.x.m, x.x.c, 291⟩, ⟨hr, rfl, ⟨h4, rfl⟩, Nat.le_refl _⟩, rfl, rfl, rfl, rfl, trivial⟩
  · have hy : rowN x.x.w x.most = .no 3 := hy
    rw [hy] at hr
    exact ⟨⟨[], 0, x.x.o, x.x.m, x.x.c, 3⟩, ⟨hr, rfl, ⟨h4, rfl⟩, Nat.le_refl _⟩, rfl, rfl, rfl, rfl, trivial⟩
def rword_c_V (x : RdX) : Prop :=
  ((x.x.o + x.x.m ≤ x.x.bs.length ∧ x.x.bs.length ≤ 140737488355328 ∧ IsBytes x.x.bs ∧ x.x.m ≤ x.x.c) ∧ InR 0 4294967295 1099511627776) ∧ [AV.ptr 0 0 0, nL 4294967295] = [AV.ptr 0 0 0, nL 4294967295] ∧ (some (rdB x.x.o x.x.m x.x.c x.e) = some (rdB x.x.o x.x.m x.x.c x.e) ∧ some (bR x.x.bs) = some (bR x.x.bs) ∧ True) ∧ (∀ (y : RdY), (rnum (RdX.mk (RgX.mk x.x.bs x.x.o x.x.m x.x.c) x.e 4294967295).l 4294967295 (RS.mk x.x.o x.e) = (y.n, RS.mk y.o y.e) ∧ y.o + y.m = x.x.o + x.x.m ∧ y.m ≤ y.c ∧ y.o + y.c = x.x.o + x.x.c) ∧ InR 0 y.n 4294967295 → ∃ (y_1 : RdY), ((rnum x.l 4294967295 (RS.mk x.x.o x.e) = (y_1.n, RS.mk y_1.o y_1.e) ∧ y_1.o + y_1.m = x.x.o + x.x.m ∧ y_1.m ≤ y_1.c ∧ y_1.o + y_1.c = x.x.o + x.x.c) ∧ InR 0 y_1.n 4294967295) ∧ [nU (IntKind.u32.wrap y.n)] = [nU y_1.n] ∧ rdB y.o y.m y.c y.e = rdB y_1.o y_1.m y_1.c y_1.e ∧ bR x.x.bs = bR x.x.bs ∧ True) ∧ True
theorem rword_c_e (x : RdX) : some (rword_c_V x) = (rwordC.cond sp Go.Proofs.Tryz.prog (drP sp Go.Proofs.Tryz.prog) noLoops ((rnumC F_mummerref30_Reader_number .u64 rnum).orc sp) 40 2 x) := by kernel_rfl
theorem rword_ok (hn : (rnumC F_mummerref30_Reader_number .u64 rnum).OK Go.Proofs.Tryz.prog) : rwordC.OK Go.Proofs.Tryz.prog := by
  refine Con.by hmix (noLoops_ok _) (Con.orc_ok hn) rword_c_V rword_c_e (fun x h => ?_)
  unfold rword_c_V
  refine ⟨⟨h, ⟨by decide, by decide⟩⟩, rfl, ⟨rfl, rfl, trivial⟩, (fun y hy => ?_), trivial⟩
  obtain ⟨⟨q1, q2, q3⟩, ⟨q4, q5⟩⟩ := hy
  have hw : IntKind.wrap .u32 y.n = y.n := by rw [IntKind.wrap_u32]; omega
  rw [hw]
  exact ⟨y, ⟨⟨q1, q2, q3⟩, ⟨q4, q5⟩⟩, rfl, rfl, rfl, trivial⟩
abbrev rcnt_c_p0 (x : RdX) (y_1 : RdY) : Prop :=
  (rcnt x.l x.most (RS.mk x.x.o x.e) = (y_1.n, RS.mk y_1.o y_1.e) ∧ y_1.o + y_1.m = x.x.o + x.x.m ∧ y_1.m ≤ y_1.c ∧ y_1.o + y_1.c = x.x.o + x.x.c) ∧ InR 0 y_1.n x.most
def rcnt_c_V (x : RdX) : Prop :=
  ((x.x.o + x.x.m ≤ x.x.bs.length ∧ x.x.bs.length ≤ 140737488355328 ∧ IsBytes x.x.bs ∧ x.x.m ≤ x.x.c) ∧ InR 0 1099511627776 1099511627776) ∧ [AV.ptr 0 0 0, nL 1099511627776] = [AV.ptr 0 0 0, nL 1099511627776] ∧ (some (rdB x.x.o x.x.m x.x.c x.e) = some (rdB x.x.o x.x.m x.x.c x.e) ∧ some (bR x.x.bs) = some (bR x.x.bs) ∧ True) ∧ (∀ (y : RdY), (rnum (RdX.mk (RgX.mk x.x.bs x.x.o x.x.m x.x.c) x.e 1099511627776).l 1099511627776 (RS.mk x.x.o x.e) = (y.n, RS.mk y.o y.e) ∧ y.o + y.m = x.x.o + x.x.m ∧ y.m ≤ y.c ∧ y.o + y.c = x.x.o + x.x.c) ∧ InR 0 y.n 1099511627776 → sp (decide (IntKind.i64.wrap y.n > x.most)) (∃ (y_1 : RdY), (rcnt_c_p0 x y_1) ∧ [nI 0] = [nI y_1.n] ∧ ABlk.mk true 2 (AC.cells ([AV.msl 1 y.o 0 y.m y.c, nI y.e].set 1 (nI 3))) = rdB y_1.o y_1.m y_1.c y_1.e ∧ bR x.x.bs = bR x.x.bs ∧ True) (∃ (y_1 : RdY), (rcnt_c_p0 x y_1) ∧ [nI (IntKind.i64.wrap y.n)] = [nI y_1.n] ∧ rdB y.o y.m y.c y.e =
  rdB y_1.o y_1.m y_1.c y_1.e ∧ bR x.x.bs = bR x.x.bs ∧ True)) ∧ True
theorem rcnt_c_e (x : RdX) : some (rcnt_c_V x) = ((rnumC F_mummerref30_Reader_count .i64 rcnt).cond sp Go.Proofs.Tryz.prog (drP sp Go.Proofs.Tryz.prog) noLoops ((rnumC F_mummerref30_Reader_number .u64 rnum).orc sp) 40 2 x) := by kernel_rfl
theorem rcnt_ok (hn : (rnumC F_mummerref30_Reader_number .u64 rnum).OK Go.Proofs.Tryz.prog) : (rnumC F_mummerref30_Reader_count .i64 rcnt).OK Go.Proofs.Tryz.prog := by
  refine Con.by hmix (noLoops_ok _) (Con.orc_ok hn) rcnt_c_V rcnt_c_e (fun x hx => ?_)
  obtain ⟨h, ⟨hm0, hm1⟩⟩ := hx
  unfold rcnt_c_V rcnt_c_p0
  refine ⟨⟨h, ⟨by decide, by decide⟩⟩, rfl, ⟨rfl, rfl, trivial⟩, (fun y hy => ?_), trivial⟩
  obtain ⟨⟨q1, q2, q3⟩, ⟨q4, q5⟩⟩ := hy
  have q1 : rnum x.l 1099511627776 ⟨x.x.o, x.e⟩ = (y.n, ⟨y.o, y.e⟩) := q1
  have hw : IntKind.wrap .i64 y.n = y.n := IntWalk.i64_in _ (by omega)
  have hc : rcnt x.l x.most ⟨x.x.o, x.e⟩ = if y.n > x.most then (0, ⟨y.o, 3⟩) else (y.n, ⟨y.o, y.e⟩) := by unfold rcnt; rw [q1]
  rw [hw]
  refine spI (fun g => ?_) (fun g => ?_)
  · have g : y.n > x.most := of_decide_eq_true g
    exact ⟨⟨0, y.o, y.m, y.c, 3⟩, ⟨⟨by rw [hc, if_pos g], q2, q3⟩, ⟨Int.le_refl _, hm0⟩⟩, rfl, rfl, rfl, trivial⟩
  · have g : ¬ y.n > x.most := of_decide_eq_false g
    exact ⟨y, ⟨⟨by rw [hc, if_neg g], q2, q3⟩, ⟨q4, by omega⟩⟩, rfl, rfl, rfl, trivial⟩
end Go.Proofs.YtmbcpmbpkdeioaaGreatDoor.W
/- The document's reader: states and guests: what is reckoned. No condition. -/
namespace Go.Proofs.YtmbcpmbpkdeioaaGreatDoor.W
open Go Go.RowKit Go.Eng
set_option maxRecDepth 100000
set_option linter.unusedVariables false
set_option linter.unusedSimpArgs false
/-- One reading behind the other. -/
def RB {α β : Type} (r : α × RS) (g : α → RS → β × RS) : β × RS := g r.1 r.2
def rwords (l : List Int) : Nat → RS → List Int × RS
  | 0, s => ([], s)
  | k + 1, s => RB (rnum l 4294967295 s) fun n s => RB (rwords l k s) fun t s => (n :: t, s)
def rstate (l : List Int) (s : RS) : St × RS := RB (rwords l 18 s) fun t s => RB (rnum l 1 s) fun h s => (stL t h, s)
def rnote (l : List Int) (s : RS) : N4 × RS := RB (rnum l 1099511627776 s) fun a s => RB (rnum l 1099511627776 s) fun c s => RB (rnum l 4294967295 s) fun b s => RB (rnum l 4294967295 s) fun d s => (⟨a, c, b, d⟩, s)
def rev3 (l : List Int) (s : RS) : E3 × RS := RB (rnum l 1099511627776 s) fun a s => RB (rnum l 1099511627776 s) fun k s => RB (rnum l 255 s) fun x s => (⟨a, k, x⟩, s)
def rmany {α : Type} (p : RS → α × RS) : Nat → RS → List α × RS
  | 0, s => ([], s)
  | k + 1, s => if s.e ≠ 0 then ([], s) else RB (p s) fun a s => RB (rmany p k s) fun t s => (a :: t, s)
def rguest (l : List Int) (s : RS) : Dv × RS :=
  RB (rnum l 1099511627776 s) fun fr s => RB (rrow l 4096 s) fun mem s => RB (rstate l s) fun st s => RB (rnum l 1099511627776 s) fun steps s => RB (RB (rcnt l 4096 s) fun n s => rmany (rnote l) n.toNat s) fun notes s =>
  RB (rrow l 65536 s) fun out s => RB (rrow l 2048 s) fun disk s => RB (rrow l 32 s) fun queue s => RB (RB (rcnt l 64 s) fun n s => rmany (rev3 l) n.toNat s) fun script s => RB (rwords l 8 s) fun bl s => (⟨fr, mem, st, steps, notes, out, disk, queue, script, bl⟩, s)
/-- What is read, as a proposition that stays as it is. -/
structure StIs (l : List Int) (s : RS) (t : St) (s' : RS) : Prop where
  eq : rstate l s = (t, s')
structure RtY where
  s : St
  o : Nat
  m : Nat
  c : Nat
  e : Int
/-- What is left: the same end, the same room. -/
def RdX.rest (x : RdX) (o m c : Nat) : Prop := o + m = x.x.o + x.x.m ∧ m ≤ c ∧ o + c = x.x.o + x.x.c
def rstateC : Con RdX RtY where
  f := F_mummerref30_Reader_state
  fit vs H := match vs with
    | [.ptr b _ _] => rdxFit b 0 H
    | _ => none
  n0 := 2
  pre x := x.ok
  args x := [.ptr 0 0 0]
  L0 x := x.L
  outs x := [(fun y => StIs x.l ⟨x.x.o, x.e⟩ y.s ⟨y.o, y.e⟩ ∧ x.rest y.o y.m y.c, fun y => (.ret (.agg y.s.av), 4, [(0, rdB y.o y.m y.c y.e), (1, ⟨false, 1, .ints .u8 x.x.bs⟩)]))]
end Go.Proofs.YtmbcpmbpkdeioaaGreatDoor.W
