/- A guest decoded: the walk. No condition. -/
import Derived.Test.YtmbcpmbpkdeioaaDoorF35
import Derived.Test.YtmbcpmbpkdeioaaDoorF33
import Derived.KernelRfl
import Derived.Test.YtmbcpmbpkdeioaaDoorF34
import Derived.RowKit
import Derived.Test.YtmbcpmbpkdeioaaDoorEn29
namespace Go.Proofs.YtmbcpmbpkdeioaaDoor.W
open Go Go.RowKit Go.Eng
set_option maxRecDepth 100000
set_option linter.unusedVariables false
set_option linter.unusedSimpArgs false
def dec_c_V (x : OpenX) : Prop :=
  (x.bs.length ≤ 140737488355328 ∧ x.bs.length ≤ x.c) ∧ [] ++ [AV.msl 0 0 0 x.bs.length x.c] ++ [] = [AV.msl 0 0 0 x.bs.length x.c] ∧ (some (bR x.bs) = some (bR x.bs) ∧ True) ∧ (∀ (y : List Int), openN x.bs = OpenR.ok y → sp (decide ((↑y.length : Int) < 4)) (sp (decide ((↑y.length : Int) < 4) == true) (sp (decide ((↑y.length : Int) < 4) == decide ((↑y.length : Int) < 4)) (sp (decide ((↑y.length : Int) = (↑y.length : Int))) (sp (y.length.beq y.length && y.length.beq y.length && true) ((∃ (y : DecE), decP x.bs = DecR.ok y.d ∧ False) ∨ ∃ (y : DecE), decP x.bs = DecR.no y.e ∧ [AV.tup [AV.agg [nI 0, AV.nils, nU 0, nU 0, nU 0, nU 0, nU 0, nU 0, nU 0, nU 0, nU 0, nU 0, nU 0, nU 0, nU 0, nU 0, nU 0, nU 0, nU 0, nU 0, AV.bool false, nI 0, AV.nils, AV.nils, AV.nils, AV.nils, AV.nils, nU 0, nU 0, nU 0, nU 0, nU 0, nU 0, nU 0, nU 0], nI 291]] = [AV.tup [AV.agg [nI 0, AV.nils, nU 0, nU 0, nU 0, nU 0, nU
  0, nU 0, nU 0, nU 0, nU 0, nU 0, nU 0, nU 0, nU 0, nU 0, nU 0, nU 0, nU 0, nU 0, AV.bool false, nI 0, AV.nils, AV.nils, AV.nils, AV.nils, AV.nils, nU 0, nU 0, nU 0, nU 0, nU 0, nU 0, nU 0, nU 0], nI y.e]] ∧ bR x.bs = bR x.bs ∧ True) False) False) False) False) (sp (decide (0 < y.length) && (decide (1 < y.length) && (decide (2 < y.length) && (decide (3 < y.length) && true))) && (decide (y.getD 0 0 = y.getD 0 0) && (decide (y.getD 1 0 = y.getD 1 0) && (decide (y.getD 2 0 = y.getD 2 0) && (decide (y.getD 3 0 = y.getD 3 0) && true))))) (sp (decide (4 ≤ y.length) && decide (y.length ≤ y.length) && true && true && ((y.length - 0).beq (y.length - 0) && true)) (sp (y.length.beq y.length && y.length.beq y.length && true) (sp (decide ((↑y.length : Int) < 4) == false) (sp (decide ((↑y.length : Int) < 4) == decide ((↑y.length : Int) < 4)) (sp (decide ((↑y.length : Int) = (↑y.length : Int))) (sp
  (y.length.beq y.length && y.length.beq y.length && true) (sp ((bif false then true else bif true then !(y.getD 0 0 == 109 && (y.getD 1 0 == 117 && (y.getD 2 0 == 109 && (y.getD 3 0 == 1 && true)))) else y.getD 0 0 == 109 && (y.getD 1 0 == 117 && (y.getD 2 0 == 109 && (y.getD 3 0 == 1 && true)))) == bif false then true else bif true then !(y.getD 0 0 == 109 && (y.getD 1 0 == 117 && (y.getD 2 0 == 109 && (y.getD 3 0 == 1 && true)))) else y.getD 0 0 == 109 && (y.getD 1 0 == 117 && (y.getD 2 0 == 109 && (y.getD 3 0 == 1 && true)))) (sp ((bif true then !(y.getD 0 0 == 109 && (y.getD 1 0 == 117 && (y.getD 2 0 == 109 && (y.getD 3 0 == 1 && true)))) else y.getD 0 0 == 109 && (y.getD 1 0 == 117 && (y.getD 2 0 == 109 && (y.getD 3 0 == 1 && true)))) == bif true then !(y.getD 0 0 == 109 && (y.getD 1 0 == 117 && (y.getD 2 0 == 109 && (y.getD 3 0 == 1 && true)))) else y.getD 0 0 == 109 && (y.getD 1 0
  == 117 && (y.getD 2 0 == 109 && (y.getD 3 0 == 1 && true)))) (sp (decide (0 < y.length) && (decide (1 < y.length) && (decide (2 < y.length) && (decide (3 < y.length) && true))) && (decide (y.getD 0 0 = y.getD 0 0) && (decide (y.getD 1 0 = y.getD 1 0) && (decide (y.getD 2 0 = y.getD 2 0) && (decide (y.getD 3 0 = y.getD 3 0) && true))))) (sp (decide (4 ≤ y.length) && decide (y.length ≤ y.length) && true && true && ((y.length - 0).beq (y.length - 0) && true)) (sp (y.length.beq y.length && y.length.beq y.length && true) (sp (bif false then true else bif true then !(y.getD 0 0 == 109 && (y.getD 1 0 == 117 && (y.getD 2 0 == 109 && (y.getD 3 0 == 1 && true)))) else y.getD 0 0 == 109 && (y.getD 1 0 == 117 && (y.getD 2 0 == 109 && (y.getD 3 0 == 1 && true)))) ((∃ (y : DecE), decP x.bs = DecR.ok y.d ∧ False) ∨ ∃ (y : DecE), decP x.bs = DecR.no y.e ∧ [AV.tup [AV.agg [nI 0, AV.nils, nU 0, nU 0, nU 0,
  nU 0, nU 0, nU 0, nU 0, nU 0, nU 0, nU 0, nU 0, nU 0, nU 0, nU 0, nU 0, nU 0, nU 0, nU 0, AV.bool false, nI 0, AV.nils, AV.nils, AV.nils, AV.nils, AV.nils, nU 0, nU 0, nU 0, nU 0, nU 0, nU 0, nU 0, nU 0], nI 291]] = [AV.tup [AV.agg [nI 0, AV.nils, nU 0, nU 0, nU 0, nU 0, nU 0, nU 0, nU 0, nU 0, nU 0, nU 0, nU 0, nU 0, nU 0, nU 0, nU 0, nU 0, nU 0, nU 0, AV.bool false, nI 0, AV.nils, AV.nils, AV.nils, AV.nils, AV.nils, nU 0, nU 0, nU 0, nU 0, nU 0, nU 0, nU 0, nU 0], nI y.e]] ∧ bR x.bs = bR x.bs ∧ True) (sp (decide (4 ≤ y.length) && decide (y.length ≤ y.length) && decide (y.length ≤ y.length) && true && true) ((4 ≤ y.length ∧ y.length ≤ 140737488355328) ∧ [AV.ptr 5 0 0] = [AV.ptr 5 0 0] ∧ (some (ABlk.mk true [AV.sl 3 4 0 (y.length - 4) (y.length - 4) false].length (AC.cells [AV.sl 3 4 0 (y.length - 4) (y.length - 4) false])) = some (bC [AV.sl 3 4 0 (y.length - 4) (y.length - 4) false]) ∧
  some (bW y) = some (bW y) ∧ True) ∧ (∀ (y_1 : DvE), savP y 4 = PR.ok y_1.d y_1.o ∧ y_1.o ≤ y.length → sp (decide ((↑(y.length - y_1.o) : Int) > 0)) ((∃ (y : DecE), decP x.bs = DecR.ok y.d ∧ False) ∨ ∃ (y : DecE), decP x.bs = DecR.no y.e ∧ [AV.tup [AV.agg [nI 0, AV.nils, nU 0, nU 0, nU 0, nU 0, nU 0, nU 0, nU 0, nU 0, nU 0, nU 0, nU 0, nU 0, nU 0, nU 0, nU 0, nU 0, nU 0, nU 0, AV.bool false, nI 0, AV.nils, AV.nils, AV.nils, AV.nils, AV.nils, nU 0, nU 0, nU 0, nU 0, nU 0, nU 0, nU 0, nU 0], nI 291]] = [AV.tup [AV.agg [nI 0, AV.nils, nU 0, nU 0, nU 0, nU 0, nU 0, nU 0, nU 0, nU 0, nU 0, nU 0, nU 0, nU 0, nU 0, nU 0, nU 0, nU 0, nU 0, nU 0, AV.bool false, nI 0, AV.nils, AV.nils, AV.nils, AV.nils, AV.nils, nU 0, nU 0, nU 0, nU 0, nU 0, nU 0, nU 0, nU 0], nI y.e]] ∧ bR x.bs = bR x.bs ∧ True) (((y_1.d.mem.length ≤ 140737488351232 ∧ y_1.d.mem.length ≤ y_1.d.mem.length) ∧ (y_1.d.notes.length ≤
  5864062014634 ∧ y_1.d.notes.length ≤ y_1.d.notes.length) ∧ (y_1.d.out.length ≤ 140737488351232 ∧ y_1.d.out.length ≤ y_1.d.out.length) ∧ (y_1.d.disk.length ≤ 140737488351232 ∧ y_1.d.disk.length ≤ y_1.d.disk.length) ∧ (y_1.d.queue.length ≤ 140737488351232 ∧ y_1.d.queue.length ≤ y_1.d.queue.length) ∧ y_1.d.script.length ≤ 140737488351232 ∧ y_1.d.script.length ≤ y_1.d.script.length) ∧ [] ++ [AV.agg [nI y_1.d.fr, AV.msl 6 0 0 y_1.d.mem.length y_1.d.mem.length, nU y_1.d.s.r0, nU y_1.d.s.r1, nU y_1.d.s.r2, nU y_1.d.s.r3, nU y_1.d.s.r4, nU y_1.d.s.r5, nU y_1.d.s.r6, nU y_1.d.s.r7, nU y_1.d.s.pc, nU y_1.d.s.ps, nU y_1.d.s.c0, nU y_1.d.s.c1, nU y_1.d.s.c2, nU y_1.d.s.c3, nU y_1.d.s.c4, nU y_1.d.s.c5, nU y_1.d.s.c6, nU y_1.d.s.c7, AV.bool y_1.d.s.h, nI y_1.d.steps, AV.msl 7 0 0 y_1.d.notes.length y_1.d.notes.length, AV.msl 8 0 0 y_1.d.out.length y_1.d.out.length, AV.msl 9 0 0 y_1.d.disk.length
  y_1.d.disk.length, AV.msl 10 0 0 y_1.d.queue.length y_1.d.queue.length, AV.msl 11 0 0 y_1.d.script.length y_1.d.script.length, nU (y_1.d.bl.getD 0 0), nU (y_1.d.bl.getD 1 0), nU (y_1.d.bl.getD 2 0), nU (y_1.d.bl.getD 3 0), nU (y_1.d.bl.getD 4 0), nU (y_1.d.bl.getD 5 0), nU (y_1.d.bl.getD 6 0), nU (y_1.d.bl.getD 7 0)]] ++ [] = [AV.agg [nI y_1.d.fr, AV.msl 6 0 0 y_1.d.mem.length y_1.d.mem.length, nU y_1.d.s.r0, nU y_1.d.s.r1, nU y_1.d.s.r2, nU y_1.d.s.r3, nU y_1.d.s.r4, nU y_1.d.s.r5, nU y_1.d.s.r6, nU y_1.d.s.r7, nU y_1.d.s.pc, nU y_1.d.s.ps, nU y_1.d.s.c0, nU y_1.d.s.c1, nU y_1.d.s.c2, nU y_1.d.s.c3, nU y_1.d.s.c4, nU y_1.d.s.c5, nU y_1.d.s.c6, nU y_1.d.s.c7, AV.bool y_1.d.s.h, nI y_1.d.steps, AV.msl 7 0 0 y_1.d.notes.length y_1.d.notes.length, AV.msl 8 0 0 y_1.d.out.length y_1.d.out.length, AV.msl 9 0 0 y_1.d.disk.length y_1.d.disk.length, AV.msl 10 0 0 y_1.d.queue.length
  y_1.d.queue.length, AV.msl 11 0 0 y_1.d.script.length y_1.d.script.length, nU (y_1.d.bl.getD 0 0), nU (y_1.d.bl.getD 1 0), nU (y_1.d.bl.getD 2 0), nU (y_1.d.bl.getD 3 0), nU (y_1.d.bl.getD 4 0), nU (y_1.d.bl.getD 5 0), nU (y_1.d.bl.getD 6 0), nU (y_1.d.bl.getD 7 0)]] ∧ (some (bR y_1.d.mem) = some (bR y_1.d.mem) ∧ some (ABlk.mk false 4 (AC.recs y_1.d.notes.length fun (i : Nat) => [nI (y_1.d.notes.getD i instInhabitedN4.default).a, nI (y_1.d.notes.getD i instInhabitedN4.default).c, nU (y_1.d.notes.getD i instInhabitedN4.default).b, nU (y_1.d.notes.getD i instInhabitedN4.default).d])) = some (ABlk.mk false 4 (AC.recs y_1.d.notes.length fun (i : Nat) => [nI (y_1.d.notes.getD i instInhabitedN4.default).a, nI (y_1.d.notes.getD i instInhabitedN4.default).c, nU (y_1.d.notes.getD i instInhabitedN4.default).b, nU (y_1.d.notes.getD i instInhabitedN4.default).d])) ∧ some (bR y_1.d.out) = some (bR
  y_1.d.out) ∧ some (bR y_1.d.disk) = some (bR y_1.d.disk) ∧ some (bR y_1.d.queue) = some (bR y_1.d.queue) ∧ some (ABlk.mk false 3 (AC.recs y_1.d.script.length fun (i : Nat) => [nI (y_1.d.script.getD i instInhabitedE3.default).a, nI (y_1.d.script.getD i instInhabitedE3.default).k, nB (y_1.d.script.getD i instInhabitedE3.default).x])) = some (ABlk.mk false 3 (AC.recs y_1.d.script.length fun (i : Nat) => [nI (y_1.d.script.getD i instInhabitedE3.default).a, nI (y_1.d.script.getD i instInhabitedE3.default).k, nB (y_1.d.script.getD i instInhabitedE3.default).x])) ∧ True) ∧ (∀ (y : Unit), keepN (Sv.mk y_1.d.fr (Row.mk y_1.d.mem y_1.d.mem.length) (St.mk y_1.d.s.r0 y_1.d.s.r1 y_1.d.s.r2 y_1.d.s.r3 y_1.d.s.r4 y_1.d.s.r5 y_1.d.s.r6 y_1.d.s.r7 y_1.d.s.pc y_1.d.s.ps y_1.d.s.c0 y_1.d.s.c1 y_1.d.s.c2 y_1.d.s.c3 y_1.d.s.c4 y_1.d.s.c5 y_1.d.s.c6 y_1.d.s.c7 y_1.d.s.h) y_1.d.steps (NRow.mk y_1.d.notes.length
  y_1.d.notes.length (fun (i : Nat) => numAt ((fun (i : Nat) => [nI (y_1.d.notes.getD i instInhabitedN4.default).a, nI (y_1.d.notes.getD i instInhabitedN4.default).c, nU (y_1.d.notes.getD i instInhabitedN4.default).b, nU (y_1.d.notes.getD i instInhabitedN4.default).d]) i) 0) (fun (i : Nat) => numAt ((fun (i : Nat) => [nI (y_1.d.notes.getD i instInhabitedN4.default).a, nI (y_1.d.notes.getD i instInhabitedN4.default).c, nU (y_1.d.notes.getD i instInhabitedN4.default).b, nU (y_1.d.notes.getD i instInhabitedN4.default).d]) i) 1) (fun (i : Nat) => numAt ((fun (i : Nat) => [nI (y_1.d.notes.getD i instInhabitedN4.default).a, nI (y_1.d.notes.getD i instInhabitedN4.default).c, nU (y_1.d.notes.getD i instInhabitedN4.default).b, nU (y_1.d.notes.getD i instInhabitedN4.default).d]) i) 2) fun (i : Nat) => numAt ((fun (i : Nat) => [nI (y_1.d.notes.getD i instInhabitedN4.default).a, nI (y_1.d.notes.getD i
  instInhabitedN4.default).c, nU (y_1.d.notes.getD i instInhabitedN4.default).b, nU (y_1.d.notes.getD i instInhabitedN4.default).d]) i) 3) (Row.mk y_1.d.out y_1.d.out.length) (Row.mk y_1.d.disk y_1.d.disk.length) (Row.mk y_1.d.queue y_1.d.queue.length) (ERow.mk y_1.d.script.length y_1.d.script.length (fun (i : Nat) => numAt ((fun (i : Nat) => [nI (y_1.d.script.getD i instInhabitedE3.default).a, nI (y_1.d.script.getD i instInhabitedE3.default).k, nB (y_1.d.script.getD i instInhabitedE3.default).x]) i) 0) (fun (i : Nat) => numAt ((fun (i : Nat) => [nI (y_1.d.script.getD i instInhabitedE3.default).a, nI (y_1.d.script.getD i instInhabitedE3.default).k, nB (y_1.d.script.getD i instInhabitedE3.default).x]) i) 1) fun (i : Nat) => numAt ((fun (i : Nat) => [nI (y_1.d.script.getD i instInhabitedE3.default).a, nI (y_1.d.script.getD i instInhabitedE3.default).k, nB (y_1.d.script.getD i
  instInhabitedE3.default).x]) i) 2) (y_1.d.bl.getD 0 0) (y_1.d.bl.getD 1 0) (y_1.d.bl.getD 2 0) (y_1.d.bl.getD 3 0) (y_1.d.bl.getD 4 0) (y_1.d.bl.getD 5 0) (y_1.d.bl.getD 6 0) (y_1.d.bl.getD 7 0)) = 3 → (∃ (y : DecE), decP x.bs = DecR.ok y.d ∧ False) ∨ ∃ (y : DecE), decP x.bs = DecR.no y.e ∧ [AV.tup [AV.agg [nI 0, AV.nils, nU 0, nU 0, nU 0, nU 0, nU 0, nU 0, nU 0, nU 0, nU 0, nU 0, nU 0, nU 0, nU 0, nU 0, nU 0, nU 0, nU 0, nU 0, AV.bool false, nI 0, AV.nils, AV.nils, AV.nils, AV.nils, AV.nils, nU 0, nU 0, nU 0, nU 0, nU 0, nU 0, nU 0, nU 0], nI 3]] = [AV.tup [AV.agg [nI 0, AV.nils, nU 0, nU 0, nU 0, nU 0, nU 0, nU 0, nU 0, nU 0, nU 0, nU 0, nU 0, nU 0, nU 0, nU 0, nU 0, nU 0, nU 0, nU 0, AV.bool false, nI 0, AV.nils, AV.nils, AV.nils, AV.nils, AV.nils, nU 0, nU 0, nU 0, nU 0, nU 0, nU 0, nU 0, nU 0], nI y.e]] ∧ bR x.bs = bR x.bs ∧ True) ∧ (∀ (y : Unit), keepN (Sv.mk y_1.d.fr (Row.mk
  y_1.d.mem y_1.d.mem.length) (St.mk y_1.d.s.r0 y_1.d.s.r1 y_1.d.s.r2 y_1.d.s.r3 y_1.d.s.r4 y_1.d.s.r5 y_1.d.s.r6 y_1.d.s.r7 y_1.d.s.pc y_1.d.s.ps y_1.d.s.c0 y_1.d.s.c1 y_1.d.s.c2 y_1.d.s.c3 y_1.d.s.c4 y_1.d.s.c5 y_1.d.s.c6 y_1.d.s.c7 y_1.d.s.h) y_1.d.steps (NRow.mk y_1.d.notes.length y_1.d.notes.length (fun (i : Nat) => numAt ((fun (i : Nat) => [nI (y_1.d.notes.getD i instInhabitedN4.default).a, nI (y_1.d.notes.getD i instInhabitedN4.default).c, nU (y_1.d.notes.getD i instInhabitedN4.default).b, nU (y_1.d.notes.getD i instInhabitedN4.default).d]) i) 0) (fun (i : Nat) => numAt ((fun (i : Nat) => [nI (y_1.d.notes.getD i instInhabitedN4.default).a, nI (y_1.d.notes.getD i instInhabitedN4.default).c, nU (y_1.d.notes.getD i instInhabitedN4.default).b, nU (y_1.d.notes.getD i instInhabitedN4.default).d]) i) 1) (fun (i : Nat) => numAt ((fun (i : Nat) => [nI (y_1.d.notes.getD i
  instInhabitedN4.default).a, nI (y_1.d.notes.getD i instInhabitedN4.default).c, nU (y_1.d.notes.getD i instInhabitedN4.default).b, nU (y_1.d.notes.getD i instInhabitedN4.default).d]) i) 2) fun (i : Nat) => numAt ((fun (i : Nat) => [nI (y_1.d.notes.getD i instInhabitedN4.default).a, nI (y_1.d.notes.getD i instInhabitedN4.default).c, nU (y_1.d.notes.getD i instInhabitedN4.default).b, nU (y_1.d.notes.getD i instInhabitedN4.default).d]) i) 3) (Row.mk y_1.d.out y_1.d.out.length) (Row.mk y_1.d.disk y_1.d.disk.length) (Row.mk y_1.d.queue y_1.d.queue.length) (ERow.mk y_1.d.script.length y_1.d.script.length (fun (i : Nat) => numAt ((fun (i : Nat) => [nI (y_1.d.script.getD i instInhabitedE3.default).a, nI (y_1.d.script.getD i instInhabitedE3.default).k, nB (y_1.d.script.getD i instInhabitedE3.default).x]) i) 0) (fun (i : Nat) => numAt ((fun (i : Nat) => [nI (y_1.d.script.getD i
  instInhabitedE3.default).a, nI (y_1.d.script.getD i instInhabitedE3.default).k, nB (y_1.d.script.getD i instInhabitedE3.default).x]) i) 1) fun (i : Nat) => numAt ((fun (i : Nat) => [nI (y_1.d.script.getD i instInhabitedE3.default).a, nI (y_1.d.script.getD i instInhabitedE3.default).k, nB (y_1.d.script.getD i instInhabitedE3.default).x]) i) 2) (y_1.d.bl.getD 0 0) (y_1.d.bl.getD 1 0) (y_1.d.bl.getD 2 0) (y_1.d.bl.getD 3 0) (y_1.d.bl.getD 4 0) (y_1.d.bl.getD 5 0) (y_1.d.bl.getD 6 0) (y_1.d.bl.getD 7 0)) = 2 → (∃ (y : DecE), decP x.bs = DecR.ok y.d ∧ False) ∨ ∃ (y : DecE), decP x.bs = DecR.no y.e ∧ [AV.tup [AV.agg [nI 0, AV.nils, nU 0, nU 0, nU 0, nU 0, nU 0, nU 0, nU 0, nU 0, nU 0, nU 0, nU 0, nU 0, nU 0, nU 0, nU 0, nU 0, nU 0, nU 0, AV.bool false, nI 0, AV.nils, AV.nils, AV.nils, AV.nils, AV.nils, nU 0, nU 0, nU 0, nU 0, nU 0, nU 0, nU 0, nU 0], nI 2]] = [AV.tup [AV.agg [nI 0, AV.nils, nU
  0, nU 0, nU 0, nU 0, nU 0, nU 0, nU 0, nU 0, nU 0, nU 0, nU 0, nU 0, nU 0, nU 0, nU 0, nU 0, nU 0, nU 0, AV.bool false, nI 0, AV.nils, AV.nils, AV.nils, AV.nils, AV.nils, nU 0, nU 0, nU 0, nU 0, nU 0, nU 0, nU 0, nU 0], nI y.e]] ∧ bR x.bs = bR x.bs ∧ True) ∧ (∀ (y : Unit), keepN (Sv.mk y_1.d.fr (Row.mk y_1.d.mem y_1.d.mem.length) (St.mk y_1.d.s.r0 y_1.d.s.r1 y_1.d.s.r2 y_1.d.s.r3 y_1.d.s.r4 y_1.d.s.r5 y_1.d.s.r6 y_1.d.s.r7 y_1.d.s.pc y_1.d.s.ps y_1.d.s.c0 y_1.d.s.c1 y_1.d.s.c2 y_1.d.s.c3 y_1.d.s.c4 y_1.d.s.c5 y_1.d.s.c6 y_1.d.s.c7 y_1.d.s.h) y_1.d.steps (NRow.mk y_1.d.notes.length y_1.d.notes.length (fun (i : Nat) => numAt ((fun (i : Nat) => [nI (y_1.d.notes.getD i instInhabitedN4.default).a, nI (y_1.d.notes.getD i instInhabitedN4.default).c, nU (y_1.d.notes.getD i instInhabitedN4.default).b, nU (y_1.d.notes.getD i instInhabitedN4.default).d]) i) 0) (fun (i : Nat) => numAt ((fun (i : Nat)
  => [nI (y_1.d.notes.getD i instInhabitedN4.default).a, nI (y_1.d.notes.getD i instInhabitedN4.default).c, nU (y_1.d.notes.getD i instInhabitedN4.default).b, nU (y_1.d.notes.getD i instInhabitedN4.default).d]) i) 1) (fun (i : Nat) => numAt ((fun (i : Nat) => [nI (y_1.d.notes.getD i instInhabitedN4.default).a, nI (y_1.d.notes.getD i instInhabitedN4.default).c, nU (y_1.d.notes.getD i instInhabitedN4.default).b, nU (y_1.d.notes.getD i instInhabitedN4.default).d]) i) 2) fun (i : Nat) => numAt ((fun (i : Nat) => [nI (y_1.d.notes.getD i instInhabitedN4.default).a, nI (y_1.d.notes.getD i instInhabitedN4.default).c, nU (y_1.d.notes.getD i instInhabitedN4.default).b, nU (y_1.d.notes.getD i instInhabitedN4.default).d]) i) 3) (Row.mk y_1.d.out y_1.d.out.length) (Row.mk y_1.d.disk y_1.d.disk.length) (Row.mk y_1.d.queue y_1.d.queue.length) (ERow.mk y_1.d.script.length y_1.d.script.length (fun (i : Nat)
  => numAt ((fun (i : Nat) => [nI (y_1.d.script.getD i instInhabitedE3.default).a, nI (y_1.d.script.getD i instInhabitedE3.default).k, nB (y_1.d.script.getD i instInhabitedE3.default).x]) i) 0) (fun (i : Nat) => numAt ((fun (i : Nat) => [nI (y_1.d.script.getD i instInhabitedE3.default).a, nI (y_1.d.script.getD i instInhabitedE3.default).k, nB (y_1.d.script.getD i instInhabitedE3.default).x]) i) 1) fun (i : Nat) => numAt ((fun (i : Nat) => [nI (y_1.d.script.getD i instInhabitedE3.default).a, nI (y_1.d.script.getD i instInhabitedE3.default).k, nB (y_1.d.script.getD i instInhabitedE3.default).x]) i) 2) (y_1.d.bl.getD 0 0) (y_1.d.bl.getD 1 0) (y_1.d.bl.getD 2 0) (y_1.d.bl.getD 3 0) (y_1.d.bl.getD 4 0) (y_1.d.bl.getD 5 0) (y_1.d.bl.getD 6 0) (y_1.d.bl.getD 7 0)) = 0 → (∃ (y : DecE), decP x.bs = DecR.ok y.d ∧ [AV.tup [AV.agg [nI y_1.d.fr, AV.msl 6 0 0 y_1.d.mem.length y_1.d.mem.length, nU
  y_1.d.s.r0, nU y_1.d.s.r1, nU y_1.d.s.r2, nU y_1.d.s.r3, nU y_1.d.s.r4, nU y_1.d.s.r5, nU y_1.d.s.r6, nU y_1.d.s.r7, nU y_1.d.s.pc, nU y_1.d.s.ps, nU y_1.d.s.c0, nU y_1.d.s.c1, nU y_1.d.s.c2, nU y_1.d.s.c3, nU y_1.d.s.c4, nU y_1.d.s.c5, nU y_1.d.s.c6, nU y_1.d.s.c7, AV.bool y_1.d.s.h, nI y_1.d.steps, AV.msl 7 0 0 y_1.d.notes.length y_1.d.notes.length, AV.msl 8 0 0 y_1.d.out.length y_1.d.out.length, AV.msl 9 0 0 y_1.d.disk.length y_1.d.disk.length, AV.msl 10 0 0 y_1.d.queue.length y_1.d.queue.length, AV.msl 11 0 0 y_1.d.script.length y_1.d.script.length, nU (y_1.d.bl.getD 0 0), nU (y_1.d.bl.getD 1 0), nU (y_1.d.bl.getD 2 0), nU (y_1.d.bl.getD 3 0), nU (y_1.d.bl.getD 4 0), nU (y_1.d.bl.getD 5 0), nU (y_1.d.bl.getD 6 0), nU (y_1.d.bl.getD 7 0)], nI 0]] = [AV.tup [AV.agg [nI y.d.fr, AV.msl 6 0 0 y.d.mem.length y.d.mem.length, nU y.d.s.r0, nU y.d.s.r1, nU y.d.s.r2, nU y.d.s.r3, nU y.d.s.r4, nU
  y.d.s.r5, nU y.d.s.r6, nU y.d.s.r7, nU y.d.s.pc, nU y.d.s.ps, nU y.d.s.c0, nU y.d.s.c1, nU y.d.s.c2, nU y.d.s.c3, nU y.d.s.c4, nU y.d.s.c5, nU y.d.s.c6, nU y.d.s.c7, AV.bool y.d.s.h, nI y.d.steps, AV.msl 7 0 0 y.d.notes.length y.d.notes.length, AV.msl 8 0 0 y.d.out.length y.d.out.length, AV.msl 9 0 0 y.d.disk.length y.d.disk.length, AV.msl 10 0 0 y.d.queue.length y.d.queue.length, AV.msl 11 0 0 y.d.script.length y.d.script.length, nU (y.d.bl.getD 0 0), nU (y.d.bl.getD 1 0), nU (y.d.bl.getD 2 0), nU (y.d.bl.getD 3 0), nU (y.d.bl.getD 4 0), nU (y.d.bl.getD 5 0), nU (y.d.bl.getD 6 0), nU (y.d.bl.getD 7 0)], nI 0]] ∧ bR x.bs = bR x.bs ∧ bR y_1.d.mem = bR y.d.mem ∧ (false = false ∧ 4 = 4 ∧ y_1.d.notes.length = y.d.notes.length ∧ ∀ (i : Nat), i < y_1.d.notes.length → [nI (y_1.d.notes.getD i instInhabitedN4.default).a, nI (y_1.d.notes.getD i instInhabitedN4.default).c, nU (y_1.d.notes.getD i
  instInhabitedN4.default).b, nU (y_1.d.notes.getD i instInhabitedN4.default).d] = [nI (y.d.notes.getD i instInhabitedN4.default).a, nI (y.d.notes.getD i instInhabitedN4.default).c, nU (y.d.notes.getD i instInhabitedN4.default).b, nU (y.d.notes.getD i instInhabitedN4.default).d]) ∧ bR y_1.d.out = bR y.d.out ∧ bR y_1.d.disk = bR y.d.disk ∧ bR y_1.d.queue = bR y.d.queue ∧ (false = false ∧ 3 = 3 ∧ y_1.d.script.length = y.d.script.length ∧ ∀ (i : Nat), i < y_1.d.script.length → [nI (y_1.d.script.getD i instInhabitedE3.default).a, nI (y_1.d.script.getD i instInhabitedE3.default).k, nB (y_1.d.script.getD i instInhabitedE3.default).x] = [nI (y.d.script.getD i instInhabitedE3.default).a, nI (y.d.script.getD i instInhabitedE3.default).k, nB (y.d.script.getD i instInhabitedE3.default).x]) ∧ True) ∨ ∃ (y : DecE), decP x.bs = DecR.no y.e ∧ [AV.tup [AV.agg [nI y_1.d.fr, AV.msl 6 0 0 y_1.d.mem.length
  y_1.d.mem.length, nU y_1.d.s.r0, nU y_1.d.s.r1, nU y_1.d.s.r2, nU y_1.d.s.r3, nU y_1.d.s.r4, nU y_1.d.s.r5, nU y_1.d.s.r6, nU y_1.d.s.r7, nU y_1.d.s.pc, nU y_1.d.s.ps, nU y_1.d.s.c0, nU y_1.d.s.c1, nU y_1.d.s.c2, nU y_1.d.s.c3, nU y_1.d.s.c4, nU y_1.d.s.c5, nU y_1.d.s.c6, nU y_1.d.s.c7, AV.bool y_1.d.s.h, nI y_1.d.steps, AV.msl 7 0 0 y_1.d.notes.length y_1.d.notes.length, AV.msl 8 0 0 y_1.d.out.length y_1.d.out.length, AV.msl 9 0 0 y_1.d.disk.length y_1.d.disk.length, AV.msl 10 0 0 y_1.d.queue.length y_1.d.queue.length, AV.msl 11 0 0 y_1.d.script.length y_1.d.script.length, nU (y_1.d.bl.getD 0 0), nU (y_1.d.bl.getD 1 0), nU (y_1.d.bl.getD 2 0), nU (y_1.d.bl.getD 3 0), nU (y_1.d.bl.getD 4 0), nU (y_1.d.bl.getD 5 0), nU (y_1.d.bl.getD 6 0), nU (y_1.d.bl.getD 7 0)], nI 0]] = [AV.tup [AV.agg [nI 0, AV.nils, nU 0, nU 0, nU 0, nU 0, nU 0, nU 0, nU 0, nU 0, nU 0, nU 0, nU 0, nU 0, nU 0, nU 0, nU
  0, nU 0, nU 0, nU 0, AV.bool false, nI 0, AV.nils, AV.nils, AV.nils, AV.nils, AV.nils, nU 0, nU 0, nU 0, nU 0, nU 0, nU 0, nU 0, nU 0], nI y.e]] ∧ bR x.bs = bR x.bs ∧ True) ∧ True)) ∧ (∀ (y_1 : DvE), savP y 4 = PR.no y_1.e → sp (decide (y_1.e = y_1.e)) (sp (decide (y_1.e = y_1.e)) (sp (decide (y_1.e = y_1.e)) ((∃ (y : DecE), decP x.bs = DecR.ok y.d ∧ False) ∨ ∃ (y : DecE), decP x.bs = DecR.no y.e ∧ [AV.tup [AV.agg [nI 0, AV.nils, nU 0, nU 0, nU 0, nU 0, nU 0, nU 0, nU 0, nU 0, nU 0, nU 0, nU 0, nU 0, nU 0, nU 0, nU 0, nU 0, nU 0, nU 0, AV.bool false, nI 0, AV.nils, AV.nils, AV.nils, AV.nils, AV.nils, nU 0, nU 0, nU 0, nU 0, nU 0, nU 0, nU 0, nU 0], nI y_1.e]] = [AV.tup [AV.agg [nI 0, AV.nils, nU 0, nU 0, nU 0, nU 0, nU 0, nU 0, nU 0, nU 0, nU 0, nU 0, nU 0, nU 0, nU 0, nU 0, nU 0, nU 0, nU 0, nU 0, AV.bool false, nI 0, AV.nils, AV.nils, AV.nils, AV.nils, AV.nils, nU 0, nU 0, nU 0, nU 0,
  nU 0, nU 0, nU 0, nU 0], nI y.e]] ∧ bR x.bs = bR x.bs ∧ True) False) False) False) ∧ True) False)) False) False) False) False) False) False) False) False) False) False) False) False)) ∧ (∀ (y : List Int), openN x.bs = OpenR.no 290 → (∃ (y : DecE), decP x.bs = DecR.ok y.d ∧ False) ∨ ∃ (y : DecE), decP x.bs = DecR.no y.e ∧ [AV.tup [AV.agg [nI 0, AV.nils, nU 0, nU 0, nU 0, nU 0, nU 0, nU 0, nU 0, nU 0, nU 0, nU 0, nU 0, nU 0, nU 0, nU 0, nU 0, nU 0, nU 0, nU 0, AV.bool false, nI 0, AV.nils, AV.nils, AV.nils, AV.nils, AV.nils, nU 0, nU 0, nU 0, nU 0, nU 0, nU 0, nU 0, nU 0], nI 290]] = [AV.tup [AV.agg [nI 0, AV.nils, nU 0, nU 0, nU 0, nU 0, nU 0, nU 0, nU 0, nU 0, nU 0, nU 0, nU 0, nU 0, nU 0, nU 0, nU 0, nU 0, nU 0, nU 0, AV.bool false, nI 0, AV.nils, AV.nils, AV.nils, AV.nils, AV.nils, nU 0, nU 0, nU 0, nU 0, nU 0, nU 0, nU 0, nU 0], nI y.e]] ∧ bR x.bs = bR x.bs ∧ True) ∧ (∀ (y : List Int),
  openN x.bs = OpenR.no 292 → (∃ (y : DecE), decP x.bs = DecR.ok y.d ∧ False) ∨ ∃ (y : DecE), decP x.bs = DecR.no y.e ∧ [AV.tup [AV.agg [nI 0, AV.nils, nU 0, nU 0, nU 0, nU 0, nU 0, nU 0, nU 0, nU 0, nU 0, nU 0, nU 0, nU 0, nU 0, nU 0, nU 0, nU 0, nU 0, nU 0, AV.bool false, nI 0, AV.nils, AV.nils, AV.nils, AV.nils, AV.nils, nU 0, nU 0, nU 0, nU 0, nU 0, nU 0, nU 0, nU 0], nI 292]] = [AV.tup [AV.agg [nI 0, AV.nils, nU 0, nU 0, nU 0, nU 0, nU 0, nU 0, nU 0, nU 0, nU 0, nU 0, nU 0, nU 0, nU 0, nU 0, nU 0, nU 0, nU 0, nU 0, AV.bool false, nI 0, AV.nils, AV.nils, AV.nils, AV.nils, AV.nils, nU 0, nU 0, nU 0, nU 0, nU 0, nU 0, nU 0, nU 0], nI y.e]] ∧ bR x.bs = bR x.bs ∧ True) ∧ True
theorem dec_c_e (x : OpenX) : some (dec_c_V x) = (decC.condD sp Go.Proofs.Tryd.prog (drP sp Go.Proofs.Tryd.prog) noLoops (vF sp Go.Proofs.Tryd.prog (drP sp Go.Proofs.Tryd.prog) noLoops (orK (openC.orc sp) (orK (rdSavedC.orc sp) (keepC.orc sp))) 40 3) (vRD sp Go.Proofs.Tryd.prog noBaseK (drP sp Go.Proofs.Tryd.prog noBaseK) noLoops 40) 2 60 x) := by kernel_rfl
set_option maxRecDepth 100000 in
set_option maxHeartbeats 8000000 in
theorem decC_ok : decC.OK Go.Proofs.Tryd.prog := by
  refine Con.byD hmix (noLoops_ok _) (vF_ok (fun c hc => drP_ok hmix c hc) (noLoops_ok _) (orK_ok (Con.orc_ok openC_ok) (orK_ok (Con.orc_ok rdSaved_ok) (Con.orc_ok keepC_ok))) 40 3) (vRD_ok (noBaseK_ok _) (drP_ok hmix _ (noBaseK_ok _)) (noLoops_ok _) 40) dec_c_V dec_c_e (fun x hx => ?_)
  obtain ⟨h1, h2⟩ := hx
  unfold dec_c_V
  refine ⟨⟨by omega, h2⟩, rfl, ⟨rfl, trivial⟩, (fun y hy => ?_), (fun y hy => .inr ⟨⟨Dv0, 290⟩, by unfold decP; rw [hy], rfl, rfl, trivial⟩), (fun y hy => .inr ⟨⟨Dv0, 292⟩, by unfold decP; rw [hy], rfl, rfl, trivial⟩), trivial⟩
  have hy : openN x.bs = .ok y := hy
  have hD : decP x.bs = decIn y := by unfold decP; rw [hy]
  have hly : y.length ≤ x.bs.length := by
    unfold openN at hy
    split at hy
    · cases hy
    · split at hy
      · cases hy
      · cases hy; simp
  refine spI (fun hl => ?_) (fun hl => ?_)
  · refine spT (by rw [hl]; rfl) (spT (beq_self_eq_true _) (spT (decide_eq_true rfl) (spT (by simp) ?_)))
    have hl : y.length < 4 := by have := of_decide_eq_true hl; omega
    exact .inr ⟨⟨Dv0, 291⟩, by rw [hD]; unfold decIn; rw [if_pos hl], rfl, rfl, trivial⟩
  · have hl4 : ¬ y.length < 4 := by have := of_decide_eq_false hl; omega
    have c1 : (decide (0 < y.length) && (decide (1 < y.length) && (decide (2 < y.length) && (decide (3 < y.length) && true))) && (decide (y.getD 0 0 = y.getD 0 0) && (decide (y.getD 1 0 = y.getD 1 0) && (decide (y.getD 2 0 = y.getD 2 0) && (decide (y.getD 3 0 = y.getD 3 0) && true))))) = true := by
      rw [decide_eq_true (show 0 < y.length by omega), decide_eq_true (show 1 < y.length by omega), decide_eq_true (show 2 < y.length by omega), decide_eq_true (show 3 < y.length by omega)]
      simp
    have c2 : (decide (4 ≤ y.length) && decide (y.length ≤ y.length) && true && true && ((y.length - 0).beq (y.length - 0) && true)) = true := by
      rw [decide_eq_true (show 4 ≤ y.length by omega)]
      simp
    have c3 : (y.length.beq y.length && y.length.beq y.length && true) = true := by simp
    refine spT c1 (spT c2 (spT c3 (spT (by rw [hl]; rfl) (spT (beq_self_eq_true _) (spT (decide_eq_true rfl) (spT c3 (spT (beq_self_eq_true _) (spT (beq_self_eq_true _) (spT c1 (spT c2 (spT c3 ?_)))))))))))
    refine spI (fun hm => ?_) (fun hm => ?_)
    · have hm : (!magicB y) = true := hm
      have hm : magicB y = false := by simpa using hm
      exact .inr ⟨⟨Dv0, 291⟩, by rw [hD]; unfold decIn; rw [if_neg hl4, if_pos hm], rfl, rfl, trivial⟩
    · have hm : (!magicB y) = false := hm
      have hm : ¬ magicB y = false := by simpa using hm
      have hI : decP x.bs = decGo y.length (savP y 4) := by
        rw [hD]; unfold decIn; rw [if_neg hl4, if_neg hm]
      refine spT (by rw [decide_eq_true (show 4 ≤ y.length by omega)]; simp) ⟨⟨by omega, by omega⟩, rfl, ⟨rfl, rfl, trivial⟩, (fun y1 hy1 => ?_), (fun y1 hy1 => ?_), trivial⟩
      · obtain ⟨g1, g2⟩ := hy1
        have g1 : savP y 4 = .ok y1.d y1.o := g1
        rw [g1] at hI
        simp only [decGo] at hI
        refine spI (fun h => ?_) (fun h => ?_)
        · have h : y1.o < y.length := by have := of_decide_eq_true h; omega
          rw [if_pos h] at hI
          exact .inr ⟨⟨Dv0, 291⟩, hI, rfl, rfl, trivial⟩
        · have h : ¬ y1.o < y.length := by have := of_decide_eq_false h; omega
          rw [if_neg h] at hI
          refine ⟨(savP_fine g1 (by omega)).1, rfl, ⟨rfl, rfl, rfl, rfl, rfl, rfl, trivial⟩, (fun _ h3 => ?_), (fun _ h2 => ?_), (fun _ h0 => ?_), trivial⟩
          · have h3 : keepN y1.d.sv = 3 := h3
            exact .inr ⟨⟨Dv0, 3⟩, by rw [hI, h3]; rfl, rfl, rfl, trivial⟩
          · have h2 : keepN y1.d.sv = 2 := h2
            exact .inr ⟨⟨Dv0, 2⟩, by rw [hI, h2]; rfl, rfl, rfl, trivial⟩
          · have h0 : keepN y1.d.sv = 0 := h0
            rw [if_pos h0] at hI
            exact .inl ⟨⟨y1.d, 0⟩, hI, rfl, rfl, rfl, ⟨rfl, rfl, rfl, fun _ _ => rfl⟩, rfl, rfl, rfl, ⟨rfl, rfl, rfl, fun _ _ => rfl⟩, trivial⟩
      · have g1 : savP y 4 = .no y1.e := hy1
        rw [g1] at hI
        exact spT (decide_eq_true rfl) (spT (decide_eq_true rfl) (spT (decide_eq_true rfl) (.inr ⟨⟨Dv0, y1.e⟩, hI, rfl, rfl, trivial⟩)))
end Go.Proofs.YtmbcpmbpkdeioaaDoor.W
/- Numbers written and read again: plain law. No condition. -/
namespace Go.Proofs.YtmbcpmbpkdeioaaDoor.W
open Go Go.RowKit Go.Eng
set_option maxRecDepth 100000
set_option linter.unusedVariables false
set_option linter.unusedSimpArgs false
theorem or128 {m : Int} (h0 : 0 ≤ m) (h1 : m < 256) : bits .or .u8 m 128 = m % 128 + 128 := by
  obtain ⟨a, rfl⟩ := Int.eq_ofNat_of_zero_le h0
  have ha : a < 256 := by omega
  rw [show (128 : Int) = ((128 : Nat) : Int) from rfl, (bits_nat .u8 8 (by decide) wraps_u8 a 128 ha (by decide)).2]
  have key : ∀ m : Fin 256, m.val ||| 128 = m.val % 128 + 128 := by decide +kernel
  have := key ⟨a, ha⟩
  simp only [] at this
  rw [this]
  omega
theorem and127 {x : Int} (h0 : 0 ≤ x) (h1 : x < 256) : bits .and .u8 x 127 = x % 128 := bits_mask .u8 8 (by decide) wraps_u8 7 (by decide) x h0 h1
theorem wraps_u64 (n : Int) (h₀ : 0 ≤ n) (h₁ : n < 2 ^ 64) : IntKind.u64.wrap n = n := by rw [IntKind.wrap_u64]; omega
theorem bits_or_comm (k : IntKind) (a b : Int) : bits .or k a b = bits .or k b a := by
  simp only [bits]
  rw [BitVec.or_comm]
theorem pow7 (k : Nat) : (2 : Int) ^ (7 * k) = 128 ^ k := by
  rw [Int.pow_mul]; rfl
theorem accN_eq {k : Nat} {acc x : Int} (hk : k ≤ 9) (h0 : 0 ≤ acc) (h1 : acc < 128 ^ k) (hx0 : 0 ≤ x) (hx1 : x < 256) (ht : x % 128 * 128 ^ k < 18446744073709551616) : accN k acc x = acc + x % 128 * 128 ^ k := by
  unfold accN
  have hP : (0 : Int) < 128 ^ k := Int.pow_pos (by decide)
  have e1 : (IntKind.wrap .i64 (7 * (k : Int))).toNat = 7 * k := by rw [IntWalk.i64_in _ (by omega)]; omega
  rw [and127 hx0 hx1, e1, Nat.min_eq_left (by omega), pow7, wraps_u64 (x % 128) (by omega) (by omega)]
  have hm0 : 0 ≤ x % 128 * 128 ^ k := Int.mul_nonneg (by omega) (Int.le_of_lt hP)
  rw [wraps_u64 _ hm0 (by exact ht), bits_or_comm]
  have hlt : acc < 18446744073709551616 := by
    have : (128 : Int) ^ k ≤ 128 ^ 9 := by exact_mod_cast Nat.pow_le_pow_right (show 0 < 128 by decide) hk
    have e : (128 : Int) ^ 9 = 9223372036854775808 := by decide
    omega
  rw [bits_join .u64 64 (by decide) wraps_u64 (7 * k) (x % 128 * 128 ^ k) acc hm0 (by rw [pow7]; exact Int.mul_emod_left _ _) (by exact ht) h0 (by rw [pow7]; exact h1) (by exact hlt)]
  omega
theorem getG_put : ∀ (m : Nat) (n : Int) (k : Nat) (acc : Int) (rest : List Int), n.toNat ≤ m → 0 ≤ n → (0 < k → 0 < n) → k ≤ 9 → 0 ≤ acc → acc < 128 ^ k → n * 128 ^ k + acc < 18446744073709551616 → getG (putN n ++ rest) k acc = (acc + n * 128 ^ k, ((k + (putN n).length : Nat) : Int), 0) := by
  intro m
  induction m with
  | zero =>
    intro n k acc rest hm h0 hk hk9 ha ha1 ht
    obtain rfl : n = 0 := by omega
    obtain rfl : k = 0 := by omega
    have e : putN 0 = [0] := by unfold putN; rfl
    rw [e]
    simp only [List.singleton_append, getG]
    rw [accN_eq (by omega) ha ha1 (by omega) (by omega) (by simp)]
    simp
  | succ m ih =>
    intro n k acc rest hm h0 hk hk9 ha ha1 ht
    have hP : (0 : Int) < 128 ^ k := Int.pow_pos (by decide)
    unfold putN
    by_cases hs : n < 128
    · rw [if_pos hs]
      have hw : IntKind.wrap .u8 n = n := by rw [IntKind.wrap_u8]; omega
      have e1 : n % 128 = n := by omega
      simp only [hw, List.singleton_append, getG]
      rw [if_neg, if_neg (by omega), if_neg (by omega), accN_eq hk9 ha ha1 h0 (by omega) (by rw [e1]; omega), e1]
      · simp
      · rintro ⟨rfl, h⟩
        have e : (128 : Int) ^ 9 = 9223372036854775808 := by decide
        rw [e] at ht
        omega
    · rw [if_neg hs]
      have hk8 : k ≤ 8 := by
        rcases Nat.lt_or_ge 8 k with h | h
        · obtain rfl : k = 9 := by omega
          have e : (128 : Int) ^ 9 = 9223372036854775808 := by decide
          rw [e] at ht
          omega
        · exact h
      have hw : IntKind.wrap .u8 n = n % 256 := IntKind.wrap_u8 n
      have hd : n.fdiv 128 = n / 128 := Int.fdiv_eq_ediv_of_nonneg _ (by decide)
      rw [hw, hd, or128 (by omega) (by omega)]
      have e1 : n % 256 % 128 = n % 128 := by omega
      rw [e1]
      simp only [List.cons_append, getG]
      have e2 : (n % 128 + 128) % 128 = n % 128 := by omega
      have hPP : (128 : Int) ^ (k + 1) = 128 ^ k * 128 := Int.pow_succ _ _
      have hmul : n % 128 * 128 ^ k ≤ 127 * 128 ^ k := Int.mul_le_mul_of_nonneg_right (by omega) (Int.le_of_lt hP)
      have hmul0 : 0 ≤ n % 128 * 128 ^ k := Int.mul_nonneg (by omega) (Int.le_of_lt hP)
      have hdiv : n * 128 ^ k = n / 128 * (128 ^ k * 128) + n % 128 * 128 ^ k := by
        have : n = n / 128 * 128 + n % 128 := by omega
        conv => lhs; rw [this]
        rw [Int.add_mul, Int.mul_assoc, Int.mul_comm 128 (128 ^ k)]
      have hq : 0 ≤ n / 128 * (128 ^ k * 128) := Int.mul_nonneg (by omega) (by omega)
      rw [if_neg (by omega), if_pos (by omega), accN_eq hk9 ha ha1 (by omega) (by omega) (by rw [e2]; omega), e2]
      rw [ih (n / 128) (k + 1) (acc + n % 128 * 128 ^ k) rest (by omega) (by omega) (fun _ => by omega) (by omega) (by omega) (by rw [hPP]; omega) (by rw [hPP]; omega), hPP]
      refine Prod.ext ?_ (Prod.ext ?_ rfl)
      · show acc + n % 128 * 128 ^ k + n / 128 * (128 ^ k * 128) = acc + n * 128 ^ k
        omega
      · simp; omega
theorem getN_put {n : Int} (rest : List Int) (h0 : 0 ≤ n) (h1 : n < 18446744073709551616) : getN (putN n ++ rest) = (n, ((putN n).length : Int), 0) := by
  unfold getN
  rw [getG_put n.toNat n 0 0 rest (Nat.le_refl _) h0 (fun h => absurd h (by omega)) (by omega) (by omega) (by decide) (by simpa using h1)]
  simp
theorem upP_at {bs rest : List Int} {o : Nat} {most n : Int} (h : bs.drop o = putN n ++ rest) (h0 : 0 ≤ n) (h1 : n ≤ most) (h2 : n < 18446744073709551616) : upP bs most o = .ok n (o + (putN n).length) ∧ bs.drop (o + (putN n).length) = rest := by
  refine ⟨?_, ?_⟩
  · refine upP_ok ?_
    unfold upN
    rw [h, getN_put rest h0 h2]
    simp only [ne_eq, not_true_eq_false, if_false, Int.toNat_natCast]
    rw [if_neg (by omega)]
  · rw [← List.drop_drop, h]; simp
theorem enc1 {n : Int} (h0 : 0 ≤ n) (h1 : n < 18446744073709551616) (l : List Int) : encs (n :: l) = putN n ++ encs l := by
  simp only [encs]
  rw [wraps_u64 n h0 h1]
theorem numsP_at {bs : List Int} : ∀ (l : List Int) {rest : List Int} {o : Nat}, (∀ n ∈ l, 0 ≤ n ∧ n ≤ 4294967295) → bs.drop o = encs l ++ rest → numsP bs l.length o = .ok l (o + (encs l).length) ∧ bs.drop (o + (encs l).length) = rest
  | [], rest, o, _, h => by simpa [numsP, encs] using h
  | n :: l, rest, o, hl, h => by
    have hn := hl n (by simp)
    rw [enc1 hn.1 (by omega), List.append_assoc] at h
    obtain ⟨h1, h2⟩ := upP_at h hn.1 hn.2 (by omega)
    obtain ⟨h3, h4⟩ := numsP_at l (fun m hm => hl m (by simp [hm])) h2
    have e : (encs (n :: l)).length = (putN n).length + (encs l).length := by rw [enc1 hn.1 (by omega), List.length_append]
    simp only [List.length_cons, numsP, h1, PR.bind, h3]
    rw [e]
    exact ⟨by rw [Nat.add_assoc], by rw [← Nat.add_assoc]; exact h4⟩
theorem rowP_at {bs rest l : List Int} {o : Nat} {most : Int} (h : bs.drop o = rowB l ++ rest) (hl : (l.length : Int) ≤ most) (hm : most ≤ 1000000) (hb : bs.length ≤ 140737488355328) : rowP bs most o = .ok l (o + (rowB l).length) ∧ bs.drop (o + (rowB l).length) = rest := by
  have hd : bs.drop o = putN (l.length : Int) ++ (l ++ rest) := by rw [h]; simp [rowB]
  have hlen : bs.length - o = (putN (l.length : Int)).length + (l.length + rest.length) := by
    have := congrArg List.length hd
    simpa using this
  have hw : IntKind.wrap .u64 (if (0 : Int) > most then 0 else most) = most := by rw [if_neg (by omega), IntKind.wrap_u64]; omega
  refine ⟨?_, ?_⟩
  · unfold rowP rowN
    rw [hd, getN_put _ (by omega) (by omega), ← hd]
    simp only [ne_eq, not_true_eq_false, if_false]
    rw [hw, if_neg (by omega)]
    have e1 : IntKind.wrap .i64 (((bs.drop o).length : Int) - ((putN (l.length : Int)).length : Int)) = ((l.length + rest.length : Nat) : Int) := by
      rw [List.length_drop, hlen, IntWalk.i64_in _ (by omega)]; omega
    rw [e1, wraps_u64 _ (by omega) (by omega), if_neg (by omega)]
    simp only [Int.toNat_natCast]
    have e2 : (bs.drop (o + (putN (l.length : Int)).length)).take l.length = l := by
      rw [← List.drop_drop, hd]; simp
    rw [e2]
    simp [rowB]
  · rw [← List.drop_drop, h]; simp
end Go.Proofs.YtmbcpmbpkdeioaaDoor.W
/- A guest written and read again: plain law. No condition. -/
namespace Go.Proofs.YtmbcpmbpkdeioaaDoor.W
open Go Go.RowKit Go.Eng
set_option maxRecDepth 100000
set_option linter.unusedVariables false
set_option linter.unusedSimpArgs false
def dvOf (x : Sv) : Dv where
  fr := x.fr
  mem := x.mem.bs
  s := x.s
  steps := x.steps
  notes := (List.range' 0 x.notes.n).map fun i => ⟨x.notes.at_ i, x.notes.cause i, x.notes.back i, x.notes.addr i⟩
  out := x.out.bs
  disk := x.disk.bs
  queue := x.queue.bs
  script := (List.range' 0 x.script.n).map fun i => ⟨x.script.at_ i, x.script.kind i, x.script.byte i⟩
  bl := [x.b1, x.b2, x.b3, x.b4, x.b5, x.b6, x.b7, x.b8]
/-- Each number is of its kind. -/
structure Sv.wf (x : Sv) : Prop where
  st : ∀ n ∈ x.s.nums, 0 ≤ n ∧ n ≤ 4294967295
  notes : ∀ i, i < x.notes.n → (0 ≤ x.notes.back i ∧ x.notes.back i ≤ 4294967295) ∧ 0 ≤ x.notes.addr i ∧ x.notes.addr i ≤ 4294967295
  script : ∀ i, i < x.script.n → 0 ≤ x.script.byte i ∧ x.script.byte i ≤ 255
  dev : ∀ n ∈ [x.b1, x.b2, x.b3, x.b4, x.b5, x.b6, x.b7, x.b8], 0 ≤ n ∧ n ≤ 4294967295
theorem manyP_at {α : Type} {p : Nat → PR α} {bs : List Int} {f : Nat → α} {enc : Nat → List Int} (hp : ∀ i o rest, bs.drop o = enc i ++ rest → p o = .ok (f i) (o + (enc i).length) ∧ bs.drop (o + (enc i).length) = rest) (all : Nat → Nat → List Int) (h0 : ∀ k, all k 0 = []) (h1 : ∀ k m, all k (m + 1) = enc k ++ all (k + 1) m) :
    ∀ (m k o : Nat) (rest : List Int), bs.drop o = all k m ++ rest → manyP p m o = .ok ((List.range' k m).map f) (o + (all k m).length) ∧ bs.drop (o + (all k m).length) = rest := by
  intro m
  induction m with
  | zero =>
    intro k o rest h
    rw [h0] at h ⊢
    simpa [manyP] using h
  | succ m ih =>
    intro k o rest h
    rw [h1, List.append_assoc] at h
    obtain ⟨g1, g2⟩ := hp k o _ h
    obtain ⟨g3, g4⟩ := ih (k + 1) _ _ g2
    simp only [manyP, g1, PR.bind, g3, List.range'_succ, List.map_cons]
    rw [h1, List.length_append]
    exact ⟨by rw [Nat.add_assoc], by rw [← Nat.add_assoc]; exact g4⟩
theorem manyP_atB {α : Type} {p : Nat → PR α} {bs : List Int} {f : Nat → α} {enc : Nat → List Int} {N : Nat} (hp : ∀ i o rest, i < N → bs.drop o = enc i ++ rest → p o = .ok (f i) (o + (enc i).length) ∧ bs.drop (o + (enc i).length) = rest) (all : Nat → Nat → List Int) (h0 : ∀ k, all k 0 = []) (h1 : ∀ k m, all k (m + 1) = enc k ++ all (k + 1) m) :
    ∀ (m k o : Nat) (rest : List Int), k + m ≤ N → bs.drop o = all k m ++ rest → manyP p m o = .ok ((List.range' k m).map f) (o + (all k m).length) ∧ bs.drop (o + (all k m).length) = rest := by
  intro m
  induction m with
  | zero =>
    intro k o rest _ h
    rw [h0] at h ⊢
    simpa [manyP] using h
  | succ m ih =>
    intro k o rest hN h
    rw [h1, List.append_assoc] at h
    obtain ⟨g1, g2⟩ := hp k o _ (by omega) h
    obtain ⟨g3, g4⟩ := ih (k + 1) _ _ (by omega) g2
    simp only [manyP, g1, PR.bind, g3, List.range'_succ, List.map_cons]
    rw [h1, List.length_append]
    exact ⟨by rw [Nat.add_assoc], by rw [← Nat.add_assoc]; exact g4⟩
theorem cntP_at {bs rest : List Int} {o : Nat} {most n : Int} (h : bs.drop o = putN n ++ rest) (h0 : 0 ≤ n) (h1 : n ≤ most) (h2 : n ≤ 1099511627776) : cntP bs most o = .ok n (o + (putN n).length) ∧ bs.drop (o + (putN n).length) = rest := by
  obtain ⟨g1, g2⟩ := upP_at (most := 1099511627776) h h0 h2 (by omega)
  refine ⟨?_, g2⟩
  have g : upN bs o 1099511627776 = .ok n (o + (putN n).length) := by
    unfold upP at g1
    cases hu : upN bs o 1099511627776 with
    | no e => rw [hu] at g1; cases g1
    | ok a b => rw [hu] at g1; cases g1; rfl
  unfold cntP cntN
  rw [g]
  simp only []
  rw [if_neg (by omega)]
theorem noteP_at {x : Sv} (hw : x.wf) (hk : Kept x) {bs : List Int} (i o : Nat) (rest : List Int) (hi : i < x.notes.n) (h : bs.drop o = noteB x.notes i ++ rest) : noteP bs o = .ok ⟨x.notes.at_ i, x.notes.cause i, x.notes.back i, x.notes.addr i⟩ (o + (noteB x.notes i).length) ∧ bs.drop (o + (noteB x.notes i).length) = rest := by
  obtain ⟨w1, w2⟩ := hw.notes i hi
  obtain ⟨k1, k2⟩ := hk.notes i hi
  have e : noteB x.notes i = putN (x.notes.at_ i) ++ (putN (x.notes.cause i) ++ (putN (x.notes.back i) ++ putN (x.notes.addr i))) := by
    unfold noteB
    rw [enc1 k1.1 (by omega), enc1 (by omega) (by omega), enc1 w1.1 (by omega), enc1 w2.1 (by omega)]
    simp [encs]
  rw [e] at h ⊢
  simp only [List.append_assoc] at h
  obtain ⟨a1, a2⟩ := upP_at (most := 1099511627776) h k1.1 k1.2 (by omega)
  obtain ⟨b1, b2⟩ := upP_at (most := 1099511627776) a2 (by omega) (by omega) (by omega)
  obtain ⟨c1, c2⟩ := upP_at (most := 4294967295) b2 w1.1 w1.2 (by omega)
  obtain ⟨d1, d2⟩ := upP_at (most := 4294967295) c2 w2.1 w2.2 (by omega)
  simp only [noteP, PR.bind, a1, b1, c1, d1, List.length_append]
  simp only [Nat.add_assoc] at d2 ⊢
  exact ⟨trivial, d2⟩
theorem evP_at {x : Sv} (hw : x.wf) (hk : Kept x) {bs : List Int} (i o : Nat) (rest : List Int) (hi : i < x.script.n) (h : bs.drop o = evB x.script i ++ rest) : evP bs o = .ok ⟨x.script.at_ i, x.script.kind i, x.script.byte i⟩ (o + (evB x.script i).length) ∧ bs.drop (o + (evB x.script i).length) = rest := by
  have w1 := hw.script i hi
  obtain ⟨k1, k2⟩ := hk.script i hi
  have e : evB x.script i = putN (x.script.at_ i) ++ (putN (x.script.kind i) ++ putN (x.script.byte i)) := by
    unfold evB
    rw [IntWalk.i64_in _ (by omega), enc1 k1.1 (by omega), enc1 (by omega) (by omega), enc1 w1.1 (by omega)]
    simp [encs]
  rw [e] at h ⊢
  simp only [List.append_assoc] at h
  obtain ⟨a1, a2⟩ := upP_at (most := 1099511627776) h k1.1 (by omega) (by omega)
  obtain ⟨b1, b2⟩ := upP_at (most := 1099511627776) a2 (by omega) (by omega) (by omega)
  obtain ⟨c1, c2⟩ := upP_at (most := 255) b2 w1.1 w1.2 (by omega)
  simp only [evP, PR.bind, a1, b1, c1, List.length_append]
  simp only [Nat.add_assoc] at c2 ⊢
  exact ⟨trivial, c2⟩
theorem stP_at {x : Sv} (hw : x.wf) {bs rest : List Int} {o : Nat} (h : bs.drop o = encs x.s.nums ++ rest) : stP bs o = .ok x.s (o + (encs x.s.nums).length) ∧ bs.drop (o + (encs x.s.nums).length) = rest := by
  have hw := hw.st
  generalize x.s = s at *
  obtain ⟨r0, r1, r2, r3, r4, r5, r6, r7, pc, ps, c0, c1, c2, c3, c4, c5, c6, c7, hh⟩ := s
  have e : St.nums ⟨r0, r1, r2, r3, r4, r5, r6, r7, pc, ps, c0, c1, c2, c3, c4, c5, c6, c7, hh⟩ = [r0, r1, r2, r3, r4, r5, r6, r7, pc, ps, c0, c1, c2, c3, c4, c5, c6, c7] ++ [if hh then 1 else 0] := rfl
  have hst : stL [r0, r1, r2, r3, r4, r5, r6, r7, pc, ps, c0, c1, c2, c3, c4, c5, c6, c7] (if hh then 1 else 0) = ⟨r0, r1, r2, r3, r4, r5, r6, r7, pc, ps, c0, c1, c2, c3, c4, c5, c6, c7, hh⟩ := by
    cases hh <;> rfl
  have hlen : [r0, r1, r2, r3, r4, r5, r6, r7, pc, ps, c0, c1, c2, c3, c4, c5, c6, c7].length = 18 := rfl
  rw [e] at h ⊢ hw
  generalize [r0, r1, r2, r3, r4, r5, r6, r7, pc, ps, c0, c1, c2, c3, c4, c5, c6, c7] = L at *
  have hb : (0 : Int) ≤ (if hh then 1 else 0) ∧ (if hh then 1 else 0 : Int) ≤ 1 := by cases hh <;> simp
  generalize (if hh then 1 else 0 : Int) = z at *
  have ez : encs (L ++ [z]) = encs L ++ putN z := by rw [encs_append, enc1 hb.1 (by omega)]; simp [encs]
  rw [ez] at h ⊢
  rw [List.append_assoc] at h
  rw [List.length_append]
  obtain ⟨a1, a2⟩ := numsP_at L (fun n hn => hw n (List.mem_append_left _ hn)) h
  obtain ⟨b1, b2⟩ := upP_at (most := 1) a2 hb.1 hb.2 (by omega)
  rw [hlen] at a1
  simp only [stP, a1, PR.bind, b1, hst]
  simp only [Nat.add_assoc] at b2 ⊢
  exact ⟨trivial, b2⟩
end Go.Proofs.YtmbcpmbpkdeioaaDoor.W
/- A guest's bytes are decoded as it was: plain law. No condition. -/
namespace Go.Proofs.YtmbcpmbpkdeioaaDoor.W
open Go Go.RowKit Go.Eng
set_option maxRecDepth 100000
set_option linter.unusedVariables false
set_option linter.unusedSimpArgs false
theorem savP_at {x : Sv} (hw : x.wf) (hk : Kept x) {bs rest : List Int} {o : Nat} (hb : bs.length ≤ 140737488355328) (h : bs.drop o = encs [x.fr] ++ rowB x.mem.bs ++ encs x.s.nums ++ encs [x.steps, (x.notes.n : Int)] ++ notesB x.notes 0 x.notes.n ++ rowB x.out.bs ++ rowB x.disk.bs ++ rowB x.queue.bs ++ encs [(x.script.n : Int)] ++ evsB x.script 0 x.script.n ++
    encs [x.b1, x.b2, x.b3, x.b4, x.b5, x.b6, x.b7, x.b8] ++ rest) : ∃ o', savP bs o = .ok (dvOf x) o' ∧ bs.drop o' = rest := by
  have e1 : encs [x.fr] = putN x.fr := by rw [enc1 (by have := hk.fr; omega) (by have := hk.fr; omega)]; simp [encs]
  have e2 : encs [x.steps, (x.notes.n : Int)] = putN x.steps ++ putN (x.notes.n : Int) := by
    rw [enc1 (by have := hk.steps; omega) (by have := hk.steps; omega), enc1 (by omega) (by have := hk.nn; omega)]; simp [encs]
  have e3 : encs [(x.script.n : Int)] = putN (x.script.n : Int) := by rw [enc1 (by omega) (by have := hk.en; omega)]; simp [encs]
  rw [e1, e2, e3] at h
  simp only [List.append_assoc] at h
  obtain ⟨a1, a2⟩ := upP_at (most := 1099511627776) h (by have := hk.fr; omega) (by have := hk.fr; omega) (by have := hk.fr; omega)
  obtain ⟨b1, b2⟩ := rowP_at (most := 4096) a2 (by have := hk.mem; have := hk.fr; omega) (by omega) hb
  obtain ⟨c1, c2⟩ := stP_at hw b2
  obtain ⟨d1, d2⟩ := upP_at (most := 1099511627776) c2 hk.steps.1 hk.steps.2 (by have := hk.steps; omega)
  obtain ⟨f1, f2⟩ := cntP_at (most := 4096) d2 (by omega) (by have := hk.nn; omega) (by have := hk.nn; omega)
  obtain ⟨g1, g2⟩ := manyP_atB (f := fun i => (⟨x.notes.at_ i, x.notes.cause i, x.notes.back i, x.notes.addr i⟩ : N4)) (N := x.notes.n) (fun i o rest hi hd => noteP_at hw hk i o rest hi hd) (notesB x.notes) (fun _ => rfl) (fun _ _ => rfl) x.notes.n 0 _ _ (by omega) f2
  obtain ⟨i1, i2⟩ := rowP_at (most := 65536) g2 (by have := hk.out; omega) (by omega) hb
  obtain ⟨j1, j2⟩ := rowP_at (most := 2048) i2 (by have := hk.disk; omega) (by omega) hb
  obtain ⟨k1, k2⟩ := rowP_at (most := 32) j2 (by have := hk.queue; omega) (by omega) hb
  obtain ⟨l1, l2⟩ := cntP_at (most := 64) k2 (by omega) (by have := hk.en; omega) (by have := hk.en; omega)
  obtain ⟨m1, m2⟩ := manyP_atB (f := fun i => (⟨x.script.at_ i, x.script.kind i, x.script.byte i⟩ : E3)) (N := x.script.n) (fun i o rest hi hd => evP_at hw hk i o rest hi hd) (evsB x.script) (fun _ => rfl) (fun _ _ => rfl) x.script.n 0 _ _ (by omega) l2
  obtain ⟨n1, n2⟩ := numsP_at [x.b1, x.b2, x.b3, x.b4, x.b5, x.b6, x.b7, x.b8] hw.dev m2
  simp only [List.length_cons, List.length_nil, Nat.zero_add, Nat.reduceAdd] at n1
  refine ⟨_, ?_, n2⟩
  simp only [savP, a1, PR.bind, b1, c1, d1, ntP, f1, Int.toNat_natCast, g1, i1, j1, k1, esP, l1, m1, n1]
  rfl
/-! ### whether it may be kept -/
theorem all_congr {n : Nat} {p q : Nat → Bool} (h : ∀ i, i < n → p i = q i) : (List.range' 0 (n - 0)).all p = (List.range' 0 (n - 0)).all q := by
  rw [Bool.eq_iff_iff, List.all_eq_true, List.all_eq_true]
  constructor
  · intro g i hi
    have hi' : i < n := by simp [List.mem_range'] at hi; omega
    rw [← h i hi']; exact g i hi
  · intro g i hi
    have hi' : i < n := by simp [List.mem_range'] at hi; omega
    rw [h i hi']; exact g i hi
theorem getD_map_range {α : Type} [Inhabited α] (f : Nat → α) (n i : Nat) (h : i < n) : ((List.range' 0 n).map f).getD i default = f i := by
  rw [List.getD_eq_getElem?_getD, List.getElem?_map, List.getElem?_range' h]
  simp
theorem keepN_dv (x : Sv) : keepN (dvOf x).sv = keepN x := by
  have h1 : (dvOf x).sv.notes.n = x.notes.n := by simp [dvOf, Dv.sv]
  have h2 : (dvOf x).sv.script.n = x.script.n := by simp [dvOf, Dv.sv]
  have h3 : notesOk (dvOf x).sv.notes 0 = notesOk x.notes 0 := by
    unfold notesOk
    rw [h1]
    refine all_congr (fun i hi => ?_)
    have e := getD_map_range (fun i => (⟨x.notes.at_ i, x.notes.cause i, x.notes.back i, x.notes.addr i⟩ : N4)) x.notes.n i hi
    have ea : (dvOf x).sv.notes.at_ i = x.notes.at_ i := congrArg N4.a e
    have ec : (dvOf x).sv.notes.cause i = x.notes.cause i := congrArg N4.c e
    unfold noteOk
    rw [ea, ec]
  have h4 : evsOk (dvOf x).sv.script 0 = evsOk x.script 0 := by
    unfold evsOk
    rw [h2]
    refine all_congr (fun i hi => ?_)
    have e := getD_map_range (fun i => (⟨x.script.at_ i, x.script.kind i, x.script.byte i⟩ : E3)) x.script.n i hi
    have ea : (dvOf x).sv.script.at_ i = x.script.at_ i := congrArg E3.a e
    have ek : (dvOf x).sv.script.kind i = x.script.kind i := congrArg E3.k e
    have ex : (dvOf x).sv.script.byte i = x.script.byte i := congrArg E3.x e
    unfold mayN ERow.x
    rw [ea, ek, ex]
  have h5 : devN ⟨(dvOf x).sv.script, (dvOf x).sv.disk⟩ = devN ⟨x.script, x.disk⟩ := by
    unfold devN
    simp only []
    rw [h2, h4]
    rfl
  unfold keepN loadN devLN
  rw [h1, h3, h5]
  rfl
/-! ### the seal -/
theorem le32_bytes {s : Int} (h0 : 0 ≤ s) (h1 : s < 4294967296) : le32 (IntKind.wrap .u8 s) (IntKind.wrap .u8 (s.fdiv 256)) (IntKind.wrap .u8 (s.fdiv 65536)) (IntKind.wrap .u8 (s.fdiv 16777216)) = s := by
  have wu : ∀ n : Int, 0 ≤ n → n < 2 ^ 32 → IntKind.u32.wrap n = n := fun n a b => by rw [IntKind.wrap_u32]; omega
  have w : ∀ n : Int, 0 ≤ n → n < 4294967296 → IntKind.u32.wrap n = n := fun n a b => wu n a (by omega)
  rw [Int.fdiv_eq_ediv_of_nonneg _ (by decide), Int.fdiv_eq_ediv_of_nonneg _ (by decide), Int.fdiv_eq_ediv_of_nonneg _ (by decide)]
  simp only [IntKind.wrap_u8]
  unfold le32
  rw [w (s % 256) (by omega) (by omega), w (s / 256 % 256) (by omega) (by omega), w (s / 65536 % 256) (by omega) (by omega), w (s / 16777216 % 256) (by omega) (by omega)]
  rw [w (s / 256 % 256 * 256) (by omega) (by omega), w (s / 65536 % 256 * 65536) (by omega) (by omega), w (s / 16777216 % 256 * 16777216) (by omega) (by omega)]
  have j1 : bits .or .u32 (s % 256) (s / 256 % 256 * 256) = s / 256 % 256 * 256 + s % 256 := by
    rw [bits_or_comm]
    exact bits_join .u32 32 (by decide) wu 8 _ _ (by omega) (by omega) (by omega) (by omega) (by omega) (by omega)
  have j2 : bits .or .u32 (s / 256 % 256 * 256 + s % 256) (s / 65536 % 256 * 65536) = s / 65536 % 256 * 65536 + (s / 256 % 256 * 256 + s % 256) := by
    rw [bits_or_comm]
    exact bits_join .u32 32 (by decide) wu 16 _ _ (by omega) (by omega) (by omega) (by omega) (by omega) (by omega)
  have j3 : bits .or .u32 (s / 65536 % 256 * 65536 + (s / 256 % 256 * 256 + s % 256)) (s / 16777216 % 256 * 16777216) = s / 16777216 % 256 * 16777216 + (s / 65536 % 256 * 65536 + (s / 256 % 256 * 256 + s % 256)) := by
    rw [bits_or_comm]
    exact bits_join .u32 32 (by decide) wu 24 _ _ (by omega) (by omega) (by omega) (by omega) (by omega) (by omega)
  rw [j1, j2, j3]
  omega
theorem sumB_range (l : List Int) : 0 ≤ sumB l ∧ sumB l < 4294967296 := by
  have := bits_within .xor .u32 4294967295 (sumR 4294967295 l)
  have h1 : IntKind.u32.min = 0 := rfl
  have h2 : IntKind.u32.max = 4294967295 := rfl
  unfold sumB
  omega
theorem openN_seal (l : List Int) : openN (sealB l) = .ok l := by
  obtain ⟨h0, h1⟩ := sumB_range l
  have hl : (sealB l).length = l.length + 4 := by simp [sealB]
  unfold openN
  rw [if_neg (by omega), hl, Nat.add_sub_cancel]
  have ht : (sealB l).take l.length = l := by simp [sealB]
  have g : ∀ k, (sealB l).getD (l.length + k) 0 = [IntKind.wrap .u8 (sumB l), IntKind.wrap .u8 ((sumB l).fdiv 256), IntKind.wrap .u8 ((sumB l).fdiv 65536), IntKind.wrap .u8 ((sumB l).fdiv 16777216)].getD k 0 := by
    intro k
    unfold sealB
    rw [List.getD_eq_getElem?_getD, List.getElem?_append_right (by omega), Nat.add_sub_cancel_left, List.getD_eq_getElem?_getD]
  rw [ht]
  have g0 := g 0
  rw [Nat.add_zero] at g0
  rw [g0, g 1, g 2, g 3]
  simp only [List.getD_cons_zero, List.getD_cons_succ]
  rw [le32_bytes h0 h1]
  simp
/-- A guest's bytes are decoded as it was. -/
theorem decP_enc {x : Sv} (hw : x.wf) (hk : keepN x = 0) (hb : (encL x).length ≤ 140737488355328) : decP (sealB (encL x)) = .ok (dvOf x) := by
  unfold decP
  rw [openN_seal]
  simp only []
  have hm : ∃ r, encL x = 109 :: 117 :: 109 :: 1 :: r := ⟨(encL x).drop 4, rfl⟩
  obtain ⟨r, hr⟩ := hm
  have hd : (encL x).drop 4 = encs [x.fr] ++ rowB x.mem.bs ++ encs x.s.nums ++ encs [x.steps, (x.notes.n : Int)] ++ notesB x.notes 0 x.notes.n ++ rowB x.out.bs ++ rowB x.disk.bs ++ rowB x.queue.bs ++ encs [(x.script.n : Int)] ++ evsB x.script 0 x.script.n ++
    encs [x.b1, x.b2, x.b3, x.b4, x.b5, x.b6, x.b7, x.b8] ++ [] := by
    rw [List.append_nil]; rfl
  obtain ⟨o', h1, h2⟩ := savP_at hw (keepN_kept hk) hb hd
  have h3 : (encL x).length ≤ o' := by
    have := congrArg List.length h2
    simp at this
    omega
  unfold decIn
  rw [if_neg (by rw [hr]; simp), if_neg (by rw [hr]; simp [magicB]), h1]
  simp only [decGo]
  rw [if_neg (by omega), if_pos (by rw [keepN_dv]; exact hk)]
end Go.Proofs.YtmbcpmbpkdeioaaDoor.W
/- A guest's bytes are bytes, and few. No condition. -/
namespace Go.Proofs.YtmbcpmbpkdeioaaDoor.W
open Go Go.RowKit Go.Eng
set_option maxRecDepth 100000
set_option linter.unusedVariables false
set_option linter.unusedSimpArgs false
def IsBytes (l : List Int) : Prop := ∀ x ∈ l, 0 ≤ x ∧ x < 256
/-! ### a guest's bytes are bytes -/
theorem putN_bytes : ∀ (k : Nat) (n : Int), n.toNat ≤ k → IsBytes (putN n) := by
  intro k
  induction k with
  | zero =>
    intro n hn x hx
    unfold putN at hx
    rw [if_pos (by omega)] at hx
    simp only [List.mem_singleton] at hx
    rw [hx, IntKind.wrap_u8]
    omega
  | succ k ih =>
    intro n hn x hx
    unfold putN at hx
    by_cases h : n < 128
    · rw [if_pos h] at hx
      simp only [List.mem_singleton] at hx
      rw [hx, IntKind.wrap_u8]
      omega
    · rw [if_neg h] at hx
      rcases List.mem_cons.1 hx with rfl | hx
      · have := bits_within .or .u8 (IntKind.wrap .u8 n) 128
        have h1 : IntKind.u8.min = 0 := rfl
        have h2 : IntKind.u8.max = 255 := rfl
        omega
      · refine ih (n.fdiv 128) ?_ x hx
        rw [Int.fdiv_eq_ediv_of_nonneg _ (by decide)]
        omega
theorem IsBytes.append {a b : List Int} (ha : IsBytes a) (hb : IsBytes b) : IsBytes (a ++ b) := fun x hx => by
  rcases List.mem_append.1 hx with h | h
  · exact ha x h
  · exact hb x h
theorem encs_bytes : ∀ l : List Int, IsBytes (encs l)
  | [] => fun x hx => by cases hx
  | n :: l => (putN_bytes _ _ (Nat.le_refl _)).append (encs_bytes l)
theorem rowB_bytes {l : List Int} (h : IsBytes l) : IsBytes (rowB l) := (putN_bytes _ _ (Nat.le_refl _)).append h
theorem notesB_bytes (r : NRow) : ∀ m k, IsBytes (notesB r k m)
  | 0, _ => fun x hx => by cases hx
  | m + 1, k => ((encs_bytes _).append (encs_bytes _)).append (notesB_bytes r m (k + 1))
theorem evsB_bytes (r : ERow) : ∀ m k, IsBytes (evsB r k m)
  | 0, _ => fun x hx => by cases hx
  | m + 1, k => (encs_bytes _).append (evsB_bytes r m (k + 1))
theorem sealB_bytes {l : List Int} (h : IsBytes l) : IsBytes (sealB l) := by
  refine h.append (fun x hx => ?_)
  simp only [List.mem_cons, List.not_mem_nil, or_false] at hx
  have w : ∀ n : Int, 0 ≤ IntKind.wrap .u8 n ∧ IntKind.wrap .u8 n < 256 := fun n => by rw [IntKind.wrap_u8]; omega
  rcases hx with rfl | rfl | rfl | rfl <;> exact w _
def Sv.rows (x : Sv) : Prop := IsBytes x.mem.bs ∧ IsBytes x.out.bs ∧ IsBytes x.disk.bs ∧ IsBytes x.queue.bs
theorem encL_bytes {x : Sv} (h : x.rows) : IsBytes (encL x) := by
  obtain ⟨h1, h2, h3, h4⟩ := h
  have hm : IsBytes [109, 117, 109, 1] := fun y hy => by
    simp only [List.mem_cons, List.not_mem_nil, or_false] at hy
    rcases hy with rfl | rfl | rfl | rfl <;> omega
  exact (((((((((((hm.append (encs_bytes _)).append (rowB_bytes h1)).append (encs_bytes _)).append (encs_bytes _)).append (notesB_bytes _ _ _)).append (rowB_bytes h2)).append (rowB_bytes h3)).append (rowB_bytes h4)).append (encs_bytes _)).append (evsB_bytes _ _ _)).append (encs_bytes _))
theorem encL_len {x : Sv} (h : Kept x) : (encL x).length ≤ 1000000 := by
  have a1 := encs_len [x.fr]
  have a2 := rowB_len x.mem.bs (by have := h.mem; have := h.fr; omega)
  have a3 := encs_len x.s.nums
  have a4 := encs_len [x.steps, (x.notes.n : Int)]
  have a5 := notesB_len x.notes x.notes.n 0
  have a6 := rowB_len x.out.bs (by have := h.out; omega)
  have a7 := rowB_len x.disk.bs (by have := h.disk; omega)
  have a8 := rowB_len x.queue.bs (by have := h.queue; omega)
  have a9 := encs_len [(x.script.n : Int)]
  have a10 := evsB_len x.script x.script.n 0
  have a11 := encs_len [x.b1, x.b2, x.b3, x.b4, x.b5, x.b6, x.b7, x.b8]
  have n3 : x.s.nums.length = 19 := rfl
  have := h.mem
  have := h.fr
  have := h.out
  have := h.disk
  have := h.queue
  have := h.nn
  have := h.en
  simp only [List.length_cons, List.length_nil] at a1 a4 a9 a11
  unfold encL
  simp only [List.length_append, List.length_cons, List.length_nil]
  omega
end Go.Proofs.YtmbcpmbpkdeioaaDoor.W
/- A sum over bits: a register of 32 bits that is moved down bit by bit, with a polynomial joined in. Bits that are turned within 32 places are seen in it. Plain bit vectors; no condition. -/
namespace Go.Proofs.Crc
/-- One bit: the register is moved down, and the polynomial is joined in where a bit went out. -/
def step (r : BitVec 32) : BitVec 32 := if r.getLsbD 0 then (r >>> 1) ^^^ 0xedb88320#32 else r >>> 1
theorem step_xor (a b : BitVec 32) : step (a ^^^ b) = step a ^^^ step b := by
  unfold step
  rw [BitVec.getLsbD_xor]
  cases ha : a.getLsbD 0 <;> cases hb : b.getLsbD 0 <;> simp only [Bool.xor_false, Bool.xor_true, Bool.not_true, Bool.not_false, if_true, if_false, Bool.false_eq_true, BitVec.ushiftRight_xor_distrib]
  · rw [BitVec.xor_assoc]
  · rw [BitVec.xor_assoc, BitVec.xor_comm (b >>> 1), ← BitVec.xor_assoc]
  · rw [BitVec.xor_assoc, BitVec.xor_comm 0xedb88320#32, BitVec.xor_assoc, BitVec.xor_self, BitVec.xor_zero]
theorem step_zero : step 0#32 = 0#32 := by decide
theorem step_inj (r : BitVec 32) (h : step r = 0#32) : r = 0#32 := by
  unfold step at h
  by_cases h0 : r.getLsbD 0 = true
  · rw [if_pos h0] at h
    exfalso
    have := congrArg (fun x : BitVec 32 => x.getLsbD 31) h
    simp at this
  · rw [if_neg h0] at h
    apply BitVec.eq_of_getLsbD_eq
    intro i hi
    rw [BitVec.getLsbD_zero]
    cases i with
    | zero => simpa using h0
    | succ i =>
      have := congrArg (fun x : BitVec 32 => x.getLsbD i) h
      simp [BitVec.getLsbD_ushiftRight] at this
      rw [Nat.add_comm]; exact this
/-- The register behind n bits of nought. -/
def steps : Nat → BitVec 32 → BitVec 32
  | 0, r => r
  | n + 1, r => step (steps n r)
theorem steps_zero (n : Nat) : steps n 0#32 = 0#32 := by
  induction n with
  | zero => rfl
  | succ n ih => rw [steps, ih, step_zero]
theorem steps_inj (n : Nat) (r : BitVec 32) (h : steps n r = 0#32) : r = 0#32 := by
  induction n with
  | zero => exact h
  | succ n ih => exact ih (step_inj _ h)
theorem steps_xor (n : Nat) (a b : BitVec 32) : steps n (a ^^^ b) = steps n a ^^^ steps n b := by
  induction n with
  | zero => rfl
  | succ n ih => rw [steps, ih, step_xor]; rfl
/-- A bit, as a register. -/
def bit (b : Bool) : BitVec 32 := if b then 1#32 else 0#32
/-- The register behind a row of bits. -/
def run (r : BitVec 32) : List Bool → BitVec 32
  | [] => r
  | b :: l => run (step (r ^^^ bit b)) l
theorem run_append (a b : List Bool) : ∀ r, run r (a ++ b) = run (run r a) b := by
  induction a with
  | nil => intro r; rfl
  | cons x a ih => intro r; exact ih _
theorem run_zeros (n : Nat) : ∀ r, run r (List.replicate n false) = steps n r := by
  induction n with
  | zero => intro r; rfl
  | succ n ih =>
    intro r
    have e : List.replicate (n + 1) false = List.replicate n false ++ [false] := by rw [List.replicate_succ']
    rw [e, run_append, ih]
    show step (steps n r ^^^ bit false) = _
    unfold bit
    rw [if_neg (by simp), BitVec.xor_zero]; rfl
/-- Bits, as a register, the first one lowest. -/
def word : List Bool → BitVec 32
  | [] => 0#32
  | b :: l => bit b ^^^ (word l <<< 1)
theorem step_shl (v : BitVec 32) (h : v.getLsbD 31 = false) : step (v <<< 1) = v := by
  unfold step
  rw [if_neg (by simp)]
  apply BitVec.eq_of_getLsbD_eq
  intro i hi
  simp only [BitVec.getLsbD_ushiftRight, BitVec.getLsbD_shiftLeft]
  by_cases h31 : i = 31
  · subst h31; simp [-BitVec.getLsbD_eq_getElem, h]
  · have : 1 + i < 32 := by omega
    simp [this]
theorem word_top (l : List Bool) : ∀ j, l.length ≤ j → (word l).getLsbD j = false := by
  induction l with
  | nil => intro j _; simp [word]
  | cons b l ih =>
    intro j hj
    simp only [List.length_cons] at hj
    have h1 := ih (j - 1) (by omega)
    have hj0 : ¬ j < 1 := by omega
    simp only [word, BitVec.getLsbD_xor, BitVec.getLsbD_shiftLeft]
    have hb : (bit b).getLsbD j = false := by
      unfold bit; cases b
      · simp
      · have : j ≠ 0 := by omega
        simp [BitVec.getLsbD_one, this]
    rw [hb, h1]; simp
theorem run_word (l : List Bool) : ∀ r, l.length ≤ 32 → run r l = steps l.length (r ^^^ word l) := by
  induction l with
  | nil => intro r _; simp [run, word, steps]
  | cons b l ih =>
    intro r hl
    simp only [List.length_cons] at hl ⊢
    have hs : step (word l <<< 1) = word l := step_shl _ (word_top l 31 (by omega))
    have e : step (r ^^^ word (b :: l)) = step (r ^^^ bit b) ^^^ word l := by
      simp only [word]
      rw [← BitVec.xor_assoc, step_xor, hs]
    have hc : ∀ (n : Nat) (v : BitVec 32), steps (n + 1) v = steps n (step v) := by
      intro n
      induction n with
      | zero => intro v; rfl
      | succ n ihn => intro v; show step (steps (n + 1) v) = _; rw [ihn]; rfl
    rw [hc, e]
    exact ih _ (by omega)
theorem word_zero (l : List Bool) (hl : l.length ≤ 32) (h : word l = 0#32) : ∀ b ∈ l, b = false := by
  induction l with
  | nil => intro b hb; simp at hb
  | cons x l ih =>
    simp only [List.length_cons] at hl
    have hx : x = false := by
      have := congrArg (fun v : BitVec 32 => v.getLsbD 0) h
      simp [word, bit] at this
      cases x
      · rfl
      · simp at this
    subst hx
    have hw : word l = 0#32 := by
      have e : word l <<< 1 = 0#32 := by
        have := h; simp only [word, bit] at this
        simpa using this
      have := step_shl (word l) (word_top l 31 (by omega))
      rw [e, step_zero] at this; exact this.symm
    intro b hb
    rcases List.mem_cons.1 hb with rfl | hb
    · rfl
    · exact ih (by omega) hw b hb
/-- BITS THAT ARE TURNED WITHIN 32 PLACES ARE SEEN: a row of bits of which at most 32, one behind the other, are not nought, and one is not, does not leave a register of nought as it was. -/
theorem burst (a c : Nat) (l : List Bool) (hl : l.length ≤ 32) (hb : true ∈ l) : run 0#32 (List.replicate a false ++ l ++ List.replicate c false) ≠ 0#32 := by
  intro h
  rw [run_append, run_append, run_zeros, run_zeros, steps_zero, run_word l _ hl] at h
  have h1 := steps_inj _ _ (steps_inj _ _ h)
  rw [BitVec.zero_xor] at h1
  exact absurd (word_zero l hl h1 true hb) (by simp)
theorem run_xor (a b : List Bool) : ∀ r s, a.length = b.length → run (r ^^^ s) (List.zipWith (fun x y => x ^^ y) a b) = run r a ^^^ run s b := by
  induction a generalizing b with
  | nil => intro r s h; cases b <;> simp_all [run]
  | cons x a ih =>
    intro r s h
    cases b with
    | nil => simp at h
    | cons y b =>
      have hb : bit (x ^^ y) = bit x ^^^ bit y := by cases x <;> cases y <;> decide
      simp only [List.zipWith_cons_cons, run]
      rw [hb, show r ^^^ s ^^^ (bit x ^^^ bit y) = (r ^^^ bit x) ^^^ (s ^^^ bit y) by rw [BitVec.xor_assoc, ← BitVec.xor_assoc s, BitVec.xor_comm s, BitVec.xor_assoc (bit x), ← BitVec.xor_assoc r], step_xor]
      exact ih b _ _ (by simpa using h)
end Go.Proofs.Crc
/- Bytes that are spoilt are seen: plain law. No condition. -/
namespace Go.Proofs.YtmbcpmbpkdeioaaDoor.W
open Go Go.RowKit Go.Eng
set_option maxRecDepth 100000
set_option linter.unusedVariables false
set_option linter.unusedSimpArgs false
def byteBits (x : Int) : List Bool := [x.toNat.testBit 0, x.toNat.testBit 1, x.toNat.testBit 2, x.toNat.testBit 3, x.toNat.testBit 4, x.toNat.testBit 5, x.toNat.testBit 6, x.toNat.testBit 7]
def bitsL : List Int → List Bool
  | [] => []
  | x :: l => byteBits x ++ bitsL l
theorem bitsL_append (a b : List Int) : bitsL (a ++ b) = bitsL a ++ bitsL b := by
  induction a with
  | nil => rfl
  | cons x a ih => simp [bitsL, ih]
theorem bitsL_len (l : List Int) : (bitsL l).length = 8 * l.length := by
  induction l with
  | nil => rfl
  | cons x l ih => simp only [bitsL, List.length_append, ih, byteBits, List.length_cons, List.length_nil]; omega
theorem bx (a b : Int) : bits .xor .u32 a b = ((BitVec.ofInt 32 a ^^^ BitVec.ofInt 32 b).toNat : Int) := by
  show IntKind.u32.wrap ((BitVec.ofInt 32 a ^^^ BitVec.ofInt 32 b).toNat : Int) = _
  rw [IntKind.wrap_u32]
  have := (BitVec.ofInt 32 a ^^^ BitVec.ofInt 32 b).isLt
  omega
theorem ba (a b : Int) : bits .and .u32 a b = ((BitVec.ofInt 32 a &&& BitVec.ofInt 32 b).toNat : Int) := by
  show IntKind.u32.wrap ((BitVec.ofInt 32 a &&& BitVec.ofInt 32 b).toNat : Int) = _
  rw [IntKind.wrap_u32]
  have := (BitVec.ofInt 32 a &&& BitVec.ofInt 32 b).isLt
  omega
theorem ofInt_nat (R : BitVec 32) : BitVec.ofInt 32 (R.toNat : Int) = R := by
  rw [BitVec.ofInt_natCast, BitVec.ofNat_toNat, BitVec.setWidth_eq]
theorem movedStep_bv (R : BitVec 32) : movedStep (R.toNat : Int) = ((Crc.step R).toNat : Int) := by
  have hd : ((R.toNat : Int).fdiv 2) = ((R >>> 1).toNat : Int) := by
    rw [Int.fdiv_eq_ediv_of_nonneg _ (by decide), BitVec.toNat_ushiftRight, Nat.shiftRight_eq_div_pow]
    omega
  have hb : bits .and .u32 (R.toNat : Int) 1 = if R.getLsbD 0 then 1 else 0 := by
    rw [ba, ofInt_nat]
    have e : BitVec.ofInt 32 1 = 1#32 := by decide
    rw [e, BitVec.toNat_and]
    have : R.getLsbD 0 = decide (R.toNat % 2 = 1) := by rw [BitVec.getLsbD, Nat.testBit_zero]
    rw [this]
    have h2 : R.toNat &&& (1#32).toNat = R.toNat % 2 := Nat.and_one_is_mod _
    rw [h2]
    rcases Nat.mod_two_eq_zero_or_one R.toNat with h | h <;> rw [h] <;> rfl
  unfold movedStep Crc.step
  rw [hb, hd]
  by_cases h : R.getLsbD 0 = true
  · rw [if_pos h, if_pos rfl, if_pos h, bx, ofInt_nat]
    have e : BitVec.ofInt 32 3988292384 = 0xedb88320#32 := by decide
    rw [e]
  · rw [if_neg h, if_neg (by decide), if_neg h]
theorem steps_succ (n : Nat) (R : BitVec 32) : Crc.steps (n + 1) R = Crc.steps n (Crc.step R) := by
  induction n with
  | zero => rfl
  | succ n ih => rw [Crc.steps, ih]; rfl
theorem movedSteps_bv : ∀ (k : Nat) (R : BitVec 32), movedSteps k (R.toNat : Int) = ((Crc.steps k R).toNat : Int)
  | 0, R => rfl
  | k + 1, R => by rw [movedSteps, movedStep_bv, movedSteps_bv k, steps_succ]
theorem word_byte {x : Int} (h0 : 0 ≤ x) (h1 : x < 256) : Crc.word (byteBits x) = BitVec.ofInt 32 x := by
  obtain ⟨a, rfl⟩ := Int.eq_ofNat_of_zero_le h0
  have ha : a < 256 := by omega
  have key : ∀ m : Fin 256, Crc.word (byteBits ((m.val : Nat) : Int)) = BitVec.ofInt 32 ((m.val : Nat) : Int) := by decide +kernel
  exact key ⟨a, ha⟩
theorem movedN_bv (R : BitVec 32) {x : Int} (h0 : 0 ≤ x) (h1 : x < 256) : movedN (R.toNat : Int) x = ((Crc.run R (byteBits x)).toNat : Int) := by
  unfold movedN
  have hw : IntKind.wrap .u32 x = x := by rw [IntKind.wrap_u32]; omega
  rw [hw, bx, ofInt_nat, movedSteps_bv, Crc.run_word (byteBits x) R (by simp [byteBits]), word_byte h0 h1]
  rfl
theorem sumR_bv : ∀ (l : List Int) (R : BitVec 32), IsBytes l → sumR (R.toNat : Int) l = ((Crc.run R (bitsL l)).toNat : Int)
  | [], R, _ => rfl
  | x :: l, R, h => by
    have hx := h x (by simp)
    rw [sumR, movedN_bv R hx.1 hx.2, sumR_bv l _ (fun y hy => h y (by simp [hy])), bitsL, Crc.run_append]
def ones : BitVec 32 := 0xffffffff#32
theorem sumB_bv {l : List Int} (h : IsBytes l) : sumB l = ((ones ^^^ Crc.run ones (bitsL l)).toNat : Int) := by
  unfold sumB
  have e : (4294967295 : Int) = ((ones.toNat : Nat) : Int) := by decide
  rw [e, sumR_bv l ones h, bx, ofInt_nat, ofInt_nat]
theorem word_get : ∀ (l : List Bool) (i : Nat), l.length ≤ 32 → (Crc.word l).getLsbD i = l.getD i false
  | [], i, _ => by simp [Crc.word]
  | b :: l, i, h => by
    simp only [List.length_cons] at h
    have ih := fun i => word_get l i (by omega)
    rw [Crc.word, BitVec.getLsbD_xor, BitVec.getLsbD_shiftLeft]
    cases i with
    | zero => cases b <;> simp [Crc.bit]
    | succ i =>
      have hb : (Crc.bit b).getLsbD (i + 1) = false := by
        cases b
        · simp [Crc.bit]
        · unfold Crc.bit
          rw [if_pos rfl]
          show Nat.testBit 1 (i + 1) = false
          rw [Nat.testBit_succ]
          simp
      rw [hb, Bool.false_xor, Nat.add_sub_cancel, ih]
      simp only [List.getD_cons_succ]
      by_cases hi : i + 1 < 32
      · simp [hi]
      · have : l.getD i false = false := by
          rw [List.getD_eq_getElem?_getD, List.getElem?_eq_none (by omega)]; rfl
        rw [this]; simp
theorem word_bytes (S : BitVec 32) {a b c d : Int} (ha : a = (S.toNat : Int) % 256) (hb : b = (S.toNat : Int) / 256 % 256) (hc : c = (S.toNat : Int) / 65536 % 256) (hd : d = (S.toNat : Int) / 16777216 % 256) : Crc.word (bitsL [a, b, c, d]) = S := by
  have ea : a.toNat = S.toNat % 2 ^ 8 := by omega
  have eb : b.toNat = S.toNat / 2 ^ 8 % 2 ^ 8 := by omega
  have ec : c.toNat = S.toNat / 2 ^ 16 % 2 ^ 8 := by omega
  have ed : d.toNat = S.toNat / 2 ^ 24 % 2 ^ 8 := by omega
  apply BitVec.eq_of_getLsbD_eq
  intro i hi
  rw [word_get _ _ (by rw [bitsL_len]; simp)]
  simp only [bitsL, byteBits, ea, eb, ec, ed, Nat.testBit_mod_two_pow, Nat.testBit_div_two_pow, List.append_nil, List.cons_append, List.nil_append]
  have key : ∀ j, S.toNat.testBit j = S.getLsbD j := fun j => rfl
  simp only [key]
  match i, hi with
  | 0, _ | 1, _ | 2, _ | 3, _ | 4, _ | 5, _ | 6, _ | 7, _ | 8, _ | 9, _ | 10, _ | 11, _ | 12, _ | 13, _ | 14, _ | 15, _ | 16, _ | 17, _ | 18, _ | 19, _ | 20, _ | 21, _ | 22, _ | 23, _ | 24, _ | 25, _ | 26, _ | 27, _ | 28, _ | 29, _ | 30, _ | 31, _ => simp
  | n + 32, h => omega
theorem le32_sum {a b c d : Int} (ha : 0 ≤ a ∧ a < 256) (hb : 0 ≤ b ∧ b < 256) (hc : 0 ≤ c ∧ c < 256) (hd : 0 ≤ d ∧ d < 256) : le32 a b c d = a + 256 * b + 65536 * c + 16777216 * d := by
  have h := le32_bytes (s := a + 256 * b + 65536 * c + 16777216 * d) (by omega) (by omega)
  rw [Int.fdiv_eq_ediv_of_nonneg _ (by decide), Int.fdiv_eq_ediv_of_nonneg _ (by decide), Int.fdiv_eq_ediv_of_nonneg _ (by decide)] at h
  simp only [IntKind.wrap_u8] at h
  have e0 : (a + 256 * b + 65536 * c + 16777216 * d) % 256 = a := by omega
  have e1 : (a + 256 * b + 65536 * c + 16777216 * d) / 256 % 256 = b := by omega
  have e2 : (a + 256 * b + 65536 * c + 16777216 * d) / 65536 % 256 = c := by omega
  have e3 : (a + 256 * b + 65536 * c + 16777216 * d) / 16777216 % 256 = d := by omega
  rw [e0, e1, e2, e3] at h
  exact h
theorem last4 {l : List Int} (h4 : 4 ≤ l.length) : l = l.take (l.length - 4) ++ [l.getD (l.length - 4) 0, l.getD (l.length - 4 + 1) 0, l.getD (l.length - 4 + 2) 0, l.getD (l.length - 4 + 3) 0] := by
  refine List.ext_getElem? fun i => ?_
  rcases Nat.lt_or_ge i (l.length - 4) with hi | hi
  · rw [List.getElem?_append_left (by simp; omega), List.getElem?_take_of_lt hi]
  · rw [List.getElem?_append_right (by simp; omega)]
    have e : (l.take (l.length - 4)).length = l.length - 4 := by simp
    rw [e]
    obtain ⟨j, rfl⟩ : ∃ j, i = l.length - 4 + j := ⟨i - (l.length - 4), by omega⟩
    rw [Nat.add_sub_cancel_left]
    rcases Nat.lt_or_ge j 4 with hj | hj
    · have hlt : l.length - 4 + j < l.length := by omega
      rw [List.getElem?_eq_getElem hlt]
      match j, hj with
      | 0, _ => have hlt' : l.length - 4 < l.length := by omega
                simp [List.getD_eq_getElem?_getD, List.getElem?_eq_getElem hlt']
      | 1, _ | 2, _ | 3, _ => simp [List.getD_eq_getElem?_getD, List.getElem?_eq_getElem hlt]
      | n + 4, h => omega
    · rw [List.getElem?_eq_none (by omega), List.getElem?_eq_none (by simp; omega)]
/-- Bytes whose sum is in order. -/
theorem openN_run {l : List Int} (h : IsBytes l) (h4 : 4 ≤ l.length) (ho : openN l ≠ .no 292) : Crc.run ones (bitsL l) = Crc.steps 32 ones := by
  have hl := last4 h4
  have gb : ∀ k, 0 ≤ l.getD k 0 ∧ l.getD k 0 < 256 := by
    intro k
    rw [List.getD_eq_getElem?_getD]
    rcases hk : l[k]? with _ | y
    · simp
    · simp; exact h y (List.mem_of_getElem? hk)
  have hs : sumB (l.take (l.length - 4)) = le32 (l.getD (l.length - 4) 0) (l.getD (l.length - 4 + 1) 0) (l.getD (l.length - 4 + 2) 0) (l.getD (l.length - 4 + 3) 0) := by
    unfold openN at ho
    rw [if_neg (by omega)] at ho
    by_cases e : sumB (l.take (l.length - 4)) = le32 (l.getD (l.length - 4) 0) (l.getD (l.length - 4 + 1) 0) (l.getD (l.length - 4 + 2) 0) (l.getD (l.length - 4 + 3) 0)
    · exact e
    · rw [if_pos e] at ho; exact absurd rfl ho
  rw [le32_sum (gb _) (gb _) (gb _) (gb _), sumB_bv (fun x hx => h x (List.mem_of_mem_take hx))] at hs
  have g0 := gb (l.length - 4)
  have g1 := gb (l.length - 4 + 1)
  have g2 := gb (l.length - 4 + 2)
  have g3 := gb (l.length - 4 + 3)
  generalize l.getD (l.length - 4) 0 = a at *
  generalize l.getD (l.length - 4 + 1) 0 = b at *
  generalize l.getD (l.length - 4 + 2) 0 = c at *
  generalize l.getD (l.length - 4 + 3) 0 = d at *
  generalize l.take (l.length - 4) = t at *
  rw [hl, bitsL_append, Crc.run_append, Crc.run_word (bitsL [a, b, c, d]) _ (by rw [bitsL_len]; simp)]
  rw [word_bytes (ones ^^^ Crc.run ones (bitsL t)) (by rw [hs]; omega) (by rw [hs]; omega) (by rw [hs]; omega) (by rw [hs]; omega)]
  rw [bitsL_len]
  rw [BitVec.xor_comm ones, ← BitVec.xor_assoc, BitVec.xor_self, BitVec.zero_xor]
  rfl
end Go.Proofs.YtmbcpmbpkdeioaaDoor.W
/- What is read is written to the same bytes: plain law. No condition. -/
namespace Go.Proofs.YtmbcpmbpkdeioaaDoor.W
open Go Go.RowKit Go.Eng
set_option maxRecDepth 100000
set_option linter.unusedVariables false
set_option linter.unusedSimpArgs false
theorem pow128_le {k : Nat} (h : k ≤ 8) : (128 : Int) ^ k ≤ 72057594037927936 := by
  have : (128 : Int) ^ k ≤ 128 ^ 8 := by exact_mod_cast Nat.pow_le_pow_right (show 0 < 128 by decide) h
  have e : (128 : Int) ^ 8 = 72057594037927936 := by decide
  omega
theorem getG_canon : ∀ (l : List Int) (k : Nat) (acc N U : Int), IsBytes l → k ≤ 9 → 0 ≤ acc → acc < 128 ^ k → getG l k acc = (N, U, 0) → ∃ n rest, l = putN n ++ rest ∧ N = acc + n * 128 ^ k ∧ U = ((k + (putN n).length : Nat) : Int) ∧ 0 ≤ n ∧ (0 < k → 0 < n) ∧ N < 18446744073709551616
  | [], k, acc, N, U, _, _, _, _, h => by simp [getG] at h
  | x :: l, k, acc, N, U, hb, hk, h0, h1, h => by
    have hx := hb x (by simp)
    have hP : (0 : Int) < 128 ^ k := Int.pow_pos (by decide)
    simp only [getG] at h
    by_cases a1 : k = 9 ∧ x > 1
    · rw [if_pos a1] at h; simp at h
    · rw [if_neg a1] at h
      by_cases a2 : x ≥ 128
      · rw [if_pos a2] at h
        have hk8 : k ≤ 8 := by
          rcases Nat.lt_or_ge 8 k with q | q
          · exact absurd ⟨by omega, by omega⟩ a1
          · exact q
        have hp8 := pow128_le hk8
        have hPP : (128 : Int) ^ (k + 1) = 128 ^ k * 128 := Int.pow_succ _ _
        have hm0 : 0 ≤ x % 128 * 128 ^ k := Int.mul_nonneg (by omega) (Int.le_of_lt hP)
        have hm1 : x % 128 * 128 ^ k ≤ 127 * 128 ^ k := Int.mul_le_mul_of_nonneg_right (by omega) (Int.le_of_lt hP)
        rw [accN_eq hk h0 h1 hx.1 hx.2 (by omega)] at h
        obtain ⟨n, rest, q1, q2, q3, q4, q5, q6⟩ := getG_canon l (k + 1) _ N U (fun y hy => hb y (by simp [hy])) (by omega) (by omega) (by rw [hPP]; omega) h
        have hn : 0 < n := q5 (by omega)
        refine ⟨128 * n + x % 128, rest, ?_, ?_, ?_, by omega, fun _ => by omega, q6⟩
        · have e : putN (128 * n + x % 128) = x :: putN n := by
            conv => lhs; unfold putN
            rw [if_neg (by omega), IntKind.wrap_u8, or128 (by omega) (by omega), Int.fdiv_eq_ediv_of_nonneg _ (by decide)]
            have e1 : (128 * n + x % 128) % 256 % 128 + 128 = x := by omega
            have e2 : (128 * n + x % 128) / 128 = n := by omega
            rw [e1, e2]
          rw [e, q1]; rfl
        · rw [q2, hPP, Int.add_mul, Int.mul_comm (128 ^ k) 128, ← Int.mul_assoc, Int.mul_comm n 128]
          omega
        · have e : (putN (128 * n + x % 128)).length = (putN n).length + 1 := by
            conv => lhs; unfold putN
            rw [if_neg (by omega), Int.fdiv_eq_ediv_of_nonneg _ (by decide)]
            have e2 : (128 * n + x % 128) / 128 = n := by omega
            rw [e2]; rfl
          rw [q3, e]; omega
      · rw [if_neg a2] at h
        by_cases a3 : x = 0 ∧ k > 0
        · rw [if_pos a3] at h; simp at h
        · rw [if_neg a3] at h
          simp only [Prod.mk.injEq] at h
          obtain ⟨rfl, rfl, _⟩ := h
          have e1 : x % 128 = x := by omega
          have ht : x * 128 ^ k < 9223372036854775809 := by
            rcases Nat.lt_or_ge 8 k with q | q
            · obtain rfl : k = 9 := by omega
              have : ¬ x > 1 := fun h => a1 ⟨rfl, h⟩
              have e : (128 : Int) ^ 9 = 9223372036854775808 := by decide
              rw [e]; omega
            · have hp8 := pow128_le q
              have := Int.mul_le_mul_of_nonneg_right (show x ≤ 127 by omega) (Int.le_of_lt hP)
              omega
          have h9 : (128 : Int) ^ k ≤ 9223372036854775808 := by
            have : (128 : Int) ^ k ≤ 128 ^ 9 := by exact_mod_cast Nat.pow_le_pow_right (show 0 < 128 by decide) hk
            have e : (128 : Int) ^ 9 = 9223372036854775808 := by decide
            omega
          rw [accN_eq hk h0 h1 hx.1 hx.2 (by rw [e1]; omega), e1]
          have ep : putN x = [x] := by
            unfold putN
            rw [if_pos (by omega), IntKind.wrap_u8]
            congr 1; omega
          refine ⟨x, l, by rw [ep]; rfl, rfl, by rw [ep]; simp, hx.1, fun h => ?_, by omega⟩
          rcases Int.lt_or_eq_of_le hx.1 with q | q
          · exact q
          · exact absurd ⟨q.symm, h⟩ a3
theorem getN_canon {l : List Int} {N U : Int} (hb : IsBytes l) (h : getN l = (N, U, 0)) : ∃ rest, l = putN N ++ rest ∧ U = ((putN N).length : Int) ∧ 0 ≤ N ∧ N < 18446744073709551616 := by
  obtain ⟨n, rest, h1, h2, h3, h4, _, h6⟩ := getG_canon l 0 0 N U hb (by omega) (by omega) (by decide) h
  have e : N = n := by rw [h2]; simp
  subst e
  exact ⟨rest, h1, by rw [h3]; simp, h4, h6⟩
theorem IsBytes.drop {l : List Int} (h : IsBytes l) (n : Nat) : IsBytes (l.drop n) := fun x hx => h x (List.mem_of_mem_drop hx)
theorem upP_canon {bs : List Int} {most n : Int} {o o' : Nat} (hb : IsBytes bs) (h : upP bs most o = .ok n o') : bs.drop o = putN n ++ bs.drop o' ∧ 0 ≤ n ∧ n ≤ most ∧ n < 18446744073709551616 := by
  unfold upP upN at h
  rcases hg : getN (bs.drop o) with ⟨N, U, e⟩
  rw [hg] at h
  by_cases he : e = 0
  · subst he
    obtain ⟨rest, h1, h2, h3, h4⟩ := getN_canon (hb.drop o) hg
    simp only [ne_eq, not_true_eq_false, if_false] at h
    by_cases hm : N > most
    · rw [if_pos hm] at h; cases h
    · rw [if_neg hm] at h
      simp only [PR.ok.injEq] at h
      obtain ⟨rfl, rfl⟩ := h
      refine ⟨?_, h3, by omega, h4⟩
      rw [h2, Int.toNat_natCast, ← List.drop_drop, h1]
      simp
  · simp [he] at h
theorem numsP_canon {bs : List Int} (hb : IsBytes bs) : ∀ (k : Nat) {l : List Int} {o o' : Nat}, numsP bs k o = .ok l o' → bs.drop o = encs l ++ bs.drop o' ∧ l.length = k ∧ ∀ n ∈ l, 0 ≤ n ∧ n ≤ 4294967295
  | 0, l, o, o', h => by
    simp only [numsP, PR.ok.injEq] at h
    obtain ⟨rfl, rfl⟩ := h
    exact ⟨rfl, rfl, fun n hn => by cases hn⟩
  | k + 1, l, o, o', h => by
    obtain ⟨n, o1, h1, h⟩ := PR.bind_ok h
    obtain ⟨l2, o2, h2, h⟩ := PR.bind_ok h
    cases h
    obtain ⟨a1, a2, a3, a4⟩ := upP_canon hb h1
    obtain ⟨b1, b2, b3⟩ := numsP_canon hb k h2
    refine ⟨by rw [a1, b1, enc1 a2 a4, List.append_assoc], by simp [b2], fun m hm => ?_⟩
    rcases List.mem_cons.1 hm with rfl | hm
    · exact ⟨a2, a3⟩
    · exact b3 m hm
theorem rowP_canon {bs l : List Int} {most : Int} {o o' : Nat} (hb : IsBytes bs) (hl : bs.length ≤ 140737488355328) (h1 : 0 ≤ most) (h2 : most ≤ 1000000) (h : rowP bs most o = .ok l o') : bs.drop o = rowB l ++ bs.drop o' := by
  unfold rowP at h
  cases hr : rowN (bs.drop o) most with
  | no e => rw [hr] at h; cases h
  | ok u n =>
    rw [hr] at h
    simp only [PR.ok.injEq] at h
    obtain ⟨rfl, rfl⟩ := h
    have hrn := rowN_ok (by simp; omega) hr
    unfold rowN at hr
    rcases hg : getN (bs.drop o) with ⟨N, U, e⟩
    rw [hg] at hr
    by_cases he : e = 0
    · subst he
      obtain ⟨rest, g1, g2, g3, g4⟩ := getN_canon (hb.drop o) hg
      simp only [ne_eq, not_true_eq_false, if_false] at hr
      generalize IntKind.wrap .u64 (if (0 : Int) > most then 0 else most) = w at hr
      generalize IntKind.wrap .u64 (IntKind.wrap .i64 _) = w2 at hr
      split at hr
      · cases hr
      · split at hr
        · cases hr
        · simp only [RowR.ok.injEq] at hr
          obtain ⟨rfl, rfl⟩ := hr
          rw [g2] at hrn ⊢
          simp only [Int.toNat_natCast, List.length_drop] at hrn ⊢
          have hlen : ((bs.drop (o + (putN N).length)).take N.toNat).length = N.toNat := by simp; omega
          unfold rowB
          rw [hlen, Int.toNat_of_nonneg g3, List.append_assoc]
          have e1 : bs.drop (o + ((putN N).length + N.toNat)) = (bs.drop (o + (putN N).length)).drop N.toNat := by
            rw [List.drop_drop, Nat.add_assoc]
          rw [e1, List.take_append_drop, ← List.drop_drop, g1]
          simp
    · simp [he] at hr
theorem stP_canon {bs : List Int} {s : St} {o o' : Nat} (hb : IsBytes bs) (h : stP bs o = .ok s o') : bs.drop o = encs s.nums ++ bs.drop o' ∧ ∀ n ∈ s.nums, 0 ≤ n ∧ n ≤ 4294967295 := by
  obtain ⟨l, o1, h1, h⟩ := PR.bind_ok h
  obtain ⟨z, o2, h2, h⟩ := PR.bind_ok h
  cases h
  obtain ⟨a1, a2, a3⟩ := numsP_canon hb 18 h1
  obtain ⟨b1, b2, b3, b4⟩ := upP_canon hb h2
  have e : (stL l z).nums = l ++ [z] := by
    have hz : (if (z == 1) = true then (1 : Int) else 0) = z := by
      rcases (show z = 0 ∨ z = 1 by omega) with rfl | rfl <;> rfl
    match l, a2 with
    | [x0, x1, x2, x3, x4, x5, x6, x7, x8, x9, x10, x11, x12, x13, x14, x15, x16, x17], _ =>
      show [x0, x1, x2, x3, x4, x5, x6, x7, x8, x9, x10, x11, x12, x13, x14, x15, x16, x17, if (z == 1) = true then (1 : Int) else 0] = _
      rw [hz]; rfl
  rw [e]
  refine ⟨?_, fun n hn => ?_⟩
  · rw [a1, b1, encs_append, enc1 b2 b4]
    simp [encs]
  · rcases List.mem_append.1 hn with hn | hn
    · exact a3 n hn
    · simp at hn; subst hn; omega
theorem manyP_canon {α : Type} {p : Nat → PR α} {bs : List Int} {enc : α → List Int} {Q : α → Prop} (hp : ∀ o a o', p o = .ok a o' → bs.drop o = enc a ++ bs.drop o' ∧ Q a) : ∀ (k o : Nat) {l : List α} {o' : Nat}, manyP p k o = .ok l o' → bs.drop o = l.flatMap enc ++ bs.drop o' ∧ l.length = k ∧ ∀ a ∈ l, Q a
  | 0, o, l, o', h => by
    simp only [manyP, PR.ok.injEq] at h
    obtain ⟨rfl, rfl⟩ := h
    exact ⟨rfl, rfl, fun a ha => by cases ha⟩
  | k + 1, o, l, o', h => by
    obtain ⟨a, o1, h1, h⟩ := PR.bind_ok h
    obtain ⟨l2, o2, h2, h⟩ := PR.bind_ok h
    cases h
    obtain ⟨g1, g2⟩ := hp _ _ _ h1
    obtain ⟨g3, g4, g5⟩ := manyP_canon hp k o1 h2
    refine ⟨by rw [g1, g3]; simp, by simp [g4], fun b hb => ?_⟩
    rcases List.mem_cons.1 hb with rfl | hb
    · exact g2
    · exact g5 b hb
def N4.enc (n : N4) : List Int := encs [n.a, n.c] ++ encs [n.b, n.d]
def E3.enc (n : E3) : List Int := encs [n.a, n.k, IntKind.wrap .i64 n.x]
theorem noteP_canon {bs : List Int} (hb : IsBytes bs) (o : Nat) (x : N4) (o' : Nat) (h : noteP bs o = .ok x o') : bs.drop o = x.enc ++ bs.drop o' ∧ (0 ≤ x.b ∧ x.b ≤ 4294967295) ∧ 0 ≤ x.d ∧ x.d ≤ 4294967295 := by
  obtain ⟨a, _, h1, h⟩ := PR.bind_ok h
  obtain ⟨c, _, h2, h⟩ := PR.bind_ok h
  obtain ⟨b, _, h3, h⟩ := PR.bind_ok h
  obtain ⟨d, _, h4, h⟩ := PR.bind_ok h
  cases h
  obtain ⟨p1, p2, p3, p4⟩ := upP_canon hb h1
  obtain ⟨q1, q2, q3, q4⟩ := upP_canon hb h2
  obtain ⟨r1, r2, r3, r4⟩ := upP_canon hb h3
  obtain ⟨s1, s2, s3, s4⟩ := upP_canon hb h4
  refine ⟨?_, ⟨r2, r3⟩, s2, s3⟩
  rw [p1, q1, r1, s1]
  simp only [N4.enc]
  rw [enc1 p2 p4, enc1 q2 q4, enc1 r2 r4, enc1 s2 s4]
  simp [encs]
theorem evP_canon {bs : List Int} (hb : IsBytes bs) (o : Nat) (x : E3) (o' : Nat) (h : evP bs o = .ok x o') : bs.drop o = x.enc ++ bs.drop o' ∧ 0 ≤ x.x ∧ x.x ≤ 255 := by
  obtain ⟨a, _, h1, h⟩ := PR.bind_ok h
  obtain ⟨k, _, h2, h⟩ := PR.bind_ok h
  obtain ⟨b, _, h3, h⟩ := PR.bind_ok h
  cases h
  obtain ⟨p1, p2, p3, p4⟩ := upP_canon hb h1
  obtain ⟨q1, q2, q3, q4⟩ := upP_canon hb h2
  obtain ⟨r1, r2, r3, r4⟩ := upP_canon hb h3
  refine ⟨?_, r2, r3⟩
  rw [p1, q1, r1]
  simp only [E3.enc]
  rw [IntWalk.i64_in _ (by omega), enc1 p2 p4, enc1 q2 q4, enc1 r2 r4]
  simp [encs]
theorem notesB_list (l : List N4) (r : NRow) (ha : ∀ i, r.at_ i = (l.getD i default).a) (hc : ∀ i, r.cause i = (l.getD i default).c) (hb : ∀ i, r.back i = (l.getD i default).b) (hd : ∀ i, r.addr i = (l.getD i default).d) : ∀ (m k : Nat), k + m = l.length → notesB r k m = (l.drop k).flatMap N4.enc
  | 0, k, h => by
    rw [List.drop_eq_nil_of_le (by omega)]; rfl
  | m + 1, k, h => by
    have hk : k < l.length := by omega
    rw [notesB, notesB_list l r ha hc hb hd m (k + 1) (by omega), List.drop_eq_getElem_cons hk, List.flatMap_cons]
    congr 1
    unfold noteB N4.enc
    rw [ha, hc, hb, hd, List.getD_eq_getElem?_getD, List.getElem?_eq_getElem hk]
    rfl
theorem evsB_list (l : List E3) (r : ERow) (ha : ∀ i, r.at_ i = (l.getD i default).a) (hk : ∀ i, r.kind i = (l.getD i default).k) (hx : ∀ i, r.byte i = (l.getD i default).x) : ∀ (m k : Nat), k + m = l.length → evsB r k m = (l.drop k).flatMap E3.enc
  | 0, k, h => by
    rw [List.drop_eq_nil_of_le (by omega)]; rfl
  | m + 1, k, h => by
    have hkl : k < l.length := by omega
    rw [evsB, evsB_list l r ha hk hx m (k + 1) (by omega), List.drop_eq_getElem_cons hkl, List.flatMap_cons]
    congr 1
    unfold evB E3.enc
    rw [ha, hk, hx, List.getD_eq_getElem?_getD, List.getElem?_eq_getElem hkl]
    rfl
theorem cntP_canon {bs : List Int} {most n : Int} {o o' : Nat} (hb : IsBytes bs) (h : cntP bs most o = .ok n o') : bs.drop o = putN n ++ bs.drop o' ∧ 0 ≤ n ∧ n ≤ most := by
  unfold cntP cntN at h
  cases hu : upN bs o 1099511627776 with
  | no e => rw [hu] at h; cases h
  | ok m o1 =>
    rw [hu] at h
    simp only [] at h
    by_cases hm : m > most
    · rw [if_pos hm] at h; cases h
    · rw [if_neg hm] at h
      simp only [PR.ok.injEq] at h
      obtain ⟨rfl, rfl⟩ := h
      obtain ⟨a1, a2, _, _⟩ := upP_canon hb (upP_ok hu)
      exact ⟨a1, a2, by omega⟩
/-- What was read, is written so. -/
theorem savP_canon {bs : List Int} {d : Dv} {o o' : Nat} (hb : IsBytes bs) (hl : bs.length ≤ 140737488355328) (h : savP bs o = .ok d o') : 109 :: 117 :: 109 :: 1 :: bs.drop o = encL d.sv ++ bs.drop o' ∧ d.sv.wf ∧ d.sv.rows := by
  have bd := hb.drop
  obtain ⟨fr, _, h1, h⟩ := PR.bind_ok h
  obtain ⟨mem, _, h2, h⟩ := PR.bind_ok h
  obtain ⟨s, _, h3, h⟩ := PR.bind_ok h
  obtain ⟨steps, _, h4, h⟩ := PR.bind_ok h
  obtain ⟨notes, _, h5, h⟩ := PR.bind_ok h
  obtain ⟨out, _, h6, h⟩ := PR.bind_ok h
  obtain ⟨disk, _, h7, h⟩ := PR.bind_ok h
  obtain ⟨queue, _, h8, h⟩ := PR.bind_ok h
  obtain ⟨script, _, h9, h⟩ := PR.bind_ok h
  obtain ⟨bl, _, h10, h⟩ := PR.bind_ok h
  cases h
  obtain ⟨n5, _, c5, h5⟩ := PR.bind_ok h5
  obtain ⟨n9, _, c9, h9⟩ := PR.bind_ok h9
  obtain ⟨a1, a2, a3, a4⟩ := upP_canon hb h1
  have b1 := rowP_canon hb hl (by omega) (by omega) h2
  obtain ⟨s1, s2⟩ := stP_canon hb h3
  obtain ⟨e1, e2, e3, e4⟩ := upP_canon hb h4
  obtain ⟨f1, f2, f3⟩ := cntP_canon hb c5
  obtain ⟨g1, g2, g3⟩ := manyP_canon (enc := N4.enc) (noteP_canon hb) _ _ h5
  have i1 := rowP_canon hb hl (by omega) (by omega) h6
  have j1 := rowP_canon hb hl (by omega) (by omega) h7
  have k1 := rowP_canon hb hl (by omega) (by omega) h8
  obtain ⟨l1, l2, l3⟩ := cntP_canon hb c9
  obtain ⟨m1, m2, m3⟩ := manyP_canon (enc := E3.enc) (evP_canon hb) _ _ h9
  obtain ⟨q1, q2, q3⟩ := numsP_canon hb 8 h10
  have tk : ∀ {l : List Int} {n o}, bs.drop o = rowB l ++ bs.drop n → IsBytes l := fun {l n o} e x hx => bd o x (by rw [e]; simp [rowB, hx])
  have bl8 : [bl.getD 0 0, bl.getD 1 0, bl.getD 2 0, bl.getD 3 0, bl.getD 4 0, bl.getD 5 0, bl.getD 6 0, bl.getD 7 0] = bl := by
    match bl, q2 with
    | [x0, x1, x2, x3, x4, x5, x6, x7], _ => rfl
  refine ⟨?_, ⟨s2, fun i hi => ?_, fun i hi => ?_, ?_⟩, tk b1, tk i1, tk j1, tk k1⟩
  · unfold encL
    simp only [Dv.sv]
    rw [bl8, notesB_list notes _ (fun _ => rfl) (fun _ => rfl) (fun _ => rfl) (fun _ => rfl) notes.length 0 (by omega), evsB_list script _ (fun _ => rfl) (fun _ => rfl) (fun _ => rfl) script.length 0 (by omega), List.drop_zero, List.drop_zero]
    rw [enc1 a2 a4, enc1 e2 e4, enc1 (by omega) (by omega), enc1 (n := (script.length : Int)) (by omega) (by omega)]
    have en : (notes.length : Int) = n5 := by rw [g2]; omega
    have es : (script.length : Int) = n9 := by rw [m2]; omega
    rw [en, es, a1, b1, s1, e1, f1, g1, i1, j1, k1, l1, m1, q1]
    simp [encs]
  · obtain ⟨x, hx⟩ : ∃ x, notes[i]? = some x := ⟨_, List.getElem?_eq_getElem hi⟩
    have e : notes.getD i default = x := by rw [List.getD_eq_getElem?_getD, hx]; rfl
    have := g3 x (List.mem_of_getElem? hx)
    simp only [Dv.sv, e]
    exact this
  · obtain ⟨x, hx⟩ : ∃ x, script[i]? = some x := ⟨_, List.getElem?_eq_getElem hi⟩
    have e : script.getD i default = x := by rw [List.getD_eq_getElem?_getD, hx]; rfl
    have := m3 x (List.mem_of_getElem? hx)
    simp only [Dv.sv, e]
    exact this
  · show ∀ n ∈ [bl.getD 0 0, bl.getD 1 0, bl.getD 2 0, bl.getD 3 0, bl.getD 4 0, bl.getD 5 0, bl.getD 6 0, bl.getD 7 0], _
    rw [bl8]; exact q3
theorem openN_canon {l y : List Int} (hb : IsBytes l) (h : openN l = .ok y) : l = sealB y := by
  unfold openN at h
  by_cases h4 : l.length < 4
  · rw [if_pos h4] at h; cases h
  · rw [if_neg h4] at h
    by_cases hs : sumB (l.take (l.length - 4)) = le32 (l.getD (l.length - 4) 0) (l.getD (l.length - 4 + 1) 0) (l.getD (l.length - 4 + 2) 0) (l.getD (l.length - 4 + 3) 0)
    · rw [if_neg (by simp [hs])] at h
      cases h
      have gb : ∀ k, 0 ≤ l.getD k 0 ∧ l.getD k 0 < 256 := by
        intro k
        rw [List.getD_eq_getElem?_getD]
        rcases hk : l[k]? with _ | y
        · simp
        · simp; exact hb y (List.mem_of_getElem? hk)
      rw [le32_sum (gb _) (gb _) (gb _) (gb _)] at hs
      have hl : l = l.take (l.length - 4) ++ [l.getD (l.length - 4) 0, l.getD (l.length - 4 + 1) 0, l.getD (l.length - 4 + 2) 0, l.getD (l.length - 4 + 3) 0] := last4 (by omega)
      have g0 := gb (l.length - 4)
      have g1 := gb (l.length - 4 + 1)
      have g2 := gb (l.length - 4 + 2)
      have g3 := gb (l.length - 4 + 3)
      generalize l.getD (l.length - 4) 0 = a at *
      generalize l.getD (l.length - 4 + 1) 0 = b at *
      generalize l.getD (l.length - 4 + 2) 0 = c at *
      generalize l.getD (l.length - 4 + 3) 0 = d at *
      generalize l.take (l.length - 4) = t at *
      rw [hl]
      unfold sealB
      rw [hs, Int.fdiv_eq_ediv_of_nonneg _ (by decide), Int.fdiv_eq_ediv_of_nonneg _ (by decide), Int.fdiv_eq_ediv_of_nonneg _ (by decide)]
      simp only [IntKind.wrap_u8]
      have e0 : (a + 256 * b + 65536 * c + 16777216 * d) % 256 = a := by omega
      have e1 : (a + 256 * b + 65536 * c + 16777216 * d) / 256 % 256 = b := by omega
      have e2 : (a + 256 * b + 65536 * c + 16777216 * d) / 65536 % 256 = c := by omega
      have e3 : (a + 256 * b + 65536 * c + 16777216 * d) / 16777216 % 256 = d := by omega
      rw [e0, e1, e2, e3]
    · rw [if_pos hs] at h; cases h
theorem decP_canon {bs : List Int} {d : Dv} (hb : IsBytes bs) (hl : bs.length ≤ 140737488355328) (h : decP bs = .ok d) : keepN d.sv = 0 ∧ bs = sealB (encL d.sv) ∧ d.sv.wf ∧ d.sv.rows := by
  unfold decP at h
  cases ho : openN bs with
  | no e => rw [ho] at h; cases h
  | ok l =>
    rw [ho] at h
    simp only [] at h
    have hs := openN_canon hb ho
    have hbl : IsBytes l := fun x hx => hb x (by rw [hs]; simp [sealB, hx])
    have hll : l.length ≤ bs.length := by rw [hs]; simp [sealB]
    unfold decIn at h
    by_cases h4 : l.length < 4
    · rw [if_pos h4] at h; cases h
    · rw [if_neg h4] at h
      by_cases hm : magicB l = false
      · rw [if_pos hm] at h; cases h
      · rw [if_neg hm] at h
        cases hsv : savP l 4 with
        | no e => rw [hsv] at h; cases h
        | ok d' o' =>
          rw [hsv] at h
          simp only [decGo] at h
          by_cases hle : o' < l.length
          · rw [if_pos hle] at h; cases h
          · rw [if_neg hle] at h
            by_cases hk : keepN d'.sv = 0
            · rw [if_pos hk] at h
              cases h
              obtain ⟨c1, c2, c3⟩ := savP_canon hbl (by omega) hsv
              have hd : l.drop o' = [] := List.drop_eq_nil_of_le (by omega)
              rw [hd, List.append_nil] at c1
              refine ⟨hk, ?_, c2, c3⟩
              rw [hs, ← c1]
              congr 1
              have hm : magicB l = true := by simpa using hm
              match l, h4 with
              | x0 :: x1 :: x2 :: x3 :: r, _ =>
                simp [magicB] at hm
                obtain ⟨rfl, rfl, rfl, rfl⟩ := hm
                rfl
              | [], h4 => simp at h4
              | [_], h4 => simp at h4
              | [_, _], h4 => simp at h4
              | [_, _, _], h4 => simp at h4
            · rw [if_neg hk] at h; cases h
end Go.Proofs.YtmbcpmbpkdeioaaDoor.W
/- What is refused is refused for a reason; what is decoded is encoded to just those bytes. No condition. -/
namespace Go.Proofs.YtmbcpmbpkdeioaaDoor.W
open Go Go.RowKit Go.Eng
set_option maxRecDepth 100000
set_option linter.unusedVariables false
set_option linter.unusedSimpArgs false
/-! ### what is refused is refused for a reason -/
def Nz {α : Type} (p : PR α) : Prop := ∀ e, p = .no e → e ≠ 0
theorem Nz.bind {α β : Type} {p : PR α} {f : α → Nat → PR β} (hp : Nz p) (hf : ∀ a o, Nz (f a o)) : Nz (p.bind f) := fun e h => by
  cases p with
  | ok a o => exact hf a o e h
  | no e' => exact hp e (by cases h; rfl)
theorem Nz.ok {α : Type} (a : α) (o : Nat) : Nz (.ok a o) := fun e h => by cases h
theorem upN_nz (bs : List Int) (o : Nat) (most : Int) : ∀ e, upN bs o most = .no e → e ≠ 0 := by
  intro e h
  unfold upN at h
  rcases hg : getN (bs.drop o) with ⟨n, u, e'⟩
  rw [hg] at h
  by_cases he : e' = 0
  · subst he
    simp only [ne_eq, not_true_eq_false, if_false] at h
    split at h
    · cases h; decide
    · cases h
  · simp only [ne_eq, he, not_false_eq_true, if_true] at h
    cases h
    exact he
theorem nz_up (bs : List Int) (most : Int) (o : Nat) : Nz (upP bs most o) := fun e h => by
  unfold upP at h
  cases hu : upN bs o most with
  | ok n o' => rw [hu] at h; cases h
  | no e' => rw [hu] at h; cases h; exact upN_nz bs o most e hu
theorem nz_cnt (bs : List Int) (most : Int) (o : Nat) : Nz (cntP bs most o) := fun e h => by
  unfold cntP cntN at h
  cases hu : upN bs o 1099511627776 with
  | ok n o' =>
    rw [hu] at h
    by_cases hm : n > most
    · simp only [hm, if_true] at h; cases h; decide
    · simp only [hm, if_false] at h; cases h
  | no e' => rw [hu] at h; cases h; exact upN_nz _ _ _ e hu
theorem nz_row (bs : List Int) (most : Int) (o : Nat) : Nz (rowP bs most o) := fun e h => by
  unfold rowP at h
  cases hu : rowN (bs.drop o) most with
  | ok n o' => rw [hu] at h; cases h
  | no e' =>
    rw [hu] at h
    cases h
    unfold rowN at hu
    rcases hg : getN (bs.drop o) with ⟨n, u, e'⟩
    rw [hg] at hu
    by_cases he : e' = 0
    · subst he
      simp only [ne_eq, not_true_eq_false, if_false] at hu
      generalize IntKind.wrap .u64 (if (0 : Int) > most then 0 else most) = w at hu
      generalize IntKind.wrap .u64 (IntKind.wrap .i64 _) = w2 at hu
      split at hu
      · cases hu; decide
      · split at hu
        · cases hu; decide
        · cases hu
    · simp only [ne_eq, he, not_false_eq_true, if_true] at hu
      cases hu
      exact he
theorem nz_nums (bs : List Int) : ∀ k o, Nz (numsP bs k o)
  | 0, o => Nz.ok _ _
  | k + 1, o => (nz_up _ _ _).bind fun _ _ => (nz_nums bs k _).bind fun _ _ => Nz.ok _ _
theorem nz_many {α : Type} {p : Nat → PR α} (hp : ∀ o, Nz (p o)) : ∀ k o, Nz (manyP p k o)
  | 0, o => Nz.ok _ _
  | k + 1, o => (hp _).bind fun _ _ => (nz_many hp k _).bind fun _ _ => Nz.ok _ _
theorem nz_sav (bs : List Int) (o : Nat) : Nz (savP bs o) :=
  (nz_up _ _ _).bind fun _ _ => (nz_row _ _ _).bind fun _ _ => ((nz_nums _ _ _).bind fun _ _ => (nz_up _ _ _).bind fun _ _ => Nz.ok _ _).bind fun _ _ => (nz_up _ _ _).bind fun _ _ =>
  ((nz_cnt _ _ _).bind fun _ _ => nz_many (fun _ => (nz_up _ _ _).bind fun _ _ => (nz_up _ _ _).bind fun _ _ => (nz_up _ _ _).bind fun _ _ => (nz_up _ _ _).bind fun _ _ => Nz.ok _ _) _ _).bind fun _ _ =>
  (nz_row _ _ _).bind fun _ _ => (nz_row _ _ _).bind fun _ _ => (nz_row _ _ _).bind fun _ _ =>
  ((nz_cnt _ _ _).bind fun _ _ => nz_many (fun _ => (nz_up _ _ _).bind fun _ _ => (nz_up _ _ _).bind fun _ _ => (nz_up _ _ _).bind fun _ _ => Nz.ok _ _) _ _).bind fun _ _ => (nz_nums _ _ _).bind fun _ _ => Nz.ok _ _
theorem decP_nz {bs : List Int} {e : Int} (h : decP bs = .no e) : e ≠ 0 := by
  unfold decP at h
  cases ho : openN bs with
  | no e' =>
    rw [ho] at h
    cases h
    unfold openN at ho
    split at ho
    · cases ho; decide
    · split at ho
      · cases ho; decide
      · cases ho
  | ok l =>
    rw [ho] at h
    simp only [] at h
    unfold decIn at h
    split at h
    · cases h; decide
    · split at h
      · cases h; decide
      · cases hs : savP l 4 with
        | no e' => rw [hs] at h; cases h; exact nz_sav l 4 e hs
        | ok d o =>
          rw [hs] at h
          unfold decGo at h
          simp only [] at h
          split at h
          · cases h; decide
          · split at h
            · cases h
            · rename_i hk
              cases h
              exact hk
/-- What is decoded is small, is kept, and is encoded to just those bytes. -/
theorem once {bs : List Int} {d : Dv} (hb : IsBytes bs) (hl : bs.length ≤ 140737488355328) (h : decP bs = .ok d) : d.sv.fine ∧ keepN d.sv = 0 ∧ bs = sealB (encL d.sv) := by
  obtain ⟨h1, h2, _, _⟩ := decP_canon hb hl h
  have k := keepN_kept h1
  refine ⟨⟨⟨?_, Nat.le_refl _⟩, ⟨?_, Nat.le_refl _⟩, ⟨?_, Nat.le_refl _⟩, ⟨?_, Nat.le_refl _⟩, ⟨?_, Nat.le_refl _⟩, ⟨?_, Nat.le_refl _⟩⟩, h1, h2⟩
  · have := k.mem; have := k.fr; omega
  · have := k.nn; omega
  · have := k.out; omega
  · have := k.disk; omega
  · have := k.queue; omega
  · have := k.en; omega
end Go.Proofs.YtmbcpmbpkdeioaaDoor.W
/- A guest of one frame, and a guest without rows: what is reckoned. No condition. -/
namespace Go.Proofs.YtmbcpmbpkdeioaaDoor.W
open Go Go.RowKit Go.Eng
set_option maxRecDepth 100000
set_option linter.unusedVariables false
set_option linter.unusedSimpArgs false
def worksC : Con Unit Unit where
  f := F_mummerlaw30_works
  fit vs H := match vs with
    | [] => some ([], ())
    | _ => none
  n0 := 0
  pre _ := True
  args _ := []
  L0 _ := []
  outs _ := [(fun _ => True, fun _ => (.ret (.bool true), 0, []))]
structure E0 where
  fr : Int
  s : St
  steps : Int
  b1 : Int
  b2 : Int
  b3 : Int
  b4 : Int
  b5 : Int
  b6 : Int
  b7 : Int
  b8 : Int
def E0.sv (x : E0) : Sv := ⟨x.fr, ⟨[], 0⟩, x.s, x.steps, ⟨0, 0, fun _ => 0, fun _ => 0, fun _ => 0, fun _ => 0⟩, ⟨[], 0⟩, ⟨[], 0⟩, ⟨[], 0⟩, ⟨0, 0, fun _ => 0, fun _ => 0, fun _ => 0⟩, x.b1, x.b2, x.b3, x.b4, x.b5, x.b6, x.b7, x.b8⟩
end Go.Proofs.YtmbcpmbpkdeioaaDoor.W
/- A guest of one frame: the walk. No condition. -/
namespace Go.Proofs.YtmbcpmbpkdeioaaDoor.W
open Go Go.RowKit Go.Eng
set_option maxRecDepth 100000
set_option linter.unusedVariables false
set_option linter.unusedSimpArgs false
def works_c_V (x : Unit) : Prop :=
  ((64 ≤ 140737488351232 ∧ 64 ≤ 64) ∧ (0 ≤ 5864062014634 ∧ 0 ≤ 0) ∧ (0 ≤ 140737488351232 ∧ 0 ≤ 0) ∧ (0 ≤ 140737488351232 ∧ 0 ≤ 0) ∧ (0 ≤ 140737488351232 ∧ 0 ≤ 0) ∧ 0 ≤ 140737488351232 ∧ 0 ≤ 0) ∧ [AV.agg [nI 1, AV.msl 0 0 0 64 64, nU 0, nU 0, nU 0, nU 0, nU 0, nU 0, nU 0, nU 0, nU 0, nU 0, nU 0, nU 0, nU 0, nU 0, nU 0, nU 0, nU 0, nU 0, AV.bool false, nI 0, AV.msl 1 0 0 0 0, AV.msl 2 0 0 0 0, AV.msl 3 0 0 0 0, AV.msl 4 0 0 0 0, AV.msl 5 0 0 0 0, nU 0, nU 0, nU 0, nU 0, nU 0, nU 0, nU 0, nU 0]] = [AV.agg [nI 1, AV.msl 0 0 0 64 64, nU 0, nU 0, nU 0, nU 0, nU 0, nU 0, nU 0, nU 0, nU 0, nU 0, nU 0, nU 0, nU 0, nU 0, nU 0, nU 0, nU 0, nU 0, AV.bool false, nI 0, AV.msl 1 0 0 0 0, AV.msl 2 0 0 0 0, AV.msl 3 0 0 0 0, AV.msl 4 0 0 0 0, AV.msl 5 0 0 0 0, nU 0, nU 0, nU 0, nU 0, nU 0, nU 0, nU 0, nU 0]] ∧ (some (bR [0, 0, 0, 0, 0, 0, 0, 0, 0, 0, 0, 0, 0, 0, 0, 0, 0, 0, 0, 0, 0, 0, 0, 0, 0, 0, 0, 0, 0,
  0, 0, 0, 0, 0, 0, 0, 0, 0, 0, 0, 0, 0, 0, 0, 0, 0, 0, 0, 0, 0, 0, 0, 0, 0, 0, 0, 0, 0, 0, 0, 0, 0, 0, 0]) = some (bR [0, 0, 0, 0, 0, 0, 0, 0, 0, 0, 0, 0, 0, 0, 0, 0, 0, 0, 0, 0, 0, 0, 0, 0, 0, 0, 0, 0, 0, 0, 0, 0, 0, 0, 0, 0, 0, 0, 0, 0, 0, 0, 0, 0, 0, 0, 0, 0, 0, 0, 0, 0, 0, 0, 0, 0, 0, 0, 0, 0, 0, 0, 0, 0]) ∧ some (ABlk.mk false 4 (AC.recs 0 fun (x : Nat) => [nI 0, nI 0, nU 0, nU 0])) = some (ABlk.mk false 4 (AC.recs 0 fun (i : Nat) => [nI 0, nI 0, nU 0, nU 0])) ∧ some (bR []) = some (bR []) ∧ some (bR []) = some (bR []) ∧ some (bR []) = some (bR []) ∧ some (ABlk.mk false 3 (AC.recs 0 fun (x : Nat) => [nI 0, nI 0, nB 0])) = some (ABlk.mk false 3 (AC.recs 0 fun (i : Nat) => [nI 0, nI 0, nB 0])) ∧ True) ∧ (∀ (y : List Int), keepN (Sv.mk 1 (Row.mk [0, 0, 0, 0, 0, 0, 0, 0, 0, 0, 0, 0, 0, 0, 0, 0, 0, 0, 0, 0, 0, 0, 0, 0, 0, 0, 0, 0, 0, 0, 0, 0, 0, 0, 0, 0, 0, 0, 0, 0, 0, 0, 0, 0, 0, 0, 0, 0,
  0, 0, 0, 0, 0, 0, 0, 0, 0, 0, 0, 0, 0, 0, 0, 0] 64) (St.mk 0 0 0 0 0 0 0 0 0 0 0 0 0 0 0 0 0 0 false) 0 (NRow.mk 0 0 (fun (i : Nat) => numAt ((fun (x : Nat) => [nI 0, nI 0, nU 0, nU 0]) i) 0) (fun (i : Nat) => numAt ((fun (x : Nat) => [nI 0, nI 0, nU 0, nU 0]) i) 1) (fun (i : Nat) => numAt ((fun (x : Nat) => [nI 0, nI 0, nU 0, nU 0]) i) 2) fun (i : Nat) => numAt ((fun (x : Nat) => [nI 0, nI 0, nU 0, nU 0]) i) 3) (Row.mk [] 0) (Row.mk [] 0) (Row.mk [] 0) (ERow.mk 0 0 (fun (i : Nat) => numAt ((fun (x : Nat) => [nI 0, nI 0, nB 0]) i) 0) (fun (i : Nat) => numAt ((fun (x : Nat) => [nI 0, nI 0, nB 0]) i) 1) fun (i : Nat) => numAt ((fun (x : Nat) => [nI 0, nI 0, nB 0]) i) 2) 0 0 0 0 0 0 0 0) = 3 → ∃ (y : Unit), True ∧ [AV.bool false] = [AV.bool true] ∧ True) ∧ (∀ (y : List Int), keepN (Sv.mk 1 (Row.mk [0, 0, 0, 0, 0, 0, 0, 0, 0, 0, 0, 0, 0, 0, 0, 0, 0, 0, 0, 0, 0, 0, 0, 0, 0, 0, 0, 0, 0, 0, 0,
  0, 0, 0, 0, 0, 0, 0, 0, 0, 0, 0, 0, 0, 0, 0, 0, 0, 0, 0, 0, 0, 0, 0, 0, 0, 0, 0, 0, 0, 0, 0, 0, 0] 64) (St.mk 0 0 0 0 0 0 0 0 0 0 0 0 0 0 0 0 0 0 false) 0 (NRow.mk 0 0 (fun (i : Nat) => numAt ((fun (x : Nat) => [nI 0, nI 0, nU 0, nU 0]) i) 0) (fun (i : Nat) => numAt ((fun (x : Nat) => [nI 0, nI 0, nU 0, nU 0]) i) 1) (fun (i : Nat) => numAt ((fun (x : Nat) => [nI 0, nI 0, nU 0, nU 0]) i) 2) fun (i : Nat) => numAt ((fun (x : Nat) => [nI 0, nI 0, nU 0, nU 0]) i) 3) (Row.mk [] 0) (Row.mk [] 0) (Row.mk [] 0) (ERow.mk 0 0 (fun (i : Nat) => numAt ((fun (x : Nat) => [nI 0, nI 0, nB 0]) i) 0) (fun (i : Nat) => numAt ((fun (x : Nat) => [nI 0, nI 0, nB 0]) i) 1) fun (i : Nat) => numAt ((fun (x : Nat) => [nI 0, nI 0, nB 0]) i) 2) 0 0 0 0 0 0 0 0) = 2 → ∃ (y : Unit), True ∧ [AV.bool false] = [AV.bool true] ∧ True) ∧ (∀ (y : List Int), keepN (Sv.mk 1 (Row.mk [0, 0, 0, 0, 0, 0, 0, 0, 0, 0, 0, 0, 0, 0,
  0, 0, 0, 0, 0, 0, 0, 0, 0, 0, 0, 0, 0, 0, 0, 0, 0, 0, 0, 0, 0, 0, 0, 0, 0, 0, 0, 0, 0, 0, 0, 0, 0, 0, 0, 0, 0, 0, 0, 0, 0, 0, 0, 0, 0, 0, 0, 0, 0, 0] 64) (St.mk 0 0 0 0 0 0 0 0 0 0 0 0 0 0 0 0 0 0 false) 0 (NRow.mk 0 0 (fun (i : Nat) => numAt ((fun (x : Nat) => [nI 0, nI 0, nU 0, nU 0]) i) 0) (fun (i : Nat) => numAt ((fun (x : Nat) => [nI 0, nI 0, nU 0, nU 0]) i) 1) (fun (i : Nat) => numAt ((fun (x : Nat) => [nI 0, nI 0, nU 0, nU 0]) i) 2) fun (i : Nat) => numAt ((fun (x : Nat) => [nI 0, nI 0, nU 0, nU 0]) i) 3) (Row.mk [] 0) (Row.mk [] 0) (Row.mk [] 0) (ERow.mk 0 0 (fun (i : Nat) => numAt ((fun (x : Nat) => [nI 0, nI 0, nB 0]) i) 0) (fun (i : Nat) => numAt ((fun (x : Nat) => [nI 0, nI 0, nB 0]) i) 1) fun (i : Nat) => numAt ((fun (x : Nat) => [nI 0, nI 0, nB 0]) i) 2) 0 0 0 0 0 0 0 0) = 0 ∧ y = sealB (encL (Sv.mk 1 (Row.mk [0, 0, 0, 0, 0, 0, 0, 0, 0, 0, 0, 0, 0, 0, 0, 0, 0, 0, 0, 0, 0, 0,
  0, 0, 0, 0, 0, 0, 0, 0, 0, 0, 0, 0, 0, 0, 0, 0, 0, 0, 0, 0, 0, 0, 0, 0, 0, 0, 0, 0, 0, 0, 0, 0, 0, 0, 0, 0, 0, 0, 0, 0, 0, 0] 64) (St.mk 0 0 0 0 0 0 0 0 0 0 0 0 0 0 0 0 0 0 false) 0 (NRow.mk 0 0 (fun (i : Nat) => numAt ((fun (x : Nat) => [nI 0, nI 0, nU 0, nU 0]) i) 0) (fun (i : Nat) => numAt ((fun (x : Nat) => [nI 0, nI 0, nU 0, nU 0]) i) 1) (fun (i : Nat) => numAt ((fun (x : Nat) => [nI 0, nI 0, nU 0, nU 0]) i) 2) fun (i : Nat) => numAt ((fun (x : Nat) => [nI 0, nI 0, nU 0, nU 0]) i) 3) (Row.mk [] 0) (Row.mk [] 0) (Row.mk [] 0) (ERow.mk 0 0 (fun (i : Nat) => numAt ((fun (x : Nat) => [nI 0, nI 0, nB 0]) i) 0) (fun (i : Nat) => numAt ((fun (x : Nat) => [nI 0, nI 0, nB 0]) i) 1) fun (i : Nat) => numAt ((fun (x : Nat) => [nI 0, nI 0, nB 0]) i) 2) 0 0 0 0 0 0 0 0)) → ∃ (y_1 : Unit), True ∧ [AV.bool (bif true then (↑y.length : Int) == 107 else false)] = [AV.bool true] ∧ True) ∧ True
theorem works_c_e (x : Unit) : some (works_c_V x) = (worksC.cond sp Go.Proofs.Tryd.prog (drP sp Go.Proofs.Tryd.prog) noLoops (looseK F_file_Encode 1 svSpec (encC.orc sp)) 40 2 x) := by kernel_rfl
theorem putN_small {n : Int} (h : n < 128) : putN n = [IntKind.wrap .u8 n] := by unfold putN; rw [if_pos h]
set_option maxRecDepth 100000 in
theorem works_ok : worksC.OK Go.Proofs.Tryd.prog := by
  refine Con.by hmix (noLoops_ok _) (looseK_ok (Con.orc_ok encC_ok)) works_c_V works_c_e (fun x hx => ?_)
  unfold works_c_V
  refine ⟨by decide, rfl, ⟨rfl, rfl, rfl, rfl, rfl, rfl, trivial⟩, (fun y h => by cases h), (fun y h => by cases h), (fun y h => ⟨(), trivial, ?_, trivial⟩), trivial⟩
  rw [h.2]
  have : (sealB (encL ⟨1, ⟨List.replicate 64 0, 64⟩, ⟨0, 0, 0, 0, 0, 0, 0, 0, 0, 0, 0, 0, 0, 0, 0, 0, 0, 0, false⟩, 0, ⟨0, 0, fun _ => 0, fun _ => 0, fun _ => 0, fun _ => 0⟩, ⟨[], 0⟩, ⟨[], 0⟩, ⟨[], 0⟩, ⟨0, 0, fun _ => 0, fun _ => 0, fun _ => 0⟩, 0, 0, 0, 0, 0, 0, 0, 0⟩)).length = 107 := by
    simp [sealB, encL, rowB, notesB, evsB, encs, St.nums, putN_small, IntKind.wrap_u64]
  have this : ((sealB (encL ⟨1, ⟨List.replicate 64 0, 64⟩, ⟨0, 0, 0, 0, 0, 0, 0, 0, 0, 0, 0, 0, 0, 0, 0, 0, 0, 0, false⟩, 0, ⟨0, 0, fun _ => 0, fun _ => 0, fun _ => 0, fun _ => 0⟩, ⟨[], 0⟩, ⟨[], 0⟩, ⟨[], 0⟩, ⟨0, 0, fun _ => 0, fun _ => 0, fun _ => 0⟩, 0, 0, 0, 0, 0, 0, 0, 0⟩)).length : Int) == 107 := by rw [this]; rfl
  exact congrArg (fun b => [AV.bool b]) this
end Go.Proofs.YtmbcpmbpkdeioaaDoor.W
/- Where two lists differ, and sums by the document: what is reckoned, and the loops' states. No condition. -/
namespace Go.Proofs.YtmbcpmbpkdeioaaDoor.W
open Go Go.RowKit Go.Eng
set_option maxRecDepth 100000
set_option linter.unusedVariables false
set_option linter.unusedSimpArgs false
/-! ### where two lists differ -/
structure FbX where
  bs : List Int
  c : Nat
  d : Nat
structure FbI where
  x : FbX
  k : Nat
def FbX.L (x : FbX) : LH := [(0, ⟨false, 1, .ints .u8 x.bs⟩), (1, ⟨false, 1, .ints .u8 x.bs⟩)]
def firstSlots (f : FuncId) (n k : Nat) : Slots := [(5, .fn (.func f) [] [.ptr 2 0 0, .ptr 3 0 0]), (12, .int .i64 n), (13, .int .i64 k)]
def fbL (P : Program) : Lp FbI where
  B := 2
  n := ntmpsOf P F_judge_first_byte
  code := loopOf P F_judge_first_byte 0
  fit s H := match s.get 0, s.get 1 with
    | .msl b _ _ _ c, .msl _ _ _ _ d => (rowOf H b c).map fun r => ⟨⟨r.bs, c, d⟩, 0⟩
    | _, _ => none
  pre i := i.k ≤ i.x.bs.length ∧ i.x.bs.length ≤ 140737488355328
  slots i := firstSlots F_judge_first_byte_1 i.x.bs.length i.k
  nx i := 4
  L i := [(0, ⟨false, 1, .ints .u8 i.x.bs⟩), (1, ⟨false, 1, .ints .u8 i.x.bs⟩), (2, ⟨true, 1, .cells [.msl 0 0 0 i.x.bs.length i.x.c]⟩), (3, ⟨true, 1, .cells [.msl 1 0 0 i.x.bs.length i.x.d]⟩)]
  m i := i.x.bs.length - i.k
  outs i := [(true, ⟨.exit 0, [], 4, i.x.L⟩)]
def fbC : Con FbX Unit where
  f := F_judge_first_byte
  fit vs H := match vs with
    | [.msl b _ _ _ c, .msl b1 _ _ _ d] => (rowOf H b c).map fun r => ([b, b1], ⟨r.bs, c, d⟩)
    | _ => none
  n0 := 2
  pre x := x.bs.length ≤ 140737488355328
  args x := [.msl 0 0 0 x.bs.length x.c, .msl 1 0 0 x.bs.length x.d]
  L0 x := x.L
  outs x := [(fun _ => True, fun _ => (.ret (.int .i64 (-1)), 4, x.L))]
/-- Lists of notes, alike. -/
structure FnX where
  r : NRow
  q : NRow
def FnX.same (x : FnX) : Prop := x.q.n = x.r.n ∧ x.r.n ≤ 140737488355328 ∧ ∀ i, i < x.r.n → x.q.at_ i = x.r.at_ i ∧ x.q.cause i = x.r.cause i ∧ x.q.back i = x.r.back i ∧ x.q.addr i = x.r.addr i
structure FnI where
  x : FnX
  k : Nat
def FnX.L (x : FnX) : LH := [(0, ⟨false, 4, .recs x.r.n x.r.f⟩), (1, ⟨false, 4, .recs x.q.n x.q.f⟩)]
def fnL (P : Program) : Lp FnI where
  B := 2
  n := ntmpsOf P F_judge_first_api_Note
  code := loopOf P F_judge_first_api_Note 0
  fit s H := match s.get 0, s.get 1 with
    | .msl b _ _ _ c, .msl b1 _ _ _ d => match nrowOf H b c, nrowOf H b1 d with
      | some r, some q => some ⟨⟨r, q⟩, 0⟩
      | _, _ => none
    | _, _ => none
  pre i := i.k ≤ i.x.r.n ∧ i.x.same
  slots i := firstSlots F_judge_first_api_Note_1 i.x.r.n i.k
  nx i := 4
  L i := [(0, ⟨false, 4, .recs i.x.r.n i.x.r.f⟩), (1, ⟨false, 4, .recs i.x.q.n i.x.q.f⟩), (2, ⟨true, 1, .cells [.msl 0 0 0 i.x.r.n i.x.r.c]⟩), (3, ⟨true, 1, .cells [.msl 1 0 0 i.x.q.n i.x.q.c]⟩)]
  m i := i.x.r.n - i.k
  outs i := [(true, ⟨.exit 0, [], 4, i.x.L⟩)]
def fnC : Con FnX Unit where
  f := F_judge_first_api_Note
  fit vs H := match vs with
    | [.msl b _ _ _ c, .msl b1 _ _ _ d] => match nrowOf H b c, nrowOf H b1 d with
      | some r, some q => some ([b, b1], ⟨r, q⟩)
      | _, _ => none
    | _ => none
  n0 := 2
  pre x := x.same
  args x := [.msl 0 0 0 x.r.n x.r.c, .msl 1 0 0 x.q.n x.q.c]
  L0 x := x.L
  outs x := [(fun _ => True, fun _ => (.ret (.int .i64 (-1)), 4, x.L))]
/-- Lists of events, alike. -/
structure FeX where
  r : ERow
  q : ERow
def FeX.same (x : FeX) : Prop := x.q.n = x.r.n ∧ x.r.n ≤ 140737488355328 ∧ ∀ i, i < x.r.n → x.q.at_ i = x.r.at_ i ∧ x.q.kind i = x.r.kind i ∧ x.q.byte i = x.r.byte i
structure FeI where
  x : FeX
  k : Nat
def FeX.L (x : FeX) : LH := [(0, ⟨false, 3, .recs x.r.n x.r.f⟩), (1, ⟨false, 3, .recs x.q.n x.q.f⟩)]
def feL (P : Program) : Lp FeI where
  B := 2
  n := ntmpsOf P F_judge_first_api_Event
  code := loopOf P F_judge_first_api_Event 0
  fit s H := match s.get 0, s.get 1 with
    | .msl b _ _ _ c, .msl b1 _ _ _ d => match erowOf H b c, erowOf H b1 d with
      | some r, some q => some ⟨⟨r, q⟩, 0⟩
      | _, _ => none
    | _, _ => none
  pre i := i.k ≤ i.x.r.n ∧ i.x.same
  slots i := firstSlots F_judge_first_api_Event_1 i.x.r.n i.k
  nx i := 4
  L i := [(0, ⟨false, 3, .recs i.x.r.n i.x.r.f⟩), (1, ⟨false, 3, .recs i.x.q.n i.x.q.f⟩), (2, ⟨true, 1, .cells [.msl 0 0 0 i.x.r.n i.x.r.c]⟩), (3, ⟨true, 1, .cells [.msl 1 0 0 i.x.q.n i.x.q.c]⟩)]
  m i := i.x.r.n - i.k
  outs i := [(true, ⟨.exit 0, [], 4, i.x.L⟩)]
def feC : Con FeX Unit where
  f := F_judge_first_api_Event
  fit vs H := match vs with
    | [.msl b _ _ _ c, .msl b1 _ _ _ d] => match erowOf H b c, erowOf H b1 d with
      | some r, some q => some ([b, b1], ⟨r, q⟩)
      | _, _ => none
    | _ => none
  n0 := 2
  pre x := x.same
  args x := [.msl 0 0 0 x.r.n x.r.c, .msl 1 0 0 x.q.n x.q.c]
  L0 x := x.L
  outs x := [(fun _ => True, fun _ => (.ret (.int .i64 (-1)), 4, x.L))]
end Go.Proofs.YtmbcpmbpkdeioaaDoor.W
/- Two guests told apart: what is reckoned. No condition. -/
namespace Go.Proofs.YtmbcpmbpkdeioaaDoor.W
open Go Go.RowKit Go.Eng
set_option maxRecDepth 100000
set_option linter.unusedVariables false
set_option linter.unusedSimpArgs false
/-- Two guests alike: the second one's rows. -/
structure TlX where
  x : Sv
  c0 : Nat
  c2 : Nat
  c3 : Nat
  c4 : Nat
  q : NRow
  e : ERow
def TlX.y (t : TlX) : Sv := { t.x with mem := ⟨t.x.mem.bs, t.c0⟩, notes := t.q, out := ⟨t.x.out.bs, t.c2⟩, disk := ⟨t.x.disk.bs, t.c3⟩, queue := ⟨t.x.queue.bs, t.c4⟩, script := t.e }
def up6 : Nat → Nat := fun b => b + 6
def TlX.L (t : TlX) : LH := [(0, t.x.mem.blk), (1, t.x.notes.blk), (2, t.x.out.blk), (3, t.x.disk.blk), (4, t.x.queue.blk), (5, t.x.script.blk), (6, t.y.mem.blk), (7, t.y.notes.blk), (8, t.y.out.blk), (9, t.y.disk.blk), (10, t.y.queue.blk), (11, t.y.script.blk)]
def TlX.ok (t : TlX) : Prop := t.x.mem.bs.length ≤ 140737488355328 ∧ (FnX.mk t.x.notes t.q).same ∧ t.x.out.bs.length ≤ 140737488355328 ∧ t.x.disk.bs.length ≤ 140737488355328 ∧ t.x.queue.bs.length ≤ 140737488355328 ∧ (FeX.mk t.x.script t.e).same
def tlFit (vs : List AV) (H : AH) : Option (List Nat × TlX) := match vs with
  | [.agg l, .agg l2] => match svOf H l, svOf H l2 with
    | some (ms, x), some (ns, y) => some (ms ++ ns, ⟨x, y.mem.c, y.out.c, y.disk.c, y.queue.c, y.notes, y.script⟩)
    | _, _ => none
  | _ => none
/-! ### the parts of two guests alike -/
structure NmX where
  nm : ByteArray
  n : Int
def numbersC : Con NmX Unit where
  f := F_judge_numbers
  fit vs H := match vs with
    | [.str nm, .int _ a, .int _ _] => some ([], ⟨nm, a⟩)
    | _ => none
  n0 := 0
  pre _ := True
  args x := [.str x.nm, .int .i64 x.n, .int .i64 x.n]
  L0 _ := []
  outs x := [(fun _ => True, fun _ => (.ret (.agg [.str x.nm, .bool false, .fn (.func F_judge_numbers_1) [] [.ptr 0 0 0, .ptr 1 0 0]]), 3, []))]
def listC : Con ByteArray Unit where
  f := F_judge_list
  fit vs H := match vs with
    | [.str nm, .int _ _] => some ([], nm)
    | _ => none
  n0 := 0
  pre _ := True
  args nm := [.str nm, .int .i64 (-1)]
  L0 _ := []
  outs nm := [(fun _ => True, fun _ => (.ret (.agg [.str nm, .bool false, .fn (.func F_judge_list_1) [] [.ptr 0 0 0]]), 2, []))]
structure BtX where
  nm : ByteArray
  x : FbX
def bytesC : Con BtX Unit where
  f := F_judge_bytes
  fit vs H := match vs with
    | [.str nm, .msl b _ _ _ c, .msl b1 _ _ _ d] => (rowOf H b c).map fun r => ([b, b1], ⟨nm, ⟨r.bs, c, d⟩⟩)
    | _ => none
  n0 := 2
  pre x := x.x.bs.length ≤ 140737488355328
  args x := [.str x.nm, .msl 0 0 0 x.x.bs.length x.x.c, .msl 1 0 0 x.x.bs.length x.x.d]
  L0 x := x.x.L
  outs x := [(fun _ => True, fun _ => (.ret (.agg [.str x.nm, .bool false, .fn (.func F_judge_bytes_1) [] [.ptr 5 0 0, .ptr 2 0 0, .ptr 3 0 0]]), 6, x.x.L))]
def stateS : ByteArray := ⟨#[115, 116, 97, 116, 101]⟩
def statesC : Con St Unit where
  f := F_judge_states
  fit vs H := match vs with
    | [.agg l, .agg _] => (stOf l).map fun s => ([], s)
    | _ => none
  n0 := 0
  pre _ := True
  args s := [.agg s.av, .agg s.av]
  L0 _ := []
  outs s := [(fun _ => True, fun _ => (.ret (.agg [.str stateS, .bool false, .fn (.func F_judge_states_1) [] [.ptr 5 0 0, .ptr 6 0 0]]), 7, []))]
def devicesC : Con Sv Unit where
  f := F_judge_devices
  fit := svFit
  n0 := 6
  pre _ := True
  args x := [.agg x.av]
  L0 x := x.L
  outs x := [(fun _ => True, fun _ => (.ret (.agg [.int .u32 x.b1, .int .u32 x.b2, .int .u32 x.b3, .int .u32 x.b4, .int .u32 x.b5, .int .u32 x.b6, .int .u32 x.b7, .int .u32 x.b8]), 8, x.L))]
def notesC : Con FnX Unit := { fnC with f := F_judge_Notes }
def eventsC : Con FeX Unit := { feC with f := F_judge_Events }
def partsAV : List AV := [.str ⟨#[102, 114, 97, 109, 101, 115]⟩, .bool false, .fn (.func F_judge_numbers_1) [] [.ptr 13 0 0, .ptr 14 0 0], .str ⟨#[115, 116, 101, 112, 115]⟩, .bool false, .fn (.func F_judge_numbers_1) [] [.ptr 15 0 0, .ptr 16 0 0], .str ⟨#[115, 116, 97, 116, 101]⟩, .bool false, .fn (.func F_judge_states_1) [] [.ptr 17 0 0, .ptr 18 0 0], .str ⟨#[109, 101, 109]⟩, .bool false, .fn (.func F_judge_bytes_1) [] [.ptr 19 0 0, .ptr 20 0 0, .ptr 21 0 0], .str ⟨#[110, 111, 116, 101, 115]⟩, .bool false, .fn (.func F_judge_list_1) [] [.ptr 22 0 0], .str ⟨#[111, 117, 116]⟩, .bool false, .fn (.func F_judge_bytes_1) [] [.ptr 23 0 0, .ptr 24 0 0, .ptr 25 0 0], .str ⟨#[100, 105, 115, 107]⟩, .bool false, .fn (.func F_judge_bytes_1) [] [.ptr 26 0 0, .ptr 27 0 0, .ptr 28 0 0], .str ⟨#[113, 117, 101, 117, 101]⟩, .bool false, .fn (.func F_judge_bytes_1) [] [.ptr 29 0 0, .ptr 30 0 0, .ptr 31 0 0], .str ⟨#[115, 99, 114, 105, 112, 116]⟩, .bool false, .fn (.func F_judge_list_1) [] [.ptr 32 0 0], .str ⟨#[100, 101, 118, 105, 99, 101, 115]⟩, .bool false, .fn (.func F_judge_parts_1) [] []]
def partC : Con TlX Unit where
  f := F_judge_parts
  fit := tlFit
  n0 := 12
  pre t := t.ok
  args t := [.agg t.x.av, .agg (AV.rens up6 t.y.av)]
  L0 t := t.L
  outs t := [(fun _ => True, fun _ => (.ret (.sl 12 0 0 10 10 true), 33, t.L ++ [(12, ⟨true, 3, .cells partsAV⟩)]))]
def tellC : Con TlX Unit where
  f := F_judge_Tell
  fit := tlFit
  n0 := 12
  pre t := t.ok
  args t := [.agg t.x.av, .agg (AV.rens up6 t.y.av)]
  L0 t := t.L
  outs t := [(fun _ => True, fun _ => (.ret (.str ⟨#[]⟩), 12, t.L))]
def partsC : Con TlX Unit where
  f := F_judge_Parts
  fit := tlFit
  n0 := 12
  pre t := t.ok
  args t := [.agg t.x.av, .agg (AV.rens up6 t.y.av)]
  L0 t := t.L
  outs t := [(fun _ => True, fun _ => (.ret .nils, 12, t.L))]
def tellNo : List FuncId := [F_judge_values, F_judge_numbers_1, F_judge_states_1, F_judge_bytes_1, F_judge_list_1, F_judge_parts_1]
end Go.Proofs.YtmbcpmbpkdeioaaDoor.W
/- Two guests told apart: the walks of the small parts. No condition. -/
namespace Go.Proofs.YtmbcpmbpkdeioaaDoor.W
open Go Go.RowKit Go.Eng
set_option maxRecDepth 100000
set_option linter.unusedVariables false
set_option linter.unusedSimpArgs false
def numbersC_c_V (x : NmX) : Prop :=
  ∃ (y : Unit), True ∧ [AV.agg [AV.str x.nm, AV.bool (x.n != x.n), AV.fn (Fn.func 50) [] [AV.ptr 0 0 0, AV.ptr 1 0 0]]] = [AV.agg [AV.str x.nm, AV.bool false, AV.fn (Fn.func F_judge_numbers_1) [] [AV.ptr 0 0 0, AV.ptr 1 0 0]]] ∧ True
theorem numbersC_c_e (x : NmX) : some (numbersC_c_V x) = (numbersC.cond sp Go.Proofs.Tryd.prog (drP sp Go.Proofs.Tryd.prog) noLoops noBaseK 40 2 x) := by kernel_rfl
theorem numbersC_ok : numbersC.OK Go.Proofs.Tryd.prog := by
  refine Con.by hmix (noLoops_ok _) (noBaseK_ok _) numbersC_c_V numbersC_c_e (fun x _ => ⟨(), trivial, by simp, trivial⟩)
def listC_c_V (x : ByteArray) : Prop :=
  ∃ (y : Unit), True ∧ [AV.agg [AV.str x, AV.bool false, AV.fn (Fn.func 58) [] [AV.ptr 0 0 0]]] = [AV.agg [AV.str x, AV.bool false, AV.fn (Fn.func F_judge_list_1) [] [AV.ptr 0 0 0]]] ∧ True
theorem listC_c_e (x : ByteArray) : some (listC_c_V x) = (listC.cond sp Go.Proofs.Tryd.prog (drP sp Go.Proofs.Tryd.prog) noLoops noBaseK 40 2 x) := by kernel_rfl
theorem listC_ok : listC.OK Go.Proofs.Tryd.prog := by
  refine Con.by hmix (noLoops_ok _) (noBaseK_ok _) listC_c_V listC_c_e (fun x _ => ⟨(), trivial, rfl, trivial⟩)
def statesC_c_V (x : St) : Prop :=
  sp (bif false then !(x.r0 == x.r0 && (x.r1 == x.r1 && (x.r2 == x.r2 && (x.r3 == x.r3 && (x.r4 == x.r4 && (x.r5 == x.r5 && (x.r6 == x.r6 && (x.r7 == x.r7 && true))))))) && (x.pc == x.pc && (x.ps == x.ps && (x.c0 == x.c0 && (x.c1 == x.c1 && (x.c2 == x.c2 && (x.c3 == x.c3 && (x.c4 == x.c4 && (x.c5 == x.c5 && (x.c6 == x.c6 && (x.c7 == x.c7 && true))))))) && (x.h == x.h && true))))) else x.r0 == x.r0 && (x.r1 == x.r1 && (x.r2 == x.r2 && (x.r3 == x.r3 && (x.r4 == x.r4 && (x.r5 == x.r5 && (x.r6 == x.r6 && (x.r7 == x.r7 && true))))))) && (x.pc == x.pc && (x.ps == x.ps && (x.c0 == x.c0 && (x.c1 == x.c1 && (x.c2 == x.c2 && (x.c3 == x.c3 && (x.c4 == x.c4 && (x.c5 == x.c5 && (x.c6 == x.c6 && (x.c7 == x.c7 && true))))))) && (x.h == x.h && true))))) (∃ (y : Unit), True ∧ [AV.agg [AV.str (ByteArray.mk (Array.mk [115, 116, 97, 116, 101])), AV.bool false, AV.fn (Fn.func 54) [] [AV.ptr 5 0 0, AV.ptr 6 0
  0]]] = [AV.agg [AV.str stateS, AV.bool false, AV.fn (Fn.func F_judge_states_1) [] [AV.ptr 5 0 0, AV.ptr 6 0 0]]] ∧ True) (sp (decide (x.r0 = x.r0) && (decide (x.r1 = x.r1) && (decide (x.r2 = x.r2) && (decide (x.r3 = x.r3) && (decide (x.r4 = x.r4) && (decide (x.r5 = x.r5) && (decide (x.r6 = x.r6) && (decide (x.r7 = x.r7) && (decide (x.pc = x.pc) && (decide (x.ps = x.ps) && (decide (x.c0 = x.c0) && (decide (x.c1 = x.c1) && (decide (x.c2 = x.c2) && (decide (x.c3 = x.c3) && (decide (x.c4 = x.c4) && (decide (x.c5 = x.c5) && (decide (x.c6 = x.c6) && (decide (x.c7 = x.c7) && (x.h == x.h && true))))))))))))))))))) (sp (decide (x.r0 = x.r0) && (decide (x.r1 = x.r1) && (decide (x.r2 = x.r2) && (decide (x.r3 = x.r3) && (decide (x.r4 = x.r4) && (decide (x.r5 = x.r5) && (decide (x.r6 = x.r6) && (decide (x.r7 = x.r7) && (decide (x.pc = x.pc) && (decide (x.ps = x.ps) && (decide (x.c0 = x.c0) && (decide
  (x.c1 = x.c1) && (decide (x.c2 = x.c2) && (decide (x.c3 = x.c3) && (decide (x.c4 = x.c4) && (decide (x.c5 = x.c5) && (decide (x.c6 = x.c6) && (decide (x.c7 = x.c7) && (x.h == x.h && true))))))))))))))))))) False False) False)
theorem statesC_c_e (x : St) : some (statesC_c_V x) = (statesC.cond sp Go.Proofs.Tryd.prog (drP sp Go.Proofs.Tryd.prog) noLoops (vF sp Go.Proofs.Tryd.prog (drP sp Go.Proofs.Tryd.prog) noLoops (noK tellNo) 40 2) 40 2 x) := by kernel_rfl
theorem statesC_ok : statesC.OK Go.Proofs.Tryd.prog := by
  refine Con.by hmix (noLoops_ok _) (vF_ok (fun _ hk => drP_ok hmix _ hk) (noLoops_ok _) (noK_ok _ _) 40 2) statesC_c_V statesC_c_e (fun x _ => ?_)
  unfold statesC_c_V
  exact spT (by simp) ⟨(), trivial, rfl, trivial⟩
end Go.Proofs.YtmbcpmbpkdeioaaDoor.W
/- Sums and seals as the document has them: what is reckoned, and the loops' states. No condition. -/
namespace Go.Proofs.YtmbcpmbpkdeioaaDoor.W
open Go Go.RowKit Go.Eng
set_option maxRecDepth 100000
set_option linter.unusedVariables false
set_option linter.unusedSimpArgs false
structure RiI where
  bs : List Int
  c : Nat
  k : Nat
  r : Int
  i : Nat
def riL (P : Program) : Lp RiI where
  B := 1
  n := ntmpsOf P F_mummerref29_Sum
  code := (loopsIn (loopOf P F_mummerref29_Sum 0)).getD 0 .skip
  fit s H := match s.get 0, s.get 3, s.get 4, s.get 5 with
    | .msl b _ _ _ c, .int _ r, .int _ k, .int _ i => (rowOf H b c).map fun q => ⟨q.bs, c, k.toNat, r, i.toNat⟩
    | _, _, _, _ => none
  pre i := i.i ≤ 8 ∧ 0 ≤ i.r ∧ i.r ≤ 4294967295
  slots i := [(0, .msl 0 0 0 i.bs.length i.c), (3, .int .u32 i.r), (4, .int .i64 i.k), (5, .int .i64 i.i)]
  nx _ := 1
  L i := [(0, ⟨false, 1, .ints .u8 i.bs⟩)]
  m i := 8 - i.i
  outs i := [(true, ⟨.exit 2, [(0, .msl 0 0 0 i.bs.length i.c), (3, .int .u32 (movedSteps (8 - i.i) i.r)), (4, .int .i64 i.k)], 1, [(0, ⟨false, 1, .ints .u8 i.bs⟩)]⟩)]
structure RoI where
  bs : List Int
  c : Nat
  r : Int
  k : Nat
def roL (P : Program) : Lp RoI where
  B := 1
  n := ntmpsOf P F_mummerref29_Sum
  code := loopOf P F_mummerref29_Sum 0
  fit s H := match s.get 0, s.get 3, s.get 4 with
    | .msl b _ _ _ c, .int _ r, .int _ k => (rowOf H b c).map fun q => ⟨q.bs, c, r, k.toNat⟩
    | _, _, _ => none
  pre i := i.k ≤ i.bs.length ∧ i.bs.length ≤ 140737488355328 ∧ 0 ≤ i.r ∧ i.r ≤ 4294967295
  slots i := [(0, .msl 0 0 0 i.bs.length i.c), (3, .int .u32 i.r), (4, .int .i64 i.k)]
  nx _ := 1
  L i := [(0, ⟨false, 1, .ints .u8 i.bs⟩)]
  m i := i.bs.length - i.k
  outs i := [(true, ⟨.exit 0, [(3, .int .u32 (sumR i.r (i.bs.drop i.k)))], 1, [(0, ⟨false, 1, .ints .u8 i.bs⟩)]⟩)]
def rsumC : Con Row Unit where
  f := F_mummerref29_Sum
  fit vs H := match vs with
    | [.msl b _ _ _ c] => (rowOf H b c).map fun q => ([b], q)
    | _ => none
  n0 := 1
  pre x := x.bs.length ≤ 140737488355328
  args x := [.msl 0 0 0 x.bs.length x.c]
  L0 x := [(0, ⟨false, 1, .ints .u8 x.bs⟩)]
  outs x := [(fun _ => True, fun _ => (.ret (.int .u32 (sumB x.bs)), 1, [(0, ⟨false, 1, .ints .u8 x.bs⟩)]))]
structure SeI where
  bs : List Int
  c : Nat
  k : Nat
  s : Bool
def seL (P : Program) : Lp SeI where
  B := 1
  n := ntmpsOf P F_mummerref29_Sealed
  code := loopOf P F_mummerref29_Sealed 0
  fit s H := match s.get 0 with
    | .msl b _ _ _ c => (rowOf H b c).map fun q => ⟨q.bs, c, 0, false⟩
    | _ => none
  pre i := i.k ≤ i.bs.length ∧ i.bs.length ≤ 140737488355324 ∧ (i.s = true → 1 ≤ i.k) ∧ (i.s = false → i.k = 0)
  slots i := [(0, .msl 0 0 0 i.bs.length i.c), (3, bif i.s then .sl 1 0 0 i.k i.k false else .nils), (4, .int .i64 i.k)]
  nx _ := 2
  L i := bif i.s then [(0, ⟨false, 1, .ints .u8 i.bs⟩), (1, ⟨true, 1, .ints .u8 (i.bs.take i.k)⟩)] else [(0, ⟨false, 1, .ints .u8 i.bs⟩)]
  m i := i.bs.length - i.k
  outs i := [(decide (i.bs.length = 0), ⟨.exit 0, [(0, .msl 0 0 0 i.bs.length i.c), (3, .nils)], 2, [(0, ⟨false, 1, .ints .u8 i.bs⟩)]⟩),
    (true, ⟨.exit 0, [(0, .msl 0 0 0 i.bs.length i.c), (3, .sl 1 0 0 i.bs.length i.bs.length false)], 2, [(0, ⟨false, 1, .ints .u8 i.bs⟩), (1, ⟨true, 1, .ints .u8 i.bs⟩)]⟩)]
  sh j := { j with s := true }
def rsealC : Con Row Unit where
  f := F_mummerref29_Sealed
  fit vs H := match vs with
    | [.msl b _ _ _ c] => (rowOf H b c).map fun q => ([b], q)
    | _ => none
  n0 := 1
  pre x := x.bs.length ≤ 140737488355324
  args x := [.msl 0 0 0 x.bs.length x.c]
  L0 x := [(0, ⟨false, 1, .ints .u8 x.bs⟩)]
  outs x := [(fun _ => True, fun _ => (.ret (.sl 1 0 0 (sealB x.bs).length (sealB x.bs).length false), 2, [(0, ⟨false, 1, .ints .u8 x.bs⟩), (1, ⟨true, 1, .ints .u8 (sealB x.bs)⟩)]))]
end Go.Proofs.YtmbcpmbpkdeioaaDoor.W
