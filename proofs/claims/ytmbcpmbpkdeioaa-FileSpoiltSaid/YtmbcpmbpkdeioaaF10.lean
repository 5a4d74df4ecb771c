/- A guest decoded: the walk. No condition. -/
import Derived.Test.YtmbcpmbpkdeioaaF09
import Derived.Test.YtmbcpmbpkdeioaaF07
import Derived.KernelRfl
import Derived.RowKit
import Derived.Test.YtmbcpmbpkdeioaaF08
import Derived.Test.YtmbcpmbpkdeioaaEn29
import Derived.Test.YtmbcpmbpkdeioaaProg
namespace Go.Proofs.Ytmbcpmbpkdeioaa.W
open Go Go.RowKit Go.Eng
set_option linter.unusedVariables false
set_option linter.unusedSimpArgs false
def dec_c_V (x : OpenX) : Prop :=
  (x.bs.length ≤ 100000000000 ∧ x.bs.length ≤ x.c) ∧ [] ++ [AV.sl 0 0 0 x.bs.length x.c x.ex] ++ [] = [AV.sl 0 0 0 x.bs.length x.c x.ex] ∧ (some (ABlk.mk x.own 1 (AC.ints IntKind.u8 x.bs)) = some (ABlk.mk x.own 1 (AC.ints IntKind.u8 x.bs)) ∧ True) ∧ (∀ (y : List Int), openN x.bs = OpenR.ok y → sp (decide ((↑y.length : Int) < 4)) (sp (decide ((↑y.length : Int) < 4) == true) (sp (decide ((↑y.length : Int) < 4) == decide ((↑y.length : Int) < 4)) (sp (decide ((↑y.length : Int) = (↑y.length : Int))) (sp (y.length.beq y.length && y.length.beq y.length && true) ((∃ (y : DecE), decP x.bs = DecR.ok y.d ∧ False) ∨ ∃ (y : DecE), decP x.bs = DecR.no y.e ∧ [AV.tup [AV.agg [nI 0, AV.nils, nU 0, nU 0, nU 0, nU 0, nU 0, nU 0, nU 0, nU 0, nU 0, nU 0, nU 0, nU 0, nU 0, nU 0, nU 0, nU 0, nU 0, nU 0, AV.bool false, nI 0, AV.nils, AV.nils, AV.nils, AV.nils, AV.nils, nU 0, nU 0, nU 0, nU 0, nU 0, nU 0, nU 0, nU
  0], nI 291]] = [AV.tup [AV.agg [nI 0, AV.nils, nU 0, nU 0, nU 0, nU 0, nU 0, nU 0, nU 0, nU 0, nU 0, nU 0, nU 0, nU 0, nU 0, nU 0, nU 0, nU 0, nU 0, nU 0, AV.bool false, nI 0, AV.nils, AV.nils, AV.nils, AV.nils, AV.nils, nU 0, nU 0, nU 0, nU 0, nU 0, nU 0, nU 0, nU 0], nI y.e]] ∧ ABlk.mk x.own 1 (AC.ints IntKind.u8 x.bs) = ABlk.mk x.own 1 (AC.ints IntKind.u8 x.bs) ∧ True) False) False) False) False) (sp (decide (0 < y.length) && (decide (1 < y.length) && (decide (2 < y.length) && (decide (3 < y.length) && true))) && (decide (y.getD 0 0 = y.getD 0 0) && (decide (y.getD 1 0 = y.getD 1 0) && (decide (y.getD 2 0 = y.getD 2 0) && (decide (y.getD 3 0 = y.getD 3 0) && true))))) (sp (decide (4 ≤ y.length) && decide (y.length ≤ y.length) && true && true && ((y.length - 0).beq (y.length - 0) && true)) (sp (y.length.beq y.length && y.length.beq y.length && true) (sp (decide ((↑y.length : Int) < 4)
  == false) (sp (decide ((↑y.length : Int) < 4) == decide ((↑y.length : Int) < 4)) (sp (decide ((↑y.length : Int) = (↑y.length : Int))) (sp (y.length.beq y.length && y.length.beq y.length && true) (sp ((bif false then true else bif true then !(y.getD 0 0 == 109 && (y.getD 1 0 == 117 && (y.getD 2 0 == 109 && (y.getD 3 0 == 1 && true)))) else y.getD 0 0 == 109 && (y.getD 1 0 == 117 && (y.getD 2 0 == 109 && (y.getD 3 0 == 1 && true)))) == bif false then true else bif true then !(y.getD 0 0 == 109 && (y.getD 1 0 == 117 && (y.getD 2 0 == 109 && (y.getD 3 0 == 1 && true)))) else y.getD 0 0 == 109 && (y.getD 1 0 == 117 && (y.getD 2 0 == 109 && (y.getD 3 0 == 1 && true)))) (sp ((bif true then !(y.getD 0 0 == 109 && (y.getD 1 0 == 117 && (y.getD 2 0 == 109 && (y.getD 3 0 == 1 && true)))) else y.getD 0 0 == 109 && (y.getD 1 0 == 117 && (y.getD 2 0 == 109 && (y.getD 3 0 == 1 && true)))) == bif true
  then !(y.getD 0 0 == 109 && (y.getD 1 0 == 117 && (y.getD 2 0 == 109 && (y.getD 3 0 == 1 && true)))) else y.getD 0 0 == 109 && (y.getD 1 0 == 117 && (y.getD 2 0 == 109 && (y.getD 3 0 == 1 && true)))) (sp (decide (0 < y.length) && (decide (1 < y.length) && (decide (2 < y.length) && (decide (3 < y.length) && true))) && (decide (y.getD 0 0 = y.getD 0 0) && (decide (y.getD 1 0 = y.getD 1 0) && (decide (y.getD 2 0 = y.getD 2 0) && (decide (y.getD 3 0 = y.getD 3 0) && true))))) (sp (decide (4 ≤ y.length) && decide (y.length ≤ y.length) && true && true && ((y.length - 0).beq (y.length - 0) && true)) (sp (y.length.beq y.length && y.length.beq y.length && true) (sp (bif false then true else bif true then !(y.getD 0 0 == 109 && (y.getD 1 0 == 117 && (y.getD 2 0 == 109 && (y.getD 3 0 == 1 && true)))) else y.getD 0 0 == 109 && (y.getD 1 0 == 117 && (y.getD 2 0 == 109 && (y.getD 3 0 == 1 && true))))
  ((∃ (y : DecE), decP x.bs = DecR.ok y.d ∧ False) ∨ ∃ (y : DecE), decP x.bs = DecR.no y.e ∧ [AV.tup [AV.agg [nI 0, AV.nils, nU 0, nU 0, nU 0, nU 0, nU 0, nU 0, nU 0, nU 0, nU 0, nU 0, nU 0, nU 0, nU 0, nU 0, nU 0, nU 0, nU 0, nU 0, AV.bool false, nI 0, AV.nils, AV.nils, AV.nils, AV.nils, AV.nils, nU 0, nU 0, nU 0, nU 0, nU 0, nU 0, nU 0, nU 0], nI 291]] = [AV.tup [AV.agg [nI 0, AV.nils, nU 0, nU 0, nU 0, nU 0, nU 0, nU 0, nU 0, nU 0, nU 0, nU 0, nU 0, nU 0, nU 0, nU 0, nU 0, nU 0, nU 0, nU 0, AV.bool false, nI 0, AV.nils, AV.nils, AV.nils, AV.nils, AV.nils, nU 0, nU 0, nU 0, nU 0, nU 0, nU 0, nU 0, nU 0], nI y.e]] ∧ ABlk.mk x.own 1 (AC.ints IntKind.u8 x.bs) = ABlk.mk x.own 1 (AC.ints IntKind.u8 x.bs) ∧ True) (sp (decide (4 ≤ y.length) && decide (y.length ≤ y.length) && decide (y.length ≤ y.length) && true && true) ((4 ≤ y.length ∧ y.length ≤ 100000000000) ∧ [AV.ptr 5 0 0] = [AV.ptr 5 0 0]
  ∧ (some (ABlk.mk true [AV.sl 3 4 0 (y.length - 4) (y.length - 4) false].length (AC.cells [AV.sl 3 4 0 (y.length - 4) (y.length - 4) false])) = some (bC [AV.sl 3 4 0 (y.length - 4) (y.length - 4) false]) ∧ some (bW y) = some (bW y) ∧ True) ∧ (∀ (y_1 : DvE), savP y 4 = PR.ok y_1.d y_1.o ∧ y_1.o ≤ y.length → sp (decide ((↑(y.length - y_1.o) : Int) > 0)) ((∃ (y : DecE), decP x.bs = DecR.ok y.d ∧ False) ∨ ∃ (y : DecE), decP x.bs = DecR.no y.e ∧ [AV.tup [AV.agg [nI 0, AV.nils, nU 0, nU 0, nU 0, nU 0, nU 0, nU 0, nU 0, nU 0, nU 0, nU 0, nU 0, nU 0, nU 0, nU 0, nU 0, nU 0, nU 0, nU 0, AV.bool false, nI 0, AV.nils, AV.nils, AV.nils, AV.nils, AV.nils, nU 0, nU 0, nU 0, nU 0, nU 0, nU 0, nU 0, nU 0], nI 291]] = [AV.tup [AV.agg [nI 0, AV.nils, nU 0, nU 0, nU 0, nU 0, nU 0, nU 0, nU 0, nU 0, nU 0, nU 0, nU 0, nU 0, nU 0, nU 0, nU 0, nU 0, nU 0, nU 0, AV.bool false, nI 0, AV.nils, AV.nils, AV.nils,
  AV.nils, AV.nils, nU 0, nU 0, nU 0, nU 0, nU 0, nU 0, nU 0, nU 0], nI y.e]] ∧ ABlk.mk x.own 1 (AC.ints IntKind.u8 x.bs) = ABlk.mk x.own 1 (AC.ints IntKind.u8 x.bs) ∧ True) (((y_1.d.mem.length ≤ 140737488351232 ∧ y_1.d.mem.length ≤ y_1.d.mem.length) ∧ (y_1.d.notes.length ≤ 5864062014634 ∧ y_1.d.notes.length ≤ y_1.d.notes.length) ∧ (y_1.d.out.length ≤ 140737488351232 ∧ y_1.d.out.length ≤ y_1.d.out.length) ∧ (y_1.d.disk.length ≤ 140737488351232 ∧ y_1.d.disk.length ≤ y_1.d.disk.length) ∧ (y_1.d.queue.length ≤ 140737488351232 ∧ y_1.d.queue.length ≤ y_1.d.queue.length) ∧ y_1.d.script.length ≤ 140737488351232 ∧ y_1.d.script.length ≤ y_1.d.script.length) ∧ [] ++ [AV.agg [nI y_1.d.fr, AV.msl 6 0 0 y_1.d.mem.length y_1.d.mem.length, nU y_1.d.s.r0, nU y_1.d.s.r1, nU y_1.d.s.r2, nU y_1.d.s.r3, nU y_1.d.s.r4, nU y_1.d.s.r5, nU y_1.d.s.r6, nU y_1.d.s.r7, nU y_1.d.s.pc, nU y_1.d.s.ps, nU y_1.d.s.c0, nU
  y_1.d.s.c1, nU y_1.d.s.c2, nU y_1.d.s.c3, nU y_1.d.s.c4, nU y_1.d.s.c5, nU y_1.d.s.c6, nU y_1.d.s.c7, AV.bool y_1.d.s.h, nI y_1.d.steps, AV.msl 7 0 0 y_1.d.notes.length y_1.d.notes.length, AV.msl 8 0 0 y_1.d.out.length y_1.d.out.length, AV.msl 9 0 0 y_1.d.disk.length y_1.d.disk.length, AV.msl 10 0 0 y_1.d.queue.length y_1.d.queue.length, AV.msl 11 0 0 y_1.d.script.length y_1.d.script.length, nU (y_1.d.bl.getD 0 0), nU (y_1.d.bl.getD 1 0), nU (y_1.d.bl.getD 2 0), nU (y_1.d.bl.getD 3 0), nU (y_1.d.bl.getD 4 0), nU (y_1.d.bl.getD 5 0), nU (y_1.d.bl.getD 6 0), nU (y_1.d.bl.getD 7 0)]] ++ [] = [AV.agg [nI y_1.d.fr, AV.msl 6 0 0 y_1.d.mem.length y_1.d.mem.length, nU y_1.d.s.r0, nU y_1.d.s.r1, nU y_1.d.s.r2, nU y_1.d.s.r3, nU y_1.d.s.r4, nU y_1.d.s.r5, nU y_1.d.s.r6, nU y_1.d.s.r7, nU y_1.d.s.pc, nU y_1.d.s.ps, nU y_1.d.s.c0, nU y_1.d.s.c1, nU y_1.d.s.c2, nU y_1.d.s.c3, nU y_1.d.s.c4, nU
  y_1.d.s.c5, nU y_1.d.s.c6, nU y_1.d.s.c7, AV.bool y_1.d.s.h, nI y_1.d.steps, AV.msl 7 0 0 y_1.d.notes.length y_1.d.notes.length, AV.msl 8 0 0 y_1.d.out.length y_1.d.out.length, AV.msl 9 0 0 y_1.d.disk.length y_1.d.disk.length, AV.msl 10 0 0 y_1.d.queue.length y_1.d.queue.length, AV.msl 11 0 0 y_1.d.script.length y_1.d.script.length, nU (y_1.d.bl.getD 0 0), nU (y_1.d.bl.getD 1 0), nU (y_1.d.bl.getD 2 0), nU (y_1.d.bl.getD 3 0), nU (y_1.d.bl.getD 4 0), nU (y_1.d.bl.getD 5 0), nU (y_1.d.bl.getD 6 0), nU (y_1.d.bl.getD 7 0)]] ∧ (some (bR y_1.d.mem) = some (bR y_1.d.mem) ∧ some (ABlk.mk false 4 (AC.recs y_1.d.notes.length fun (i : Nat) => [nI (y_1.d.notes.getD i instInhabitedN4.default).a, nI (y_1.d.notes.getD i instInhabitedN4.default).c, nU (y_1.d.notes.getD i instInhabitedN4.default).b, nU (y_1.d.notes.getD i instInhabitedN4.default).d])) = some (ABlk.mk false 4 (AC.recs y_1.d.notes.length
  fun (i : Nat) => [nI (y_1.d.notes.getD i instInhabitedN4.default).a, nI (y_1.d.notes.getD i instInhabitedN4.default).c, nU (y_1.d.notes.getD i instInhabitedN4.default).b, nU (y_1.d.notes.getD i instInhabitedN4.default).d])) ∧ some (bR y_1.d.out) = some (bR y_1.d.out) ∧ some (bR y_1.d.disk) = some (bR y_1.d.disk) ∧ some (bR y_1.d.queue) = some (bR y_1.d.queue) ∧ some (ABlk.mk false 3 (AC.recs y_1.d.script.length fun (i : Nat) => [nI (y_1.d.script.getD i instInhabitedE3.default).a, nI (y_1.d.script.getD i instInhabitedE3.default).k, nB (y_1.d.script.getD i instInhabitedE3.default).x])) = some (ABlk.mk false 3 (AC.recs y_1.d.script.length fun (i : Nat) => [nI (y_1.d.script.getD i instInhabitedE3.default).a, nI (y_1.d.script.getD i instInhabitedE3.default).k, nB (y_1.d.script.getD i instInhabitedE3.default).x])) ∧ True) ∧ (∀ (y : Unit), keepN (Sv.mk y_1.d.fr (Row.mk y_1.d.mem
  y_1.d.mem.length) (St.mk y_1.d.s.r0 y_1.d.s.r1 y_1.d.s.r2 y_1.d.s.r3 y_1.d.s.r4 y_1.d.s.r5 y_1.d.s.r6 y_1.d.s.r7 y_1.d.s.pc y_1.d.s.ps y_1.d.s.c0 y_1.d.s.c1 y_1.d.s.c2 y_1.d.s.c3 y_1.d.s.c4 y_1.d.s.c5 y_1.d.s.c6 y_1.d.s.c7 y_1.d.s.h) y_1.d.steps (NRow.mk y_1.d.notes.length y_1.d.notes.length (fun (i : Nat) => numAt ((fun (i : Nat) => [nI (y_1.d.notes.getD i instInhabitedN4.default).a, nI (y_1.d.notes.getD i instInhabitedN4.default).c, nU (y_1.d.notes.getD i instInhabitedN4.default).b, nU (y_1.d.notes.getD i instInhabitedN4.default).d]) i) 0) (fun (i : Nat) => numAt ((fun (i : Nat) => [nI (y_1.d.notes.getD i instInhabitedN4.default).a, nI (y_1.d.notes.getD i instInhabitedN4.default).c, nU (y_1.d.notes.getD i instInhabitedN4.default).b, nU (y_1.d.notes.getD i instInhabitedN4.default).d]) i) 1) (fun (i : Nat) => numAt ((fun (i : Nat) => [nI (y_1.d.notes.getD i instInhabitedN4.default).a, nI
  (y_1.d.notes.getD i instInhabitedN4.default).c, nU (y_1.d.notes.getD i instInhabitedN4.default).b, nU (y_1.d.notes.getD i instInhabitedN4.default).d]) i) 2) fun (i : Nat) => numAt ((fun (i : Nat) => [nI (y_1.d.notes.getD i instInhabitedN4.default).a, nI (y_1.d.notes.getD i instInhabitedN4.default).c, nU (y_1.d.notes.getD i instInhabitedN4.default).b, nU (y_1.d.notes.getD i instInhabitedN4.default).d]) i) 3) (Row.mk y_1.d.out y_1.d.out.length) (Row.mk y_1.d.disk y_1.d.disk.length) (Row.mk y_1.d.queue y_1.d.queue.length) (ERow.mk y_1.d.script.length y_1.d.script.length (fun (i : Nat) => numAt ((fun (i : Nat) => [nI (y_1.d.script.getD i instInhabitedE3.default).a, nI (y_1.d.script.getD i instInhabitedE3.default).k, nB (y_1.d.script.getD i instInhabitedE3.default).x]) i) 0) (fun (i : Nat) => numAt ((fun (i : Nat) => [nI (y_1.d.script.getD i instInhabitedE3.default).a, nI (y_1.d.script.getD i
  instInhabitedE3.default).k, nB (y_1.d.script.getD i instInhabitedE3.default).x]) i) 1) fun (i : Nat) => numAt ((fun (i : Nat) => [nI (y_1.d.script.getD i instInhabitedE3.default).a, nI (y_1.d.script.getD i instInhabitedE3.default).k, nB (y_1.d.script.getD i instInhabitedE3.default).x]) i) 2) (y_1.d.bl.getD 0 0) (y_1.d.bl.getD 1 0) (y_1.d.bl.getD 2 0) (y_1.d.bl.getD 3 0) (y_1.d.bl.getD 4 0) (y_1.d.bl.getD 5 0) (y_1.d.bl.getD 6 0) (y_1.d.bl.getD 7 0)) = 3 → (∃ (y : DecE), decP x.bs = DecR.ok y.d ∧ False) ∨ ∃ (y : DecE), decP x.bs = DecR.no y.e ∧ [AV.tup [AV.agg [nI 0, AV.nils, nU 0, nU 0, nU 0, nU 0, nU 0, nU 0, nU 0, nU 0, nU 0, nU 0, nU 0, nU 0, nU 0, nU 0, nU 0, nU 0, nU 0, nU 0, AV.bool false, nI 0, AV.nils, AV.nils, AV.nils, AV.nils, AV.nils, nU 0, nU 0, nU 0, nU 0, nU 0, nU 0, nU 0, nU 0], nI 3]] = [AV.tup [AV.agg [nI 0, AV.nils, nU 0, nU 0, nU 0, nU 0, nU 0, nU 0, nU 0, nU 0, nU 0,
  nU 0, nU 0, nU 0, nU 0, nU 0, nU 0, nU 0, nU 0, nU 0, AV.bool false, nI 0, AV.nils, AV.nils, AV.nils, AV.nils, AV.nils, nU 0, nU 0, nU 0, nU 0, nU 0, nU 0, nU 0, nU 0], nI y.e]] ∧ ABlk.mk x.own 1 (AC.ints IntKind.u8 x.bs) = ABlk.mk x.own 1 (AC.ints IntKind.u8 x.bs) ∧ True) ∧ (∀ (y : Unit), keepN (Sv.mk y_1.d.fr (Row.mk y_1.d.mem y_1.d.mem.length) (St.mk y_1.d.s.r0 y_1.d.s.r1 y_1.d.s.r2 y_1.d.s.r3 y_1.d.s.r4 y_1.d.s.r5 y_1.d.s.r6 y_1.d.s.r7 y_1.d.s.pc y_1.d.s.ps y_1.d.s.c0 y_1.d.s.c1 y_1.d.s.c2 y_1.d.s.c3 y_1.d.s.c4 y_1.d.s.c5 y_1.d.s.c6 y_1.d.s.c7 y_1.d.s.h) y_1.d.steps (NRow.mk y_1.d.notes.length y_1.d.notes.length (fun (i : Nat) => numAt ((fun (i : Nat) => [nI (y_1.d.notes.getD i instInhabitedN4.default).a, nI (y_1.d.notes.getD i instInhabitedN4.default).c, nU (y_1.d.notes.getD i instInhabitedN4.default).b, nU (y_1.d.notes.getD i instInhabitedN4.default).d]) i) 0) (fun (i : Nat) =>
  numAt ((fun (i : Nat) => [nI (y_1.d.notes.getD i instInhabitedN4.default).a, nI (y_1.d.notes.getD i instInhabitedN4.default).c, nU (y_1.d.notes.getD i instInhabitedN4.default).b, nU (y_1.d.notes.getD i instInhabitedN4.default).d]) i) 1) (fun (i : Nat) => numAt ((fun (i : Nat) => [nI (y_1.d.notes.getD i instInhabitedN4.default).a, nI (y_1.d.notes.getD i instInhabitedN4.default).c, nU (y_1.d.notes.getD i instInhabitedN4.default).b, nU (y_1.d.notes.getD i instInhabitedN4.default).d]) i) 2) fun (i : Nat) => numAt ((fun (i : Nat) => [nI (y_1.d.notes.getD i instInhabitedN4.default).a, nI (y_1.d.notes.getD i instInhabitedN4.default).c, nU (y_1.d.notes.getD i instInhabitedN4.default).b, nU (y_1.d.notes.getD i instInhabitedN4.default).d]) i) 3) (Row.mk y_1.d.out y_1.d.out.length) (Row.mk y_1.d.disk y_1.d.disk.length) (Row.mk y_1.d.queue y_1.d.queue.length) (ERow.mk y_1.d.script.length
  y_1.d.script.length (fun (i : Nat) => numAt ((fun (i : Nat) => [nI (y_1.d.script.getD i instInhabitedE3.default).a, nI (y_1.d.script.getD i instInhabitedE3.default).k, nB (y_1.d.script.getD i instInhabitedE3.default).x]) i) 0) (fun (i : Nat) => numAt ((fun (i : Nat) => [nI (y_1.d.script.getD i instInhabitedE3.default).a, nI (y_1.d.script.getD i instInhabitedE3.default).k, nB (y_1.d.script.getD i instInhabitedE3.default).x]) i) 1) fun (i : Nat) => numAt ((fun (i : Nat) => [nI (y_1.d.script.getD i instInhabitedE3.default).a, nI (y_1.d.script.getD i instInhabitedE3.default).k, nB (y_1.d.script.getD i instInhabitedE3.default).x]) i) 2) (y_1.d.bl.getD 0 0) (y_1.d.bl.getD 1 0) (y_1.d.bl.getD 2 0) (y_1.d.bl.getD 3 0) (y_1.d.bl.getD 4 0) (y_1.d.bl.getD 5 0) (y_1.d.bl.getD 6 0) (y_1.d.bl.getD 7 0)) = 2 → (∃ (y : DecE), decP x.bs = DecR.ok y.d ∧ False) ∨ ∃ (y : DecE), decP x.bs = DecR.no y.e ∧
  [AV.tup [AV.agg [nI 0, AV.nils, nU 0, nU 0, nU 0, nU 0, nU 0, nU 0, nU 0, nU 0, nU 0, nU 0, nU 0, nU 0, nU 0, nU 0, nU 0, nU 0, nU 0, nU 0, AV.bool false, nI 0, AV.nils, AV.nils, AV.nils, AV.nils, AV.nils, nU 0, nU 0, nU 0, nU 0, nU 0, nU 0, nU 0, nU 0], nI 2]] = [AV.tup [AV.agg [nI 0, AV.nils, nU 0, nU 0, nU 0, nU 0, nU 0, nU 0, nU 0, nU 0, nU 0, nU 0, nU 0, nU 0, nU 0, nU 0, nU 0, nU 0, nU 0, nU 0, AV.bool false, nI 0, AV.nils, AV.nils, AV.nils, AV.nils, AV.nils, nU 0, nU 0, nU 0, nU 0, nU 0, nU 0, nU 0, nU 0], nI y.e]] ∧ ABlk.mk x.own 1 (AC.ints IntKind.u8 x.bs) = ABlk.mk x.own 1 (AC.ints IntKind.u8 x.bs) ∧ True) ∧ (∀ (y : Unit), keepN (Sv.mk y_1.d.fr (Row.mk y_1.d.mem y_1.d.mem.length) (St.mk y_1.d.s.r0 y_1.d.s.r1 y_1.d.s.r2 y_1.d.s.r3 y_1.d.s.r4 y_1.d.s.r5 y_1.d.s.r6 y_1.d.s.r7 y_1.d.s.pc y_1.d.s.ps y_1.d.s.c0 y_1.d.s.c1 y_1.d.s.c2 y_1.d.s.c3 y_1.d.s.c4 y_1.d.s.c5 y_1.d.s.c6
  y_1.d.s.c7 y_1.d.s.h) y_1.d.steps (NRow.mk y_1.d.notes.length y_1.d.notes.length (fun (i : Nat) => numAt ((fun (i : Nat) => [nI (y_1.d.notes.getD i instInhabitedN4.default).a, nI (y_1.d.notes.getD i instInhabitedN4.default).c, nU (y_1.d.notes.getD i instInhabitedN4.default).b, nU (y_1.d.notes.getD i instInhabitedN4.default).d]) i) 0) (fun (i : Nat) => numAt ((fun (i : Nat) => [nI (y_1.d.notes.getD i instInhabitedN4.default).a, nI (y_1.d.notes.getD i instInhabitedN4.default).c, nU (y_1.d.notes.getD i instInhabitedN4.default).b, nU (y_1.d.notes.getD i instInhabitedN4.default).d]) i) 1) (fun (i : Nat) => numAt ((fun (i : Nat) => [nI (y_1.d.notes.getD i instInhabitedN4.default).a, nI (y_1.d.notes.getD i instInhabitedN4.default).c, nU (y_1.d.notes.getD i instInhabitedN4.default).b, nU (y_1.d.notes.getD i instInhabitedN4.default).d]) i) 2) fun (i : Nat) => numAt ((fun (i : Nat) => [nI
  (y_1.d.notes.getD i instInhabitedN4.default).a, nI (y_1.d.notes.getD i instInhabitedN4.default).c, nU (y_1.d.notes.getD i instInhabitedN4.default).b, nU (y_1.d.notes.getD i instInhabitedN4.default).d]) i) 3) (Row.mk y_1.d.out y_1.d.out.length) (Row.mk y_1.d.disk y_1.d.disk.length) (Row.mk y_1.d.queue y_1.d.queue.length) (ERow.mk y_1.d.script.length y_1.d.script.length (fun (i : Nat) => numAt ((fun (i : Nat) => [nI (y_1.d.script.getD i instInhabitedE3.default).a, nI (y_1.d.script.getD i instInhabitedE3.default).k, nB (y_1.d.script.getD i instInhabitedE3.default).x]) i) 0) (fun (i : Nat) => numAt ((fun (i : Nat) => [nI (y_1.d.script.getD i instInhabitedE3.default).a, nI (y_1.d.script.getD i instInhabitedE3.default).k, nB (y_1.d.script.getD i instInhabitedE3.default).x]) i) 1) fun (i : Nat) => numAt ((fun (i : Nat) => [nI (y_1.d.script.getD i instInhabitedE3.default).a, nI (y_1.d.script.getD
  i instInhabitedE3.default).k, nB (y_1.d.script.getD i instInhabitedE3.default).x]) i) 2) (y_1.d.bl.getD 0 0) (y_1.d.bl.getD 1 0) (y_1.d.bl.getD 2 0) (y_1.d.bl.getD 3 0) (y_1.d.bl.getD 4 0) (y_1.d.bl.getD 5 0) (y_1.d.bl.getD 6 0) (y_1.d.bl.getD 7 0)) = 0 → (∃ (y : DecE), decP x.bs = DecR.ok y.d ∧ [AV.tup [AV.agg [nI y_1.d.fr, AV.msl 6 0 0 y_1.d.mem.length y_1.d.mem.length, nU y_1.d.s.r0, nU y_1.d.s.r1, nU y_1.d.s.r2, nU y_1.d.s.r3, nU y_1.d.s.r4, nU y_1.d.s.r5, nU y_1.d.s.r6, nU y_1.d.s.r7, nU y_1.d.s.pc, nU y_1.d.s.ps, nU y_1.d.s.c0, nU y_1.d.s.c1, nU y_1.d.s.c2, nU y_1.d.s.c3, nU y_1.d.s.c4, nU y_1.d.s.c5, nU y_1.d.s.c6, nU y_1.d.s.c7, AV.bool y_1.d.s.h, nI y_1.d.steps, AV.msl 7 0 0 y_1.d.notes.length y_1.d.notes.length, AV.msl 8 0 0 y_1.d.out.length y_1.d.out.length, AV.msl 9 0 0 y_1.d.disk.length y_1.d.disk.length, AV.msl 10 0 0 y_1.d.queue.length y_1.d.queue.length, AV.msl 11 0 0
  y_1.d.script.length y_1.d.script.length, nU (y_1.d.bl.getD 0 0), nU (y_1.d.bl.getD 1 0), nU (y_1.d.bl.getD 2 0), nU (y_1.d.bl.getD 3 0), nU (y_1.d.bl.getD 4 0), nU (y_1.d.bl.getD 5 0), nU (y_1.d.bl.getD 6 0), nU (y_1.d.bl.getD 7 0)], nI 0]] = [AV.tup [AV.agg [nI y.d.fr, AV.msl 6 0 0 y.d.mem.length y.d.mem.length, nU y.d.s.r0, nU y.d.s.r1, nU y.d.s.r2, nU y.d.s.r3, nU y.d.s.r4, nU y.d.s.r5, nU y.d.s.r6, nU y.d.s.r7, nU y.d.s.pc, nU y.d.s.ps, nU y.d.s.c0, nU y.d.s.c1, nU y.d.s.c2, nU y.d.s.c3, nU y.d.s.c4, nU y.d.s.c5, nU y.d.s.c6, nU y.d.s.c7, AV.bool y.d.s.h, nI y.d.steps, AV.msl 7 0 0 y.d.notes.length y.d.notes.length, AV.msl 8 0 0 y.d.out.length y.d.out.length, AV.msl 9 0 0 y.d.disk.length y.d.disk.length, AV.msl 10 0 0 y.d.queue.length y.d.queue.length, AV.msl 11 0 0 y.d.script.length y.d.script.length, nU (y.d.bl.getD 0 0), nU (y.d.bl.getD 1 0), nU (y.d.bl.getD 2 0), nU (y.d.bl.getD 3
  0), nU (y.d.bl.getD 4 0), nU (y.d.bl.getD 5 0), nU (y.d.bl.getD 6 0), nU (y.d.bl.getD 7 0)], nI 0]] ∧ ABlk.mk x.own 1 (AC.ints IntKind.u8 x.bs) = ABlk.mk x.own 1 (AC.ints IntKind.u8 x.bs) ∧ bR y_1.d.mem = bR y.d.mem ∧ (false = false ∧ 4 = 4 ∧ y_1.d.notes.length = y.d.notes.length ∧ ∀ (i : Nat), i < y_1.d.notes.length → [nI (y_1.d.notes.getD i instInhabitedN4.default).a, nI (y_1.d.notes.getD i instInhabitedN4.default).c, nU (y_1.d.notes.getD i instInhabitedN4.default).b, nU (y_1.d.notes.getD i instInhabitedN4.default).d] = [nI (y.d.notes.getD i instInhabitedN4.default).a, nI (y.d.notes.getD i instInhabitedN4.default).c, nU (y.d.notes.getD i instInhabitedN4.default).b, nU (y.d.notes.getD i instInhabitedN4.default).d]) ∧ bR y_1.d.out = bR y.d.out ∧ bR y_1.d.disk = bR y.d.disk ∧ bR y_1.d.queue = bR y.d.queue ∧ (false = false ∧ 3 = 3 ∧ y_1.d.script.length = y.d.script.length ∧ ∀ (i : Nat), i <
  y_1.d.script.length → [nI (y_1.d.script.getD i instInhabitedE3.default).a, nI (y_1.d.script.getD i instInhabitedE3.default).k, nB (y_1.d.script.getD i instInhabitedE3.default).x] = [nI (y.d.script.getD i instInhabitedE3.default).a, nI (y.d.script.getD i instInhabitedE3.default).k, nB (y.d.script.getD i instInhabitedE3.default).x]) ∧ True) ∨ ∃ (y : DecE), decP x.bs = DecR.no y.e ∧ [AV.tup [AV.agg [nI y_1.d.fr, AV.msl 6 0 0 y_1.d.mem.length y_1.d.mem.length, nU y_1.d.s.r0, nU y_1.d.s.r1, nU y_1.d.s.r2, nU y_1.d.s.r3, nU y_1.d.s.r4, nU y_1.d.s.r5, nU y_1.d.s.r6, nU y_1.d.s.r7, nU y_1.d.s.pc, nU y_1.d.s.ps, nU y_1.d.s.c0, nU y_1.d.s.c1, nU y_1.d.s.c2, nU y_1.d.s.c3, nU y_1.d.s.c4, nU y_1.d.s.c5, nU y_1.d.s.c6, nU y_1.d.s.c7, AV.bool y_1.d.s.h, nI y_1.d.steps, AV.msl 7 0 0 y_1.d.notes.length y_1.d.notes.length, AV.msl 8 0 0 y_1.d.out.length y_1.d.out.length, AV.msl 9 0 0 y_1.d.disk.length
  y_1.d.disk.length, AV.msl 10 0 0 y_1.d.queue.length y_1.d.queue.length, AV.msl 11 0 0 y_1.d.script.length y_1.d.script.length, nU (y_1.d.bl.getD 0 0), nU (y_1.d.bl.getD 1 0), nU (y_1.d.bl.getD 2 0), nU (y_1.d.bl.getD 3 0), nU (y_1.d.bl.getD 4 0), nU (y_1.d.bl.getD 5 0), nU (y_1.d.bl.getD 6 0), nU (y_1.d.bl.getD 7 0)], nI 0]] = [AV.tup [AV.agg [nI 0, AV.nils, nU 0, nU 0, nU 0, nU 0, nU 0, nU 0, nU 0, nU 0, nU 0, nU 0, nU 0, nU 0, nU 0, nU 0, nU 0, nU 0, nU 0, nU 0, AV.bool false, nI 0, AV.nils, AV.nils, AV.nils, AV.nils, AV.nils, nU 0, nU 0, nU 0, nU 0, nU 0, nU 0, nU 0, nU 0], nI y.e]] ∧ ABlk.mk x.own 1 (AC.ints IntKind.u8 x.bs) = ABlk.mk x.own 1 (AC.ints IntKind.u8 x.bs) ∧ True) ∧ True)) ∧ (∀ (y_1 : DvE), savP y 4 = PR.no y_1.e → sp (decide (y_1.e = y_1.e)) (sp (decide (y_1.e = y_1.e)) (sp (decide (y_1.e = y_1.e)) ((∃ (y : DecE), decP x.bs = DecR.ok y.d ∧ False) ∨ ∃ (y : DecE), decP x.bs
  = DecR.no y.e ∧ [AV.tup [AV.agg [nI 0, AV.nils, nU 0, nU 0, nU 0, nU 0, nU 0, nU 0, nU 0, nU 0, nU 0, nU 0, nU 0, nU 0, nU 0, nU 0, nU 0, nU 0, nU 0, nU 0, AV.bool false, nI 0, AV.nils, AV.nils, AV.nils, AV.nils, AV.nils, nU 0, nU 0, nU 0, nU 0, nU 0, nU 0, nU 0, nU 0], nI y_1.e]] = [AV.tup [AV.agg [nI 0, AV.nils, nU 0, nU 0, nU 0, nU 0, nU 0, nU 0, nU 0, nU 0, nU 0, nU 0, nU 0, nU 0, nU 0, nU 0, nU 0, nU 0, nU 0, nU 0, AV.bool false, nI 0, AV.nils, AV.nils, AV.nils, AV.nils, AV.nils, nU 0, nU 0, nU 0, nU 0, nU 0, nU 0, nU 0, nU 0], nI y.e]] ∧ ABlk.mk x.own 1 (AC.ints IntKind.u8 x.bs) = ABlk.mk x.own 1 (AC.ints IntKind.u8 x.bs) ∧ True) False) False) False) ∧ True) False)) False) False) False) False) False) False) False) False) False) False) False) False)) ∧ (∀ (y : List Int), openN x.bs = OpenR.no 290 → (∃ (y : DecE), decP x.bs = DecR.ok y.d ∧ False) ∨ ∃ (y : DecE), decP x.bs = DecR.no
  y.e ∧ [AV.tup [AV.agg [nI 0, AV.nils, nU 0, nU 0, nU 0, nU 0, nU 0, nU 0, nU 0, nU 0, nU 0, nU 0, nU 0, nU 0, nU 0, nU 0, nU 0, nU 0, nU 0, nU 0, AV.bool false, nI 0, AV.nils, AV.nils, AV.nils, AV.nils, AV.nils, nU 0, nU 0, nU 0, nU 0, nU 0, nU 0, nU 0, nU 0], nI 290]] = [AV.tup [AV.agg [nI 0, AV.nils, nU 0, nU 0, nU 0, nU 0, nU 0, nU 0, nU 0, nU 0, nU 0, nU 0, nU 0, nU 0, nU 0, nU 0, nU 0, nU 0, nU 0, nU 0, AV.bool false, nI 0, AV.nils, AV.nils, AV.nils, AV.nils, AV.nils, nU 0, nU 0, nU 0, nU 0, nU 0, nU 0, nU 0, nU 0], nI y.e]] ∧ ABlk.mk x.own 1 (AC.ints IntKind.u8 x.bs) = ABlk.mk x.own 1 (AC.ints IntKind.u8 x.bs) ∧ True) ∧ (∀ (y : List Int), openN x.bs = OpenR.no 292 → (∃ (y : DecE), decP x.bs = DecR.ok y.d ∧ False) ∨ ∃ (y : DecE), decP x.bs = DecR.no y.e ∧ [AV.tup [AV.agg [nI 0, AV.nils, nU 0, nU 0, nU 0, nU 0, nU 0, nU 0, nU 0, nU 0, nU 0, nU 0, nU 0, nU 0, nU 0, nU 0, nU 0, nU 0, nU
  0, nU 0, AV.bool false, nI 0, AV.nils, AV.nils, AV.nils, AV.nils, AV.nils, nU 0, nU 0, nU 0, nU 0, nU 0, nU 0, nU 0, nU 0], nI 292]] = [AV.tup [AV.agg [nI 0, AV.nils, nU 0, nU 0, nU 0, nU 0, nU 0, nU 0, nU 0, nU 0, nU 0, nU 0, nU 0, nU 0, nU 0, nU 0, nU 0, nU 0, nU 0, nU 0, AV.bool false, nI 0, AV.nils, AV.nils, AV.nils, AV.nils, AV.nils, nU 0, nU 0, nU 0, nU 0, nU 0, nU 0, nU 0, nU 0], nI y.e]] ∧ ABlk.mk x.own 1 (AC.ints IntKind.u8 x.bs) = ABlk.mk x.own 1 (AC.ints IntKind.u8 x.bs) ∧ True) ∧ True
theorem dec_c_e (x : OpenX) : some (dec_c_V x) = (decC.condD sp Go.Proofs.Try.prog (drP sp Go.Proofs.Try.prog) noLoops (vF sp Go.Proofs.Try.prog (drP sp Go.Proofs.Try.prog) noLoops (orK (openC.orc sp) (orK (rdSavedC.orc sp) (keepC.orc sp))) 40 3) (vRD sp Go.Proofs.Try.prog noBaseK (drP sp Go.Proofs.Try.prog noBaseK) noLoops 40) 2 60 x) := by kernel_rfl
set_option maxRecDepth 100000 in
set_option maxHeartbeats 8000000 in
theorem decC_ok : decC.OK Go.Proofs.Try.prog := by
  refine Con.byD hmix (noLoops_ok _) (vF_ok (fun c hc => drP_ok hmix c hc) (noLoops_ok _) (orK_ok (Con.orc_ok openC_ok) (orK_ok (Con.orc_ok rdSaved_ok) (Con.orc_ok keepC_ok))) 40 3) (vRD_ok (noBaseK_ok _) (drP_ok hmix _ (noBaseK_ok _)) (noLoops_ok _) 40) dec_c_V dec_c_e (fun x hx => ?_)
  obtain ⟨h1, h2⟩ := hx
  unfold dec_c_V
  refine ⟨⟨by omega, h2⟩, rfl, ⟨rfl, trivial⟩, (fun y hy => ?_), (fun y hy => .inr ⟨⟨Dv0, 290⟩, by unfold decP; rw [hy], rfl, rfl, trivial⟩), (fun y hy => .inr ⟨⟨Dv0, 292⟩, by unfold decP; rw [hy], rfl, rfl, trivial⟩), trivial⟩
  have hy : openN x.bs = .ok y := hy
  have hD : decP x.bs = decIn y := by unfold decP; rw [hy]
  have hly : y.length ≤ x.bs.length := by
    unfold openN at hy
    split at hy
    · cases hy
    · split at hy
      · cases hy
      · cases hy; simp
  refine spI (fun hl => ?_) (fun hl => ?_)
  · refine spT (by rw [hl]; rfl) (spT (beq_self_eq_true _) (spT (decide_eq_true rfl) (spT (by simp) ?_)))
    have hl : y.length < 4 := by have := of_decide_eq_true hl; omega
    exact .inr ⟨⟨Dv0, 291⟩, by rw [hD]; unfold decIn; rw [if_pos hl], rfl, rfl, trivial⟩
  · have hl4 : ¬ y.length < 4 := by have := of_decide_eq_false hl; omega
    have c1 : (decide (0 < y.length) && (decide (1 < y.length) && (decide (2 < y.length) && (decide (3 < y.length) && true))) && (decide (y.getD 0 0 = y.getD 0 0) && (decide (y.getD 1 0 = y.getD 1 0) && (decide (y.getD 2 0 = y.getD 2 0) && (decide (y.getD 3 0 = y.getD 3 0) && true))))) = true := by
      rw [decide_eq_true (show 0 < y.length by omega), decide_eq_true (show 1 < y.length by omega), decide_eq_true (show 2 < y.length by omega), decide_eq_true (show 3 < y.length by omega)]
      simp
    have c2 : (decide (4 ≤ y.length) && decide (y.length ≤ y.length) && true && true && ((y.length - 0).beq (y.length - 0) && true)) = true := by
      rw [decide_eq_true (show 4 ≤ y.length by omega)]
      simp
    have c3 : (y.length.beq y.length && y.length.beq y.length && true) = true := by simp
    refine spT c1 (spT c2 (spT c3 (spT (by rw [hl]; rfl) (spT (beq_self_eq_true _) (spT (decide_eq_true rfl) (spT c3 (spT (beq_self_eq_true _) (spT (beq_self_eq_true _) (spT c1 (spT c2 (spT c3 ?_)))))))))))
    refine spI (fun hm => ?_) (fun hm => ?_)
    · have hm : (!magicB y) = true := hm
      have hm : magicB y = false := by simpa using hm
      exact .inr ⟨⟨Dv0, 291⟩, by rw [hD]; unfold decIn; rw [if_neg hl4, if_pos hm], rfl, rfl, trivial⟩
    · have hm : (!magicB y) = false := hm
      have hm : ¬ magicB y = false := by simpa using hm
      have hI : decP x.bs = decGo y.length (savP y 4) := by
        rw [hD]; unfold decIn; rw [if_neg hl4, if_neg hm]
      refine spT (by rw [decide_eq_true (show 4 ≤ y.length by omega)]; simp) ⟨⟨by omega, by omega⟩, rfl, ⟨rfl, rfl, trivial⟩, (fun y1 hy1 => ?_), (fun y1 hy1 => ?_), trivial⟩
      · obtain ⟨g1, g2⟩ := hy1
        have g1 : savP y 4 = .ok y1.d y1.o := g1
        rw [g1] at hI
        simp only [decGo] at hI
        refine spI (fun h => ?_) (fun h => ?_)
        · have h : y1.o < y.length := by have := of_decide_eq_true h; omega
          rw [if_pos h] at hI
          exact .inr ⟨⟨Dv0, 291⟩, hI, rfl, rfl, trivial⟩
        · have h : ¬ y1.o < y.length := by have := of_decide_eq_false h; omega
          rw [if_neg h] at hI
          refine ⟨(savP_fine g1 (by omega)).1, rfl, ⟨rfl, rfl, rfl, rfl, rfl, rfl, trivial⟩, (fun _ h3 => ?_), (fun _ h2 => ?_), (fun _ h0 => ?_), trivial⟩
          · have h3 : keepN y1.d.sv = 3 := h3
            exact .inr ⟨⟨Dv0, 3⟩, by rw [hI, h3]; rfl, rfl, rfl, trivial⟩
          · have h2 : keepN y1.d.sv = 2 := h2
            exact .inr ⟨⟨Dv0, 2⟩, by rw [hI, h2]; rfl, rfl, rfl, trivial⟩
          · have h0 : keepN y1.d.sv = 0 := h0
            rw [if_pos h0] at hI
            exact .inl ⟨⟨y1.d, 0⟩, hI, rfl, rfl, rfl, ⟨rfl, rfl, rfl, fun _ _ => rfl⟩, rfl, rfl, rfl, ⟨rfl, rfl, rfl, fun _ _ => rfl⟩, trivial⟩
      · have g1 : savP y 4 = .no y1.e := hy1
        rw [g1] at hI
        exact spT (decide_eq_true rfl) (spT (decide_eq_true rfl) (spT (decide_eq_true rfl) (.inr ⟨⟨Dv0, y1.e⟩, hI, rfl, rfl, trivial⟩)))
end Go.Proofs.Ytmbcpmbpkdeioaa.W
/- Numbers written and read again: plain law. No condition. -/
namespace Go.Proofs.Ytmbcpmbpkdeioaa.W
open Go Go.RowKit Go.Eng
set_option linter.unusedVariables false
set_option linter.unusedSimpArgs false
theorem or128 {m : Int} (h0 : 0 ≤ m) (h1 : m < 256) : bits .or .u8 m 128 = m % 128 + 128 := by
  obtain ⟨a, rfl⟩ := Int.eq_ofNat_of_zero_le h0
  have ha : a < 256 := by omega
  rw [show (128 : Int) = ((128 : Nat) : Int) from rfl, (bits_nat .u8 8 (by decide) wraps_u8 a 128 ha (by decide)).2]
  have key : ∀ m : Fin 256, m.val ||| 128 = m.val % 128 + 128 := by decide +kernel
  have := key ⟨a, ha⟩
  simp only [] at this
  rw [this]
  omega
theorem and127 {x : Int} (h0 : 0 ≤ x) (h1 : x < 256) : bits .and .u8 x 127 = x % 128 := bits_mask .u8 8 (by decide) wraps_u8 7 (by decide) x h0 h1
theorem wraps_u64 (n : Int) (h₀ : 0 ≤ n) (h₁ : n < 2 ^ 64) : IntKind.u64.wrap n = n := by rw [IntKind.wrap_u64]; omega
theorem bits_or_comm (k : IntKind) (a b : Int) : bits .or k a b = bits .or k b a := by
  simp only [bits]
  rw [BitVec.or_comm]
theorem pow7 (k : Nat) : (2 : Int) ^ (7 * k) = 128 ^ k := by
  rw [Int.pow_mul]; rfl
theorem accN_eq {k : Nat} {acc x : Int} (hk : k ≤ 9) (h0 : 0 ≤ acc) (h1 : acc < 128 ^ k) (hx0 : 0 ≤ x) (hx1 : x < 256) (ht : x % 128 * 128 ^ k < 18446744073709551616) : accN k acc x = acc + x % 128 * 128 ^ k := by
  unfold accN
  have hP : (0 : Int) < 128 ^ k := Int.pow_pos (by decide)
  have e1 : (IntKind.wrap .i64 (7 * (k : Int))).toNat = 7 * k := by rw [IntWalk.i64_in _ (by omega)]; omega
  rw [and127 hx0 hx1, e1, Nat.min_eq_left (by omega), pow7, wraps_u64 (x % 128) (by omega) (by omega)]
  have hm0 : 0 ≤ x % 128 * 128 ^ k := Int.mul_nonneg (by omega) (Int.le_of_lt hP)
  rw [wraps_u64 _ hm0 (by exact ht), bits_or_comm]
  have hlt : acc < 18446744073709551616 := by
    have : (128 : Int) ^ k ≤ 128 ^ 9 := by exact_mod_cast Nat.pow_le_pow_right (show 0 < 128 by decide) hk
    have e : (128 : Int) ^ 9 = 9223372036854775808 := by decide
    omega
  rw [bits_join .u64 64 (by decide) wraps_u64 (7 * k) (x % 128 * 128 ^ k) acc hm0 (by rw [pow7]; exact Int.mul_emod_left _ _) (by exact ht) h0 (by rw [pow7]; exact h1) (by exact hlt)]
  omega
theorem getG_put : ∀ (m : Nat) (n : Int) (k : Nat) (acc : Int) (rest : List Int), n.toNat ≤ m → 0 ≤ n → (0 < k → 0 < n) → k ≤ 9 → 0 ≤ acc → acc < 128 ^ k → n * 128 ^ k + acc < 18446744073709551616 → getG (putN n ++ rest) k acc = (acc + n * 128 ^ k, ((k + (putN n).length : Nat) : Int), 0) := by
  intro m
  induction m with
  | zero =>
    intro n k acc rest hm h0 hk hk9 ha ha1 ht
    obtain rfl : n = 0 := by omega
    obtain rfl : k = 0 := by omega
    have e : putN 0 = [0] := by unfold putN; rfl
    rw [e]
    simp only [List.singleton_append, getG]
    rw [accN_eq (by omega) ha ha1 (by omega) (by omega) (by simp)]
    simp
  | succ m ih =>
    intro n k acc rest hm h0 hk hk9 ha ha1 ht
    have hP : (0 : Int) < 128 ^ k := Int.pow_pos (by decide)
    unfold putN
    by_cases hs : n < 128
    · rw [if_pos hs]
      have hw : IntKind.wrap .u8 n = n := by rw [IntKind.wrap_u8]; omega
      have e1 : n % 128 = n := by omega
      simp only [hw, List.singleton_append, getG]
      rw [if_neg, if_neg (by omega), if_neg (by omega), accN_eq hk9 ha ha1 h0 (by omega) (by rw [e1]; omega), e1]
      · simp
      · rintro ⟨rfl, h⟩
        have e : (128 : Int) ^ 9 = 9223372036854775808 := by decide
        rw [e] at ht
        omega
    · rw [if_neg hs]
      have hk8 : k ≤ 8 := by
        rcases Nat.lt_or_ge 8 k with h | h
        · obtain rfl : k = 9 := by omega
          have e : (128 : Int) ^ 9 = 9223372036854775808 := by decide
          rw [e] at ht
          omega
        · exact h
      have hw : IntKind.wrap .u8 n = n % 256 := IntKind.wrap_u8 n
      have hd : n.fdiv 128 = n / 128 := Int.fdiv_eq_ediv_of_nonneg _ (by decide)
      rw [hw, hd, or128 (by omega) (by omega)]
      have e1 : n % 256 % 128 = n % 128 := by omega
      rw [e1]
      simp only [List.cons_append, getG]
      have e2 : (n % 128 + 128) % 128 = n % 128 := by omega
      have hPP : (128 : Int) ^ (k + 1) = 128 ^ k * 128 := Int.pow_succ _ _
      have hmul : n % 128 * 128 ^ k ≤ 127 * 128 ^ k := Int.mul_le_mul_of_nonneg_right (by omega) (Int.le_of_lt hP)
      have hmul0 : 0 ≤ n % 128 * 128 ^ k := Int.mul_nonneg (by omega) (Int.le_of_lt hP)
      have hdiv : n * 128 ^ k = n / 128 * (128 ^ k * 128) + n % 128 * 128 ^ k := by
        have : n = n / 128 * 128 + n % 128 := by omega
        conv => lhs; rw [this]
        rw [Int.add_mul, Int.mul_assoc, Int.mul_comm 128 (128 ^ k)]
      have hq : 0 ≤ n / 128 * (128 ^ k * 128) := Int.mul_nonneg (by omega) (by omega)
      rw [if_neg (by omega), if_pos (by omega), accN_eq hk9 ha ha1 (by omega) (by omega) (by rw [e2]; omega), e2]
      rw [ih (n / 128) (k + 1) (acc + n % 128 * 128 ^ k) rest (by omega) (by omega) (fun _ => by omega) (by omega) (by omega) (by rw [hPP]; omega) (by rw [hPP]; omega), hPP]
      refine Prod.ext ?_ (Prod.ext ?_ rfl)
      · show acc + n % 128 * 128 ^ k + n / 128 * (128 ^ k * 128) = acc + n * 128 ^ k
        omega
      · simp; omega
theorem getN_put {n : Int} (rest : List Int) (h0 : 0 ≤ n) (h1 : n < 18446744073709551616) : getN (putN n ++ rest) = (n, ((putN n).length : Int), 0) := by
  unfold getN
  rw [getG_put n.toNat n 0 0 rest (Nat.le_refl _) h0 (fun h => absurd h (by omega)) (by omega) (by omega) (by decide) (by simpa using h1)]
  simp
theorem upP_at {bs rest : List Int} {o : Nat} {most n : Int} (h : bs.drop o = putN n ++ rest) (h0 : 0 ≤ n) (h1 : n ≤ most) (h2 : n < 18446744073709551616) : upP bs most o = .ok n (o + (putN n).length) ∧ bs.drop (o + (putN n).length) = rest := by
  refine ⟨?_, ?_⟩
  · refine upP_ok ?_
    unfold upN
    rw [h, getN_put rest h0 h2]
    simp only [ne_eq, not_true_eq_false, if_false, Int.toNat_natCast]
    rw [if_neg (by omega)]
  · rw [← List.drop_drop, h]; simp
theorem enc1 {n : Int} (h0 : 0 ≤ n) (h1 : n < 18446744073709551616) (l : List Int) : encs (n :: l) = putN n ++ encs l := by
  simp only [encs]
  rw [wraps_u64 n h0 h1]
theorem numsP_at {bs : List Int} : ∀ (l : List Int) {rest : List Int} {o : Nat}, (∀ n ∈ l, 0 ≤ n ∧ n ≤ 4294967295) → bs.drop o = encs l ++ rest → numsP bs l.length o = .ok l (o + (encs l).length) ∧ bs.drop (o + (encs l).length) = rest
  | [], rest, o, _, h => by simpa [numsP, encs] using h
  | n :: l, rest, o, hl, h => by
    have hn := hl n (by simp)
    rw [enc1 hn.1 (by omega), List.append_assoc] at h
    obtain ⟨h1, h2⟩ := upP_at h hn.1 hn.2 (by omega)
    obtain ⟨h3, h4⟩ := numsP_at l (fun m hm => hl m (by simp [hm])) h2
    have e : (encs (n :: l)).length = (putN n).length + (encs l).length := by rw [enc1 hn.1 (by omega), List.length_append]
    simp only [List.length_cons, numsP, h1, PR.bind, h3]
    rw [e]
    exact ⟨by rw [Nat.add_assoc], by rw [← Nat.add_assoc]; exact h4⟩
theorem rowP_at {bs rest l : List Int} {o : Nat} {most : Int} (h : bs.drop o = rowB l ++ rest) (hl : (l.length : Int) ≤ most) (hm : most ≤ 1000000) (hb : bs.length ≤ 100000000000) : rowP bs most o = .ok l (o + (rowB l).length) ∧ bs.drop (o + (rowB l).length) = rest := by
  have hd : bs.drop o = putN (l.length : Int) ++ (l ++ rest) := by rw [h]; simp [rowB]
  have hlen : bs.length - o = (putN (l.length : Int)).length + (l.length + rest.length) := by
    have := congrArg List.length hd
    simpa using this
  have hw : IntKind.wrap .u64 (if (0 : Int) > most then 0 else most) = most := by rw [if_neg (by omega), IntKind.wrap_u64]; omega
  refine ⟨?_, ?_⟩
  · unfold rowP rowN
    rw [hd, getN_put _ (by omega) (by omega), ← hd]
    simp only [ne_eq, not_true_eq_false, if_false]
    rw [hw, if_neg (by omega)]
    have e1 : IntKind.wrap .i64 (((bs.drop o).length : Int) - ((putN (l.length : Int)).length : Int)) = ((l.length + rest.length : Nat) : Int) := by
      rw [List.length_drop, hlen, IntWalk.i64_in _ (by omega)]; omega
    rw [e1, wraps_u64 _ (by omega) (by omega), if_neg (by omega)]
    simp only [Int.toNat_natCast]
    have e2 : (bs.drop (o + (putN (l.length : Int)).length)).take l.length = l := by
      rw [← List.drop_drop, hd]; simp
    rw [e2]
    simp [rowB]
  · rw [← List.drop_drop, h]; simp
end Go.Proofs.Ytmbcpmbpkdeioaa.W
/- A guest written and read again: plain law. No condition. -/
namespace Go.Proofs.Ytmbcpmbpkdeioaa.W
open Go Go.RowKit Go.Eng
set_option linter.unusedVariables false
set_option linter.unusedSimpArgs false
def dvOf (x : Sv) : Dv where
  fr := x.fr
  mem := x.mem.bs
  s := x.s
  steps := x.steps
  notes := (List.range' 0 x.notes.n).map fun i => ⟨x.notes.at_ i, x.notes.cause i, x.notes.back i, x.notes.addr i⟩
  out := x.out.bs
  disk := x.disk.bs
  queue := x.queue.bs
  script := (List.range' 0 x.script.n).map fun i => ⟨x.script.at_ i, x.script.kind i, x.script.byte i⟩
  bl := [x.b1, x.b2, x.b3, x.b4, x.b5, x.b6, x.b7, x.b8]
/-- Each number is of its kind. -/
structure Sv.wf (x : Sv) : Prop where
  st : ∀ n ∈ x.s.nums, 0 ≤ n ∧ n ≤ 4294967295
  notes : ∀ i, i < x.notes.n → (0 ≤ x.notes.back i ∧ x.notes.back i ≤ 4294967295) ∧ 0 ≤ x.notes.addr i ∧ x.notes.addr i ≤ 4294967295
  script : ∀ i, i < x.script.n → 0 ≤ x.script.byte i ∧ x.script.byte i ≤ 255
  dev : ∀ n ∈ [x.b1, x.b2, x.b3, x.b4, x.b5, x.b6, x.b7, x.b8], 0 ≤ n ∧ n ≤ 4294967295
theorem manyP_at {α : Type} {p : Nat → PR α} {bs : List Int} {f : Nat → α} {enc : Nat → List Int} (hp : ∀ i o rest, bs.drop o = enc i ++ rest → p o = .ok (f i) (o + (enc i).length) ∧ bs.drop (o + (enc i).length) = rest) (all : Nat → Nat → List Int) (h0 : ∀ k, all k 0 = []) (h1 : ∀ k m, all k (m + 1) = enc k ++ all (k + 1) m) :
    ∀ (m k o : Nat) (rest : List Int), bs.drop o = all k m ++ rest → manyP p m o = .ok ((List.range' k m).map f) (o + (all k m).length) ∧ bs.drop (o + (all k m).length) = rest := by
  intro m
  induction m with
  | zero =>
    intro k o rest h
    rw [h0] at h ⊢
    simpa [manyP] using h
  | succ m ih =>
    intro k o rest h
    rw [h1, List.append_assoc] at h
    obtain ⟨g1, g2⟩ := hp k o _ h
    obtain ⟨g3, g4⟩ := ih (k + 1) _ _ g2
    simp only [manyP, g1, PR.bind, g3, List.range'_succ, List.map_cons]
    rw [h1, List.length_append]
    exact ⟨by rw [Nat.add_assoc], by rw [← Nat.add_assoc]; exact g4⟩
theorem manyP_atB {α : Type} {p : Nat → PR α} {bs : List Int} {f : Nat → α} {enc : Nat → List Int} {N : Nat} (hp : ∀ i o rest, i < N → bs.drop o = enc i ++ rest → p o = .ok (f i) (o + (enc i).length) ∧ bs.drop (o + (enc i).length) = rest) (all : Nat → Nat → List Int) (h0 : ∀ k, all k 0 = []) (h1 : ∀ k m, all k (m + 1) = enc k ++ all (k + 1) m) :
    ∀ (m k o : Nat) (rest : List Int), k + m ≤ N → bs.drop o = all k m ++ rest → manyP p m o = .ok ((List.range' k m).map f) (o + (all k m).length) ∧ bs.drop (o + (all k m).length) = rest := by
  intro m
  induction m with
  | zero =>
    intro k o rest _ h
    rw [h0] at h ⊢
    simpa [manyP] using h
  | succ m ih =>
    intro k o rest hN h
    rw [h1, List.append_assoc] at h
    obtain ⟨g1, g2⟩ := hp k o _ (by omega) h
    obtain ⟨g3, g4⟩ := ih (k + 1) _ _ (by omega) g2
    simp only [manyP, g1, PR.bind, g3, List.range'_succ, List.map_cons]
    rw [h1, List.length_append]
    exact ⟨by rw [Nat.add_assoc], by rw [← Nat.add_assoc]; exact g4⟩
theorem cntP_at {bs rest : List Int} {o : Nat} {most n : Int} (h : bs.drop o = putN n ++ rest) (h0 : 0 ≤ n) (h1 : n ≤ most) (h2 : n ≤ 1099511627776) : cntP bs most o = .ok n (o + (putN n).length) ∧ bs.drop (o + (putN n).length) = rest := by
  obtain ⟨g1, g2⟩ := upP_at (most := 1099511627776) h h0 h2 (by omega)
  refine ⟨?_, g2⟩
  have g : upN bs o 1099511627776 = .ok n (o + (putN n).length) := by
    unfold upP at g1
    cases hu : upN bs o 1099511627776 with
    | no e => rw [hu] at g1; cases g1
    | ok a b => rw [hu] at g1; cases g1; rfl
  unfold cntP cntN
  rw [g]
  simp only []
  rw [if_neg (by omega)]
theorem noteP_at {x : Sv} (hw : x.wf) (hk : Kept x) {bs : List Int} (i o : Nat) (rest : List Int) (hi : i < x.notes.n) (h : bs.drop o = noteB x.notes i ++ rest) : noteP bs o = .ok ⟨x.notes.at_ i, x.notes.cause i, x.notes.back i, x.notes.addr i⟩ (o + (noteB x.notes i).length) ∧ bs.drop (o + (noteB x.notes i).length) = rest := by
  obtain ⟨w1, w2⟩ := hw.notes i hi
  obtain ⟨k1, k2⟩ := hk.notes i hi
  have e : noteB x.notes i = putN (x.notes.at_ i) ++ (putN (x.notes.cause i) ++ (putN (x.notes.back i) ++ putN (x.notes.addr i))) := by
    unfold noteB
    rw [enc1 k1.1 (by omega), enc1 (by omega) (by omega), enc1 w1.1 (by omega), enc1 w2.1 (by omega)]
    simp [encs]
  rw [e] at h ⊢
  simp only [List.append_assoc] at h
  obtain ⟨a1, a2⟩ := upP_at (most := 1099511627776) h k1.1 k1.2 (by omega)
  obtain ⟨b1, b2⟩ := upP_at (most := 1099511627776) a2 (by omega) (by omega) (by omega)
  obtain ⟨c1, c2⟩ := upP_at (most := 4294967295) b2 w1.1 w1.2 (by omega)
  obtain ⟨d1, d2⟩ := upP_at (most := 4294967295) c2 w2.1 w2.2 (by omega)
  simp only [noteP, PR.bind, a1, b1, c1, d1, List.length_append]
  simp only [Nat.add_assoc] at d2 ⊢
  exact ⟨trivial, d2⟩
theorem evP_at {x : Sv} (hw : x.wf) (hk : Kept x) {bs : List Int} (i o : Nat) (rest : List Int) (hi : i < x.script.n) (h : bs.drop o = evB x.script i ++ rest) : evP bs o = .ok ⟨x.script.at_ i, x.script.kind i, x.script.byte i⟩ (o + (evB x.script i).length) ∧ bs.drop (o + (evB x.script i).length) = rest := by
  have w1 := hw.script i hi
  obtain ⟨k1, k2⟩ := hk.script i hi
  have e : evB x.script i = putN (x.script.at_ i) ++ (putN (x.script.kind i) ++ putN (x.script.byte i)) := by
    unfold evB
    rw [IntWalk.i64_in _ (by omega), enc1 k1.1 (by omega), enc1 (by omega) (by omega), enc1 w1.1 (by omega)]
    simp [encs]
  rw [e] at h ⊢
  simp only [List.append_assoc] at h
  obtain ⟨a1, a2⟩ := upP_at (most := 1099511627776) h k1.1 (by omega) (by omega)
  obtain ⟨b1, b2⟩ := upP_at (most := 1099511627776) a2 (by omega) (by omega) (by omega)
  obtain ⟨c1, c2⟩ := upP_at (most := 255) b2 w1.1 w1.2 (by omega)
  simp only [evP, PR.bind, a1, b1, c1, List.length_append]
  simp only [Nat.add_assoc] at c2 ⊢
  exact ⟨trivial, c2⟩
theorem stP_at {x : Sv} (hw : x.wf) {bs rest : List Int} {o : Nat} (h : bs.drop o = encs x.s.nums ++ rest) : stP bs o = .ok x.s (o + (encs x.s.nums).length) ∧ bs.drop (o + (encs x.s.nums).length) = rest := by
  have hw := hw.st
  generalize x.s = s at *
  obtain ⟨r0, r1, r2, r3, r4, r5, r6, r7, pc, ps, c0, c1, c2, c3, c4, c5, c6, c7, hh⟩ := s
  have e : St.nums ⟨r0, r1, r2, r3, r4, r5, r6, r7, pc, ps, c0, c1, c2, c3, c4, c5, c6, c7, hh⟩ = [r0, r1, r2, r3, r4, r5, r6, r7, pc, ps, c0, c1, c2, c3, c4, c5, c6, c7] ++ [if hh then 1 else 0] := rfl
  have hst : stL [r0, r1, r2, r3, r4, r5, r6, r7, pc, ps, c0, c1, c2, c3, c4, c5, c6, c7] (if hh then 1 else 0) = ⟨r0, r1, r2, r3, r4, r5, r6, r7, pc, ps, c0, c1, c2, c3, c4, c5, c6, c7, hh⟩ := by
    cases hh <;> rfl
  have hlen : [r0, r1, r2, r3, r4, r5, r6, r7, pc, ps, c0, c1, c2, c3, c4, c5, c6, c7].length = 18 := rfl
  rw [e] at h ⊢ hw
  generalize [r0, r1, r2, r3, r4, r5, r6, r7, pc, ps, c0, c1, c2, c3, c4, c5, c6, c7] = L at *
  have hb : (0 : Int) ≤ (if hh then 1 else 0) ∧ (if hh then 1 else 0 : Int) ≤ 1 := by cases hh <;> simp
  generalize (if hh then 1 else 0 : Int) = z at *
  have ez : encs (L ++ [z]) = encs L ++ putN z := by rw [encs_append, enc1 hb.1 (by omega)]; simp [encs]
  rw [ez] at h ⊢
  rw [List.append_assoc] at h
  rw [List.length_append]
  obtain ⟨a1, a2⟩ := numsP_at L (fun n hn => hw n (List.mem_append_left _ hn)) h
  obtain ⟨b1, b2⟩ := upP_at (most := 1) a2 hb.1 hb.2 (by omega)
  rw [hlen] at a1
  simp only [stP, a1, PR.bind, b1, hst]
  simp only [Nat.add_assoc] at b2 ⊢
  exact ⟨trivial, b2⟩
end Go.Proofs.Ytmbcpmbpkdeioaa.W
/- A guest's bytes are decoded as it was: plain law. No condition. -/
namespace Go.Proofs.Ytmbcpmbpkdeioaa.W
open Go Go.RowKit Go.Eng
set_option linter.unusedVariables false
set_option linter.unusedSimpArgs false
theorem savP_at {x : Sv} (hw : x.wf) (hk : Kept x) {bs rest : List Int} {o : Nat} (hb : bs.length ≤ 100000000000) (h : bs.drop o = encs [x.fr] ++ rowB x.mem.bs ++ encs x.s.nums ++ encs [x.steps, (x.notes.n : Int)] ++ notesB x.notes 0 x.notes.n ++ rowB x.out.bs ++ rowB x.disk.bs ++ rowB x.queue.bs ++ encs [(x.script.n : Int)] ++ evsB x.script 0 x.script.n ++
    encs [x.b1, x.b2, x.b3, x.b4, x.b5, x.b6, x.b7, x.b8] ++ rest) : ∃ o', savP bs o = .ok (dvOf x) o' ∧ bs.drop o' = rest := by
  have e1 : encs [x.fr] = putN x.fr := by rw [enc1 (by have := hk.fr; omega) (by have := hk.fr; omega)]; simp [encs]
  have e2 : encs [x.steps, (x.notes.n : Int)] = putN x.steps ++ putN (x.notes.n : Int) := by
    rw [enc1 (by have := hk.steps; omega) (by have := hk.steps; omega), enc1 (by omega) (by have := hk.nn; omega)]; simp [encs]
  have e3 : encs [(x.script.n : Int)] = putN (x.script.n : Int) := by rw [enc1 (by omega) (by have := hk.en; omega)]; simp [encs]
  rw [e1, e2, e3] at h
  simp only [List.append_assoc] at h
  obtain ⟨a1, a2⟩ := upP_at (most := 1099511627776) h (by have := hk.fr; omega) (by have := hk.fr; omega) (by have := hk.fr; omega)
  obtain ⟨b1, b2⟩ := rowP_at (most := 4096) a2 (by have := hk.mem; have := hk.fr; omega) (by omega) hb
  obtain ⟨c1, c2⟩ := stP_at hw b2
  obtain ⟨d1, d2⟩ := upP_at (most := 1099511627776) c2 hk.steps.1 hk.steps.2 (by have := hk.steps; omega)
  obtain ⟨f1, f2⟩ := cntP_at (most := 4096) d2 (by omega) (by have := hk.nn; omega) (by have := hk.nn; omega)
  obtain ⟨g1, g2⟩ := manyP_atB (f := fun i => (⟨x.notes.at_ i, x.notes.cause i, x.notes.back i, x.notes.addr i⟩ : N4)) (N := x.notes.n) (fun i o rest hi hd => noteP_at hw hk i o rest hi hd) (notesB x.notes) (fun _ => rfl) (fun _ _ => rfl) x.notes.n 0 _ _ (by omega) f2
  obtain ⟨i1, i2⟩ := rowP_at (most := 65536) g2 (by have := hk.out; omega) (by omega) hb
  obtain ⟨j1, j2⟩ := rowP_at (most := 2048) i2 (by have := hk.disk; omega) (by omega) hb
  obtain ⟨k1, k2⟩ := rowP_at (most := 32) j2 (by have := hk.queue; omega) (by omega) hb
  obtain ⟨l1, l2⟩ := cntP_at (most := 64) k2 (by omega) (by have := hk.en; omega) (by have := hk.en; omega)
  obtain ⟨m1, m2⟩ := manyP_atB (f := fun i => (⟨x.script.at_ i, x.script.kind i, x.script.byte i⟩ : E3)) (N := x.script.n) (fun i o rest hi hd => evP_at hw hk i o rest hi hd) (evsB x.script) (fun _ => rfl) (fun _ _ => rfl) x.script.n 0 _ _ (by omega) l2
  obtain ⟨n1, n2⟩ := numsP_at [x.b1, x.b2, x.b3, x.b4, x.b5, x.b6, x.b7, x.b8] hw.dev m2
  simp only [List.length_cons, List.length_nil, Nat.zero_add, Nat.reduceAdd] at n1
  refine ⟨_, ?_, n2⟩
  simp only [savP, a1, PR.bind, b1, c1, d1, ntP, f1, Int.toNat_natCast, g1, i1, j1, k1, esP, l1, m1, n1]
  rfl
/-! ### whether it may be kept -/
theorem all_congr {n : Nat} {p q : Nat → Bool} (h : ∀ i, i < n → p i = q i) : (List.range' 0 (n - 0)).all p = (List.range' 0 (n - 0)).all q := by
  rw [Bool.eq_iff_iff, List.all_eq_true, List.all_eq_true]
  constructor
  · intro g i hi
    have hi' : i < n := by simp [List.mem_range'] at hi; omega
    rw [← h i hi']; exact g i hi
  · intro g i hi
    have hi' : i < n := by simp [List.mem_range'] at hi; omega
    rw [h i hi']; exact g i hi
theorem getD_map_range {α : Type} [Inhabited α] (f : Nat → α) (n i : Nat) (h : i < n) : ((List.range' 0 n).map f).getD i default = f i := by
  rw [List.getD_eq_getElem?_getD, List.getElem?_map, List.getElem?_range' h]
  simp
theorem keepN_dv (x : Sv) : keepN (dvOf x).sv = keepN x := by
  have h1 : (dvOf x).sv.notes.n = x.notes.n := by simp [dvOf, Dv.sv]
  have h2 : (dvOf x).sv.script.n = x.script.n := by simp [dvOf, Dv.sv]
  have h3 : notesOk (dvOf x).sv.notes 0 = notesOk x.notes 0 := by
    unfold notesOk
    rw [h1]
    refine all_congr (fun i hi => ?_)
    have e := getD_map_range (fun i => (⟨x.notes.at_ i, x.notes.cause i, x.notes.back i, x.notes.addr i⟩ : N4)) x.notes.n i hi
    have ea : (dvOf x).sv.notes.at_ i = x.notes.at_ i := congrArg N4.a e
    have ec : (dvOf x).sv.notes.cause i = x.notes.cause i := congrArg N4.c e
    unfold noteOk
    rw [ea, ec]
  have h4 : evsOk (dvOf x).sv.script 0 = evsOk x.script 0 := by
    unfold evsOk
    rw [h2]
    refine all_congr (fun i hi => ?_)
    have e := getD_map_range (fun i => (⟨x.script.at_ i, x.script.kind i, x.script.byte i⟩ : E3)) x.script.n i hi
    have ea : (dvOf x).sv.script.at_ i = x.script.at_ i := congrArg E3.a e
    have ek : (dvOf x).sv.script.kind i = x.script.kind i := congrArg E3.k e
    have ex : (dvOf x).sv.script.byte i = x.script.byte i := congrArg E3.x e
    unfold mayN ERow.x
    rw [ea, ek, ex]
  have h5 : devN ⟨(dvOf x).sv.script, (dvOf x).sv.disk⟩ = devN ⟨x.script, x.disk⟩ := by
    unfold devN
    simp only []
    rw [h2, h4]
    rfl
  unfold keepN loadN devLN
  rw [h1, h3, h5]
  rfl
/-! ### the seal -/
theorem le32_bytes {s : Int} (h0 : 0 ≤ s) (h1 : s < 4294967296) : le32 (IntKind.wrap .u8 s) (IntKind.wrap .u8 (s.fdiv 256)) (IntKind.wrap .u8 (s.fdiv 65536)) (IntKind.wrap .u8 (s.fdiv 16777216)) = s := by
  have wu : ∀ n : Int, 0 ≤ n → n < 2 ^ 32 → IntKind.u32.wrap n = n := fun n a b => by rw [IntKind.wrap_u32]; omega
  have w : ∀ n : Int, 0 ≤ n → n < 4294967296 → IntKind.u32.wrap n = n := fun n a b => wu n a (by omega)
  rw [Int.fdiv_eq_ediv_of_nonneg _ (by decide), Int.fdiv_eq_ediv_of_nonneg _ (by decide), Int.fdiv_eq_ediv_of_nonneg _ (by decide)]
  simp only [IntKind.wrap_u8]
  unfold le32
  rw [w (s % 256) (by omega) (by omega), w (s / 256 % 256) (by omega) (by omega), w (s / 65536 % 256) (by omega) (by omega), w (s / 16777216 % 256) (by omega) (by omega)]
  rw [w (s / 256 % 256 * 256) (by omega) (by omega), w (s / 65536 % 256 * 65536) (by omega) (by omega), w (s / 16777216 % 256 * 16777216) (by omega) (by omega)]
  have j1 : bits .or .u32 (s % 256) (s / 256 % 256 * 256) = s / 256 % 256 * 256 + s % 256 := by
    rw [bits_or_comm]
    exact bits_join .u32 32 (by decide) wu 8 _ _ (by omega) (by omega) (by omega) (by omega) (by omega) (by omega)
  have j2 : bits .or .u32 (s / 256 % 256 * 256 + s % 256) (s / 65536 % 256 * 65536) = s / 65536 % 256 * 65536 + (s / 256 % 256 * 256 + s % 256) := by
    rw [bits_or_comm]
    exact bits_join .u32 32 (by decide) wu 16 _ _ (by omega) (by omega) (by omega) (by omega) (by omega) (by omega)
  have j3 : bits .or .u32 (s / 65536 % 256 * 65536 + (s / 256 % 256 * 256 + s % 256)) (s / 16777216 % 256 * 16777216) = s / 16777216 % 256 * 16777216 + (s / 65536 % 256 * 65536 + (s / 256 % 256 * 256 + s % 256)) := by
    rw [bits_or_comm]
    exact bits_join .u32 32 (by decide) wu 24 _ _ (by omega) (by omega) (by omega) (by omega) (by omega) (by omega)
  rw [j1, j2, j3]
  omega
theorem sumB_range (l : List Int) : 0 ≤ sumB l ∧ sumB l < 4294967296 := by
  have := bits_within .xor .u32 4294967295 (sumR 4294967295 l)
  have h1 : IntKind.u32.min = 0 := rfl
  have h2 : IntKind.u32.max = 4294967295 := rfl
  unfold sumB
  omega
theorem openN_seal (l : List Int) : openN (sealB l) = .ok l := by
  obtain ⟨h0, h1⟩ := sumB_range l
  have hl : (sealB l).length = l.length + 4 := by simp [sealB]
  unfold openN
  rw [if_neg (by omega), hl, Nat.add_sub_cancel]
  have ht : (sealB l).take l.length = l := by simp [sealB]
  have g : ∀ k, (sealB l).getD (l.length + k) 0 = [IntKind.wrap .u8 (sumB l), IntKind.wrap .u8 ((sumB l).fdiv 256), IntKind.wrap .u8 ((sumB l).fdiv 65536), IntKind.wrap .u8 ((sumB l).fdiv 16777216)].getD k 0 := by
    intro k
    unfold sealB
    rw [List.getD_eq_getElem?_getD, List.getElem?_append_right (by omega), Nat.add_sub_cancel_left, List.getD_eq_getElem?_getD]
  rw [ht]
  have g0 := g 0
  rw [Nat.add_zero] at g0
  rw [g0, g 1, g 2, g 3]
  simp only [List.getD_cons_zero, List.getD_cons_succ]
  rw [le32_bytes h0 h1]
  simp
/-- A guest's bytes are decoded as it was. -/
theorem decP_enc {x : Sv} (hw : x.wf) (hk : keepN x = 0) (hb : (encL x).length ≤ 100000000000) : decP (sealB (encL x)) = .ok (dvOf x) := by
  unfold decP
  rw [openN_seal]
  simp only []
  have hm : ∃ r, encL x = 109 :: 117 :: 109 :: 1 :: r := ⟨(encL x).drop 4, rfl⟩
  obtain ⟨r, hr⟩ := hm
  have hd : (encL x).drop 4 = encs [x.fr] ++ rowB x.mem.bs ++ encs x.s.nums ++ encs [x.steps, (x.notes.n : Int)] ++ notesB x.notes 0 x.notes.n ++ rowB x.out.bs ++ rowB x.disk.bs ++ rowB x.queue.bs ++ encs [(x.script.n : Int)] ++ evsB x.script 0 x.script.n ++
    encs [x.b1, x.b2, x.b3, x.b4, x.b5, x.b6, x.b7, x.b8] ++ [] := by
    rw [List.append_nil]; rfl
  obtain ⟨o', h1, h2⟩ := savP_at hw (keepN_kept hk) hb hd
  have h3 : (encL x).length ≤ o' := by
    have := congrArg List.length h2
    simp at this
    omega
  unfold decIn
  rw [if_neg (by rw [hr]; simp), if_neg (by rw [hr]; simp [magicB]), h1]
  simp only [decGo]
  rw [if_neg (by omega), if_pos (by rw [keepN_dv]; exact hk)]
end Go.Proofs.Ytmbcpmbpkdeioaa.W
/- A sum over bits: a register of 32 bits that is moved down bit by bit, with a polynomial joined in. Bits that are turned within 32 places are seen in it. Plain bit vectors; no condition. -/
namespace Go.Proofs.Crc
/-- One bit: the register is moved down, and the polynomial is joined in where a bit went out. -/
def step (r : BitVec 32) : BitVec 32 := if r.getLsbD 0 then (r >>> 1) ^^^ 0xedb88320#32 else r >>> 1
theorem step_xor (a b : BitVec 32) : step (a ^^^ b) = step a ^^^ step b := by
  unfold step
  rw [BitVec.getLsbD_xor]
  cases ha : a.getLsbD 0 <;> cases hb : b.getLsbD 0 <;> simp only [Bool.xor_false, Bool.xor_true, Bool.not_true, Bool.not_false, if_true, if_false, Bool.false_eq_true, BitVec.ushiftRight_xor_distrib]
  · rw [BitVec.xor_assoc]
  · rw [BitVec.xor_assoc, BitVec.xor_comm (b >>> 1), ← BitVec.xor_assoc]
  · rw [BitVec.xor_assoc, BitVec.xor_comm 0xedb88320#32, BitVec.xor_assoc, BitVec.xor_self, BitVec.xor_zero]
theorem step_zero : step 0#32 = 0#32 := by decide
theorem step_inj (r : BitVec 32) (h : step r = 0#32) : r = 0#32 := by
  unfold step at h
  by_cases h0 : r.getLsbD 0 = true
  · rw [if_pos h0] at h
    exfalso
    have := congrArg (fun x : BitVec 32 => x.getLsbD 31) h
    simp at this
  · rw [if_neg h0] at h
    apply BitVec.eq_of_getLsbD_eq
    intro i hi
    rw [BitVec.getLsbD_zero]
    cases i with
    | zero => simpa using h0
    | succ i =>
      have := congrArg (fun x : BitVec 32 => x.getLsbD i) h
      simp [BitVec.getLsbD_ushiftRight] at this
      rw [Nat.add_comm]; exact this
/-- The register behind n bits of nought. -/
def steps : Nat → BitVec 32 → BitVec 32
  | 0, r => r
  | n + 1, r => step (steps n r)
theorem steps_zero (n : Nat) : steps n 0#32 = 0#32 := by
  induction n with
  | zero => rfl
  | succ n ih => rw [steps, ih, step_zero]
theorem steps_inj (n : Nat) (r : BitVec 32) (h : steps n r = 0#32) : r = 0#32 := by
  induction n with
  | zero => exact h
  | succ n ih => exact ih (step_inj _ h)
theorem steps_xor (n : Nat) (a b : BitVec 32) : steps n (a ^^^ b) = steps n a ^^^ steps n b := by
  induction n with
  | zero => rfl
  | succ n ih => rw [steps, ih, step_xor]; rfl
/-- A bit, as a register. -/
def bit (b : Bool) : BitVec 32 := if b then 1#32 else 0#32
/-- The register behind a row of bits. -/
def run (r : BitVec 32) : List Bool → BitVec 32
  | [] => r
  | b :: l => run (step (r ^^^ bit b)) l
theorem run_append (a b : List Bool) : ∀ r, run r (a ++ b) = run (run r a) b := by
  induction a with
  | nil => intro r; rfl
  | cons x a ih => intro r; exact ih _
theorem run_zeros (n : Nat) : ∀ r, run r (List.replicate n false) = steps n r := by
  induction n with
  | zero => intro r; rfl
  | succ n ih =>
    intro r
    have e : List.replicate (n + 1) false = List.replicate n false ++ [false] := by rw [List.replicate_succ']
    rw [e, run_append, ih]
    show step (steps n r ^^^ bit false) = _
    unfold bit
    rw [if_neg (by simp), BitVec.xor_zero]; rfl
/-- Bits, as a register, the first one lowest. -/
def word : List Bool → BitVec 32
  | [] => 0#32
  | b :: l => bit b ^^^ (word l <<< 1)
theorem step_shl (v : BitVec 32) (h : v.getLsbD 31 = false) : step (v <<< 1) = v := by
  unfold step
  rw [if_neg (by simp)]
  apply BitVec.eq_of_getLsbD_eq
  intro i hi
  simp only [BitVec.getLsbD_ushiftRight, BitVec.getLsbD_shiftLeft]
  by_cases h31 : i = 31
  · subst h31; simp [-BitVec.getLsbD_eq_getElem, h]
  · have : 1 + i < 32 := by omega
    simp [this]
theorem word_top (l : List Bool) : ∀ j, l.length ≤ j → (word l).getLsbD j = false := by
  induction l with
  | nil => intro j _; simp [word]
  | cons b l ih =>
    intro j hj
    simp only [List.length_cons] at hj
    have h1 := ih (j - 1) (by omega)
    have hj0 : ¬ j < 1 := by omega
    simp only [word, BitVec.getLsbD_xor, BitVec.getLsbD_shiftLeft]
    have hb : (bit b).getLsbD j = false := by
      unfold bit; cases b
      · simp
      · have : j ≠ 0 := by omega
        simp [BitVec.getLsbD_one, this]
    rw [hb, h1]; simp
theorem run_word (l : List Bool) : ∀ r, l.length ≤ 32 → run r l = steps l.length (r ^^^ word l) := by
  induction l with
  | nil => intro r _; simp [run, word, steps]
  | cons b l ih =>
    intro r hl
    simp only [List.length_cons] at hl ⊢
    have hs : step (word l <<< 1) = word l := step_shl _ (word_top l 31 (by omega))
    have e : step (r ^^^ word (b :: l)) = step (r ^^^ bit b) ^^^ word l := by
      simp only [word]
      rw [← BitVec.xor_assoc, step_xor, hs]
    have hc : ∀ (n : Nat) (v : BitVec 32), steps (n + 1) v = steps n (step v) := by
      intro n
      induction n with
      | zero => intro v; rfl
      | succ n ihn => intro v; show step (steps (n + 1) v) = _; rw [ihn]; rfl
    rw [hc, e]
    exact ih _ (by omega)
theorem word_zero (l : List Bool) (hl : l.length ≤ 32) (h : word l = 0#32) : ∀ b ∈ l, b = false := by
  induction l with
  | nil => intro b hb; simp at hb
  | cons x l ih =>
    simp only [List.length_cons] at hl
    have hx : x = false := by
      have := congrArg (fun v : BitVec 32 => v.getLsbD 0) h
      simp [word, bit] at this
      cases x
      · rfl
      · simp at this
    subst hx
    have hw : word l = 0#32 := by
      have e : word l <<< 1 = 0#32 := by
        have := h; simp only [word, bit] at this
        simpa using this
      have := step_shl (word l) (word_top l 31 (by omega))
      rw [e, step_zero] at this; exact this.symm
    intro b hb
    rcases List.mem_cons.1 hb with rfl | hb
    · rfl
    · exact ih (by omega) hw b hb
/-- BITS THAT ARE TURNED WITHIN 32 PLACES ARE SEEN: a row of bits of which at most 32, one behind the other, are not nought, and one is not, does not leave a register of nought as it was. -/
theorem burst (a c : Nat) (l : List Bool) (hl : l.length ≤ 32) (hb : true ∈ l) : run 0#32 (List.replicate a false ++ l ++ List.replicate c false) ≠ 0#32 := by
  intro h
  rw [run_append, run_append, run_zeros, run_zeros, steps_zero, run_word l _ hl] at h
  have h1 := steps_inj _ _ (steps_inj _ _ h)
  rw [BitVec.zero_xor] at h1
  exact absurd (word_zero l hl h1 true hb) (by simp)
theorem run_xor (a b : List Bool) : ∀ r s, a.length = b.length → run (r ^^^ s) (List.zipWith (fun x y => x ^^ y) a b) = run r a ^^^ run s b := by
  induction a generalizing b with
  | nil => intro r s h; cases b <;> simp_all [run]
  | cons x a ih =>
    intro r s h
    cases b with
    | nil => simp at h
    | cons y b =>
      have hb : bit (x ^^ y) = bit x ^^^ bit y := by cases x <;> cases y <;> decide
      simp only [List.zipWith_cons_cons, run]
      rw [hb, show r ^^^ s ^^^ (bit x ^^^ bit y) = (r ^^^ bit x) ^^^ (s ^^^ bit y) by rw [BitVec.xor_assoc, ← BitVec.xor_assoc s, BitVec.xor_comm s, BitVec.xor_assoc (bit x), ← BitVec.xor_assoc r], step_xor]
      exact ih b _ _ (by simpa using h)
end Go.Proofs.Crc
/- Bytes that are spoilt are seen: plain law. No condition. -/
namespace Go.Proofs.Ytmbcpmbpkdeioaa.W
open Go Go.RowKit Go.Eng
set_option linter.unusedVariables false
set_option linter.unusedSimpArgs false
def byteBits (x : Int) : List Bool := [x.toNat.testBit 0, x.toNat.testBit 1, x.toNat.testBit 2, x.toNat.testBit 3, x.toNat.testBit 4, x.toNat.testBit 5, x.toNat.testBit 6, x.toNat.testBit 7]
def bitsL : List Int → List Bool
  | [] => []
  | x :: l => byteBits x ++ bitsL l
def IsBytes (l : List Int) : Prop := ∀ x ∈ l, 0 ≤ x ∧ x < 256
theorem bitsL_append (a b : List Int) : bitsL (a ++ b) = bitsL a ++ bitsL b := by
  induction a with
  | nil => rfl
  | cons x a ih => simp [bitsL, ih]
theorem bitsL_len (l : List Int) : (bitsL l).length = 8 * l.length := by
  induction l with
  | nil => rfl
  | cons x l ih => simp only [bitsL, List.length_append, ih, byteBits, List.length_cons, List.length_nil]; omega
theorem bx (a b : Int) : bits .xor .u32 a b = ((BitVec.ofInt 32 a ^^^ BitVec.ofInt 32 b).toNat : Int) := by
  show IntKind.u32.wrap ((BitVec.ofInt 32 a ^^^ BitVec.ofInt 32 b).toNat : Int) = _
  rw [IntKind.wrap_u32]
  have := (BitVec.ofInt 32 a ^^^ BitVec.ofInt 32 b).isLt
  omega
theorem ba (a b : Int) : bits .and .u32 a b = ((BitVec.ofInt 32 a &&& BitVec.ofInt 32 b).toNat : Int) := by
  show IntKind.u32.wrap ((BitVec.ofInt 32 a &&& BitVec.ofInt 32 b).toNat : Int) = _
  rw [IntKind.wrap_u32]
  have := (BitVec.ofInt 32 a &&& BitVec.ofInt 32 b).isLt
  omega
theorem ofInt_nat (R : BitVec 32) : BitVec.ofInt 32 (R.toNat : Int) = R := by
  rw [BitVec.ofInt_natCast, BitVec.ofNat_toNat, BitVec.setWidth_eq]
theorem movedStep_bv (R : BitVec 32) : movedStep (R.toNat : Int) = ((Crc.step R).toNat : Int) := by
  have hd : ((R.toNat : Int).fdiv 2) = ((R >>> 1).toNat : Int) := by
    rw [Int.fdiv_eq_ediv_of_nonneg _ (by decide), BitVec.toNat_ushiftRight, Nat.shiftRight_eq_div_pow]
    omega
  have hb : bits .and .u32 (R.toNat : Int) 1 = if R.getLsbD 0 then 1 else 0 := by
    rw [ba, ofInt_nat]
    have e : BitVec.ofInt 32 1 = 1#32 := by decide
    rw [e, BitVec.toNat_and]
    have : R.getLsbD 0 = decide (R.toNat % 2 = 1) := by rw [BitVec.getLsbD, Nat.testBit_zero]
    rw [this]
    have h2 : R.toNat &&& (1#32).toNat = R.toNat % 2 := Nat.and_one_is_mod _
    rw [h2]
    rcases Nat.mod_two_eq_zero_or_one R.toNat with h | h <;> rw [h] <;> rfl
  unfold movedStep Crc.step
  rw [hb, hd]
  by_cases h : R.getLsbD 0 = true
  · rw [if_pos h, if_pos rfl, if_pos h, bx, ofInt_nat]
    have e : BitVec.ofInt 32 3988292384 = 0xedb88320#32 := by decide
    rw [e]
  · rw [if_neg h, if_neg (by decide), if_neg h]
theorem steps_succ (n : Nat) (R : BitVec 32) : Crc.steps (n + 1) R = Crc.steps n (Crc.step R) := by
  induction n with
  | zero => rfl
  | succ n ih => rw [Crc.steps, ih]; rfl
theorem movedSteps_bv : ∀ (k : Nat) (R : BitVec 32), movedSteps k (R.toNat : Int) = ((Crc.steps k R).toNat : Int)
  | 0, R => rfl
  | k + 1, R => by rw [movedSteps, movedStep_bv, movedSteps_bv k, steps_succ]
theorem word_byte {x : Int} (h0 : 0 ≤ x) (h1 : x < 256) : Crc.word (byteBits x) = BitVec.ofInt 32 x := by
  obtain ⟨a, rfl⟩ := Int.eq_ofNat_of_zero_le h0
  have ha : a < 256 := by omega
  have key : ∀ m : Fin 256, Crc.word (byteBits ((m.val : Nat) : Int)) = BitVec.ofInt 32 ((m.val : Nat) : Int) := by decide +kernel
  exact key ⟨a, ha⟩
theorem movedN_bv (R : BitVec 32) {x : Int} (h0 : 0 ≤ x) (h1 : x < 256) : movedN (R.toNat : Int) x = ((Crc.run R (byteBits x)).toNat : Int) := by
  unfold movedN
  have hw : IntKind.wrap .u32 x = x := by rw [IntKind.wrap_u32]; omega
  rw [hw, bx, ofInt_nat, movedSteps_bv, Crc.run_word (byteBits x) R (by simp [byteBits]), word_byte h0 h1]
  rfl
theorem sumR_bv : ∀ (l : List Int) (R : BitVec 32), IsBytes l → sumR (R.toNat : Int) l = ((Crc.run R (bitsL l)).toNat : Int)
  | [], R, _ => rfl
  | x :: l, R, h => by
    have hx := h x (by simp)
    rw [sumR, movedN_bv R hx.1 hx.2, sumR_bv l _ (fun y hy => h y (by simp [hy])), bitsL, Crc.run_append]
def ones : BitVec 32 := 0xffffffff#32
theorem sumB_bv {l : List Int} (h : IsBytes l) : sumB l = ((ones ^^^ Crc.run ones (bitsL l)).toNat : Int) := by
  unfold sumB
  have e : (4294967295 : Int) = ((ones.toNat : Nat) : Int) := by decide
  rw [e, sumR_bv l ones h, bx, ofInt_nat, ofInt_nat]
theorem word_get : ∀ (l : List Bool) (i : Nat), l.length ≤ 32 → (Crc.word l).getLsbD i = l.getD i false
  | [], i, _ => by simp [Crc.word]
  | b :: l, i, h => by
    simp only [List.length_cons] at h
    have ih := fun i => word_get l i (by omega)
    rw [Crc.word, BitVec.getLsbD_xor, BitVec.getLsbD_shiftLeft]
    cases i with
    | zero => cases b <;> simp [Crc.bit]
    | succ i =>
      have hb : (Crc.bit b).getLsbD (i + 1) = false := by
        cases b
        · simp [Crc.bit]
        · unfold Crc.bit
          rw [if_pos rfl]
          show Nat.testBit 1 (i + 1) = false
          rw [Nat.testBit_succ]
          simp
      rw [hb, Bool.false_xor, Nat.add_sub_cancel, ih]
      simp only [List.getD_cons_succ]
      by_cases hi : i + 1 < 32
      · simp [hi]
      · have : l.getD i false = false := by
          rw [List.getD_eq_getElem?_getD, List.getElem?_eq_none (by omega)]; rfl
        rw [this]; simp
theorem word_bytes (S : BitVec 32) {a b c d : Int} (ha : a = (S.toNat : Int) % 256) (hb : b = (S.toNat : Int) / 256 % 256) (hc : c = (S.toNat : Int) / 65536 % 256) (hd : d = (S.toNat : Int) / 16777216 % 256) : Crc.word (bitsL [a, b, c, d]) = S := by
  have ea : a.toNat = S.toNat % 2 ^ 8 := by omega
  have eb : b.toNat = S.toNat / 2 ^ 8 % 2 ^ 8 := by omega
  have ec : c.toNat = S.toNat / 2 ^ 16 % 2 ^ 8 := by omega
  have ed : d.toNat = S.toNat / 2 ^ 24 % 2 ^ 8 := by omega
  apply BitVec.eq_of_getLsbD_eq
  intro i hi
  rw [word_get _ _ (by rw [bitsL_len]; simp)]
  simp only [bitsL, byteBits, ea, eb, ec, ed, Nat.testBit_mod_two_pow, Nat.testBit_div_two_pow, List.append_nil, List.cons_append, List.nil_append]
  have key : ∀ j, S.toNat.testBit j = S.getLsbD j := fun j => rfl
  simp only [key]
  match i, hi with
  | 0, _ | 1, _ | 2, _ | 3, _ | 4, _ | 5, _ | 6, _ | 7, _ | 8, _ | 9, _ | 10, _ | 11, _ | 12, _ | 13, _ | 14, _ | 15, _ | 16, _ | 17, _ | 18, _ | 19, _ | 20, _ | 21, _ | 22, _ | 23, _ | 24, _ | 25, _ | 26, _ | 27, _ | 28, _ | 29, _ | 30, _ | 31, _ => simp
  | n + 32, h => omega
theorem le32_sum {a b c d : Int} (ha : 0 ≤ a ∧ a < 256) (hb : 0 ≤ b ∧ b < 256) (hc : 0 ≤ c ∧ c < 256) (hd : 0 ≤ d ∧ d < 256) : le32 a b c d = a + 256 * b + 65536 * c + 16777216 * d := by
  have h := le32_bytes (s := a + 256 * b + 65536 * c + 16777216 * d) (by omega) (by omega)
  rw [Int.fdiv_eq_ediv_of_nonneg _ (by decide), Int.fdiv_eq_ediv_of_nonneg _ (by decide), Int.fdiv_eq_ediv_of_nonneg _ (by decide)] at h
  simp only [IntKind.wrap_u8] at h
  have e0 : (a + 256 * b + 65536 * c + 16777216 * d) % 256 = a := by omega
  have e1 : (a + 256 * b + 65536 * c + 16777216 * d) / 256 % 256 = b := by omega
  have e2 : (a + 256 * b + 65536 * c + 16777216 * d) / 65536 % 256 = c := by omega
  have e3 : (a + 256 * b + 65536 * c + 16777216 * d) / 16777216 % 256 = d := by omega
  rw [e0, e1, e2, e3] at h
  exact h
/-- Bytes whose sum is in order. -/
theorem openN_run {l : List Int} (h : IsBytes l) (h4 : 4 ≤ l.length) (ho : openN l ≠ .no 292) : Crc.run ones (bitsL l) = Crc.steps 32 ones := by
  have hl : l = l.take (l.length - 4) ++ [l.getD (l.length - 4) 0, l.getD (l.length - 4 + 1) 0, l.getD (l.length - 4 + 2) 0, l.getD (l.length - 4 + 3) 0] := by
    refine List.ext_getElem? fun i => ?_
    rcases Nat.lt_or_ge i (l.length - 4) with hi | hi
    · rw [List.getElem?_append_left (by simp; omega), List.getElem?_take_of_lt hi]
    · rw [List.getElem?_append_right (by simp; omega)]
      have e : (l.take (l.length - 4)).length = l.length - 4 := by simp
      rw [e]
      obtain ⟨j, rfl⟩ : ∃ j, i = l.length - 4 + j := ⟨i - (l.length - 4), by omega⟩
      rw [Nat.add_sub_cancel_left]
      rcases Nat.lt_or_ge j 4 with hj | hj
      · have hlt : l.length - 4 + j < l.length := by omega
        rw [List.getElem?_eq_getElem hlt]
        match j, hj with
        | 0, _ => have hlt' : l.length - 4 < l.length := by omega
                  simp [List.getD_eq_getElem?_getD, List.getElem?_eq_getElem hlt']
        | 1, _ | 2, _ | 3, _ => simp [List.getD_eq_getElem?_getD, List.getElem?_eq_getElem hlt]
        | n + 4, h => omega
      · rw [List.getElem?_eq_none (by omega), List.getElem?_eq_none (by simp; omega)]
  have gb : ∀ k, 0 ≤ l.getD k 0 ∧ l.getD k 0 < 256 := by
    intro k
    rw [List.getD_eq_getElem?_getD]
    rcases hk : l[k]? with _ | y
    · simp
    · simp; exact h y (List.mem_of_getElem? hk)
  have hs : sumB (l.take (l.length - 4)) = le32 (l.getD (l.length - 4) 0) (l.getD (l.length - 4 + 1) 0) (l.getD (l.length - 4 + 2) 0) (l.getD (l.length - 4 + 3) 0) := by
    unfold openN at ho
    rw [if_neg (by omega)] at ho
    by_cases e : sumB (l.take (l.length - 4)) = le32 (l.getD (l.length - 4) 0) (l.getD (l.length - 4 + 1) 0) (l.getD (l.length - 4 + 2) 0) (l.getD (l.length - 4 + 3) 0)
    · exact e
    · rw [if_pos e] at ho; exact absurd rfl ho
  rw [le32_sum (gb _) (gb _) (gb _) (gb _), sumB_bv (fun x hx => h x (List.mem_of_mem_take hx))] at hs
  have g0 := gb (l.length - 4)
  have g1 := gb (l.length - 4 + 1)
  have g2 := gb (l.length - 4 + 2)
  have g3 := gb (l.length - 4 + 3)
  generalize l.getD (l.length - 4) 0 = a at *
  generalize l.getD (l.length - 4 + 1) 0 = b at *
  generalize l.getD (l.length - 4 + 2) 0 = c at *
  generalize l.getD (l.length - 4 + 3) 0 = d at *
  generalize l.take (l.length - 4) = t at *
  rw [hl, bitsL_append, Crc.run_append, Crc.run_word (bitsL [a, b, c, d]) _ (by rw [bitsL_len]; simp)]
  rw [word_bytes (ones ^^^ Crc.run ones (bitsL t)) (by rw [hs]; omega) (by rw [hs]; omega) (by rw [hs]; omega) (by rw [hs]; omega)]
  rw [bitsL_len]
  rw [BitVec.xor_comm ones, ← BitVec.xor_assoc, BitVec.xor_self, BitVec.zero_xor]
  rfl
end Go.Proofs.Ytmbcpmbpkdeioaa.W
/- Bits that are turned: plain law. No condition. -/
namespace Go.Proofs.Ytmbcpmbpkdeioaa.W
open Go Go.RowKit Go.Eng
set_option linter.unusedVariables false
set_option linter.unusedSimpArgs false
def mb (m : Int) (i : Nat) : Bool := (m.fdiv (2 ^ min (i : Int).toNat 32)).tmod 2 == 1
def flipB (b : List Int) (j : Nat) : List Int := b.set (j / 8) (bits .xor .u8 (b.getD (j / 8) 0) (2 ^ (j % 8)))
def flN (fr : Nat) (m : Int) : Nat → Nat → List Int → List Int
  | 0, _, b => b
  | n + 1, i, b => flN fr m n (i + 1) (bif mb m i then flipB b (fr + i) else b)
def tuN (m : Int) : Nat → Nat → Bool
  | 0, _ => false
  | n + 1, i => mb m i || tuN m n (i + 1)
theorem flip_byte {x : Int} (h0 : 0 ≤ x) (h1 : x < 256) {k : Nat} (hk : k < 8) : byteBits (bits .xor .u8 x (2 ^ k)) = (byteBits x).set k (!(byteBits x).getD k false) := by
  obtain ⟨a, rfl⟩ := Int.eq_ofNat_of_zero_le h0
  have ha : a < 256 := by omega
  have key : ∀ m : Fin 256, ∀ k : Fin 8, byteBits (bits .xor .u8 ((m.val : Nat) : Int) (2 ^ k.val)) = (byteBits ((m.val : Nat) : Int)).set k.val (!(byteBits ((m.val : Nat) : Int)).getD k.val false) := by decide +kernel
  exact key ⟨a, ha⟩ ⟨k, hk⟩
theorem xor_byte (x y : Int) : 0 ≤ bits .xor .u8 x y ∧ bits .xor .u8 x y < 256 := by
  have := bits_within .xor .u8 x y
  have h1 : IntKind.u8.min = 0 := rfl
  have h2 : IntKind.u8.max = 255 := rfl
  omega
theorem flipB_len (b : List Int) (j : Nat) : (flipB b j).length = b.length := by simp [flipB]
theorem flipB_bytes {b : List Int} (h : IsBytes b) (j : Nat) : IsBytes (flipB b j) := by
  intro x hx
  rcases List.mem_or_eq_of_mem_set hx with hx | rfl
  · exact h x hx
  · exact xor_byte _ _
theorem bitsL_flip : ∀ (b : List Int) (j : Nat), IsBytes b → j < 8 * b.length → bitsL (flipB b j) = (bitsL b).set j (!(bitsL b).getD j false)
  | [], j, _, h => by simp at h
  | x :: l, j, hb, h => by
    have hx := hb x (by simp)
    have l8 : (byteBits x).length = 8 := rfl
    by_cases hj : j < 8
    · have e1 : j / 8 = 0 := by omega
      have e2 : j % 8 = j := by omega
      simp only [flipB, e1, e2, List.set_cons_zero, List.getD_cons_zero, bitsL]
      rw [flip_byte hx.1 hx.2 hj, List.set_append_left _ _ (by rw [l8]; exact hj)]
      have : (byteBits x ++ bitsL l).getD j false = (byteBits x).getD j false := by
        rw [List.getD_eq_getElem?_getD, List.getElem?_append_left (by rw [l8]; exact hj), List.getD_eq_getElem?_getD]
      rw [this]
    · have ih := bitsL_flip l (j - 8) (fun y hy => hb y (by simp [hy])) (by simp at h; omega)
      obtain ⟨p, hp⟩ : ∃ p, j / 8 = p + 1 := ⟨j / 8 - 1, by omega⟩
      have e1 : (j - 8) / 8 = p := by omega
      have e2 : (j - 8) % 8 = j % 8 := by omega
      have e3 : flipB (x :: l) j = x :: flipB l (j - 8) := by
        simp only [flipB, hp, e1, e2, List.set_cons_succ, List.getD_cons_succ]
      rw [e3]
      simp only [bitsL]
      rw [ih, List.set_append_right _ _ (by rw [l8]; omega), l8]
      have : (byteBits x ++ bitsL l).getD j false = (bitsL l).getD (j - 8) false := by
        rw [List.getD_eq_getElem?_getD, List.getElem?_append_right (by rw [l8]; omega), l8, List.getD_eq_getElem?_getD]
      rw [this]
theorem flN_len (fr : Nat) (m : Int) : ∀ (n i : Nat) (b : List Int), (flN fr m n i b).length = b.length
  | 0, _, _ => rfl
  | n + 1, i, b => by
    rw [flN, flN_len fr m n]
    cases mb m i
    · rfl
    · exact flipB_len _ _
theorem flN_bytes (fr : Nat) (m : Int) : ∀ (n i : Nat) (b : List Int), IsBytes b → IsBytes (flN fr m n i b)
  | 0, _, _, h => h
  | n + 1, i, b, h => by
    rw [flN]
    refine flN_bytes fr m n _ _ ?_
    cases mb m i
    · exact h
    · exact flipB_bytes h _
theorem flN_bits (fr : Nat) (m : Int) : ∀ (n i : Nat) (b : List Int), IsBytes b → fr + i + n ≤ 8 * b.length → ∀ j, (bitsL (flN fr m n i b)).getD j false = ((bitsL b).getD j false ^^ (decide (fr + i ≤ j) && decide (j < fr + i + n) && mb m (j - fr)))
  | 0, i, b, _, _, j => by
    have : (decide (fr + i ≤ j) && decide (j < fr + i + 0)) = false := by
      simp
    rw [this]
    simp [flN]
  | n + 1, i, b, h, hn, j => by
    have hb' : IsBytes (bif mb m i then flipB b (fr + i) else b) := by
      cases mb m i
      · exact h
      · exact flipB_bytes h _
    have hl' : (bif mb m i then flipB b (fr + i) else b).length = b.length := by
      cases mb m i
      · rfl
      · exact flipB_len _ _
    rw [flN, flN_bits fr m n (i + 1) _ hb' (by rw [hl']; omega) j]
    have hstep : (bitsL (bif mb m i then flipB b (fr + i) else b)).getD j false = ((bitsL b).getD j false ^^ (decide (j = fr + i) && mb m i)) := by
      cases hm : mb m i
      · simp
      · simp only [cond_true, Bool.and_true]
        rw [bitsL_flip b (fr + i) h (by omega)]
        by_cases hj : j = fr + i
        · subst hj
          rw [List.getD_eq_getElem?_getD, List.getElem?_set_self (by rw [bitsL_len]; omega)]
          simp
        · rw [List.getD_eq_getElem?_getD, List.getElem?_set_ne (Ne.symm hj), ← List.getD_eq_getElem?_getD]
          simp [hj]
    rw [hstep]
    by_cases hj : j = fr + i
    · subst hj
      have e1 : decide (fr + (i + 1) ≤ fr + i) = false := by simp
      have e2 : decide (fr + i < fr + i + (n + 1)) = true := by simp
      have e3 : fr + i - fr = i := by omega
      rw [e1, e2, e3]
      simp
    · have e0 : decide (j = fr + i) = false := by simp [hj]
      have e1 : decide (fr + (i + 1) ≤ j) = decide (fr + i ≤ j) := by
        by_cases h1 : fr + i ≤ j
        · rw [decide_eq_true h1, decide_eq_true (by omega)]
        · rw [decide_eq_false h1, decide_eq_false (by omega)]
      have e2 : fr + (i + 1) + n = fr + i + (n + 1) := by omega
      rw [e0, e1, e2]
      simp
theorem tuN_iff (m : Int) : ∀ (n i : Nat), tuN m n i = true ↔ ∃ k, k < n ∧ mb m (i + k) = true
  | 0, i => by simp [tuN]
  | n + 1, i => by
    rw [tuN, Bool.or_eq_true, tuN_iff m n (i + 1)]
    constructor
    · rintro (h | ⟨k, h1, h2⟩)
      · exact ⟨0, by omega, h⟩
      · exact ⟨k + 1, by omega, by rw [← h2]; congr 1; omega⟩
    · rintro ⟨k, h1, h2⟩
      cases k with
      | zero => exact .inl h2
      | succ k => exact .inr ⟨k, by omega, by rw [← h2]; congr 1; omega⟩
theorem flN_same (fr : Nat) (m : Int) : ∀ (n i : Nat) (b : List Int), tuN m n i = false → flN fr m n i b = b
  | 0, _, _, _ => rfl
  | n + 1, i, b, h => by
    rw [tuN, Bool.or_eq_false_iff] at h
    rw [flN, h.1]
    exact flN_same fr m n _ b h.2
theorem spoilt {l : List Int} {fr : Nat} {m : Int} {n : Nat} (h : IsBytes l) (h4 : 4 ≤ l.length) (ho : openN l ≠ .no 292) (hn : n ≤ 32) (hf : fr + n ≤ 8 * l.length) (ht : tuN m n 0 = true) : openN (flN fr m n 0 l) = .no 292 := by
  by_cases hc : openN (flN fr m n 0 l) = .no 292
  · exact hc
  · exfalso
    have r1 := openN_run h h4 ho
    have r2 := openN_run (flN_bytes fr m n 0 l h) (by rw [flN_len]; exact h4) hc
    have hE : bitsL (flN fr m n 0 l) = List.zipWith (fun x y => x ^^ y) (bitsL l) (List.replicate fr false ++ (List.range n).map (fun i => mb m i) ++ List.replicate (8 * l.length - fr - n) false) := by
      have hl1 : (bitsL (flN fr m n 0 l)).length = 8 * l.length := by rw [bitsL_len, flN_len]
      have hl2 : (bitsL l).length = 8 * l.length := bitsL_len l
      refine List.ext_getElem (by simp [hl1, hl2]; omega) (fun j h1 h2 => ?_)
      rw [List.getElem_zipWith]
      have g := flN_bits fr m n 0 l h (by omega) j
      have hj : j < 8 * l.length := by omega
      rw [List.getD_eq_getElem?_getD, List.getElem?_eq_getElem h1, List.getD_eq_getElem?_getD, List.getElem?_eq_getElem (by omega)] at g
      simp only [Option.getD_some] at g
      rw [g]
      congr 1
      rcases Nat.lt_or_ge j fr with q | q
      · rw [List.getElem_append_left (by simp; omega), List.getElem_append_left (by simp; omega), List.getElem_replicate]
        simp; omega
      · rcases Nat.lt_or_ge j (fr + n) with q2 | q2
        · rw [List.getElem_append_left (by simp; omega), List.getElem_append_right (by simp; omega)]
          simp
          intro _
          omega
        · rw [List.getElem_append_right (by simp; omega), List.getElem_replicate]
          simp
          intro _ _
          omega
    rw [hE] at r2
    have hx := Crc.run_xor (bitsL l) (List.replicate fr false ++ (List.range n).map (fun i => mb m i) ++ List.replicate (8 * l.length - fr - n) false) ones 0#32 (by rw [bitsL_len]; simp; omega)
    rw [BitVec.xor_zero, r2, r1] at hx
    have h0 : Crc.run 0#32 (List.replicate fr false ++ (List.range n).map (fun i => mb m i) ++ List.replicate (8 * l.length - fr - n) false) = 0#32 := by
      have := congrArg (fun z => Crc.steps 32 ones ^^^ z) hx
      simp only [← BitVec.xor_assoc, BitVec.xor_self, BitVec.zero_xor] at this
      exact this.symm
    obtain ⟨k, k1, k2⟩ := (tuN_iff m n 0).1 ht
    refine Crc.burst fr (8 * l.length - fr - n) ((List.range n).map fun i => mb m i) (by simp; exact hn) ?_ h0
    rw [List.mem_map]
    exact ⟨k, List.mem_range.2 k1, by rw [Nat.zero_add] at k2; exact k2⟩
/-! ### a guest's bytes are bytes -/
theorem putN_bytes : ∀ (k : Nat) (n : Int), n.toNat ≤ k → IsBytes (putN n) := by
  intro k
  induction k with
  | zero =>
    intro n hn x hx
    unfold putN at hx
    rw [if_pos (by omega)] at hx
    simp only [List.mem_singleton] at hx
    rw [hx, IntKind.wrap_u8]
    omega
  | succ k ih =>
    intro n hn x hx
    unfold putN at hx
    by_cases h : n < 128
    · rw [if_pos h] at hx
      simp only [List.mem_singleton] at hx
      rw [hx, IntKind.wrap_u8]
      omega
    · rw [if_neg h] at hx
      rcases List.mem_cons.1 hx with rfl | hx
      · have := bits_within .or .u8 (IntKind.wrap .u8 n) 128
        have h1 : IntKind.u8.min = 0 := rfl
        have h2 : IntKind.u8.max = 255 := rfl
        omega
      · refine ih (n.fdiv 128) ?_ x hx
        rw [Int.fdiv_eq_ediv_of_nonneg _ (by decide)]
        omega
theorem IsBytes.append {a b : List Int} (ha : IsBytes a) (hb : IsBytes b) : IsBytes (a ++ b) := fun x hx => by
  rcases List.mem_append.1 hx with h | h
  · exact ha x h
  · exact hb x h
theorem encs_bytes : ∀ l : List Int, IsBytes (encs l)
  | [] => fun x hx => by cases hx
  | n :: l => (putN_bytes _ _ (Nat.le_refl _)).append (encs_bytes l)
theorem rowB_bytes {l : List Int} (h : IsBytes l) : IsBytes (rowB l) := (putN_bytes _ _ (Nat.le_refl _)).append h
theorem notesB_bytes (r : NRow) : ∀ m k, IsBytes (notesB r k m)
  | 0, _ => fun x hx => by cases hx
  | m + 1, k => ((encs_bytes _).append (encs_bytes _)).append (notesB_bytes r m (k + 1))
theorem evsB_bytes (r : ERow) : ∀ m k, IsBytes (evsB r k m)
  | 0, _ => fun x hx => by cases hx
  | m + 1, k => (encs_bytes _).append (evsB_bytes r m (k + 1))
theorem sealB_bytes {l : List Int} (h : IsBytes l) : IsBytes (sealB l) := by
  refine h.append (fun x hx => ?_)
  simp only [List.mem_cons, List.not_mem_nil, or_false] at hx
  have w : ∀ n : Int, 0 ≤ IntKind.wrap .u8 n ∧ IntKind.wrap .u8 n < 256 := fun n => by rw [IntKind.wrap_u8]; omega
  rcases hx with rfl | rfl | rfl | rfl <;> exact w _
def Sv.rows (x : Sv) : Prop := IsBytes x.mem.bs ∧ IsBytes x.out.bs ∧ IsBytes x.disk.bs ∧ IsBytes x.queue.bs
theorem encL_bytes {x : Sv} (h : x.rows) : IsBytes (encL x) := by
  obtain ⟨h1, h2, h3, h4⟩ := h
  have hm : IsBytes [109, 117, 109, 1] := fun y hy => by
    simp only [List.mem_cons, List.not_mem_nil, or_false] at hy
    rcases hy with rfl | rfl | rfl | rfl <;> omega
  exact (((((((((((hm.append (encs_bytes _)).append (rowB_bytes h1)).append (encs_bytes _)).append (encs_bytes _)).append (notesB_bytes _ _ _)).append (rowB_bytes h2)).append (rowB_bytes h3)).append (rowB_bytes h4)).append (encs_bytes _)).append (evsB_bytes _ _ _)).append (encs_bytes _))
theorem encL_len {x : Sv} (h : Kept x) : (encL x).length ≤ 1000000 := by
  have a1 := encs_len [x.fr]
  have a2 := rowB_len x.mem.bs (by have := h.mem; have := h.fr; omega)
  have a3 := encs_len x.s.nums
  have a4 := encs_len [x.steps, (x.notes.n : Int)]
  have a5 := notesB_len x.notes x.notes.n 0
  have a6 := rowB_len x.out.bs (by have := h.out; omega)
  have a7 := rowB_len x.disk.bs (by have := h.disk; omega)
  have a8 := rowB_len x.queue.bs (by have := h.queue; omega)
  have a9 := encs_len [(x.script.n : Int)]
  have a10 := evsB_len x.script x.script.n 0
  have a11 := encs_len [x.b1, x.b2, x.b3, x.b4, x.b5, x.b6, x.b7, x.b8]
  have n3 : x.s.nums.length = 19 := rfl
  have := h.mem
  have := h.fr
  have := h.out
  have := h.disk
  have := h.queue
  have := h.nn
  have := h.en
  simp only [List.length_cons, List.length_nil] at a1 a4 a9 a11
  unfold encL
  simp only [List.length_append, List.length_cons, List.length_nil]
  omega
end Go.Proofs.Ytmbcpmbpkdeioaa.W
/- The law FileSpoilt: what is reckoned, and its loop's states. No condition. -/
namespace Go.Proofs.Ytmbcpmbpkdeioaa.W
open Go Go.RowKit Go.Eng
set_option linter.unusedVariables false
set_option linter.unusedSimpArgs false
def worksC : Con Unit Unit where
  f := F_mummerlaw30_works
  fit vs H := match vs with
    | [] => some ([], ())
    | _ => none
  n0 := 0
  pre _ := True
  args _ := []
  L0 _ := []
  outs _ := [(fun _ => True, fun _ => (.ret (.bool true), 0, []))]
structure FsI where
  bs : List Int
  fr : Nat
  m : Int
  i : Nat
  tu : Bool
/-- How many rounds are left. -/
def FsI.left (s : FsI) : Nat := min 32 (8 * s.bs.length - s.fr) - s.i
def fsL (P : Program) : Lp FsI where
  B := 6
  n := ntmpsOf P F_mummerlaw30_FileSpoilt
  code := loopOf P F_mummerlaw30_FileSpoilt 0
  fit s H := match s.get 7, s.get 9, s.get 2 with
    | .sl b _ _ _ _ _, .int _ fr, .int _ m => match H.get b with
      | some k => match k.c with
        | .ints _ bs => some ⟨bs, fr.toNat, m, 0, false⟩
        | _ => none
      | none => none
    | _, _, _ => none
  pre i := i.bs.length ≤ 1000000000 ∧ i.fr < 8 * i.bs.length ∧ i.i ≤ 32 ∧ i.fr + i.i ≤ 8 * i.bs.length ∧ 0 ≤ i.m
  slots i := [(2, .int .u32 i.m), (7, .sl 6 0 0 i.bs.length i.bs.length false), (9, .int .i64 i.fr), (10, .bool i.tu), (11, .int .i64 i.i)]
  nx i := 7
  L i := [(6, byteB i.bs)]
  m i := i.left
  outs i := [(true, ⟨.exit 0, [(7, .sl 6 0 0 i.bs.length i.bs.length false), (10, .bool (i.tu || tuN i.m i.left i.i))], 7, [(6, byteB (flN i.fr i.m i.left i.i i.bs))]⟩)]
structure FsX where
  x : Sv
  a : Int
  m : Int
def fsC : Con FsX Unit where
  f := F_mummerlaw30_FileSpoilt
  fit _ _ := none
  n0 := 6
  pre y := y.x.fine ∧ y.x.wf ∧ y.x.rows ∧ 0 ≤ y.m
  args y := [.agg y.x.av, .int .i64 y.a, .int .u32 y.m]
  L0 y := y.x.L
  outs _ := [(fun _ => True, fun _ => (.ret (.bool true), 7, []))]
end Go.Proofs.Ytmbcpmbpkdeioaa.W
/- The law FileSpoilt: the walks. No condition. -/
namespace Go.Proofs.Ytmbcpmbpkdeioaa.W
open Go Go.RowKit Go.Eng
set_option linter.unusedVariables false
set_option linter.unusedSimpArgs false
def works_c_V (x : Unit) : Prop :=
  ((64 ≤ 140737488351232 ∧ 64 ≤ 64) ∧ (0 ≤ 5864062014634 ∧ 0 ≤ 0) ∧ (0 ≤ 140737488351232 ∧ 0 ≤ 0) ∧ (0 ≤ 140737488351232 ∧ 0 ≤ 0) ∧ (0 ≤ 140737488351232 ∧ 0 ≤ 0) ∧ 0 ≤ 140737488351232 ∧ 0 ≤ 0) ∧ [AV.agg [nI 1, AV.msl 0 0 0 64 64, nU 0, nU 0, nU 0, nU 0, nU 0, nU 0, nU 0, nU 0, nU 0, nU 0, nU 0, nU 0, nU 0, nU 0, nU 0, nU 0, nU 0, nU 0, AV.bool false, nI 0, AV.msl 1 0 0 0 0, AV.msl 2 0 0 0 0, AV.msl 3 0 0 0 0, AV.msl 4 0 0 0 0, AV.msl 5 0 0 0 0, nU 0, nU 0, nU 0, nU 0, nU 0, nU 0, nU 0, nU 0]] = [AV.agg [nI 1, AV.msl 0 0 0 64 64, nU 0, nU 0, nU 0, nU 0, nU 0, nU 0, nU 0, nU 0, nU 0, nU 0, nU 0, nU 0, nU 0, nU 0, nU 0, nU 0, nU 0, nU 0, AV.bool false, nI 0, AV.msl 1 0 0 0 0, AV.msl 2 0 0 0 0, AV.msl 3 0 0 0 0, AV.msl 4 0 0 0 0, AV.msl 5 0 0 0 0, nU 0, nU 0, nU 0, nU 0, nU 0, nU 0, nU 0, nU 0]] ∧ (some (bR [0, 0, 0, 0, 0, 0, 0, 0, 0, 0, 0, 0, 0, 0, 0, 0, 0, 0, 0, 0, 0, 0, 0, 0, 0, 0, 0, 0, 0,
  0, 0, 0, 0, 0, 0, 0, 0, 0, 0, 0, 0, 0, 0, 0, 0, 0, 0, 0, 0, 0, 0, 0, 0, 0, 0, 0, 0, 0, 0, 0, 0, 0, 0, 0]) = some (bR [0, 0, 0, 0, 0, 0, 0, 0, 0, 0, 0, 0, 0, 0, 0, 0, 0, 0, 0, 0, 0, 0, 0, 0, 0, 0, 0, 0, 0, 0, 0, 0, 0, 0, 0, 0, 0, 0, 0, 0, 0, 0, 0, 0, 0, 0, 0, 0, 0, 0, 0, 0, 0, 0, 0, 0, 0, 0, 0, 0, 0, 0, 0, 0]) ∧ some (ABlk.mk false 4 (AC.recs 0 fun (x : Nat) => [nI 0, nI 0, nU 0, nU 0])) = some (ABlk.mk false 4 (AC.recs 0 fun (i : Nat) => [nI 0, nI 0, nU 0, nU 0])) ∧ some (bR []) = some (bR []) ∧ some (bR []) = some (bR []) ∧ some (bR []) = some (bR []) ∧ some (ABlk.mk false 3 (AC.recs 0 fun (x : Nat) => [nI 0, nI 0, nB 0])) = some (ABlk.mk false 3 (AC.recs 0 fun (i : Nat) => [nI 0, nI 0, nB 0])) ∧ True) ∧ (∀ (y : List Int), keepN (Sv.mk 1 (Row.mk [0, 0, 0, 0, 0, 0, 0, 0, 0, 0, 0, 0, 0, 0, 0, 0, 0, 0, 0, 0, 0, 0, 0, 0, 0, 0, 0, 0, 0, 0, 0, 0, 0, 0, 0, 0, 0, 0, 0, 0, 0, 0, 0, 0, 0, 0, 0, 0,
  0, 0, 0, 0, 0, 0, 0, 0, 0, 0, 0, 0, 0, 0, 0, 0] 64) (St.mk 0 0 0 0 0 0 0 0 0 0 0 0 0 0 0 0 0 0 false) 0 (NRow.mk 0 0 (fun (i : Nat) => numAt ((fun (x : Nat) => [nI 0, nI 0, nU 0, nU 0]) i) 0) (fun (i : Nat) => numAt ((fun (x : Nat) => [nI 0, nI 0, nU 0, nU 0]) i) 1) (fun (i : Nat) => numAt ((fun (x : Nat) => [nI 0, nI 0, nU 0, nU 0]) i) 2) fun (i : Nat) => numAt ((fun (x : Nat) => [nI 0, nI 0, nU 0, nU 0]) i) 3) (Row.mk [] 0) (Row.mk [] 0) (Row.mk [] 0) (ERow.mk 0 0 (fun (i : Nat) => numAt ((fun (x : Nat) => [nI 0, nI 0, nB 0]) i) 0) (fun (i : Nat) => numAt ((fun (x : Nat) => [nI 0, nI 0, nB 0]) i) 1) fun (i : Nat) => numAt ((fun (x : Nat) => [nI 0, nI 0, nB 0]) i) 2) 0 0 0 0 0 0 0 0) = 3 → ∃ (y : Unit), True ∧ [AV.bool false] = [AV.bool true] ∧ True) ∧ (∀ (y : List Int), keepN (Sv.mk 1 (Row.mk [0, 0, 0, 0, 0, 0, 0, 0, 0, 0, 0, 0, 0, 0, 0, 0, 0, 0, 0, 0, 0, 0, 0, 0, 0, 0, 0, 0, 0, 0, 0,
  0, 0, 0, 0, 0, 0, 0, 0, 0, 0, 0, 0, 0, 0, 0, 0, 0, 0, 0, 0, 0, 0, 0, 0, 0, 0, 0, 0, 0, 0, 0, 0, 0] 64) (St.mk 0 0 0 0 0 0 0 0 0 0 0 0 0 0 0 0 0 0 false) 0 (NRow.mk 0 0 (fun (i : Nat) => numAt ((fun (x : Nat) => [nI 0, nI 0, nU 0, nU 0]) i) 0) (fun (i : Nat) => numAt ((fun (x : Nat) => [nI 0, nI 0, nU 0, nU 0]) i) 1) (fun (i : Nat) => numAt ((fun (x : Nat) => [nI 0, nI 0, nU 0, nU 0]) i) 2) fun (i : Nat) => numAt ((fun (x : Nat) => [nI 0, nI 0, nU 0, nU 0]) i) 3) (Row.mk [] 0) (Row.mk [] 0) (Row.mk [] 0) (ERow.mk 0 0 (fun (i : Nat) => numAt ((fun (x : Nat) => [nI 0, nI 0, nB 0]) i) 0) (fun (i : Nat) => numAt ((fun (x : Nat) => [nI 0, nI 0, nB 0]) i) 1) fun (i : Nat) => numAt ((fun (x : Nat) => [nI 0, nI 0, nB 0]) i) 2) 0 0 0 0 0 0 0 0) = 2 → ∃ (y : Unit), True ∧ [AV.bool false] = [AV.bool true] ∧ True) ∧ (∀ (y : List Int), keepN (Sv.mk 1 (Row.mk [0, 0, 0, 0, 0, 0, 0, 0, 0, 0, 0, 0, 0, 0,
  0, 0, 0, 0, 0, 0, 0, 0, 0, 0, 0, 0, 0, 0, 0, 0, 0, 0, 0, 0, 0, 0, 0, 0, 0, 0, 0, 0, 0, 0, 0, 0, 0, 0, 0, 0, 0, 0, 0, 0, 0, 0, 0, 0, 0, 0, 0, 0, 0, 0] 64) (St.mk 0 0 0 0 0 0 0 0 0 0 0 0 0 0 0 0 0 0 false) 0 (NRow.mk 0 0 (fun (i : Nat) => numAt ((fun (x : Nat) => [nI 0, nI 0, nU 0, nU 0]) i) 0) (fun (i : Nat) => numAt ((fun (x : Nat) => [nI 0, nI 0, nU 0, nU 0]) i) 1) (fun (i : Nat) => numAt ((fun (x : Nat) => [nI 0, nI 0, nU 0, nU 0]) i) 2) fun (i : Nat) => numAt ((fun (x : Nat) => [nI 0, nI 0, nU 0, nU 0]) i) 3) (Row.mk [] 0) (Row.mk [] 0) (Row.mk [] 0) (ERow.mk 0 0 (fun (i : Nat) => numAt ((fun (x : Nat) => [nI 0, nI 0, nB 0]) i) 0) (fun (i : Nat) => numAt ((fun (x : Nat) => [nI 0, nI 0, nB 0]) i) 1) fun (i : Nat) => numAt ((fun (x : Nat) => [nI 0, nI 0, nB 0]) i) 2) 0 0 0 0 0 0 0 0) = 0 ∧ y = sealB (encL (Sv.mk 1 (Row.mk [0, 0, 0, 0, 0, 0, 0, 0, 0, 0, 0, 0, 0, 0, 0, 0, 0, 0, 0, 0, 0, 0,
  0, 0, 0, 0, 0, 0, 0, 0, 0, 0, 0, 0, 0, 0, 0, 0, 0, 0, 0, 0, 0, 0, 0, 0, 0, 0, 0, 0, 0, 0, 0, 0, 0, 0, 0, 0, 0, 0, 0, 0, 0, 0] 64) (St.mk 0 0 0 0 0 0 0 0 0 0 0 0 0 0 0 0 0 0 false) 0 (NRow.mk 0 0 (fun (i : Nat) => numAt ((fun (x : Nat) => [nI 0, nI 0, nU 0, nU 0]) i) 0) (fun (i : Nat) => numAt ((fun (x : Nat) => [nI 0, nI 0, nU 0, nU 0]) i) 1) (fun (i : Nat) => numAt ((fun (x : Nat) => [nI 0, nI 0, nU 0, nU 0]) i) 2) fun (i : Nat) => numAt ((fun (x : Nat) => [nI 0, nI 0, nU 0, nU 0]) i) 3) (Row.mk [] 0) (Row.mk [] 0) (Row.mk [] 0) (ERow.mk 0 0 (fun (i : Nat) => numAt ((fun (x : Nat) => [nI 0, nI 0, nB 0]) i) 0) (fun (i : Nat) => numAt ((fun (x : Nat) => [nI 0, nI 0, nB 0]) i) 1) fun (i : Nat) => numAt ((fun (x : Nat) => [nI 0, nI 0, nB 0]) i) 2) 0 0 0 0 0 0 0 0)) → ∃ (y_1 : Unit), True ∧ [AV.bool (bif true then (↑y.length : Int) == 107 else false)] = [AV.bool true] ∧ True) ∧ True
theorem works_c_e (x : Unit) : some (works_c_V x) = (worksC.cond sp Go.Proofs.Try.prog (drP sp Go.Proofs.Try.prog) noLoops (looseK F_file_Encode 1 svSpec (encC.orc sp)) 40 2 x) := by kernel_rfl
theorem putN_small {n : Int} (h : n < 128) : putN n = [IntKind.wrap .u8 n] := by unfold putN; rw [if_pos h]
set_option maxRecDepth 100000 in
theorem works_ok : worksC.OK Go.Proofs.Try.prog := by
  refine Con.by hmix (noLoops_ok _) (looseK_ok (Con.orc_ok encC_ok)) works_c_V works_c_e (fun x hx => ?_)
  unfold works_c_V
  refine ⟨by decide, rfl, ⟨rfl, rfl, rfl, rfl, rfl, rfl, trivial⟩, (fun y h => by cases h), (fun y h => by cases h), (fun y h => ⟨(), trivial, ?_, trivial⟩), trivial⟩
  rw [h.2]
  have : (sealB (encL ⟨1, ⟨List.replicate 64 0, 64⟩, ⟨0, 0, 0, 0, 0, 0, 0, 0, 0, 0, 0, 0, 0, 0, 0, 0, 0, 0, false⟩, 0, ⟨0, 0, fun _ => 0, fun _ => 0, fun _ => 0, fun _ => 0⟩, ⟨[], 0⟩, ⟨[], 0⟩, ⟨[], 0⟩, ⟨0, 0, fun _ => 0, fun _ => 0, fun _ => 0⟩, 0, 0, 0, 0, 0, 0, 0, 0⟩)).length = 107 := by
    simp [sealB, encL, rowB, notesB, evsB, encs, St.nums, putN_small, IntKind.wrap_u64]
  have this : ((sealB (encL ⟨1, ⟨List.replicate 64 0, 64⟩, ⟨0, 0, 0, 0, 0, 0, 0, 0, 0, 0, 0, 0, 0, 0, 0, 0, 0, 0, false⟩, 0, ⟨0, 0, fun _ => 0, fun _ => 0, fun _ => 0, fun _ => 0⟩, ⟨[], 0⟩, ⟨[], 0⟩, ⟨[], 0⟩, ⟨0, 0, fun _ => 0, fun _ => 0, fun _ => 0⟩, 0, 0, 0, 0, 0, 0, 0, 0⟩)).length : Int) == 107 := by rw [this]; rfl
  exact congrArg (fun b => [AV.bool b]) this
def fsl_c_V (i : FsI) : Prop :=
  sp (decide ((↑i.i : Int) < 32)) (sp (bif true then decide (IntKind.i64.wrap ((↑i.fr : Int) + (↑i.i : Int)) < IntKind.i64.wrap (8 * (↑i.bs.length : Int))) else false) (sp ((i.m.fdiv (2 ^ min (↑i.i : Int).toNat 32)).tmod 2 == 1) (sp (decide (0 ≤ IntKind.i64.wrap ((IntKind.i64.wrap ((↑i.fr : Int) + (↑i.i : Int))).tdiv 8)) && decide (IntKind.i64.wrap ((IntKind.i64.wrap ((↑i.fr : Int) + (↑i.i : Int))).tdiv 8) < (↑i.bs.length : Int)) && true && ((0 + (IntKind.i64.wrap ((IntKind.i64.wrap ((↑i.fr : Int) + (↑i.i : Int))).tdiv 8)).toNat).beq (0 + (IntKind.i64.wrap ((IntKind.i64.wrap ((↑i.fr : Int) + (↑i.i : Int))).tdiv 8)).toNat) && true)) (sp (decide (bits BinOp.xor IntKind.u8 (i.bs.getD (0 + (IntKind.i64.wrap ((IntKind.i64.wrap ((↑i.fr : Int) + (↑i.i : Int))).tdiv 8)).toNat + 0) 0) (IntKind.u8.wrap (1 * 2 ^ min ((IntKind.i64.wrap ((↑i.fr : Int) + (↑i.i : Int))).tmod 8).toNat 8)) = bits BinOp.xor
  IntKind.u8 (i.bs.getD (0 + (IntKind.i64.wrap ((IntKind.i64.wrap ((↑i.fr : Int) + (↑i.i : Int))).tdiv 8)).toNat + 0) 0) (IntKind.u8.wrap (1 * 2 ^ min ((IntKind.i64.wrap ((↑i.fr : Int) + (↑i.i : Int))).tmod 8).toNat 8)))) (sp (decide (0 ≤ (IntKind.i64.wrap ((↑i.fr : Int) + (↑i.i : Int))).tmod 8) && decide (IntKind.u8.wrap (1 * 2 ^ min ((IntKind.i64.wrap ((↑i.fr : Int) + (↑i.i : Int))).tmod 8).toNat 8) = IntKind.u8.wrap (1 * 2 ^ min ((IntKind.i64.wrap ((↑i.fr : Int) + (↑i.i : Int))).tmod 8).toNat 8))) (sp (decide ((IntKind.i64.wrap ((↑i.fr : Int) + (↑i.i : Int))).tmod 8 = (IntKind.i64.wrap ((↑i.fr : Int) + (↑i.i : Int))).tmod 8)) (sp (decide (IntKind.i64.wrap ((↑i.fr : Int) + (↑i.i : Int)) = IntKind.i64.wrap ((↑i.fr : Int) + (↑i.i : Int)))) (sp (decide ((↑i.i : Int) = (↑i.i : Int))) (sp (decide ((↑i.fr : Int) = (↑i.fr : Int))) (sp (decide (0 + (IntKind.i64.wrap ((IntKind.i64.wrap ((↑i.fr :
  Int) + (↑i.i : Int))).tdiv 8)).toNat + 0 < i.bs.length) && decide (i.bs.getD (0 + (IntKind.i64.wrap ((IntKind.i64.wrap ((↑i.fr : Int) + (↑i.i : Int))).tdiv 8)).toNat + 0) 0 = i.bs.getD (0 + (IntKind.i64.wrap ((IntKind.i64.wrap ((↑i.fr : Int) + (↑i.i : Int))).tdiv 8)).toNat + 0) 0)) (sp (decide (0 ≤ IntKind.i64.wrap ((IntKind.i64.wrap ((↑i.fr : Int) + (↑i.i : Int))).tdiv 8)) && decide (IntKind.i64.wrap ((IntKind.i64.wrap ((↑i.fr : Int) + (↑i.i : Int))).tdiv 8) < (↑i.bs.length : Int)) && true && ((0 + (IntKind.i64.wrap ((IntKind.i64.wrap ((↑i.fr : Int) + (↑i.i : Int))).tdiv 8)).toNat).beq (0 + (IntKind.i64.wrap ((IntKind.i64.wrap ((↑i.fr : Int) + (↑i.i : Int))).tdiv 8)).toNat) && true)) (sp (decide (IntKind.i64.wrap ((IntKind.i64.wrap ((↑i.fr : Int) + (↑i.i : Int))).tdiv 8) = IntKind.i64.wrap ((IntKind.i64.wrap ((↑i.fr : Int) + (↑i.i : Int))).tdiv 8))) (sp (decide (IntKind.i64.wrap ((↑i.fr
  : Int) + (↑i.i : Int)) = IntKind.i64.wrap ((↑i.fr : Int) + (↑i.i : Int)))) (sp (decide ((↑i.i : Int) = (↑i.i : Int))) (sp (decide ((↑i.fr : Int) = (↑i.fr : Int))) (sp (i.bs.length.beq i.bs.length && i.bs.length.beq i.bs.length && true) (sp (decide (IntKind.i64.wrap ((IntKind.i64.wrap ((↑i.fr : Int) + (↑i.i : Int))).tdiv 8) = IntKind.i64.wrap ((IntKind.i64.wrap ((↑i.fr : Int) + (↑i.i : Int))).tdiv 8))) (sp (decide (IntKind.i64.wrap ((↑i.fr : Int) + (↑i.i : Int)) = IntKind.i64.wrap ((↑i.fr : Int) + (↑i.i : Int)))) (sp (decide ((↑i.i : Int) = (↑i.i : Int))) (sp (decide ((↑i.fr : Int) = (↑i.fr : Int))) (sp (i.bs.length.beq i.bs.length && i.bs.length.beq i.bs.length && true) (sp (decide (0 + (IntKind.i64.wrap ((IntKind.i64.wrap ((↑i.fr : Int) + (↑i.i : Int))).tdiv 8)).toNat + 0 < i.bs.length) && true) (∃ (j : FsI), (j.bs.length ≤ 1000000000 ∧ j.fr < 8 * j.bs.length ∧ j.i ≤ 32 ∧ j.fr + j.i ≤ 8
  * j.bs.length ∧ 0 ≤ j.m) ∧ j.left < i.left ∧ [(true, LOut.mk (AX.exit 0) [(7, AV.sl 6 0 0 j.bs.length j.bs.length false), (10, AV.bool (j.tu || tuN j.m j.left j.i))] 7 [(6, bW ((flN j.fr j.m j.left j.i j.bs)))])] = [(true, LOut.mk (AX.exit 0) [(7, AV.sl 6 0 0 i.bs.length i.bs.length false), (10, AV.bool (i.tu || tuN i.m i.left i.i))] 7 [(6, bW ((flN i.fr i.m i.left i.i i.bs)))])] ∧ (nU i.m = nU j.m ∧ AV.sl 6 0 0 i.bs.length i.bs.length false = AV.sl 6 0 0 j.bs.length j.bs.length false ∧ nI (↑i.fr : Int) = nI (↑j.fr : Int) ∧ AV.bool true = AV.bool j.tu ∧ nI (IntKind.i64.wrap ((↑i.i : Int) + 1)) = nI (↑j.i : Int) ∧ True) ∧ bW ((i.bs.set (0 + (IntKind.i64.wrap ((IntKind.i64.wrap ((↑i.fr : Int) + (↑i.i : Int))).tdiv 8)).toNat + 0) (bits BinOp.xor IntKind.u8 (i.bs.getD (0 + (IntKind.i64.wrap ((IntKind.i64.wrap ((↑i.fr : Int) + (↑i.i : Int))).tdiv 8)).toNat + 0) 0) (IntKind.u8.wrap (1 * 2 ^ min
  ((IntKind.i64.wrap ((↑i.fr : Int) + (↑i.i : Int))).tmod 8).toNat 8))))) = bW j.bs ∧ True) False) False) False) False) False) False) False) False) False) False) False) False) False) False) False) False) False) False) False) False) (∃ (j : FsI), (j.bs.length ≤ 1000000000 ∧ j.fr < 8 * j.bs.length ∧ j.i ≤ 32 ∧ j.fr + j.i ≤ 8 * j.bs.length ∧ 0 ≤ j.m) ∧ j.left < i.left ∧ [(true, LOut.mk (AX.exit 0) [(7, AV.sl 6 0 0 j.bs.length j.bs.length false), (10, AV.bool (j.tu || tuN j.m j.left j.i))] 7 [(6, bW ((flN j.fr j.m j.left j.i j.bs)))])] = [(true, LOut.mk (AX.exit 0) [(7, AV.sl 6 0 0 i.bs.length i.bs.length false), (10, AV.bool (i.tu || tuN i.m i.left i.i))] 7 [(6, bW ((flN i.fr i.m i.left i.i i.bs)))])] ∧ (nU i.m = nU j.m ∧ AV.sl 6 0 0 i.bs.length i.bs.length false = AV.sl 6 0 0 j.bs.length j.bs.length false ∧ nI (↑i.fr : Int) = nI (↑j.fr : Int) ∧ AV.bool i.tu = AV.bool j.tu ∧ nI
  (IntKind.i64.wrap ((↑i.i : Int) + 1)) = nI (↑j.i : Int) ∧ True) ∧ bW i.bs = bW j.bs ∧ True)) ((AV.sl 6 0 0 i.bs.length i.bs.length false = AV.sl 6 0 0 i.bs.length i.bs.length false ∧ AV.bool i.tu = AV.bool (i.tu || tuN i.m i.left i.i) ∧ True) ∧ bW i.bs = bW ((flN i.fr i.m i.left i.i i.bs)) ∧ True)) ((AV.sl 6 0 0 i.bs.length i.bs.length false = AV.sl 6 0 0 i.bs.length i.bs.length false ∧ AV.bool i.tu = AV.bool (i.tu || tuN i.m i.left i.i) ∧ True) ∧ bW i.bs = bW ((flN i.fr i.m i.left i.i i.bs)) ∧ True)
theorem fsl_c_e (i : FsI) : some (fsl_c_V i) = (some ((fsL Go.Proofs.Try.prog).body sp Go.Proofs.Try.prog noBaseK (drP sp Go.Proofs.Try.prog noBaseK) noLo 40 i)) := by kernel_rfl
set_option maxRecDepth 100000 in
set_option maxHeartbeats 4000000 in
theorem fsl_ok : (fsL Go.Proofs.Try.prog).OK Go.Proofs.Try.prog := by
  refine Lp.ok_of (noBaseK_ok _) (drP_ok hmix _ (noBaseK_ok _)) (noLo_ok _) (by decide) 40 (fun s hs => ?_)
  rw [← Option.some.inj (fsl_c_e s)]
  obtain ⟨bs, fr, m, i, tu⟩ := s
  obtain ⟨h1, h2, h3, h4, h5⟩ := hs
  simp only [] at h1 h2 h3 h4 h5
  have hw : IntKind.wrap .i64 ((fr : Int) + (i : Int)) = ((fr + i : Nat) : Int) := by rw [IntWalk.i64_in _ (by omega)]; omega
  have hw8 : IntKind.wrap .i64 (8 * (bs.length : Int)) = ((8 * bs.length : Nat) : Int) := by rw [IntWalk.i64_in _ (by omega)]; omega
  have hwi : IntKind.wrap .i64 ((i : Int) + 1) = ((i + 1 : Nat) : Int) := by rw [IntWalk.i64_in _ (by omega)]; omega
  have t8 : IntKind.wrap .i64 (((fr + i : Nat) : Int).tdiv 8) = (((fr + i) / 8 : Nat) : Int) := by
    rw [Int.tdiv_eq_ediv_of_nonneg (by omega), IntWalk.i64_in _ (by omega)]; omega
  have m8 : ((fr + i : Nat) : Int).tmod 8 = (((fr + i) % 8 : Nat) : Int) := by
    rw [Int.tmod_eq_emod_of_nonneg (by omega)]; omega
  have sh : IntKind.wrap .u8 (1 * 2 ^ min ((fr + i) % 8) 8) = 2 ^ ((fr + i) % 8) := by
    have hk : (fr + i) % 8 < 8 := Nat.mod_lt _ (by decide)
    generalize (fr + i) % 8 = k at *
    have key : ∀ k : Fin 8, IntKind.wrap .u8 (1 * 2 ^ min k.val 8) = 2 ^ k.val := by decide
    exact key ⟨k, hk⟩
  unfold fsl_c_V
  simp only [hw, hw8, hwi, t8, m8, Int.toNat_natCast, Nat.zero_add, Nat.add_zero, sh]
  refine spI (fun a => spI (fun b => spI (fun c => ?_) (fun c => ?_)) (fun b => ?_)) (fun a => ?_)
  · have a : i < 32 := by have := of_decide_eq_true a; omega
    have b : fr + i < 8 * bs.length := by have b : ((fr + i : Nat) : Int) < ((8 * bs.length : Nat) : Int) := of_decide_eq_true b
                                          omega
    have c : mb m i = true := c
    have hd : (fr + i) / 8 < bs.length := by omega
    repeat refine spT (by first | (simp; done) | (simp; omega)) ?_
    have L1 : FsI.left ⟨bs, fr, m, i, tu⟩ = FsI.left ⟨flipB bs (fr + i), fr, m, i + 1, true⟩ + 1 := by simp only [FsI.left, flipB_len]; omega
    refine ⟨⟨flipB bs (fr + i), fr, m, i + 1, true⟩, ⟨by show (flipB bs (fr + i)).length ≤ _; rw [flipB_len]; exact h1, by show fr < 8 * (flipB bs (fr + i)).length; rw [flipB_len]; exact h2, (by show i + 1 ≤ 32; omega), (by show fr + (i + 1) ≤ 8 * (flipB bs (fr + i)).length; rw [flipB_len]; omega), h5⟩, by rw [L1]; omega, ?_, ⟨rfl, by rw [flipB_len], rfl, rfl, rfl, trivial⟩, rfl, trivial⟩
    rw [L1, tuN, flN, c, flipB_len]
    simp
  · have a : i < 32 := by have := of_decide_eq_true a; omega
    have b : fr + i < 8 * bs.length := by have b : ((fr + i : Nat) : Int) < ((8 * bs.length : Nat) : Int) := of_decide_eq_true b
                                          omega
    have c : mb m i = false := c
    have L1 : FsI.left ⟨bs, fr, m, i, tu⟩ = FsI.left ⟨bs, fr, m, i + 1, tu⟩ + 1 := by simp only [FsI.left]; omega
    refine ⟨⟨bs, fr, m, i + 1, tu⟩, ⟨h1, h2, (by show i + 1 ≤ 32; omega), (by show fr + (i + 1) ≤ 8 * bs.length; omega), h5⟩, by rw [L1]; omega, ?_, ⟨rfl, rfl, rfl, rfl, rfl, trivial⟩, rfl, trivial⟩
    rw [L1, tuN, flN, c]
    simp
  · have b : ¬ fr + i < 8 * bs.length := by have b : ¬ ((fr + i : Nat) : Int) < ((8 * bs.length : Nat) : Int) := of_decide_eq_false b
                                            omega
    have L0 : FsI.left ⟨bs, fr, m, i, tu⟩ = 0 := by simp only [FsI.left]; omega
    rw [L0]
    simp [tuN, flN]
  · have a : ¬ i < 32 := by have := of_decide_eq_false a; omega
    have L0 : FsI.left ⟨bs, fr, m, i, tu⟩ = 0 := by simp only [FsI.left]; omega
    rw [L0]
    simp [tuN, flN]
def fs_c_V (y : FsX) : Prop :=
  ((y.x.mem.bs.length ≤ 140737488351232 ∧ y.x.mem.bs.length ≤ y.x.mem.c) ∧ (y.x.notes.n ≤ 5864062014634 ∧ y.x.notes.n ≤ y.x.notes.c) ∧ (y.x.out.bs.length ≤ 140737488351232 ∧ y.x.out.bs.length ≤ y.x.out.c) ∧ (y.x.disk.bs.length ≤ 140737488351232 ∧ y.x.disk.bs.length ≤ y.x.disk.c) ∧ (y.x.queue.bs.length ≤ 140737488351232 ∧ y.x.queue.bs.length ≤ y.x.queue.c) ∧ y.x.script.n ≤ 140737488351232 ∧ y.x.script.n ≤ y.x.script.c) ∧ [] ++ [AV.agg [nI y.x.fr, AV.msl 0 0 0 y.x.mem.bs.length y.x.mem.c, nU y.x.s.r0, nU y.x.s.r1, nU y.x.s.r2, nU y.x.s.r3, nU y.x.s.r4, nU y.x.s.r5, nU y.x.s.r6, nU y.x.s.r7, nU y.x.s.pc, nU y.x.s.ps, nU y.x.s.c0, nU y.x.s.c1, nU y.x.s.c2, nU y.x.s.c3, nU y.x.s.c4, nU y.x.s.c5, nU y.x.s.c6, nU y.x.s.c7, AV.bool y.x.s.h, nI y.x.steps, AV.msl 1 0 0 y.x.notes.n y.x.notes.c, AV.msl 2 0 0 y.x.out.bs.length y.x.out.c, AV.msl 3 0 0 y.x.disk.bs.length y.x.disk.c, AV.msl 4 0 0
  y.x.queue.bs.length y.x.queue.c, AV.msl 5 0 0 y.x.script.n y.x.script.c, nU y.x.b1, nU y.x.b2, nU y.x.b3, nU y.x.b4, nU y.x.b5, nU y.x.b6, nU y.x.b7, nU y.x.b8]] ++ [] = [AV.agg [nI y.x.fr, AV.msl 0 0 0 y.x.mem.bs.length y.x.mem.c, nU y.x.s.r0, nU y.x.s.r1, nU y.x.s.r2, nU y.x.s.r3, nU y.x.s.r4, nU y.x.s.r5, nU y.x.s.r6, nU y.x.s.r7, nU y.x.s.pc, nU y.x.s.ps, nU y.x.s.c0, nU y.x.s.c1, nU y.x.s.c2, nU y.x.s.c3, nU y.x.s.c4, nU y.x.s.c5, nU y.x.s.c6, nU y.x.s.c7, AV.bool y.x.s.h, nI y.x.steps, AV.msl 1 0 0 y.x.notes.n y.x.notes.c, AV.msl 2 0 0 y.x.out.bs.length y.x.out.c, AV.msl 3 0 0 y.x.disk.bs.length y.x.disk.c, AV.msl 4 0 0 y.x.queue.bs.length y.x.queue.c, AV.msl 5 0 0 y.x.script.n y.x.script.c, nU y.x.b1, nU y.x.b2, nU y.x.b3, nU y.x.b4, nU y.x.b5, nU y.x.b6, nU y.x.b7, nU y.x.b8]] ∧ (some (bR y.x.mem.bs) = some (bR y.x.mem.bs) ∧ some (ABlk.mk false 4 (AC.recs y.x.notes.n y.x.notes.f))
  = some (ABlk.mk false 4 (AC.recs y.x.notes.n fun (i : Nat) => [nI (y.x.notes.at_ i), nI (y.x.notes.cause i), nU (y.x.notes.back i), nU (y.x.notes.addr i)])) ∧ some (bR y.x.out.bs) = some (bR y.x.out.bs) ∧ some (bR y.x.disk.bs) = some (bR y.x.disk.bs) ∧ some (bR y.x.queue.bs) = some (bR y.x.queue.bs) ∧ some (ABlk.mk false 3 (AC.recs y.x.script.n y.x.script.f)) = some (ABlk.mk false 3 (AC.recs y.x.script.n fun (i : Nat) => [nI (y.x.script.at_ i), nI (y.x.script.kind i), nB (y.x.script.byte i)])) ∧ True) ∧ (∀ (y_1 : List Int), keepN (Sv.mk y.x.fr (Row.mk y.x.mem.bs y.x.mem.c) (St.mk y.x.s.r0 y.x.s.r1 y.x.s.r2 y.x.s.r3 y.x.s.r4 y.x.s.r5 y.x.s.r6 y.x.s.r7 y.x.s.pc y.x.s.ps y.x.s.c0 y.x.s.c1 y.x.s.c2 y.x.s.c3 y.x.s.c4 y.x.s.c5 y.x.s.c6 y.x.s.c7 y.x.s.h) y.x.steps (NRow.mk y.x.notes.n y.x.notes.c (fun (i : Nat) => numAt (y.x.notes.f i) 0) (fun (i : Nat) => numAt (y.x.notes.f i) 1) (fun (i : Nat)
  => numAt (y.x.notes.f i) 2) fun (i : Nat) => numAt (y.x.notes.f i) 3) (Row.mk y.x.out.bs y.x.out.c) (Row.mk y.x.disk.bs y.x.disk.c) (Row.mk y.x.queue.bs y.x.queue.c) (ERow.mk y.x.script.n y.x.script.c (fun (i : Nat) => numAt (y.x.script.f i) 0) (fun (i : Nat) => numAt (y.x.script.f i) 1) fun (i : Nat) => numAt (y.x.script.f i) 2) y.x.b1 y.x.b2 y.x.b3 y.x.b4 y.x.b5 y.x.b6 y.x.b7 y.x.b8) = 3 → True ∧ ([] : List AV) = [] ∧ True ∧ (∀ (y : Unit), True → ∃ (y : Unit), True ∧ [AV.bool true] = [AV.bool true] ∧ True) ∧ True) ∧ (∀ (y_1 : List Int), keepN (Sv.mk y.x.fr (Row.mk y.x.mem.bs y.x.mem.c) (St.mk y.x.s.r0 y.x.s.r1 y.x.s.r2 y.x.s.r3 y.x.s.r4 y.x.s.r5 y.x.s.r6 y.x.s.r7 y.x.s.pc y.x.s.ps y.x.s.c0 y.x.s.c1 y.x.s.c2 y.x.s.c3 y.x.s.c4 y.x.s.c5 y.x.s.c6 y.x.s.c7 y.x.s.h) y.x.steps (NRow.mk y.x.notes.n y.x.notes.c (fun (i : Nat) => numAt (y.x.notes.f i) 0) (fun (i : Nat) => numAt (y.x.notes.f i) 1)
  (fun (i : Nat) => numAt (y.x.notes.f i) 2) fun (i : Nat) => numAt (y.x.notes.f i) 3) (Row.mk y.x.out.bs y.x.out.c) (Row.mk y.x.disk.bs y.x.disk.c) (Row.mk y.x.queue.bs y.x.queue.c) (ERow.mk y.x.script.n y.x.script.c (fun (i : Nat) => numAt (y.x.script.f i) 0) (fun (i : Nat) => numAt (y.x.script.f i) 1) fun (i : Nat) => numAt (y.x.script.f i) 2) y.x.b1 y.x.b2 y.x.b3 y.x.b4 y.x.b5 y.x.b6 y.x.b7 y.x.b8) = 2 → True ∧ ([] : List AV) = [] ∧ True ∧ (∀ (y : Unit), True → ∃ (y : Unit), True ∧ [AV.bool true] = [AV.bool true] ∧ True) ∧ True) ∧ (∀ (y_1 : List Int), keepN (Sv.mk y.x.fr (Row.mk y.x.mem.bs y.x.mem.c) (St.mk y.x.s.r0 y.x.s.r1 y.x.s.r2 y.x.s.r3 y.x.s.r4 y.x.s.r5 y.x.s.r6 y.x.s.r7 y.x.s.pc y.x.s.ps y.x.s.c0 y.x.s.c1 y.x.s.c2 y.x.s.c3 y.x.s.c4 y.x.s.c5 y.x.s.c6 y.x.s.c7 y.x.s.h) y.x.steps (NRow.mk y.x.notes.n y.x.notes.c (fun (i : Nat) => numAt (y.x.notes.f i) 0) (fun (i : Nat) => numAt
  (y.x.notes.f i) 1) (fun (i : Nat) => numAt (y.x.notes.f i) 2) fun (i : Nat) => numAt (y.x.notes.f i) 3) (Row.mk y.x.out.bs y.x.out.c) (Row.mk y.x.disk.bs y.x.disk.c) (Row.mk y.x.queue.bs y.x.queue.c) (ERow.mk y.x.script.n y.x.script.c (fun (i : Nat) => numAt (y.x.script.f i) 0) (fun (i : Nat) => numAt (y.x.script.f i) 1) fun (i : Nat) => numAt (y.x.script.f i) 2) y.x.b1 y.x.b2 y.x.b3 y.x.b4 y.x.b5 y.x.b6 y.x.b7 y.x.b8) = 0 ∧ y_1 = sealB (encL (Sv.mk y.x.fr (Row.mk y.x.mem.bs y.x.mem.c) (St.mk y.x.s.r0 y.x.s.r1 y.x.s.r2 y.x.s.r3 y.x.s.r4 y.x.s.r5 y.x.s.r6 y.x.s.r7 y.x.s.pc y.x.s.ps y.x.s.c0 y.x.s.c1 y.x.s.c2 y.x.s.c3 y.x.s.c4 y.x.s.c5 y.x.s.c6 y.x.s.c7 y.x.s.h) y.x.steps (NRow.mk y.x.notes.n y.x.notes.c (fun (i : Nat) => numAt (y.x.notes.f i) 0) (fun (i : Nat) => numAt (y.x.notes.f i) 1) (fun (i : Nat) => numAt (y.x.notes.f i) 2) fun (i : Nat) => numAt (y.x.notes.f i) 3) (Row.mk y.x.out.bs
  y.x.out.c) (Row.mk y.x.disk.bs y.x.disk.c) (Row.mk y.x.queue.bs y.x.queue.c) (ERow.mk y.x.script.n y.x.script.c (fun (i : Nat) => numAt (y.x.script.f i) 0) (fun (i : Nat) => numAt (y.x.script.f i) 1) fun (i : Nat) => numAt (y.x.script.f i) 2) y.x.b1 y.x.b2 y.x.b3 y.x.b4 y.x.b5 y.x.b6 y.x.b7 y.x.b8)) → sp (bif false then true else (↑y_1.length : Int) == 0) (∃ (y : Unit), True ∧ [AV.bool false] = [AV.bool true] ∧ True) (sp (!IntKind.u64.wrap (IntKind.i64.wrap (8 * (↑y_1.length : Int))) == 0) (same (loopOf Proofs.Try.prog F_mummerlaw30_FileSpoilt 0) (loopOf Proofs.Try.prog F_mummerlaw30_FileSpoilt 0) ∧ (y_1.length ≤ 1000000000 ∧ (IntKind.i64.wrap ((IntKind.u64.wrap y.a).tmod (IntKind.u64.wrap (IntKind.i64.wrap (8 * (↑y_1.length : Int)))))).toNat < 8 * y_1.length ∧ 0 ≤ 32 ∧ (IntKind.i64.wrap ((IntKind.u64.wrap y.a).tmod (IntKind.u64.wrap (IntKind.i64.wrap (8 * (↑y_1.length : Int)))))).toNat +
  0 ≤ 8 * y_1.length ∧ 0 ≤ y.m) ∧ ((nU y.m = nU y.m ∧ AV.sl 7 0 0 y_1.length y_1.length false = AV.sl 7 0 0 y_1.length y_1.length false ∧ nI (IntKind.i64.wrap ((IntKind.u64.wrap y.a).tmod (IntKind.u64.wrap (IntKind.i64.wrap (8 * (↑y_1.length : Int)))))) = nI (↑(IntKind.i64.wrap ((IntKind.u64.wrap y.a).tmod (IntKind.u64.wrap (IntKind.i64.wrap (8 * (↑y_1.length : Int)))))).toNat : Int) ∧ AV.bool false = AV.bool false ∧ nI 0 = nI 0 ∧ True) ∧ bW y_1 = bW y_1 ∧ True) ∧ ((flN (IntKind.i64.wrap ((IntKind.u64.wrap y.a).tmod (IntKind.u64.wrap (IntKind.i64.wrap (8 * (↑y_1.length : Int)))))).toNat y.m (FsI.mk y_1 (IntKind.i64.wrap ((IntKind.u64.wrap y.a).tmod (IntKind.u64.wrap (IntKind.i64.wrap (8 * (↑y_1.length : Int)))))).toNat y.m 0 false).left 0 y_1).length ≤ 100000000 ∧ (flN (IntKind.i64.wrap ((IntKind.u64.wrap y.a).tmod (IntKind.u64.wrap (IntKind.i64.wrap (8 * (↑y_1.length : Int)))))).toNat y.m
  (FsI.mk y_1 (IntKind.i64.wrap ((IntKind.u64.wrap y.a).tmod (IntKind.u64.wrap (IntKind.i64.wrap (8 * (↑y_1.length : Int)))))).toNat y.m 0 false).left 0 y_1).length ≤ y_1.length) ∧ [] ++ [AV.sl 6 0 0 y_1.length y_1.length false] ++ [] = [AV.sl 6 0 0 (flN (IntKind.i64.wrap ((IntKind.u64.wrap y.a).tmod (IntKind.u64.wrap (IntKind.i64.wrap (8 * (↑y_1.length : Int)))))).toNat y.m (FsI.mk y_1 (IntKind.i64.wrap ((IntKind.u64.wrap y.a).tmod (IntKind.u64.wrap (IntKind.i64.wrap (8 * (↑y_1.length : Int)))))).toNat y.m 0 false).left 0 y_1).length y_1.length false] ∧ (some (bW ((flN (IntKind.i64.wrap ((IntKind.u64.wrap y.a).tmod (IntKind.u64.wrap (IntKind.i64.wrap (8 * (↑y_1.length : Int)))))).toNat y.m (FsI.mk y_1 (IntKind.i64.wrap ((IntKind.u64.wrap y.a).tmod (IntKind.u64.wrap (IntKind.i64.wrap (8 * (↑y_1.length : Int)))))).toNat y.m 0 false).left 0 y_1))) = some (bW ((flN (IntKind.i64.wrap
  ((IntKind.u64.wrap y.a).tmod (IntKind.u64.wrap (IntKind.i64.wrap (8 * (↑y_1.length : Int)))))).toNat y.m (FsI.mk y_1 (IntKind.i64.wrap ((IntKind.u64.wrap y.a).tmod (IntKind.u64.wrap (IntKind.i64.wrap (8 * (↑y_1.length : Int)))))).toNat y.m 0 false).left 0 y_1))) ∧ True) ∧ (∀ (y_2 : DecE), decP (flN (IntKind.i64.wrap ((IntKind.u64.wrap y.a).tmod (IntKind.u64.wrap (IntKind.i64.wrap (8 * (↑y_1.length : Int)))))).toNat y.m (FsI.mk y_1 (IntKind.i64.wrap ((IntKind.u64.wrap y.a).tmod (IntKind.u64.wrap (IntKind.i64.wrap (8 * (↑y_1.length : Int)))))).toNat y.m 0 false).left 0 y_1) = DecR.ok y_2.d → sp (false || tuN y.m (FsI.mk y_1 (IntKind.i64.wrap ((IntKind.u64.wrap y.a).tmod (IntKind.u64.wrap (IntKind.i64.wrap (8 * (↑y_1.length : Int)))))).toNat y.m 0 false).left 0) (∃ (y : Unit), True ∧ [AV.bool false] = [AV.bool true] ∧ True) (True ∧ ([] : List AV) = [] ∧ True ∧ (∀ (y : Unit), True → ∃ (y :
  Unit), True ∧ [AV.bool true] = [AV.bool true] ∧ True) ∧ True)) ∧ (∀ (y_2 : DecE), decP (flN (IntKind.i64.wrap ((IntKind.u64.wrap y.a).tmod (IntKind.u64.wrap (IntKind.i64.wrap (8 * (↑y_1.length : Int)))))).toNat y.m (FsI.mk y_1 (IntKind.i64.wrap ((IntKind.u64.wrap y.a).tmod (IntKind.u64.wrap (IntKind.i64.wrap (8 * (↑y_1.length : Int)))))).toNat y.m 0 false).left 0 y_1) = DecR.no y_2.e → sp (false || tuN y.m (FsI.mk y_1 (IntKind.i64.wrap ((IntKind.u64.wrap y.a).tmod (IntKind.u64.wrap (IntKind.i64.wrap (8 * (↑y_1.length : Int)))))).toNat y.m 0 false).left 0) (sp (y_2.e == 292) (True ∧ ([] : List AV) = [] ∧ True ∧ (∀ (y : Unit), True → ∃ (y : Unit), True ∧ [AV.bool true] = [AV.bool true] ∧ True) ∧ True) (∃ (y : Unit), True ∧ [AV.bool false] = [AV.bool true] ∧ True)) (sp (y_2.e == 0) (True ∧ ([] : List AV) = [] ∧ True ∧ (∀ (y : Unit), True → ∃ (y : Unit), True ∧ [AV.bool true] = [AV.bool true]
  ∧ True) ∧ True) (∃ (y : Unit), True ∧ [AV.bool false] = [AV.bool true] ∧ True))) ∧ True) False)) ∧ True
theorem fs_c_e (y : FsX) : some (fs_c_V y) = (fsC.cond sp Go.Proofs.Try.prog (drP sp Go.Proofs.Try.prog) (forF F_mummerlaw30_FileSpoilt ((fsL Go.Proofs.Try.prog).lo sp Go.Proofs.Try.prog (isLoop 7) (loopOf Go.Proofs.Try.prog F_mummerlaw30_FileSpoilt 0)) noLoops) (orK (encC.orc sp) (orK (decC.orc sp) (worksC.orc sp))) 40 2 y) := by kernel_rfl
set_option maxRecDepth 100000 in
set_option maxHeartbeats 4000000 in
theorem fs_ok : fsC.OK Go.Proofs.Try.prog := by
  refine Con.by hmix (forF_ok (Lp.lo_ok fsl_ok rfl) (noLoops_ok _)) (orK_ok (Con.orc_ok encC_ok) (orK_ok (Con.orc_ok decC_ok) (Con.orc_ok works_ok))) fs_c_V fs_c_e (fun y hy => ?_)
  obtain ⟨hf, hw, hr, hm⟩ := hy
  have wk : True ∧ ([] : List AV) = [] ∧ True ∧ (∀ (y : Unit), True → ∃ (y : Unit), True ∧ [AV.bool true] = [AV.bool true] ∧ True) ∧ True := ⟨trivial, rfl, trivial, (fun _ _ => ⟨(), trivial, rfl, trivial⟩), trivial⟩
  unfold fs_c_V
  refine ⟨hf, rfl, ⟨rfl, rfl, rfl, rfl, rfl, rfl, trivial⟩, (fun l h3 => wk), (fun l h2 => wk), (fun l h0 => ?_), trivial⟩
  have h0 : keepN y.x = 0 ∧ l = sealB (encL y.x) := h0
  obtain ⟨h0, hl⟩ := h0
  have hk := keepN_kept h0
  have hlen := encL_len hk
  have hll : l.length = (encL y.x).length + 4 := by rw [hl]; simp [sealB]
  have hb : IsBytes l := by rw [hl]; exact sealB_bytes (encL_bytes hr)
  have e8 : IntKind.wrap .i64 (8 * (l.length : Int)) = ((8 * l.length : Nat) : Int) := by rw [IntWalk.i64_in _ (by omega)]; omega
  have e8' : IntKind.wrap .u64 ((8 * l.length : Nat) : Int) = ((8 * l.length : Nat) : Int) := by rw [IntKind.wrap_u64]; omega
  have efr : ∃ fr : Nat, fr < 8 * l.length ∧ IntKind.wrap .i64 ((IntKind.wrap .u64 y.a).tmod ((8 * l.length : Nat) : Int)) = (fr : Int) := by
    have hu : 0 ≤ IntKind.wrap .u64 y.a := by rw [IntKind.wrap_u64]; omega
    generalize IntKind.wrap .u64 y.a = u at *
    rw [Int.tmod_eq_emod_of_nonneg hu]
    have hp : (0 : Int) < ((8 * l.length : Nat) : Int) := by omega
    have q1 := Int.emod_nonneg u (Int.ne_of_gt hp)
    have q2 := Int.emod_lt_of_pos u hp
    generalize u % ((8 * l.length : Nat) : Int) = v at *
    refine ⟨v.toNat, by omega, ?_⟩
    rw [IntWalk.i64_in _ (by omega)]
    omega
  obtain ⟨fr, hfr, efr⟩ := efr
  rw [e8, e8', efr, Int.toNat_natCast]
  refine spF ?_ (spT ?_ ⟨rfl, ⟨by omega, hfr, by omega, by omega, hm⟩, ⟨⟨rfl, rfl, rfl, rfl, rfl, trivial⟩, rfl, trivial⟩, ⟨by rw [flN_len]; omega, by rw [flN_len]; omega⟩, by rw [flN_len]; rfl, ⟨rfl, trivial⟩, (fun d hd => ?_), (fun d hd => ?_), trivial⟩)
  · show ((l.length : Int) == 0) = false
    simp; intro h; rw [h] at hll; simp at hll
  · have : ((8 * l.length : Nat) : Int) ≠ 0 := by omega
    simp [this]
    intro h; rw [h] at hll; simp at hll
  all_goals
    have hn : FsI.left ⟨l, fr, y.m, 0, false⟩ ≤ 32 := by simp only [FsI.left]; omega
    have hfn : fr + FsI.left ⟨l, fr, y.m, 0, false⟩ ≤ 8 * l.length := by simp only [FsI.left]; omega
    generalize FsI.left ⟨l, fr, y.m, 0, false⟩ = n at *
    have ho : openN l = .ok (encL y.x) := by rw [hl]; exact openN_seal _
    have bad : tuN y.m n 0 = true → decP (flN fr y.m n 0 l) = .no 292 := fun ht => by
      unfold decP
      rw [spoilt hb (by omega) (by rw [ho]; simp) hn hfn ht]
    have good : tuN y.m n 0 = false → decP (flN fr y.m n 0 l) = .ok (dvOf y.x) := fun ht => by
      rw [flN_same fr y.m n 0 l ht, hl]
      exact decP_enc hw h0 (by omega)
  · refine spI (fun ht => ?_) (fun ht => wk)
    have ht : tuN y.m n 0 = true := by simpa using ht
    have hd : decP (flN fr y.m n 0 l) = .ok d.d := hd
    rw [bad ht] at hd
    cases hd
  · have hd : decP (flN fr y.m n 0 l) = .no d.e := hd
    refine spI (fun ht => ?_) (fun ht => ?_)
    · have ht : tuN y.m n 0 = true := by simpa using ht
      rw [bad ht] at hd
      have : d.e = 292 := (DecR.no.inj hd).symm
      exact spT (by rw [this]; rfl) wk
    · have ht : tuN y.m n 0 = false := by simpa using ht
      rw [good ht] at hd
      cases hd
end Go.Proofs.Ytmbcpmbpkdeioaa.W
/- The law FileSpoilt, where nothing came in: what is reckoned. No condition. -/
namespace Go.Proofs.Ytmbcpmbpkdeioaa.W
open Go Go.RowKit Go.Eng
set_option linter.unusedVariables false
set_option linter.unusedSimpArgs false
structure E0 where
  fr : Int
  s : St
  steps : Int
  b1 : Int
  b2 : Int
  b3 : Int
  b4 : Int
  b5 : Int
  b6 : Int
  b7 : Int
  b8 : Int
def E0.sv (x : E0) : Sv := ⟨x.fr, ⟨[], 0⟩, x.s, x.steps, ⟨0, 0, fun _ => 0, fun _ => 0, fun _ => 0, fun _ => 0⟩, ⟨[], 0⟩, ⟨[], 0⟩, ⟨[], 0⟩, ⟨0, 0, fun _ => 0, fun _ => 0, fun _ => 0⟩, x.b1, x.b2, x.b3, x.b4, x.b5, x.b6, x.b7, x.b8⟩
structure Fs0 where
  x : E0
  a : Int
  m : Int
def fs0C : Con Fs0 Unit where
  f := F_mummerlaw30_FileSpoilt
  fit _ _ := none
  n0 := 6
  pre _ := True
  args y := [.agg y.x.sv.av, .int .i64 y.a, .int .u32 y.m]
  L0 y := []
  outs _ := [(fun _ => True, fun _ => (.ret (.bool true), 6, []))]
end Go.Proofs.Ytmbcpmbpkdeioaa.W
/- The law FileSpoilt, where nothing came in: the walk. No condition. -/
namespace Go.Proofs.Ytmbcpmbpkdeioaa.W
open Go Go.RowKit Go.Eng
set_option linter.unusedVariables false
set_option linter.unusedSimpArgs false
def fs0_c_V (y : Fs0) : Prop :=
  sp (decide (y.x.fr ≥ 1)) (sp (bif true then decide (y.x.fr ≤ 64) else false) (sp (bif true then 0 == IntKind.i64.wrap (y.x.fr * 64) else false) (sp (bif true then bits BinOp.andNot IntKind.u32 y.x.s.ps 247 == 0 else false) (sp (bif true then decide (y.x.steps ≥ 0) else false) (sp (!bif true then decide (y.x.steps ≤ 1099511627776) else false) (True ∧ ([] : List AV) = [] ∧ True ∧ (∀ (y : Unit), True → ∃ (y : Unit), True ∧ [AV.bool true] = [AV.bool true] ∧ True) ∧ True) False) (True ∧ ([] : List AV) = [] ∧ True ∧ (∀ (y : Unit), True → ∃ (y : Unit), True ∧ [AV.bool true] = [AV.bool true] ∧ True) ∧ True)) (True ∧ ([] : List AV) = [] ∧ True ∧ (∀ (y : Unit), True → ∃ (y : Unit), True ∧ [AV.bool true] = [AV.bool true] ∧ True) ∧ True)) (True ∧ ([] : List AV) = [] ∧ True ∧ (∀ (y : Unit), True → ∃ (y : Unit), True ∧ [AV.bool true] = [AV.bool true] ∧ True) ∧ True)) (True ∧ ([] : List AV) = [] ∧ True
  ∧ (∀ (y : Unit), True → ∃ (y : Unit), True ∧ [AV.bool true] = [AV.bool true] ∧ True) ∧ True)) (True ∧ ([] : List AV) = [] ∧ True ∧ (∀ (y : Unit), True → ∃ (y : Unit), True ∧ [AV.bool true] = [AV.bool true] ∧ True) ∧ True)
theorem fs0_c_e (y : Fs0) : some (fs0_c_V y) = (fs0C.cond sp Go.Proofs.Try.prog (drP sp Go.Proofs.Try.prog) noLoops (orK (worksC.orc sp) (noK [F_ram_New, F_machine_Resume])) 40 6 y) := by kernel_rfl
set_option maxRecDepth 100000 in
theorem fs0_ok : fs0C.OK Go.Proofs.Try.prog := by
  refine Con.by hmix (noLoops_ok _) (orK_ok (Con.orc_ok works_ok) (noK_ok _ _)) fs0_c_V fs0_c_e (fun y hy => ?_)
  have wk : True ∧ ([] : List AV) = [] ∧ True ∧ (∀ (y : Unit), True → ∃ (y : Unit), True ∧ [AV.bool true] = [AV.bool true] ∧ True) ∧ True := ⟨trivial, rfl, trivial, (fun _ _ => ⟨(), trivial, rfl, trivial⟩), trivial⟩
  unfold fs0_c_V
  refine spI (fun h1 => spI (fun h2 => spF ?_ wk) (fun _ => wk)) (fun _ => wk)
  have h1 : y.x.fr ≥ 1 := of_decide_eq_true h1
  have h2 : y.x.fr ≤ 64 := of_decide_eq_true h2
  show (0 == IntKind.wrap .i64 (y.x.fr * 64)) = false
  rw [IntWalk.i64_in _ (by omega)]
  simp
  omega
end Go.Proofs.Ytmbcpmbpkdeioaa.W
/- Numbers of functions and types, as this seat's program has them. No condition. -/
namespace Go.Proofs.Ytmbcpmbpkdeioaa.W
open Go
set_option linter.unusedVariables false
set_option linter.unusedSimpArgs false
abbrev T_sl_b_int64 : Nat := 2
abbrev T_sl_b_int : Nat := 3
abbrev T_sl_b_bool : Nat := 4
abbrev T_sl_b_uint8 : Nat := 5
abbrev T_sl_b_string : Nat := 9
abbrev T_sl_uint8 : Nat := 22
abbrev T_sl_b_uint32 : Nat := 23
abbrev T_sl_api_Note : Nat := 27
abbrev T_sl_api_Event : Nat := 28
abbrev T_sl_b_uint64 : Nat := 35
abbrev T_sl_int : Nat := 65
abbrev T_sl_uint32 : Nat := 68
abbrev T_sl_uint8_x : Nat := 82
abbrev T_sl_dev_block : Nat := 101
end Go.Proofs.Ytmbcpmbpkdeioaa.W
/- A guest that came in by value: what is known of it. No condition. -/
namespace Go.Proofs.Ytmbcpmbpkdeioaa.W
open Go Go.RowKit Go.Eng
set_option linter.unusedVariables false
set_option linter.unusedSimpArgs false
def svLeaves : List LT := [.i .i64, .sl T_sl_uint8, .i .u32, .i .u32, .i .u32, .i .u32, .i .u32, .i .u32, .i .u32, .i .u32, .i .u32, .i .u32, .i .u32, .i .u32, .i .u32, .i .u32, .i .u32, .i .u32, .i .u32, .i .u32, .b, .i .i64, .sl T_sl_api_Note, .sl T_sl_uint8, .sl T_sl_uint8, .sl T_sl_uint8, .sl T_sl_api_Event, .i .u32, .i .u32, .i .u32, .i .u32, .i .u32, .i .u32, .i .u32, .i .u32]
theorem svLeaves_eq : leaves Go.Proofs.Try.prog 8 T_api_Saved = some svLeaves := by kernel_rfl
theorem u32_range {n : Int} (h : IntKind.u32.min ≤ n ∧ n ≤ IntKind.u32.max) : 0 ≤ n ∧ n ≤ 4294967295 := h
theorem u8_range {n : Int} (h : IntKind.u8.min ≤ n ∧ n ≤ IntKind.u8.max) : 0 ≤ n ∧ n < 256 := by
  have h1 : IntKind.u8.min = 0 := rfl
  have h2 : IntKind.u8.max = 255 := rfl
  omega
section
variable {H : Type} {enc : TypeId × Value → H} {W : World}
/-- A row of bytes that came in. -/
theorem bytes_in {t e : TypeId} {c : Value} (hu : (Go.Proofs.Try.prog).underlying t = some (.slice e)) (he : (Go.Proofs.Try.prog).underlying e = some (.int .u8)) (hc : (Go.Proofs.Try.prog).cellsOf e = 1) (hb : (Go.Proofs.Try.prog).bytesOf e = 1) (h : LTyped enc Go.Proofs.Try.prog W 0 (fun _ => true) true (.sl t) c) : ∃ r : Row, SlIn W 1 c r.bs.length r.c (.ints .u8 r.bs) ∧ r.bs.length ≤ r.c ∧ r.c ≤ 140737488351232 ∧ IsBytes r.bs := by
  obtain ⟨l, cap, h1, h2, h3, h4⟩ := slIn_ints h hu he hc
  rw [hb] at h3
  exact ⟨⟨l, cap⟩, h1, h2, by simpa [reachBytes] using h3, fun x hx => u8_range (h4 x hx)⟩
theorem notes_in {c : Value} (h : LTyped enc Go.Proofs.Try.prog W 0 (fun _ => true) true (.sl T_sl_api_Note) c) : ∃ r : NRow, SlIn W 4 c r.n r.c (.recs r.n r.f) ∧ r.n ≤ r.c ∧ r.c ≤ 5864062014634 ∧ ∀ i, i < r.n → (0 ≤ r.back i ∧ r.back i ≤ 4294967295) ∧ 0 ≤ r.addr i ∧ r.addr i ≤ 4294967295 := by
  obtain ⟨n, cap, f, ty, si, hn, hb⟩ := slIn_recs (t := T_sl_api_Note) (e := T_api_Note) (d := 4) (es := 4) (ks := [.i .i64, .i .i64, .i .u32, .i .u32]) h (by kernel_rfl) (by kernel_rfl) rfl (by kernel_rfl) rfl (by omega)
  have e24 : (Go.Proofs.Try.prog).bytesOf T_api_Note = 24 := by kernel_rfl
  rw [e24] at hb
  have hb : cap * 24 ≤ 140737488351232 := hb
  have val : ∀ i, i < n → ∃ a b c d, f i = [.int .i64 a, .int .i64 b, .int .u32 c, .int .u32 d] ∧ (0 ≤ c ∧ c ≤ 4294967295) ∧ 0 ≤ d ∧ d ≤ 4294967295 := by
    intro i hi
    obtain ⟨x1, r1, q1, ⟨a, rfl, _⟩, t1⟩ := (ty i hi).cons
    obtain ⟨x2, r2, q2, ⟨b, rfl, _⟩, t2⟩ := t1.cons
    obtain ⟨x3, r3, q3, ⟨c, rfl, g3⟩, t3⟩ := t2.cons
    obtain ⟨x4, r4, q4, ⟨d, rfl, g4⟩, t4⟩ := t3.cons
    have q5 := t4.nil
    subst q5 q4 q3 q2
    exact ⟨a, b, c, d, q1, u32_range g3, u32_range g4⟩
  refine ⟨⟨n, cap, fun i => intOfV ((f i).getD 0 undef), fun i => intOfV ((f i).getD 1 undef), fun i => intOfV ((f i).getD 2 undef), fun i => intOfV ((f i).getD 3 undef)⟩, ?_, hn, (by show cap ≤ 5864062014634; omega), fun i hi => ?_⟩
  · refine si.congr (fun h => h) (fun _ es e => by cases e) (fun i j hij => ⟨hij, ?_⟩)
    have hi : i < n := by simp [AC.inb] at hij; exact hij.1
    obtain ⟨a, b, c, d, q, _⟩ := val i hi
    simp only [AC.val, NRow.f, q]
    rfl
  · obtain ⟨a, b, c, d, q, g1, g2⟩ := val i hi
    simp only [q]
    exact ⟨g1, g2⟩
theorem evs_in {c : Value} (h : LTyped enc Go.Proofs.Try.prog W 0 (fun _ => true) true (.sl T_sl_api_Event) c) : ∃ r : ERow, SlIn W 3 c r.n r.c (.recs r.n r.f) ∧ r.n ≤ r.c ∧ r.c ≤ 140737488351232 ∧ ∀ i, i < r.n → 0 ≤ r.byte i ∧ r.byte i ≤ 255 := by
  obtain ⟨n, cap, f, ty, si, hn, hb⟩ := slIn_recs (t := T_sl_api_Event) (e := T_api_Event) (d := 4) (es := 3) (ks := [.i .i64, .i .i64, .i .u8]) h (by kernel_rfl) (by kernel_rfl) rfl (by kernel_rfl) rfl (by omega)
  have e24 : (Go.Proofs.Try.prog).bytesOf T_api_Event = 24 := by kernel_rfl
  rw [e24] at hb
  have hb : cap * 24 ≤ 140737488351232 := hb
  have val : ∀ i, i < n → ∃ a b c, f i = [.int .i64 a, .int .i64 b, .int .u8 c] ∧ (0 ≤ c ∧ c < 256) := by
    intro i hi
    obtain ⟨x1, r1, q1, ⟨a, rfl, _⟩, t1⟩ := (ty i hi).cons
    obtain ⟨x2, r2, q2, ⟨b, rfl, _⟩, t2⟩ := t1.cons
    obtain ⟨x3, r3, q3, ⟨c, rfl, g3⟩, t3⟩ := t2.cons
    have q5 := t3.nil
    subst q5 q3 q2
    exact ⟨a, b, c, q1, u8_range g3⟩
  refine ⟨⟨n, cap, fun i => intOfV ((f i).getD 0 undef), fun i => intOfV ((f i).getD 1 undef), fun i => intOfV ((f i).getD 2 undef)⟩, ?_, hn, (by show cap ≤ 140737488351232; omega), fun i hi => ?_⟩
  · refine si.congr (fun h => h) (fun _ es e => by cases e) (fun i j hij => ⟨hij, ?_⟩)
    have hi : i < n := by simp [AC.inb] at hij; exact hij.1
    obtain ⟨a, b, c, q, _⟩ := val i hi
    simp only [AC.val, ERow.f, q]
    rfl
  · obtain ⟨a, b, c, q, g1⟩ := val i hi
    simp only [q]
    exact ⟨g1.1, by have := g1.2; simp [intOfV]; omega⟩
/-- A guest that came in: it is one of the engine's, its rows lie in blocks, or none of them has a cell. -/
theorem sv_in {cs : Array Value} (hT : LTypeds enc Go.Proofs.Try.prog W 0 (fun _ => true) true svLeaves cs.toList) :
    (∃ x : Sv, x.fine ∧ x.wf ∧ x.rows ∧ ∃ ls : List Eng.Loc, ls.length = 6 ∧ Sat (fun b => ls[b]?) (AH.of 6 x.L) W ∧ VRel (fun b => ls[b]?) (.agg x.av) (.agg cs)) ∨
    (∃ x : E0, ∀ μ : Mu, (∀ b, b < 6 → ∃ l, μ b = some l) → VRel μ (.agg x.sv.av) (.agg cs)) := by
  unfold svLeaves at hT
  obtain ⟨x_fr, rr0, q0, ⟨v_fr, rfl, g_fr⟩, t0⟩ := hT.cons
  obtain ⟨x_mem, rr1, q1, s_mem, t1⟩ := t0.cons
  obtain ⟨x_r0, rr2, q2, ⟨v_r0, rfl, g_r0⟩, t2⟩ := t1.cons
  obtain ⟨x_r1, rr3, q3, ⟨v_r1, rfl, g_r1⟩, t3⟩ := t2.cons
  obtain ⟨x_r2, rr4, q4, ⟨v_r2, rfl, g_r2⟩, t4⟩ := t3.cons
  obtain ⟨x_r3, rr5, q5, ⟨v_r3, rfl, g_r3⟩, t5⟩ := t4.cons
  obtain ⟨x_r4, rr6, q6, ⟨v_r4, rfl, g_r4⟩, t6⟩ := t5.cons
  obtain ⟨x_r5, rr7, q7, ⟨v_r5, rfl, g_r5⟩, t7⟩ := t6.cons
  obtain ⟨x_r6, rr8, q8, ⟨v_r6, rfl, g_r6⟩, t8⟩ := t7.cons
  obtain ⟨x_r7, rr9, q9, ⟨v_r7, rfl, g_r7⟩, t9⟩ := t8.cons
  obtain ⟨x_pc, rr10, q10, ⟨v_pc, rfl, g_pc⟩, t10⟩ := t9.cons
  obtain ⟨x_ps, rr11, q11, ⟨v_ps, rfl, g_ps⟩, t11⟩ := t10.cons
  obtain ⟨x_c0, rr12, q12, ⟨v_c0, rfl, g_c0⟩, t12⟩ := t11.cons
  obtain ⟨x_c1, rr13, q13, ⟨v_c1, rfl, g_c1⟩, t13⟩ := t12.cons
  obtain ⟨x_c2, rr14, q14, ⟨v_c2, rfl, g_c2⟩, t14⟩ := t13.cons
  obtain ⟨x_c3, rr15, q15, ⟨v_c3, rfl, g_c3⟩, t15⟩ := t14.cons
  obtain ⟨x_c4, rr16, q16, ⟨v_c4, rfl, g_c4⟩, t16⟩ := t15.cons
  obtain ⟨x_c5, rr17, q17, ⟨v_c5, rfl, g_c5⟩, t17⟩ := t16.cons
  obtain ⟨x_c6, rr18, q18, ⟨v_c6, rfl, g_c6⟩, t18⟩ := t17.cons
  obtain ⟨x_c7, rr19, q19, ⟨v_c7, rfl, g_c7⟩, t19⟩ := t18.cons
  obtain ⟨x_h, rr20, q20, ⟨v_h, rfl⟩, t20⟩ := t19.cons
  obtain ⟨x_steps, rr21, q21, ⟨v_steps, rfl, g_steps⟩, t21⟩ := t20.cons
  obtain ⟨x_notes, rr22, q22, s_notes, t22⟩ := t21.cons
  obtain ⟨x_out, rr23, q23, s_out, t23⟩ := t22.cons
  obtain ⟨x_disk, rr24, q24, s_disk, t24⟩ := t23.cons
  obtain ⟨x_queue, rr25, q25, s_queue, t25⟩ := t24.cons
  obtain ⟨x_script, rr26, q26, s_script, t26⟩ := t25.cons
  obtain ⟨x_b1, rr27, q27, ⟨v_b1, rfl, g_b1⟩, t27⟩ := t26.cons
  obtain ⟨x_b2, rr28, q28, ⟨v_b2, rfl, g_b2⟩, t28⟩ := t27.cons
  obtain ⟨x_b3, rr29, q29, ⟨v_b3, rfl, g_b3⟩, t29⟩ := t28.cons
  obtain ⟨x_b4, rr30, q30, ⟨v_b4, rfl, g_b4⟩, t30⟩ := t29.cons
  obtain ⟨x_b5, rr31, q31, ⟨v_b5, rfl, g_b5⟩, t31⟩ := t30.cons
  obtain ⟨x_b6, rr32, q32, ⟨v_b6, rfl, g_b6⟩, t32⟩ := t31.cons
  obtain ⟨x_b7, rr33, q33, ⟨v_b7, rfl, g_b7⟩, t33⟩ := t32.cons
  obtain ⟨x_b8, rr34, q34, ⟨v_b8, rfl, g_b8⟩, t34⟩ := t33.cons
  have qe := t34.nil
  subst qe
  subst q34
  subst q33
  subst q32
  subst q31
  subst q30
  subst q29
  subst q28
  subst q27
  subst q26
  subst q25
  subst q24
  subst q23
  subst q22
  subst q21
  subst q20
  subst q19
  subst q18
  subst q17
  subst q16
  subst q15
  subst q14
  subst q13
  subst q12
  subst q11
  subst q10
  subst q9
  subst q8
  subst q7
  subst q6
  subst q5
  subst q4
  subst q3
  subst q2
  subst q1
  obtain ⟨r_mem, a_mem, l_mem, m_mem, y_mem⟩ := bytes_in (t := T_sl_uint8) (e := T_sl_b_uint8) (by kernel_rfl) (by kernel_rfl) (by kernel_rfl) (by kernel_rfl) s_mem
  obtain ⟨r_out, a_out, l_out, m_out, y_out⟩ := bytes_in (t := T_sl_uint8) (e := T_sl_b_uint8) (by kernel_rfl) (by kernel_rfl) (by kernel_rfl) (by kernel_rfl) s_out
  obtain ⟨r_disk, a_disk, l_disk, m_disk, y_disk⟩ := bytes_in (t := T_sl_uint8) (e := T_sl_b_uint8) (by kernel_rfl) (by kernel_rfl) (by kernel_rfl) (by kernel_rfl) s_disk
  obtain ⟨r_queue, a_queue, l_queue, m_queue, y_queue⟩ := bytes_in (t := T_sl_uint8) (e := T_sl_b_uint8) (by kernel_rfl) (by kernel_rfl) (by kernel_rfl) (by kernel_rfl) s_queue
  obtain ⟨r_notes, a_notes, l_notes, m_notes, y_notes⟩ := notes_in s_notes
  obtain ⟨r_script, a_script, l_script, m_script, y_script⟩ := evs_in s_script
  have w1 : ∀ n ∈ St.nums ⟨v_r0, v_r1, v_r2, v_r3, v_r4, v_r5, v_r6, v_r7, v_pc, v_ps, v_c0, v_c1, v_c2, v_c3, v_c4, v_c5, v_c6, v_c7, v_h⟩, 0 ≤ n ∧ n ≤ 4294967295 := by
    intro n hn
    simp only [St.nums, List.mem_cons, List.not_mem_nil, or_false] at hn
    rcases hn with rfl | rfl | rfl | rfl | rfl | rfl | rfl | rfl | rfl | rfl | rfl | rfl | rfl | rfl | rfl | rfl | rfl | rfl | rfl
    all_goals first
      | exact u32_range (by assumption)
      | (split <;> omega)
  have w2 : ∀ n ∈ [v_b1, v_b2, v_b3, v_b4, v_b5, v_b6, v_b7, v_b8], 0 ≤ n ∧ n ≤ 4294967295 := by
    intro n hn
    simp only [List.mem_cons, List.not_mem_nil, or_false] at hn
    rcases hn with rfl | rfl | rfl | rfl | rfl | rfl | rfl | rfl <;> exact u32_range (by assumption)
  have ea : cs = (#[.int .i64 v_fr, x_mem, .int .u32 v_r0, .int .u32 v_r1, .int .u32 v_r2, .int .u32 v_r3, .int .u32 v_r4, .int .u32 v_r5, .int .u32 v_r6, .int .u32 v_r7, .int .u32 v_pc, .int .u32 v_ps, .int .u32 v_c0, .int .u32 v_c1, .int .u32 v_c2, .int .u32 v_c3, .int .u32 v_c4, .int .u32 v_c5, .int .u32 v_c6, .int .u32 v_c7, .bool v_h, .int .i64 v_steps, x_notes, x_out, x_disk, x_queue, x_script, .int .u32 v_b1, .int .u32 v_b2, .int .u32 v_b3, .int .u32 v_b4, .int .u32 v_b5, .int .u32 v_b6, .int .u32 v_b7, .int .u32 v_b8] : Array Value) := Array.toList_inj.1 q0
  by_cases hz : r_mem.c = 0 ∧ r_notes.c = 0 ∧ r_out.c = 0 ∧ r_disk.c = 0 ∧ r_queue.c = 0 ∧ r_script.c = 0
  · obtain ⟨z_mem, z_notes, z_out, z_disk, z_queue, z_script⟩ := hz
    right
    refine ⟨⟨v_fr, ⟨v_r0, v_r1, v_r2, v_r3, v_r4, v_r5, v_r6, v_r7, v_pc, v_ps, v_c0, v_c1, v_c2, v_c3, v_c4, v_c5, v_c6, v_c7, v_h⟩, v_steps, v_b1, v_b2, v_b3, v_b4, v_b5, v_b6, v_b7, v_b8⟩, fun μ hμ => ?_⟩
    obtain ⟨p0, hp0⟩ := hμ 0 (by omega)
    obtain ⟨p1, hp1⟩ := hμ 1 (by omega)
    obtain ⟨p2, hp2⟩ := hμ 2 (by omega)
    obtain ⟨p3, hp3⟩ := hμ 3 (by omega)
    obtain ⟨p4, hp4⟩ := hμ 4 (by omega)
    obtain ⟨p5, hp5⟩ := hμ 5 (by omega)
    subst ea
    exact ⟨_, rfl, rfl, (a_mem.empty z_mem).2 μ 0 p0 hp0, rfl, rfl, rfl, rfl, rfl, rfl, rfl, rfl, rfl, rfl, rfl, rfl, rfl, rfl, rfl, rfl, rfl, rfl, rfl, rfl, (a_notes.empty z_notes).2 μ 1 p1 hp1, (a_out.empty z_out).2 μ 2 p2 hp2, (a_disk.empty z_disk).2 μ 3 p3 hp3, (a_queue.empty z_queue).2 μ 4 p4 hp4, (a_script.empty z_script).2 μ 5 p5 hp5, rfl, rfl, rfl, rfl, rfl, rfl, rfl, rfl, trivial⟩
  · left
    have blk : ∃ (B : Nat) (C : Array Value) (t : TypeId) (fz : Nat × Nat), W.heap[B]? = some (.cells C t fz) := by
      by_cases z_mem : r_mem.c = 0
      rotate_left
      · exact a_mem.block z_mem
      by_cases z_notes : r_notes.c = 0
      rotate_left
      · exact a_notes.block z_notes
      by_cases z_out : r_out.c = 0
      rotate_left
      · exact a_out.block z_out
      by_cases z_disk : r_disk.c = 0
      rotate_left
      · exact a_disk.block z_disk
      by_cases z_queue : r_queue.c = 0
      rotate_left
      · exact a_queue.block z_queue
      by_cases z_script : r_script.c = 0
      rotate_left
      · exact a_script.block z_script
      exact absurd ⟨z_mem, z_notes, z_out, z_disk, z_queue, z_script⟩ hz
    obtain ⟨B, C, t, fz, hB⟩ := blk
    obtain ⟨p_mem, i_mem, j_mem⟩ := a_mem.loc hB
    obtain ⟨p_notes, i_notes, j_notes⟩ := a_notes.loc hB
    obtain ⟨p_out, i_out, j_out⟩ := a_out.loc hB
    obtain ⟨p_disk, i_disk, j_disk⟩ := a_disk.loc hB
    obtain ⟨p_queue, i_queue, j_queue⟩ := a_queue.loc hB
    obtain ⟨p_script, i_script, j_script⟩ := a_script.loc hB
    refine ⟨⟨v_fr, r_mem, ⟨v_r0, v_r1, v_r2, v_r3, v_r4, v_r5, v_r6, v_r7, v_pc, v_ps, v_c0, v_c1, v_c2, v_c3, v_c4, v_c5, v_c6, v_c7, v_h⟩, v_steps, r_notes, r_out, r_disk, r_queue, r_script, v_b1, v_b2, v_b3, v_b4, v_b5, v_b6, v_b7, v_b8⟩, ⟨⟨Nat.le_trans l_mem m_mem, l_mem⟩, ⟨Nat.le_trans l_notes m_notes, l_notes⟩, ⟨Nat.le_trans l_out m_out, l_out⟩, ⟨Nat.le_trans l_disk m_disk, l_disk⟩, ⟨Nat.le_trans l_queue m_queue, l_queue⟩, ⟨Nat.le_trans l_script m_script, l_script⟩⟩, ⟨w1, y_notes, y_script, w2⟩, ⟨y_mem, y_out, y_disk, y_queue⟩, [p_mem, p_notes, p_out, p_disk, p_queue, p_script], rfl, sat_ro rfl (fun p hp => ?_), ?_⟩
    · simp only [Sv.L, List.mem_cons, List.not_mem_nil, or_false] at hp
      rcases hp with rfl | rfl | rfl | rfl | rfl | rfl
      · exact ⟨rfl, p_mem, rfl, i_mem⟩
      · exact ⟨rfl, p_notes, rfl, i_notes⟩
      · exact ⟨rfl, p_out, rfl, i_out⟩
      · exact ⟨rfl, p_disk, rfl, i_disk⟩
      · exact ⟨rfl, p_queue, rfl, i_queue⟩
      · exact ⟨rfl, p_script, rfl, i_script⟩
    · subst ea
      exact ⟨_, rfl, rfl, j_mem _ 0 rfl, rfl, rfl, rfl, rfl, rfl, rfl, rfl, rfl, rfl, rfl, rfl, rfl, rfl, rfl, rfl, rfl, rfl, rfl, rfl, rfl, j_notes _ 1 rfl, j_out _ 2 rfl, j_disk _ 3 rfl, j_queue _ 4 rfl, j_script _ 5 rfl, rfl, rfl, rfl, rfl, rfl, rfl, rfl, rfl, trivial⟩
end
end Go.Proofs.Ytmbcpmbpkdeioaa.W
