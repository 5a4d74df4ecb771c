/- The document's Decode: the walk. No condition. -/
import Derived.Test.YtmbcpmbpkdeioaaGreatDoorF42
import Derived.Test.YtmbcpmbpkdeioaaGreatDoorF39
import Derived.KernelRfl
import Derived.Test.YtmbcpmbpkdeioaaGreatDoorF38
namespace Go.Proofs.YtmbcpmbpkdeioaaGreatDoor.W
open Go Go.RowKit Go.Eng
set_option maxRecDepth 100000
set_option linter.unusedVariables false
set_option linter.unusedSimpArgs false
abbrev rdec_c_p3 (x : Row) : Prop :=
  ByteArray.mk (Array.mk (List.map (fun (n : Int) => UInt8.ofNat n.toNat) (List.take x.bs.length (List.drop 0 x.bs)))) = ByteArray.mk (Array.mk (List.map (fun (n : Int) => UInt8.ofNat n.toNat) (List.take x.bs.length (List.drop 0 x.bs))))
abbrev rdec_c_p4 (x : Row) : List AV :=
  [nI 0, AV.nils, nU 0, nU 0, nU 0, nU 0, nU 0, nU 0, nU 0, nU 0, nU 0, nU 0, nU 0, nU 0, nU 0, nU 0, nU 0, nU 0, nU 0, nU 0, AV.bool false, nI 0, AV.nils, AV.nils, AV.nils, AV.nils, AV.nils, nU 0, nU 0, nU 0, nU 0, nU 0, nU 0, nU 0, nU 0]
abbrev rdec_c_p0 (x : Row) (y : GuY) : Prop :=
  sp (y.e == 0) (RkOk (Sv.mk y.d.fr (Row.mk y.d.mem y.c0) (St.mk y.d.s.r0 y.d.s.r1 y.d.s.r2 y.d.s.r3 y.d.s.r4 y.d.s.r5 y.d.s.r6 y.d.s.r7 y.d.s.pc y.d.s.ps y.d.s.c0 y.d.s.c1 y.d.s.c2 y.d.s.c3 y.d.s.c4 y.d.s.c5 y.d.s.c6 y.d.s.c7 y.d.s.h) y.d.steps (NRow.mk y.d.notes.length y.d.notes.length (fun (i : Nat) => numAt ((fun (i : Nat) => [nI (y.d.notes.getD i instInhabitedN4.default).a, nI (y.d.notes.getD i instInhabitedN4.default).c, nU (y.d.notes.getD i instInhabitedN4.default).b, nU (y.d.notes.getD i instInhabitedN4.default).d]) i) 0) (fun (i : Nat) => numAt ((fun (i : Nat) => [nI (y.d.notes.getD i instInhabitedN4.default).a, nI (y.d.notes.getD i instInhabitedN4.default).c, nU (y.d.notes.getD i instInhabitedN4.default).b, nU (y.d.notes.getD i instInhabitedN4.default).d]) i) 1) (fun (i : Nat) => numAt ((fun (i : Nat) => [nI (y.d.notes.getD i instInhabitedN4.default).a, nI (y.d.notes.getD i
  instInhabitedN4.default).c, nU (y.d.notes.getD i instInhabitedN4.default).b, nU (y.d.notes.getD i instInhabitedN4.default).d]) i) 2) fun (i : Nat) => numAt ((fun (i : Nat) => [nI (y.d.notes.getD i instInhabitedN4.default).a, nI (y.d.notes.getD i instInhabitedN4.default).c, nU (y.d.notes.getD i instInhabitedN4.default).b, nU (y.d.notes.getD i instInhabitedN4.default).d]) i) 3) (Row.mk y.d.out y.c2) (Row.mk y.d.disk y.c3) (Row.mk y.d.queue y.c4) (ERow.mk y.d.script.length y.d.script.length (fun (i : Nat) => numAt ((fun (i : Nat) => [nI (y.d.script.getD i instInhabitedE3.default).a, nI (y.d.script.getD i instInhabitedE3.default).k, nB (y.d.script.getD i instInhabitedE3.default).x]) i) 0) (fun (i : Nat) => numAt ((fun (i : Nat) => [nI (y.d.script.getD i instInhabitedE3.default).a, nI (y.d.script.getD i instInhabitedE3.default).k, nB (y.d.script.getD i instInhabitedE3.default).x]) i) 1) fun (i
  : Nat) => numAt ((fun (i : Nat) => [nI (y.d.script.getD i instInhabitedE3.default).a, nI (y.d.script.getD i instInhabitedE3.default).k, nB (y.d.script.getD i instInhabitedE3.default).x]) i) 2) (y.d.bl.getD 0 0) (y.d.bl.getD 1 0) (y.d.bl.getD 2 0) (y.d.bl.getD 3 0) (y.d.bl.getD 4 0) (y.d.bl.getD 5 0) (y.d.bl.getD 6 0) (y.d.bl.getD 7 0)) ∧ [] ++ [AV.agg [nI y.d.fr, AV.msl 5 0 0 y.d.mem.length y.c0, nU y.d.s.r0, nU y.d.s.r1, nU y.d.s.r2, nU y.d.s.r3, nU y.d.s.r4, nU y.d.s.r5, nU y.d.s.r6, nU y.d.s.r7, nU y.d.s.pc, nU y.d.s.ps, nU y.d.s.c0, nU y.d.s.c1, nU y.d.s.c2, nU y.d.s.c3, nU y.d.s.c4, nU y.d.s.c5, nU y.d.s.c6, nU y.d.s.c7, AV.bool y.d.s.h, nI y.d.steps, AV.msl 6 0 0 y.d.notes.length y.d.notes.length, AV.msl 7 0 0 y.d.out.length y.c2, AV.msl 8 0 0 y.d.disk.length y.c3, AV.msl 9 0 0 y.d.queue.length y.c4, AV.msl 10 0 0 y.d.script.length y.d.script.length, nU (y.d.bl.getD 0 0), nU
  (y.d.bl.getD 1 0), nU (y.d.bl.getD 2 0), nU (y.d.bl.getD 3 0), nU (y.d.bl.getD 4 0), nU (y.d.bl.getD 5 0), nU (y.d.bl.getD 6 0), nU (y.d.bl.getD 7 0)]] ++ [] = [AV.agg [nI y.d.fr, AV.msl 5 0 0 y.d.mem.length y.c0, nU y.d.s.r0, nU y.d.s.r1, nU y.d.s.r2, nU y.d.s.r3, nU y.d.s.r4, nU y.d.s.r5, nU y.d.s.r6, nU y.d.s.r7, nU y.d.s.pc, nU y.d.s.ps, nU y.d.s.c0, nU y.d.s.c1, nU y.d.s.c2, nU y.d.s.c3, nU y.d.s.c4, nU y.d.s.c5, nU y.d.s.c6, nU y.d.s.c7, AV.bool y.d.s.h, nI y.d.steps, AV.msl 6 0 0 y.d.notes.length y.d.notes.length, AV.msl 7 0 0 y.d.out.length y.c2, AV.msl 8 0 0 y.d.disk.length y.c3, AV.msl 9 0 0 y.d.queue.length y.c4, AV.msl 10 0 0 y.d.script.length y.d.script.length, nU (y.d.bl.getD 0 0), nU (y.d.bl.getD 1 0), nU (y.d.bl.getD 2 0), nU (y.d.bl.getD 3 0), nU (y.d.bl.getD 4 0), nU (y.d.bl.getD 5 0), nU (y.d.bl.getD 6 0), nU (y.d.bl.getD 7 0)]] ∧ (some (bR y.d.mem) = some (bR y.d.mem)
  ∧ some (ABlk.mk false 4 (AC.recs y.d.notes.length fun (i : Nat) => [nI (y.d.notes.getD i instInhabitedN4.default).a, nI (y.d.notes.getD i instInhabitedN4.default).c, nU (y.d.notes.getD i instInhabitedN4.default).b, nU (y.d.notes.getD i instInhabitedN4.default).d])) = some (ABlk.mk false 4 (AC.recs y.d.notes.length fun (i : Nat) => [nI (y.d.notes.getD i instInhabitedN4.default).a, nI (y.d.notes.getD i instInhabitedN4.default).c, nU (y.d.notes.getD i instInhabitedN4.default).b, nU (y.d.notes.getD i instInhabitedN4.default).d])) ∧ some (bR y.d.out) = some (bR y.d.out) ∧ some (bR y.d.disk) = some (bR y.d.disk) ∧ some (bR y.d.queue) = some (bR y.d.queue) ∧ some (ABlk.mk false 3 (AC.recs y.d.script.length fun (i : Nat) => [nI (y.d.script.getD i instInhabitedE3.default).a, nI (y.d.script.getD i instInhabitedE3.default).k, nB (y.d.script.getD i instInhabitedE3.default).x])) = some (ABlk.mk false
  3 (AC.recs y.d.script.length fun (i : Nat) => [nI (y.d.script.getD i instInhabitedE3.default).a, nI (y.d.script.getD i instInhabitedE3.default).k, nB (y.d.script.getD i instInhabitedE3.default).x])) ∧ True) ∧ (∀ (y_1 : Unit), True → sp (keepN (Sv.mk y.d.fr (Row.mk y.d.mem y.c0) (St.mk y.d.s.r0 y.d.s.r1 y.d.s.r2 y.d.s.r3 y.d.s.r4 y.d.s.r5 y.d.s.r6 y.d.s.r7 y.d.s.pc y.d.s.ps y.d.s.c0 y.d.s.c1 y.d.s.c2 y.d.s.c3 y.d.s.c4 y.d.s.c5 y.d.s.c6 y.d.s.c7 y.d.s.h) y.d.steps (NRow.mk y.d.notes.length y.d.notes.length (fun (i : Nat) => numAt ((fun (i : Nat) => [nI (y.d.notes.getD i instInhabitedN4.default).a, nI (y.d.notes.getD i instInhabitedN4.default).c, nU (y.d.notes.getD i instInhabitedN4.default).b, nU (y.d.notes.getD i instInhabitedN4.default).d]) i) 0) (fun (i : Nat) => numAt ((fun (i : Nat) => [nI (y.d.notes.getD i instInhabitedN4.default).a, nI (y.d.notes.getD i instInhabitedN4.default).c, nU
  (y.d.notes.getD i instInhabitedN4.default).b, nU (y.d.notes.getD i instInhabitedN4.default).d]) i) 1) (fun (i : Nat) => numAt ((fun (i : Nat) => [nI (y.d.notes.getD i instInhabitedN4.default).a, nI (y.d.notes.getD i instInhabitedN4.default).c, nU (y.d.notes.getD i instInhabitedN4.default).b, nU (y.d.notes.getD i instInhabitedN4.default).d]) i) 2) fun (i : Nat) => numAt ((fun (i : Nat) => [nI (y.d.notes.getD i instInhabitedN4.default).a, nI (y.d.notes.getD i instInhabitedN4.default).c, nU (y.d.notes.getD i instInhabitedN4.default).b, nU (y.d.notes.getD i instInhabitedN4.default).d]) i) 3) (Row.mk y.d.out y.c2) (Row.mk y.d.disk y.c3) (Row.mk y.d.queue y.c4) (ERow.mk y.d.script.length y.d.script.length (fun (i : Nat) => numAt ((fun (i : Nat) => [nI (y.d.script.getD i instInhabitedE3.default).a, nI (y.d.script.getD i instInhabitedE3.default).k, nB (y.d.script.getD i
  instInhabitedE3.default).x]) i) 0) (fun (i : Nat) => numAt ((fun (i : Nat) => [nI (y.d.script.getD i instInhabitedE3.default).a, nI (y.d.script.getD i instInhabitedE3.default).k, nB (y.d.script.getD i instInhabitedE3.default).x]) i) 1) fun (i : Nat) => numAt ((fun (i : Nat) => [nI (y.d.script.getD i instInhabitedE3.default).a, nI (y.d.script.getD i instInhabitedE3.default).k, nB (y.d.script.getD i instInhabitedE3.default).x]) i) 2) (y.d.bl.getD 0 0) (y.d.bl.getD 1 0) (y.d.bl.getD 2 0) (y.d.bl.getD 3 0) (y.d.bl.getD 4 0) (y.d.bl.getD 5 0) (y.d.bl.getD 6 0) (y.d.bl.getD 7 0)) != 0) (sp (decide (keepN (Sv.mk y.d.fr (Row.mk y.d.mem y.c0) (St.mk y.d.s.r0 y.d.s.r1 y.d.s.r2 y.d.s.r3 y.d.s.r4 y.d.s.r5 y.d.s.r6 y.d.s.r7 y.d.s.pc y.d.s.ps y.d.s.c0 y.d.s.c1 y.d.s.c2 y.d.s.c3 y.d.s.c4 y.d.s.c5 y.d.s.c6 y.d.s.c7 y.d.s.h) y.d.steps (NRow.mk y.d.notes.length y.d.notes.length (fun (i : Nat) => numAt
  ((fun (i : Nat) => [nI (y.d.notes.getD i instInhabitedN4.default).a, nI (y.d.notes.getD i instInhabitedN4.default).c, nU (y.d.notes.getD i instInhabitedN4.default).b, nU (y.d.notes.getD i instInhabitedN4.default).d]) i) 0) (fun (i : Nat) => numAt ((fun (i : Nat) => [nI (y.d.notes.getD i instInhabitedN4.default).a, nI (y.d.notes.getD i instInhabitedN4.default).c, nU (y.d.notes.getD i instInhabitedN4.default).b, nU (y.d.notes.getD i instInhabitedN4.default).d]) i) 1) (fun (i : Nat) => numAt ((fun (i : Nat) => [nI (y.d.notes.getD i instInhabitedN4.default).a, nI (y.d.notes.getD i instInhabitedN4.default).c, nU (y.d.notes.getD i instInhabitedN4.default).b, nU (y.d.notes.getD i instInhabitedN4.default).d]) i) 2) fun (i : Nat) => numAt ((fun (i : Nat) => [nI (y.d.notes.getD i instInhabitedN4.default).a, nI (y.d.notes.getD i instInhabitedN4.default).c, nU (y.d.notes.getD i
  instInhabitedN4.default).b, nU (y.d.notes.getD i instInhabitedN4.default).d]) i) 3) (Row.mk y.d.out y.c2) (Row.mk y.d.disk y.c3) (Row.mk y.d.queue y.c4) (ERow.mk y.d.script.length y.d.script.length (fun (i : Nat) => numAt ((fun (i : Nat) => [nI (y.d.script.getD i instInhabitedE3.default).a, nI (y.d.script.getD i instInhabitedE3.default).k, nB (y.d.script.getD i instInhabitedE3.default).x]) i) 0) (fun (i : Nat) => numAt ((fun (i : Nat) => [nI (y.d.script.getD i instInhabitedE3.default).a, nI (y.d.script.getD i instInhabitedE3.default).k, nB (y.d.script.getD i instInhabitedE3.default).x]) i) 1) fun (i : Nat) => numAt ((fun (i : Nat) => [nI (y.d.script.getD i instInhabitedE3.default).a, nI (y.d.script.getD i instInhabitedE3.default).k, nB (y.d.script.getD i instInhabitedE3.default).x]) i) 2) (y.d.bl.getD 0 0) (y.d.bl.getD 1 0) (y.d.bl.getD 2 0) (y.d.bl.getD 3 0) (y.d.bl.getD 4 0)
  (y.d.bl.getD 5 0) (y.d.bl.getD 6 0) (y.d.bl.getD 7 0)) = keepN (Sv.mk y.d.fr (Row.mk y.d.mem y.c0) (St.mk y.d.s.r0 y.d.s.r1 y.d.s.r2 y.d.s.r3 y.d.s.r4 y.d.s.r5 y.d.s.r6 y.d.s.r7 y.d.s.pc y.d.s.ps y.d.s.c0 y.d.s.c1 y.d.s.c2 y.d.s.c3 y.d.s.c4 y.d.s.c5 y.d.s.c6 y.d.s.c7 y.d.s.h) y.d.steps (NRow.mk y.d.notes.length y.d.notes.length (fun (i : Nat) => numAt ((fun (i : Nat) => [nI (y.d.notes.getD i instInhabitedN4.default).a, nI (y.d.notes.getD i instInhabitedN4.default).c, nU (y.d.notes.getD i instInhabitedN4.default).b, nU (y.d.notes.getD i instInhabitedN4.default).d]) i) 0) (fun (i : Nat) => numAt ((fun (i : Nat) => [nI (y.d.notes.getD i instInhabitedN4.default).a, nI (y.d.notes.getD i instInhabitedN4.default).c, nU (y.d.notes.getD i instInhabitedN4.default).b, nU (y.d.notes.getD i instInhabitedN4.default).d]) i) 1) (fun (i : Nat) => numAt ((fun (i : Nat) => [nI (y.d.notes.getD i
  instInhabitedN4.default).a, nI (y.d.notes.getD i instInhabitedN4.default).c, nU (y.d.notes.getD i instInhabitedN4.default).b, nU (y.d.notes.getD i instInhabitedN4.default).d]) i) 2) fun (i : Nat) => numAt ((fun (i : Nat) => [nI (y.d.notes.getD i instInhabitedN4.default).a, nI (y.d.notes.getD i instInhabitedN4.default).c, nU (y.d.notes.getD i instInhabitedN4.default).b, nU (y.d.notes.getD i instInhabitedN4.default).d]) i) 3) (Row.mk y.d.out y.c2) (Row.mk y.d.disk y.c3) (Row.mk y.d.queue y.c4) (ERow.mk y.d.script.length y.d.script.length (fun (i : Nat) => numAt ((fun (i : Nat) => [nI (y.d.script.getD i instInhabitedE3.default).a, nI (y.d.script.getD i instInhabitedE3.default).k, nB (y.d.script.getD i instInhabitedE3.default).x]) i) 0) (fun (i : Nat) => numAt ((fun (i : Nat) => [nI (y.d.script.getD i instInhabitedE3.default).a, nI (y.d.script.getD i instInhabitedE3.default).k, nB
  (y.d.script.getD i instInhabitedE3.default).x]) i) 1) fun (i : Nat) => numAt ((fun (i : Nat) => [nI (y.d.script.getD i instInhabitedE3.default).a, nI (y.d.script.getD i instInhabitedE3.default).k, nB (y.d.script.getD i instInhabitedE3.default).x]) i) 2) (y.d.bl.getD 0 0) (y.d.bl.getD 1 0) (y.d.bl.getD 2 0) (y.d.bl.getD 3 0) (y.d.bl.getD 4 0) (y.d.bl.getD 5 0) (y.d.bl.getD 6 0) (y.d.bl.getD 7 0)))) (sp (decide (keepN (Sv.mk y.d.fr (Row.mk y.d.mem y.c0) (St.mk y.d.s.r0 y.d.s.r1 y.d.s.r2 y.d.s.r3 y.d.s.r4 y.d.s.r5 y.d.s.r6 y.d.s.r7 y.d.s.pc y.d.s.ps y.d.s.c0 y.d.s.c1 y.d.s.c2 y.d.s.c3 y.d.s.c4 y.d.s.c5 y.d.s.c6 y.d.s.c7 y.d.s.h) y.d.steps (NRow.mk y.d.notes.length y.d.notes.length (fun (i : Nat) => numAt ((fun (i : Nat) => [nI (y.d.notes.getD i instInhabitedN4.default).a, nI (y.d.notes.getD i instInhabitedN4.default).c, nU (y.d.notes.getD i instInhabitedN4.default).b, nU (y.d.notes.getD i
  instInhabitedN4.default).d]) i) 0) (fun (i : Nat) => numAt ((fun (i : Nat) => [nI (y.d.notes.getD i instInhabitedN4.default).a, nI (y.d.notes.getD i instInhabitedN4.default).c, nU (y.d.notes.getD i instInhabitedN4.default).b, nU (y.d.notes.getD i instInhabitedN4.default).d]) i) 1) (fun (i : Nat) => numAt ((fun (i : Nat) => [nI (y.d.notes.getD i instInhabitedN4.default).a, nI (y.d.notes.getD i instInhabitedN4.default).c, nU (y.d.notes.getD i instInhabitedN4.default).b, nU (y.d.notes.getD i instInhabitedN4.default).d]) i) 2) fun (i : Nat) => numAt ((fun (i : Nat) => [nI (y.d.notes.getD i instInhabitedN4.default).a, nI (y.d.notes.getD i instInhabitedN4.default).c, nU (y.d.notes.getD i instInhabitedN4.default).b, nU (y.d.notes.getD i instInhabitedN4.default).d]) i) 3) (Row.mk y.d.out y.c2) (Row.mk y.d.disk y.c3) (Row.mk y.d.queue y.c4) (ERow.mk y.d.script.length y.d.script.length (fun (i :
  Nat) => numAt ((fun (i : Nat) => [nI (y.d.script.getD i instInhabitedE3.default).a, nI (y.d.script.getD i instInhabitedE3.default).k, nB (y.d.script.getD i instInhabitedE3.default).x]) i) 0) (fun (i : Nat) => numAt ((fun (i : Nat) => [nI (y.d.script.getD i instInhabitedE3.default).a, nI (y.d.script.getD i instInhabitedE3.default).k, nB (y.d.script.getD i instInhabitedE3.default).x]) i) 1) fun (i : Nat) => numAt ((fun (i : Nat) => [nI (y.d.script.getD i instInhabitedE3.default).a, nI (y.d.script.getD i instInhabitedE3.default).k, nB (y.d.script.getD i instInhabitedE3.default).x]) i) 2) (y.d.bl.getD 0 0) (y.d.bl.getD 1 0) (y.d.bl.getD 2 0) (y.d.bl.getD 3 0) (y.d.bl.getD 4 0) (y.d.bl.getD 5 0) (y.d.bl.getD 6 0) (y.d.bl.getD 7 0)) = keepN (Sv.mk y.d.fr (Row.mk y.d.mem y.c0) (St.mk y.d.s.r0 y.d.s.r1 y.d.s.r2 y.d.s.r3 y.d.s.r4 y.d.s.r5 y.d.s.r6 y.d.s.r7 y.d.s.pc y.d.s.ps y.d.s.c0 y.d.s.c1
  y.d.s.c2 y.d.s.c3 y.d.s.c4 y.d.s.c5 y.d.s.c6 y.d.s.c7 y.d.s.h) y.d.steps (NRow.mk y.d.notes.length y.d.notes.length (fun (i : Nat) => numAt ((fun (i : Nat) => [nI (y.d.notes.getD i instInhabitedN4.default).a, nI (y.d.notes.getD i instInhabitedN4.default).c, nU (y.d.notes.getD i instInhabitedN4.default).b, nU (y.d.notes.getD i instInhabitedN4.default).d]) i) 0) (fun (i : Nat) => numAt ((fun (i : Nat) => [nI (y.d.notes.getD i instInhabitedN4.default).a, nI (y.d.notes.getD i instInhabitedN4.default).c, nU (y.d.notes.getD i instInhabitedN4.default).b, nU (y.d.notes.getD i instInhabitedN4.default).d]) i) 1) (fun (i : Nat) => numAt ((fun (i : Nat) => [nI (y.d.notes.getD i instInhabitedN4.default).a, nI (y.d.notes.getD i instInhabitedN4.default).c, nU (y.d.notes.getD i instInhabitedN4.default).b, nU (y.d.notes.getD i instInhabitedN4.default).d]) i) 2) fun (i : Nat) => numAt ((fun (i : Nat) =>
  [nI (y.d.notes.getD i instInhabitedN4.default).a, nI (y.d.notes.getD i instInhabitedN4.default).c, nU (y.d.notes.getD i instInhabitedN4.default).b, nU (y.d.notes.getD i instInhabitedN4.default).d]) i) 3) (Row.mk y.d.out y.c2) (Row.mk y.d.disk y.c3) (Row.mk y.d.queue y.c4) (ERow.mk y.d.script.length y.d.script.length (fun (i : Nat) => numAt ((fun (i : Nat) => [nI (y.d.script.getD i instInhabitedE3.default).a, nI (y.d.script.getD i instInhabitedE3.default).k, nB (y.d.script.getD i instInhabitedE3.default).x]) i) 0) (fun (i : Nat) => numAt ((fun (i : Nat) => [nI (y.d.script.getD i instInhabitedE3.default).a, nI (y.d.script.getD i instInhabitedE3.default).k, nB (y.d.script.getD i instInhabitedE3.default).x]) i) 1) fun (i : Nat) => numAt ((fun (i : Nat) => [nI (y.d.script.getD i instInhabitedE3.default).a, nI (y.d.script.getD i instInhabitedE3.default).k, nB (y.d.script.getD i
  instInhabitedE3.default).x]) i) 2) (y.d.bl.getD 0 0) (y.d.bl.getD 1 0) (y.d.bl.getD 2 0) (y.d.bl.getD 3 0) (y.d.bl.getD 4 0) (y.d.bl.getD 5 0) (y.d.bl.getD 6 0) (y.d.bl.getD 7 0)))) (sp (decide (keepN (Sv.mk y.d.fr (Row.mk y.d.mem y.c0) (St.mk y.d.s.r0 y.d.s.r1 y.d.s.r2 y.d.s.r3 y.d.s.r4 y.d.s.r5 y.d.s.r6 y.d.s.r7 y.d.s.pc y.d.s.ps y.d.s.c0 y.d.s.c1 y.d.s.c2 y.d.s.c3 y.d.s.c4 y.d.s.c5 y.d.s.c6 y.d.s.c7 y.d.s.h) y.d.steps (NRow.mk y.d.notes.length y.d.notes.length (fun (i : Nat) => numAt ((fun (i : Nat) => [nI (y.d.notes.getD i instInhabitedN4.default).a, nI (y.d.notes.getD i instInhabitedN4.default).c, nU (y.d.notes.getD i instInhabitedN4.default).b, nU (y.d.notes.getD i instInhabitedN4.default).d]) i) 0) (fun (i : Nat) => numAt ((fun (i : Nat) => [nI (y.d.notes.getD i instInhabitedN4.default).a, nI (y.d.notes.getD i instInhabitedN4.default).c, nU (y.d.notes.getD i
  instInhabitedN4.default).b, nU (y.d.notes.getD i instInhabitedN4.default).d]) i) 1) (fun (i : Nat) => numAt ((fun (i : Nat) => [nI (y.d.notes.getD i instInhabitedN4.default).a, nI (y.d.notes.getD i instInhabitedN4.default).c, nU (y.d.notes.getD i instInhabitedN4.default).b, nU (y.d.notes.getD i instInhabitedN4.default).d]) i) 2) fun (i : Nat) => numAt ((fun (i : Nat) => [nI (y.d.notes.getD i instInhabitedN4.default).a, nI (y.d.notes.getD i instInhabitedN4.default).c, nU (y.d.notes.getD i instInhabitedN4.default).b, nU (y.d.notes.getD i instInhabitedN4.default).d]) i) 3) (Row.mk y.d.out y.c2) (Row.mk y.d.disk y.c3) (Row.mk y.d.queue y.c4) (ERow.mk y.d.script.length y.d.script.length (fun (i : Nat) => numAt ((fun (i : Nat) => [nI (y.d.script.getD i instInhabitedE3.default).a, nI (y.d.script.getD i instInhabitedE3.default).k, nB (y.d.script.getD i instInhabitedE3.default).x]) i) 0) (fun (i :
  Nat) => numAt ((fun (i : Nat) => [nI (y.d.script.getD i instInhabitedE3.default).a, nI (y.d.script.getD i instInhabitedE3.default).k, nB (y.d.script.getD i instInhabitedE3.default).x]) i) 1) fun (i : Nat) => numAt ((fun (i : Nat) => [nI (y.d.script.getD i instInhabitedE3.default).a, nI (y.d.script.getD i instInhabitedE3.default).k, nB (y.d.script.getD i instInhabitedE3.default).x]) i) 2) (y.d.bl.getD 0 0) (y.d.bl.getD 1 0) (y.d.bl.getD 2 0) (y.d.bl.getD 3 0) (y.d.bl.getD 4 0) (y.d.bl.getD 5 0) (y.d.bl.getD 6 0) (y.d.bl.getD 7 0)) = keepN (Sv.mk y.d.fr (Row.mk y.d.mem y.c0) (St.mk y.d.s.r0 y.d.s.r1 y.d.s.r2 y.d.s.r3 y.d.s.r4 y.d.s.r5 y.d.s.r6 y.d.s.r7 y.d.s.pc y.d.s.ps y.d.s.c0 y.d.s.c1 y.d.s.c2 y.d.s.c3 y.d.s.c4 y.d.s.c5 y.d.s.c6 y.d.s.c7 y.d.s.h) y.d.steps (NRow.mk y.d.notes.length y.d.notes.length (fun (i : Nat) => numAt ((fun (i : Nat) => [nI (y.d.notes.getD i
  instInhabitedN4.default).a, nI (y.d.notes.getD i instInhabitedN4.default).c, nU (y.d.notes.getD i instInhabitedN4.default).b, nU (y.d.notes.getD i instInhabitedN4.default).d]) i) 0) (fun (i : Nat) => numAt ((fun (i : Nat) => [nI (y.d.notes.getD i instInhabitedN4.default).a, nI (y.d.notes.getD i instInhabitedN4.default).c, nU (y.d.notes.getD i instInhabitedN4.default).b, nU (y.d.notes.getD i instInhabitedN4.default).d]) i) 1) (fun (i : Nat) => numAt ((fun (i : Nat) => [nI (y.d.notes.getD i instInhabitedN4.default).a, nI (y.d.notes.getD i instInhabitedN4.default).c, nU (y.d.notes.getD i instInhabitedN4.default).b, nU (y.d.notes.getD i instInhabitedN4.default).d]) i) 2) fun (i : Nat) => numAt ((fun (i : Nat) => [nI (y.d.notes.getD i instInhabitedN4.default).a, nI (y.d.notes.getD i instInhabitedN4.default).c, nU (y.d.notes.getD i instInhabitedN4.default).b, nU (y.d.notes.getD i
  instInhabitedN4.default).d]) i) 3) (Row.mk y.d.out y.c2) (Row.mk y.d.disk y.c3) (Row.mk y.d.queue y.c4) (ERow.mk y.d.script.length y.d.script.length (fun (i : Nat) => numAt ((fun (i : Nat) => [nI (y.d.script.getD i instInhabitedE3.default).a, nI (y.d.script.getD i instInhabitedE3.default).k, nB (y.d.script.getD i instInhabitedE3.default).x]) i) 0) (fun (i : Nat) => numAt ((fun (i : Nat) => [nI (y.d.script.getD i instInhabitedE3.default).a, nI (y.d.script.getD i instInhabitedE3.default).k, nB (y.d.script.getD i instInhabitedE3.default).x]) i) 1) fun (i : Nat) => numAt ((fun (i : Nat) => [nI (y.d.script.getD i instInhabitedE3.default).a, nI (y.d.script.getD i instInhabitedE3.default).k, nB (y.d.script.getD i instInhabitedE3.default).x]) i) 2) (y.d.bl.getD 0 0) (y.d.bl.getD 1 0) (y.d.bl.getD 2 0) (y.d.bl.getD 3 0) (y.d.bl.getD 4 0) (y.d.bl.getD 5 0) (y.d.bl.getD 6 0) (y.d.bl.getD 7 0)))) (sp
  (decide (keepN (Sv.mk y.d.fr (Row.mk y.d.mem y.c0) (St.mk y.d.s.r0 y.d.s.r1 y.d.s.r2 y.d.s.r3 y.d.s.r4 y.d.s.r5 y.d.s.r6 y.d.s.r7 y.d.s.pc y.d.s.ps y.d.s.c0 y.d.s.c1 y.d.s.c2 y.d.s.c3 y.d.s.c4 y.d.s.c5 y.d.s.c6 y.d.s.c7 y.d.s.h) y.d.steps (NRow.mk y.d.notes.length y.d.notes.length (fun (i : Nat) => numAt ((fun (i : Nat) => [nI (y.d.notes.getD i instInhabitedN4.default).a, nI (y.d.notes.getD i instInhabitedN4.default).c, nU (y.d.notes.getD i instInhabitedN4.default).b, nU (y.d.notes.getD i instInhabitedN4.default).d]) i) 0) (fun (i : Nat) => numAt ((fun (i : Nat) => [nI (y.d.notes.getD i instInhabitedN4.default).a, nI (y.d.notes.getD i instInhabitedN4.default).c, nU (y.d.notes.getD i instInhabitedN4.default).b, nU (y.d.notes.getD i instInhabitedN4.default).d]) i) 1) (fun (i : Nat) => numAt ((fun (i : Nat) => [nI (y.d.notes.getD i instInhabitedN4.default).a, nI (y.d.notes.getD i
  instInhabitedN4.default).c, nU (y.d.notes.getD i instInhabitedN4.default).b, nU (y.d.notes.getD i instInhabitedN4.default).d]) i) 2) fun (i : Nat) => numAt ((fun (i : Nat) => [nI (y.d.notes.getD i instInhabitedN4.default).a, nI (y.d.notes.getD i instInhabitedN4.default).c, nU (y.d.notes.getD i instInhabitedN4.default).b, nU (y.d.notes.getD i instInhabitedN4.default).d]) i) 3) (Row.mk y.d.out y.c2) (Row.mk y.d.disk y.c3) (Row.mk y.d.queue y.c4) (ERow.mk y.d.script.length y.d.script.length (fun (i : Nat) => numAt ((fun (i : Nat) => [nI (y.d.script.getD i instInhabitedE3.default).a, nI (y.d.script.getD i instInhabitedE3.default).k, nB (y.d.script.getD i instInhabitedE3.default).x]) i) 0) (fun (i : Nat) => numAt ((fun (i : Nat) => [nI (y.d.script.getD i instInhabitedE3.default).a, nI (y.d.script.getD i instInhabitedE3.default).k, nB (y.d.script.getD i instInhabitedE3.default).x]) i) 1) fun (i
  : Nat) => numAt ((fun (i : Nat) => [nI (y.d.script.getD i instInhabitedE3.default).a, nI (y.d.script.getD i instInhabitedE3.default).k, nB (y.d.script.getD i instInhabitedE3.default).x]) i) 2) (y.d.bl.getD 0 0) (y.d.bl.getD 1 0) (y.d.bl.getD 2 0) (y.d.bl.getD 3 0) (y.d.bl.getD 4 0) (y.d.bl.getD 5 0) (y.d.bl.getD 6 0) (y.d.bl.getD 7 0)) = keepN (Sv.mk y.d.fr (Row.mk y.d.mem y.c0) (St.mk y.d.s.r0 y.d.s.r1 y.d.s.r2 y.d.s.r3 y.d.s.r4 y.d.s.r5 y.d.s.r6 y.d.s.r7 y.d.s.pc y.d.s.ps y.d.s.c0 y.d.s.c1 y.d.s.c2 y.d.s.c3 y.d.s.c4 y.d.s.c5 y.d.s.c6 y.d.s.c7 y.d.s.h) y.d.steps (NRow.mk y.d.notes.length y.d.notes.length (fun (i : Nat) => numAt ((fun (i : Nat) => [nI (y.d.notes.getD i instInhabitedN4.default).a, nI (y.d.notes.getD i instInhabitedN4.default).c, nU (y.d.notes.getD i instInhabitedN4.default).b, nU (y.d.notes.getD i instInhabitedN4.default).d]) i) 0) (fun (i : Nat) => numAt ((fun (i : Nat)
  => [nI (y.d.notes.getD i instInhabitedN4.default).a, nI (y.d.notes.getD i instInhabitedN4.default).c, nU (y.d.notes.getD i instInhabitedN4.default).b, nU (y.d.notes.getD i instInhabitedN4.default).d]) i) 1) (fun (i : Nat) => numAt ((fun (i : Nat) => [nI (y.d.notes.getD i instInhabitedN4.default).a, nI (y.d.notes.getD i instInhabitedN4.default).c, nU (y.d.notes.getD i instInhabitedN4.default).b, nU (y.d.notes.getD i instInhabitedN4.default).d]) i) 2) fun (i : Nat) => numAt ((fun (i : Nat) => [nI (y.d.notes.getD i instInhabitedN4.default).a, nI (y.d.notes.getD i instInhabitedN4.default).c, nU (y.d.notes.getD i instInhabitedN4.default).b, nU (y.d.notes.getD i instInhabitedN4.default).d]) i) 3) (Row.mk y.d.out y.c2) (Row.mk y.d.disk y.c3) (Row.mk y.d.queue y.c4) (ERow.mk y.d.script.length y.d.script.length (fun (i : Nat) => numAt ((fun (i : Nat) => [nI (y.d.script.getD i
  instInhabitedE3.default).a, nI (y.d.script.getD i instInhabitedE3.default).k, nB (y.d.script.getD i instInhabitedE3.default).x]) i) 0) (fun (i : Nat) => numAt ((fun (i : Nat) => [nI (y.d.script.getD i instInhabitedE3.default).a, nI (y.d.script.getD i instInhabitedE3.default).k, nB (y.d.script.getD i instInhabitedE3.default).x]) i) 1) fun (i : Nat) => numAt ((fun (i : Nat) => [nI (y.d.script.getD i instInhabitedE3.default).a, nI (y.d.script.getD i instInhabitedE3.default).k, nB (y.d.script.getD i instInhabitedE3.default).x]) i) 2) (y.d.bl.getD 0 0) (y.d.bl.getD 1 0) (y.d.bl.getD 2 0) (y.d.bl.getD 3 0) (y.d.bl.getD 4 0) (y.d.bl.getD 5 0) (y.d.bl.getD 6 0) (y.d.bl.getD 7 0)))) ((∃ (y : RcE), (decP x.bs = DecR.ok y.y.d ∧ y.y.caps) ∧ False) ∨ ∃ (y_2 : RcE), decP x.bs = DecR.no y_2.e ∧ [AV.tup [AV.agg (rdec_c_p4 x), nI (keepN (Sv.mk y.d.fr (Row.mk y.d.mem y.c0) (St.mk y.d.s.r0 y.d.s.r1 y.d.s.r2
  y.d.s.r3 y.d.s.r4 y.d.s.r5 y.d.s.r6 y.d.s.r7 y.d.s.pc y.d.s.ps y.d.s.c0 y.d.s.c1 y.d.s.c2 y.d.s.c3 y.d.s.c4 y.d.s.c5 y.d.s.c6 y.d.s.c7 y.d.s.h) y.d.steps (NRow.mk y.d.notes.length y.d.notes.length (fun (i : Nat) => numAt ((fun (i : Nat) => [nI (y.d.notes.getD i instInhabitedN4.default).a, nI (y.d.notes.getD i instInhabitedN4.default).c, nU (y.d.notes.getD i instInhabitedN4.default).b, nU (y.d.notes.getD i instInhabitedN4.default).d]) i) 0) (fun (i : Nat) => numAt ((fun (i : Nat) => [nI (y.d.notes.getD i instInhabitedN4.default).a, nI (y.d.notes.getD i instInhabitedN4.default).c, nU (y.d.notes.getD i instInhabitedN4.default).b, nU (y.d.notes.getD i instInhabitedN4.default).d]) i) 1) (fun (i : Nat) => numAt ((fun (i : Nat) => [nI (y.d.notes.getD i instInhabitedN4.default).a, nI (y.d.notes.getD i instInhabitedN4.default).c, nU (y.d.notes.getD i instInhabitedN4.default).b, nU (y.d.notes.getD
  i instInhabitedN4.default).d]) i) 2) fun (i : Nat) => numAt ((fun (i : Nat) => [nI (y.d.notes.getD i instInhabitedN4.default).a, nI (y.d.notes.getD i instInhabitedN4.default).c, nU (y.d.notes.getD i instInhabitedN4.default).b, nU (y.d.notes.getD i instInhabitedN4.default).d]) i) 3) (Row.mk y.d.out y.c2) (Row.mk y.d.disk y.c3) (Row.mk y.d.queue y.c4) (ERow.mk y.d.script.length y.d.script.length (fun (i : Nat) => numAt ((fun (i : Nat) => [nI (y.d.script.getD i instInhabitedE3.default).a, nI (y.d.script.getD i instInhabitedE3.default).k, nB (y.d.script.getD i instInhabitedE3.default).x]) i) 0) (fun (i : Nat) => numAt ((fun (i : Nat) => [nI (y.d.script.getD i instInhabitedE3.default).a, nI (y.d.script.getD i instInhabitedE3.default).k, nB (y.d.script.getD i instInhabitedE3.default).x]) i) 1) fun (i : Nat) => numAt ((fun (i : Nat) => [nI (y.d.script.getD i instInhabitedE3.default).a, nI
  (y.d.script.getD i instInhabitedE3.default).k, nB (y.d.script.getD i instInhabitedE3.default).x]) i) 2) (y.d.bl.getD 0 0) (y.d.bl.getD 1 0) (y.d.bl.getD 2 0) (y.d.bl.getD 3 0) (y.d.bl.getD 4 0) (y.d.bl.getD 5 0) (y.d.bl.getD 6 0) (y.d.bl.getD 7 0)))]] = [AV.tup [AV.agg (rdec_c_p4 x), nI y_2.e]] ∧ bR x.bs = bR x.bs ∧ True) False) False) False) False) ((∃ (y_2 : RcE), (decP x.bs = DecR.ok y_2.y.d ∧ y_2.y.caps) ∧ [AV.tup [AV.agg [nI y.d.fr, AV.msl 5 0 0 y.d.mem.length y.c0, nU y.d.s.r0, nU y.d.s.r1, nU y.d.s.r2, nU y.d.s.r3, nU y.d.s.r4, nU y.d.s.r5, nU y.d.s.r6, nU y.d.s.r7, nU y.d.s.pc, nU y.d.s.ps, nU y.d.s.c0, nU y.d.s.c1, nU y.d.s.c2, nU y.d.s.c3, nU y.d.s.c4, nU y.d.s.c5, nU y.d.s.c6, nU y.d.s.c7, AV.bool y.d.s.h, nI y.d.steps, AV.msl 6 0 0 y.d.notes.length y.d.notes.length, AV.msl 7 0 0 y.d.out.length y.c2, AV.msl 8 0 0 y.d.disk.length y.c3, AV.msl 9 0 0 y.d.queue.length y.c4, AV.msl
  10 0 0 y.d.script.length y.d.script.length, nU (y.d.bl.getD 0 0), nU (y.d.bl.getD 1 0), nU (y.d.bl.getD 2 0), nU (y.d.bl.getD 3 0), nU (y.d.bl.getD 4 0), nU (y.d.bl.getD 5 0), nU (y.d.bl.getD 6 0), nU (y.d.bl.getD 7 0)], nI 0]] = [AV.tup [AV.agg [nI y_2.y.d.fr, AV.msl 5 0 0 y_2.y.d.mem.length y_2.y.c0, nU y_2.y.d.s.r0, nU y_2.y.d.s.r1, nU y_2.y.d.s.r2, nU y_2.y.d.s.r3, nU y_2.y.d.s.r4, nU y_2.y.d.s.r5, nU y_2.y.d.s.r6, nU y_2.y.d.s.r7, nU y_2.y.d.s.pc, nU y_2.y.d.s.ps, nU y_2.y.d.s.c0, nU y_2.y.d.s.c1, nU y_2.y.d.s.c2, nU y_2.y.d.s.c3, nU y_2.y.d.s.c4, nU y_2.y.d.s.c5, nU y_2.y.d.s.c6, nU y_2.y.d.s.c7, AV.bool y_2.y.d.s.h, nI y_2.y.d.steps, AV.msl 6 0 0 y_2.y.d.notes.length y_2.y.d.notes.length, AV.msl 7 0 0 y_2.y.d.out.length y_2.y.c2, AV.msl 8 0 0 y_2.y.d.disk.length y_2.y.c3, AV.msl 9 0 0 y_2.y.d.queue.length y_2.y.c4, AV.msl 10 0 0 y_2.y.d.script.length y_2.y.d.script.length, nU
  (y_2.y.d.bl.getD 0 0), nU (y_2.y.d.bl.getD 1 0), nU (y_2.y.d.bl.getD 2 0), nU (y_2.y.d.bl.getD 3 0), nU (y_2.y.d.bl.getD 4 0), nU (y_2.y.d.bl.getD 5 0), nU (y_2.y.d.bl.getD 6 0), nU (y_2.y.d.bl.getD 7 0)], nI 0]] ∧ bR x.bs = bR x.bs ∧ bR y.d.mem = bR y_2.y.d.mem ∧ (false = false ∧ 4 = 4 ∧ y.d.notes.length = y_2.y.d.notes.length ∧ ∀ (i : Nat), i < y.d.notes.length → [nI (y.d.notes.getD i instInhabitedN4.default).a, nI (y.d.notes.getD i instInhabitedN4.default).c, nU (y.d.notes.getD i instInhabitedN4.default).b, nU (y.d.notes.getD i instInhabitedN4.default).d] = [nI (y_2.y.d.notes.getD i instInhabitedN4.default).a, nI (y_2.y.d.notes.getD i instInhabitedN4.default).c, nU (y_2.y.d.notes.getD i instInhabitedN4.default).b, nU (y_2.y.d.notes.getD i instInhabitedN4.default).d]) ∧ bR y.d.out = bR y_2.y.d.out ∧ bR y.d.disk = bR y_2.y.d.disk ∧ bR y.d.queue = bR y_2.y.d.queue ∧ (false = false ∧ 3 = 3
  ∧ y.d.script.length = y_2.y.d.script.length ∧ ∀ (i : Nat), i < y.d.script.length → [nI (y.d.script.getD i instInhabitedE3.default).a, nI (y.d.script.getD i instInhabitedE3.default).k, nB (y.d.script.getD i instInhabitedE3.default).x] = [nI (y_2.y.d.script.getD i instInhabitedE3.default).a, nI (y_2.y.d.script.getD i instInhabitedE3.default).k, nB (y_2.y.d.script.getD i instInhabitedE3.default).x]) ∧ True) ∨ ∃ (y_2 : RcE), decP x.bs = DecR.no y_2.e ∧ [AV.tup [AV.agg [nI y.d.fr, AV.msl 5 0 0 y.d.mem.length y.c0, nU y.d.s.r0, nU y.d.s.r1, nU y.d.s.r2, nU y.d.s.r3, nU y.d.s.r4, nU y.d.s.r5, nU y.d.s.r6, nU y.d.s.r7, nU y.d.s.pc, nU y.d.s.ps, nU y.d.s.c0, nU y.d.s.c1, nU y.d.s.c2, nU y.d.s.c3, nU y.d.s.c4, nU y.d.s.c5, nU y.d.s.c6, nU y.d.s.c7, AV.bool y.d.s.h, nI y.d.steps, AV.msl 6 0 0 y.d.notes.length y.d.notes.length, AV.msl 7 0 0 y.d.out.length y.c2, AV.msl 8 0 0 y.d.disk.length y.c3,
  AV.msl 9 0 0 y.d.queue.length y.c4, AV.msl 10 0 0 y.d.script.length y.d.script.length, nU (y.d.bl.getD 0 0), nU (y.d.bl.getD 1 0), nU (y.d.bl.getD 2 0), nU (y.d.bl.getD 3 0), nU (y.d.bl.getD 4 0), nU (y.d.bl.getD 5 0), nU (y.d.bl.getD 6 0), nU (y.d.bl.getD 7 0)], nI 0]] = [AV.tup [AV.agg (rdec_c_p4 x), nI y_2.e]] ∧ bR x.bs = bR x.bs ∧ True)) ∧ True) (sp (y.e != 0) (sp (decide (y.e = y.e)) (sp (decide (y.e = y.e)) (sp (decide (y.e = y.e)) (sp (decide (y.e = y.e)) ((∃ (y : RcE), (decP x.bs = DecR.ok y.y.d ∧ y.y.caps) ∧ False) ∨ ∃ (y_1 : RcE), decP x.bs = DecR.no y_1.e ∧ [AV.tup [AV.agg (rdec_c_p4 x), nI y.e]] = [AV.tup [AV.agg (rdec_c_p4 x), nI y_1.e]] ∧ bR x.bs = bR x.bs ∧ True) False) False) False) False) ((∃ (y_1 : RcE), (decP x.bs = DecR.ok y_1.y.d ∧ y_1.y.caps) ∧ [AV.tup [AV.agg [nI y.d.fr, AV.msl 5 0 0 y.d.mem.length y.c0, nU y.d.s.r0, nU y.d.s.r1, nU y.d.s.r2, nU y.d.s.r3, nU
  y.d.s.r4, nU y.d.s.r5, nU y.d.s.r6, nU y.d.s.r7, nU y.d.s.pc, nU y.d.s.ps, nU y.d.s.c0, nU y.d.s.c1, nU y.d.s.c2, nU y.d.s.c3, nU y.d.s.c4, nU y.d.s.c5, nU y.d.s.c6, nU y.d.s.c7, AV.bool y.d.s.h, nI y.d.steps, AV.msl 6 0 0 y.d.notes.length y.d.notes.length, AV.msl 7 0 0 y.d.out.length y.c2, AV.msl 8 0 0 y.d.disk.length y.c3, AV.msl 9 0 0 y.d.queue.length y.c4, AV.msl 10 0 0 y.d.script.length y.d.script.length, nU (y.d.bl.getD 0 0), nU (y.d.bl.getD 1 0), nU (y.d.bl.getD 2 0), nU (y.d.bl.getD 3 0), nU (y.d.bl.getD 4 0), nU (y.d.bl.getD 5 0), nU (y.d.bl.getD 6 0), nU (y.d.bl.getD 7 0)], nI 0]] = [AV.tup [AV.agg [nI y_1.y.d.fr, AV.msl 5 0 0 y_1.y.d.mem.length y_1.y.c0, nU y_1.y.d.s.r0, nU y_1.y.d.s.r1, nU y_1.y.d.s.r2, nU y_1.y.d.s.r3, nU y_1.y.d.s.r4, nU y_1.y.d.s.r5, nU y_1.y.d.s.r6, nU y_1.y.d.s.r7, nU y_1.y.d.s.pc, nU y_1.y.d.s.ps, nU y_1.y.d.s.c0, nU y_1.y.d.s.c1, nU y_1.y.d.s.c2, nU
  y_1.y.d.s.c3, nU y_1.y.d.s.c4, nU y_1.y.d.s.c5, nU y_1.y.d.s.c6, nU y_1.y.d.s.c7, AV.bool y_1.y.d.s.h, nI y_1.y.d.steps, AV.msl 6 0 0 y_1.y.d.notes.length y_1.y.d.notes.length, AV.msl 7 0 0 y_1.y.d.out.length y_1.y.c2, AV.msl 8 0 0 y_1.y.d.disk.length y_1.y.c3, AV.msl 9 0 0 y_1.y.d.queue.length y_1.y.c4, AV.msl 10 0 0 y_1.y.d.script.length y_1.y.d.script.length, nU (y_1.y.d.bl.getD 0 0), nU (y_1.y.d.bl.getD 1 0), nU (y_1.y.d.bl.getD 2 0), nU (y_1.y.d.bl.getD 3 0), nU (y_1.y.d.bl.getD 4 0), nU (y_1.y.d.bl.getD 5 0), nU (y_1.y.d.bl.getD 6 0), nU (y_1.y.d.bl.getD 7 0)], nI 0]] ∧ bR x.bs = bR x.bs ∧ bR y.d.mem = bR y_1.y.d.mem ∧ (false = false ∧ 4 = 4 ∧ y.d.notes.length = y_1.y.d.notes.length ∧ ∀ (i : Nat), i < y.d.notes.length → [nI (y.d.notes.getD i instInhabitedN4.default).a, nI (y.d.notes.getD i instInhabitedN4.default).c, nU (y.d.notes.getD i instInhabitedN4.default).b, nU
  (y.d.notes.getD i instInhabitedN4.default).d] = [nI (y_1.y.d.notes.getD i instInhabitedN4.default).a, nI (y_1.y.d.notes.getD i instInhabitedN4.default).c, nU (y_1.y.d.notes.getD i instInhabitedN4.default).b, nU (y_1.y.d.notes.getD i instInhabitedN4.default).d]) ∧ bR y.d.out = bR y_1.y.d.out ∧ bR y.d.disk = bR y_1.y.d.disk ∧ bR y.d.queue = bR y_1.y.d.queue ∧ (false = false ∧ 3 = 3 ∧ y.d.script.length = y_1.y.d.script.length ∧ ∀ (i : Nat), i < y.d.script.length → [nI (y.d.script.getD i instInhabitedE3.default).a, nI (y.d.script.getD i instInhabitedE3.default).k, nB (y.d.script.getD i instInhabitedE3.default).x] = [nI (y_1.y.d.script.getD i instInhabitedE3.default).a, nI (y_1.y.d.script.getD i instInhabitedE3.default).k, nB (y_1.y.d.script.getD i instInhabitedE3.default).x]) ∧ True) ∨ ∃ (y_1 : RcE), decP x.bs = DecR.no y_1.e ∧ [AV.tup [AV.agg [nI y.d.fr, AV.msl 5 0 0 y.d.mem.length y.c0, nU
  y.d.s.r0, nU y.d.s.r1, nU y.d.s.r2, nU y.d.s.r3, nU y.d.s.r4, nU y.d.s.r5, nU y.d.s.r6, nU y.d.s.r7, nU y.d.s.pc, nU y.d.s.ps, nU y.d.s.c0, nU y.d.s.c1, nU y.d.s.c2, nU y.d.s.c3, nU y.d.s.c4, nU y.d.s.c5, nU y.d.s.c6, nU y.d.s.c7, AV.bool y.d.s.h, nI y.d.steps, AV.msl 6 0 0 y.d.notes.length y.d.notes.length, AV.msl 7 0 0 y.d.out.length y.c2, AV.msl 8 0 0 y.d.disk.length y.c3, AV.msl 9 0 0 y.d.queue.length y.c4, AV.msl 10 0 0 y.d.script.length y.d.script.length, nU (y.d.bl.getD 0 0), nU (y.d.bl.getD 1 0), nU (y.d.bl.getD 2 0), nU (y.d.bl.getD 3 0), nU (y.d.bl.getD 4 0), nU (y.d.bl.getD 5 0), nU (y.d.bl.getD 6 0), nU (y.d.bl.getD 7 0)], nI 0]] = [AV.tup [AV.agg (rdec_c_p4 x), nI y_1.e]] ∧ bR x.bs = bR x.bs ∧ True))
abbrev rdec_c_p2 (x : Row) (y : RcE) : List AV :=
  [AV.tup [AV.agg (rdec_c_p4 x), nI y.e]]
abbrev rdec_c_p1 (x : Row) : Prop :=
  (∃ (y : RcE), (decP x.bs = DecR.ok y.y.d ∧ y.y.caps) ∧ False) ∨ ∃ (y : RcE), decP x.bs = DecR.no y.e ∧ [AV.tup [AV.agg (rdec_c_p4 x), nI 291]] = (rdec_c_p2 x y) ∧ bR x.bs = bR x.bs ∧ True
def rdec_c_V (x : Row) : Prop :=
  sp (decide ((↑x.bs.length : Int) < 4)) ((∃ (y : RcE), (decP x.bs = DecR.ok y.y.d ∧ y.y.caps) ∧ False) ∨ ∃ (y : RcE), decP x.bs = DecR.no y.e ∧ [AV.tup [AV.agg (rdec_c_p4 x), nI 290]] = (rdec_c_p2 x y) ∧ bR x.bs = bR x.bs ∧ True) (sp (decide (0 ≤ IntKind.i64.wrap ((↑x.bs.length : Int) - 4)) && true && true && decide ((IntKind.i64.wrap ((↑x.bs.length : Int) - 4)).toNat ≤ x.c) && decide (x.c ≤ x.c) && true) (sp (decide (0 + x.bs.length ≤ x.bs.length) && decide (rdec_c_p3 x)) (sp (x.bs.length.beq x.bs.length && x.c.beq x.c) (sp (((IntKind.i64.wrap ((↑x.bs.length : Int) - 4)).toNat - 0).beq ((IntKind.i64.wrap ((↑x.bs.length : Int) - 4)).toNat - 0) && (x.c - 0).beq (x.c - 0)) ((List.take ((IntKind.i64.wrap ((↑x.bs.length : Int) - 4)).toNat - 0) (List.drop 0 x.bs)).length.le 140737488355324 ∧ ([] ++ [AV.msl 0 0 0 ((IntKind.i64.wrap ((↑x.bs.length : Int) - 4)).toNat - 0) (x.c - 0)] ++ []).set 0
  (AV.msl 2 0 0 ((IntKind.i64.wrap ((↑x.bs.length : Int) - 4)).toNat - 0) (x.c - 0)) = [AV.msl 2 0 0 (List.take ((IntKind.i64.wrap ((↑x.bs.length : Int) - 4)).toNat - 0) (List.drop 0 x.bs)).length (x.c - 0)] ∧ (some (bR ((List.take ((IntKind.i64.wrap ((↑x.bs.length : Int) - 4)).toNat - 0) (List.drop 0 x.bs)))) = some (bR ((List.take ((IntKind.i64.wrap ((↑x.bs.length : Int) - 4)).toNat - 0) (List.drop 0 x.bs)))) ∧ True) ∧ (∀ (y : Unit), True → sp ((bif true then !ByteArray.mk (Array.mk (List.map (fun (n : Int) => UInt8.ofNat n.toNat) (List.take (sealB (List.take ((IntKind.i64.wrap ((↑x.bs.length : Int) - 4)).toNat - 0) (List.drop 0 x.bs))).length (List.drop 0 (sealB (List.take ((IntKind.i64.wrap ((↑x.bs.length : Int) - 4)).toNat - 0) (List.drop 0 x.bs))))))) == ByteArray.mk (Array.mk (List.map (fun (n : Int) => UInt8.ofNat n.toNat) (List.take x.bs.length (List.drop 0 x.bs)))) else
  ByteArray.mk (Array.mk (List.map (fun (n : Int) => UInt8.ofNat n.toNat) (List.take (sealB (List.take ((IntKind.i64.wrap ((↑x.bs.length : Int) - 4)).toNat - 0) (List.drop 0 x.bs))).length (List.drop 0 (sealB (List.take ((IntKind.i64.wrap ((↑x.bs.length : Int) - 4)).toNat - 0) (List.drop 0 x.bs))))))) == ByteArray.mk (Array.mk (List.map (fun (n : Int) => UInt8.ofNat n.toNat) (List.take x.bs.length (List.drop 0 x.bs))))) == bif true then !ByteArray.mk (Array.mk (List.map (fun (n : Int) => UInt8.ofNat n.toNat) (List.take (sealB (List.take ((IntKind.i64.wrap ((↑x.bs.length : Int) - 4)).toNat - 0) (List.drop 0 x.bs))).length (List.drop 0 (sealB (List.take ((IntKind.i64.wrap ((↑x.bs.length : Int) - 4)).toNat - 0) (List.drop 0 x.bs))))))) == ByteArray.mk (Array.mk (List.map (fun (n : Int) => UInt8.ofNat n.toNat) (List.take x.bs.length (List.drop 0 x.bs)))) else ByteArray.mk (Array.mk (List.map
  (fun (n : Int) => UInt8.ofNat n.toNat) (List.take (sealB (List.take ((IntKind.i64.wrap ((↑x.bs.length : Int) - 4)).toNat - 0) (List.drop 0 x.bs))).length (List.drop 0 (sealB (List.take ((IntKind.i64.wrap ((↑x.bs.length : Int) - 4)).toNat - 0) (List.drop 0 x.bs))))))) == ByteArray.mk (Array.mk (List.map (fun (n : Int) => UInt8.ofNat n.toNat) (List.take x.bs.length (List.drop 0 x.bs))))) (sp (decide (0 + (sealB (List.take ((IntKind.i64.wrap ((↑x.bs.length : Int) - 4)).toNat - 0) (List.drop 0 x.bs))).length ≤ (sealB (List.take ((IntKind.i64.wrap ((↑x.bs.length : Int) - 4)).toNat - 0) (List.drop 0 x.bs))).length) && decide (ByteArray.mk (Array.mk (List.map (fun (n : Int) => UInt8.ofNat n.toNat) (List.take (sealB (List.take ((IntKind.i64.wrap ((↑x.bs.length : Int) - 4)).toNat - 0) (List.drop 0 x.bs))).length (List.drop 0 (sealB (List.take ((IntKind.i64.wrap ((↑x.bs.length : Int) - 4)).toNat -
  0) (List.drop 0 x.bs))))))) = ByteArray.mk (Array.mk (List.map (fun (n : Int) => UInt8.ofNat n.toNat) (List.take (sealB (List.take ((IntKind.i64.wrap ((↑x.bs.length : Int) - 4)).toNat - 0) (List.drop 0 x.bs))).length (List.drop 0 (sealB (List.take ((IntKind.i64.wrap ((↑x.bs.length : Int) - 4)).toNat - 0) (List.drop 0 x.bs))))))))) (sp (decide (0 + x.bs.length ≤ x.bs.length) && decide (rdec_c_p3 x)) (sp (x.bs.length.beq x.bs.length && x.c.beq x.c) (sp (bif true then !ByteArray.mk (Array.mk (List.map (fun (n : Int) => UInt8.ofNat n.toNat) (List.take (sealB (List.take ((IntKind.i64.wrap ((↑x.bs.length : Int) - 4)).toNat - 0) (List.drop 0 x.bs))).length (List.drop 0 (sealB (List.take ((IntKind.i64.wrap ((↑x.bs.length : Int) - 4)).toNat - 0) (List.drop 0 x.bs))))))) == ByteArray.mk (Array.mk (List.map (fun (n : Int) => UInt8.ofNat n.toNat) (List.take x.bs.length (List.drop 0 x.bs)))) else
  ByteArray.mk (Array.mk (List.map (fun (n : Int) => UInt8.ofNat n.toNat) (List.take (sealB (List.take ((IntKind.i64.wrap ((↑x.bs.length : Int) - 4)).toNat - 0) (List.drop 0 x.bs))).length (List.drop 0 (sealB (List.take ((IntKind.i64.wrap ((↑x.bs.length : Int) - 4)).toNat - 0) (List.drop 0 x.bs))))))) == ByteArray.mk (Array.mk (List.map (fun (n : Int) => UInt8.ofNat n.toNat) (List.take x.bs.length (List.drop 0 x.bs))))) ((∃ (y : RcE), (decP x.bs = DecR.ok y.y.d ∧ y.y.caps) ∧ False) ∨ ∃ (y : RcE), decP x.bs = DecR.no y.e ∧ [AV.tup [AV.agg (rdec_c_p4 x), nI 292]] = (rdec_c_p2 x y) ∧ bR x.bs = bR x.bs ∧ True) (sp (decide ((↑((IntKind.i64.wrap ((↑x.bs.length : Int) - 4)).toNat - 0) : Int) < 4)) (rdec_c_p1 x) (sp (decide (0 < (↑((IntKind.i64.wrap ((↑x.bs.length : Int) - 4)).toNat - 0) : Int)) && true) (sp (decide (0 < x.bs.length)) (sp (bif false then true else x.bs.getD 0 0 != 109) (rdec_c_p1
  x) (sp (decide (1 < (↑((IntKind.i64.wrap ((↑x.bs.length : Int) - 4)).toNat - 0) : Int)) && true) (sp (decide (1 < x.bs.length)) (sp (bif false then true else x.bs.getD 1 0 != 117) (rdec_c_p1 x) (sp (decide (2 < (↑((IntKind.i64.wrap ((↑x.bs.length : Int) - 4)).toNat - 0) : Int)) && true) (sp (decide (2 < x.bs.length)) (sp (bif false then true else x.bs.getD 2 0 != 109) (rdec_c_p1 x) (sp (decide (3 < (↑((IntKind.i64.wrap ((↑x.bs.length : Int) - 4)).toNat - 0) : Int)) && true) (sp (decide (3 < x.bs.length)) (sp (bif false then true else x.bs.getD 3 0 != 1) (rdec_c_p1 x) (sp (decide (4 ≤ (IntKind.i64.wrap ((↑x.bs.length : Int) - 4)).toNat - 0) && decide ((IntKind.i64.wrap ((↑x.bs.length : Int) - 4)).toNat - 0 ≤ x.c - 0) && decide (x.c - 0 ≤ x.c - 0) && true) ((4 + ((IntKind.i64.wrap ((↑x.bs.length : Int) - 4)).toNat - 0 - 4) ≤ x.bs.length ∧ x.bs.length ≤ 140737488355328 ∧ (∀ (x_1 : Int),
  List.Mem x_1 x.bs → 0 ≤ x_1 ∧ x_1 < 256) ∧ (IntKind.i64.wrap ((↑x.bs.length : Int) - 4)).toNat - 0 - 4 ≤ x.c - 0 - 4) ∧ [AV.ptr 4 0 0] = [AV.ptr 4 0 0] ∧ (some (ABlk.mk true [AV.msl 0 4 0 ((IntKind.i64.wrap ((↑x.bs.length : Int) - 4)).toNat - 0 - 4) (x.c - 0 - 4), nI 0].length (AC.cells [AV.msl 0 4 0 ((IntKind.i64.wrap ((↑x.bs.length : Int) - 4)).toNat - 0 - 4) (x.c - 0 - 4), nI 0])) = some (ABlk.mk true 2 (AC.cells [AV.msl 0 4 0 ((IntKind.i64.wrap ((↑x.bs.length : Int) - 4)).toNat - 0 - 4) (x.c - 0 - 4), nI 0])) ∧ some (bR x.bs) = some (bR x.bs) ∧ True) ∧ (∀ (y : GuY), GuIs (RdX.mk (RgX.mk x.bs 4 ((IntKind.i64.wrap ((↑x.bs.length : Int) - 4)).toNat - 0 - 4) (x.c - 0 - 4)) 0 0).l (RS.mk 4 0) y.d (RS.mk y.o y.e) ∧ (y.o + y.m = 4 + ((IntKind.i64.wrap ((↑x.bs.length : Int) - 4)).toNat - 0 - 4) ∧ y.m ≤ y.c ∧ y.o + y.c = 4 + (x.c - 0 - 4)) ∧ y.caps → sp (y.e == 0) (sp (bif true then decide
  ((↑y.m : Int) > 0) else false) (rdec_c_p1 x) (rdec_c_p0 x y)) (rdec_c_p0 x y)) ∧ True) False)) False) False)) False) False)) False) False)) False) False))) False) False) False) False) ∧ True) False) False) False) False)
theorem rdec_c_e (x : Row) : some (rdec_c_V x) = (rdecC.cond sp Go.Proofs.Tryz.prog (drP sp Go.Proofs.Tryz.prog) noLoops (orK (viewA F_mummerref29_Sealed 0 (rsealC.orc sp)) (orK (rsavedC.orc sp) (rkeepC.orc sp))) 60 2 x) := by kernel_rfl
theorem ba_refl (a : ByteArray) : (a == a) = true := by
  cases a
  exact beq_self_eq_true (α := Array UInt8) _
theorem u8_of {m n : Int} (hm0 : 0 ≤ m) (hm : m < 256) (hn0 : 0 ≤ n) (hn : n < 256) (h : UInt8.ofNat m.toNat = UInt8.ofNat n.toNat) : m = n := by
  have h := congrArg UInt8.toNat h
  rw [UInt8.toNat_ofNat', UInt8.toNat_ofNat'] at h
  omega
theorem bytes_map : ∀ {a b : List Int}, IsBytes a → IsBytes b → a.map (fun n => UInt8.ofNat n.toNat) = b.map (fun n => UInt8.ofNat n.toNat) → a = b
  | [], [], _, _, _ => rfl
  | [], _ :: _, _, _, h => by cases h
  | _ :: _, [], _, _, h => by cases h
  | x :: a, y :: b, ha, hb, h => by
    simp only [List.map_cons, List.cons.injEq] at h
    have hx := ha x List.mem_cons_self
    have hy := hb y List.mem_cons_self
    rw [u8_of hx.1 hx.2 hy.1 hy.2 h.1, bytes_map (fun n hn => ha n (List.mem_cons_of_mem _ hn)) (fun n hn => hb n (List.mem_cons_of_mem _ hn)) h.2]
theorem take_all (l : List Int) : List.take l.length (List.drop 0 l) = l := List.take_length
theorem ba_eq {a b : List Int} (ha : IsBytes a) (hb : IsBytes b) (h : (ByteArray.mk (Array.mk (a.map fun n => UInt8.ofNat n.toNat)) == ByteArray.mk (Array.mk (b.map fun n => UInt8.ofNat n.toNat))) = true) : a = b := by
  have h : (Array.mk (a.map fun n => UInt8.ofNat n.toNat) == Array.mk (b.map fun n => UInt8.ofNat n.toNat)) = true := h
  rw [beq_iff_eq] at h
  exact bytes_map ha hb (by simpa using h)
/-- Where a row is not what its beginning, sealed, is: it is refused for its sum. -/
theorem openN_ne {l : List Int} (hb : IsBytes l) (h4 : ¬ l.length < 4) (h : sealB (l.take (l.length - 4)) ≠ l) : openN l = .no 292 := by
  unfold openN
  rw [if_neg h4]
  split
  · rfl
  · rename_i hs
    have : openN l = .ok (l.take (l.length - 4)) := by
      unfold openN
      rw [if_neg h4, if_neg hs]
    exact absurd (openN_canon hb this).symm h
def gu0 : GuY := ⟨Dv0, 0, 0, 0, 0, 0, 0, 0, 0⟩
def Rng (n : Int) : Prop := 0 ≤ n ∧ n ≤ 4294967295
theorem upP_rng {bs : List Int} {most : Int} {o : Nat} {n : Int} {o' : Nat} (h : upP bs most o = .ok n o') : 0 ≤ n ∧ n ≤ most := by
  unfold upP upN at h
  rcases getN_range (bs.drop o) with ⟨n', u, e, h3, h4, h5⟩ | e | e
  · rw [e] at h
    simp only [ne_eq, not_true_eq_false, if_false] at h
    by_cases hm : n' > most
    · rw [if_pos hm] at h; cases h
    · rw [if_neg hm] at h
      simp only [PR.ok.injEq] at h
      omega
  · rw [e] at h; simp at h
  · rw [e] at h; simp at h
theorem numsP_rng {bs : List Int} : ∀ (k : Nat) {o : Nat} {l : List Int} {o' : Nat}, numsP bs k o = .ok l o' → ∀ n ∈ l, Rng n
  | 0, o, l, o', h => by cases h; exact fun n hn => (by cases hn)
  | k + 1, o, l, o', h => by
    obtain ⟨n, _, h1, h⟩ := PR.bind_ok h
    obtain ⟨t, _, h2, h⟩ := PR.bind_ok h
    cases h
    intro m hm
    rcases List.mem_cons.1 hm with rfl | hm
    · exact upP_rng h1
    · exact numsP_rng k h2 m hm
theorem getD_rng {l : List Int} (h : ∀ n ∈ l, Rng n) (k : Nat) : Rng (l.getD k 0) := by
  rw [List.getD_eq_getElem?_getD]
  cases hk : l[k]? with
  | none => exact ⟨Int.le_refl _, by decide⟩
  | some n => exact h n (List.mem_of_getElem? hk)
theorem savP_rng {bs : List Int} {o : Nat} {d : Dv} {o' : Nat} (h : savP bs o = .ok d o') : Rng d.s.ps ∧ ∀ k, Rng (d.bl.getD k 0) := by
  obtain ⟨_, _, h1, h⟩ := PR.bind_ok h
  obtain ⟨_, _, h2, h⟩ := PR.bind_ok h
  obtain ⟨s, _, h3, h⟩ := PR.bind_ok h
  obtain ⟨_, _, h4, h⟩ := PR.bind_ok h
  obtain ⟨_, _, h5, h⟩ := PR.bind_ok h
  obtain ⟨_, _, h6, h⟩ := PR.bind_ok h
  obtain ⟨_, _, h7, h⟩ := PR.bind_ok h
  obtain ⟨_, _, h8, h⟩ := PR.bind_ok h
  obtain ⟨_, _, h9, h⟩ := PR.bind_ok h
  obtain ⟨bl, _, h10, h⟩ := PR.bind_ok h
  cases h
  obtain ⟨l, _, q1, h3⟩ := PR.bind_ok h3
  obtain ⟨e, _, q2, h3⟩ := PR.bind_ok h3
  cases h3
  exact ⟨getD_rng (numsP_rng 18 q1) 9, getD_rng (numsP_rng 8 h10)⟩
theorem rk_ok {y : GuY} (h : y.caps) (hf : y.d.sv.fine) (hw : Rng y.d.s.ps ∧ ∀ k, Rng (y.d.bl.getD k 0)) : RkOk y.sv := by
  obtain ⟨m1, m2, m3, m4, m5, m6⟩ := hf
  obtain ⟨w1, w2⟩ := hw
  exact ⟨⟨⟨m1.1, h.c0⟩, m2, ⟨m3.1, h.c2⟩, ⟨m4.1, h.c3⟩, ⟨m5.1, h.c4⟩, m6⟩, w1, w2 0, w2 1, (w2 4).1⟩
set_option maxRecDepth 100000 in
set_option maxHeartbeats 8000000 in
theorem rdec_ok (hn : (rnumC F_mummerref30_Reader_number .u64 rnum).OK Go.Proofs.Tryz.prog) (hb : rgbC.OK Go.Proofs.Tryz.prog) : rdecC.OK Go.Proofs.Tryz.prog := by
  refine Con.by hmix (noLoops_ok _) (orK_ok (viewA_ok (Con.orc_ok rseal_ok)) (orK_ok (Con.orc_ok (rsaved_ok hn hb)) (Con.orc_ok rkeep_ok))) rdec_c_V rdec_c_e (fun x hx => ?_)
  obtain ⟨bs, c⟩ := x
  obtain ⟨hB, hl, hc⟩ := hx
  have hB : IsBytes bs := hB
  have hl : bs.length ≤ 140737488355324 := hl
  have hc : bs.length ≤ c := hc
  unfold rdec_c_V
  refine spP (fun h => ?_) (fun h => ?_)
  · have h : (bs.length : Int) < 4 := h
    have h : bs.length < 4 := by omega
    exact .inr ⟨⟨gu0, 290⟩, by show decP bs = _; unfold decP openN; rw [if_pos h], rfl, rfl, trivial⟩
  have h : ¬ (bs.length : Int) < 4 := h
  have h4 : ¬ bs.length < 4 := by omega
  have hN : (IntKind.wrap .i64 ((bs.length : Int) - 4)).toNat - 0 = bs.length - 4 := by rw [IntWalk.i64_in _ (by omega)]; omega
  have hN2 : (IntKind.wrap .i64 ((bs.length : Int) - 4)).toNat = bs.length - 4 := hN
  have hN0 : (0 : Int) ≤ IntKind.wrap .i64 ((bs.length : Int) - 4) := by rw [IntWalk.i64_in _ (by omega)]; omega
  dsimp only
  rw [hN, hN2]
  have hlen : (List.take (bs.length - 4) (List.drop 0 bs)).length = bs.length - 4 := by
    show (List.take (bs.length - 4) bs).length = _
    simp
  have hBl : IsBytes (bs.take (bs.length - 4)) := fun n hn => hB n (List.mem_of_mem_take hn)
  have no : ∀ e, decP bs = .no e → (∃ z : RcE, (decP bs = .ok z.y.d ∧ z.y.caps) ∧ False) ∨ ∃ z : RcE, decP bs = .no z.e ∧ [AV.tup [AV.agg (rdec_c_p4 ⟨bs, c⟩), nI e]] = rdec_c_p2 ⟨bs, c⟩ z ∧ bR bs = bR bs ∧ True := fun e he => .inr ⟨⟨gu0, e⟩, he, rfl, rfl, trivial⟩
  refine spT ?_ (spT ?_ (spT ?_ (spT ?_ ⟨?_, ?_, ⟨rfl, trivial⟩, fun _ _ => spT (beq_self_eq_true _) (spT ?_ (spT ?_ (spT ?_ (spI (fun hs => ?_) (fun hs => ?_))))), trivial⟩)))
  · show (decide ((0 : Int) ≤ IntKind.wrap .i64 ((bs.length : Int) - 4)) && true && true && decide (bs.length - 4 ≤ c) && decide (c ≤ c) && true) = true
    rw [decide_eq_true hN0, decide_eq_true (by omega : bs.length - 4 ≤ c), decide_eq_true (Nat.le_refl c)]
    rfl
  · simp
  · simp
  · simp
  · rw [hlen]
    exact (by omega : bs.length - 4 ≤ 140737488355324)
  · rw [hlen]
    rfl
  · simp
  · simp
  · simp
  · have hs : (!(ByteArray.mk (Array.mk ((List.take (sealB (bs.take (bs.length - 4))).length (List.drop 0 (sealB (bs.take (bs.length - 4))))).map fun n => UInt8.ofNat n.toNat)) == ByteArray.mk (Array.mk ((List.take bs.length (List.drop 0 bs)).map fun n => UInt8.ofNat n.toNat)))) = true := hs
    rw [take_all, take_all] at hs
    refine no 292 ?_
    unfold decP
    rw [openN_ne hB h4 (fun e => by rw [e, ba_refl] at hs; cases hs)]
  have hs : (!(ByteArray.mk (Array.mk ((List.take (sealB (bs.take (bs.length - 4))).length (List.drop 0 (sealB (bs.take (bs.length - 4))))).map fun n => UInt8.ofNat n.toNat)) == ByteArray.mk (Array.mk ((List.take bs.length (List.drop 0 bs)).map fun n => UInt8.ofNat n.toNat)))) = false := hs
  rw [take_all, take_all] at hs
  have e := ba_eq (sealB_bytes hBl) hB (by simpa using hs)
  have hLl : (bs.take (bs.length - 4)).length = bs.length - 4 := hlen
  have hD : decP bs = decIn (bs.take (bs.length - 4)) := by
    have q := openN_seal (bs.take (bs.length - 4))
    rw [e] at q
    unfold decP
    rw [q]
  have gd : ∀ k, k < bs.length - 4 → (bs.take (bs.length - 4)).getD k 0 = bs.getD k 0 := fun k hk => by
    rw [List.getD_eq_getElem?_getD, List.getD_eq_getElem?_getD, List.getElem?_take, if_pos hk]
  have sh : bs.length - 4 < 4 → decP bs = .no 291 := fun q => by
    rw [hD]
    unfold decIn
    rw [hLl, if_pos q]
  refine spP (fun m => no 291 (sh (by have m : ((bs.length - 4 : Nat) : Int) < 4 := m; omega))) (fun m => ?_)
  have m : ¬ ((bs.length - 4 : Nat) : Int) < 4 := m
  have m4 : ¬ bs.length - 4 < 4 := by omega
  have mg : magicB (bs.take (bs.length - 4)) = true ↔ bs.getD 0 0 = 109 ∧ bs.getD 1 0 = 117 ∧ bs.getD 2 0 = 109 ∧ bs.getD 3 0 = 1 := by
    unfold magicB
    rw [gd 0 (by omega), gd 1 (by omega), gd 2 (by omega), gd 3 (by omega)]
    simp
  have bad : ¬ magicB (bs.take (bs.length - 4)) = true → decP bs = .no 291 := fun q => by
    rw [hD]
    unfold decIn
    rw [hLl, if_neg m4, if_pos (Bool.eq_false_iff.2 q)]
  rw [mg] at bad
  have A : ∀ k : Int, k < 4 → (decide (k < ((bs.length - 4 : Nat) : Int)) && true) = true := fun k hk => by rw [Bool.and_true]; exact decide_eq_true (by omega)
  have B : ∀ k, k < 4 → decide (k < bs.length) = true := fun k hk => decide_eq_true (by omega)
  have l4 : 4 + (bs.length - 4 - 4) = bs.length - 4 := by omega
  refine spT (A 0 (by decide)) (spT (B 0 (by decide)) (spN (fun m0 => no 291 (bad (fun q => m0 q.1))) (fun m0 => spT (A 1 (by decide)) (spT (B 1 (by decide)) (spN (fun m1 => no 291 (bad (fun q => m1 q.2.1))) (fun m1 => spT (A 2 (by decide)) (spT (B 2 (by decide)) (spN (fun m2 => no 291 (bad (fun q => m2 q.2.2.1))) (fun m2 => spT (A 3 (by decide)) (spT (B 3 (by decide)) (spN (fun m3 => no 291 (bad (fun q => m3 q.2.2.2))) (fun m3 => spT ?_ ⟨⟨?_, ?_, hB, ?_⟩, rfl, ⟨rfl, rfl, trivial⟩, fun y hy => ?_, trivial⟩))))))))))))
  · show (decide (4 ≤ bs.length - 4) && decide (bs.length - 4 ≤ c - 0) && decide (c - 0 ≤ c - 0) && true) = true
    rw [decide_eq_true (by omega : 4 ≤ bs.length - 4), decide_eq_true (by omega : bs.length - 4 ≤ c - 0), decide_eq_true (Nat.le_refl _)]
    rfl
  · show 4 + (bs.length - 4 - 4) ≤ bs.length
    omega
  · show bs.length ≤ 140737488355328
    omega
  · show bs.length - 4 - 4 ≤ c - 0 - 4
    omega
  obtain ⟨y1, ⟨y2, y3, y4⟩, y5⟩ := hy
  have hG : decP bs = decGo (bs.length - 4) (savP (bs.take (bs.length - 4)) 4) := by
    rw [hD]
    unfold decIn
    rw [hLl, if_neg m4, if_neg (by rw [mg.2 ⟨m0, m1, m2, m3⟩]; decide)]
  have y1 : rguest (bs.take (4 + (bs.length - 4 - 4))) ⟨4, 0⟩ = (y.d, ⟨y.o, y.e⟩) := y1.eq
  rw [l4] at y1
  have y2 : y.o + y.m = 4 + (bs.length - 4 - 4) := y2
  have sg := s_guest (bs.take (bs.length - 4)) 4
  rw [y1] at sg
  have sv : y.e = 0 → savP (bs.take (bs.length - 4)) 4 = .ok y.d y.o := fun e0 => by
    cases hp : savP (bs.take (bs.length - 4)) 4 with
    | ok d o =>
      rw [hp] at sg
      have sg : ((y.d, ⟨y.o, y.e⟩) : Dv × RS) = (d, ⟨o, 0⟩) := sg
      simp only [Prod.mk.injEq, RS.mk.injEq] at sg
      rw [sg.1, sg.2.1]
    | no e =>
      rw [hp] at sg
      obtain ⟨q1, q2⟩ := sg
      exact absurd (q2.symm.trans e0) q1
  have er : y.e ≠ 0 → decP bs = .no y.e := fun e0 => by
    rw [hG]
    cases hp : savP (bs.take (bs.length - 4)) 4 with
    | ok d o =>
      rw [hp] at sg
      have sg : ((y.d, ⟨y.o, y.e⟩) : Dv × RS) = (d, ⟨o, 0⟩) := sg
      simp only [Prod.mk.injEq, RS.mk.injEq] at sg
      exact absurd sg.2.2 e0
    | no e =>
      rw [hp] at sg
      obtain ⟨q1, q2⟩ := sg
      have q2 : y.e = e := q2
      rw [q2]
      rfl
  have main : (y.e = 0 → y.m = 0) → rdec_c_p0 ⟨bs, c⟩ y := fun hm => by
    refine spE (fun e0 => ?_) (fun e0 => ?_)
    · have hp := sv e0
      have hm := hm e0
      rw [hp] at hG
      simp only [decGo] at hG
      rw [if_neg (by omega)] at hG
      obtain ⟨f1, f2, f3⟩ := savP_fine hp (by rw [hLl]; omega)
      have wf := savP_rng hp
      refine ⟨rk_ok y5 f1 wf, rfl, ⟨rfl, rfl, rfl, rfl, rfl, rfl, trivial⟩, fun _ _ => spN (fun k => ?_) (fun k => ?_), trivial⟩
      · have k : keepN y.d.sv ≠ 0 := k
        rw [if_neg k] at hG
        exact spT (decide_eq_true rfl) (spT (decide_eq_true rfl) (spT (decide_eq_true rfl) (spT (decide_eq_true rfl) (.inr ⟨⟨gu0, keepN y.d.sv⟩, hG, rfl, rfl, trivial⟩))))
      · have k : keepN y.d.sv = 0 := k
        rw [if_pos k] at hG
        exact .inl ⟨⟨y, 0⟩, ⟨hG, y5⟩, rfl, rfl, rfl, ⟨rfl, rfl, rfl, fun _ _ => rfl⟩, rfl, rfl, rfl, ⟨rfl, rfl, rfl, fun _ _ => rfl⟩, trivial⟩
    · exact spN (fun _ => spT (decide_eq_true rfl) (spT (decide_eq_true rfl) (spT (decide_eq_true rfl) (spT (decide_eq_true rfl) (.inr ⟨⟨gu0, y.e⟩, er e0, rfl, rfl, trivial⟩))))) (fun q => absurd q e0)
  refine spE (fun e0 => spP (fun mm => no 291 ?_) (fun mm => main (fun _ => by have mm : ¬ ((y.m : Nat) : Int) > 0 := mm; omega))) (fun e0 => main (fun q => absurd q e0))
  have mm : ((y.m : Nat) : Int) > 0 := mm
  rw [hG, sv e0]
  simp only [decGo]
  rw [if_pos (by omega)]
end Go.Proofs.YtmbcpmbpkdeioaaGreatDoor.W
/- The law FileDecodes, for bytes that are sealed first and for those that are not: what is reckoned. No condition. -/
namespace Go.Proofs.YtmbcpmbpkdeioaaGreatDoor.W
open Go Go.RowKit Go.Eng
set_option maxRecDepth 100000
set_option linter.unusedVariables false
set_option linter.unusedSimpArgs false
def rdec0C : Con Unit Unit where
  f := F_mummerref30_Decode
  fit vs _ := none1 vs
  n0 := 1
  pre _ := True
  args _ := [.msl 0 0 0 0 0]
  L0 _ := []
  outs _ := [(fun _ => True, fun _ => (.ret (.tup [.agg zeroSv, .int .i64 290]), 1, []))]
def fdecC (se : Bool) : Con Row Unit where
  f := F_mummerlaw30_FileDecodes
  fit _ _ := none
  n0 := 1
  pre x := IsBytes x.bs ∧ x.bs.length ≤ 140737488351232 ∧ x.bs.length ≤ x.c
  args x := [.msl 0 0 0 x.bs.length x.c, .bool se]
  L0 x := [(0, ⟨false, 1, .ints .u8 x.bs⟩)]
  outs _ := [(fun _ => True, fun _ => (.ret (.bool true), 1, []))]
def fdec0C (se : Bool) : Con Unit Unit where
  f := F_mummerlaw30_FileDecodes
  fit _ _ := none
  n0 := 1
  pre _ := True
  args _ := [.msl 0 0 0 0 0, .bool se]
  L0 _ := []
  outs _ := [(fun _ => True, fun _ => (.ret (.bool true), 1, []))]
end Go.Proofs.YtmbcpmbpkdeioaaGreatDoor.W
/- The law FileDecodes: the walks. No condition. -/
namespace Go.Proofs.YtmbcpmbpkdeioaaGreatDoor.W
open Go Go.RowKit Go.Eng
set_option maxRecDepth 100000
set_option linter.unusedVariables false
set_option linter.unusedSimpArgs false
def rdec0_c_V (x : Unit) : Prop :=
  ∃ (y : Unit), True ∧ [AV.tup [AV.agg [nI 0, AV.nils, nU 0, nU 0, nU 0, nU 0, nU 0, nU 0, nU 0, nU 0, nU 0, nU 0, nU 0, nU 0, nU 0, nU 0, nU 0, nU 0, nU 0, nU 0, AV.bool false, nI 0, AV.nils, AV.nils, AV.nils, AV.nils, AV.nils, nU 0, nU 0, nU 0, nU 0, nU 0, nU 0, nU 0, nU 0], nI 290]] = [AV.tup [AV.agg [nI 0, AV.nils, nU 0, nU 0, nU 0, nU 0, nU 0, nU 0, nU 0, nU 0, nU 0, nU 0, nU 0, nU 0, nU 0, nU 0, nU 0, nU 0, nU 0, nU 0, AV.bool false, nI 0, AV.nils, AV.nils, AV.nils, AV.nils, AV.nils, nU 0, nU 0, nU 0, nU 0, nU 0, nU 0, nU 0, nU 0], nI 290]] ∧ True
theorem rdec0_c_e (x : Unit) : some (rdec0_c_V x) = (rdec0C.cond sp Go.Proofs.Tryz.prog (drP sp Go.Proofs.Tryz.prog) noLoops noBaseK 60 2 x) := by kernel_rfl
theorem rdec0_ok : rdec0C.OK Go.Proofs.Tryz.prog := by
  refine Con.by hmix (noLoops_ok _) (noBaseK_ok _) rdec0_c_V rdec0_c_e (fun _ _ => ?_)
  unfold rdec0_c_V
  exact ⟨(), trivial, rfl, trivial⟩
abbrev fd1_c_p0 (x : Row) (y_1 : RcE) : List AV :=
  [nI y_1.y.d.fr, AV.msl 9 0 0 y_1.y.d.mem.length y_1.y.c0, nU y_1.y.d.s.r0, nU y_1.y.d.s.r1, nU y_1.y.d.s.r2, nU y_1.y.d.s.r3, nU y_1.y.d.s.r4, nU y_1.y.d.s.r5, nU y_1.y.d.s.r6, nU y_1.y.d.s.r7, nU y_1.y.d.s.pc, nU y_1.y.d.s.ps, nU y_1.y.d.s.c0, nU y_1.y.d.s.c1, nU y_1.y.d.s.c2, nU y_1.y.d.s.c3, nU y_1.y.d.s.c4, nU y_1.y.d.s.c5, nU y_1.y.d.s.c6, nU y_1.y.d.s.c7, AV.bool y_1.y.d.s.h, nI y_1.y.d.steps, AV.msl 10 0 0 y_1.y.d.notes.length y_1.y.d.notes.length, AV.msl 11 0 0 y_1.y.d.out.length y_1.y.c2, AV.msl 12 0 0 y_1.y.d.disk.length y_1.y.c3, AV.msl 13 0 0 y_1.y.d.queue.length y_1.y.c4, AV.msl 14 0 0 y_1.y.d.script.length y_1.y.d.script.length, nU (y_1.y.d.bl.getD 0 0), nU (y_1.y.d.bl.getD 1 0), nU (y_1.y.d.bl.getD 2 0), nU (y_1.y.d.bl.getD 3 0), nU (y_1.y.d.bl.getD 4 0), nU (y_1.y.d.bl.getD 5 0), nU (y_1.y.d.bl.getD 6 0), nU (y_1.y.d.bl.getD 7 0)]
abbrev fd1_c_p1 (x : Row) (y : DecE) : List AV :=
  [nI y.d.fr, AV.msl 2 0 0 y.d.mem.length y.d.mem.length, nU y.d.s.r0, nU y.d.s.r1, nU y.d.s.r2, nU y.d.s.r3, nU y.d.s.r4, nU y.d.s.r5, nU y.d.s.r6, nU y.d.s.r7, nU y.d.s.pc, nU y.d.s.ps, nU y.d.s.c0, nU y.d.s.c1, nU y.d.s.c2, nU y.d.s.c3, nU y.d.s.c4, nU y.d.s.c5, nU y.d.s.c6, nU y.d.s.c7, AV.bool y.d.s.h, nI y.d.steps, AV.msl 3 0 0 y.d.notes.length y.d.notes.length, AV.msl 4 0 0 y.d.out.length y.d.out.length, AV.msl 5 0 0 y.d.disk.length y.d.disk.length, AV.msl 6 0 0 y.d.queue.length y.d.queue.length, AV.msl 7 0 0 y.d.script.length y.d.script.length, nU (y.d.bl.getD 0 0), nU (y.d.bl.getD 1 0), nU (y.d.bl.getD 2 0), nU (y.d.bl.getD 3 0), nU (y.d.bl.getD 4 0), nU (y.d.bl.getD 5 0), nU (y.d.bl.getD 6 0), nU (y.d.bl.getD 7 0)]
abbrev fd1_c_p3 (x : Row) : List AV :=
  [nI 0, AV.nils, nU 0, nU 0, nU 0, nU 0, nU 0, nU 0, nU 0, nU 0, nU 0, nU 0, nU 0, nU 0, nU 0, nU 0, nU 0, nU 0, nU 0, nU 0, AV.bool false, nI 0, AV.nils, AV.nils, AV.nils, AV.nils, AV.nils, nU 0, nU 0, nU 0, nU 0, nU 0, nU 0, nU 0, nU 0]
abbrev fd1_c_p2 (x : Row) : List AV :=
  [AV.agg (fd1_c_p3 x), AV.agg (fd1_c_p3 x)]
abbrev fd1_c_p4 (x : Row) (i : Nat) (y_1 : RcE) : List AV :=
  [nI (y_1.y.d.notes.getD i instInhabitedN4.default).a, nI (y_1.y.d.notes.getD i instInhabitedN4.default).c, nU (y_1.y.d.notes.getD i instInhabitedN4.default).b, nU (y_1.y.d.notes.getD i instInhabitedN4.default).d]
abbrev fd1_c_p5 (x : Row) (i : Nat) (y : DecE) : List AV :=
  [nI (y.d.notes.getD i instInhabitedN4.default).a, nI (y.d.notes.getD i instInhabitedN4.default).c, nU (y.d.notes.getD i instInhabitedN4.default).b, nU (y.d.notes.getD i instInhabitedN4.default).d]
abbrev fd1_c_p6 (x : Row) (i : Nat) (y_1 : RcE) : List AV :=
  [nI (y_1.y.d.script.getD i instInhabitedE3.default).a, nI (y_1.y.d.script.getD i instInhabitedE3.default).k, nB (y_1.y.d.script.getD i instInhabitedE3.default).x]
abbrev fd1_c_p7 (x : Row) : Prop :=
  (∀ (x_1 : Int), List.Mem x_1 (sealB x.bs) → 0 ≤ x_1 ∧ x_1 < 256) ∧ (sealB x.bs).length ≤ 140737488355324 ∧ (sealB x.bs).length ≤ (sealB x.bs).length
abbrev fd1_c_p8 (x : Row) (i : Nat) (y : DecE) : List AV :=
  [nI (y.d.script.getD i instInhabitedE3.default).a, nI (y.d.script.getD i instInhabitedE3.default).k, nB (y.d.script.getD i instInhabitedE3.default).x]
abbrev fd1_c_p9 (x : Row) : Prop :=
  ∀ (y : Unit), True → True ∧ ([] : List AV) = [] ∧ True ∧ (∀ (y : Unit), True → ∃ (y : Unit), True ∧ [AV.bool true] = [AV.bool true] ∧ True) ∧ True
def fd1_c_V (x : Row) : Prop :=
  x.bs.length.le 140737488355324 ∧ [] ++ [AV.msl 0 0 0 x.bs.length x.c] ++ [] = [AV.msl 0 0 0 x.bs.length x.c] ∧ (some (bR x.bs) = some (bR x.bs) ∧ True) ∧ (∀ (y : Unit), True → ((sealB x.bs).length ≤ 140737488355328 ∧ (sealB x.bs).length ≤ (sealB x.bs).length) ∧ [AV.msl 1 0 0 (sealB x.bs).length (sealB x.bs).length] = [AV.msl 1 0 0 (sealB x.bs).length (sealB x.bs).length] ∧ (some (bR ((sealB x.bs))) = some (bR ((sealB x.bs))) ∧ True) ∧ (∀ (y : DecE), decP (sealB x.bs) = DecR.ok y.d → (fd1_c_p7 x) ∧ [AV.msl 1 0 0 (sealB x.bs).length (sealB x.bs).length] = [AV.msl 1 0 0 (sealB x.bs).length (sealB x.bs).length] ∧ (some (bR ((sealB x.bs))) = some (bR ((sealB x.bs))) ∧ True) ∧ (∀ (y_1 : RcE), decP (sealB x.bs) = DecR.ok y_1.y.d ∧ y_1.y.caps → (y.d.mem.length ≤ 140737488355328 ∧ (y_1.y.d.notes.length = y.d.notes.length ∧ y.d.notes.length ≤ 140737488355328 ∧ ∀ (i : Nat), i < y.d.notes.length →
  (y_1.y.d.notes.getD i instInhabitedN4.default).a = (y.d.notes.getD i instInhabitedN4.default).a ∧ (y_1.y.d.notes.getD i instInhabitedN4.default).c = (y.d.notes.getD i instInhabitedN4.default).c ∧ (y_1.y.d.notes.getD i instInhabitedN4.default).b = (y.d.notes.getD i instInhabitedN4.default).b ∧ (y_1.y.d.notes.getD i instInhabitedN4.default).d = (y.d.notes.getD i instInhabitedN4.default).d) ∧ y.d.out.length ≤ 140737488355328 ∧ y.d.disk.length ≤ 140737488355328 ∧ y.d.queue.length ≤ 140737488355328 ∧ y_1.y.d.script.length = y.d.script.length ∧ y.d.script.length ≤ 140737488355328 ∧ ∀ (i : Nat), i < y.d.script.length → (y_1.y.d.script.getD i instInhabitedE3.default).a = (y.d.script.getD i instInhabitedE3.default).a ∧ (y_1.y.d.script.getD i instInhabitedE3.default).k = (y.d.script.getD i instInhabitedE3.default).k ∧ (y_1.y.d.script.getD i instInhabitedE3.default).x = (y.d.script.getD i
  instInhabitedE3.default).x) ∧ [] ++ [AV.agg (fd1_c_p1 x y), AV.agg (fd1_c_p0 x y_1)] ++ [] = [AV.agg (fd1_c_p1 x y), AV.agg [nI y.d.fr, AV.msl 9 0 0 y.d.mem.length y_1.y.c0, nU y.d.s.r0, nU y.d.s.r1, nU y.d.s.r2, nU y.d.s.r3, nU y.d.s.r4, nU y.d.s.r5, nU y.d.s.r6, nU y.d.s.r7, nU y.d.s.pc, nU y.d.s.ps, nU y.d.s.c0, nU y.d.s.c1, nU y.d.s.c2, nU y.d.s.c3, nU y.d.s.c4, nU y.d.s.c5, nU y.d.s.c6, nU y.d.s.c7, AV.bool y.d.s.h, nI y.d.steps, AV.msl 10 0 0 y_1.y.d.notes.length y_1.y.d.notes.length, AV.msl 11 0 0 y.d.out.length y_1.y.c2, AV.msl 12 0 0 y.d.disk.length y_1.y.c3, AV.msl 13 0 0 y.d.queue.length y_1.y.c4, AV.msl 14 0 0 y_1.y.d.script.length y_1.y.d.script.length, nU (y.d.bl.getD 0 0), nU (y.d.bl.getD 1 0), nU (y.d.bl.getD 2 0), nU (y.d.bl.getD 3 0), nU (y.d.bl.getD 4 0), nU (y.d.bl.getD 5 0), nU (y.d.bl.getD 6 0), nU (y.d.bl.getD 7 0)]] ∧ (some (bR y.d.mem) = some (bR y.d.mem) ∧ some
  (ABlk.mk false 4 (AC.recs y.d.notes.length fun (i : Nat) => (fd1_c_p5 x i y))) = some (ABlk.mk false 4 (AC.recs y.d.notes.length fun (i : Nat) => (fd1_c_p5 x i y))) ∧ some (bR y.d.out) = some (bR y.d.out) ∧ some (bR y.d.disk) = some (bR y.d.disk) ∧ some (bR y.d.queue) = some (bR y.d.queue) ∧ some (ABlk.mk false 3 (AC.recs y.d.script.length fun (i : Nat) => (fd1_c_p8 x i y))) = some (ABlk.mk false 3 (AC.recs y.d.script.length fun (i : Nat) => (fd1_c_p8 x i y))) ∧ some (bR y_1.y.d.mem) = some (bR y.d.mem) ∧ some (ABlk.mk false 4 (AC.recs y_1.y.d.notes.length fun (i : Nat) => (fd1_c_p4 x i y_1))) = some (ABlk.mk false 4 (AC.recs y_1.y.d.notes.length fun (i : Nat) => (fd1_c_p4 x i y_1))) ∧ some (bR y_1.y.d.out) = some (bR y.d.out) ∧ some (bR y_1.y.d.disk) = some (bR y.d.disk) ∧ some (bR y_1.y.d.queue) = some (bR y.d.queue) ∧ some (ABlk.mk false 3 (AC.recs y_1.y.d.script.length fun (i : Nat)
  => (fd1_c_p6 x i y_1))) = some (ABlk.mk false 3 (AC.recs y_1.y.d.script.length fun (i : Nat) => (fd1_c_p6 x i y_1))) ∧ True) ∧ (fd1_c_p9 x) ∧ True) ∧ (∀ (y_1 : RcE), decP (sealB x.bs) = DecR.no y_1.e → sp (0 == y_1.e) (True ∧ [] ++ [AV.agg (fd1_c_p1 x y), AV.agg (fd1_c_p3 x)] ++ [] = (fd1_c_p2 x) ∧ True ∧ (fd1_c_p9 x) ∧ True) (∃ (y : Unit), True ∧ [AV.bool false] = [AV.bool true] ∧ True)) ∧ True) ∧ (∀ (y : DecE), decP (sealB x.bs) = DecR.no y.e → (fd1_c_p7 x) ∧ [AV.msl 1 0 0 (sealB x.bs).length (sealB x.bs).length] = [AV.msl 1 0 0 (sealB x.bs).length (sealB x.bs).length] ∧ (some (bR ((sealB x.bs))) = some (bR ((sealB x.bs))) ∧ True) ∧ (∀ (y_1 : RcE), decP (sealB x.bs) = DecR.ok y_1.y.d ∧ y_1.y.caps → sp (y.e == 0) (True ∧ [] ++ [AV.agg (fd1_c_p3 x), AV.agg (fd1_c_p0 x y_1)] ++ [] = (fd1_c_p2 x) ∧ True ∧ (fd1_c_p9 x) ∧ True) (∃ (y : Unit), True ∧ [AV.bool false] = [AV.bool true] ∧ True)) ∧
  (∀ (y_1 : RcE), decP (sealB x.bs) = DecR.no y_1.e → sp (y.e == y_1.e) (True ∧ (fd1_c_p2 x) = (fd1_c_p2 x) ∧ True ∧ (fd1_c_p9 x) ∧ True) (∃ (y : Unit), True ∧ [AV.bool false] = [AV.bool true] ∧ True)) ∧ True) ∧ True) ∧ True
theorem fd1_c_e (x : Row) : some (fd1_c_V x) = ((fdecC true).cond sp Go.Proofs.Tryz.prog (drP sp Go.Proofs.Tryz.prog) noLoops (orK (rsealC.orc sp) (orK (looseK F_file_Decode 0 [] (decC.orc sp)) (orK (looseK F_mummerref30_Decode 0 [] (rdecC.orc sp)) (orK (tellC.orc sp) (orK (tell0C.orc sp) (wkC.orc sp)))))) 40 2 x) := by kernel_rfl
abbrev fd2_c_p0 (x : Row) (y_1 : RcE) : List AV :=
  [nI y_1.y.d.fr, AV.msl 8 0 0 y_1.y.d.mem.length y_1.y.c0, nU y_1.y.d.s.r0, nU y_1.y.d.s.r1, nU y_1.y.d.s.r2, nU y_1.y.d.s.r3, nU y_1.y.d.s.r4, nU y_1.y.d.s.r5, nU y_1.y.d.s.r6, nU y_1.y.d.s.r7, nU y_1.y.d.s.pc, nU y_1.y.d.s.ps, nU y_1.y.d.s.c0, nU y_1.y.d.s.c1, nU y_1.y.d.s.c2, nU y_1.y.d.s.c3, nU y_1.y.d.s.c4, nU y_1.y.d.s.c5, nU y_1.y.d.s.c6, nU y_1.y.d.s.c7, AV.bool y_1.y.d.s.h, nI y_1.y.d.steps, AV.msl 9 0 0 y_1.y.d.notes.length y_1.y.d.notes.length, AV.msl 10 0 0 y_1.y.d.out.length y_1.y.c2, AV.msl 11 0 0 y_1.y.d.disk.length y_1.y.c3, AV.msl 12 0 0 y_1.y.d.queue.length y_1.y.c4, AV.msl 13 0 0 y_1.y.d.script.length y_1.y.d.script.length, nU (y_1.y.d.bl.getD 0 0), nU (y_1.y.d.bl.getD 1 0), nU (y_1.y.d.bl.getD 2 0), nU (y_1.y.d.bl.getD 3 0), nU (y_1.y.d.bl.getD 4 0), nU (y_1.y.d.bl.getD 5 0), nU (y_1.y.d.bl.getD 6 0), nU (y_1.y.d.bl.getD 7 0)]
abbrev fd2_c_p1 (x : Row) (y : DecE) : List AV :=
  [nI y.d.fr, AV.msl 1 0 0 y.d.mem.length y.d.mem.length, nU y.d.s.r0, nU y.d.s.r1, nU y.d.s.r2, nU y.d.s.r3, nU y.d.s.r4, nU y.d.s.r5, nU y.d.s.r6, nU y.d.s.r7, nU y.d.s.pc, nU y.d.s.ps, nU y.d.s.c0, nU y.d.s.c1, nU y.d.s.c2, nU y.d.s.c3, nU y.d.s.c4, nU y.d.s.c5, nU y.d.s.c6, nU y.d.s.c7, AV.bool y.d.s.h, nI y.d.steps, AV.msl 2 0 0 y.d.notes.length y.d.notes.length, AV.msl 3 0 0 y.d.out.length y.d.out.length, AV.msl 4 0 0 y.d.disk.length y.d.disk.length, AV.msl 5 0 0 y.d.queue.length y.d.queue.length, AV.msl 6 0 0 y.d.script.length y.d.script.length, nU (y.d.bl.getD 0 0), nU (y.d.bl.getD 1 0), nU (y.d.bl.getD 2 0), nU (y.d.bl.getD 3 0), nU (y.d.bl.getD 4 0), nU (y.d.bl.getD 5 0), nU (y.d.bl.getD 6 0), nU (y.d.bl.getD 7 0)]
abbrev fd2_c_p3 (x : Row) : List AV :=
  [nI 0, AV.nils, nU 0, nU 0, nU 0, nU 0, nU 0, nU 0, nU 0, nU 0, nU 0, nU 0, nU 0, nU 0, nU 0, nU 0, nU 0, nU 0, nU 0, nU 0, AV.bool false, nI 0, AV.nils, AV.nils, AV.nils, AV.nils, AV.nils, nU 0, nU 0, nU 0, nU 0, nU 0, nU 0, nU 0, nU 0]
abbrev fd2_c_p2 (x : Row) : List AV :=
  [AV.agg (fd2_c_p3 x), AV.agg (fd2_c_p3 x)]
abbrev fd2_c_p4 (x : Row) (i : Nat) (y_1 : RcE) : List AV :=
  [nI (y_1.y.d.notes.getD i instInhabitedN4.default).a, nI (y_1.y.d.notes.getD i instInhabitedN4.default).c, nU (y_1.y.d.notes.getD i instInhabitedN4.default).b, nU (y_1.y.d.notes.getD i instInhabitedN4.default).d]
abbrev fd2_c_p5 (x : Row) (i : Nat) (y : DecE) : List AV :=
  [nI (y.d.notes.getD i instInhabitedN4.default).a, nI (y.d.notes.getD i instInhabitedN4.default).c, nU (y.d.notes.getD i instInhabitedN4.default).b, nU (y.d.notes.getD i instInhabitedN4.default).d]
abbrev fd2_c_p6 (x : Row) (i : Nat) (y_1 : RcE) : List AV :=
  [nI (y_1.y.d.script.getD i instInhabitedE3.default).a, nI (y_1.y.d.script.getD i instInhabitedE3.default).k, nB (y_1.y.d.script.getD i instInhabitedE3.default).x]
abbrev fd2_c_p7 (x : Row) (i : Nat) (y : DecE) : List AV :=
  [nI (y.d.script.getD i instInhabitedE3.default).a, nI (y.d.script.getD i instInhabitedE3.default).k, nB (y.d.script.getD i instInhabitedE3.default).x]
abbrev fd2_c_p8 (x : Row) : Prop :=
  ∀ (y : Unit), True → True ∧ ([] : List AV) = [] ∧ True ∧ (∀ (y : Unit), True → ∃ (y : Unit), True ∧ [AV.bool true] = [AV.bool true] ∧ True) ∧ True
def fd2_c_V (x : Row) : Prop :=
  (x.bs.length ≤ 140737488355328 ∧ x.bs.length ≤ x.c) ∧ [] ++ [AV.msl 0 0 0 x.bs.length x.c] ++ [] = [AV.msl 0 0 0 x.bs.length x.c] ∧ (some (bR x.bs) = some (bR x.bs) ∧ True) ∧ (∀ (y : DecE), decP x.bs = DecR.ok y.d → ((∀ (x_1 : Int), List.Mem x_1 x.bs → 0 ≤ x_1 ∧ x_1 < 256) ∧ x.bs.length ≤ 140737488355324 ∧ x.bs.length ≤ x.c) ∧ [] ++ [AV.msl 0 0 0 x.bs.length x.c] ++ [] = [AV.msl 0 0 0 x.bs.length x.c] ∧ (some (bR x.bs) = some (bR x.bs) ∧ True) ∧ (∀ (y_1 : RcE), decP x.bs = DecR.ok y_1.y.d ∧ y_1.y.caps → (y.d.mem.length ≤ 140737488355328 ∧ (y_1.y.d.notes.length = y.d.notes.length ∧ y.d.notes.length ≤ 140737488355328 ∧ ∀ (i : Nat), i < y.d.notes.length → (y_1.y.d.notes.getD i instInhabitedN4.default).a = (y.d.notes.getD i instInhabitedN4.default).a ∧ (y_1.y.d.notes.getD i instInhabitedN4.default).c = (y.d.notes.getD i instInhabitedN4.default).c ∧ (y_1.y.d.notes.getD i
  instInhabitedN4.default).b = (y.d.notes.getD i instInhabitedN4.default).b ∧ (y_1.y.d.notes.getD i instInhabitedN4.default).d = (y.d.notes.getD i instInhabitedN4.default).d) ∧ y.d.out.length ≤ 140737488355328 ∧ y.d.disk.length ≤ 140737488355328 ∧ y.d.queue.length ≤ 140737488355328 ∧ y_1.y.d.script.length = y.d.script.length ∧ y.d.script.length ≤ 140737488355328 ∧ ∀ (i : Nat), i < y.d.script.length → (y_1.y.d.script.getD i instInhabitedE3.default).a = (y.d.script.getD i instInhabitedE3.default).a ∧ (y_1.y.d.script.getD i instInhabitedE3.default).k = (y.d.script.getD i instInhabitedE3.default).k ∧ (y_1.y.d.script.getD i instInhabitedE3.default).x = (y.d.script.getD i instInhabitedE3.default).x) ∧ [] ++ [AV.agg (fd2_c_p1 x y), AV.agg (fd2_c_p0 x y_1)] ++ [] = [AV.agg (fd2_c_p1 x y), AV.agg [nI y.d.fr, AV.msl 8 0 0 y.d.mem.length y_1.y.c0, nU y.d.s.r0, nU y.d.s.r1, nU y.d.s.r2, nU y.d.s.r3, nU
  y.d.s.r4, nU y.d.s.r5, nU y.d.s.r6, nU y.d.s.r7, nU y.d.s.pc, nU y.d.s.ps, nU y.d.s.c0, nU y.d.s.c1, nU y.d.s.c2, nU y.d.s.c3, nU y.d.s.c4, nU y.d.s.c5, nU y.d.s.c6, nU y.d.s.c7, AV.bool y.d.s.h, nI y.d.steps, AV.msl 9 0 0 y_1.y.d.notes.length y_1.y.d.notes.length, AV.msl 10 0 0 y.d.out.length y_1.y.c2, AV.msl 11 0 0 y.d.disk.length y_1.y.c3, AV.msl 12 0 0 y.d.queue.length y_1.y.c4, AV.msl 13 0 0 y_1.y.d.script.length y_1.y.d.script.length, nU (y.d.bl.getD 0 0), nU (y.d.bl.getD 1 0), nU (y.d.bl.getD 2 0), nU (y.d.bl.getD 3 0), nU (y.d.bl.getD 4 0), nU (y.d.bl.getD 5 0), nU (y.d.bl.getD 6 0), nU (y.d.bl.getD 7 0)]] ∧ (some (bR y.d.mem) = some (bR y.d.mem) ∧ some (ABlk.mk false 4 (AC.recs y.d.notes.length fun (i : Nat) => (fd2_c_p5 x i y))) = some (ABlk.mk false 4 (AC.recs y.d.notes.length fun (i : Nat) => (fd2_c_p5 x i y))) ∧ some (bR y.d.out) = some (bR y.d.out) ∧ some (bR y.d.disk) =
  some (bR y.d.disk) ∧ some (bR y.d.queue) = some (bR y.d.queue) ∧ some (ABlk.mk false 3 (AC.recs y.d.script.length fun (i : Nat) => (fd2_c_p7 x i y))) = some (ABlk.mk false 3 (AC.recs y.d.script.length fun (i : Nat) => (fd2_c_p7 x i y))) ∧ some (bR y_1.y.d.mem) = some (bR y.d.mem) ∧ some (ABlk.mk false 4 (AC.recs y_1.y.d.notes.length fun (i : Nat) => (fd2_c_p4 x i y_1))) = some (ABlk.mk false 4 (AC.recs y_1.y.d.notes.length fun (i : Nat) => (fd2_c_p4 x i y_1))) ∧ some (bR y_1.y.d.out) = some (bR y.d.out) ∧ some (bR y_1.y.d.disk) = some (bR y.d.disk) ∧ some (bR y_1.y.d.queue) = some (bR y.d.queue) ∧ some (ABlk.mk false 3 (AC.recs y_1.y.d.script.length fun (i : Nat) => (fd2_c_p6 x i y_1))) = some (ABlk.mk false 3 (AC.recs y_1.y.d.script.length fun (i : Nat) => (fd2_c_p6 x i y_1))) ∧ True) ∧ (fd2_c_p8 x) ∧ True) ∧ (∀ (y_1 : RcE), decP x.bs = DecR.no y_1.e → sp (0 == y_1.e) (True ∧ [] ++
  [AV.agg (fd2_c_p1 x y), AV.agg (fd2_c_p3 x)] ++ [] = (fd2_c_p2 x) ∧ True ∧ (fd2_c_p8 x) ∧ True) (∃ (y : Unit), True ∧ [AV.bool false] = [AV.bool true] ∧ True)) ∧ True) ∧ (∀ (y : DecE), decP x.bs = DecR.no y.e → ((∀ (x_1 : Int), List.Mem x_1 x.bs → 0 ≤ x_1 ∧ x_1 < 256) ∧ x.bs.length ≤ 140737488355324 ∧ x.bs.length ≤ x.c) ∧ [] ++ [AV.msl 0 0 0 x.bs.length x.c] ++ [] = [AV.msl 0 0 0 x.bs.length x.c] ∧ (some (bR x.bs) = some (bR x.bs) ∧ True) ∧ (∀ (y_1 : RcE), decP x.bs = DecR.ok y_1.y.d ∧ y_1.y.caps → sp (y.e == 0) (True ∧ [] ++ [AV.agg (fd2_c_p3 x), AV.agg (fd2_c_p0 x y_1)] ++ [] = (fd2_c_p2 x) ∧ True ∧ (fd2_c_p8 x) ∧ True) (∃ (y : Unit), True ∧ [AV.bool false] = [AV.bool true] ∧ True)) ∧ (∀ (y_1 : RcE), decP x.bs = DecR.no y_1.e → sp (y.e == y_1.e) (True ∧ (fd2_c_p2 x) = (fd2_c_p2 x) ∧ True ∧ (fd2_c_p8 x) ∧ True) (∃ (y : Unit), True ∧ [AV.bool false] = [AV.bool true] ∧ True)) ∧ True) ∧
  True
theorem fd2_c_e (x : Row) : some (fd2_c_V x) = ((fdecC false).cond sp Go.Proofs.Tryz.prog (drP sp Go.Proofs.Tryz.prog) noLoops (orK (decC.orc sp) (orK (rdecC.orc sp) (orK (tellC.orc sp) (orK (tell0C.orc sp) (wkC.orc sp))))) 40 2 x) := by kernel_rfl
abbrev fd3_c_p0 (x : Unit) (y_1 : RcE) : List AV :=
  [nI y_1.y.d.fr, AV.msl 9 0 0 y_1.y.d.mem.length y_1.y.c0, nU y_1.y.d.s.r0, nU y_1.y.d.s.r1, nU y_1.y.d.s.r2, nU y_1.y.d.s.r3, nU y_1.y.d.s.r4, nU y_1.y.d.s.r5, nU y_1.y.d.s.r6, nU y_1.y.d.s.r7, nU y_1.y.d.s.pc, nU y_1.y.d.s.ps, nU y_1.y.d.s.c0, nU y_1.y.d.s.c1, nU y_1.y.d.s.c2, nU y_1.y.d.s.c3, nU y_1.y.d.s.c4, nU y_1.y.d.s.c5, nU y_1.y.d.s.c6, nU y_1.y.d.s.c7, AV.bool y_1.y.d.s.h, nI y_1.y.d.steps, AV.msl 10 0 0 y_1.y.d.notes.length y_1.y.d.notes.length, AV.msl 11 0 0 y_1.y.d.out.length y_1.y.c2, AV.msl 12 0 0 y_1.y.d.disk.length y_1.y.c3, AV.msl 13 0 0 y_1.y.d.queue.length y_1.y.c4, AV.msl 14 0 0 y_1.y.d.script.length y_1.y.d.script.length, nU (y_1.y.d.bl.getD 0 0), nU (y_1.y.d.bl.getD 1 0), nU (y_1.y.d.bl.getD 2 0), nU (y_1.y.d.bl.getD 3 0), nU (y_1.y.d.bl.getD 4 0), nU (y_1.y.d.bl.getD 5 0), nU (y_1.y.d.bl.getD 6 0), nU (y_1.y.d.bl.getD 7 0)]
abbrev fd3_c_p1 (x : Unit) (y : DecE) : List AV :=
  [nI y.d.fr, AV.msl 2 0 0 y.d.mem.length y.d.mem.length, nU y.d.s.r0, nU y.d.s.r1, nU y.d.s.r2, nU y.d.s.r3, nU y.d.s.r4, nU y.d.s.r5, nU y.d.s.r6, nU y.d.s.r7, nU y.d.s.pc, nU y.d.s.ps, nU y.d.s.c0, nU y.d.s.c1, nU y.d.s.c2, nU y.d.s.c3, nU y.d.s.c4, nU y.d.s.c5, nU y.d.s.c6, nU y.d.s.c7, AV.bool y.d.s.h, nI y.d.steps, AV.msl 3 0 0 y.d.notes.length y.d.notes.length, AV.msl 4 0 0 y.d.out.length y.d.out.length, AV.msl 5 0 0 y.d.disk.length y.d.disk.length, AV.msl 6 0 0 y.d.queue.length y.d.queue.length, AV.msl 7 0 0 y.d.script.length y.d.script.length, nU (y.d.bl.getD 0 0), nU (y.d.bl.getD 1 0), nU (y.d.bl.getD 2 0), nU (y.d.bl.getD 3 0), nU (y.d.bl.getD 4 0), nU (y.d.bl.getD 5 0), nU (y.d.bl.getD 6 0), nU (y.d.bl.getD 7 0)]
abbrev fd3_c_p3 (x : Unit) : List AV :=
  [nI 0, AV.nils, nU 0, nU 0, nU 0, nU 0, nU 0, nU 0, nU 0, nU 0, nU 0, nU 0, nU 0, nU 0, nU 0, nU 0, nU 0, nU 0, nU 0, nU 0, AV.bool false, nI 0, AV.nils, AV.nils, AV.nils, AV.nils, AV.nils, nU 0, nU 0, nU 0, nU 0, nU 0, nU 0, nU 0, nU 0]
abbrev fd3_c_p2 (x : Unit) : List AV :=
  [AV.agg (fd3_c_p3 x), AV.agg (fd3_c_p3 x)]
abbrev fd3_c_p4 (x : Unit) (i : Nat) (y_1 : RcE) : List AV :=
  [nI (y_1.y.d.notes.getD i instInhabitedN4.default).a, nI (y_1.y.d.notes.getD i instInhabitedN4.default).c, nU (y_1.y.d.notes.getD i instInhabitedN4.default).b, nU (y_1.y.d.notes.getD i instInhabitedN4.default).d]
abbrev fd3_c_p5 (x : Unit) (i : Nat) (y : DecE) : List AV :=
  [nI (y.d.notes.getD i instInhabitedN4.default).a, nI (y.d.notes.getD i instInhabitedN4.default).c, nU (y.d.notes.getD i instInhabitedN4.default).b, nU (y.d.notes.getD i instInhabitedN4.default).d]
abbrev fd3_c_p6 (x : Unit) (i : Nat) (y_1 : RcE) : List AV :=
  [nI (y_1.y.d.script.getD i instInhabitedE3.default).a, nI (y_1.y.d.script.getD i instInhabitedE3.default).k, nB (y_1.y.d.script.getD i instInhabitedE3.default).x]
abbrev fd3_c_p7 (x : Unit) (i : Nat) (y : DecE) : List AV :=
  [nI (y.d.script.getD i instInhabitedE3.default).a, nI (y.d.script.getD i instInhabitedE3.default).k, nB (y.d.script.getD i instInhabitedE3.default).x]
abbrev fd3_c_p8 (x : Unit) : Prop :=
  ∀ (y : Unit), True → True ∧ ([] : List AV) = [] ∧ True ∧ (∀ (y : Unit), True → ∃ (y : Unit), True ∧ [AV.bool true] = [AV.bool true] ∧ True) ∧ True
def fd3_c_V (x : Unit) : Prop :=
  True ∧ [AV.msl 0 0 0 0 0] = [AV.msl 0 0 0 0 0] ∧ True ∧ (∀ (y : Unit), True → (4 ≤ 140737488355328 ∧ 4 ≤ 4) ∧ [AV.msl 1 0 0 4 4] = [AV.msl 1 0 0 4 4] ∧ (some (bR ((sealB []))) = some (bR ((sealB []))) ∧ True) ∧ (∀ (y : DecE), DecR.no 291 = DecR.ok y.d → ((∀ (x : Int), List.Mem x (sealB []) → 0 ≤ x ∧ x < 256) ∧ 4 ≤ 140737488355324 ∧ 4 ≤ 4) ∧ [AV.msl 1 0 0 4 4] = [AV.msl 1 0 0 4 4] ∧ (some (bR ((sealB []))) = some (bR ((sealB []))) ∧ True) ∧ (∀ (y_1 : RcE), DecR.no 291 = DecR.ok y_1.y.d ∧ y_1.y.caps → (y.d.mem.length ≤ 140737488355328 ∧ (y_1.y.d.notes.length = y.d.notes.length ∧ y.d.notes.length ≤ 140737488355328 ∧ ∀ (i : Nat), i < y.d.notes.length → (y_1.y.d.notes.getD i instInhabitedN4.default).a = (y.d.notes.getD i instInhabitedN4.default).a ∧ (y_1.y.d.notes.getD i instInhabitedN4.default).c = (y.d.notes.getD i instInhabitedN4.default).c ∧ (y_1.y.d.notes.getD i instInhabitedN4.default).b
  = (y.d.notes.getD i instInhabitedN4.default).b ∧ (y_1.y.d.notes.getD i instInhabitedN4.default).d = (y.d.notes.getD i instInhabitedN4.default).d) ∧ y.d.out.length ≤ 140737488355328 ∧ y.d.disk.length ≤ 140737488355328 ∧ y.d.queue.length ≤ 140737488355328 ∧ y_1.y.d.script.length = y.d.script.length ∧ y.d.script.length ≤ 140737488355328 ∧ ∀ (i : Nat), i < y.d.script.length → (y_1.y.d.script.getD i instInhabitedE3.default).a = (y.d.script.getD i instInhabitedE3.default).a ∧ (y_1.y.d.script.getD i instInhabitedE3.default).k = (y.d.script.getD i instInhabitedE3.default).k ∧ (y_1.y.d.script.getD i instInhabitedE3.default).x = (y.d.script.getD i instInhabitedE3.default).x) ∧ [] ++ [AV.agg (fd3_c_p1 x y), AV.agg (fd3_c_p0 x y_1)] ++ [] = [AV.agg (fd3_c_p1 x y), AV.agg [nI y.d.fr, AV.msl 9 0 0 y.d.mem.length y_1.y.c0, nU y.d.s.r0, nU y.d.s.r1, nU y.d.s.r2, nU y.d.s.r3, nU y.d.s.r4, nU y.d.s.r5, nU
  y.d.s.r6, nU y.d.s.r7, nU y.d.s.pc, nU y.d.s.ps, nU y.d.s.c0, nU y.d.s.c1, nU y.d.s.c2, nU y.d.s.c3, nU y.d.s.c4, nU y.d.s.c5, nU y.d.s.c6, nU y.d.s.c7, AV.bool y.d.s.h, nI y.d.steps, AV.msl 10 0 0 y_1.y.d.notes.length y_1.y.d.notes.length, AV.msl 11 0 0 y.d.out.length y_1.y.c2, AV.msl 12 0 0 y.d.disk.length y_1.y.c3, AV.msl 13 0 0 y.d.queue.length y_1.y.c4, AV.msl 14 0 0 y_1.y.d.script.length y_1.y.d.script.length, nU (y.d.bl.getD 0 0), nU (y.d.bl.getD 1 0), nU (y.d.bl.getD 2 0), nU (y.d.bl.getD 3 0), nU (y.d.bl.getD 4 0), nU (y.d.bl.getD 5 0), nU (y.d.bl.getD 6 0), nU (y.d.bl.getD 7 0)]] ∧ (some (bR y.d.mem) = some (bR y.d.mem) ∧ some (ABlk.mk false 4 (AC.recs y.d.notes.length fun (i : Nat) => (fd3_c_p5 x i y))) = some (ABlk.mk false 4 (AC.recs y.d.notes.length fun (i : Nat) => (fd3_c_p5 x i y))) ∧ some (bR y.d.out) = some (bR y.d.out) ∧ some (bR y.d.disk) = some (bR y.d.disk) ∧ some
  (bR y.d.queue) = some (bR y.d.queue) ∧ some (ABlk.mk false 3 (AC.recs y.d.script.length fun (i : Nat) => (fd3_c_p7 x i y))) = some (ABlk.mk false 3 (AC.recs y.d.script.length fun (i : Nat) => (fd3_c_p7 x i y))) ∧ some (bR y_1.y.d.mem) = some (bR y.d.mem) ∧ some (ABlk.mk false 4 (AC.recs y_1.y.d.notes.length fun (i : Nat) => (fd3_c_p4 x i y_1))) = some (ABlk.mk false 4 (AC.recs y_1.y.d.notes.length fun (i : Nat) => (fd3_c_p4 x i y_1))) ∧ some (bR y_1.y.d.out) = some (bR y.d.out) ∧ some (bR y_1.y.d.disk) = some (bR y.d.disk) ∧ some (bR y_1.y.d.queue) = some (bR y.d.queue) ∧ some (ABlk.mk false 3 (AC.recs y_1.y.d.script.length fun (i : Nat) => (fd3_c_p6 x i y_1))) = some (ABlk.mk false 3 (AC.recs y_1.y.d.script.length fun (i : Nat) => (fd3_c_p6 x i y_1))) ∧ True) ∧ (fd3_c_p8 x) ∧ True) ∧ (∀ (y_1 : RcE), DecR.no 291 = DecR.no y_1.e → sp (0 == y_1.e) (True ∧ [] ++ [AV.agg (fd3_c_p1 x y),
  AV.agg (fd3_c_p3 x)] ++ [] = (fd3_c_p2 x) ∧ True ∧ (fd3_c_p8 x) ∧ True) (∃ (y : Unit), True ∧ [AV.bool false] = [AV.bool true] ∧ True)) ∧ True) ∧ (∀ (y : DecE), DecR.no 291 = DecR.no y.e → ((∀ (x : Int), List.Mem x (sealB []) → 0 ≤ x ∧ x < 256) ∧ 4 ≤ 140737488355324 ∧ 4 ≤ 4) ∧ [AV.msl 1 0 0 4 4] = [AV.msl 1 0 0 4 4] ∧ (some (bR ((sealB []))) = some (bR ((sealB []))) ∧ True) ∧ (∀ (y_1 : RcE), DecR.no 291 = DecR.ok y_1.y.d ∧ y_1.y.caps → sp (y.e == 0) (True ∧ [] ++ [AV.agg (fd3_c_p3 x), AV.agg (fd3_c_p0 x y_1)] ++ [] = (fd3_c_p2 x) ∧ True ∧ (fd3_c_p8 x) ∧ True) (∃ (y : Unit), True ∧ [AV.bool false] = [AV.bool true] ∧ True)) ∧ (∀ (y_1 : RcE), DecR.no 291 = DecR.no y_1.e → sp (y.e == y_1.e) (True ∧ (fd3_c_p2 x) = (fd3_c_p2 x) ∧ True ∧ (fd3_c_p8 x) ∧ True) (∃ (y : Unit), True ∧ [AV.bool false] = [AV.bool true] ∧ True)) ∧ True) ∧ True) ∧ True
theorem fd3_c_e (x : Unit) : some (fd3_c_V x) = ((fdec0C true).cond sp Go.Proofs.Tryz.prog (drP sp Go.Proofs.Tryz.prog) noLoops (orK (rseal0C.orc sp) (orK (looseK F_file_Decode 0 [] (decC.orc sp)) (orK (looseK F_mummerref30_Decode 0 [] (rdecC.orc sp)) (orK (tellC.orc sp) (orK (tell0C.orc sp) (wkC.orc sp)))))) 40 2 x) := by kernel_rfl
abbrev fd4_c_p0 (x : Unit) : List AV :=
  [AV.agg [nI 0, AV.nils, nU 0, nU 0, nU 0, nU 0, nU 0, nU 0, nU 0, nU 0, nU 0, nU 0, nU 0, nU 0, nU 0, nU 0, nU 0, nU 0, nU 0, nU 0, AV.bool false, nI 0, AV.nils, AV.nils, AV.nils, AV.nils, AV.nils, nU 0, nU 0, nU 0, nU 0, nU 0, nU 0, nU 0, nU 0], AV.agg [nI 0, AV.nils, nU 0, nU 0, nU 0, nU 0, nU 0, nU 0, nU 0, nU 0, nU 0, nU 0, nU 0, nU 0, nU 0, nU 0, nU 0, nU 0, nU 0, nU 0, AV.bool false, nI 0, AV.nils, AV.nils, AV.nils, AV.nils, AV.nils, nU 0, nU 0, nU 0, nU 0, nU 0, nU 0, nU 0, nU 0]]
def fd4_c_V (x : Unit) : Prop :=
  True ∧ [AV.msl 0 0 0 0 0] = [AV.msl 0 0 0 0 0] ∧ True ∧ (∀ (y : Unit), True → True ∧ [AV.msl 0 0 0 0 0] = [AV.msl 0 0 0 0 0] ∧ True ∧ (∀ (y : Unit), True → True ∧ (fd4_c_p0 x) = (fd4_c_p0 x) ∧ True ∧ (∀ (y : Unit), True → True ∧ ([] : List AV) = [] ∧ True ∧ (∀ (y : Unit), True → ∃ (y : Unit), True ∧ [AV.bool true] = [AV.bool true] ∧ True) ∧ True) ∧ True) ∧ True) ∧ True
theorem fd4_c_e (x : Unit) : some (fd4_c_V x) = ((fdec0C false).cond sp Go.Proofs.Tryz.prog (drP sp Go.Proofs.Tryz.prog) noLoops (orK (dec0C.orc sp) (orK (rdec0C.orc sp) (orK (tell0C.orc sp) (wkC.orc sp)))) 40 2 x) := by kernel_rfl
theorem dec_fine {bs : List Int} {d : Dv} (h : decP bs = .ok d) : d.sv.fine := by
  unfold decP at h
  cases ho : openN bs with
  | no e => rw [ho] at h; cases h
  | ok l =>
    rw [ho] at h
    have h : decIn l = .ok d := h
    unfold decIn at h
    by_cases h4 : l.length < 4
    · rw [if_pos h4] at h; cases h
    · rw [if_neg h4] at h
      by_cases hm : magicB l = false
      · rw [if_pos hm] at h; cases h
      · rw [if_neg hm] at h
        cases hp : savP l 4 with
        | no e => rw [hp] at h; cases h
        | ok d' o =>
          rw [hp] at h
          simp only [decGo] at h
          split at h
          · cases h
          · split at h
            · cases h
              exact (savP_fine hp (by omega)).1
            · cases h
theorem tl_ok {d : Dv} (c0 c2 c3 c4 : Nat) (hf : d.sv.fine) : (TlX.mk d.sv c0 c2 c3 c4 d.sv.notes d.sv.script).ok := by
  obtain ⟨m1, m2, m3, m4, m5, m6⟩ := hf
  exact ⟨Nat.le_trans m1.1 (by decide), ⟨rfl, Nat.le_trans m2.1 (by decide), fun _ _ => ⟨rfl, rfl, rfl, rfl⟩⟩, Nat.le_trans m3.1 (by decide), Nat.le_trans m4.1 (by decide), Nat.le_trans m5.1 (by decide), ⟨rfl, Nat.le_trans m6.1 (by decide), fun _ _ => ⟨rfl, rfl, rfl⟩⟩⟩
theorem rnumOK : (rnumC F_mummerref30_Reader_number .u64 rnum).OK Go.Proofs.Tryz.prog := rnum_ok rgC_ok
theorem rdecOK : rdecC.OK Go.Proofs.Tryz.prog := rdec_ok rnumOK rgb_ok
set_option maxRecDepth 100000 in
set_option maxHeartbeats 4000000 in
theorem fd1_ok : (fdecC true).OK Go.Proofs.Tryz.prog := by
  refine Con.by hmix (noLoops_ok _) (orK_ok (Con.orc_ok rseal_ok) (orK_ok (looseK_ok (Con.orc_ok decC_ok)) (orK_ok (looseK_ok (Con.orc_ok rdecOK)) (orK_ok (Con.orc_ok tell_ok) (orK_ok (Con.orc_ok tell0_ok) (Con.orc_ok wk_ok)))))) fd1_c_V fd1_c_e (fun x hx => ?_)
  obtain ⟨hb, hl, hc⟩ := hx
  have hs : (sealB x.bs).length = x.bs.length + 4 := by simp [sealB]
  have hle : x.bs.length.le 140737488355324 := (by omega : x.bs.length ≤ 140737488355324)
  have hB : IsBytes (sealB x.bs) := sealB_bytes hb
  have hL : (sealB x.bs).length ≤ 140737488355328 := by omega
  have hS : (sealB x.bs).length ≤ 140737488355324 := by omega
  unfold fd1_c_V
  refine ⟨hle, rfl, ⟨rfl, trivial⟩, (fun _ _ => ⟨⟨hL, Nat.le_refl _⟩, rfl, ⟨rfl, trivial⟩, (fun y hd => ⟨⟨hB, hS, Nat.le_refl _⟩, rfl, ⟨rfl, trivial⟩, (fun z hz => ?_), (fun z hz => ?_), trivial⟩), (fun y hd => ⟨⟨hB, hS, Nat.le_refl _⟩, rfl, ⟨rfl, trivial⟩, (fun z hz => ?_), (fun z hz => ?_), trivial⟩), trivial⟩), trivial⟩
  · obtain ⟨d, e⟩ := y
    obtain ⟨⟨d', c0, c2, c3, c4, o, m, c, e'⟩, e2⟩ := z
    have hd : decP (sealB x.bs) = .ok d := hd
    have hz : decP (sealB x.bs) = .ok d' := hz.1
    have hdd : d' = d := by rw [hd] at hz; cases hz; rfl
    subst hdd
    exact ⟨tl_ok c0 c2 c3 c4 (dec_fine hd), rfl, ⟨rfl, rfl, rfl, rfl, rfl, rfl, rfl, rfl, rfl, rfl, rfl, rfl, trivial⟩, (fun _ _ => ⟨trivial, rfl, trivial, (fun _ _ => ⟨(), trivial, rfl, trivial⟩), trivial⟩), trivial⟩
  · have hd : decP (sealB x.bs) = .ok y.d := hd
    have hz : decP (sealB x.bs) = .no z.e := hz
    rw [hd] at hz
    cases hz
  · have hd : decP (sealB x.bs) = .no y.e := hd
    have hz : decP (sealB x.bs) = .ok z.y.d := hz.1
    rw [hd] at hz
    cases hz
  · have hd : decP (sealB x.bs) = .no y.e := hd
    have hz : decP (sealB x.bs) = .no z.e := hz
    have hee : y.e = z.e := by rw [hd] at hz; exact DecR.no.inj hz
    exact spT (by rw [hee]; exact beq_self_eq_true _) ⟨trivial, rfl, trivial, (fun _ _ => ⟨trivial, rfl, trivial, (fun _ _ => ⟨(), trivial, rfl, trivial⟩), trivial⟩), trivial⟩
set_option maxRecDepth 100000 in
set_option maxHeartbeats 4000000 in
theorem fd2_ok : (fdecC false).OK Go.Proofs.Tryz.prog := by
  refine Con.by hmix (noLoops_ok _) (orK_ok (Con.orc_ok decC_ok) (orK_ok (Con.orc_ok rdecOK) (orK_ok (Con.orc_ok tell_ok) (orK_ok (Con.orc_ok tell0_ok) (Con.orc_ok wk_ok))))) fd2_c_V fd2_c_e (fun x hx => ?_)
  obtain ⟨hB, hl, hc⟩ := hx
  have hL : x.bs.length ≤ 140737488355328 := by omega
  have hS : x.bs.length ≤ 140737488355324 := by omega
  unfold fd2_c_V
  refine ⟨⟨hL, hc⟩, rfl, ⟨rfl, trivial⟩, (fun y hd => ⟨⟨hB, hS, hc⟩, rfl, ⟨rfl, trivial⟩, (fun z hz => ?_), (fun z hz => ?_), trivial⟩), (fun y hd => ⟨⟨hB, hS, hc⟩, rfl, ⟨rfl, trivial⟩, (fun z hz => ?_), (fun z hz => ?_), trivial⟩), trivial⟩
  · obtain ⟨d, e⟩ := y
    obtain ⟨⟨d', c0, c2, c3, c4, o, m, c, e'⟩, e2⟩ := z
    have hd : decP x.bs = .ok d := hd
    have hz : decP x.bs = .ok d' := hz.1
    have hdd : d' = d := by rw [hd] at hz; cases hz; rfl
    subst hdd
    exact ⟨tl_ok c0 c2 c3 c4 (dec_fine hd), rfl, ⟨rfl, rfl, rfl, rfl, rfl, rfl, rfl, rfl, rfl, rfl, rfl, rfl, trivial⟩, (fun _ _ => ⟨trivial, rfl, trivial, (fun _ _ => ⟨(), trivial, rfl, trivial⟩), trivial⟩), trivial⟩
  · have hd : decP x.bs = .ok y.d := hd
    have hz : decP x.bs = .no z.e := hz
    rw [hd] at hz
    cases hz
  · have hd : decP x.bs = .no y.e := hd
    have hz : decP x.bs = .ok z.y.d := hz.1
    rw [hd] at hz
    cases hz
  · have hd : decP x.bs = .no y.e := hd
    have hz : decP x.bs = .no z.e := hz
    have hee : y.e = z.e := by rw [hd] at hz; exact DecR.no.inj hz
    exact spT (by rw [hee]; exact beq_self_eq_true _) ⟨trivial, rfl, trivial, (fun _ _ => ⟨trivial, rfl, trivial, (fun _ _ => ⟨(), trivial, rfl, trivial⟩), trivial⟩), trivial⟩
set_option maxRecDepth 100000 in
set_option maxHeartbeats 4000000 in
theorem fd3_ok : (fdec0C true).OK Go.Proofs.Tryz.prog := by
  refine Con.by hmix (noLoops_ok _) (orK_ok (Con.orc_ok rseal0_ok) (orK_ok (looseK_ok (Con.orc_ok decC_ok)) (orK_ok (looseK_ok (Con.orc_ok rdecOK)) (orK_ok (Con.orc_ok tell_ok) (orK_ok (Con.orc_ok tell0_ok) (Con.orc_ok wk_ok)))))) fd3_c_V fd3_c_e (fun x hx => ?_)
  have hB : IsBytes (sealB []) := sealB_bytes (fun _ h => by cases h)
  have hL : (sealB []).length ≤ 140737488355328 := by decide
  have hS : (sealB []).length ≤ 140737488355324 := by decide
  unfold fd3_c_V
  refine ⟨trivial, rfl, trivial, (fun _ _ => ⟨⟨hL, (by decide)⟩, rfl, ⟨rfl, trivial⟩, (fun y hd => ⟨⟨hB, hS, (by decide)⟩, rfl, ⟨rfl, trivial⟩, (fun z hz => ?_), (fun z hz => ?_), trivial⟩), (fun y hd => ⟨⟨hB, hS, (by decide)⟩, rfl, ⟨rfl, trivial⟩, (fun z hz => ?_), (fun z hz => ?_), trivial⟩), trivial⟩), trivial⟩
  · obtain ⟨d, e⟩ := y
    obtain ⟨⟨d', c0, c2, c3, c4, o, m, c, e'⟩, e2⟩ := z
    have hd : decP (sealB []) = .ok d := hd
    have hz : decP (sealB []) = .ok d' := hz.1
    have hdd : d' = d := by rw [hd] at hz; cases hz; rfl
    subst hdd
    exact ⟨tl_ok c0 c2 c3 c4 (dec_fine hd), rfl, ⟨rfl, rfl, rfl, rfl, rfl, rfl, rfl, rfl, rfl, rfl, rfl, rfl, trivial⟩, (fun _ _ => ⟨trivial, rfl, trivial, (fun _ _ => ⟨(), trivial, rfl, trivial⟩), trivial⟩), trivial⟩
  · have hd : decP (sealB []) = .ok y.d := hd
    have hz : decP (sealB []) = .no z.e := hz
    rw [hd] at hz
    cases hz
  · have hd : decP (sealB []) = .no y.e := hd
    have hz : decP (sealB []) = .ok z.y.d := hz.1
    rw [hd] at hz
    cases hz
  · have hd : decP (sealB []) = .no y.e := hd
    have hz : decP (sealB []) = .no z.e := hz
    have hee : y.e = z.e := by rw [hd] at hz; exact DecR.no.inj hz
    exact spT (by rw [hee]; exact beq_self_eq_true _) ⟨trivial, rfl, trivial, (fun _ _ => ⟨trivial, rfl, trivial, (fun _ _ => ⟨(), trivial, rfl, trivial⟩), trivial⟩), trivial⟩
theorem fd4_ok : (fdec0C false).OK Go.Proofs.Tryz.prog := by
  refine Con.by hmix (noLoops_ok _) (orK_ok (Con.orc_ok dec0_ok) (orK_ok (Con.orc_ok rdec0_ok) (orK_ok (Con.orc_ok tell0_ok) (Con.orc_ok wk_ok)))) fd4_c_V fd4_c_e (fun x hx => ?_)
  unfold fd4_c_V
  exact ⟨trivial, rfl, trivial, (fun _ _ => ⟨trivial, rfl, trivial, (fun _ _ => ⟨trivial, rfl, trivial, (fun _ _ => ⟨trivial, rfl, trivial, (fun _ _ => ⟨(), trivial, rfl, trivial⟩), trivial⟩), trivial⟩), trivial⟩), trivial⟩
end Go.Proofs.YtmbcpmbpkdeioaaGreatDoor.W
