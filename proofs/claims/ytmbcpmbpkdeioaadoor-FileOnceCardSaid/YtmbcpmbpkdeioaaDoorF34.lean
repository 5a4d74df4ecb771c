/- A guest's bytes: the walks. No condition. -/
import Derived.Test.YtmbcpmbpkdeioaaDoorF33
import Derived.KernelRfl
import Derived.Test.YtmbcpmbpkdeioaaDoorF31
import Derived.Test.YtmbcpmbpkdeioaaDoorF32
import Derived.Test.YtmbcpmbpkdeioaaDoorEn26
namespace Go.Proofs.YtmbcpmbpkdeioaaDoor.W
open Go Go.RowKit Go.Eng
set_option maxRecDepth 100000
set_option linter.unusedVariables false
set_option linter.unusedSimpArgs false
abbrev encC_c_l0 (x : Sv) : List AV :=
  [nI x.fr, AV.msl 0 0 0 x.mem.bs.length x.mem.c, nU x.s.r0, nU x.s.r1, nU x.s.r2, nU x.s.r3, nU x.s.r4, nU x.s.r5, nU x.s.r6, nU x.s.r7, nU x.s.pc, nU x.s.ps, nU x.s.c0, nU x.s.c1, nU x.s.c2, nU x.s.c3, nU x.s.c4, nU x.s.c5, nU x.s.c6, nU x.s.c7, AV.bool x.s.h, nI x.steps, AV.msl 1 0 0 x.notes.n x.notes.c, AV.msl 2 0 0 x.out.bs.length x.out.c, AV.msl 3 0 0 x.disk.bs.length x.disk.c, AV.msl 4 0 0 x.queue.bs.length x.queue.c, AV.msl 5 0 0 x.script.n x.script.c, nU x.b1, nU x.b2, nU x.b3, nU x.b4, nU x.b5, nU x.b6, nU x.b7, nU x.b8]
def encC_c_V (x : Sv) : Prop :=
  ((x.mem.bs.length ≤ 140737488351232 ∧ x.mem.bs.length ≤ x.mem.c) ∧ (x.notes.n ≤ 5864062014634 ∧ x.notes.n ≤ x.notes.c) ∧ (x.out.bs.length ≤ 140737488351232 ∧ x.out.bs.length ≤ x.out.c) ∧ (x.disk.bs.length ≤ 140737488351232 ∧ x.disk.bs.length ≤ x.disk.c) ∧ (x.queue.bs.length ≤ 140737488351232 ∧ x.queue.bs.length ≤ x.queue.c) ∧ x.script.n ≤ 140737488351232 ∧ x.script.n ≤ x.script.c) ∧ [] ++ [AV.agg (encC_c_l0 x)] ++ [] = [AV.agg (encC_c_l0 x)] ∧ (some (bR x.mem.bs) = some (bR x.mem.bs) ∧ some (ABlk.mk false 4 (AC.recs x.notes.n x.notes.f)) = some (ABlk.mk false 4 (AC.recs x.notes.n fun (i : Nat) => [nI (x.notes.at_ i), nI (x.notes.cause i), nU (x.notes.back i), nU (x.notes.addr i)])) ∧ some (bR x.out.bs) = some (bR x.out.bs) ∧ some (bR x.disk.bs) = some (bR x.disk.bs) ∧ some (bR x.queue.bs) = some (bR x.queue.bs) ∧ some (ABlk.mk false 3 (AC.recs x.script.n x.script.f)) = some (ABlk.mk false
  3 (AC.recs x.script.n fun (i : Nat) => [nI (x.script.at_ i), nI (x.script.kind i), nB (x.script.byte i)])) ∧ True) ∧ (∀ (y : Unit), keepN (Sv.mk x.fr (Row.mk x.mem.bs x.mem.c) (St.mk x.s.r0 x.s.r1 x.s.r2 x.s.r3 x.s.r4 x.s.r5 x.s.r6 x.s.r7 x.s.pc x.s.ps x.s.c0 x.s.c1 x.s.c2 x.s.c3 x.s.c4 x.s.c5 x.s.c6 x.s.c7 x.s.h) x.steps (NRow.mk x.notes.n x.notes.c (fun (i : Nat) => numAt (x.notes.f i) 0) (fun (i : Nat) => numAt (x.notes.f i) 1) (fun (i : Nat) => numAt (x.notes.f i) 2) fun (i : Nat) => numAt (x.notes.f i) 3) (Row.mk x.out.bs x.out.c) (Row.mk x.disk.bs x.disk.c) (Row.mk x.queue.bs x.queue.c) (ERow.mk x.script.n x.script.c (fun (i : Nat) => numAt (x.script.f i) 0) (fun (i : Nat) => numAt (x.script.f i) 1) fun (i : Nat) => numAt (x.script.f i) 2) x.b1 x.b2 x.b3 x.b4 x.b5 x.b6 x.b7 x.b8) = 3 → (∃ (y : List Int), keepN x = 3 ∧ [AV.tup [AV.nils, nI 3]] = [AV.tup [AV.nils, nI 3]] ∧ bR x.mem.bs
  = bR x.mem.bs ∧ (false = false ∧ 4 = 4 ∧ x.notes.n = x.notes.n ∧ ∀ (i : Nat), i < x.notes.n → [nI (x.notes.at_ i), nI (x.notes.cause i), nU (x.notes.back i), nU (x.notes.addr i)] = [nI (x.notes.at_ i), nI (x.notes.cause i), nU (x.notes.back i), nU (x.notes.addr i)]) ∧ bR x.out.bs = bR x.out.bs ∧ bR x.disk.bs = bR x.disk.bs ∧ bR x.queue.bs = bR x.queue.bs ∧ (false = false ∧ 3 = 3 ∧ x.script.n = x.script.n ∧ ∀ (i : Nat), i < x.script.n → [nI (x.script.at_ i), nI (x.script.kind i), nB (x.script.byte i)] = [nI (x.script.at_ i), nI (x.script.kind i), nB (x.script.byte i)]) ∧ True) ∨ (∃ (y : List Int), keepN x = 2 ∧ [AV.tup [AV.nils, nI 3]] = [AV.tup [AV.nils, nI 2]] ∧ bR x.mem.bs = bR x.mem.bs ∧ (false = false ∧ 4 = 4 ∧ x.notes.n = x.notes.n ∧ ∀ (i : Nat), i < x.notes.n → [nI (x.notes.at_ i), nI (x.notes.cause i), nU (x.notes.back i), nU (x.notes.addr i)] = [nI (x.notes.at_ i), nI
  (x.notes.cause i), nU (x.notes.back i), nU (x.notes.addr i)]) ∧ bR x.out.bs = bR x.out.bs ∧ bR x.disk.bs = bR x.disk.bs ∧ bR x.queue.bs = bR x.queue.bs ∧ (false = false ∧ 3 = 3 ∧ x.script.n = x.script.n ∧ ∀ (i : Nat), i < x.script.n → [nI (x.script.at_ i), nI (x.script.kind i), nB (x.script.byte i)] = [nI (x.script.at_ i), nI (x.script.kind i), nB (x.script.byte i)]) ∧ True) ∨ ∃ (y : List Int), (keepN x = 0 ∧ y = sealB (encL x)) ∧ [AV.tup [AV.nils, nI 3]] = [AV.tup [AV.sl 7 0 0 y.length y.length false, nI 0]] ∧ bR x.mem.bs = bR x.mem.bs ∧ (false = false ∧ 4 = 4 ∧ x.notes.n = x.notes.n ∧ ∀ (i : Nat), i < x.notes.n → [nI (x.notes.at_ i), nI (x.notes.cause i), nU (x.notes.back i), nU (x.notes.addr i)] = [nI (x.notes.at_ i), nI (x.notes.cause i), nU (x.notes.back i), nU (x.notes.addr i)]) ∧ bR x.out.bs = bR x.out.bs ∧ bR x.disk.bs = bR x.disk.bs ∧ bR x.queue.bs = bR x.queue.bs ∧ (false =
  false ∧ 3 = 3 ∧ x.script.n = x.script.n ∧ ∀ (i : Nat), i < x.script.n → [nI (x.script.at_ i), nI (x.script.kind i), nB (x.script.byte i)] = [nI (x.script.at_ i), nI (x.script.kind i), nB (x.script.byte i)]) ∧ False ∧ True) ∧ (∀ (y : Unit), keepN (Sv.mk x.fr (Row.mk x.mem.bs x.mem.c) (St.mk x.s.r0 x.s.r1 x.s.r2 x.s.r3 x.s.r4 x.s.r5 x.s.r6 x.s.r7 x.s.pc x.s.ps x.s.c0 x.s.c1 x.s.c2 x.s.c3 x.s.c4 x.s.c5 x.s.c6 x.s.c7 x.s.h) x.steps (NRow.mk x.notes.n x.notes.c (fun (i : Nat) => numAt (x.notes.f i) 0) (fun (i : Nat) => numAt (x.notes.f i) 1) (fun (i : Nat) => numAt (x.notes.f i) 2) fun (i : Nat) => numAt (x.notes.f i) 3) (Row.mk x.out.bs x.out.c) (Row.mk x.disk.bs x.disk.c) (Row.mk x.queue.bs x.queue.c) (ERow.mk x.script.n x.script.c (fun (i : Nat) => numAt (x.script.f i) 0) (fun (i : Nat) => numAt (x.script.f i) 1) fun (i : Nat) => numAt (x.script.f i) 2) x.b1 x.b2 x.b3 x.b4 x.b5 x.b6 x.b7
  x.b8) = 2 → (∃ (y : List Int), keepN x = 3 ∧ [AV.tup [AV.nils, nI 2]] = [AV.tup [AV.nils, nI 3]] ∧ bR x.mem.bs = bR x.mem.bs ∧ (false = false ∧ 4 = 4 ∧ x.notes.n = x.notes.n ∧ ∀ (i : Nat), i < x.notes.n → [nI (x.notes.at_ i), nI (x.notes.cause i), nU (x.notes.back i), nU (x.notes.addr i)] = [nI (x.notes.at_ i), nI (x.notes.cause i), nU (x.notes.back i), nU (x.notes.addr i)]) ∧ bR x.out.bs = bR x.out.bs ∧ bR x.disk.bs = bR x.disk.bs ∧ bR x.queue.bs = bR x.queue.bs ∧ (false = false ∧ 3 = 3 ∧ x.script.n = x.script.n ∧ ∀ (i : Nat), i < x.script.n → [nI (x.script.at_ i), nI (x.script.kind i), nB (x.script.byte i)] = [nI (x.script.at_ i), nI (x.script.kind i), nB (x.script.byte i)]) ∧ True) ∨ (∃ (y : List Int), keepN x = 2 ∧ [AV.tup [AV.nils, nI 2]] = [AV.tup [AV.nils, nI 2]] ∧ bR x.mem.bs = bR x.mem.bs ∧ (false = false ∧ 4 = 4 ∧ x.notes.n = x.notes.n ∧ ∀ (i : Nat), i < x.notes.n → [nI
  (x.notes.at_ i), nI (x.notes.cause i), nU (x.notes.back i), nU (x.notes.addr i)] = [nI (x.notes.at_ i), nI (x.notes.cause i), nU (x.notes.back i), nU (x.notes.addr i)]) ∧ bR x.out.bs = bR x.out.bs ∧ bR x.disk.bs = bR x.disk.bs ∧ bR x.queue.bs = bR x.queue.bs ∧ (false = false ∧ 3 = 3 ∧ x.script.n = x.script.n ∧ ∀ (i : Nat), i < x.script.n → [nI (x.script.at_ i), nI (x.script.kind i), nB (x.script.byte i)] = [nI (x.script.at_ i), nI (x.script.kind i), nB (x.script.byte i)]) ∧ True) ∨ ∃ (y : List Int), (keepN x = 0 ∧ y = sealB (encL x)) ∧ [AV.tup [AV.nils, nI 2]] = [AV.tup [AV.sl 7 0 0 y.length y.length false, nI 0]] ∧ bR x.mem.bs = bR x.mem.bs ∧ (false = false ∧ 4 = 4 ∧ x.notes.n = x.notes.n ∧ ∀ (i : Nat), i < x.notes.n → [nI (x.notes.at_ i), nI (x.notes.cause i), nU (x.notes.back i), nU (x.notes.addr i)] = [nI (x.notes.at_ i), nI (x.notes.cause i), nU (x.notes.back i), nU (x.notes.addr
  i)]) ∧ bR x.out.bs = bR x.out.bs ∧ bR x.disk.bs = bR x.disk.bs ∧ bR x.queue.bs = bR x.queue.bs ∧ (false = false ∧ 3 = 3 ∧ x.script.n = x.script.n ∧ ∀ (i : Nat), i < x.script.n → [nI (x.script.at_ i), nI (x.script.kind i), nB (x.script.byte i)] = [nI (x.script.at_ i), nI (x.script.kind i), nB (x.script.byte i)]) ∧ False ∧ True) ∧ (∀ (y : Unit), keepN (Sv.mk x.fr (Row.mk x.mem.bs x.mem.c) (St.mk x.s.r0 x.s.r1 x.s.r2 x.s.r3 x.s.r4 x.s.r5 x.s.r6 x.s.r7 x.s.pc x.s.ps x.s.c0 x.s.c1 x.s.c2 x.s.c3 x.s.c4 x.s.c5 x.s.c6 x.s.c7 x.s.h) x.steps (NRow.mk x.notes.n x.notes.c (fun (i : Nat) => numAt (x.notes.f i) 0) (fun (i : Nat) => numAt (x.notes.f i) 1) (fun (i : Nat) => numAt (x.notes.f i) 2) fun (i : Nat) => numAt (x.notes.f i) 3) (Row.mk x.out.bs x.out.c) (Row.mk x.disk.bs x.disk.c) (Row.mk x.queue.bs x.queue.c) (ERow.mk x.script.n x.script.c (fun (i : Nat) => numAt (x.script.f i) 0) (fun (i : Nat)
  => numAt (x.script.f i) 1) fun (i : Nat) => numAt (x.script.f i) 2) x.b1 x.b2 x.b3 x.b4 x.b5 x.b6 x.b7 x.b8) = 0 → (4 + 10 * [x.fr].length).le 1000000000 ∧ [AV.ptr 8 0 0, AV.sl 9 0 0 1 1 true] = [AV.ptr 8 0 0, AV.sl 9 0 0 [x.fr].length [x.fr].length true] ∧ (some (bC [AV.sl 7 0 0 4 4 true]) = some (bC [AV.sl 7 0 0 4 4 true]) ∧ some (ABlk.mk true 1 (AC.ints IntKind.i64 [x.fr])) = some (ABlk.mk true 1 (AC.ints IntKind.i64 [x.fr])) ∧ some (bW [109, 117, 109, 1]) = some (bW [109, 117, 109, 1]) ∧ True) ∧ (∀ (y : List Int), y = [109, 117, 109, 1] ++ encs [x.fr] → (y.length ≤ 1000000000 ∧ x.mem.bs.length ≤ 100000000) ∧ [] ++ [AV.ptr 8 0 0, AV.msl 0 0 0 x.mem.bs.length x.mem.c] ++ [] = [AV.ptr 8 0 0, AV.msl 0 0 0 x.mem.bs.length x.mem.c] ∧ (some (bC [AV.sl 10 0 0 y.length y.length false]) = some (bC [AV.sl 10 0 0 y.length y.length false]) ∧ some (bR x.mem.bs) = some (bR x.mem.bs) ∧ some (bW y) =
  some (bW y) ∧ True) ∧ (∀ (y_1 : List Int), y_1 = y ++ rowB x.mem.bs → y_1.length.le 800000000 ∧ [] ++ [AV.ptr 8 0 0, AV.agg [nU x.s.r0, nU x.s.r1, nU x.s.r2, nU x.s.r3, nU x.s.r4, nU x.s.r5, nU x.s.r6, nU x.s.r7, nU x.s.pc, nU x.s.ps, nU x.s.c0, nU x.s.c1, nU x.s.c2, nU x.s.c3, nU x.s.c4, nU x.s.c5, nU x.s.c6, nU x.s.c7, AV.bool x.s.h]] ++ [] = [AV.ptr 8 0 0, AV.agg [nU x.s.r0, nU x.s.r1, nU x.s.r2, nU x.s.r3, nU x.s.r4, nU x.s.r5, nU x.s.r6, nU x.s.r7, nU x.s.pc, nU x.s.ps, nU x.s.c0, nU x.s.c1, nU x.s.c2, nU x.s.c3, nU x.s.c4, nU x.s.c5, nU x.s.c6, nU x.s.c7, AV.bool x.s.h]] ∧ (some (bC [AV.sl 11 0 0 y_1.length y_1.length false]) = some (bC [AV.sl 11 0 0 y_1.length y_1.length false]) ∧ some (bW y_1) = some (bW y_1) ∧ True) ∧ (∀ (y : List Int), y = y_1 ++ encs (St.mk x.s.r0 x.s.r1 x.s.r2 x.s.r3 x.s.r4 x.s.r5 x.s.r6 x.s.r7 x.s.pc x.s.ps x.s.c0 x.s.c1 x.s.c2 x.s.c3 x.s.c4 x.s.c5 x.s.c6
  x.s.c7 x.s.h).nums → (y.length + 10 * [x.steps, (↑x.notes.n : Int)].length).le 1000000000 ∧ [AV.ptr 8 0 0, AV.sl 13 0 0 2 2 true] = [AV.ptr 8 0 0, AV.sl 13 0 0 [x.steps, (↑x.notes.n : Int)].length [x.steps, (↑x.notes.n : Int)].length true] ∧ (some (bC [AV.sl 12 0 0 y.length y.length false]) = some (bC [AV.sl 12 0 0 y.length y.length false]) ∧ some (ABlk.mk true 1 (AC.ints IntKind.i64 [x.steps, (↑x.notes.n : Int)])) = some (ABlk.mk true 1 (AC.ints IntKind.i64 [x.steps, (↑x.notes.n : Int)])) ∧ some (bW y) = some (bW y) ∧ True) ∧ (∀ (y_2 : List Int), y_2 = y ++ encs [x.steps, (↑x.notes.n : Int)] → same (loopOf Proofs.Tryd.prog F_file_Encode 0) (loopOf Proofs.Tryd.prog F_file_Encode 0) ∧ (0 ≤ x.notes.n ∧ x.notes.n ≤ 4096 ∧ y_2.length + 100 * (x.notes.n - 0) ≤ 200000000) ∧ ((AV.ptr 6 0 0 = AV.ptr 6 0 0 ∧ AV.ptr 8 0 0 = AV.ptr 8 0 0 ∧ AV.msl 1 0 0 x.notes.n x.notes.c = AV.msl 1 0 0 x.notes.n
  x.notes.c ∧ nI (↑x.notes.n : Int) = nI (↑x.notes.n : Int) ∧ nI 0 = nI 0 ∧ True) ∧ bR x.mem.bs = bR x.mem.bs ∧ (false = false ∧ 4 = 4 ∧ x.notes.n = x.notes.n ∧ ∀ (i : Nat), i < x.notes.n → [nI (x.notes.at_ i), nI (x.notes.cause i), nU (x.notes.back i), nU (x.notes.addr i)] = [nI (x.notes.at_ i), nI (x.notes.cause i), nU (x.notes.back i), nU (x.notes.addr i)]) ∧ bR x.out.bs = bR x.out.bs ∧ bR x.disk.bs = bR x.disk.bs ∧ bR x.queue.bs = bR x.queue.bs ∧ (false = false ∧ 3 = 3 ∧ x.script.n = x.script.n ∧ ∀ (i : Nat), i < x.script.n → [nI (x.script.at_ i), nI (x.script.kind i), nB (x.script.byte i)] = [nI (x.script.at_ i), nI (x.script.kind i), nB (x.script.byte i)]) ∧ ABlk.mk true (encC_c_l0 x).length (AC.cells (encC_c_l0 x)) = ABlk.mk true 35 (AC.cells (encC_c_l0 x)) ∧ bC [AV.sl 14 0 0 y_2.length y_2.length false] = bC [AV.sl 14 0 0 y_2.length y_2.length false] ∧ bW y_2 = bW y_2 ∧ True) ∧
  ((y_2 ++ notesB (NRow.mk x.notes.n x.notes.c (fun (i : Nat) => numAt ((fun (i : Nat) => [nI (x.notes.at_ i), nI (x.notes.cause i), nU (x.notes.back i), nU (x.notes.addr i)]) i) 0) (fun (i : Nat) => numAt ((fun (i : Nat) => [nI (x.notes.at_ i), nI (x.notes.cause i), nU (x.notes.back i), nU (x.notes.addr i)]) i) 1) (fun (i : Nat) => numAt ((fun (i : Nat) => [nI (x.notes.at_ i), nI (x.notes.cause i), nU (x.notes.back i), nU (x.notes.addr i)]) i) 2) fun (i : Nat) => numAt ((fun (i : Nat) => [nI (x.notes.at_ i), nI (x.notes.cause i), nU (x.notes.back i), nU (x.notes.addr i)]) i) 3) 0 (x.notes.n - 0)).length ≤ 1000000000 ∧ x.out.bs.length ≤ 100000000) ∧ [] ++ [AV.ptr 7 0 0, AV.msl 2 0 0 x.out.bs.length x.out.c] ++ [] = [AV.ptr 7 0 0, AV.msl 2 0 0 x.out.bs.length x.out.c] ∧ (some (bC [AV.sl 8 0 0 (y_2 ++ notesB (NRow.mk x.notes.n x.notes.c (fun (i : Nat) => numAt ((fun (i : Nat) => [nI
  (x.notes.at_ i), nI (x.notes.cause i), nU (x.notes.back i), nU (x.notes.addr i)]) i) 0) (fun (i : Nat) => numAt ((fun (i : Nat) => [nI (x.notes.at_ i), nI (x.notes.cause i), nU (x.notes.back i), nU (x.notes.addr i)]) i) 1) (fun (i : Nat) => numAt ((fun (i : Nat) => [nI (x.notes.at_ i), nI (x.notes.cause i), nU (x.notes.back i), nU (x.notes.addr i)]) i) 2) fun (i : Nat) => numAt ((fun (i : Nat) => [nI (x.notes.at_ i), nI (x.notes.cause i), nU (x.notes.back i), nU (x.notes.addr i)]) i) 3) 0 (x.notes.n - 0)).length (y_2 ++ notesB (NRow.mk x.notes.n x.notes.c (fun (i : Nat) => numAt ((fun (i : Nat) => [nI (x.notes.at_ i), nI (x.notes.cause i), nU (x.notes.back i), nU (x.notes.addr i)]) i) 0) (fun (i : Nat) => numAt ((fun (i : Nat) => [nI (x.notes.at_ i), nI (x.notes.cause i), nU (x.notes.back i), nU (x.notes.addr i)]) i) 1) (fun (i : Nat) => numAt ((fun (i : Nat) => [nI (x.notes.at_ i), nI
  (x.notes.cause i), nU (x.notes.back i), nU (x.notes.addr i)]) i) 2) fun (i : Nat) => numAt ((fun (i : Nat) => [nI (x.notes.at_ i), nI (x.notes.cause i), nU (x.notes.back i), nU (x.notes.addr i)]) i) 3) 0 (x.notes.n - 0)).length false]) = some (bC [AV.sl 8 0 0 (y_2 ++ notesB (NRow.mk x.notes.n x.notes.c (fun (i : Nat) => numAt ((fun (i : Nat) => [nI (x.notes.at_ i), nI (x.notes.cause i), nU (x.notes.back i), nU (x.notes.addr i)]) i) 0) (fun (i : Nat) => numAt ((fun (i : Nat) => [nI (x.notes.at_ i), nI (x.notes.cause i), nU (x.notes.back i), nU (x.notes.addr i)]) i) 1) (fun (i : Nat) => numAt ((fun (i : Nat) => [nI (x.notes.at_ i), nI (x.notes.cause i), nU (x.notes.back i), nU (x.notes.addr i)]) i) 2) fun (i : Nat) => numAt ((fun (i : Nat) => [nI (x.notes.at_ i), nI (x.notes.cause i), nU (x.notes.back i), nU (x.notes.addr i)]) i) 3) 0 (x.notes.n - 0)).length (y_2 ++ notesB (NRow.mk
  x.notes.n x.notes.c (fun (i : Nat) => numAt ((fun (i : Nat) => [nI (x.notes.at_ i), nI (x.notes.cause i), nU (x.notes.back i), nU (x.notes.addr i)]) i) 0) (fun (i : Nat) => numAt ((fun (i : Nat) => [nI (x.notes.at_ i), nI (x.notes.cause i), nU (x.notes.back i), nU (x.notes.addr i)]) i) 1) (fun (i : Nat) => numAt ((fun (i : Nat) => [nI (x.notes.at_ i), nI (x.notes.cause i), nU (x.notes.back i), nU (x.notes.addr i)]) i) 2) fun (i : Nat) => numAt ((fun (i : Nat) => [nI (x.notes.at_ i), nI (x.notes.cause i), nU (x.notes.back i), nU (x.notes.addr i)]) i) 3) 0 (x.notes.n - 0)).length false]) ∧ some (bR x.out.bs) = some (bR x.out.bs) ∧ some (bW ((y_2 ++ notesB (NRow.mk x.notes.n x.notes.c (fun (i : Nat) => numAt ((fun (i : Nat) => [nI (x.notes.at_ i), nI (x.notes.cause i), nU (x.notes.back i), nU (x.notes.addr i)]) i) 0) (fun (i : Nat) => numAt ((fun (i : Nat) => [nI (x.notes.at_ i), nI
  (x.notes.cause i), nU (x.notes.back i), nU (x.notes.addr i)]) i) 1) (fun (i : Nat) => numAt ((fun (i : Nat) => [nI (x.notes.at_ i), nI (x.notes.cause i), nU (x.notes.back i), nU (x.notes.addr i)]) i) 2) fun (i : Nat) => numAt ((fun (i : Nat) => [nI (x.notes.at_ i), nI (x.notes.cause i), nU (x.notes.back i), nU (x.notes.addr i)]) i) 3) 0 (x.notes.n - 0)))) = some (bW ((y_2 ++ notesB (NRow.mk x.notes.n x.notes.c (fun (i : Nat) => numAt ((fun (i : Nat) => [nI (x.notes.at_ i), nI (x.notes.cause i), nU (x.notes.back i), nU (x.notes.addr i)]) i) 0) (fun (i : Nat) => numAt ((fun (i : Nat) => [nI (x.notes.at_ i), nI (x.notes.cause i), nU (x.notes.back i), nU (x.notes.addr i)]) i) 1) (fun (i : Nat) => numAt ((fun (i : Nat) => [nI (x.notes.at_ i), nI (x.notes.cause i), nU (x.notes.back i), nU (x.notes.addr i)]) i) 2) fun (i : Nat) => numAt ((fun (i : Nat) => [nI (x.notes.at_ i), nI (x.notes.cause
  i), nU (x.notes.back i), nU (x.notes.addr i)]) i) 3) 0 (x.notes.n - 0)))) ∧ True) ∧ (∀ (y : List Int), y = y_2 ++ notesB (NRow.mk x.notes.n x.notes.c (fun (i : Nat) => numAt ((fun (i : Nat) => [nI (x.notes.at_ i), nI (x.notes.cause i), nU (x.notes.back i), nU (x.notes.addr i)]) i) 0) (fun (i : Nat) => numAt ((fun (i : Nat) => [nI (x.notes.at_ i), nI (x.notes.cause i), nU (x.notes.back i), nU (x.notes.addr i)]) i) 1) (fun (i : Nat) => numAt ((fun (i : Nat) => [nI (x.notes.at_ i), nI (x.notes.cause i), nU (x.notes.back i), nU (x.notes.addr i)]) i) 2) fun (i : Nat) => numAt ((fun (i : Nat) => [nI (x.notes.at_ i), nI (x.notes.cause i), nU (x.notes.back i), nU (x.notes.addr i)]) i) 3) 0 (x.notes.n - 0) ++ rowB x.out.bs → (y.length ≤ 1000000000 ∧ x.disk.bs.length ≤ 100000000) ∧ [] ++ [AV.ptr 7 0 0, AV.msl 3 0 0 x.disk.bs.length x.disk.c] ++ [] = [AV.ptr 7 0 0, AV.msl 3 0 0 x.disk.bs.length
  x.disk.c] ∧ (some (bC [AV.sl 9 0 0 y.length y.length false]) = some (bC [AV.sl 9 0 0 y.length y.length false]) ∧ some (bR x.disk.bs) = some (bR x.disk.bs) ∧ some (bW y) = some (bW y) ∧ True) ∧ (∀ (y_3 : List Int), y_3 = y ++ rowB x.disk.bs → (y_3.length ≤ 1000000000 ∧ x.queue.bs.length ≤ 100000000) ∧ [] ++ [AV.ptr 7 0 0, AV.msl 4 0 0 x.queue.bs.length x.queue.c] ++ [] = [AV.ptr 7 0 0, AV.msl 4 0 0 x.queue.bs.length x.queue.c] ∧ (some (bC [AV.sl 10 0 0 y_3.length y_3.length false]) = some (bC [AV.sl 10 0 0 y_3.length y_3.length false]) ∧ some (bR x.queue.bs) = some (bR x.queue.bs) ∧ some (bW y_3) = some (bW y_3) ∧ True) ∧ (∀ (y : List Int), y = y_3 ++ rowB x.queue.bs → (y.length + 10 * [(↑x.script.n : Int)].length).le 1000000000 ∧ [AV.ptr 7 0 0, AV.sl 12 0 0 1 1 true] = [AV.ptr 7 0 0, AV.sl 12 0 0 [(↑x.script.n : Int)].length [(↑x.script.n : Int)].length true] ∧ (some (bC [AV.sl 11 0 0
  y.length y.length false]) = some (bC [AV.sl 11 0 0 y.length y.length false]) ∧ some (ABlk.mk true 1 (AC.ints IntKind.i64 [(↑x.script.n : Int)])) = some (ABlk.mk true 1 (AC.ints IntKind.i64 [(↑x.script.n : Int)])) ∧ some (bW y) = some (bW y) ∧ True) ∧ (∀ (y_4 : List Int), y_4 = y ++ encs [(↑x.script.n : Int)] → same (loopOf Proofs.Tryd.prog F_file_Encode 1) (loopOf Proofs.Tryd.prog F_file_Encode 1) ∧ (0 ≤ x.script.n ∧ x.script.n ≤ 4096 ∧ y_4.length + 100 * (x.script.n - 0) ≤ 400000000) ∧ ((AV.ptr 6 0 0 = AV.ptr 6 0 0 ∧ AV.ptr 7 0 0 = AV.ptr 7 0 0 ∧ AV.msl 5 0 0 x.script.n x.script.c = AV.msl 5 0 0 x.script.n x.script.c ∧ nI (↑x.script.n : Int) = nI (↑x.script.n : Int) ∧ nI 0 = nI 0 ∧ True) ∧ bR x.mem.bs = bR x.mem.bs ∧ (false = false ∧ 4 = 4 ∧ x.notes.n = x.notes.n ∧ ∀ (i : Nat), i < x.notes.n → [nI (x.notes.at_ i), nI (x.notes.cause i), nU (x.notes.back i), nU (x.notes.addr i)] = [nI
  (x.notes.at_ i), nI (x.notes.cause i), nU (x.notes.back i), nU (x.notes.addr i)]) ∧ bR x.out.bs = bR x.out.bs ∧ bR x.disk.bs = bR x.disk.bs ∧ bR x.queue.bs = bR x.queue.bs ∧ (false = false ∧ 3 = 3 ∧ x.script.n = x.script.n ∧ ∀ (i : Nat), i < x.script.n → [nI (x.script.at_ i), nI (x.script.kind i), nB (x.script.byte i)] = [nI (x.script.at_ i), nI (x.script.kind i), nB (x.script.byte i)]) ∧ ABlk.mk true 35 (AC.cells (encC_c_l0 x)) = ABlk.mk true 35 (AC.cells (encC_c_l0 x)) ∧ bC [AV.sl 13 0 0 y_4.length y_4.length false] = bC [AV.sl 13 0 0 y_4.length y_4.length false] ∧ bW y_4 = bW y_4 ∧ True) ∧ ((y_4 ++ evsB (ERow.mk x.script.n x.script.c (fun (i : Nat) => numAt ((ERow.mk x.script.n x.script.c (fun (i : Nat) => numAt ((fun (i : Nat) => [nI (x.script.at_ i), nI (x.script.kind i), nB (x.script.byte i)]) i) 0) (fun (i : Nat) => numAt ((fun (i : Nat) => [nI (x.script.at_ i), nI (x.script.kind
  i), nB (x.script.byte i)]) i) 1) fun (i : Nat) => numAt ((fun (i : Nat) => [nI (x.script.at_ i), nI (x.script.kind i), nB (x.script.byte i)]) i) 2).f i) 0) (fun (i : Nat) => numAt ((ERow.mk x.script.n x.script.c (fun (i : Nat) => numAt ((fun (i : Nat) => [nI (x.script.at_ i), nI (x.script.kind i), nB (x.script.byte i)]) i) 0) (fun (i : Nat) => numAt ((fun (i : Nat) => [nI (x.script.at_ i), nI (x.script.kind i), nB (x.script.byte i)]) i) 1) fun (i : Nat) => numAt ((fun (i : Nat) => [nI (x.script.at_ i), nI (x.script.kind i), nB (x.script.byte i)]) i) 2).f i) 1) fun (i : Nat) => numAt ((ERow.mk x.script.n x.script.c (fun (i : Nat) => numAt ((fun (i : Nat) => [nI (x.script.at_ i), nI (x.script.kind i), nB (x.script.byte i)]) i) 0) (fun (i : Nat) => numAt ((fun (i : Nat) => [nI (x.script.at_ i), nI (x.script.kind i), nB (x.script.byte i)]) i) 1) fun (i : Nat) => numAt ((fun (i : Nat) => [nI
  (x.script.at_ i), nI (x.script.kind i), nB (x.script.byte i)]) i) 2).f i) 2) 0 (x.script.n - 0)).length + 10 * [x.b1, x.b2, x.b3, x.b4, x.b5, x.b6, x.b7, x.b8].length).le 1000000000 ∧ [AV.ptr 7 0 0, AV.sl 9 0 0 8 8 true] = [AV.ptr 7 0 0, AV.sl 9 0 0 [x.b1, x.b2, x.b3, x.b4, x.b5, x.b6, x.b7, x.b8].length [x.b1, x.b2, x.b3, x.b4, x.b5, x.b6, x.b7, x.b8].length true] ∧ (some (bC [AV.sl 8 0 0 (y_4 ++ evsB (ERow.mk x.script.n x.script.c (fun (i : Nat) => numAt ((ERow.mk x.script.n x.script.c (fun (i : Nat) => numAt ((fun (i : Nat) => [nI (x.script.at_ i), nI (x.script.kind i), nB (x.script.byte i)]) i) 0) (fun (i : Nat) => numAt ((fun (i : Nat) => [nI (x.script.at_ i), nI (x.script.kind i), nB (x.script.byte i)]) i) 1) fun (i : Nat) => numAt ((fun (i : Nat) => [nI (x.script.at_ i), nI (x.script.kind i), nB (x.script.byte i)]) i) 2).f i) 0) (fun (i : Nat) => numAt ((ERow.mk x.script.n
  x.script.c (fun (i : Nat) => numAt ((fun (i : Nat) => [nI (x.script.at_ i), nI (x.script.kind i), nB (x.script.byte i)]) i) 0) (fun (i : Nat) => numAt ((fun (i : Nat) => [nI (x.script.at_ i), nI (x.script.kind i), nB (x.script.byte i)]) i) 1) fun (i : Nat) => numAt ((fun (i : Nat) => [nI (x.script.at_ i), nI (x.script.kind i), nB (x.script.byte i)]) i) 2).f i) 1) fun (i : Nat) => numAt ((ERow.mk x.script.n x.script.c (fun (i : Nat) => numAt ((fun (i : Nat) => [nI (x.script.at_ i), nI (x.script.kind i), nB (x.script.byte i)]) i) 0) (fun (i : Nat) => numAt ((fun (i : Nat) => [nI (x.script.at_ i), nI (x.script.kind i), nB (x.script.byte i)]) i) 1) fun (i : Nat) => numAt ((fun (i : Nat) => [nI (x.script.at_ i), nI (x.script.kind i), nB (x.script.byte i)]) i) 2).f i) 2) 0 (x.script.n - 0)).length (y_4 ++ evsB (ERow.mk x.script.n x.script.c (fun (i : Nat) => numAt ((ERow.mk x.script.n
  x.script.c (fun (i : Nat) => numAt ((fun (i : Nat) => [nI (x.script.at_ i), nI (x.script.kind i), nB (x.script.byte i)]) i) 0) (fun (i : Nat) => numAt ((fun (i : Nat) => [nI (x.script.at_ i), nI (x.script.kind i), nB (x.script.byte i)]) i) 1) fun (i : Nat) => numAt ((fun (i : Nat) => [nI (x.script.at_ i), nI (x.script.kind i), nB (x.script.byte i)]) i) 2).f i) 0) (fun (i : Nat) => numAt ((ERow.mk x.script.n x.script.c (fun (i : Nat) => numAt ((fun (i : Nat) => [nI (x.script.at_ i), nI (x.script.kind i), nB (x.script.byte i)]) i) 0) (fun (i : Nat) => numAt ((fun (i : Nat) => [nI (x.script.at_ i), nI (x.script.kind i), nB (x.script.byte i)]) i) 1) fun (i : Nat) => numAt ((fun (i : Nat) => [nI (x.script.at_ i), nI (x.script.kind i), nB (x.script.byte i)]) i) 2).f i) 1) fun (i : Nat) => numAt ((ERow.mk x.script.n x.script.c (fun (i : Nat) => numAt ((fun (i : Nat) => [nI (x.script.at_ i), nI
  (x.script.kind i), nB (x.script.byte i)]) i) 0) (fun (i : Nat) => numAt ((fun (i : Nat) => [nI (x.script.at_ i), nI (x.script.kind i), nB (x.script.byte i)]) i) 1) fun (i : Nat) => numAt ((fun (i : Nat) => [nI (x.script.at_ i), nI (x.script.kind i), nB (x.script.byte i)]) i) 2).f i) 2) 0 (x.script.n - 0)).length false]) = some (bC [AV.sl 8 0 0 (y_4 ++ evsB (ERow.mk x.script.n x.script.c (fun (i : Nat) => numAt ((ERow.mk x.script.n x.script.c (fun (i : Nat) => numAt ((fun (i : Nat) => [nI (x.script.at_ i), nI (x.script.kind i), nB (x.script.byte i)]) i) 0) (fun (i : Nat) => numAt ((fun (i : Nat) => [nI (x.script.at_ i), nI (x.script.kind i), nB (x.script.byte i)]) i) 1) fun (i : Nat) => numAt ((fun (i : Nat) => [nI (x.script.at_ i), nI (x.script.kind i), nB (x.script.byte i)]) i) 2).f i) 0) (fun (i : Nat) => numAt ((ERow.mk x.script.n x.script.c (fun (i : Nat) => numAt ((fun (i : Nat) =>
  [nI (x.script.at_ i), nI (x.script.kind i), nB (x.script.byte i)]) i) 0) (fun (i : Nat) => numAt ((fun (i : Nat) => [nI (x.script.at_ i), nI (x.script.kind i), nB (x.script.byte i)]) i) 1) fun (i : Nat) => numAt ((fun (i : Nat) => [nI (x.script.at_ i), nI (x.script.kind i), nB (x.script.byte i)]) i) 2).f i) 1) fun (i : Nat) => numAt ((ERow.mk x.script.n x.script.c (fun (i : Nat) => numAt ((fun (i : Nat) => [nI (x.script.at_ i), nI (x.script.kind i), nB (x.script.byte i)]) i) 0) (fun (i : Nat) => numAt ((fun (i : Nat) => [nI (x.script.at_ i), nI (x.script.kind i), nB (x.script.byte i)]) i) 1) fun (i : Nat) => numAt ((fun (i : Nat) => [nI (x.script.at_ i), nI (x.script.kind i), nB (x.script.byte i)]) i) 2).f i) 2) 0 (x.script.n - 0)).length (y_4 ++ evsB (ERow.mk x.script.n x.script.c (fun (i : Nat) => numAt ((ERow.mk x.script.n x.script.c (fun (i : Nat) => numAt ((fun (i : Nat) => [nI
  (x.script.at_ i), nI (x.script.kind i), nB (x.script.byte i)]) i) 0) (fun (i : Nat) => numAt ((fun (i : Nat) => [nI (x.script.at_ i), nI (x.script.kind i), nB (x.script.byte i)]) i) 1) fun (i : Nat) => numAt ((fun (i : Nat) => [nI (x.script.at_ i), nI (x.script.kind i), nB (x.script.byte i)]) i) 2).f i) 0) (fun (i : Nat) => numAt ((ERow.mk x.script.n x.script.c (fun (i : Nat) => numAt ((fun (i : Nat) => [nI (x.script.at_ i), nI (x.script.kind i), nB (x.script.byte i)]) i) 0) (fun (i : Nat) => numAt ((fun (i : Nat) => [nI (x.script.at_ i), nI (x.script.kind i), nB (x.script.byte i)]) i) 1) fun (i : Nat) => numAt ((fun (i : Nat) => [nI (x.script.at_ i), nI (x.script.kind i), nB (x.script.byte i)]) i) 2).f i) 1) fun (i : Nat) => numAt ((ERow.mk x.script.n x.script.c (fun (i : Nat) => numAt ((fun (i : Nat) => [nI (x.script.at_ i), nI (x.script.kind i), nB (x.script.byte i)]) i) 0) (fun (i :
  Nat) => numAt ((fun (i : Nat) => [nI (x.script.at_ i), nI (x.script.kind i), nB (x.script.byte i)]) i) 1) fun (i : Nat) => numAt ((fun (i : Nat) => [nI (x.script.at_ i), nI (x.script.kind i), nB (x.script.byte i)]) i) 2).f i) 2) 0 (x.script.n - 0)).length false]) ∧ some (ABlk.mk true 1 (AC.ints IntKind.u32 [x.b1, x.b2, x.b3, x.b4, x.b5, x.b6, x.b7, x.b8])) = some (ABlk.mk true 1 (AC.ints IntKind.u32 [x.b1, x.b2, x.b3, x.b4, x.b5, x.b6, x.b7, x.b8])) ∧ some (bW ((y_4 ++ evsB (ERow.mk x.script.n x.script.c (fun (i : Nat) => numAt ((ERow.mk x.script.n x.script.c (fun (i : Nat) => numAt ((fun (i : Nat) => [nI (x.script.at_ i), nI (x.script.kind i), nB (x.script.byte i)]) i) 0) (fun (i : Nat) => numAt ((fun (i : Nat) => [nI (x.script.at_ i), nI (x.script.kind i), nB (x.script.byte i)]) i) 1) fun (i : Nat) => numAt ((fun (i : Nat) => [nI (x.script.at_ i), nI (x.script.kind i), nB (x.script.byte
  i)]) i) 2).f i) 0) (fun (i : Nat) => numAt ((ERow.mk x.script.n x.script.c (fun (i : Nat) => numAt ((fun (i : Nat) => [nI (x.script.at_ i), nI (x.script.kind i), nB (x.script.byte i)]) i) 0) (fun (i : Nat) => numAt ((fun (i : Nat) => [nI (x.script.at_ i), nI (x.script.kind i), nB (x.script.byte i)]) i) 1) fun (i : Nat) => numAt ((fun (i : Nat) => [nI (x.script.at_ i), nI (x.script.kind i), nB (x.script.byte i)]) i) 2).f i) 1) fun (i : Nat) => numAt ((ERow.mk x.script.n x.script.c (fun (i : Nat) => numAt ((fun (i : Nat) => [nI (x.script.at_ i), nI (x.script.kind i), nB (x.script.byte i)]) i) 0) (fun (i : Nat) => numAt ((fun (i : Nat) => [nI (x.script.at_ i), nI (x.script.kind i), nB (x.script.byte i)]) i) 1) fun (i : Nat) => numAt ((fun (i : Nat) => [nI (x.script.at_ i), nI (x.script.kind i), nB (x.script.byte i)]) i) 2).f i) 2) 0 (x.script.n - 0)))) = some (bW ((y_4 ++ evsB (ERow.mk
  x.script.n x.script.c (fun (i : Nat) => numAt ((ERow.mk x.script.n x.script.c (fun (i : Nat) => numAt ((fun (i : Nat) => [nI (x.script.at_ i), nI (x.script.kind i), nB (x.script.byte i)]) i) 0) (fun (i : Nat) => numAt ((fun (i : Nat) => [nI (x.script.at_ i), nI (x.script.kind i), nB (x.script.byte i)]) i) 1) fun (i : Nat) => numAt ((fun (i : Nat) => [nI (x.script.at_ i), nI (x.script.kind i), nB (x.script.byte i)]) i) 2).f i) 0) (fun (i : Nat) => numAt ((ERow.mk x.script.n x.script.c (fun (i : Nat) => numAt ((fun (i : Nat) => [nI (x.script.at_ i), nI (x.script.kind i), nB (x.script.byte i)]) i) 0) (fun (i : Nat) => numAt ((fun (i : Nat) => [nI (x.script.at_ i), nI (x.script.kind i), nB (x.script.byte i)]) i) 1) fun (i : Nat) => numAt ((fun (i : Nat) => [nI (x.script.at_ i), nI (x.script.kind i), nB (x.script.byte i)]) i) 2).f i) 1) fun (i : Nat) => numAt ((ERow.mk x.script.n x.script.c
  (fun (i : Nat) => numAt ((fun (i : Nat) => [nI (x.script.at_ i), nI (x.script.kind i), nB (x.script.byte i)]) i) 0) (fun (i : Nat) => numAt ((fun (i : Nat) => [nI (x.script.at_ i), nI (x.script.kind i), nB (x.script.byte i)]) i) 1) fun (i : Nat) => numAt ((fun (i : Nat) => [nI (x.script.at_ i), nI (x.script.kind i), nB (x.script.byte i)]) i) 2).f i) 2) 0 (x.script.n - 0)))) ∧ True) ∧ (∀ (y : List Int), y = y_4 ++ evsB (ERow.mk x.script.n x.script.c (fun (i : Nat) => numAt ((ERow.mk x.script.n x.script.c (fun (i : Nat) => numAt ((fun (i : Nat) => [nI (x.script.at_ i), nI (x.script.kind i), nB (x.script.byte i)]) i) 0) (fun (i : Nat) => numAt ((fun (i : Nat) => [nI (x.script.at_ i), nI (x.script.kind i), nB (x.script.byte i)]) i) 1) fun (i : Nat) => numAt ((fun (i : Nat) => [nI (x.script.at_ i), nI (x.script.kind i), nB (x.script.byte i)]) i) 2).f i) 0) (fun (i : Nat) => numAt ((ERow.mk
  x.script.n x.script.c (fun (i : Nat) => numAt ((fun (i : Nat) => [nI (x.script.at_ i), nI (x.script.kind i), nB (x.script.byte i)]) i) 0) (fun (i : Nat) => numAt ((fun (i : Nat) => [nI (x.script.at_ i), nI (x.script.kind i), nB (x.script.byte i)]) i) 1) fun (i : Nat) => numAt ((fun (i : Nat) => [nI (x.script.at_ i), nI (x.script.kind i), nB (x.script.byte i)]) i) 2).f i) 1) fun (i : Nat) => numAt ((ERow.mk x.script.n x.script.c (fun (i : Nat) => numAt ((fun (i : Nat) => [nI (x.script.at_ i), nI (x.script.kind i), nB (x.script.byte i)]) i) 0) (fun (i : Nat) => numAt ((fun (i : Nat) => [nI (x.script.at_ i), nI (x.script.kind i), nB (x.script.byte i)]) i) 1) fun (i : Nat) => numAt ((fun (i : Nat) => [nI (x.script.at_ i), nI (x.script.kind i), nB (x.script.byte i)]) i) 2).f i) 2) 0 (x.script.n - 0) ++ encs [x.b1, x.b2, x.b3, x.b4, x.b5, x.b6, x.b7, x.b8] → y.length.le 1000000000 ∧ [] ++
  [AV.sl 10 0 0 y.length y.length false] ++ [] = [AV.sl 10 0 0 y.length y.length false] ∧ (some (bW y) = some (bW y) ∧ True) ∧ (∀ (y_5 : Unit), True → (∃ (y_6 : List Int), keepN x = 3 ∧ [AV.tup [AV.sl 11 0 0 (sealB y).length (sealB y).length false, nI 0]] = [AV.tup [AV.nils, nI 3]] ∧ bR x.mem.bs = bR x.mem.bs ∧ (false = false ∧ 4 = 4 ∧ x.notes.n = x.notes.n ∧ ∀ (i : Nat), i < x.notes.n → [nI (x.notes.at_ i), nI (x.notes.cause i), nU (x.notes.back i), nU (x.notes.addr i)] = [nI (x.notes.at_ i), nI (x.notes.cause i), nU (x.notes.back i), nU (x.notes.addr i)]) ∧ bR x.out.bs = bR x.out.bs ∧ bR x.disk.bs = bR x.disk.bs ∧ bR x.queue.bs = bR x.queue.bs ∧ (false = false ∧ 3 = 3 ∧ x.script.n = x.script.n ∧ ∀ (i : Nat), i < x.script.n → [nI (x.script.at_ i), nI (x.script.kind i), nB (x.script.byte i)] = [nI (x.script.at_ i), nI (x.script.kind i), nB (x.script.byte i)]) ∧ True) ∨ (∃ (y_6 : List Int),
  keepN x = 2 ∧ [AV.tup [AV.sl 11 0 0 (sealB y).length (sealB y).length false, nI 0]] = [AV.tup [AV.nils, nI 2]] ∧ bR x.mem.bs = bR x.mem.bs ∧ (false = false ∧ 4 = 4 ∧ x.notes.n = x.notes.n ∧ ∀ (i : Nat), i < x.notes.n → [nI (x.notes.at_ i), nI (x.notes.cause i), nU (x.notes.back i), nU (x.notes.addr i)] = [nI (x.notes.at_ i), nI (x.notes.cause i), nU (x.notes.back i), nU (x.notes.addr i)]) ∧ bR x.out.bs = bR x.out.bs ∧ bR x.disk.bs = bR x.disk.bs ∧ bR x.queue.bs = bR x.queue.bs ∧ (false = false ∧ 3 = 3 ∧ x.script.n = x.script.n ∧ ∀ (i : Nat), i < x.script.n → [nI (x.script.at_ i), nI (x.script.kind i), nB (x.script.byte i)] = [nI (x.script.at_ i), nI (x.script.kind i), nB (x.script.byte i)]) ∧ True) ∨ ∃ (y_6 : List Int), (keepN x = 0 ∧ y_6 = sealB (encL x)) ∧ [AV.tup [AV.sl 11 0 0 (sealB y).length (sealB y).length false, nI 0]] = [AV.tup [AV.sl 11 0 0 y_6.length y_6.length false, nI 0]] ∧
  bR x.mem.bs = bR x.mem.bs ∧ (false = false ∧ 4 = 4 ∧ x.notes.n = x.notes.n ∧ ∀ (i : Nat), i < x.notes.n → [nI (x.notes.at_ i), nI (x.notes.cause i), nU (x.notes.back i), nU (x.notes.addr i)] = [nI (x.notes.at_ i), nI (x.notes.cause i), nU (x.notes.back i), nU (x.notes.addr i)]) ∧ bR x.out.bs = bR x.out.bs ∧ bR x.disk.bs = bR x.disk.bs ∧ bR x.queue.bs = bR x.queue.bs ∧ (false = false ∧ 3 = 3 ∧ x.script.n = x.script.n ∧ ∀ (i : Nat), i < x.script.n → [nI (x.script.at_ i), nI (x.script.kind i), nB (x.script.byte i)] = [nI (x.script.at_ i), nI (x.script.kind i), nB (x.script.byte i)]) ∧ bW ((sealB y)) = bW y_6 ∧ True) ∧ True) ∧ True) ∧ True) ∧ True) ∧ True) ∧ True) ∧ True) ∧ True) ∧ True) ∧ True) ∧ True
theorem encC_c_e (x : Sv) : some (encC_c_V x) = (encC.cond sp Go.Proofs.Tryd.prog (drP sp Go.Proofs.Tryd.prog) (forF F_file_Encode (orL ((enNotesL Go.Proofs.Tryd.prog).lo sp Go.Proofs.Tryd.prog (isLoop 10) (loopOf Go.Proofs.Tryd.prog F_file_Encode 0)) ((enEvsL Go.Proofs.Tryd.prog).lo sp Go.Proofs.Tryd.prog (isLoop 20) (loopOf Go.Proofs.Tryd.prog F_file_Encode 1))) noLoops) (orK (keepC.orc sp) (orK ((intsC F_file_writer_ints .i64).orc sp) (orK ((intsC F_file_writer_numbers .u32).orc sp) (orK (rowC.orc sp) (orK (stateC.orc sp) (sealC.orc sp)))))) 60 2 x) := by kernel_rfl
theorem keepN_ok {x : Sv} (h : keepN x = 0) : x.notes.n ≤ 4096 ∧ x.out.bs.length ≤ 65536 ∧ x.script.n ≤ 64 := by
  have hl : loadN x = 0 := by
    unfold keepN at h
    rcases hb : (loadN x == 0) with _ | _
    · rw [hb] at h; exact h
    · simpa using hb
  have hd : devLN x = 0 := by
    unfold loadN at hl
    rcases hb : fitsN x with _ | _
    · rw [hb] at hl; cases hl
    · rw [hb] at hl; exact hl
  have hn : devN ⟨x.script, x.disk⟩ = 0 := by
    unfold devLN at hd
    rcases hb : (devN ⟨x.script, x.disk⟩ == 0) with _ | _
    · rw [hb] at hd; exact hd
    · simpa using hb
  have h1 : (decide (x.notes.n > 4096) || decide (x.out.bs.length > 65536)) = false := by
    unfold keepN at h
    rw [hl] at h
    rcases hb : (decide (x.notes.n > 4096) || decide (x.out.bs.length > 65536)) with _ | _
    · rfl
    · rw [hb] at h; cases h
  have h2 : (decide (x.script.n > 64) || decide (x.disk.bs.length > 2048)) = false := by
    unfold devN at hn
    rcases hb : (decide (x.script.n > 64) || decide (x.disk.bs.length > 2048)) with _ | _
    · rfl
    · rw [hb] at hn; cases hn
  simp at h1 h2
  omega
theorem rowB_len (l : List Int) (h : l.length ≤ 100000000) : (rowB l).length ≤ 10 + l.length := by
  have := putN_len 9 (l.length : Int) (by omega)
  simp [rowB]; omega
theorem notesB_len (r : NRow) : ∀ (m k : Nat), (notesB r k m).length ≤ 40 * m
  | 0, _ => by simp [notesB]
  | m + 1, k => by
    have h1 := encs_len [r.at_ k, r.cause k]
    have h2 := encs_len [r.back k, r.addr k]
    have := notesB_len r m (k + 1)
    simp only [List.length_cons, List.length_nil] at h1 h2
    simp only [notesB, noteB, List.length_append]
    omega
theorem evsB_len (r : ERow) : ∀ (m k : Nat), (evsB r k m).length ≤ 30 * m
  | 0, _ => by simp [evsB]
  | m + 1, k => by
    have h1 := encs_len [r.at_ k, r.kind k, IntKind.wrap .i64 (r.byte k)]
    have := evsB_len r m (k + 1)
    simp only [List.length_cons, List.length_nil] at h1
    simp only [evsB, evB, List.length_append]
    omega
set_option maxRecDepth 100000 in
set_option maxHeartbeats 8000000 in
theorem encC_ok : encC.OK Go.Proofs.Tryd.prog := by
  refine Con.by hmix (forF_ok (orL_ok (Lp.lo_ok enNotesL_ok rfl) (Lp.lo_ok enEvsL_ok rfl)) (noLoops_ok _)) (orK_ok (Con.orc_ok keepC_ok) (orK_ok (Con.orc_ok intsC_ok) (orK_ok (Con.orc_ok numsC_ok) (orK_ok (Con.orc_ok rowC_ok) (orK_ok (Con.orc_ok stateC_ok) (Con.orc_ok sealC_ok)))))) encC_c_V encC_c_e (fun x hx => ?_)
  have ⟨hm, hno, ho, hd, hq, hs⟩ := hx
  unfold encC_c_V
  refine ⟨hx, rfl, ⟨rfl, rfl, rfl, rfl, rfl, rfl, trivial⟩, fun _ h3 => ?_, fun _ h2 => ?_, fun _ h0 => ?_, trivial⟩
  · have h3 : keepN x = 3 := h3
    exact .inl ⟨[], h3, rfl, rfl, ⟨rfl, rfl, rfl, fun _ _ => rfl⟩, rfl, rfl, rfl, ⟨rfl, rfl, rfl, fun _ _ => rfl⟩, trivial⟩
  · have h2 : keepN x = 2 := h2
    exact .inr (.inl ⟨[], h2, rfl, rfl, ⟨rfl, rfl, rfl, fun _ _ => rfl⟩, rfl, rfl, rfl, ⟨rfl, rfl, rfl, fun _ _ => rfl⟩, trivial⟩)
  · have h0 : keepN x = 0 := h0
    obtain ⟨k1, k2, k3⟩ := keepN_ok h0
    have kk := keepN_kept h0
    have bm : x.mem.bs.length ≤ 100000000 := by have := kk.mem; have := kk.fr; omega
    have bo : x.out.bs.length ≤ 100000000 := by have := kk.out; omega
    have bd : x.disk.bs.length ≤ 100000000 := by have := kk.disk; omega
    have bq : x.queue.bs.length ≤ 100000000 := by have := kk.queue; omega
    have q1 := encs_len [x.fr]
    have q2 := rowB_len x.mem.bs bm
    have q3 := encs_len x.s.nums
    have q4 := encs_len [x.steps, (x.notes.n : Int)]
    have q5 := notesB_len x.notes x.notes.n 0
    have q6 := rowB_len x.out.bs bo
    have q7 := rowB_len x.disk.bs bd
    have q8 := rowB_len x.queue.bs bq
    have q9 := encs_len [(x.script.n : Int)]
    have q10 := evsB_len x.script x.script.n 0
    have q11 := encs_len [x.b1, x.b2, x.b3, x.b4, x.b5, x.b6, x.b7, x.b8]
    have qn : x.s.nums.length = 19 := rfl
    simp only [List.length_cons, List.length_nil] at q1 q4 q9 q11
    refine ⟨by show 4 + 10 * 1 ≤ 1000000000; omega, rfl, ⟨rfl, rfl, rfl, trivial⟩, fun y hy => ?_, trivial⟩
    have ly : y.length = 4 + (encs [x.fr]).length := by rw [hy]; simp; omega
    refine ⟨⟨by omega, bm⟩, rfl, ⟨rfl, rfl, rfl, trivial⟩, fun y1 hy1 => ?_, trivial⟩
    have ly1 : y1.length = y.length + (rowB x.mem.bs).length := by rw [hy1, List.length_append]
    refine ⟨by show y1.length ≤ 800000000; omega, rfl, ⟨rfl, rfl, trivial⟩, fun y2 hy2 => ?_, trivial⟩
    have hy2 : y2 = y1 ++ encs x.s.nums := hy2
    have ly2 : y2.length = y1.length + (encs x.s.nums).length := by rw [hy2, List.length_append]
    refine ⟨by show y2.length + 10 * 2 ≤ 1000000000; omega, rfl, ⟨rfl, rfl, rfl, trivial⟩, fun y3 hy3 => ?_, trivial⟩
    have ly3 : y3.length = y2.length + (encs [x.steps, (x.notes.n : Int)]).length := by rw [hy3, List.length_append]
    refine ⟨rfl, ⟨Nat.zero_le _, k1, by omega⟩, ⟨⟨rfl, rfl, rfl, rfl, rfl, trivial⟩, rfl, ⟨rfl, rfl, rfl, fun _ _ => rfl⟩, rfl, rfl, rfl, ⟨rfl, rfl, rfl, fun _ _ => rfl⟩, rfl, rfl, rfl, trivial⟩, ?_⟩
    refine ⟨⟨by show (y3 ++ notesB x.notes 0 x.notes.n).length ≤ 1000000000; rw [List.length_append]; omega, bo⟩, rfl, ⟨rfl, rfl, rfl, trivial⟩, fun y4 hy4 => ?_, trivial⟩
    have hy4 : y4 = y3 ++ notesB x.notes 0 x.notes.n ++ rowB x.out.bs := hy4
    have ly4 : y4.length = y3.length + (notesB x.notes 0 x.notes.n).length + (rowB x.out.bs).length := by rw [hy4, List.length_append, List.length_append]
    refine ⟨⟨by omega, bd⟩, rfl, ⟨rfl, rfl, rfl, trivial⟩, fun y5 hy5 => ?_, trivial⟩
    have ly5 : y5.length = y4.length + (rowB x.disk.bs).length := by rw [hy5, List.length_append]
    refine ⟨⟨by omega, bq⟩, rfl, ⟨rfl, rfl, rfl, trivial⟩, fun y6 hy6 => ?_, trivial⟩
    have ly6 : y6.length = y5.length + (rowB x.queue.bs).length := by rw [hy6, List.length_append]
    refine ⟨by show y6.length + 10 * 1 ≤ 1000000000; omega, rfl, ⟨rfl, rfl, rfl, trivial⟩, fun y7 hy7 => ?_, trivial⟩
    have ly7 : y7.length = y6.length + (encs [(x.script.n : Int)]).length := by rw [hy7, List.length_append]
    refine ⟨rfl, ⟨Nat.zero_le _, by show x.script.n ≤ 4096; omega, by show y7.length + 100 * (x.script.n - 0) ≤ 400000000; omega⟩, ⟨⟨rfl, rfl, rfl, rfl, rfl, trivial⟩, rfl, ⟨rfl, rfl, rfl, fun _ _ => rfl⟩, rfl, rfl, rfl, ⟨rfl, rfl, rfl, fun _ _ => rfl⟩, rfl, rfl, rfl, trivial⟩, ?_⟩
    refine ⟨by show (y7 ++ evsB x.script 0 x.script.n).length + 10 * 8 ≤ 1000000000; rw [List.length_append]; omega, rfl, ⟨rfl, rfl, rfl, trivial⟩, fun y8 hy8 => ?_, trivial⟩
    have hy8 : y8 = y7 ++ evsB x.script 0 x.script.n ++ encs [x.b1, x.b2, x.b3, x.b4, x.b5, x.b6, x.b7, x.b8] := hy8
    have ly8 : y8.length = y7.length + (evsB x.script 0 x.script.n).length + (encs [x.b1, x.b2, x.b3, x.b4, x.b5, x.b6, x.b7, x.b8]).length := by rw [hy8, List.length_append, List.length_append]
    have hy : y8 = encL x := by
      rw [hy8, hy7, hy6, hy5, hy4, hy3, hy2, hy1, hy]; rfl
    refine ⟨by show y8.length ≤ 1000000000; omega, rfl, ⟨rfl, trivial⟩, fun _ _ => ?_, trivial⟩
    exact .inr (.inr ⟨sealB y8, ⟨h0, by rw [hy]⟩, rfl, rfl, ⟨rfl, rfl, rfl, fun _ _ => rfl⟩, rfl, rfl, rfl, ⟨rfl, rfl, rfl, fun _ _ => rfl⟩, rfl, trivial⟩)
end Go.Proofs.YtmbcpmbpkdeioaaDoor.W
/- Fields read: what is reckoned. No condition. -/
namespace Go.Proofs.YtmbcpmbpkdeioaaDoor.W
open Go Go.RowKit Go.Eng
set_option maxRecDepth 100000
set_option linter.unusedVariables false
set_option linter.unusedSimpArgs false
inductive UpR where
  | ok (n : Int) (o : Nat)
  | no (e : Int)
/-- A number that is at most so great, from a place on; and the place behind it. -/
def upN (bs : List Int) (o : Nat) (most : Int) : UpR :=
  match getN (bs.drop o) with
  | (n, u, e) => if e ≠ 0 then .no e else if n > most then .no 291 else .ok n (o + u.toNat)
def wrongAV (e : Int) : AV := .ifc T_file_wrong (.agg [.int .i64 e])
def rdL (bs : List Int) (o : Nat) : LH := [(0, ⟨true, 1, .cells [Rest bs o 1]⟩), (1, ⟨true, 1, .ints .u8 bs⟩)]
structure UpX where
  bs : List Int
  o : Nat
  most : Int
structure UpY where
  n : Int
  o : Nat
def rdFit (b : Nat) (H : AH) : Option (List Nat × At) := match H.get b with
  | some k => match k.c with
    | .cells [.sl b1 o _ _ _ _] => match H.get b1 with
      | some k1 => match k1.c with
        | .ints _ bs => some ([b, b1], ⟨bs, o⟩)
        | _ => none
      | none => none
    | _ => none
  | none => none
def upToC : Con UpX UpY where
  f := F_file_reader_upTo
  fit vs H := match vs with
    | [.ptr b _ _, .int _ most] => (rdFit b H).map fun r => (r.1, ⟨r.2.bs, r.2.o, most⟩)
    | _ => none
  n0 := 2
  pre x := x.o ≤ x.bs.length ∧ x.bs.length ≤ 140737488355328
  args x := [.ptr 0 0 0, .int .u64 x.most]
  L0 x := rdL x.bs x.o
  outs x := [(fun y => upN x.bs x.o x.most = .ok y.n y.o ∧ y.o ≤ x.bs.length ∧ 0 ≤ y.n ∧ y.n ≤ x.most, fun y => (.ret (.int .u64 y.n), 2, rdL x.bs y.o)),
    (fun y => upN x.bs x.o x.most = .no 290, fun y => (.panic (wrongAV 290), 2, [])),
    (fun y => upN x.bs x.o x.most = .no 291, fun y => (.panic (wrongAV 291), 2, []))]
def numC (f : FuncId) (most : Int) (k : IntKind) : Con At UpY where
  f := f
  fit vs H := match vs with
    | [.ptr b _ _] => rdFit b H
    | _ => none
  n0 := 2
  pre x := x.o ≤ x.bs.length ∧ x.bs.length ≤ 140737488355328
  args x := [.ptr 0 0 0]
  L0 x := rdL x.bs x.o
  outs x := [(fun y => upN x.bs x.o most = .ok y.n y.o ∧ y.o ≤ x.bs.length ∧ 0 ≤ y.n ∧ y.n ≤ most, fun y => (.ret (.int k y.n), 2, rdL x.bs y.o)),
    (fun y => upN x.bs x.o most = .no 290, fun y => (.panic (wrongAV 290), 2, [])),
    (fun y => upN x.bs x.o most = .no 291, fun y => (.panic (wrongAV 291), 2, []))]
def far : Int := 1099511627776
/-- How many follow. -/
def cntN (bs : List Int) (o : Nat) (most : Int) : UpR :=
  match upN bs o 1099511627776 with
  | .no e => .no e
  | .ok n o' => if n > most then .no 3 else .ok n o'
def countC : Con UpX UpY where
  f := F_file_reader_count
  fit vs H := match vs with
    | [.ptr b _ _, .int _ most] => (rdFit b H).map fun r => (r.1, ⟨r.2.bs, r.2.o, most⟩)
    | _ => none
  n0 := 2
  pre x := x.o ≤ x.bs.length ∧ x.bs.length ≤ 140737488355328
  args x := [.ptr 0 0 0, .int .i64 x.most]
  L0 x := rdL x.bs x.o
  outs x := [(fun y => cntN x.bs x.o x.most = .ok y.n y.o ∧ y.o ≤ x.bs.length ∧ 0 ≤ y.n ∧ y.n ≤ x.most, fun y => (.ret (.int .i64 y.n), 2, rdL x.bs y.o)),
    (fun y => cntN x.bs x.o x.most = .no 290, fun y => (.panic (wrongAV 290), 2, [])),
    (fun y => cntN x.bs x.o x.most = .no 291, fun y => (.panic (wrongAV 291), 2, [])),
    (fun y => cntN x.bs x.o x.most = .no 3, fun y => (.panic (wrongAV 3), 2, []))]
structure UpZ where
  u : Nat
  n : Nat
def rdRowC : Con UpX UpZ where
  f := F_file_reader_row
  fit vs H := match vs with
    | [.ptr b _ _, .int _ most] => (rdFit b H).map fun r => (r.1, ⟨r.2.bs, r.2.o, most⟩)
    | _ => none
  n0 := 2
  pre x := x.o ≤ x.bs.length ∧ x.bs.length ≤ 140737488355328
  args x := [.ptr 0 0 0, .int .i64 x.most]
  L0 x := rdL x.bs x.o
  outs x := [(fun y => rowN (x.bs.drop x.o) x.most = .ok y.u y.n, fun y => (.ret (.sl 2 0 0 y.n y.n false), 3, [(0, ⟨true, 1, .cells [Rest x.bs (x.o + (y.u + y.n)) 1]⟩), (1, ⟨true, 1, .ints .u8 x.bs⟩), (2, ⟨true, 1, .ints .u8 ((x.bs.drop (x.o + y.u)).take y.n)⟩)])),
    (fun y => rowN (x.bs.drop x.o) x.most = .no 290, fun y => (.panic (wrongAV 290), 3, [])),
    (fun y => rowN (x.bs.drop x.o) x.most = .no 291, fun y => (.panic (wrongAV 291), 3, [])),
    (fun y => rowN (x.bs.drop x.o) x.most = .no 3, fun y => (.panic (wrongAV 3), 3, []))]
theorem rowN_ok {l : List Int} {most : Int} {u n : Nat} (hl : l.length ≤ 140737488355328) (h : rowN l most = .ok u n) : u + n ≤ l.length := by
  unfold rowN at h
  rcases getN_range l with ⟨n', u', e, h3, h4, h5⟩ | e | e
  · rw [e] at h
    simp only [ne_eq, not_true_eq_false, if_false] at h
    have w1 : IntKind.wrap .i64 ((l.length : Int) - (u' : Int)) = (l.length : Int) - u' := IntWalk.i64_in _ (by omega)
    have w2 : IntKind.wrap .u64 ((l.length : Int) - (u' : Int)) = (l.length : Int) - u' := IntWalk.u64_in _ (by omega)
    rw [w1, w2] at h
    generalize IntKind.wrap .u64 (if (0 : Int) > most then 0 else most) = w at h
    split at h
    · cases h
    · split at h
      · cases h
      · cases h
        omega
  · rw [e] at h; simp at h
  · rw [e] at h; simp at h
end Go.Proofs.YtmbcpmbpkdeioaaDoor.W
/- Fields read: the walks. No condition. -/
namespace Go.Proofs.YtmbcpmbpkdeioaaDoor.W
open Go Go.RowKit Go.Eng
set_option maxRecDepth 100000
set_option linter.unusedVariables false
set_option linter.unusedSimpArgs false
def upToC_c_V (x : UpX) : Prop :=
  (x.o ≤ x.bs.length ∧ x.bs.length ≤ 140737488355328) ∧ [] ++ [AV.sl 1 x.o 0 (x.bs.length - x.o) (x.bs.length - x.o) false] ++ [] = [AV.sl 1 x.o 0 (x.bs.length - x.o) (x.bs.length - x.o) false] ∧ (some (bW x.bs) = some (bW x.bs) ∧ True) ∧ (∀ (y : Got), getN (List.drop x.o x.bs) = (y.n, (↑y.u : Int), 0) → sp (decide (y.n > x.most)) ((∃ (y : UpY), (upN x.bs x.o x.most = UpR.ok y.n y.o ∧ y.o ≤ x.bs.length ∧ 0 ≤ y.n ∧ y.n ≤ x.most) ∧ False) ∨ (∃ (y : UpY), upN x.bs x.o x.most = UpR.no 290 ∧ [AV.ifc 46 (AV.agg [nI 291])] = [AV.ifc T_file_wrong (AV.agg [nI 290])] ∧ True) ∨ ∃ (y : UpY), upN x.bs x.o x.most = UpR.no 291 ∧ [AV.ifc 46 (AV.agg [nI 291])] = [AV.ifc T_file_wrong (AV.agg [nI 291])] ∧ True) (sp (decide ((↑y.u : Int).toNat ≤ x.bs.length - x.o) && decide (x.bs.length - x.o ≤ x.bs.length - x.o) && decide (x.bs.length - x.o ≤ x.bs.length - x.o) && true && true) ((∃ (y_1 : UpY), (upN x.bs x.o
  x.most = UpR.ok y_1.n y_1.o ∧ y_1.o ≤ x.bs.length ∧ 0 ≤ y_1.n ∧ y_1.n ≤ x.most) ∧ [nL y.n] = [nL y_1.n] ∧ bC (([AV.sl 1 x.o 0 (x.bs.length - x.o) (x.bs.length - x.o) false].set 0 (AV.sl 1 (x.o + (↑y.u : Int).toNat) 0 (x.bs.length - x.o - (↑y.u : Int).toNat) (x.bs.length - x.o - (↑y.u : Int).toNat) false))) = bC [AV.sl 1 y_1.o 0 (x.bs.length - y_1.o) (x.bs.length - y_1.o) false] ∧ bW x.bs = bW x.bs ∧ True) ∨ (∃ (y : UpY), upN x.bs x.o x.most = UpR.no 290 ∧ False) ∨ ∃ (y : UpY), upN x.bs x.o x.most = UpR.no 291 ∧ False) False)) ∧ (∀ (y : Got), getN (List.drop x.o x.bs) = (0, 0, 290) → (∃ (y : UpY), (upN x.bs x.o x.most = UpR.ok y.n y.o ∧ y.o ≤ x.bs.length ∧ 0 ≤ y.n ∧ y.n ≤ x.most) ∧ False) ∨ (∃ (y : UpY), upN x.bs x.o x.most = UpR.no 290 ∧ [AV.ifc 46 (AV.agg [nI 290])] = [AV.ifc T_file_wrong (AV.agg [nI 290])] ∧ True) ∨ ∃ (y : UpY), upN x.bs x.o x.most = UpR.no 291 ∧ [AV.ifc 46 (AV.agg [nI
  290])] = [AV.ifc T_file_wrong (AV.agg [nI 291])] ∧ True) ∧ (∀ (y : Got), getN (List.drop x.o x.bs) = (0, 0, 291) → (∃ (y : UpY), (upN x.bs x.o x.most = UpR.ok y.n y.o ∧ y.o ≤ x.bs.length ∧ 0 ≤ y.n ∧ y.n ≤ x.most) ∧ False) ∨ (∃ (y : UpY), upN x.bs x.o x.most = UpR.no 290 ∧ [AV.ifc 46 (AV.agg [nI 291])] = [AV.ifc T_file_wrong (AV.agg [nI 290])] ∧ True) ∨ ∃ (y : UpY), upN x.bs x.o x.most = UpR.no 291 ∧ [AV.ifc 46 (AV.agg [nI 291])] = [AV.ifc T_file_wrong (AV.agg [nI 291])] ∧ True) ∧ True
theorem upToC_c_e (x : UpX) : some (upToC_c_V x) = (upToC.cond sp Go.Proofs.Tryd.prog (drP sp Go.Proofs.Tryd.prog) noLoops (getC.orc sp) 40 4 x) := by kernel_rfl
set_option maxRecDepth 100000 in
theorem upToC_ok : upToC.OK Go.Proofs.Tryd.prog := by
  refine Con.by hmix (noLoops_ok _) (Con.orc_ok getC_ok) upToC_c_V upToC_c_e (fun x hx => ?_)
  obtain ⟨h1, h2⟩ := hx
  unfold upToC_c_V
  refine ⟨⟨h1, h2⟩, rfl, ⟨rfl, trivial⟩, fun ⟨n, u⟩ hy => ?_, fun y hy => ?_, fun y hy => ?_, trivial⟩
  · have hy : getN (x.bs.drop x.o) = (n, (u : Int), 0) := hy
    have hu : u ≤ x.bs.length - x.o ∧ 0 ≤ n := by
      rcases getN_range (x.bs.drop x.o) with ⟨n', u', h, h3, h4, h5⟩ | h | h
      · rw [h] at hy
        simp only [Prod.mk.injEq, List.length_drop] at hy h4
        omega
      · rw [h] at hy; simp at hy
      · rw [h] at hy; simp at hy
    have hN : upN x.bs x.o x.most = if n > x.most then .no 291 else .ok n (x.o + u) := by
      unfold upN; rw [hy]; simp
    refine spI (fun h => ?_) (fun h => spT ?_ ?_)
    · have h : n > x.most := by simpa using h
      rw [if_pos h] at hN
      exact .inr (.inr ⟨⟨0, 0⟩, hN, rfl, trivial⟩)
    · simp; omega
    · have h : ¬ n > x.most := by simpa using h
      rw [if_neg h] at hN
      refine .inl ⟨⟨n, x.o + u⟩, ⟨hN, ?_, hu.2, by show n ≤ x.most; omega⟩, rfl, ?_, rfl, trivial⟩
      · show x.o + u ≤ x.bs.length; omega
      · have e : x.bs.length - x.o - u = x.bs.length - (x.o + u) := by omega
        simp [e]
  · have hy : getN (x.bs.drop x.o) = (0, 0, 290) := hy
    exact .inr (.inl ⟨⟨0, 0⟩, by unfold upN; rw [hy]; simp, rfl, trivial⟩)
  · have hy : getN (x.bs.drop x.o) = (0, 0, 291) := hy
    exact .inr (.inr ⟨⟨0, 0⟩, by unfold upN; rw [hy]; simp, rfl, trivial⟩)
def rdInt_c_V (x : At) : Prop :=
  (x.o ≤ x.bs.length ∧ x.bs.length ≤ 140737488355328) ∧ [AV.ptr 0 0 0, nL 1099511627776] = [AV.ptr 0 0 0, nL 1099511627776] ∧ (some (bC [AV.sl 1 x.o 0 (x.bs.length - x.o) (x.bs.length - x.o) false]) = some (bC [AV.sl 1 x.o 0 (x.bs.length - x.o) (x.bs.length - x.o) false]) ∧ some (bW x.bs) = some (bW x.bs) ∧ True) ∧ (∀ (y : UpY), upN x.bs x.o 1099511627776 = UpR.ok y.n y.o ∧ y.o ≤ x.bs.length ∧ 0 ≤ y.n ∧ y.n ≤ 1099511627776 → (∃ (y_1 : UpY), (upN x.bs x.o 1099511627776 = UpR.ok y_1.n y_1.o ∧ y_1.o ≤ x.bs.length ∧ 0 ≤ y_1.n ∧ y_1.n ≤ 1099511627776) ∧ [nI (IntKind.i64.wrap y.n)] = [nI y_1.n] ∧ bC [AV.sl 1 y.o 0 (x.bs.length - y.o) (x.bs.length - y.o) false] = bC [AV.sl 1 y_1.o 0 (x.bs.length - y_1.o) (x.bs.length - y_1.o) false] ∧ bW x.bs = bW x.bs ∧ True) ∨ (∃ (y : UpY), upN x.bs x.o 1099511627776 = UpR.no 290 ∧ False) ∨ ∃ (y : UpY), upN x.bs x.o 1099511627776 = UpR.no 291 ∧ False) ∧ (∀ (y :
  UpY), upN x.bs x.o 1099511627776 = UpR.no 290 → (∃ (y : UpY), (upN x.bs x.o 1099511627776 = UpR.ok y.n y.o ∧ y.o ≤ x.bs.length ∧ 0 ≤ y.n ∧ y.n ≤ 1099511627776) ∧ False) ∨ (∃ (y : UpY), upN x.bs x.o 1099511627776 = UpR.no 290 ∧ [AV.ifc T_file_wrong (AV.agg [nI 290])] = [AV.ifc T_file_wrong (AV.agg [nI 290])] ∧ True) ∨ ∃ (y : UpY), upN x.bs x.o 1099511627776 = UpR.no 291 ∧ [AV.ifc T_file_wrong (AV.agg [nI 290])] = [AV.ifc T_file_wrong (AV.agg [nI 291])] ∧ True) ∧ (∀ (y : UpY), upN x.bs x.o 1099511627776 = UpR.no 291 → (∃ (y : UpY), (upN x.bs x.o 1099511627776 = UpR.ok y.n y.o ∧ y.o ≤ x.bs.length ∧ 0 ≤ y.n ∧ y.n ≤ 1099511627776) ∧ False) ∨ (∃ (y : UpY), upN x.bs x.o 1099511627776 = UpR.no 290 ∧ [AV.ifc T_file_wrong (AV.agg [nI 291])] = [AV.ifc T_file_wrong (AV.agg [nI 290])] ∧ True) ∨ ∃ (y : UpY), upN x.bs x.o 1099511627776 = UpR.no 291 ∧ [AV.ifc T_file_wrong (AV.agg [nI 291])] = [AV.ifc
  T_file_wrong (AV.agg [nI 291])] ∧ True) ∧ True
theorem rdInt_c_e (x : At) : some (rdInt_c_V x) = ((numC F_file_reader_int 1099511627776 .i64).cond sp Go.Proofs.Tryd.prog (drP sp Go.Proofs.Tryd.prog) noLoops (upToC.orc sp) 40 3 x) := by kernel_rfl
set_option maxRecDepth 100000 in
theorem rdInt_ok : (numC F_file_reader_int 1099511627776 .i64).OK Go.Proofs.Tryd.prog := by
  refine Con.by hmix (noLoops_ok _) (Con.orc_ok upToC_ok) rdInt_c_V rdInt_c_e (fun x hx => ?_)
  obtain ⟨h1, h2⟩ := hx
  unfold rdInt_c_V
  refine ⟨⟨h1, h2⟩, rfl, ⟨rfl, rfl, trivial⟩, fun y hy => ?_, fun y hy => ?_, fun y hy => ?_, trivial⟩
  · obtain ⟨g1, g2, g3, g4⟩ := hy
    have hw : IntKind.wrap .i64 y.n = y.n := IntWalk.i64_in _ (by omega)
    rw [hw]
    exact .inl ⟨y, ⟨g1, g2, g3, g4⟩, rfl, rfl, rfl, trivial⟩
  · exact .inr (.inl ⟨⟨0, 0⟩, hy, rfl, trivial⟩)
  · exact .inr (.inr ⟨⟨0, 0⟩, hy, rfl, trivial⟩)
def rdNum_c_V (x : At) : Prop :=
  (x.o ≤ x.bs.length ∧ x.bs.length ≤ 140737488355328) ∧ [AV.ptr 0 0 0, nL 4294967295] = [AV.ptr 0 0 0, nL 4294967295] ∧ (some (bC [AV.sl 1 x.o 0 (x.bs.length - x.o) (x.bs.length - x.o) false]) = some (bC [AV.sl 1 x.o 0 (x.bs.length - x.o) (x.bs.length - x.o) false]) ∧ some (bW x.bs) = some (bW x.bs) ∧ True) ∧ (∀ (y : UpY), upN x.bs x.o 4294967295 = UpR.ok y.n y.o ∧ y.o ≤ x.bs.length ∧ 0 ≤ y.n ∧ y.n ≤ 4294967295 → (∃ (y_1 : UpY), (upN x.bs x.o 4294967295 = UpR.ok y_1.n y_1.o ∧ y_1.o ≤ x.bs.length ∧ 0 ≤ y_1.n ∧ y_1.n ≤ 4294967295) ∧ [nU (IntKind.u32.wrap y.n)] = [nU y_1.n] ∧ bC [AV.sl 1 y.o 0 (x.bs.length - y.o) (x.bs.length - y.o) false] = bC [AV.sl 1 y_1.o 0 (x.bs.length - y_1.o) (x.bs.length - y_1.o) false] ∧ bW x.bs = bW x.bs ∧ True) ∨ (∃ (y : UpY), upN x.bs x.o 4294967295 = UpR.no 290 ∧ False) ∨ ∃ (y : UpY), upN x.bs x.o 4294967295 = UpR.no 291 ∧ False) ∧ (∀ (y : UpY), upN x.bs x.o
  4294967295 = UpR.no 290 → (∃ (y : UpY), (upN x.bs x.o 4294967295 = UpR.ok y.n y.o ∧ y.o ≤ x.bs.length ∧ 0 ≤ y.n ∧ y.n ≤ 4294967295) ∧ False) ∨ (∃ (y : UpY), upN x.bs x.o 4294967295 = UpR.no 290 ∧ [AV.ifc T_file_wrong (AV.agg [nI 290])] = [AV.ifc T_file_wrong (AV.agg [nI 290])] ∧ True) ∨ ∃ (y : UpY), upN x.bs x.o 4294967295 = UpR.no 291 ∧ [AV.ifc T_file_wrong (AV.agg [nI 290])] = [AV.ifc T_file_wrong (AV.agg [nI 291])] ∧ True) ∧ (∀ (y : UpY), upN x.bs x.o 4294967295 = UpR.no 291 → (∃ (y : UpY), (upN x.bs x.o 4294967295 = UpR.ok y.n y.o ∧ y.o ≤ x.bs.length ∧ 0 ≤ y.n ∧ y.n ≤ 4294967295) ∧ False) ∨ (∃ (y : UpY), upN x.bs x.o 4294967295 = UpR.no 290 ∧ [AV.ifc T_file_wrong (AV.agg [nI 291])] = [AV.ifc T_file_wrong (AV.agg [nI 290])] ∧ True) ∨ ∃ (y : UpY), upN x.bs x.o 4294967295 = UpR.no 291 ∧ [AV.ifc T_file_wrong (AV.agg [nI 291])] = [AV.ifc T_file_wrong (AV.agg [nI 291])] ∧ True) ∧ True
theorem rdNum_c_e (x : At) : some (rdNum_c_V x) = ((numC F_file_reader_number 4294967295 .u32).cond sp Go.Proofs.Tryd.prog (drP sp Go.Proofs.Tryd.prog) noLoops (upToC.orc sp) 40 3 x) := by kernel_rfl
set_option maxRecDepth 100000 in
theorem rdNum_ok : (numC F_file_reader_number 4294967295 .u32).OK Go.Proofs.Tryd.prog := by
  refine Con.by hmix (noLoops_ok _) (Con.orc_ok upToC_ok) rdNum_c_V rdNum_c_e (fun x hx => ?_)
  obtain ⟨h1, h2⟩ := hx
  unfold rdNum_c_V
  refine ⟨⟨h1, h2⟩, rfl, ⟨rfl, rfl, trivial⟩, fun y hy => ?_, fun y hy => ?_, fun y hy => ?_, trivial⟩
  · obtain ⟨g1, g2, g3, g4⟩ := hy
    have hw : IntKind.wrap .u32 y.n = y.n := IntWalk.u32_in _ (by omega)
    rw [hw]
    exact .inl ⟨y, ⟨g1, g2, g3, g4⟩, rfl, rfl, rfl, trivial⟩
  · exact .inr (.inl ⟨⟨0, 0⟩, hy, rfl, trivial⟩)
  · exact .inr (.inr ⟨⟨0, 0⟩, hy, rfl, trivial⟩)
def countC_c_V (x : UpX) : Prop :=
  (x.o ≤ x.bs.length ∧ x.bs.length ≤ 140737488355328) ∧ [AV.ptr 0 0 0] = [AV.ptr 0 0 0] ∧ (some (bC [AV.sl 1 x.o 0 (x.bs.length - x.o) (x.bs.length - x.o) false]) = some (bC [AV.sl 1 x.o 0 (x.bs.length - x.o) (x.bs.length - x.o) false]) ∧ some (bW x.bs) = some (bW x.bs) ∧ True) ∧ (∀ (y : UpY), upN x.bs x.o 1099511627776 = UpR.ok y.n y.o ∧ y.o ≤ x.bs.length ∧ 0 ≤ y.n ∧ y.n ≤ 1099511627776 → sp (decide (y.n > x.most)) ((∃ (y : UpY), (cntN x.bs x.o x.most = UpR.ok y.n y.o ∧ y.o ≤ x.bs.length ∧ 0 ≤ y.n ∧ y.n ≤ x.most) ∧ False) ∨ (∃ (y : UpY), cntN x.bs x.o x.most = UpR.no 290 ∧ [AV.ifc 46 (AV.agg [nI 3])] = [AV.ifc T_file_wrong (AV.agg [nI 290])] ∧ True) ∨ (∃ (y : UpY), cntN x.bs x.o x.most = UpR.no 291 ∧ [AV.ifc 46 (AV.agg [nI 3])] = [AV.ifc T_file_wrong (AV.agg [nI 291])] ∧ True) ∨ ∃ (y : UpY), cntN x.bs x.o x.most = UpR.no 3 ∧ [AV.ifc 46 (AV.agg [nI 3])] = [AV.ifc T_file_wrong (AV.agg [nI
  3])] ∧ True) ((∃ (y_1 : UpY), (cntN x.bs x.o x.most = UpR.ok y_1.n y_1.o ∧ y_1.o ≤ x.bs.length ∧ 0 ≤ y_1.n ∧ y_1.n ≤ x.most) ∧ [nI y.n] = [nI y_1.n] ∧ bC [AV.sl 1 y.o 0 (x.bs.length - y.o) (x.bs.length - y.o) false] = bC [AV.sl 1 y_1.o 0 (x.bs.length - y_1.o) (x.bs.length - y_1.o) false] ∧ bW x.bs = bW x.bs ∧ True) ∨ (∃ (y : UpY), cntN x.bs x.o x.most = UpR.no 290 ∧ False) ∨ (∃ (y : UpY), cntN x.bs x.o x.most = UpR.no 291 ∧ False) ∨ ∃ (y : UpY), cntN x.bs x.o x.most = UpR.no 3 ∧ False)) ∧ (∀ (y : UpY), upN x.bs x.o 1099511627776 = UpR.no 290 → (∃ (y : UpY), (cntN x.bs x.o x.most = UpR.ok y.n y.o ∧ y.o ≤ x.bs.length ∧ 0 ≤ y.n ∧ y.n ≤ x.most) ∧ False) ∨ (∃ (y : UpY), cntN x.bs x.o x.most = UpR.no 290 ∧ [AV.ifc T_file_wrong (AV.agg [nI 290])] = [AV.ifc T_file_wrong (AV.agg [nI 290])] ∧ True) ∨ (∃ (y : UpY), cntN x.bs x.o x.most = UpR.no 291 ∧ [AV.ifc T_file_wrong (AV.agg [nI 290])] = [AV.ifc
  T_file_wrong (AV.agg [nI 291])] ∧ True) ∨ ∃ (y : UpY), cntN x.bs x.o x.most = UpR.no 3 ∧ [AV.ifc T_file_wrong (AV.agg [nI 290])] = [AV.ifc T_file_wrong (AV.agg [nI 3])] ∧ True) ∧ (∀ (y : UpY), upN x.bs x.o 1099511627776 = UpR.no 291 → (∃ (y : UpY), (cntN x.bs x.o x.most = UpR.ok y.n y.o ∧ y.o ≤ x.bs.length ∧ 0 ≤ y.n ∧ y.n ≤ x.most) ∧ False) ∨ (∃ (y : UpY), cntN x.bs x.o x.most = UpR.no 290 ∧ [AV.ifc T_file_wrong (AV.agg [nI 291])] = [AV.ifc T_file_wrong (AV.agg [nI 290])] ∧ True) ∨ (∃ (y : UpY), cntN x.bs x.o x.most = UpR.no 291 ∧ [AV.ifc T_file_wrong (AV.agg [nI 291])] = [AV.ifc T_file_wrong (AV.agg [nI 291])] ∧ True) ∨ ∃ (y : UpY), cntN x.bs x.o x.most = UpR.no 3 ∧ [AV.ifc T_file_wrong (AV.agg [nI 291])] = [AV.ifc T_file_wrong (AV.agg [nI 3])] ∧ True) ∧ True
theorem countC_c_e (x : UpX) : some (countC_c_V x) = (countC.cond sp Go.Proofs.Tryd.prog (drP sp Go.Proofs.Tryd.prog) noLoops ((numC F_file_reader_int 1099511627776 .i64).orc sp) 40 3 x) := by kernel_rfl
set_option maxRecDepth 100000 in
theorem countC_ok : countC.OK Go.Proofs.Tryd.prog := by
  refine Con.by hmix (noLoops_ok _) (Con.orc_ok rdInt_ok) countC_c_V countC_c_e (fun x hx => ?_)
  obtain ⟨h1, h2⟩ := hx
  unfold countC_c_V
  refine ⟨⟨h1, h2⟩, rfl, ⟨rfl, rfl, trivial⟩, fun y hy => ?_, fun y hy => ?_, fun y hy => ?_, trivial⟩
  · obtain ⟨g1, g2, g3, g4⟩ := hy
    have hN : cntN x.bs x.o x.most = if y.n > x.most then .no 3 else .ok y.n y.o := by unfold cntN; rw [g1]
    refine spI (fun h => ?_) (fun h => ?_)
    · have h : y.n > x.most := by simpa using h
      rw [if_pos h] at hN
      exact .inr (.inr (.inr ⟨⟨0, 0⟩, hN, rfl, trivial⟩))
    · have h : ¬ y.n > x.most := by simpa using h
      rw [if_neg h] at hN
      exact .inl ⟨y, ⟨hN, g2, g3, by omega⟩, rfl, rfl, rfl, trivial⟩
  · have hy : upN x.bs x.o 1099511627776 = .no 290 := hy
    exact .inr (.inl ⟨⟨0, 0⟩, by unfold cntN; rw [hy], rfl, trivial⟩)
  · have hy : upN x.bs x.o 1099511627776 = .no 291 := hy
    exact .inr (.inr (.inl ⟨⟨0, 0⟩, by unfold cntN; rw [hy], rfl, trivial⟩))
def rdRowC_c_V (x : UpX) : Prop :=
  (x.o ≤ x.bs.length ∧ x.bs.length ≤ 140737488355328) ∧ [] ++ [AV.sl 1 x.o 0 (x.bs.length - x.o) (x.bs.length - x.o) false, nI x.most] ++ [] = [AV.sl 1 x.o 0 (x.bs.length - x.o) (x.bs.length - x.o) false, nI x.most] ∧ (some (bW x.bs) = some (bW x.bs) ∧ True) ∧ (∀ (y : UN), rowN (List.drop x.o x.bs) x.most = RowR.ok y.u y.n → sp (decide ((↑(y.u + y.n) : Int).toNat ≤ x.bs.length - x.o) && decide (x.bs.length - x.o ≤ x.bs.length - x.o) && decide (x.bs.length - x.o ≤ x.bs.length - x.o) && true && true) ((∃ (y_1 : UpZ), rowN (List.drop x.o x.bs) x.most = RowR.ok y_1.u y_1.n ∧ [AV.sl 2 0 0 y.n y.n false] = [AV.sl 2 0 0 y_1.n y_1.n false] ∧ bC (([AV.sl 1 x.o 0 (x.bs.length - x.o) (x.bs.length - x.o) false].set 0 (AV.sl 1 (x.o + (↑(y.u + y.n) : Int).toNat) 0 (x.bs.length - x.o - (↑(y.u + y.n) : Int).toNat) (x.bs.length - x.o - (↑(y.u + y.n) : Int).toNat) false))) = bC [AV.sl 1 (x.o + (y_1.u +
  y_1.n)) 0 (x.bs.length - (x.o + (y_1.u + y_1.n))) (x.bs.length - (x.o + (y_1.u + y_1.n))) false] ∧ bW x.bs = bW x.bs ∧ bW ((List.take y.n (List.drop (x.o + y.u) x.bs))) = bW ((List.take y_1.n (List.drop (x.o + y_1.u) x.bs))) ∧ True) ∨ (∃ (y : UpZ), rowN (List.drop x.o x.bs) x.most = RowR.no 290 ∧ False) ∨ (∃ (y : UpZ), rowN (List.drop x.o x.bs) x.most = RowR.no 291 ∧ False) ∨ ∃ (y : UpZ), rowN (List.drop x.o x.bs) x.most = RowR.no 3 ∧ False) False) ∧ (∀ (y : UN), rowN (List.drop x.o x.bs) x.most = RowR.no 290 → (∃ (y : UpZ), rowN (List.drop x.o x.bs) x.most = RowR.ok y.u y.n ∧ False) ∨ (∃ (y : UpZ), rowN (List.drop x.o x.bs) x.most = RowR.no 290 ∧ [AV.ifc 46 (AV.agg [nI 290])] = [AV.ifc T_file_wrong (AV.agg [nI 290])] ∧ True) ∨ (∃ (y : UpZ), rowN (List.drop x.o x.bs) x.most = RowR.no 291 ∧ [AV.ifc 46 (AV.agg [nI 290])] = [AV.ifc T_file_wrong (AV.agg [nI 291])] ∧ True) ∨ ∃ (y : UpZ), rowN
  (List.drop x.o x.bs) x.most = RowR.no 3 ∧ [AV.ifc 46 (AV.agg [nI 290])] = [AV.ifc T_file_wrong (AV.agg [nI 3])] ∧ True) ∧ (∀ (y : UN), rowN (List.drop x.o x.bs) x.most = RowR.no 291 → (∃ (y : UpZ), rowN (List.drop x.o x.bs) x.most = RowR.ok y.u y.n ∧ False) ∨ (∃ (y : UpZ), rowN (List.drop x.o x.bs) x.most = RowR.no 290 ∧ [AV.ifc 46 (AV.agg [nI 291])] = [AV.ifc T_file_wrong (AV.agg [nI 290])] ∧ True) ∨ (∃ (y : UpZ), rowN (List.drop x.o x.bs) x.most = RowR.no 291 ∧ [AV.ifc 46 (AV.agg [nI 291])] = [AV.ifc T_file_wrong (AV.agg [nI 291])] ∧ True) ∨ ∃ (y : UpZ), rowN (List.drop x.o x.bs) x.most = RowR.no 3 ∧ [AV.ifc 46 (AV.agg [nI 291])] = [AV.ifc T_file_wrong (AV.agg [nI 3])] ∧ True) ∧ (∀ (y : UN), rowN (List.drop x.o x.bs) x.most = RowR.no 3 → (∃ (y : UpZ), rowN (List.drop x.o x.bs) x.most = RowR.ok y.u y.n ∧ False) ∨ (∃ (y : UpZ), rowN (List.drop x.o x.bs) x.most = RowR.no 290 ∧ [AV.ifc 46
  (AV.agg [nI 3])] = [AV.ifc T_file_wrong (AV.agg [nI 290])] ∧ True) ∨ (∃ (y : UpZ), rowN (List.drop x.o x.bs) x.most = RowR.no 291 ∧ [AV.ifc 46 (AV.agg [nI 3])] = [AV.ifc T_file_wrong (AV.agg [nI 291])] ∧ True) ∨ ∃ (y : UpZ), rowN (List.drop x.o x.bs) x.most = RowR.no 3 ∧ [AV.ifc 46 (AV.agg [nI 3])] = [AV.ifc T_file_wrong (AV.agg [nI 3])] ∧ True) ∧ True
theorem rdRowC_c_e (x : UpX) : some (rdRowC_c_V x) = (rdRowC.cond sp Go.Proofs.Tryd.prog (drP sp Go.Proofs.Tryd.prog) noLoops (getBytesC.orc sp) 40 4 x) := by kernel_rfl
set_option maxRecDepth 100000 in
theorem rdRowC_ok : rdRowC.OK Go.Proofs.Tryd.prog := by
  refine Con.by hmix (noLoops_ok _) (Con.orc_ok getBytesC_ok) rdRowC_c_V rdRowC_c_e (fun x hx => ?_)
  obtain ⟨h1, h2⟩ := hx
  unfold rdRowC_c_V
  refine ⟨⟨h1, h2⟩, rfl, ⟨rfl, trivial⟩, fun y hy => ?_, fun y hy => ?_, fun y hy => ?_, fun y hy => ?_, trivial⟩
  · have hy : rowN (x.bs.drop x.o) x.most = .ok y.u y.n := hy
    have hb := rowN_ok (by simp; omega) hy
    rw [List.length_drop] at hb
    refine spT (by simp; omega) (.inl ⟨⟨y.u, y.n⟩, hy, rfl, ?_, rfl, rfl, trivial⟩)
    have e : x.bs.length - x.o - (y.u + y.n) = x.bs.length - (x.o + (y.u + y.n)) := by omega
    have e2 : ((y.u : Int) + (y.n : Int)).toNat = y.u + y.n := by omega
    simp [e, e2]
  · exact .inr (.inl ⟨⟨0, 0⟩, hy, rfl, trivial⟩)
  · exact .inr (.inr (.inl ⟨⟨0, 0⟩, hy, rfl, trivial⟩))
  · exact .inr (.inr (.inr ⟨⟨0, 0⟩, hy, rfl, trivial⟩))
end Go.Proofs.YtmbcpmbpkdeioaaDoor.W
/- A guest read: what is reckoned, and the loops' states. No condition. -/
namespace Go.Proofs.YtmbcpmbpkdeioaaDoor.W
open Go Go.RowKit Go.Eng
set_option maxRecDepth 100000
set_option linter.unusedVariables false
set_option linter.unusedSimpArgs false
/-- What is read, and the place behind it; or why it is not. -/
inductive PR (α : Type) where
  | ok (a : α) (o : Nat)
  | no (e : Int)
def PR.bind {α β : Type} : PR α → (α → Nat → PR β) → PR β
  | .ok a o, f => f a o
  | .no e, _ => .no e
def PR.isOk {α : Type} : PR α → Bool
  | .ok _ _ => true
  | .no _ => false
def PR.val {α : Type} (d : α) : PR α → α
  | .ok a _ => a
  | .no _ => d
def PR.at_ {α : Type} : PR α → Nat
  | .ok _ o => o
  | .no _ => 0
def PR.err {α : Type} : PR α → Int
  | .ok _ _ => 0
  | .no e => e
def upP (bs : List Int) (most : Int) (o : Nat) : PR Int := match upN bs o most with
  | .ok n o => .ok n o
  | .no e => .no e
def cntP (bs : List Int) (most : Int) (o : Nat) : PR Int := match cntN bs o most with
  | .ok n o => .ok n o
  | .no e => .no e
def rowP (bs : List Int) (most : Int) (o : Nat) : PR (List Int) := match rowN (bs.drop o) most with
  | .ok u n => .ok ((bs.drop (o + u)).take n) (o + (u + n))
  | .no e => .no e
theorem upP_ok {bs : List Int} {most : Int} {o : Nat} {n : Int} {o' : Nat} (h : upN bs o most = .ok n o') : upP bs most o = .ok n o' := by unfold upP; rw [h]
theorem upP_no {bs : List Int} {most : Int} {o : Nat} {e : Int} (h : upN bs o most = .no e) : upP bs most o = .no e := by unfold upP; rw [h]
/-- One after the other. -/
def numsP (bs : List Int) : Nat → Nat → PR (List Int)
  | 0, o => .ok [] o
  | k + 1, o => (upP bs 4294967295 o).bind fun n o => (numsP bs k o).bind fun l o => .ok (n :: l) o
structure UpE where
  n : Int
  o : Nat
  e : Int
def upOuts (bs : List Int) (o : Nat) (most : Int) (r : PR Int) (k : IntKind) : Outs UpE :=
  [(fun y => r = .ok y.n y.o ∧ y.o ≤ bs.length ∧ 0 ≤ y.n ∧ y.n ≤ most, fun y => (.ret (.int k y.n), 2, rdL bs y.o)),
    (fun y => r = .no y.e, fun y => (.panic (wrongAV y.e), 2, []))]
def numS (f : FuncId) (most : Int) (k : IntKind) : Con At UpE where
  f := f
  fit vs H := match vs with
    | [.ptr b _ _] => rdFit b H
    | _ => none
  n0 := 2
  pre x := x.o ≤ x.bs.length ∧ x.bs.length ≤ 140737488355328
  args x := [.ptr 0 0 0]
  L0 x := rdL x.bs x.o
  outs x := [(fun y => upP x.bs most x.o = .ok y.n y.o ∧ y.o ≤ x.bs.length ∧ 0 ≤ y.n ∧ y.n ≤ most, fun y => (.ret (.int k y.n), 2, rdL x.bs y.o)),
    (fun y => upP x.bs most x.o = .no y.e, fun y => (.panic (wrongAV y.e), 2, []))]
theorem numS_of {P : Program} {f : FuncId} {most : Int} {k : IntKind} (h : (numC f most k).OK P) : (numS f most k).OK P := by
  refine h.to id rfl (fun x hx => hx) (fun x => rfl) (fun x => rfl) (fun x hx out H q => ?_)
  rcases q with ⟨y, ⟨h1, h2⟩, rfl, rfl⟩ | ⟨y, h1, rfl, rfl⟩ | ⟨y, h1, rfl, rfl⟩ | q
  · exact .inl ⟨⟨y.n, y.o, 0⟩, ⟨upP_ok h1, h2⟩, rfl, rfl⟩
  · exact .inr (.inl ⟨⟨0, 0, 290⟩, upP_no h1, rfl, rfl⟩)
  · exact .inr (.inl ⟨⟨0, 0, 291⟩, upP_no h1, rfl, rfl⟩)
  · exact q.elim
def upToS : Con UpX UpE where
  f := F_file_reader_upTo
  fit vs H := match vs with
    | [.ptr b _ _, .int _ most] => (rdFit b H).map fun r => (r.1, ⟨r.2.bs, r.2.o, most⟩)
    | _ => none
  n0 := 2
  pre x := x.o ≤ x.bs.length ∧ x.bs.length ≤ 140737488355328
  args x := [.ptr 0 0 0, .int .u64 x.most]
  L0 x := rdL x.bs x.o
  outs x := [(fun y => upP x.bs x.most x.o = .ok y.n y.o ∧ y.o ≤ x.bs.length ∧ 0 ≤ y.n ∧ y.n ≤ x.most, fun y => (.ret (.int .u64 y.n), 2, rdL x.bs y.o)),
    (fun y => upP x.bs x.most x.o = .no y.e, fun y => (.panic (wrongAV y.e), 2, []))]
theorem upToS_ok {P : Program} (h : upToC.OK P) : upToS.OK P := by
  refine h.to id rfl (fun x hx => hx) (fun x => rfl) (fun x => rfl) (fun x hx out H q => ?_)
  rcases q with ⟨y, ⟨h1, h2⟩, rfl, rfl⟩ | ⟨y, h1, rfl, rfl⟩ | ⟨y, h1, rfl, rfl⟩ | q
  · exact .inl ⟨⟨y.n, y.o, 0⟩, ⟨upP_ok h1, h2⟩, rfl, rfl⟩
  · exact .inr (.inl ⟨⟨0, 0, 290⟩, upP_no h1, rfl, rfl⟩)
  · exact .inr (.inl ⟨⟨0, 0, 291⟩, upP_no h1, rfl, rfl⟩)
  · exact q.elim
def countS : Con UpX UpE where
  f := F_file_reader_count
  fit vs H := match vs with
    | [.ptr b _ _, .int _ most] => (rdFit b H).map fun r => (r.1, ⟨r.2.bs, r.2.o, most⟩)
    | _ => none
  n0 := 2
  pre x := x.o ≤ x.bs.length ∧ x.bs.length ≤ 140737488355328
  args x := [.ptr 0 0 0, .int .i64 x.most]
  L0 x := rdL x.bs x.o
  outs x := [(fun y => cntP x.bs x.most x.o = .ok y.n y.o ∧ y.o ≤ x.bs.length ∧ 0 ≤ y.n ∧ y.n ≤ x.most, fun y => (.ret (.int .i64 y.n), 2, rdL x.bs y.o)),
    (fun y => cntP x.bs x.most x.o = .no y.e, fun y => (.panic (wrongAV y.e), 2, []))]
theorem countS_of {P : Program} (h : countC.OK P) : countS.OK P := by
  refine h.to id rfl (fun x hx => hx) (fun x => rfl) (fun x => rfl) (fun x hx out H q => ?_)
  have a : ∀ {n o}, cntN x.bs x.o x.most = .ok n o → cntP x.bs x.most x.o = .ok n o := fun h => by unfold cntP; rw [h]
  have b : ∀ {e}, cntN x.bs x.o x.most = .no e → cntP x.bs x.most x.o = .no e := fun h => by unfold cntP; rw [h]
  rcases q with ⟨y, ⟨h1, h2⟩, rfl, rfl⟩ | ⟨y, h1, rfl, rfl⟩ | ⟨y, h1, rfl, rfl⟩ | ⟨y, h1, rfl, rfl⟩ | q
  · exact .inl ⟨⟨y.n, y.o, 0⟩, ⟨a h1, h2⟩, rfl, rfl⟩
  · exact .inr (.inl ⟨⟨0, 0, 290⟩, b h1, rfl, rfl⟩)
  · exact .inr (.inl ⟨⟨0, 0, 291⟩, b h1, rfl, rfl⟩)
  · exact .inr (.inl ⟨⟨0, 0, 3⟩, b h1, rfl, rfl⟩)
  · exact q.elim
structure RwE where
  l : List Int
  o : Nat
  e : Int
def rdRowS : Con UpX RwE where
  f := F_file_reader_row
  fit vs H := match vs with
    | [.ptr b _ _, .int _ most] => (rdFit b H).map fun r => (r.1, ⟨r.2.bs, r.2.o, most⟩)
    | _ => none
  n0 := 2
  pre x := x.o ≤ x.bs.length ∧ x.bs.length ≤ 140737488355328
  args x := [.ptr 0 0 0, .int .i64 x.most]
  L0 x := rdL x.bs x.o
  outs x := [(fun y => rowP x.bs x.most x.o = .ok y.l y.o ∧ y.o ≤ x.bs.length, fun y => (.ret (.sl 2 0 0 y.l.length y.l.length false), 3, [(0, ⟨true, 1, .cells [Rest x.bs y.o 1]⟩), (1, ⟨true, 1, .ints .u8 x.bs⟩), (2, ⟨true, 1, .ints .u8 y.l⟩)])),
    (fun y => rowP x.bs x.most x.o = .no y.e, fun y => (.panic (wrongAV y.e), 3, []))]
theorem rdRowS_of {P : Program} (h : rdRowC.OK P) : rdRowS.OK P := by
  refine h.to id rfl (fun x hx => hx) (fun x => rfl) (fun x => rfl) (fun x hx out H q => ?_)
  obtain ⟨p1, p2⟩ := hx
  have b : ∀ {e}, rowN (x.bs.drop x.o) x.most = .no e → rowP x.bs x.most x.o = .no e := fun h => by unfold rowP; rw [h]
  rcases q with ⟨y, h1, rfl, rfl⟩ | ⟨y, h1, rfl, rfl⟩ | ⟨y, h1, rfl, rfl⟩ | ⟨y, h1, rfl, rfl⟩ | q
  · have h1 : rowN (x.bs.drop x.o) x.most = .ok y.u y.n := h1
    have hl := rowN_ok (by simp; omega) h1
    simp only [List.length_drop] at hl
    have he : ((x.bs.drop (x.o + y.u)).take y.n).length = y.n := by simp; omega
    refine .inl ⟨⟨(x.bs.drop (x.o + y.u)).take y.n, x.o + (y.u + y.n), 0⟩, ⟨by unfold rowP; rw [h1], by show x.o + (y.u + y.n) ≤ x.bs.length; omega⟩, ?_, rfl⟩
    show AOut.ret (.sl 2 0 0 y.n y.n false) = _
    simp only [he]
  · exact .inr (.inl ⟨⟨[], 0, 290⟩, b h1, rfl, rfl⟩)
  · exact .inr (.inl ⟨⟨[], 0, 291⟩, b h1, rfl, rfl⟩)
  · exact .inr (.inl ⟨⟨[], 0, 3⟩, b h1, rfl, rfl⟩)
  · exact q.elim
/-! ### a state -/
def stL (l : List Int) (h : Int) : St := ⟨l.getD 0 0, l.getD 1 0, l.getD 2 0, l.getD 3 0, l.getD 4 0, l.getD 5 0, l.getD 6 0, l.getD 7 0, l.getD 8 0, l.getD 9 0, l.getD 10 0, l.getD 11 0, l.getD 12 0, l.getD 13 0, l.getD 14 0, l.getD 15 0, l.getD 16 0, l.getD 17 0, h == 1⟩
def stP (bs : List Int) (o : Nat) : PR St := (numsP bs 18 o).bind fun l o => (upP bs 1 o).bind fun h o => .ok (stL l h) o
instance : Inhabited St := ⟨stL [] 0⟩
structure StE where
  s : St
  o : Nat
  e : Int
def rdStC : Con At StE where
  f := F_file_reader_state
  fit vs H := match vs with
    | [.ptr b _ _] => rdFit b H
    | _ => none
  n0 := 2
  pre x := x.o ≤ x.bs.length ∧ x.bs.length ≤ 140737488355328
  args x := [.ptr 0 0 0]
  L0 x := rdL x.bs x.o
  outs x := [(fun y => stP x.bs x.o = .ok y.s y.o ∧ y.o ≤ x.bs.length, fun y => (.ret (.agg y.s.av), 4, rdL x.bs y.o)),
    (fun y => stP x.bs x.o = .no y.e, fun y => (.panic (wrongAV y.e), 4, []))]
/-! ### notes, events -/
structure N4 where
  a : Int
  c : Int
  b : Int
  d : Int
  deriving Inhabited
structure E3 where
  a : Int
  k : Int
  x : Int
  deriving Inhabited
def N4.av (n : N4) : List AV := [.int .i64 n.a, .int .i64 n.c, .int .u32 n.b, .int .u32 n.d]
def E3.av (n : E3) : List AV := [.int .i64 n.a, .int .i64 n.k, .int .u8 n.x]
def far40 : Int := 1099511627776
def noteP (bs : List Int) (o : Nat) : PR N4 := (upP bs 1099511627776 o).bind fun a o => (upP bs 1099511627776 o).bind fun c o => (upP bs 4294967295 o).bind fun b o => (upP bs 4294967295 o).bind fun d o => .ok ⟨a, c, b, d⟩ o
def evP (bs : List Int) (o : Nat) : PR E3 := (upP bs 1099511627776 o).bind fun a o => (upP bs 1099511627776 o).bind fun k o => (upP bs 255 o).bind fun x o => .ok ⟨a, k, x⟩ o
def manyP {α : Type} (p : Nat → PR α) : Nat → Nat → PR (List α)
  | 0, o => .ok [] o
  | k + 1, o => (p o).bind fun n o => (manyP p k o).bind fun l o => .ok (n :: l) o
def PR.map {α β : Type} (f : α → β) : PR α → PR β
  | .ok a o => .ok (f a) o
  | .no e => .no e
structure NtI where
  bs : List Int
  o : Nat
  n : Nat
  k : Nat
  l : List N4
  s : Bool
def NtI.res (i : NtI) : PR (List N4) := (manyP (noteP i.bs) (i.n - i.k) i.o).map (i.l ++ ·)
def notesBlk (l : List N4) : ABlk := ⟨true, 4, .recs l.length (fun i => (l.getD i default).av)⟩
def rdNotesL (P : Program) : Lp NtI where
  B := 2
  n := ntmpsOf P F_file_reader_notes
  code := loopOf P F_file_reader_notes 0
  fit s H := match s.get 0, s.get 6 with
    | .ptr b _ _, .int _ n => (rdFit b H).map fun r => ⟨r.2.bs, r.2.o, n.toNat, 0, [], false⟩
    | _, _ => none
  pre i := i.o ≤ i.bs.length ∧ i.bs.length ≤ 140737488355328 ∧ i.n ≤ 100000 ∧ i.k ≤ i.n ∧ i.l.length = i.k ∧ (i.s = true → 1 ≤ i.k) ∧ (i.s = false → i.k = 0)
  slots i := [(0, .ptr 0 0 0), (3, bif i.s then .sl 2 0 0 i.l.length i.l.length false else .nils), (6, .int .i64 i.n), (7, .int .i64 i.k)]
  nx i := 3
  L i := bif i.s then [(0, ⟨true, 1, .cells [Rest i.bs i.o 1]⟩), (1, ⟨true, 1, .ints .u8 i.bs⟩), (2, notesBlk i.l)] else rdL i.bs i.o
  m i := i.n - i.k
  outs i := [(i.res.isOk && (i.res.val []).isEmpty, ⟨.exit 0, [(3, .nils)], 3, rdL i.bs i.res.at_⟩),
    (i.res.isOk, ⟨.exit 0, [(3, .sl 2 0 0 (i.res.val []).length (i.res.val []).length false)], 3, [(0, ⟨true, 1, .cells [Rest i.bs i.res.at_ 1]⟩), (1, ⟨true, 1, .ints .u8 i.bs⟩), (2, notesBlk (i.res.val []))]⟩),
    (true, ⟨.panic (wrongAV i.res.err), [], 3, []⟩)]
  sh j := { j with s := true }
def ntP (bs : List Int) (o : Nat) : PR (List N4) := (cntP bs 4096 o).bind fun n o => manyP (noteP bs) n.toNat o
structure NtE where
  l : List N4
  o : Nat
  e : Int
def rdNotesC : Con At NtE where
  f := F_file_reader_notes
  fit vs H := match vs with
    | [.ptr b _ _] => rdFit b H
    | _ => none
  n0 := 2
  pre x := x.o ≤ x.bs.length ∧ x.bs.length ≤ 140737488355328
  args x := [.ptr 0 0 0]
  L0 x := rdL x.bs x.o
  outs x := [(fun y => ntP x.bs x.o = .ok [] y.o ∧ y.o ≤ x.bs.length, fun y => (.ret .nils, 3, rdL x.bs y.o)),
    (fun y => ntP x.bs x.o = .ok y.l y.o ∧ y.o ≤ x.bs.length ∧ 0 < y.l.length ∧ y.l.length ≤ 4096, fun y => (.ret (.sl 2 0 0 y.l.length y.l.length false), 3, [(0, ⟨true, 1, .cells [Rest x.bs y.o 1]⟩), (1, ⟨true, 1, .ints .u8 x.bs⟩), (2, notesBlk y.l)])),
    (fun y => ntP x.bs x.o = .no y.e, fun y => (.panic (wrongAV y.e), 3, []))]
structure EvI where
  bs : List Int
  o : Nat
  n : Nat
  k : Nat
  l : List E3
  s : Bool
def EvI.res (i : EvI) : PR (List E3) := (manyP (evP i.bs) (i.n - i.k) i.o).map (i.l ++ ·)
def evsBlk (l : List E3) : ABlk := ⟨true, 3, .recs l.length (fun i => (l.getD i default).av)⟩
def rdEvsL (P : Program) : Lp EvI where
  B := 2
  n := ntmpsOf P F_file_reader_script
  code := loopOf P F_file_reader_script 0
  fit s H := match s.get 0, s.get 6 with
    | .ptr b _ _, .int _ n => (rdFit b H).map fun r => ⟨r.2.bs, r.2.o, n.toNat, 0, [], false⟩
    | _, _ => none
  pre i := i.o ≤ i.bs.length ∧ i.bs.length ≤ 140737488355328 ∧ i.n ≤ 100000 ∧ i.k ≤ i.n ∧ i.l.length = i.k ∧ (i.s = true → 1 ≤ i.k) ∧ (i.s = false → i.k = 0)
  slots i := [(0, .ptr 0 0 0), (3, bif i.s then .sl 2 0 0 i.l.length i.l.length false else .nils), (6, .int .i64 i.n), (7, .int .i64 i.k)]
  nx i := 3
  L i := bif i.s then [(0, ⟨true, 1, .cells [Rest i.bs i.o 1]⟩), (1, ⟨true, 1, .ints .u8 i.bs⟩), (2, evsBlk i.l)] else rdL i.bs i.o
  m i := i.n - i.k
  outs i := [(i.res.isOk && (i.res.val []).isEmpty, ⟨.exit 0, [(3, .nils)], 3, rdL i.bs i.res.at_⟩),
    (i.res.isOk, ⟨.exit 0, [(3, .sl 2 0 0 (i.res.val []).length (i.res.val []).length false)], 3, [(0, ⟨true, 1, .cells [Rest i.bs i.res.at_ 1]⟩), (1, ⟨true, 1, .ints .u8 i.bs⟩), (2, evsBlk (i.res.val []))]⟩),
    (true, ⟨.panic (wrongAV i.res.err), [], 3, []⟩)]
  sh j := { j with s := true }
def esP (bs : List Int) (o : Nat) : PR (List E3) := (cntP bs 64 o).bind fun n o => manyP (evP bs) n.toNat o
structure EsE where
  l : List E3
  o : Nat
  e : Int
def rdEvsC : Con At EsE where
  f := F_file_reader_script
  fit vs H := match vs with
    | [.ptr b _ _] => rdFit b H
    | _ => none
  n0 := 2
  pre x := x.o ≤ x.bs.length ∧ x.bs.length ≤ 140737488355328
  args x := [.ptr 0 0 0]
  L0 x := rdL x.bs x.o
  outs x := [(fun y => esP x.bs x.o = .ok [] y.o ∧ y.o ≤ x.bs.length, fun y => (.ret .nils, 3, rdL x.bs y.o)),
    (fun y => esP x.bs x.o = .ok y.l y.o ∧ y.o ≤ x.bs.length ∧ 0 < y.l.length ∧ y.l.length ≤ 64, fun y => (.ret (.sl 2 0 0 y.l.length y.l.length false), 3, [(0, ⟨true, 1, .cells [Rest x.bs y.o 1]⟩), (1, ⟨true, 1, .ints .u8 x.bs⟩), (2, evsBlk y.l)])),
    (fun y => esP x.bs x.o = .no y.e, fun y => (.panic (wrongAV y.e), 3, []))]
/-! ### places -/
theorem upP_le {bs : List Int} {most : Int} {o : Nat} {n : Int} {o' : Nat} (h : upP bs most o = .ok n o') (ho : o ≤ bs.length) : o' ≤ bs.length := by
  unfold upP upN at h
  rcases getN_range (bs.drop o) with ⟨n', u, e, h3, h4, h5⟩ | e | e
  · rw [e] at h
    simp only [List.length_drop] at h4
    simp only [ne_eq, not_true_eq_false, if_false] at h
    by_cases hm : n' > most
    · rw [if_pos hm] at h; cases h
    · rw [if_neg hm] at h
      simp only [Int.toNat_natCast, PR.ok.injEq] at h
      omega
  · rw [e] at h; simp at h
  · rw [e] at h; simp at h
theorem PR.bind_ok {α β : Type} {r : PR α} {f : α → Nat → PR β} {b : β} {o : Nat} (h : r.bind f = .ok b o) : ∃ a o1, r = .ok a o1 ∧ f a o1 = .ok b o := by
  cases r with
  | ok a o1 => exact ⟨a, o1, rfl, h⟩
  | no e => cases h
theorem noteP_le {bs : List Int} {o : Nat} {x : N4} {o' : Nat} (h : noteP bs o = .ok x o') (ho : o ≤ bs.length) : o' ≤ bs.length := by
  obtain ⟨_, _, h1, h⟩ := PR.bind_ok h
  obtain ⟨_, _, h2, h⟩ := PR.bind_ok h
  obtain ⟨_, _, h3, h⟩ := PR.bind_ok h
  obtain ⟨_, _, h4, h⟩ := PR.bind_ok h
  cases h
  exact upP_le h4 (upP_le h3 (upP_le h2 (upP_le h1 ho)))
theorem evP_le {bs : List Int} {o : Nat} {x : E3} {o' : Nat} (h : evP bs o = .ok x o') (ho : o ≤ bs.length) : o' ≤ bs.length := by
  obtain ⟨_, _, h1, h⟩ := PR.bind_ok h
  obtain ⟨_, _, h2, h⟩ := PR.bind_ok h
  obtain ⟨_, _, h3, h⟩ := PR.bind_ok h
  cases h
  exact upP_le h3 (upP_le h2 (upP_le h1 ho))
theorem manyP_le {α : Type} {p : Nat → PR α} {N : Nat} (hp : ∀ o a o', p o = .ok a o' → o ≤ N → o' ≤ N) : ∀ (k o : Nat) {l : List α} {o' : Nat}, manyP p k o = .ok l o' → o ≤ N → o' ≤ N ∧ l.length = k
  | 0, o, l, o', h, ho => by
    simp only [manyP, PR.ok.injEq] at h
    obtain ⟨rfl, rfl⟩ := h
    exact ⟨ho, rfl⟩
  | k + 1, o, l, o', h, ho => by
    obtain ⟨a, o1, h1, h⟩ := PR.bind_ok h
    obtain ⟨l2, o2, h2, h⟩ := PR.bind_ok h
    cases h
    obtain ⟨q1, q2⟩ := manyP_le hp k o1 h2 (hp _ _ _ h1 ho)
    exact ⟨q1, by simp [q2]⟩
end Go.Proofs.YtmbcpmbpkdeioaaDoor.W
/- A state read: the walk. No condition. -/
namespace Go.Proofs.YtmbcpmbpkdeioaaDoor.W
open Go Go.RowKit Go.Eng
set_option maxRecDepth 100000
set_option linter.unusedVariables false
set_option linter.unusedSimpArgs false
theorem numberS_ok : (numS F_file_reader_number 4294967295 .u32).OK Go.Proofs.Tryd.prog := numS_of rdNum_ok
theorem intS_ok : (numS F_file_reader_int 1099511627776 .i64).OK Go.Proofs.Tryd.prog := numS_of rdInt_ok
theorem uptoS_ok : upToS.OK Go.Proofs.Tryd.prog := upToS_ok upToC_ok
theorem cntS_ok : countS.OK Go.Proofs.Tryd.prog := countS_of countC_ok
theorem rowS_ok : rdRowS.OK Go.Proofs.Tryd.prog := rdRowS_of rdRowC_ok
def rdSt_c_V (x : At) : Prop :=
  (x.o ≤ x.bs.length ∧ x.bs.length ≤ 140737488355328) ∧ [AV.ptr 0 0 0] = [AV.ptr 0 0 0] ∧ (some (bC [AV.sl 1 x.o 0 (x.bs.length - x.o) (x.bs.length - x.o) false]) = some (bC [AV.sl 1 x.o 0 (x.bs.length - x.o) (x.bs.length - x.o) false]) ∧ some (bW x.bs) = some (bW x.bs) ∧ True) ∧ (∀ (y : UpE), upP x.bs 4294967295 x.o = PR.ok y.n y.o ∧ y.o ≤ x.bs.length ∧ 0 ≤ y.n ∧ y.n ≤ 4294967295 → (y.o ≤ x.bs.length ∧ x.bs.length ≤ 140737488355328) ∧ [AV.ptr 0 0 0] = [AV.ptr 0 0 0] ∧ (some (bC [AV.sl 1 y.o 0 (x.bs.length - y.o) (x.bs.length - y.o) false]) = some (bC [AV.sl 1 y.o 0 (x.bs.length - y.o) (x.bs.length - y.o) false]) ∧ some (bW x.bs) = some (bW x.bs) ∧ True) ∧ (∀ (y_1 : UpE), upP x.bs 4294967295 y.o = PR.ok y_1.n y_1.o ∧ y_1.o ≤ x.bs.length ∧ 0 ≤ y_1.n ∧ y_1.n ≤ 4294967295 → (y_1.o ≤ x.bs.length ∧ x.bs.length ≤ 140737488355328) ∧ [AV.ptr 0 0 0] = [AV.ptr 0 0 0] ∧ (some (bC [AV.sl 1 y_1.o 0
  (x.bs.length - y_1.o) (x.bs.length - y_1.o) false]) = some (bC [AV.sl 1 y_1.o 0 (x.bs.length - y_1.o) (x.bs.length - y_1.o) false]) ∧ some (bW x.bs) = some (bW x.bs) ∧ True) ∧ (∀ (y_2 : UpE), upP x.bs 4294967295 y_1.o = PR.ok y_2.n y_2.o ∧ y_2.o ≤ x.bs.length ∧ 0 ≤ y_2.n ∧ y_2.n ≤ 4294967295 → (y_2.o ≤ x.bs.length ∧ x.bs.length ≤ 140737488355328) ∧ [AV.ptr 0 0 0] = [AV.ptr 0 0 0] ∧ (some (bC [AV.sl 1 y_2.o 0 (x.bs.length - y_2.o) (x.bs.length - y_2.o) false]) = some (bC [AV.sl 1 y_2.o 0 (x.bs.length - y_2.o) (x.bs.length - y_2.o) false]) ∧ some (bW x.bs) = some (bW x.bs) ∧ True) ∧ (∀ (y_3 : UpE), upP x.bs 4294967295 y_2.o = PR.ok y_3.n y_3.o ∧ y_3.o ≤ x.bs.length ∧ 0 ≤ y_3.n ∧ y_3.n ≤ 4294967295 → (y_3.o ≤ x.bs.length ∧ x.bs.length ≤ 140737488355328) ∧ [AV.ptr 0 0 0] = [AV.ptr 0 0 0] ∧ (some (bC [AV.sl 1 y_3.o 0 (x.bs.length - y_3.o) (x.bs.length - y_3.o) false]) = some (bC [AV.sl 1 y_3.o
  0 (x.bs.length - y_3.o) (x.bs.length - y_3.o) false]) ∧ some (bW x.bs) = some (bW x.bs) ∧ True) ∧ (∀ (y_4 : UpE), upP x.bs 4294967295 y_3.o = PR.ok y_4.n y_4.o ∧ y_4.o ≤ x.bs.length ∧ 0 ≤ y_4.n ∧ y_4.n ≤ 4294967295 → (y_4.o ≤ x.bs.length ∧ x.bs.length ≤ 140737488355328) ∧ [AV.ptr 0 0 0] = [AV.ptr 0 0 0] ∧ (some (bC [AV.sl 1 y_4.o 0 (x.bs.length - y_4.o) (x.bs.length - y_4.o) false]) = some (bC [AV.sl 1 y_4.o 0 (x.bs.length - y_4.o) (x.bs.length - y_4.o) false]) ∧ some (bW x.bs) = some (bW x.bs) ∧ True) ∧ (∀ (y_5 : UpE), upP x.bs 4294967295 y_4.o = PR.ok y_5.n y_5.o ∧ y_5.o ≤ x.bs.length ∧ 0 ≤ y_5.n ∧ y_5.n ≤ 4294967295 → (y_5.o ≤ x.bs.length ∧ x.bs.length ≤ 140737488355328) ∧ [AV.ptr 0 0 0] = [AV.ptr 0 0 0] ∧ (some (bC [AV.sl 1 y_5.o 0 (x.bs.length - y_5.o) (x.bs.length - y_5.o) false]) = some (bC [AV.sl 1 y_5.o 0 (x.bs.length - y_5.o) (x.bs.length - y_5.o) false]) ∧ some (bW x.bs) = some
  (bW x.bs) ∧ True) ∧ (∀ (y_6 : UpE), upP x.bs 4294967295 y_5.o = PR.ok y_6.n y_6.o ∧ y_6.o ≤ x.bs.length ∧ 0 ≤ y_6.n ∧ y_6.n ≤ 4294967295 → (y_6.o ≤ x.bs.length ∧ x.bs.length ≤ 140737488355328) ∧ [AV.ptr 0 0 0] = [AV.ptr 0 0 0] ∧ (some (bC [AV.sl 1 y_6.o 0 (x.bs.length - y_6.o) (x.bs.length - y_6.o) false]) = some (bC [AV.sl 1 y_6.o 0 (x.bs.length - y_6.o) (x.bs.length - y_6.o) false]) ∧ some (bW x.bs) = some (bW x.bs) ∧ True) ∧ (∀ (y_7 : UpE), upP x.bs 4294967295 y_6.o = PR.ok y_7.n y_7.o ∧ y_7.o ≤ x.bs.length ∧ 0 ≤ y_7.n ∧ y_7.n ≤ 4294967295 → (y_7.o ≤ x.bs.length ∧ x.bs.length ≤ 140737488355328) ∧ [AV.ptr 0 0 0] = [AV.ptr 0 0 0] ∧ (some (bC [AV.sl 1 y_7.o 0 (x.bs.length - y_7.o) (x.bs.length - y_7.o) false]) = some (bC [AV.sl 1 y_7.o 0 (x.bs.length - y_7.o) (x.bs.length - y_7.o) false]) ∧ some (bW x.bs) = some (bW x.bs) ∧ True) ∧ (∀ (y_8 : UpE), upP x.bs 4294967295 y_7.o = PR.ok y_8.n
  y_8.o ∧ y_8.o ≤ x.bs.length ∧ 0 ≤ y_8.n ∧ y_8.n ≤ 4294967295 → (y_8.o ≤ x.bs.length ∧ x.bs.length ≤ 140737488355328) ∧ [AV.ptr 0 0 0] = [AV.ptr 0 0 0] ∧ (some (bC [AV.sl 1 y_8.o 0 (x.bs.length - y_8.o) (x.bs.length - y_8.o) false]) = some (bC [AV.sl 1 y_8.o 0 (x.bs.length - y_8.o) (x.bs.length - y_8.o) false]) ∧ some (bW x.bs) = some (bW x.bs) ∧ True) ∧ (∀ (y_9 : UpE), upP x.bs 4294967295 y_8.o = PR.ok y_9.n y_9.o ∧ y_9.o ≤ x.bs.length ∧ 0 ≤ y_9.n ∧ y_9.n ≤ 4294967295 → (y_9.o ≤ x.bs.length ∧ x.bs.length ≤ 140737488355328) ∧ [AV.ptr 0 0 0] = [AV.ptr 0 0 0] ∧ (some (bC [AV.sl 1 y_9.o 0 (x.bs.length - y_9.o) (x.bs.length - y_9.o) false]) = some (bC [AV.sl 1 y_9.o 0 (x.bs.length - y_9.o) (x.bs.length - y_9.o) false]) ∧ some (bW x.bs) = some (bW x.bs) ∧ True) ∧ (∀ (y_10 : UpE), upP x.bs 4294967295 y_9.o = PR.ok y_10.n y_10.o ∧ y_10.o ≤ x.bs.length ∧ 0 ≤ y_10.n ∧ y_10.n ≤ 4294967295 → (y_10.o
  ≤ x.bs.length ∧ x.bs.length ≤ 140737488355328) ∧ [AV.ptr 0 0 0] = [AV.ptr 0 0 0] ∧ (some (bC [AV.sl 1 y_10.o 0 (x.bs.length - y_10.o) (x.bs.length - y_10.o) false]) = some (bC [AV.sl 1 y_10.o 0 (x.bs.length - y_10.o) (x.bs.length - y_10.o) false]) ∧ some (bW x.bs) = some (bW x.bs) ∧ True) ∧ (∀ (y_11 : UpE), upP x.bs 4294967295 y_10.o = PR.ok y_11.n y_11.o ∧ y_11.o ≤ x.bs.length ∧ 0 ≤ y_11.n ∧ y_11.n ≤ 4294967295 → (y_11.o ≤ x.bs.length ∧ x.bs.length ≤ 140737488355328) ∧ [AV.ptr 0 0 0] = [AV.ptr 0 0 0] ∧ (some (bC [AV.sl 1 y_11.o 0 (x.bs.length - y_11.o) (x.bs.length - y_11.o) false]) = some (bC [AV.sl 1 y_11.o 0 (x.bs.length - y_11.o) (x.bs.length - y_11.o) false]) ∧ some (bW x.bs) = some (bW x.bs) ∧ True) ∧ (∀ (y_12 : UpE), upP x.bs 4294967295 y_11.o = PR.ok y_12.n y_12.o ∧ y_12.o ≤ x.bs.length ∧ 0 ≤ y_12.n ∧ y_12.n ≤ 4294967295 → (y_12.o ≤ x.bs.length ∧ x.bs.length ≤ 140737488355328) ∧
  [AV.ptr 0 0 0] = [AV.ptr 0 0 0] ∧ (some (bC [AV.sl 1 y_12.o 0 (x.bs.length - y_12.o) (x.bs.length - y_12.o) false]) = some (bC [AV.sl 1 y_12.o 0 (x.bs.length - y_12.o) (x.bs.length - y_12.o) false]) ∧ some (bW x.bs) = some (bW x.bs) ∧ True) ∧ (∀ (y_13 : UpE), upP x.bs 4294967295 y_12.o = PR.ok y_13.n y_13.o ∧ y_13.o ≤ x.bs.length ∧ 0 ≤ y_13.n ∧ y_13.n ≤ 4294967295 → (y_13.o ≤ x.bs.length ∧ x.bs.length ≤ 140737488355328) ∧ [AV.ptr 0 0 0] = [AV.ptr 0 0 0] ∧ (some (bC [AV.sl 1 y_13.o 0 (x.bs.length - y_13.o) (x.bs.length - y_13.o) false]) = some (bC [AV.sl 1 y_13.o 0 (x.bs.length - y_13.o) (x.bs.length - y_13.o) false]) ∧ some (bW x.bs) = some (bW x.bs) ∧ True) ∧ (∀ (y_14 : UpE), upP x.bs 4294967295 y_13.o = PR.ok y_14.n y_14.o ∧ y_14.o ≤ x.bs.length ∧ 0 ≤ y_14.n ∧ y_14.n ≤ 4294967295 → (y_14.o ≤ x.bs.length ∧ x.bs.length ≤ 140737488355328) ∧ [AV.ptr 0 0 0] = [AV.ptr 0 0 0] ∧ (some (bC
  [AV.sl 1 y_14.o 0 (x.bs.length - y_14.o) (x.bs.length - y_14.o) false]) = some (bC [AV.sl 1 y_14.o 0 (x.bs.length - y_14.o) (x.bs.length - y_14.o) false]) ∧ some (bW x.bs) = some (bW x.bs) ∧ True) ∧ (∀ (y_15 : UpE), upP x.bs 4294967295 y_14.o = PR.ok y_15.n y_15.o ∧ y_15.o ≤ x.bs.length ∧ 0 ≤ y_15.n ∧ y_15.n ≤ 4294967295 → (y_15.o ≤ x.bs.length ∧ x.bs.length ≤ 140737488355328) ∧ [AV.ptr 0 0 0] = [AV.ptr 0 0 0] ∧ (some (bC [AV.sl 1 y_15.o 0 (x.bs.length - y_15.o) (x.bs.length - y_15.o) false]) = some (bC [AV.sl 1 y_15.o 0 (x.bs.length - y_15.o) (x.bs.length - y_15.o) false]) ∧ some (bW x.bs) = some (bW x.bs) ∧ True) ∧ (∀ (y_16 : UpE), upP x.bs 4294967295 y_15.o = PR.ok y_16.n y_16.o ∧ y_16.o ≤ x.bs.length ∧ 0 ≤ y_16.n ∧ y_16.n ≤ 4294967295 → (y_16.o ≤ x.bs.length ∧ x.bs.length ≤ 140737488355328) ∧ [AV.ptr 0 0 0] = [AV.ptr 0 0 0] ∧ (some (bC [AV.sl 1 y_16.o 0 (x.bs.length - y_16.o)
  (x.bs.length - y_16.o) false]) = some (bC [AV.sl 1 y_16.o 0 (x.bs.length - y_16.o) (x.bs.length - y_16.o) false]) ∧ some (bW x.bs) = some (bW x.bs) ∧ True) ∧ (∀ (y_17 : UpE), upP x.bs 4294967295 y_16.o = PR.ok y_17.n y_17.o ∧ y_17.o ≤ x.bs.length ∧ 0 ≤ y_17.n ∧ y_17.n ≤ 4294967295 → (y_17.o ≤ x.bs.length ∧ x.bs.length ≤ 140737488355328) ∧ [AV.ptr 0 0 0, nL 1] = [AV.ptr 0 0 0, nL 1] ∧ (some (bC [AV.sl 1 y_17.o 0 (x.bs.length - y_17.o) (x.bs.length - y_17.o) false]) = some (bC [AV.sl 1 y_17.o 0 (x.bs.length - y_17.o) (x.bs.length - y_17.o) false]) ∧ some (bW x.bs) = some (bW x.bs) ∧ True) ∧ (∀ (y_18 : UpE), upP x.bs 1 y_17.o = PR.ok y_18.n y_18.o ∧ y_18.o ≤ x.bs.length ∧ 0 ≤ y_18.n ∧ y_18.n ≤ 1 → (∃ (y_19 : StE), (stP x.bs x.o = PR.ok y_19.s y_19.o ∧ y_19.o ≤ x.bs.length) ∧ [AV.agg [nU y.n, nU y_1.n, nU y_2.n, nU y_3.n, nU y_4.n, nU y_5.n, nU y_6.n, nU y_7.n, nU y_8.n, nU y_9.n, nU y_10.n,
  nU y_11.n, nU y_12.n, nU y_13.n, nU y_14.n, nU y_15.n, nU y_16.n, nU y_17.n, AV.bool (y_18.n == 1)]] = [AV.agg [nU y_19.s.r0, nU y_19.s.r1, nU y_19.s.r2, nU y_19.s.r3, nU y_19.s.r4, nU y_19.s.r5, nU y_19.s.r6, nU y_19.s.r7, nU y_19.s.pc, nU y_19.s.ps, nU y_19.s.c0, nU y_19.s.c1, nU y_19.s.c2, nU y_19.s.c3, nU y_19.s.c4, nU y_19.s.c5, nU y_19.s.c6, nU y_19.s.c7, AV.bool y_19.s.h]] ∧ bC [AV.sl 1 y_18.o 0 (x.bs.length - y_18.o) (x.bs.length - y_18.o) false] = bC [AV.sl 1 y_19.o 0 (x.bs.length - y_19.o) (x.bs.length - y_19.o) false] ∧ bW x.bs = bW x.bs ∧ True) ∨ ∃ (y : StE), stP x.bs x.o = PR.no y.e ∧ False) ∧ (∀ (y : UpE), upP x.bs 1 y_17.o = PR.no y.e → (∃ (y : StE), (stP x.bs x.o = PR.ok y.s y.o ∧ y.o ≤ x.bs.length) ∧ False) ∨ ∃ (y_18 : StE), stP x.bs x.o = PR.no y_18.e ∧ [AV.ifc T_file_wrong (AV.agg [nI y.e])] = [AV.ifc T_file_wrong (AV.agg [nI y_18.e])] ∧ True) ∧ True) ∧ (∀ (y : UpE),
  upP x.bs 4294967295 y_16.o = PR.no y.e → (∃ (y : StE), (stP x.bs x.o = PR.ok y.s y.o ∧ y.o ≤ x.bs.length) ∧ False) ∨ ∃ (y_17 : StE), stP x.bs x.o = PR.no y_17.e ∧ [AV.ifc T_file_wrong (AV.agg [nI y.e])] = [AV.ifc T_file_wrong (AV.agg [nI y_17.e])] ∧ True) ∧ True) ∧ (∀ (y : UpE), upP x.bs 4294967295 y_15.o = PR.no y.e → (∃ (y : StE), (stP x.bs x.o = PR.ok y.s y.o ∧ y.o ≤ x.bs.length) ∧ False) ∨ ∃ (y_16 : StE), stP x.bs x.o = PR.no y_16.e ∧ [AV.ifc T_file_wrong (AV.agg [nI y.e])] = [AV.ifc T_file_wrong (AV.agg [nI y_16.e])] ∧ True) ∧ True) ∧ (∀ (y : UpE), upP x.bs 4294967295 y_14.o = PR.no y.e → (∃ (y : StE), (stP x.bs x.o = PR.ok y.s y.o ∧ y.o ≤ x.bs.length) ∧ False) ∨ ∃ (y_15 : StE), stP x.bs x.o = PR.no y_15.e ∧ [AV.ifc T_file_wrong (AV.agg [nI y.e])] = [AV.ifc T_file_wrong (AV.agg [nI y_15.e])] ∧ True) ∧ True) ∧ (∀ (y : UpE), upP x.bs 4294967295 y_13.o = PR.no y.e → (∃ (y : StE), (stP
  x.bs x.o = PR.ok y.s y.o ∧ y.o ≤ x.bs.length) ∧ False) ∨ ∃ (y_14 : StE), stP x.bs x.o = PR.no y_14.e ∧ [AV.ifc T_file_wrong (AV.agg [nI y.e])] = [AV.ifc T_file_wrong (AV.agg [nI y_14.e])] ∧ True) ∧ True) ∧ (∀ (y : UpE), upP x.bs 4294967295 y_12.o = PR.no y.e → (∃ (y : StE), (stP x.bs x.o = PR.ok y.s y.o ∧ y.o ≤ x.bs.length) ∧ False) ∨ ∃ (y_13 : StE), stP x.bs x.o = PR.no y_13.e ∧ [AV.ifc T_file_wrong (AV.agg [nI y.e])] = [AV.ifc T_file_wrong (AV.agg [nI y_13.e])] ∧ True) ∧ True) ∧ (∀ (y : UpE), upP x.bs 4294967295 y_11.o = PR.no y.e → (∃ (y : StE), (stP x.bs x.o = PR.ok y.s y.o ∧ y.o ≤ x.bs.length) ∧ False) ∨ ∃ (y_12 : StE), stP x.bs x.o = PR.no y_12.e ∧ [AV.ifc T_file_wrong (AV.agg [nI y.e])] = [AV.ifc T_file_wrong (AV.agg [nI y_12.e])] ∧ True) ∧ True) ∧ (∀ (y : UpE), upP x.bs 4294967295 y_10.o = PR.no y.e → (∃ (y : StE), (stP x.bs x.o = PR.ok y.s y.o ∧ y.o ≤ x.bs.length) ∧ False) ∨ ∃
  (y_11 : StE), stP x.bs x.o = PR.no y_11.e ∧ [AV.ifc T_file_wrong (AV.agg [nI y.e])] = [AV.ifc T_file_wrong (AV.agg [nI y_11.e])] ∧ True) ∧ True) ∧ (∀ (y : UpE), upP x.bs 4294967295 y_9.o = PR.no y.e → (∃ (y : StE), (stP x.bs x.o = PR.ok y.s y.o ∧ y.o ≤ x.bs.length) ∧ False) ∨ ∃ (y_10 : StE), stP x.bs x.o = PR.no y_10.e ∧ [AV.ifc T_file_wrong (AV.agg [nI y.e])] = [AV.ifc T_file_wrong (AV.agg [nI y_10.e])] ∧ True) ∧ True) ∧ (∀ (y : UpE), upP x.bs 4294967295 y_8.o = PR.no y.e → (∃ (y : StE), (stP x.bs x.o = PR.ok y.s y.o ∧ y.o ≤ x.bs.length) ∧ False) ∨ ∃ (y_9 : StE), stP x.bs x.o = PR.no y_9.e ∧ [AV.ifc T_file_wrong (AV.agg [nI y.e])] = [AV.ifc T_file_wrong (AV.agg [nI y_9.e])] ∧ True) ∧ True) ∧ (∀ (y : UpE), upP x.bs 4294967295 y_7.o = PR.no y.e → (∃ (y : StE), (stP x.bs x.o = PR.ok y.s y.o ∧ y.o ≤ x.bs.length) ∧ False) ∨ ∃ (y_8 : StE), stP x.bs x.o = PR.no y_8.e ∧ [AV.ifc T_file_wrong
  (AV.agg [nI y.e])] = [AV.ifc T_file_wrong (AV.agg [nI y_8.e])] ∧ True) ∧ True) ∧ (∀ (y : UpE), upP x.bs 4294967295 y_6.o = PR.no y.e → (∃ (y : StE), (stP x.bs x.o = PR.ok y.s y.o ∧ y.o ≤ x.bs.length) ∧ False) ∨ ∃ (y_7 : StE), stP x.bs x.o = PR.no y_7.e ∧ [AV.ifc T_file_wrong (AV.agg [nI y.e])] = [AV.ifc T_file_wrong (AV.agg [nI y_7.e])] ∧ True) ∧ True) ∧ (∀ (y : UpE), upP x.bs 4294967295 y_5.o = PR.no y.e → (∃ (y : StE), (stP x.bs x.o = PR.ok y.s y.o ∧ y.o ≤ x.bs.length) ∧ False) ∨ ∃ (y_6 : StE), stP x.bs x.o = PR.no y_6.e ∧ [AV.ifc T_file_wrong (AV.agg [nI y.e])] = [AV.ifc T_file_wrong (AV.agg [nI y_6.e])] ∧ True) ∧ True) ∧ (∀ (y : UpE), upP x.bs 4294967295 y_4.o = PR.no y.e → (∃ (y : StE), (stP x.bs x.o = PR.ok y.s y.o ∧ y.o ≤ x.bs.length) ∧ False) ∨ ∃ (y_5 : StE), stP x.bs x.o = PR.no y_5.e ∧ [AV.ifc T_file_wrong (AV.agg [nI y.e])] = [AV.ifc T_file_wrong (AV.agg [nI y_5.e])] ∧ True) ∧
  True) ∧ (∀ (y : UpE), upP x.bs 4294967295 y_3.o = PR.no y.e → (∃ (y : StE), (stP x.bs x.o = PR.ok y.s y.o ∧ y.o ≤ x.bs.length) ∧ False) ∨ ∃ (y_4 : StE), stP x.bs x.o = PR.no y_4.e ∧ [AV.ifc T_file_wrong (AV.agg [nI y.e])] = [AV.ifc T_file_wrong (AV.agg [nI y_4.e])] ∧ True) ∧ True) ∧ (∀ (y : UpE), upP x.bs 4294967295 y_2.o = PR.no y.e → (∃ (y : StE), (stP x.bs x.o = PR.ok y.s y.o ∧ y.o ≤ x.bs.length) ∧ False) ∨ ∃ (y_3 : StE), stP x.bs x.o = PR.no y_3.e ∧ [AV.ifc T_file_wrong (AV.agg [nI y.e])] = [AV.ifc T_file_wrong (AV.agg [nI y_3.e])] ∧ True) ∧ True) ∧ (∀ (y : UpE), upP x.bs 4294967295 y_1.o = PR.no y.e → (∃ (y : StE), (stP x.bs x.o = PR.ok y.s y.o ∧ y.o ≤ x.bs.length) ∧ False) ∨ ∃ (y_2 : StE), stP x.bs x.o = PR.no y_2.e ∧ [AV.ifc T_file_wrong (AV.agg [nI y.e])] = [AV.ifc T_file_wrong (AV.agg [nI y_2.e])] ∧ True) ∧ True) ∧ (∀ (y_1 : UpE), upP x.bs 4294967295 y.o = PR.no y_1.e → (∃ (y :
  StE), (stP x.bs x.o = PR.ok y.s y.o ∧ y.o ≤ x.bs.length) ∧ False) ∨ ∃ (y : StE), stP x.bs x.o = PR.no y.e ∧ [AV.ifc T_file_wrong (AV.agg [nI y_1.e])] = [AV.ifc T_file_wrong (AV.agg [nI y.e])] ∧ True) ∧ True) ∧ (∀ (y : UpE), upP x.bs 4294967295 x.o = PR.no y.e → (∃ (y : StE), (stP x.bs x.o = PR.ok y.s y.o ∧ y.o ≤ x.bs.length) ∧ False) ∨ ∃ (y_1 : StE), stP x.bs x.o = PR.no y_1.e ∧ [AV.ifc T_file_wrong (AV.agg [nI y.e])] = [AV.ifc T_file_wrong (AV.agg [nI y_1.e])] ∧ True) ∧ True
theorem rdSt_c_e (x : At) : some (rdSt_c_V x) = (rdStC.cond sp Go.Proofs.Tryd.prog (drP sp Go.Proofs.Tryd.prog) noLoops (orK ((numS F_file_reader_number 4294967295 .u32).orc sp) (upToS.orc sp)) 60 3 x) := by kernel_rfl
set_option maxRecDepth 100000 in
theorem rdSt_ok : rdStC.OK Go.Proofs.Tryd.prog := by
  refine Con.by hmix (noLoops_ok _) (orK_ok (Con.orc_ok numberS_ok) (Con.orc_ok uptoS_ok)) rdSt_c_V rdSt_c_e (fun x hx => ?_)
  obtain ⟨h1, h2⟩ := hx
  unfold rdSt_c_V
  refine ⟨⟨h1, h2⟩, rfl, ⟨rfl, rfl, trivial⟩, fun y0 h0' => ?_, fun y hy => .inr ⟨⟨default, 0, y.e⟩, by simp only [stP, numsP, PR.bind, hy], rfl, trivial⟩, trivial⟩
  refine ⟨⟨h0'.2.1, h2⟩, rfl, ⟨rfl, rfl, trivial⟩, fun y1 h1' => ?_, fun y hy => .inr ⟨⟨default, 0, y.e⟩, by simp only [stP, numsP, PR.bind, h0'.1, hy], rfl, trivial⟩, trivial⟩
  refine ⟨⟨h1'.2.1, h2⟩, rfl, ⟨rfl, rfl, trivial⟩, fun y2 h2' => ?_, fun y hy => .inr ⟨⟨default, 0, y.e⟩, by simp only [stP, numsP, PR.bind, h0'.1, h1'.1, hy], rfl, trivial⟩, trivial⟩
  refine ⟨⟨h2'.2.1, h2⟩, rfl, ⟨rfl, rfl, trivial⟩, fun y3 h3' => ?_, fun y hy => .inr ⟨⟨default, 0, y.e⟩, by simp only [stP, numsP, PR.bind, h0'.1, h1'.1, h2'.1, hy], rfl, trivial⟩, trivial⟩
  refine ⟨⟨h3'.2.1, h2⟩, rfl, ⟨rfl, rfl, trivial⟩, fun y4 h4' => ?_, fun y hy => .inr ⟨⟨default, 0, y.e⟩, by simp only [stP, numsP, PR.bind, h0'.1, h1'.1, h2'.1, h3'.1, hy], rfl, trivial⟩, trivial⟩
  refine ⟨⟨h4'.2.1, h2⟩, rfl, ⟨rfl, rfl, trivial⟩, fun y5 h5' => ?_, fun y hy => .inr ⟨⟨default, 0, y.e⟩, by simp only [stP, numsP, PR.bind, h0'.1, h1'.1, h2'.1, h3'.1, h4'.1, hy], rfl, trivial⟩, trivial⟩
  refine ⟨⟨h5'.2.1, h2⟩, rfl, ⟨rfl, rfl, trivial⟩, fun y6 h6' => ?_, fun y hy => .inr ⟨⟨default, 0, y.e⟩, by simp only [stP, numsP, PR.bind, h0'.1, h1'.1, h2'.1, h3'.1, h4'.1, h5'.1, hy], rfl, trivial⟩, trivial⟩
  refine ⟨⟨h6'.2.1, h2⟩, rfl, ⟨rfl, rfl, trivial⟩, fun y7 h7' => ?_, fun y hy => .inr ⟨⟨default, 0, y.e⟩, by simp only [stP, numsP, PR.bind, h0'.1, h1'.1, h2'.1, h3'.1, h4'.1, h5'.1, h6'.1, hy], rfl, trivial⟩, trivial⟩
  refine ⟨⟨h7'.2.1, h2⟩, rfl, ⟨rfl, rfl, trivial⟩, fun y8 h8' => ?_, fun y hy => .inr ⟨⟨default, 0, y.e⟩, by simp only [stP, numsP, PR.bind, h0'.1, h1'.1, h2'.1, h3'.1, h4'.1, h5'.1, h6'.1, h7'.1, hy], rfl, trivial⟩, trivial⟩
  refine ⟨⟨h8'.2.1, h2⟩, rfl, ⟨rfl, rfl, trivial⟩, fun y9 h9' => ?_, fun y hy => .inr ⟨⟨default, 0, y.e⟩, by simp only [stP, numsP, PR.bind, h0'.1, h1'.1, h2'.1, h3'.1, h4'.1, h5'.1, h6'.1, h7'.1, h8'.1, hy], rfl, trivial⟩, trivial⟩
  refine ⟨⟨h9'.2.1, h2⟩, rfl, ⟨rfl, rfl, trivial⟩, fun y10 h10' => ?_, fun y hy => .inr ⟨⟨default, 0, y.e⟩, by simp only [stP, numsP, PR.bind, h0'.1, h1'.1, h2'.1, h3'.1, h4'.1, h5'.1, h6'.1, h7'.1, h8'.1, h9'.1, hy], rfl, trivial⟩, trivial⟩
  refine ⟨⟨h10'.2.1, h2⟩, rfl, ⟨rfl, rfl, trivial⟩, fun y11 h11' => ?_, fun y hy => .inr ⟨⟨default, 0, y.e⟩, by simp only [stP, numsP, PR.bind, h0'.1, h1'.1, h2'.1, h3'.1, h4'.1, h5'.1, h6'.1, h7'.1, h8'.1, h9'.1, h10'.1, hy], rfl, trivial⟩, trivial⟩
  refine ⟨⟨h11'.2.1, h2⟩, rfl, ⟨rfl, rfl, trivial⟩, fun y12 h12' => ?_, fun y hy => .inr ⟨⟨default, 0, y.e⟩, by simp only [stP, numsP, PR.bind, h0'.1, h1'.1, h2'.1, h3'.1, h4'.1, h5'.1, h6'.1, h7'.1, h8'.1, h9'.1, h10'.1, h11'.1, hy], rfl, trivial⟩, trivial⟩
  refine ⟨⟨h12'.2.1, h2⟩, rfl, ⟨rfl, rfl, trivial⟩, fun y13 h13' => ?_, fun y hy => .inr ⟨⟨default, 0, y.e⟩, by simp only [stP, numsP, PR.bind, h0'.1, h1'.1, h2'.1, h3'.1, h4'.1, h5'.1, h6'.1, h7'.1, h8'.1, h9'.1, h10'.1, h11'.1, h12'.1, hy], rfl, trivial⟩, trivial⟩
  refine ⟨⟨h13'.2.1, h2⟩, rfl, ⟨rfl, rfl, trivial⟩, fun y14 h14' => ?_, fun y hy => .inr ⟨⟨default, 0, y.e⟩, by simp only [stP, numsP, PR.bind, h0'.1, h1'.1, h2'.1, h3'.1, h4'.1, h5'.1, h6'.1, h7'.1, h8'.1, h9'.1, h10'.1, h11'.1, h12'.1, h13'.1, hy], rfl, trivial⟩, trivial⟩
  refine ⟨⟨h14'.2.1, h2⟩, rfl, ⟨rfl, rfl, trivial⟩, fun y15 h15' => ?_, fun y hy => .inr ⟨⟨default, 0, y.e⟩, by simp only [stP, numsP, PR.bind, h0'.1, h1'.1, h2'.1, h3'.1, h4'.1, h5'.1, h6'.1, h7'.1, h8'.1, h9'.1, h10'.1, h11'.1, h12'.1, h13'.1, h14'.1, hy], rfl, trivial⟩, trivial⟩
  refine ⟨⟨h15'.2.1, h2⟩, rfl, ⟨rfl, rfl, trivial⟩, fun y16 h16' => ?_, fun y hy => .inr ⟨⟨default, 0, y.e⟩, by simp only [stP, numsP, PR.bind, h0'.1, h1'.1, h2'.1, h3'.1, h4'.1, h5'.1, h6'.1, h7'.1, h8'.1, h9'.1, h10'.1, h11'.1, h12'.1, h13'.1, h14'.1, h15'.1, hy], rfl, trivial⟩, trivial⟩
  refine ⟨⟨h16'.2.1, h2⟩, rfl, ⟨rfl, rfl, trivial⟩, fun y17 h17' => ?_, fun y hy => .inr ⟨⟨default, 0, y.e⟩, by simp only [stP, numsP, PR.bind, h0'.1, h1'.1, h2'.1, h3'.1, h4'.1, h5'.1, h6'.1, h7'.1, h8'.1, h9'.1, h10'.1, h11'.1, h12'.1, h13'.1, h14'.1, h15'.1, h16'.1, hy], rfl, trivial⟩, trivial⟩
  refine ⟨⟨h17'.2.1, h2⟩, rfl, ⟨rfl, rfl, trivial⟩, fun y18 h18' => ?_, fun y hy => .inr ⟨⟨default, 0, y.e⟩, by simp only [stP, numsP, PR.bind, h0'.1, h1'.1, h2'.1, h3'.1, h4'.1, h5'.1, h6'.1, h7'.1, h8'.1, h9'.1, h10'.1, h11'.1, h12'.1, h13'.1, h14'.1, h15'.1, h16'.1, h17'.1, hy], rfl, trivial⟩, trivial⟩
  exact .inl ⟨⟨stL [y0.n, y1.n, y2.n, y3.n, y4.n, y5.n, y6.n, y7.n, y8.n, y9.n, y10.n, y11.n, y12.n, y13.n, y14.n, y15.n, y16.n, y17.n] y18.n, y18.o, 0⟩, ⟨by simp only [stP, numsP, PR.bind, h0'.1, h1'.1, h2'.1, h3'.1, h4'.1, h5'.1, h6'.1, h7'.1, h8'.1, h9'.1, h10'.1, h11'.1, h12'.1, h13'.1, h14'.1, h15'.1, h16'.1, h17'.1, h18'.1], h18'.2.1⟩, rfl, rfl, rfl, trivial⟩
end Go.Proofs.YtmbcpmbpkdeioaaDoor.W
