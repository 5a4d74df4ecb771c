/- The document's reader: guests: the loops' walks. No condition. -/
import Derived.Test.YtmbcpmbpkdeioaaGreatDoorF40
import Derived.KernelRfl
import Derived.Test.YtmbcpmbpkdeioaaGreatDoorF39
import Derived.Test.YtmbcpmbpkdeioaaGreatDoorF38
import Derived.Test.YtmbcpmbpkdeioaaGreatDoorEn34
namespace Go.Proofs.YtmbcpmbpkdeioaaGreatDoor.W
open Go Go.RowKit Go.Eng
set_option maxRecDepth 100000
set_option linter.unusedVariables false
set_option linter.unusedSimpArgs false
abbrev geAt_c_p1 (bs : List Int) (o m c : Nat) (e fr : Int) (mem : Row) (s : St) (steps : Int) (nt : NRow) (out disk queue : Row) (n k : Nat) (l : List E3) (j : GeI) : List AV :=
  [AV.msl 1 (GeI.mk j.x j.e j.fr j.mem j.s j.steps j.nt j.out j.disk j.queue j.n j.k j.l true).r.o 0 (GeI.mk j.x j.e j.fr j.mem j.s j.steps j.nt j.out j.disk j.queue j.n j.k j.l true).r.m (GeI.mk j.x j.e j.fr j.mem j.s j.steps j.nt j.out j.disk j.queue j.n j.k j.l true).r.c, nI (GeI.mk j.x j.e j.fr j.mem j.s j.steps j.nt j.out j.disk j.queue j.n j.k j.l true).r.e]
abbrev geAt_c_p2 (bs : List Int) (o m c : Nat) (e fr : Int) (mem : Row) (s : St) (steps : Int) (nt : NRow) (out disk queue : Row) (n k : Nat) (l : List E3) : List AV :=
  [AV.msl 1 (GeI.mk (RgX.mk bs o m c) e fr mem s steps nt out disk queue n k l true).r.o 0 (GeI.mk (RgX.mk bs o m c) e fr mem s steps nt out disk queue n k l true).r.m (GeI.mk (RgX.mk bs o m c) e fr mem s steps nt out disk queue n k l true).r.c, nI (GeI.mk (RgX.mk bs o m c) e fr mem s steps nt out disk queue n k l true).r.e]
abbrev geAt_c_p0 (bs : List Int) (o m c : Nat) (e fr : Int) (mem : Row) (s : St) (steps : Int) (nt : NRow) (out disk queue : Row) (n k : Nat) (l : List E3) : Prop :=
  sp (GeI.mk (RgX.mk bs o m c) e fr mem s steps nt out disk queue n k l true).r.l.isEmpty ((AV.ptr 0 0 0 = AV.ptr 0 0 0 ∧ AV.ptr 2 0 0 = AV.ptr 2 0 0 ∧ AV.ptr 3 0 0 = AV.ptr 3 0 0 ∧ True) ∧ rdB o m c e = ABlk.mk true 2 (AC.cells (geAt_c_p2 bs o m c e fr mem s steps nt out disk queue n k l)) ∧ bR bs = bR bs ∧ ABlk.mk true 35 (AC.cells zeroSv) = ABlk.mk true 35 (AC.cells [nI 0, AV.nils, nU 0, nU 0, nU 0, nU 0, nU 0, nU 0, nU 0, nU 0, nU 0, nU 0, nU 0, nU 0, nU 0, nU 0, nU 0, nU 0, nU 0, nU 0, AV.bool false, nI 0, AV.nils, AV.nils, AV.nils, AV.nils, AV.nils, nU 0, nU 0, nU 0, nU 0, nU 0, nU 0, nU 0, nU 0]) ∧ ABlk.mk true 35 (AC.cells [nI fr, AV.msl 4 0 0 mem.bs.length mem.c, nU s.r0, nU s.r1, nU s.r2, nU s.r3, nU s.r4, nU s.r5, nU s.r6, nU s.r7, nU s.pc, nU s.ps, nU s.c0, nU s.c1, nU s.c2, nU s.c3, nU s.c4, nU s.c5, nU s.c6, nU s.c7, AV.bool s.h, nI steps, AV.sl 5 0 0 nt.n nt.n false, AV.msl 6
  0 0 out.bs.length out.c, AV.msl 7 0 0 disk.bs.length disk.c, AV.msl 8 0 0 queue.bs.length queue.c, AV.sl 9 0 0 l.length l.length false, nU 0, nU 0, nU 0, nU 0, nU 0, nU 0, nU 0, nU 0]) = ABlk.mk true 35 (AC.cells [nI fr, AV.msl 4 0 0 mem.bs.length mem.c, nU s.r0, nU s.r1, nU s.r2, nU s.r3, nU s.r4, nU s.r5, nU s.r6, nU s.r7, nU s.pc, nU s.ps, nU s.c0, nU s.c1, nU s.c2, nU s.c3, nU s.c4, nU s.c5, nU s.c6, nU s.c7, AV.bool s.h, nI steps, AV.sl 5 0 0 nt.n nt.n false, AV.msl 6 0 0 out.bs.length out.c, AV.msl 7 0 0 disk.bs.length disk.c, AV.msl 8 0 0 queue.bs.length queue.c, AV.nils, nU 0, nU 0, nU 0, nU 0, nU 0, nU 0, nU 0, nU 0]) ∧ bR mem.bs = bR mem.bs ∧ bR out.bs = bR out.bs ∧ bR disk.bs = bR disk.bs ∧ bR queue.bs = bR queue.bs ∧ (true = true ∧ 4 = 4 ∧ nt.n = nt.n ∧ ∀ (i : Nat), i < nt.n → [nI (nt.at_ i), nI (nt.cause i), nU (nt.back i), nU (nt.addr i)] = [nI (nt.at_ i), nI (nt.cause i),
  nU (nt.back i), nU (nt.addr i)]) ∧ True) ((AV.ptr 0 0 0 = AV.ptr 0 0 0 ∧ AV.ptr 2 0 0 = AV.ptr 2 0 0 ∧ AV.ptr 3 0 0 = AV.ptr 3 0 0 ∧ True) ∧ rdB o m c e = ABlk.mk true 2 (AC.cells (geAt_c_p2 bs o m c e fr mem s steps nt out disk queue n k l)) ∧ bR bs = bR bs ∧ ABlk.mk true 35 (AC.cells zeroSv) = ABlk.mk true 35 (AC.cells [nI 0, AV.nils, nU 0, nU 0, nU 0, nU 0, nU 0, nU 0, nU 0, nU 0, nU 0, nU 0, nU 0, nU 0, nU 0, nU 0, nU 0, nU 0, nU 0, nU 0, AV.bool false, nI 0, AV.nils, AV.nils, AV.nils, AV.nils, AV.nils, nU 0, nU 0, nU 0, nU 0, nU 0, nU 0, nU 0, nU 0]) ∧ ABlk.mk true 35 (AC.cells [nI fr, AV.msl 4 0 0 mem.bs.length mem.c, nU s.r0, nU s.r1, nU s.r2, nU s.r3, nU s.r4, nU s.r5, nU s.r6, nU s.r7, nU s.pc, nU s.ps, nU s.c0, nU s.c1, nU s.c2, nU s.c3, nU s.c4, nU s.c5, nU s.c6, nU s.c7, AV.bool s.h, nI steps, AV.sl 5 0 0 nt.n nt.n false, AV.msl 6 0 0 out.bs.length out.c, AV.msl 7 0 0
  disk.bs.length disk.c, AV.msl 8 0 0 queue.bs.length queue.c, AV.sl 9 0 0 l.length l.length false, nU 0, nU 0, nU 0, nU 0, nU 0, nU 0, nU 0, nU 0]) = ABlk.mk true 35 (AC.cells [nI fr, AV.msl 4 0 0 mem.bs.length mem.c, nU s.r0, nU s.r1, nU s.r2, nU s.r3, nU s.r4, nU s.r5, nU s.r6, nU s.r7, nU s.pc, nU s.ps, nU s.c0, nU s.c1, nU s.c2, nU s.c3, nU s.c4, nU s.c5, nU s.c6, nU s.c7, AV.bool s.h, nI steps, AV.sl 5 0 0 nt.n nt.n false, AV.msl 6 0 0 out.bs.length out.c, AV.msl 7 0 0 disk.bs.length disk.c, AV.msl 8 0 0 queue.bs.length queue.c, AV.sl 9 0 0 (GeI.mk (RgX.mk bs o m c) e fr mem s steps nt out disk queue n k l true).r.l.length (GeI.mk (RgX.mk bs o m c) e fr mem s steps nt out disk queue n k l true).r.l.length false, nU 0, nU 0, nU 0, nU 0, nU 0, nU 0, nU 0, nU 0]) ∧ bR mem.bs = bR mem.bs ∧ bR out.bs = bR out.bs ∧ bR disk.bs = bR disk.bs ∧ bR queue.bs = bR queue.bs ∧ (true = true ∧ 4 = 4 ∧
  nt.n = nt.n ∧ ∀ (i : Nat), i < nt.n → [nI (nt.at_ i), nI (nt.cause i), nU (nt.back i), nU (nt.addr i)] = [nI (nt.at_ i), nI (nt.cause i), nU (nt.back i), nU (nt.addr i)]) ∧ (true = true ∧ 3 = 3 ∧ l.length = (GeI.mk (RgX.mk bs o m c) e fr mem s steps nt out disk queue n k l true).r.l.length ∧ ∀ (i : Nat), i < l.length → [nI (l.getD i instInhabitedE3.default).a, nI (l.getD i instInhabitedE3.default).k, nB (l.getD i instInhabitedE3.default).x] = [nI ((GeI.mk (RgX.mk bs o m c) e fr mem s steps nt out disk queue n k l true).r.l.getD i instInhabitedE3.default).a, nI ((GeI.mk (RgX.mk bs o m c) e fr mem s steps nt out disk queue n k l true).r.l.getD i instInhabitedE3.default).k, nB ((GeI.mk (RgX.mk bs o m c) e fr mem s steps nt out disk queue n k l true).r.l.getD i instInhabitedE3.default).x]) ∧ True)
abbrev geAt_c_p3 (bs : List Int) (o m c : Nat) (e fr : Int) (mem : Row) (s : St) (steps : Int) (nt : NRow) (out disk queue : Row) (n k : Nat) (l : List E3) (y : RdY) (y_1 : RdY) (y_2 : RdY) : List AV :=
  [nI (IntKind.i64.wrap y.n), nI (IntKind.i64.wrap y_1.n), nB (IntKind.u8.wrap y_2.n)]
def geAt_c_V (bs : List Int) (o m c : Nat) (e fr : Int) (mem : Row) (s : St) (steps : Int) (nt : NRow) (out disk queue : Row) (n k : Nat) (l : List E3) : Prop :=
  sp (decide ((↑k : Int) < (↑n : Int))) (sp (bif true then e == 0 else false) (((o + m ≤ bs.length ∧ bs.length ≤ 140737488355328 ∧ IsBytes bs ∧ m ≤ c) ∧ InR 0 1099511627776 1099511627776) ∧ [AV.ptr 0 0 0, nL 1099511627776] = [AV.ptr 0 0 0, nL 1099511627776] ∧ (some (rdB o m c e) = some (rdB o m c e) ∧ some (bR bs) = some (bR bs) ∧ True) ∧ (∀ (y : RdY), (rnum (RdX.mk (RgX.mk bs o m c) e 1099511627776).l 1099511627776 (RS.mk o e) = (y.n, RS.mk y.o y.e) ∧ y.o + y.m = o + m ∧ y.m ≤ y.c ∧ y.o + y.c = o + c) ∧ InR 0 y.n 1099511627776 → ((y.o + y.m ≤ bs.length ∧ bs.length ≤ 140737488355328 ∧ IsBytes bs ∧ y.m ≤ y.c) ∧ InR 0 1099511627776 1099511627776) ∧ [AV.ptr 0 0 0, nL 1099511627776] = [AV.ptr 0 0 0, nL 1099511627776] ∧ (some (rdB y.o y.m y.c y.e) = some (rdB y.o y.m y.c y.e) ∧ some (bR bs) = some (bR bs) ∧ True) ∧ (∀ (y_1 : RdY), (rnum (RdX.mk (RgX.mk bs y.o y.m y.c) y.e 1099511627776).l
  1099511627776 (RS.mk y.o y.e) = (y_1.n, RS.mk y_1.o y_1.e) ∧ y_1.o + y_1.m = y.o + y.m ∧ y_1.m ≤ y_1.c ∧ y_1.o + y_1.c = y.o + y.c) ∧ InR 0 y_1.n 1099511627776 → ((y_1.o + y_1.m ≤ bs.length ∧ bs.length ≤ 140737488355328 ∧ IsBytes bs ∧ y_1.m ≤ y_1.c) ∧ InR 0 255 1099511627776) ∧ [AV.ptr 0 0 0, nL 255] = [AV.ptr 0 0 0, nL 255] ∧ (some (rdB y_1.o y_1.m y_1.c y_1.e) = some (rdB y_1.o y_1.m y_1.c y_1.e) ∧ some (bR bs) = some (bR bs) ∧ True) ∧ (∀ (y_2 : RdY), (rnum (RdX.mk (RgX.mk bs y_1.o y_1.m y_1.c) y_1.e 255).l 255 (RS.mk y_1.o y_1.e) = (y_2.n, RS.mk y_2.o y_2.e) ∧ y_2.o + y_2.m = y_1.o + y_1.m ∧ y_2.m ≤ y_2.c ∧ y_2.o + y_2.c = y_1.o + y_1.c) ∧ InR 0 y_2.n 255 → sp (decide (0 + l.length ≤ l.length) && true && true && true && true && decide ((l.length + 1) * 24 ≤ 140737488355328) && decide (l.length + 1 ≤ 9223372036854775807)) (∃ (j : GeI), ((j.x.o + j.x.m ≤ j.x.bs.length ∧ j.x.bs.length ≤
  140737488355328 ∧ IsBytes j.x.bs ∧ j.x.m ≤ j.x.c) ∧ j.n ≤ 100000 ∧ j.k ≤ j.n ∧ j.l.length = j.k ∧ (true = true → 1 ≤ j.k) ∧ (true = false → j.k = 0)) ∧ j.n - j.k < n - k ∧ [((GeI.mk j.x j.e j.fr j.mem j.s j.steps j.nt j.out j.disk j.queue j.n j.k j.l true).r.l.isEmpty, LOut.mk (AX.exit 2) gnSlots 10 [(0, ABlk.mk true 2 (AC.cells (geAt_c_p1 bs o m c e fr mem s steps nt out disk queue n k l j))), (1, bR j.x.bs), (2, ABlk.mk true 35 (AC.cells zeroSv)), (3, ABlk.mk true 35 (AC.cells [nI j.fr, AV.msl 4 0 0 j.mem.bs.length j.mem.c, nU j.s.r0, nU j.s.r1, nU j.s.r2, nU j.s.r3, nU j.s.r4, nU j.s.r5, nU j.s.r6, nU j.s.r7, nU j.s.pc, nU j.s.ps, nU j.s.c0, nU j.s.c1, nU j.s.c2, nU j.s.c3, nU j.s.c4, nU j.s.c5, nU j.s.c6, nU j.s.c7, AV.bool j.s.h, nI j.steps, AV.sl 5 0 0 j.nt.n j.nt.n false, AV.msl 6 0 0 j.out.bs.length j.out.c, AV.msl 7 0 0 j.disk.bs.length j.disk.c, AV.msl 8 0 0 j.queue.bs.length
  j.queue.c, AV.nils, nU 0, nU 0, nU 0, nU 0, nU 0, nU 0, nU 0, nU 0])), (4, bR j.mem.bs), (6, bR j.out.bs), (7, bR j.disk.bs), (8, bR j.queue.bs), (5, ABlk.mk true 4 (AC.recs j.nt.n j.nt.f))]), (true, LOut.mk (AX.exit 2) gnSlots 10 [(0, ABlk.mk true 2 (AC.cells (geAt_c_p1 bs o m c e fr mem s steps nt out disk queue n k l j))), (1, bR j.x.bs), (2, ABlk.mk true 35 (AC.cells zeroSv)), (3, ABlk.mk true 35 (AC.cells [nI j.fr, AV.msl 4 0 0 j.mem.bs.length j.mem.c, nU j.s.r0, nU j.s.r1, nU j.s.r2, nU j.s.r3, nU j.s.r4, nU j.s.r5, nU j.s.r6, nU j.s.r7, nU j.s.pc, nU j.s.ps, nU j.s.c0, nU j.s.c1, nU j.s.c2, nU j.s.c3, nU j.s.c4, nU j.s.c5, nU j.s.c6, nU j.s.c7, AV.bool j.s.h, nI j.steps, AV.sl 5 0 0 j.nt.n j.nt.n false, AV.msl 6 0 0 j.out.bs.length j.out.c, AV.msl 7 0 0 j.disk.bs.length j.disk.c, AV.msl 8 0 0 j.queue.bs.length j.queue.c, AV.sl 9 0 0 (GeI.mk j.x j.e j.fr j.mem j.s j.steps j.nt j.out
  j.disk j.queue j.n j.k j.l true).r.l.length (GeI.mk j.x j.e j.fr j.mem j.s j.steps j.nt j.out j.disk j.queue j.n j.k j.l true).r.l.length false, nU 0, nU 0, nU 0, nU 0, nU 0, nU 0, nU 0, nU 0])), (4, bR j.mem.bs), (6, bR j.out.bs), (7, bR j.disk.bs), (8, bR j.queue.bs), (5, ABlk.mk true 4 (AC.recs j.nt.n j.nt.f)), (9, ABlk.mk true 3 (AC.recs (GeI.mk j.x j.e j.fr j.mem j.s j.steps j.nt j.out j.disk j.queue j.n j.k j.l true).r.l.length fun (i : Nat) => [nI ((GeI.mk j.x j.e j.fr j.mem j.s j.steps j.nt j.out j.disk j.queue j.n j.k j.l true).r.l.getD i instInhabitedE3.default).a, nI ((GeI.mk j.x j.e j.fr j.mem j.s j.steps j.nt j.out j.disk j.queue j.n j.k j.l true).r.l.getD i instInhabitedE3.default).k, nB ((GeI.mk j.x j.e j.fr j.mem j.s j.steps j.nt j.out j.disk j.queue j.n j.k j.l true).r.l.getD i instInhabitedE3.default).x]))])] = [((GeI.mk (RgX.mk bs o m c) e fr mem s steps nt out disk
  queue n k l true).r.l.isEmpty, LOut.mk (AX.exit 2) gnSlots 10 [(0, ABlk.mk true 2 (AC.cells (geAt_c_p2 bs o m c e fr mem s steps nt out disk queue n k l))), (1, bR bs), (2, ABlk.mk true 35 (AC.cells zeroSv)), (3, ABlk.mk true 35 (AC.cells [nI fr, AV.msl 4 0 0 mem.bs.length mem.c, nU s.r0, nU s.r1, nU s.r2, nU s.r3, nU s.r4, nU s.r5, nU s.r6, nU s.r7, nU s.pc, nU s.ps, nU s.c0, nU s.c1, nU s.c2, nU s.c3, nU s.c4, nU s.c5, nU s.c6, nU s.c7, AV.bool s.h, nI steps, AV.sl 5 0 0 nt.n nt.n false, AV.msl 6 0 0 out.bs.length out.c, AV.msl 7 0 0 disk.bs.length disk.c, AV.msl 8 0 0 queue.bs.length queue.c, AV.nils, nU 0, nU 0, nU 0, nU 0, nU 0, nU 0, nU 0, nU 0])), (4, bR mem.bs), (6, bR out.bs), (7, bR disk.bs), (8, bR queue.bs), (5, ABlk.mk true 4 (AC.recs nt.n nt.f))]), (true, LOut.mk (AX.exit 2) gnSlots 10 [(0, ABlk.mk true 2 (AC.cells (geAt_c_p2 bs o m c e fr mem s steps nt out disk queue n k
  l))), (1, bR bs), (2, ABlk.mk true 35 (AC.cells zeroSv)), (3, ABlk.mk true 35 (AC.cells [nI fr, AV.msl 4 0 0 mem.bs.length mem.c, nU s.r0, nU s.r1, nU s.r2, nU s.r3, nU s.r4, nU s.r5, nU s.r6, nU s.r7, nU s.pc, nU s.ps, nU s.c0, nU s.c1, nU s.c2, nU s.c3, nU s.c4, nU s.c5, nU s.c6, nU s.c7, AV.bool s.h, nI steps, AV.sl 5 0 0 nt.n nt.n false, AV.msl 6 0 0 out.bs.length out.c, AV.msl 7 0 0 disk.bs.length disk.c, AV.msl 8 0 0 queue.bs.length queue.c, AV.sl 9 0 0 (GeI.mk (RgX.mk bs o m c) e fr mem s steps nt out disk queue n k l true).r.l.length (GeI.mk (RgX.mk bs o m c) e fr mem s steps nt out disk queue n k l true).r.l.length false, nU 0, nU 0, nU 0, nU 0, nU 0, nU 0, nU 0, nU 0])), (4, bR mem.bs), (6, bR out.bs), (7, bR disk.bs), (8, bR queue.bs), (5, ABlk.mk true 4 (AC.recs nt.n nt.f)), (9, ABlk.mk true 3 (AC.recs (GeI.mk (RgX.mk bs o m c) e fr mem s steps nt out disk queue n k l
  true).r.l.length fun (i : Nat) => [nI ((GeI.mk (RgX.mk bs o m c) e fr mem s steps nt out disk queue n k l true).r.l.getD i instInhabitedE3.default).a, nI ((GeI.mk (RgX.mk bs o m c) e fr mem s steps nt out disk queue n k l true).r.l.getD i instInhabitedE3.default).k, nB ((GeI.mk (RgX.mk bs o m c) e fr mem s steps nt out disk queue n k l true).r.l.getD i instInhabitedE3.default).x]))])] ∧ (AV.ptr 0 0 0 = AV.ptr 0 0 0 ∧ AV.ptr 2 0 0 = AV.ptr 2 0 0 ∧ AV.ptr 3 0 0 = AV.ptr 3 0 0 ∧ nI (↑n : Int) = nI (↑j.n : Int) ∧ nI (IntKind.i64.wrap ((↑k : Int) + 1)) = nI (↑j.k : Int) ∧ True) ∧ rdB y_2.o y_2.m y_2.c y_2.e = rdB j.x.o j.x.m j.x.c j.e ∧ bR bs = bR j.x.bs ∧ ABlk.mk true 35 (AC.cells zeroSv) = ABlk.mk true 35 (AC.cells [nI 0, AV.nils, nU 0, nU 0, nU 0, nU 0, nU 0, nU 0, nU 0, nU 0, nU 0, nU 0, nU 0, nU 0, nU 0, nU 0, nU 0, nU 0, nU 0, nU 0, AV.bool false, nI 0, AV.nils, AV.nils, AV.nils,
  AV.nils, AV.nils, nU 0, nU 0, nU 0, nU 0, nU 0, nU 0, nU 0, nU 0]) ∧ ABlk.mk true 35 (AC.cells ([nI fr, AV.msl 4 0 0 mem.bs.length mem.c, nU s.r0, nU s.r1, nU s.r2, nU s.r3, nU s.r4, nU s.r5, nU s.r6, nU s.r7, nU s.pc, nU s.ps, nU s.c0, nU s.c1, nU s.c2, nU s.c3, nU s.c4, nU s.c5, nU s.c6, nU s.c7, AV.bool s.h, nI steps, AV.sl 5 0 0 nt.n nt.n false, AV.msl 6 0 0 out.bs.length out.c, AV.msl 7 0 0 disk.bs.length disk.c, AV.msl 8 0 0 queue.bs.length queue.c, AV.sl 9 0 0 l.length l.length false, nU 0, nU 0, nU 0, nU 0, nU 0, nU 0, nU 0, nU 0].set 26 (AV.sl 11 0 0 (l.length + 1) (l.length + 1) false))) = ABlk.mk true 35 (AC.cells [nI j.fr, AV.msl 4 0 0 j.mem.bs.length j.mem.c, nU j.s.r0, nU j.s.r1, nU j.s.r2, nU j.s.r3, nU j.s.r4, nU j.s.r5, nU j.s.r6, nU j.s.r7, nU j.s.pc, nU j.s.ps, nU j.s.c0, nU j.s.c1, nU j.s.c2, nU j.s.c3, nU j.s.c4, nU j.s.c5, nU j.s.c6, nU j.s.c7, AV.bool j.s.h, nI
  j.steps, AV.sl 5 0 0 j.nt.n j.nt.n false, AV.msl 6 0 0 j.out.bs.length j.out.c, AV.msl 7 0 0 j.disk.bs.length j.disk.c, AV.msl 8 0 0 j.queue.bs.length j.queue.c, AV.sl 11 0 0 j.l.length j.l.length false, nU 0, nU 0, nU 0, nU 0, nU 0, nU 0, nU 0, nU 0]) ∧ bR mem.bs = bR j.mem.bs ∧ bR out.bs = bR j.out.bs ∧ bR disk.bs = bR j.disk.bs ∧ bR queue.bs = bR j.queue.bs ∧ (true = true ∧ 4 = 4 ∧ nt.n = j.nt.n ∧ ∀ (i : Nat), i < nt.n → [nI (nt.at_ i), nI (nt.cause i), nU (nt.back i), nU (nt.addr i)] = [nI (j.nt.at_ i), nI (j.nt.cause i), nU (j.nt.back i), nU (j.nt.addr i)]) ∧ (true = true ∧ 3 = 3 ∧ l.length + (List.take 3 (List.drop 0 (geAt_c_p3 bs o m c e fr mem s steps nt out disk queue n k l y y_1 y_2))).length / 3 = j.l.length ∧ ∀ (i : Nat), i < l.length + (List.take 3 (List.drop 0 (geAt_c_p3 bs o m c e fr mem s steps nt out disk queue n k l y y_1 y_2))).length / 3 → (bif i.blt l.length then [nI
  (l.getD (0 + i) instInhabitedE3.default).a, nI (l.getD (0 + i) instInhabitedE3.default).k, nB (l.getD (0 + i) instInhabitedE3.default).x] else List.take 3 (List.drop ((i - l.length) * 3) (List.take 3 (List.drop 0 (geAt_c_p3 bs o m c e fr mem s steps nt out disk queue n k l y y_1 y_2))))) = [nI (j.l.getD i instInhabitedE3.default).a, nI (j.l.getD i instInhabitedE3.default).k, nB (j.l.getD i instInhabitedE3.default).x]) ∧ True) False) ∧ True) ∧ True) ∧ True) (geAt_c_p0 bs o m c e fr mem s steps nt out disk queue n k l)) (geAt_c_p0 bs o m c e fr mem s steps nt out disk queue n k l)
theorem geAt_c_e (bs : List Int) (o m c : Nat) (e fr : Int) (mem : Row) (s : St) (steps : Int) (nt : NRow) (out disk queue : Row) (n k : Nat) (l : List E3) : some (geAt_c_V bs o m c e fr mem s steps nt out disk queue n k l) = (some ((geLp Go.Proofs.Tryz.prog true).body sp Go.Proofs.Tryz.prog (orK ((rnumC F_mummerref30_Reader_number .u64 rnum).orc sp) (rwordC.orc sp)) (drP sp Go.Proofs.Tryz.prog (orK ((rnumC F_mummerref30_Reader_number .u64 rnum).orc sp) (rwordC.orc sp))) noLo 40 ⟨⟨bs, o, m, c⟩, e, fr, mem, s, steps, nt, out, disk, queue, n, k, l, true⟩)) := by kernel_rfl
abbrev geAf_c_p1 (bs : List Int) (o m c : Nat) (e fr : Int) (mem : Row) (s : St) (steps : Int) (nt : NRow) (out disk queue : Row) (n k : Nat) (l : List E3) (j : GeI) : List AV :=
  [AV.msl 1 (GeI.mk j.x j.e j.fr j.mem j.s j.steps j.nt j.out j.disk j.queue j.n j.k j.l true).r.o 0 (GeI.mk j.x j.e j.fr j.mem j.s j.steps j.nt j.out j.disk j.queue j.n j.k j.l true).r.m (GeI.mk j.x j.e j.fr j.mem j.s j.steps j.nt j.out j.disk j.queue j.n j.k j.l true).r.c, nI (GeI.mk j.x j.e j.fr j.mem j.s j.steps j.nt j.out j.disk j.queue j.n j.k j.l true).r.e]
abbrev geAf_c_p2 (bs : List Int) (o m c : Nat) (e fr : Int) (mem : Row) (s : St) (steps : Int) (nt : NRow) (out disk queue : Row) (n k : Nat) (l : List E3) : List AV :=
  [AV.msl 1 (GeI.mk (RgX.mk bs o m c) e fr mem s steps nt out disk queue n k l true).r.o 0 (GeI.mk (RgX.mk bs o m c) e fr mem s steps nt out disk queue n k l true).r.m (GeI.mk (RgX.mk bs o m c) e fr mem s steps nt out disk queue n k l true).r.c, nI (GeI.mk (RgX.mk bs o m c) e fr mem s steps nt out disk queue n k l true).r.e]
abbrev geAf_c_p0 (bs : List Int) (o m c : Nat) (e fr : Int) (mem : Row) (s : St) (steps : Int) (nt : NRow) (out disk queue : Row) (n k : Nat) (l : List E3) : Prop :=
  sp (GeI.mk (RgX.mk bs o m c) e fr mem s steps nt out disk queue n k l true).r.l.isEmpty ((AV.ptr 0 0 0 = AV.ptr 0 0 0 ∧ AV.ptr 2 0 0 = AV.ptr 2 0 0 ∧ AV.ptr 3 0 0 = AV.ptr 3 0 0 ∧ True) ∧ rdB o m c e = ABlk.mk true 2 (AC.cells (geAf_c_p2 bs o m c e fr mem s steps nt out disk queue n k l)) ∧ bR bs = bR bs ∧ ABlk.mk true 35 (AC.cells zeroSv) = ABlk.mk true 35 (AC.cells [nI 0, AV.nils, nU 0, nU 0, nU 0, nU 0, nU 0, nU 0, nU 0, nU 0, nU 0, nU 0, nU 0, nU 0, nU 0, nU 0, nU 0, nU 0, nU 0, nU 0, AV.bool false, nI 0, AV.nils, AV.nils, AV.nils, AV.nils, AV.nils, nU 0, nU 0, nU 0, nU 0, nU 0, nU 0, nU 0, nU 0]) ∧ ABlk.mk true 35 (AC.cells [nI fr, AV.msl 4 0 0 mem.bs.length mem.c, nU s.r0, nU s.r1, nU s.r2, nU s.r3, nU s.r4, nU s.r5, nU s.r6, nU s.r7, nU s.pc, nU s.ps, nU s.c0, nU s.c1, nU s.c2, nU s.c3, nU s.c4, nU s.c5, nU s.c6, nU s.c7, AV.bool s.h, nI steps, AV.nils, AV.msl 6 0 0 out.bs.length
  out.c, AV.msl 7 0 0 disk.bs.length disk.c, AV.msl 8 0 0 queue.bs.length queue.c, AV.sl 9 0 0 l.length l.length false, nU 0, nU 0, nU 0, nU 0, nU 0, nU 0, nU 0, nU 0]) = ABlk.mk true 35 (AC.cells [nI fr, AV.msl 4 0 0 mem.bs.length mem.c, nU s.r0, nU s.r1, nU s.r2, nU s.r3, nU s.r4, nU s.r5, nU s.r6, nU s.r7, nU s.pc, nU s.ps, nU s.c0, nU s.c1, nU s.c2, nU s.c3, nU s.c4, nU s.c5, nU s.c6, nU s.c7, AV.bool s.h, nI steps, AV.nils, AV.msl 6 0 0 out.bs.length out.c, AV.msl 7 0 0 disk.bs.length disk.c, AV.msl 8 0 0 queue.bs.length queue.c, AV.nils, nU 0, nU 0, nU 0, nU 0, nU 0, nU 0, nU 0, nU 0]) ∧ bR mem.bs = bR mem.bs ∧ bR out.bs = bR out.bs ∧ bR disk.bs = bR disk.bs ∧ bR queue.bs = bR queue.bs ∧ True) ((AV.ptr 0 0 0 = AV.ptr 0 0 0 ∧ AV.ptr 2 0 0 = AV.ptr 2 0 0 ∧ AV.ptr 3 0 0 = AV.ptr 3 0 0 ∧ True) ∧ rdB o m c e = ABlk.mk true 2 (AC.cells (geAf_c_p2 bs o m c e fr mem s steps nt out disk queue
  n k l)) ∧ bR bs = bR bs ∧ ABlk.mk true 35 (AC.cells zeroSv) = ABlk.mk true 35 (AC.cells [nI 0, AV.nils, nU 0, nU 0, nU 0, nU 0, nU 0, nU 0, nU 0, nU 0, nU 0, nU 0, nU 0, nU 0, nU 0, nU 0, nU 0, nU 0, nU 0, nU 0, AV.bool false, nI 0, AV.nils, AV.nils, AV.nils, AV.nils, AV.nils, nU 0, nU 0, nU 0, nU 0, nU 0, nU 0, nU 0, nU 0]) ∧ ABlk.mk true 35 (AC.cells [nI fr, AV.msl 4 0 0 mem.bs.length mem.c, nU s.r0, nU s.r1, nU s.r2, nU s.r3, nU s.r4, nU s.r5, nU s.r6, nU s.r7, nU s.pc, nU s.ps, nU s.c0, nU s.c1, nU s.c2, nU s.c3, nU s.c4, nU s.c5, nU s.c6, nU s.c7, AV.bool s.h, nI steps, AV.nils, AV.msl 6 0 0 out.bs.length out.c, AV.msl 7 0 0 disk.bs.length disk.c, AV.msl 8 0 0 queue.bs.length queue.c, AV.sl 9 0 0 l.length l.length false, nU 0, nU 0, nU 0, nU 0, nU 0, nU 0, nU 0, nU 0]) = ABlk.mk true 35 (AC.cells [nI fr, AV.msl 4 0 0 mem.bs.length mem.c, nU s.r0, nU s.r1, nU s.r2, nU s.r3, nU s.r4,
  nU s.r5, nU s.r6, nU s.r7, nU s.pc, nU s.ps, nU s.c0, nU s.c1, nU s.c2, nU s.c3, nU s.c4, nU s.c5, nU s.c6, nU s.c7, AV.bool s.h, nI steps, AV.nils, AV.msl 6 0 0 out.bs.length out.c, AV.msl 7 0 0 disk.bs.length disk.c, AV.msl 8 0 0 queue.bs.length queue.c, AV.sl 9 0 0 (GeI.mk (RgX.mk bs o m c) e fr mem s steps nt out disk queue n k l true).r.l.length (GeI.mk (RgX.mk bs o m c) e fr mem s steps nt out disk queue n k l true).r.l.length false, nU 0, nU 0, nU 0, nU 0, nU 0, nU 0, nU 0, nU 0]) ∧ bR mem.bs = bR mem.bs ∧ bR out.bs = bR out.bs ∧ bR disk.bs = bR disk.bs ∧ bR queue.bs = bR queue.bs ∧ (true = true ∧ 3 = 3 ∧ l.length = (GeI.mk (RgX.mk bs o m c) e fr mem s steps nt out disk queue n k l true).r.l.length ∧ ∀ (i : Nat), i < l.length → [nI (l.getD i instInhabitedE3.default).a, nI (l.getD i instInhabitedE3.default).k, nB (l.getD i instInhabitedE3.default).x] = [nI ((GeI.mk (RgX.mk bs o m c)
  e fr mem s steps nt out disk queue n k l true).r.l.getD i instInhabitedE3.default).a, nI ((GeI.mk (RgX.mk bs o m c) e fr mem s steps nt out disk queue n k l true).r.l.getD i instInhabitedE3.default).k, nB ((GeI.mk (RgX.mk bs o m c) e fr mem s steps nt out disk queue n k l true).r.l.getD i instInhabitedE3.default).x]) ∧ True)
abbrev geAf_c_p3 (bs : List Int) (o m c : Nat) (e fr : Int) (mem : Row) (s : St) (steps : Int) (nt : NRow) (out disk queue : Row) (n k : Nat) (l : List E3) (y : RdY) (y_1 : RdY) (y_2 : RdY) : List AV :=
  [nI (IntKind.i64.wrap y.n), nI (IntKind.i64.wrap y_1.n), nB (IntKind.u8.wrap y_2.n)]
def geAf_c_V (bs : List Int) (o m c : Nat) (e fr : Int) (mem : Row) (s : St) (steps : Int) (nt : NRow) (out disk queue : Row) (n k : Nat) (l : List E3) : Prop :=
  sp (decide ((↑k : Int) < (↑n : Int))) (sp (bif true then e == 0 else false) (((o + m ≤ bs.length ∧ bs.length ≤ 140737488355328 ∧ IsBytes bs ∧ m ≤ c) ∧ InR 0 1099511627776 1099511627776) ∧ [AV.ptr 0 0 0, nL 1099511627776] = [AV.ptr 0 0 0, nL 1099511627776] ∧ (some (rdB o m c e) = some (rdB o m c e) ∧ some (bR bs) = some (bR bs) ∧ True) ∧ (∀ (y : RdY), (rnum (RdX.mk (RgX.mk bs o m c) e 1099511627776).l 1099511627776 (RS.mk o e) = (y.n, RS.mk y.o y.e) ∧ y.o + y.m = o + m ∧ y.m ≤ y.c ∧ y.o + y.c = o + c) ∧ InR 0 y.n 1099511627776 → ((y.o + y.m ≤ bs.length ∧ bs.length ≤ 140737488355328 ∧ IsBytes bs ∧ y.m ≤ y.c) ∧ InR 0 1099511627776 1099511627776) ∧ [AV.ptr 0 0 0, nL 1099511627776] = [AV.ptr 0 0 0, nL 1099511627776] ∧ (some (rdB y.o y.m y.c y.e) = some (rdB y.o y.m y.c y.e) ∧ some (bR bs) = some (bR bs) ∧ True) ∧ (∀ (y_1 : RdY), (rnum (RdX.mk (RgX.mk bs y.o y.m y.c) y.e 1099511627776).l
  1099511627776 (RS.mk y.o y.e) = (y_1.n, RS.mk y_1.o y_1.e) ∧ y_1.o + y_1.m = y.o + y.m ∧ y_1.m ≤ y_1.c ∧ y_1.o + y_1.c = y.o + y.c) ∧ InR 0 y_1.n 1099511627776 → ((y_1.o + y_1.m ≤ bs.length ∧ bs.length ≤ 140737488355328 ∧ IsBytes bs ∧ y_1.m ≤ y_1.c) ∧ InR 0 255 1099511627776) ∧ [AV.ptr 0 0 0, nL 255] = [AV.ptr 0 0 0, nL 255] ∧ (some (rdB y_1.o y_1.m y_1.c y_1.e) = some (rdB y_1.o y_1.m y_1.c y_1.e) ∧ some (bR bs) = some (bR bs) ∧ True) ∧ (∀ (y_2 : RdY), (rnum (RdX.mk (RgX.mk bs y_1.o y_1.m y_1.c) y_1.e 255).l 255 (RS.mk y_1.o y_1.e) = (y_2.n, RS.mk y_2.o y_2.e) ∧ y_2.o + y_2.m = y_1.o + y_1.m ∧ y_2.m ≤ y_2.c ∧ y_2.o + y_2.c = y_1.o + y_1.c) ∧ InR 0 y_2.n 255 → sp (decide (0 + l.length ≤ l.length) && true && true && true && true && decide ((l.length + 1) * 24 ≤ 140737488355328) && decide (l.length + 1 ≤ 9223372036854775807)) (∃ (j : GeI), ((j.x.o + j.x.m ≤ j.x.bs.length ∧ j.x.bs.length ≤
  140737488355328 ∧ IsBytes j.x.bs ∧ j.x.m ≤ j.x.c) ∧ j.n ≤ 100000 ∧ j.k ≤ j.n ∧ j.l.length = j.k ∧ (true = true → 1 ≤ j.k) ∧ (true = false → j.k = 0)) ∧ j.n - j.k < n - k ∧ [((GeI.mk j.x j.e j.fr j.mem j.s j.steps j.nt j.out j.disk j.queue j.n j.k j.l true).r.l.isEmpty, LOut.mk (AX.exit 2) gnSlots 10 [(0, ABlk.mk true 2 (AC.cells (geAf_c_p1 bs o m c e fr mem s steps nt out disk queue n k l j))), (1, bR j.x.bs), (2, ABlk.mk true 35 (AC.cells zeroSv)), (3, ABlk.mk true 35 (AC.cells [nI j.fr, AV.msl 4 0 0 j.mem.bs.length j.mem.c, nU j.s.r0, nU j.s.r1, nU j.s.r2, nU j.s.r3, nU j.s.r4, nU j.s.r5, nU j.s.r6, nU j.s.r7, nU j.s.pc, nU j.s.ps, nU j.s.c0, nU j.s.c1, nU j.s.c2, nU j.s.c3, nU j.s.c4, nU j.s.c5, nU j.s.c6, nU j.s.c7, AV.bool j.s.h, nI j.steps, AV.nils, AV.msl 6 0 0 j.out.bs.length j.out.c, AV.msl 7 0 0 j.disk.bs.length j.disk.c, AV.msl 8 0 0 j.queue.bs.length j.queue.c, AV.nils, nU 0,
  nU 0, nU 0, nU 0, nU 0, nU 0, nU 0, nU 0])), (4, bR j.mem.bs), (6, bR j.out.bs), (7, bR j.disk.bs), (8, bR j.queue.bs)]), (true, LOut.mk (AX.exit 2) gnSlots 10 [(0, ABlk.mk true 2 (AC.cells (geAf_c_p1 bs o m c e fr mem s steps nt out disk queue n k l j))), (1, bR j.x.bs), (2, ABlk.mk true 35 (AC.cells zeroSv)), (3, ABlk.mk true 35 (AC.cells [nI j.fr, AV.msl 4 0 0 j.mem.bs.length j.mem.c, nU j.s.r0, nU j.s.r1, nU j.s.r2, nU j.s.r3, nU j.s.r4, nU j.s.r5, nU j.s.r6, nU j.s.r7, nU j.s.pc, nU j.s.ps, nU j.s.c0, nU j.s.c1, nU j.s.c2, nU j.s.c3, nU j.s.c4, nU j.s.c5, nU j.s.c6, nU j.s.c7, AV.bool j.s.h, nI j.steps, AV.nils, AV.msl 6 0 0 j.out.bs.length j.out.c, AV.msl 7 0 0 j.disk.bs.length j.disk.c, AV.msl 8 0 0 j.queue.bs.length j.queue.c, AV.sl 9 0 0 (GeI.mk j.x j.e j.fr j.mem j.s j.steps j.nt j.out j.disk j.queue j.n j.k j.l true).r.l.length (GeI.mk j.x j.e j.fr j.mem j.s j.steps j.nt j.out
  j.disk j.queue j.n j.k j.l true).r.l.length false, nU 0, nU 0, nU 0, nU 0, nU 0, nU 0, nU 0, nU 0])), (4, bR j.mem.bs), (6, bR j.out.bs), (7, bR j.disk.bs), (8, bR j.queue.bs), (9, ABlk.mk true 3 (AC.recs (GeI.mk j.x j.e j.fr j.mem j.s j.steps j.nt j.out j.disk j.queue j.n j.k j.l true).r.l.length fun (i : Nat) => [nI ((GeI.mk j.x j.e j.fr j.mem j.s j.steps j.nt j.out j.disk j.queue j.n j.k j.l true).r.l.getD i instInhabitedE3.default).a, nI ((GeI.mk j.x j.e j.fr j.mem j.s j.steps j.nt j.out j.disk j.queue j.n j.k j.l true).r.l.getD i instInhabitedE3.default).k, nB ((GeI.mk j.x j.e j.fr j.mem j.s j.steps j.nt j.out j.disk j.queue j.n j.k j.l true).r.l.getD i instInhabitedE3.default).x]))])] = [((GeI.mk (RgX.mk bs o m c) e fr mem s steps nt out disk queue n k l true).r.l.isEmpty, LOut.mk (AX.exit 2) gnSlots 10 [(0, ABlk.mk true 2 (AC.cells (geAf_c_p2 bs o m c e fr mem s steps nt out disk
  queue n k l))), (1, bR bs), (2, ABlk.mk true 35 (AC.cells zeroSv)), (3, ABlk.mk true 35 (AC.cells [nI fr, AV.msl 4 0 0 mem.bs.length mem.c, nU s.r0, nU s.r1, nU s.r2, nU s.r3, nU s.r4, nU s.r5, nU s.r6, nU s.r7, nU s.pc, nU s.ps, nU s.c0, nU s.c1, nU s.c2, nU s.c3, nU s.c4, nU s.c5, nU s.c6, nU s.c7, AV.bool s.h, nI steps, AV.nils, AV.msl 6 0 0 out.bs.length out.c, AV.msl 7 0 0 disk.bs.length disk.c, AV.msl 8 0 0 queue.bs.length queue.c, AV.nils, nU 0, nU 0, nU 0, nU 0, nU 0, nU 0, nU 0, nU 0])), (4, bR mem.bs), (6, bR out.bs), (7, bR disk.bs), (8, bR queue.bs)]), (true, LOut.mk (AX.exit 2) gnSlots 10 [(0, ABlk.mk true 2 (AC.cells (geAf_c_p2 bs o m c e fr mem s steps nt out disk queue n k l))), (1, bR bs), (2, ABlk.mk true 35 (AC.cells zeroSv)), (3, ABlk.mk true 35 (AC.cells [nI fr, AV.msl 4 0 0 mem.bs.length mem.c, nU s.r0, nU s.r1, nU s.r2, nU s.r3, nU s.r4, nU s.r5, nU s.r6, nU s.r7,
  nU s.pc, nU s.ps, nU s.c0, nU s.c1, nU s.c2, nU s.c3, nU s.c4, nU s.c5, nU s.c6, nU s.c7, AV.bool s.h, nI steps, AV.nils, AV.msl 6 0 0 out.bs.length out.c, AV.msl 7 0 0 disk.bs.length disk.c, AV.msl 8 0 0 queue.bs.length queue.c, AV.sl 9 0 0 (GeI.mk (RgX.mk bs o m c) e fr mem s steps nt out disk queue n k l true).r.l.length (GeI.mk (RgX.mk bs o m c) e fr mem s steps nt out disk queue n k l true).r.l.length false, nU 0, nU 0, nU 0, nU 0, nU 0, nU 0, nU 0, nU 0])), (4, bR mem.bs), (6, bR out.bs), (7, bR disk.bs), (8, bR queue.bs), (9, ABlk.mk true 3 (AC.recs (GeI.mk (RgX.mk bs o m c) e fr mem s steps nt out disk queue n k l true).r.l.length fun (i : Nat) => [nI ((GeI.mk (RgX.mk bs o m c) e fr mem s steps nt out disk queue n k l true).r.l.getD i instInhabitedE3.default).a, nI ((GeI.mk (RgX.mk bs o m c) e fr mem s steps nt out disk queue n k l true).r.l.getD i instInhabitedE3.default).k, nB
  ((GeI.mk (RgX.mk bs o m c) e fr mem s steps nt out disk queue n k l true).r.l.getD i instInhabitedE3.default).x]))])] ∧ (AV.ptr 0 0 0 = AV.ptr 0 0 0 ∧ AV.ptr 2 0 0 = AV.ptr 2 0 0 ∧ AV.ptr 3 0 0 = AV.ptr 3 0 0 ∧ nI (↑n : Int) = nI (↑j.n : Int) ∧ nI (IntKind.i64.wrap ((↑k : Int) + 1)) = nI (↑j.k : Int) ∧ True) ∧ rdB y_2.o y_2.m y_2.c y_2.e = rdB j.x.o j.x.m j.x.c j.e ∧ bR bs = bR j.x.bs ∧ ABlk.mk true 35 (AC.cells zeroSv) = ABlk.mk true 35 (AC.cells [nI 0, AV.nils, nU 0, nU 0, nU 0, nU 0, nU 0, nU 0, nU 0, nU 0, nU 0, nU 0, nU 0, nU 0, nU 0, nU 0, nU 0, nU 0, nU 0, nU 0, AV.bool false, nI 0, AV.nils, AV.nils, AV.nils, AV.nils, AV.nils, nU 0, nU 0, nU 0, nU 0, nU 0, nU 0, nU 0, nU 0]) ∧ ABlk.mk true 35 (AC.cells ([nI fr, AV.msl 4 0 0 mem.bs.length mem.c, nU s.r0, nU s.r1, nU s.r2, nU s.r3, nU s.r4, nU s.r5, nU s.r6, nU s.r7, nU s.pc, nU s.ps, nU s.c0, nU s.c1, nU s.c2, nU s.c3, nU s.c4, nU
  s.c5, nU s.c6, nU s.c7, AV.bool s.h, nI steps, AV.nils, AV.msl 6 0 0 out.bs.length out.c, AV.msl 7 0 0 disk.bs.length disk.c, AV.msl 8 0 0 queue.bs.length queue.c, AV.sl 9 0 0 l.length l.length false, nU 0, nU 0, nU 0, nU 0, nU 0, nU 0, nU 0, nU 0].set 26 (AV.sl 11 0 0 (l.length + 1) (l.length + 1) false))) = ABlk.mk true 35 (AC.cells [nI j.fr, AV.msl 4 0 0 j.mem.bs.length j.mem.c, nU j.s.r0, nU j.s.r1, nU j.s.r2, nU j.s.r3, nU j.s.r4, nU j.s.r5, nU j.s.r6, nU j.s.r7, nU j.s.pc, nU j.s.ps, nU j.s.c0, nU j.s.c1, nU j.s.c2, nU j.s.c3, nU j.s.c4, nU j.s.c5, nU j.s.c6, nU j.s.c7, AV.bool j.s.h, nI j.steps, AV.nils, AV.msl 6 0 0 j.out.bs.length j.out.c, AV.msl 7 0 0 j.disk.bs.length j.disk.c, AV.msl 8 0 0 j.queue.bs.length j.queue.c, AV.sl 11 0 0 j.l.length j.l.length false, nU 0, nU 0, nU 0, nU 0, nU 0, nU 0, nU 0, nU 0]) ∧ bR mem.bs = bR j.mem.bs ∧ bR out.bs = bR j.out.bs ∧ bR disk.bs = bR
  j.disk.bs ∧ bR queue.bs = bR j.queue.bs ∧ (true = true ∧ 3 = 3 ∧ l.length + (List.take 3 (List.drop 0 (geAf_c_p3 bs o m c e fr mem s steps nt out disk queue n k l y y_1 y_2))).length / 3 = j.l.length ∧ ∀ (i : Nat), i < l.length + (List.take 3 (List.drop 0 (geAf_c_p3 bs o m c e fr mem s steps nt out disk queue n k l y y_1 y_2))).length / 3 → (bif i.blt l.length then [nI (l.getD (0 + i) instInhabitedE3.default).a, nI (l.getD (0 + i) instInhabitedE3.default).k, nB (l.getD (0 + i) instInhabitedE3.default).x] else List.take 3 (List.drop ((i - l.length) * 3) (List.take 3 (List.drop 0 (geAf_c_p3 bs o m c e fr mem s steps nt out disk queue n k l y y_1 y_2))))) = [nI (j.l.getD i instInhabitedE3.default).a, nI (j.l.getD i instInhabitedE3.default).k, nB (j.l.getD i instInhabitedE3.default).x]) ∧ True) False) ∧ True) ∧ True) ∧ True) (geAf_c_p0 bs o m c e fr mem s steps nt out disk queue n k l))
  (geAf_c_p0 bs o m c e fr mem s steps nt out disk queue n k l)
theorem geAf_c_e (bs : List Int) (o m c : Nat) (e fr : Int) (mem : Row) (s : St) (steps : Int) (nt : NRow) (out disk queue : Row) (n k : Nat) (l : List E3) : some (geAf_c_V bs o m c e fr mem s steps nt out disk queue n k l) = (some ((geLp Go.Proofs.Tryz.prog false).body sp Go.Proofs.Tryz.prog (orK ((rnumC F_mummerref30_Reader_number .u64 rnum).orc sp) (rwordC.orc sp)) (drP sp Go.Proofs.Tryz.prog (orK ((rnumC F_mummerref30_Reader_number .u64 rnum).orc sp) (rwordC.orc sp))) noLo 40 ⟨⟨bs, o, m, c⟩, e, fr, mem, s, steps, nt, out, disk, queue, n, k, l, true⟩)) := by kernel_rfl
abbrev geBt_c_p1 (bs : List Int) (o m c : Nat) (e fr : Int) (mem : Row) (s : St) (steps : Int) (nt : NRow) (out disk queue : Row) (n : Nat) : List AV :=
  [nI fr, AV.msl 4 0 0 mem.bs.length mem.c, nU s.r0, nU s.r1, nU s.r2, nU s.r3, nU s.r4, nU s.r5, nU s.r6, nU s.r7, nU s.pc, nU s.ps, nU s.c0, nU s.c1, nU s.c2, nU s.c3, nU s.c4, nU s.c5, nU s.c6, nU s.c7, AV.bool s.h, nI steps, AV.sl 5 0 0 nt.n nt.n false, AV.msl 6 0 0 out.bs.length out.c, AV.msl 7 0 0 disk.bs.length disk.c, AV.msl 8 0 0 queue.bs.length queue.c, AV.nils, nU 0, nU 0, nU 0, nU 0, nU 0, nU 0, nU 0, nU 0]
abbrev geBt_c_p2 (bs : List Int) (o m c : Nat) (e fr : Int) (mem : Row) (s : St) (steps : Int) (nt : NRow) (out disk queue : Row) (n : Nat) (j : GeI) : List AV :=
  [AV.msl 1 (GeI.mk j.x j.e j.fr j.mem j.s j.steps j.nt j.out j.disk j.queue j.n j.k j.l true).r.o 0 (GeI.mk j.x j.e j.fr j.mem j.s j.steps j.nt j.out j.disk j.queue j.n j.k j.l true).r.m (GeI.mk j.x j.e j.fr j.mem j.s j.steps j.nt j.out j.disk j.queue j.n j.k j.l true).r.c, nI (GeI.mk j.x j.e j.fr j.mem j.s j.steps j.nt j.out j.disk j.queue j.n j.k j.l true).r.e]
abbrev geBt_c_p3 (bs : List Int) (o m c : Nat) (e fr : Int) (mem : Row) (s : St) (steps : Int) (nt : NRow) (out disk queue : Row) (n : Nat) : List AV :=
  [AV.msl 1 (GeI.mk (RgX.mk bs o m c) e fr mem s steps nt out disk queue n 0 [] false).r.o 0 (GeI.mk (RgX.mk bs o m c) e fr mem s steps nt out disk queue n 0 [] false).r.m (GeI.mk (RgX.mk bs o m c) e fr mem s steps nt out disk queue n 0 [] false).r.c, nI (GeI.mk (RgX.mk bs o m c) e fr mem s steps nt out disk queue n 0 [] false).r.e]
abbrev geBt_c_p0 (bs : List Int) (o m c : Nat) (e fr : Int) (mem : Row) (s : St) (steps : Int) (nt : NRow) (out disk queue : Row) (n : Nat) : Prop :=
  sp (GeI.mk (RgX.mk bs o m c) e fr mem s steps nt out disk queue n 0 [] false).r.l.isEmpty ((AV.ptr 0 0 0 = AV.ptr 0 0 0 ∧ AV.ptr 2 0 0 = AV.ptr 2 0 0 ∧ AV.ptr 3 0 0 = AV.ptr 3 0 0 ∧ True) ∧ rdB o m c e = ABlk.mk true 2 (AC.cells (geBt_c_p3 bs o m c e fr mem s steps nt out disk queue n)) ∧ bR bs = bR bs ∧ ABlk.mk true 35 (AC.cells zeroSv) = ABlk.mk true 35 (AC.cells [nI 0, AV.nils, nU 0, nU 0, nU 0, nU 0, nU 0, nU 0, nU 0, nU 0, nU 0, nU 0, nU 0, nU 0, nU 0, nU 0, nU 0, nU 0, nU 0, nU 0, AV.bool false, nI 0, AV.nils, AV.nils, AV.nils, AV.nils, AV.nils, nU 0, nU 0, nU 0, nU 0, nU 0, nU 0, nU 0, nU 0]) ∧ ABlk.mk true 35 (AC.cells (geBt_c_p1 bs o m c e fr mem s steps nt out disk queue n)) = ABlk.mk true 35 (AC.cells (geBt_c_p1 bs o m c e fr mem s steps nt out disk queue n)) ∧ bR mem.bs = bR mem.bs ∧ bR out.bs = bR out.bs ∧ bR disk.bs = bR disk.bs ∧ bR queue.bs = bR queue.bs ∧ (true = true ∧ 4
  = 4 ∧ nt.n = nt.n ∧ ∀ (i : Nat), i < nt.n → [nI (nt.at_ i), nI (nt.cause i), nU (nt.back i), nU (nt.addr i)] = [nI (nt.at_ i), nI (nt.cause i), nU (nt.back i), nU (nt.addr i)]) ∧ True) ((AV.ptr 0 0 0 = AV.ptr 0 0 0 ∧ AV.ptr 2 0 0 = AV.ptr 2 0 0 ∧ AV.ptr 3 0 0 = AV.ptr 3 0 0 ∧ True) ∧ rdB o m c e = ABlk.mk true 2 (AC.cells (geBt_c_p3 bs o m c e fr mem s steps nt out disk queue n)) ∧ bR bs = bR bs ∧ ABlk.mk true 35 (AC.cells zeroSv) = ABlk.mk true 35 (AC.cells [nI 0, AV.nils, nU 0, nU 0, nU 0, nU 0, nU 0, nU 0, nU 0, nU 0, nU 0, nU 0, nU 0, nU 0, nU 0, nU 0, nU 0, nU 0, nU 0, nU 0, AV.bool false, nI 0, AV.nils, AV.nils, AV.nils, AV.nils, AV.nils, nU 0, nU 0, nU 0, nU 0, nU 0, nU 0, nU 0, nU 0]) ∧ ABlk.mk true 35 (AC.cells (geBt_c_p1 bs o m c e fr mem s steps nt out disk queue n)) = ABlk.mk true 35 (AC.cells [nI fr, AV.msl 4 0 0 mem.bs.length mem.c, nU s.r0, nU s.r1, nU s.r2, nU s.r3, nU
  s.r4, nU s.r5, nU s.r6, nU s.r7, nU s.pc, nU s.ps, nU s.c0, nU s.c1, nU s.c2, nU s.c3, nU s.c4, nU s.c5, nU s.c6, nU s.c7, AV.bool s.h, nI steps, AV.sl 5 0 0 nt.n nt.n false, AV.msl 6 0 0 out.bs.length out.c, AV.msl 7 0 0 disk.bs.length disk.c, AV.msl 8 0 0 queue.bs.length queue.c, AV.sl 10 0 0 (GeI.mk (RgX.mk bs o m c) e fr mem s steps nt out disk queue n 0 [] false).r.l.length (GeI.mk (RgX.mk bs o m c) e fr mem s steps nt out disk queue n 0 [] false).r.l.length false, nU 0, nU 0, nU 0, nU 0, nU 0, nU 0, nU 0, nU 0]) ∧ bR mem.bs = bR mem.bs ∧ bR out.bs = bR out.bs ∧ bR disk.bs = bR disk.bs ∧ bR queue.bs = bR queue.bs ∧ (true = true ∧ 4 = 4 ∧ nt.n = nt.n ∧ ∀ (i : Nat), i < nt.n → [nI (nt.at_ i), nI (nt.cause i), nU (nt.back i), nU (nt.addr i)] = [nI (nt.at_ i), nI (nt.cause i), nU (nt.back i), nU (nt.addr i)]) ∧ False ∧ True)
abbrev geBt_c_p4 (bs : List Int) (o m c : Nat) (e fr : Int) (mem : Row) (s : St) (steps : Int) (nt : NRow) (out disk queue : Row) (n : Nat) (y : RdY) (y_1 : RdY) (y_2 : RdY) : List AV :=
  [nI (IntKind.i64.wrap y.n), nI (IntKind.i64.wrap y_1.n), nB (IntKind.u8.wrap y_2.n)]
def geBt_c_V (bs : List Int) (o m c : Nat) (e fr : Int) (mem : Row) (s : St) (steps : Int) (nt : NRow) (out disk queue : Row) (n : Nat) : Prop :=
  sp (decide (0 < (↑n : Int))) (sp (bif true then e == 0 else false) (((o + m ≤ bs.length ∧ bs.length ≤ 140737488355328 ∧ IsBytes bs ∧ m ≤ c) ∧ InR 0 1099511627776 1099511627776) ∧ [AV.ptr 0 0 0, nL 1099511627776] = [AV.ptr 0 0 0, nL 1099511627776] ∧ (some (rdB o m c e) = some (rdB o m c e) ∧ some (bR bs) = some (bR bs) ∧ True) ∧ (∀ (y : RdY), (rnum (RdX.mk (RgX.mk bs o m c) e 1099511627776).l 1099511627776 (RS.mk o e) = (y.n, RS.mk y.o y.e) ∧ y.o + y.m = o + m ∧ y.m ≤ y.c ∧ y.o + y.c = o + c) ∧ InR 0 y.n 1099511627776 → ((y.o + y.m ≤ bs.length ∧ bs.length ≤ 140737488355328 ∧ IsBytes bs ∧ y.m ≤ y.c) ∧ InR 0 1099511627776 1099511627776) ∧ [AV.ptr 0 0 0, nL 1099511627776] = [AV.ptr 0 0 0, nL 1099511627776] ∧ (some (rdB y.o y.m y.c y.e) = some (rdB y.o y.m y.c y.e) ∧ some (bR bs) = some (bR bs) ∧ True) ∧ (∀ (y_1 : RdY), (rnum (RdX.mk (RgX.mk bs y.o y.m y.c) y.e 1099511627776).l 1099511627776
  (RS.mk y.o y.e) = (y_1.n, RS.mk y_1.o y_1.e) ∧ y_1.o + y_1.m = y.o + y.m ∧ y_1.m ≤ y_1.c ∧ y_1.o + y_1.c = y.o + y.c) ∧ InR 0 y_1.n 1099511627776 → ((y_1.o + y_1.m ≤ bs.length ∧ bs.length ≤ 140737488355328 ∧ IsBytes bs ∧ y_1.m ≤ y_1.c) ∧ InR 0 255 1099511627776) ∧ [AV.ptr 0 0 0, nL 255] = [AV.ptr 0 0 0, nL 255] ∧ (some (rdB y_1.o y_1.m y_1.c y_1.e) = some (rdB y_1.o y_1.m y_1.c y_1.e) ∧ some (bR bs) = some (bR bs) ∧ True) ∧ (∀ (y_2 : RdY), (rnum (RdX.mk (RgX.mk bs y_1.o y_1.m y_1.c) y_1.e 255).l 255 (RS.mk y_1.o y_1.e) = (y_2.n, RS.mk y_2.o y_2.e) ∧ y_2.o + y_2.m = y_1.o + y_1.m ∧ y_2.m ≤ y_2.c ∧ y_2.o + y_2.c = y_1.o + y_1.c) ∧ InR 0 y_2.n 255 → ∃ (j : GeI), ((j.x.o + j.x.m ≤ j.x.bs.length ∧ j.x.bs.length ≤ 140737488355328 ∧ IsBytes j.x.bs ∧ j.x.m ≤ j.x.c) ∧ j.n ≤ 100000 ∧ j.k ≤ j.n ∧ j.l.length = j.k ∧ (true = true → 1 ≤ j.k) ∧ (true = false → j.k = 0)) ∧ j.n - j.k < n - 0 ∧ [((GeI.mk
  j.x j.e j.fr j.mem j.s j.steps j.nt j.out j.disk j.queue j.n j.k j.l true).r.l.isEmpty, LOut.mk (AX.exit 2) gnSlots 10 [(0, ABlk.mk true 2 (AC.cells (geBt_c_p2 bs o m c e fr mem s steps nt out disk queue n j))), (1, bR j.x.bs), (2, ABlk.mk true 35 (AC.cells zeroSv)), (3, ABlk.mk true 35 (AC.cells [nI j.fr, AV.msl 4 0 0 j.mem.bs.length j.mem.c, nU j.s.r0, nU j.s.r1, nU j.s.r2, nU j.s.r3, nU j.s.r4, nU j.s.r5, nU j.s.r6, nU j.s.r7, nU j.s.pc, nU j.s.ps, nU j.s.c0, nU j.s.c1, nU j.s.c2, nU j.s.c3, nU j.s.c4, nU j.s.c5, nU j.s.c6, nU j.s.c7, AV.bool j.s.h, nI j.steps, AV.sl 5 0 0 j.nt.n j.nt.n false, AV.msl 6 0 0 j.out.bs.length j.out.c, AV.msl 7 0 0 j.disk.bs.length j.disk.c, AV.msl 8 0 0 j.queue.bs.length j.queue.c, AV.nils, nU 0, nU 0, nU 0, nU 0, nU 0, nU 0, nU 0, nU 0])), (4, bR j.mem.bs), (6, bR j.out.bs), (7, bR j.disk.bs), (8, bR j.queue.bs), (5, ABlk.mk true 4 (AC.recs j.nt.n
  j.nt.f))]), (true, LOut.mk (AX.exit 2) gnSlots 10 [(0, ABlk.mk true 2 (AC.cells (geBt_c_p2 bs o m c e fr mem s steps nt out disk queue n j))), (1, bR j.x.bs), (2, ABlk.mk true 35 (AC.cells zeroSv)), (3, ABlk.mk true 35 (AC.cells [nI j.fr, AV.msl 4 0 0 j.mem.bs.length j.mem.c, nU j.s.r0, nU j.s.r1, nU j.s.r2, nU j.s.r3, nU j.s.r4, nU j.s.r5, nU j.s.r6, nU j.s.r7, nU j.s.pc, nU j.s.ps, nU j.s.c0, nU j.s.c1, nU j.s.c2, nU j.s.c3, nU j.s.c4, nU j.s.c5, nU j.s.c6, nU j.s.c7, AV.bool j.s.h, nI j.steps, AV.sl 5 0 0 j.nt.n j.nt.n false, AV.msl 6 0 0 j.out.bs.length j.out.c, AV.msl 7 0 0 j.disk.bs.length j.disk.c, AV.msl 8 0 0 j.queue.bs.length j.queue.c, AV.sl 9 0 0 (GeI.mk j.x j.e j.fr j.mem j.s j.steps j.nt j.out j.disk j.queue j.n j.k j.l true).r.l.length (GeI.mk j.x j.e j.fr j.mem j.s j.steps j.nt j.out j.disk j.queue j.n j.k j.l true).r.l.length false, nU 0, nU 0, nU 0, nU 0, nU 0, nU 0, nU
  0, nU 0])), (4, bR j.mem.bs), (6, bR j.out.bs), (7, bR j.disk.bs), (8, bR j.queue.bs), (5, ABlk.mk true 4 (AC.recs j.nt.n j.nt.f)), (9, ABlk.mk true 3 (AC.recs (GeI.mk j.x j.e j.fr j.mem j.s j.steps j.nt j.out j.disk j.queue j.n j.k j.l true).r.l.length fun (i : Nat) => [nI ((GeI.mk j.x j.e j.fr j.mem j.s j.steps j.nt j.out j.disk j.queue j.n j.k j.l true).r.l.getD i instInhabitedE3.default).a, nI ((GeI.mk j.x j.e j.fr j.mem j.s j.steps j.nt j.out j.disk j.queue j.n j.k j.l true).r.l.getD i instInhabitedE3.default).k, nB ((GeI.mk j.x j.e j.fr j.mem j.s j.steps j.nt j.out j.disk j.queue j.n j.k j.l true).r.l.getD i instInhabitedE3.default).x]))])] = [((GeI.mk (RgX.mk bs o m c) e fr mem s steps nt out disk queue n 0 [] false).r.l.isEmpty, LOut.mk (AX.exit 2) gnSlots 10 [(0, ABlk.mk true 2 (AC.cells (geBt_c_p3 bs o m c e fr mem s steps nt out disk queue n))), (1, bR bs), (2, ABlk.mk true 35
  (AC.cells zeroSv)), (3, ABlk.mk true 35 (AC.cells (geBt_c_p1 bs o m c e fr mem s steps nt out disk queue n))), (4, bR mem.bs), (6, bR out.bs), (7, bR disk.bs), (8, bR queue.bs), (5, ABlk.mk true 4 (AC.recs nt.n nt.f))]), (true, LOut.mk (AX.exit 2) gnSlots 10 [(0, ABlk.mk true 2 (AC.cells (geBt_c_p3 bs o m c e fr mem s steps nt out disk queue n))), (1, bR bs), (2, ABlk.mk true 35 (AC.cells zeroSv)), (3, ABlk.mk true 35 (AC.cells [nI fr, AV.msl 4 0 0 mem.bs.length mem.c, nU s.r0, nU s.r1, nU s.r2, nU s.r3, nU s.r4, nU s.r5, nU s.r6, nU s.r7, nU s.pc, nU s.ps, nU s.c0, nU s.c1, nU s.c2, nU s.c3, nU s.c4, nU s.c5, nU s.c6, nU s.c7, AV.bool s.h, nI steps, AV.sl 5 0 0 nt.n nt.n false, AV.msl 6 0 0 out.bs.length out.c, AV.msl 7 0 0 disk.bs.length disk.c, AV.msl 8 0 0 queue.bs.length queue.c, AV.sl 9 0 0 (GeI.mk (RgX.mk bs o m c) e fr mem s steps nt out disk queue n 0 [] false).r.l.length (GeI.mk
  (RgX.mk bs o m c) e fr mem s steps nt out disk queue n 0 [] false).r.l.length false, nU 0, nU 0, nU 0, nU 0, nU 0, nU 0, nU 0, nU 0])), (4, bR mem.bs), (6, bR out.bs), (7, bR disk.bs), (8, bR queue.bs), (5, ABlk.mk true 4 (AC.recs nt.n nt.f)), (9, ABlk.mk true 3 (AC.recs (GeI.mk (RgX.mk bs o m c) e fr mem s steps nt out disk queue n 0 [] false).r.l.length fun (i : Nat) => [nI ((GeI.mk (RgX.mk bs o m c) e fr mem s steps nt out disk queue n 0 [] false).r.l.getD i instInhabitedE3.default).a, nI ((GeI.mk (RgX.mk bs o m c) e fr mem s steps nt out disk queue n 0 [] false).r.l.getD i instInhabitedE3.default).k, nB ((GeI.mk (RgX.mk bs o m c) e fr mem s steps nt out disk queue n 0 [] false).r.l.getD i instInhabitedE3.default).x]))])] ∧ (AV.ptr 0 0 0 = AV.ptr 0 0 0 ∧ AV.ptr 2 0 0 = AV.ptr 2 0 0 ∧ AV.ptr 3 0 0 = AV.ptr 3 0 0 ∧ nI (↑n : Int) = nI (↑j.n : Int) ∧ nI 1 = nI (↑j.k : Int) ∧ True) ∧ rdB
  y_2.o y_2.m y_2.c y_2.e = rdB j.x.o j.x.m j.x.c j.e ∧ bR bs = bR j.x.bs ∧ ABlk.mk true 35 (AC.cells zeroSv) = ABlk.mk true 35 (AC.cells [nI 0, AV.nils, nU 0, nU 0, nU 0, nU 0, nU 0, nU 0, nU 0, nU 0, nU 0, nU 0, nU 0, nU 0, nU 0, nU 0, nU 0, nU 0, nU 0, nU 0, AV.bool false, nI 0, AV.nils, AV.nils, AV.nils, AV.nils, AV.nils, nU 0, nU 0, nU 0, nU 0, nU 0, nU 0, nU 0, nU 0]) ∧ ABlk.mk true 35 (AC.cells ((geBt_c_p1 bs o m c e fr mem s steps nt out disk queue n).set 26 (AV.sl 11 0 0 1 1 false))) = ABlk.mk true 35 (AC.cells [nI j.fr, AV.msl 4 0 0 j.mem.bs.length j.mem.c, nU j.s.r0, nU j.s.r1, nU j.s.r2, nU j.s.r3, nU j.s.r4, nU j.s.r5, nU j.s.r6, nU j.s.r7, nU j.s.pc, nU j.s.ps, nU j.s.c0, nU j.s.c1, nU j.s.c2, nU j.s.c3, nU j.s.c4, nU j.s.c5, nU j.s.c6, nU j.s.c7, AV.bool j.s.h, nI j.steps, AV.sl 5 0 0 j.nt.n j.nt.n false, AV.msl 6 0 0 j.out.bs.length j.out.c, AV.msl 7 0 0 j.disk.bs.length
  j.disk.c, AV.msl 8 0 0 j.queue.bs.length j.queue.c, AV.sl 11 0 0 j.l.length j.l.length false, nU 0, nU 0, nU 0, nU 0, nU 0, nU 0, nU 0, nU 0]) ∧ bR mem.bs = bR j.mem.bs ∧ bR out.bs = bR j.out.bs ∧ bR disk.bs = bR j.disk.bs ∧ bR queue.bs = bR j.queue.bs ∧ (true = true ∧ 4 = 4 ∧ nt.n = j.nt.n ∧ ∀ (i : Nat), i < nt.n → [nI (nt.at_ i), nI (nt.cause i), nU (nt.back i), nU (nt.addr i)] = [nI (j.nt.at_ i), nI (j.nt.cause i), nU (j.nt.back i), nU (j.nt.addr i)]) ∧ (true = true ∧ 3 = 3 ∧ (List.take 3 (List.drop 0 (geBt_c_p4 bs o m c e fr mem s steps nt out disk queue n y y_1 y_2))).length = j.l.length * 3 ∧ ∀ (i : Nat), i < j.l.length → ∀ (j_1 : Nat), j_1 < 3 → (List.take 3 (List.drop 0 (geBt_c_p4 bs o m c e fr mem s steps nt out disk queue n y y_1 y_2))).getD (i * 3 + j_1) AV.any = [nI (j.l.getD i instInhabitedE3.default).a, nI (j.l.getD i instInhabitedE3.default).k, nB (j.l.getD i
  instInhabitedE3.default).x].getD j_1 AV.any) ∧ True) ∧ True) ∧ True) ∧ True) (geBt_c_p0 bs o m c e fr mem s steps nt out disk queue n)) (geBt_c_p0 bs o m c e fr mem s steps nt out disk queue n)
theorem geBt_c_e (bs : List Int) (o m c : Nat) (e fr : Int) (mem : Row) (s : St) (steps : Int) (nt : NRow) (out disk queue : Row) (n : Nat) : some (geBt_c_V bs o m c e fr mem s steps nt out disk queue n) = (some ((geLp Go.Proofs.Tryz.prog true).body sp Go.Proofs.Tryz.prog (orK ((rnumC F_mummerref30_Reader_number .u64 rnum).orc sp) (rwordC.orc sp)) (drP sp Go.Proofs.Tryz.prog (orK ((rnumC F_mummerref30_Reader_number .u64 rnum).orc sp) (rwordC.orc sp))) noLo 40 ⟨⟨bs, o, m, c⟩, e, fr, mem, s, steps, nt, out, disk, queue, n, 0, [], false⟩)) := by kernel_rfl
abbrev geBf_c_p1 (bs : List Int) (o m c : Nat) (e fr : Int) (mem : Row) (s : St) (steps : Int) (nt : NRow) (out disk queue : Row) (n : Nat) : List AV :=
  [nI fr, AV.msl 4 0 0 mem.bs.length mem.c, nU s.r0, nU s.r1, nU s.r2, nU s.r3, nU s.r4, nU s.r5, nU s.r6, nU s.r7, nU s.pc, nU s.ps, nU s.c0, nU s.c1, nU s.c2, nU s.c3, nU s.c4, nU s.c5, nU s.c6, nU s.c7, AV.bool s.h, nI steps, AV.nils, AV.msl 6 0 0 out.bs.length out.c, AV.msl 7 0 0 disk.bs.length disk.c, AV.msl 8 0 0 queue.bs.length queue.c, AV.nils, nU 0, nU 0, nU 0, nU 0, nU 0, nU 0, nU 0, nU 0]
abbrev geBf_c_p2 (bs : List Int) (o m c : Nat) (e fr : Int) (mem : Row) (s : St) (steps : Int) (nt : NRow) (out disk queue : Row) (n : Nat) (j : GeI) : List AV :=
  [AV.msl 1 (GeI.mk j.x j.e j.fr j.mem j.s j.steps j.nt j.out j.disk j.queue j.n j.k j.l true).r.o 0 (GeI.mk j.x j.e j.fr j.mem j.s j.steps j.nt j.out j.disk j.queue j.n j.k j.l true).r.m (GeI.mk j.x j.e j.fr j.mem j.s j.steps j.nt j.out j.disk j.queue j.n j.k j.l true).r.c, nI (GeI.mk j.x j.e j.fr j.mem j.s j.steps j.nt j.out j.disk j.queue j.n j.k j.l true).r.e]
abbrev geBf_c_p3 (bs : List Int) (o m c : Nat) (e fr : Int) (mem : Row) (s : St) (steps : Int) (nt : NRow) (out disk queue : Row) (n : Nat) : List AV :=
  [AV.msl 1 (GeI.mk (RgX.mk bs o m c) e fr mem s steps nt out disk queue n 0 [] false).r.o 0 (GeI.mk (RgX.mk bs o m c) e fr mem s steps nt out disk queue n 0 [] false).r.m (GeI.mk (RgX.mk bs o m c) e fr mem s steps nt out disk queue n 0 [] false).r.c, nI (GeI.mk (RgX.mk bs o m c) e fr mem s steps nt out disk queue n 0 [] false).r.e]
abbrev geBf_c_p0 (bs : List Int) (o m c : Nat) (e fr : Int) (mem : Row) (s : St) (steps : Int) (nt : NRow) (out disk queue : Row) (n : Nat) : Prop :=
  sp (GeI.mk (RgX.mk bs o m c) e fr mem s steps nt out disk queue n 0 [] false).r.l.isEmpty ((AV.ptr 0 0 0 = AV.ptr 0 0 0 ∧ AV.ptr 2 0 0 = AV.ptr 2 0 0 ∧ AV.ptr 3 0 0 = AV.ptr 3 0 0 ∧ True) ∧ rdB o m c e = ABlk.mk true 2 (AC.cells (geBf_c_p3 bs o m c e fr mem s steps nt out disk queue n)) ∧ bR bs = bR bs ∧ ABlk.mk true 35 (AC.cells zeroSv) = ABlk.mk true 35 (AC.cells [nI 0, AV.nils, nU 0, nU 0, nU 0, nU 0, nU 0, nU 0, nU 0, nU 0, nU 0, nU 0, nU 0, nU 0, nU 0, nU 0, nU 0, nU 0, nU 0, nU 0, AV.bool false, nI 0, AV.nils, AV.nils, AV.nils, AV.nils, AV.nils, nU 0, nU 0, nU 0, nU 0, nU 0, nU 0, nU 0, nU 0]) ∧ ABlk.mk true 35 (AC.cells (geBf_c_p1 bs o m c e fr mem s steps nt out disk queue n)) = ABlk.mk true 35 (AC.cells (geBf_c_p1 bs o m c e fr mem s steps nt out disk queue n)) ∧ bR mem.bs = bR mem.bs ∧ bR out.bs = bR out.bs ∧ bR disk.bs = bR disk.bs ∧ bR queue.bs = bR queue.bs ∧ True) ((AV.ptr 0
  0 0 = AV.ptr 0 0 0 ∧ AV.ptr 2 0 0 = AV.ptr 2 0 0 ∧ AV.ptr 3 0 0 = AV.ptr 3 0 0 ∧ True) ∧ rdB o m c e = ABlk.mk true 2 (AC.cells (geBf_c_p3 bs o m c e fr mem s steps nt out disk queue n)) ∧ bR bs = bR bs ∧ ABlk.mk true 35 (AC.cells zeroSv) = ABlk.mk true 35 (AC.cells [nI 0, AV.nils, nU 0, nU 0, nU 0, nU 0, nU 0, nU 0, nU 0, nU 0, nU 0, nU 0, nU 0, nU 0, nU 0, nU 0, nU 0, nU 0, nU 0, nU 0, AV.bool false, nI 0, AV.nils, AV.nils, AV.nils, AV.nils, AV.nils, nU 0, nU 0, nU 0, nU 0, nU 0, nU 0, nU 0, nU 0]) ∧ ABlk.mk true 35 (AC.cells (geBf_c_p1 bs o m c e fr mem s steps nt out disk queue n)) = ABlk.mk true 35 (AC.cells [nI fr, AV.msl 4 0 0 mem.bs.length mem.c, nU s.r0, nU s.r1, nU s.r2, nU s.r3, nU s.r4, nU s.r5, nU s.r6, nU s.r7, nU s.pc, nU s.ps, nU s.c0, nU s.c1, nU s.c2, nU s.c3, nU s.c4, nU s.c5, nU s.c6, nU s.c7, AV.bool s.h, nI steps, AV.nils, AV.msl 6 0 0 out.bs.length out.c, AV.msl 7 0
  0 disk.bs.length disk.c, AV.msl 8 0 0 queue.bs.length queue.c, AV.sl 10 0 0 (GeI.mk (RgX.mk bs o m c) e fr mem s steps nt out disk queue n 0 [] false).r.l.length (GeI.mk (RgX.mk bs o m c) e fr mem s steps nt out disk queue n 0 [] false).r.l.length false, nU 0, nU 0, nU 0, nU 0, nU 0, nU 0, nU 0, nU 0]) ∧ bR mem.bs = bR mem.bs ∧ bR out.bs = bR out.bs ∧ bR disk.bs = bR disk.bs ∧ bR queue.bs = bR queue.bs ∧ False ∧ True)
abbrev geBf_c_p4 (bs : List Int) (o m c : Nat) (e fr : Int) (mem : Row) (s : St) (steps : Int) (nt : NRow) (out disk queue : Row) (n : Nat) (y : RdY) (y_1 : RdY) (y_2 : RdY) : List AV :=
  [nI (IntKind.i64.wrap y.n), nI (IntKind.i64.wrap y_1.n), nB (IntKind.u8.wrap y_2.n)]
def geBf_c_V (bs : List Int) (o m c : Nat) (e fr : Int) (mem : Row) (s : St) (steps : Int) (nt : NRow) (out disk queue : Row) (n : Nat) : Prop :=
  sp (decide (0 < (↑n : Int))) (sp (bif true then e == 0 else false) (((o + m ≤ bs.length ∧ bs.length ≤ 140737488355328 ∧ IsBytes bs ∧ m ≤ c) ∧ InR 0 1099511627776 1099511627776) ∧ [AV.ptr 0 0 0, nL 1099511627776] = [AV.ptr 0 0 0, nL 1099511627776] ∧ (some (rdB o m c e) = some (rdB o m c e) ∧ some (bR bs) = some (bR bs) ∧ True) ∧ (∀ (y : RdY), (rnum (RdX.mk (RgX.mk bs o m c) e 1099511627776).l 1099511627776 (RS.mk o e) = (y.n, RS.mk y.o y.e) ∧ y.o + y.m = o + m ∧ y.m ≤ y.c ∧ y.o + y.c = o + c) ∧ InR 0 y.n 1099511627776 → ((y.o + y.m ≤ bs.length ∧ bs.length ≤ 140737488355328 ∧ IsBytes bs ∧ y.m ≤ y.c) ∧ InR 0 1099511627776 1099511627776) ∧ [AV.ptr 0 0 0, nL 1099511627776] = [AV.ptr 0 0 0, nL 1099511627776] ∧ (some (rdB y.o y.m y.c y.e) = some (rdB y.o y.m y.c y.e) ∧ some (bR bs) = some (bR bs) ∧ True) ∧ (∀ (y_1 : RdY), (rnum (RdX.mk (RgX.mk bs y.o y.m y.c) y.e 1099511627776).l 1099511627776
  (RS.mk y.o y.e) = (y_1.n, RS.mk y_1.o y_1.e) ∧ y_1.o + y_1.m = y.o + y.m ∧ y_1.m ≤ y_1.c ∧ y_1.o + y_1.c = y.o + y.c) ∧ InR 0 y_1.n 1099511627776 → ((y_1.o + y_1.m ≤ bs.length ∧ bs.length ≤ 140737488355328 ∧ IsBytes bs ∧ y_1.m ≤ y_1.c) ∧ InR 0 255 1099511627776) ∧ [AV.ptr 0 0 0, nL 255] = [AV.ptr 0 0 0, nL 255] ∧ (some (rdB y_1.o y_1.m y_1.c y_1.e) = some (rdB y_1.o y_1.m y_1.c y_1.e) ∧ some (bR bs) = some (bR bs) ∧ True) ∧ (∀ (y_2 : RdY), (rnum (RdX.mk (RgX.mk bs y_1.o y_1.m y_1.c) y_1.e 255).l 255 (RS.mk y_1.o y_1.e) = (y_2.n, RS.mk y_2.o y_2.e) ∧ y_2.o + y_2.m = y_1.o + y_1.m ∧ y_2.m ≤ y_2.c ∧ y_2.o + y_2.c = y_1.o + y_1.c) ∧ InR 0 y_2.n 255 → ∃ (j : GeI), ((j.x.o + j.x.m ≤ j.x.bs.length ∧ j.x.bs.length ≤ 140737488355328 ∧ IsBytes j.x.bs ∧ j.x.m ≤ j.x.c) ∧ j.n ≤ 100000 ∧ j.k ≤ j.n ∧ j.l.length = j.k ∧ (true = true → 1 ≤ j.k) ∧ (true = false → j.k = 0)) ∧ j.n - j.k < n - 0 ∧ [((GeI.mk
  j.x j.e j.fr j.mem j.s j.steps j.nt j.out j.disk j.queue j.n j.k j.l true).r.l.isEmpty, LOut.mk (AX.exit 2) gnSlots 10 [(0, ABlk.mk true 2 (AC.cells (geBf_c_p2 bs o m c e fr mem s steps nt out disk queue n j))), (1, bR j.x.bs), (2, ABlk.mk true 35 (AC.cells zeroSv)), (3, ABlk.mk true 35 (AC.cells [nI j.fr, AV.msl 4 0 0 j.mem.bs.length j.mem.c, nU j.s.r0, nU j.s.r1, nU j.s.r2, nU j.s.r3, nU j.s.r4, nU j.s.r5, nU j.s.r6, nU j.s.r7, nU j.s.pc, nU j.s.ps, nU j.s.c0, nU j.s.c1, nU j.s.c2, nU j.s.c3, nU j.s.c4, nU j.s.c5, nU j.s.c6, nU j.s.c7, AV.bool j.s.h, nI j.steps, AV.nils, AV.msl 6 0 0 j.out.bs.length j.out.c, AV.msl 7 0 0 j.disk.bs.length j.disk.c, AV.msl 8 0 0 j.queue.bs.length j.queue.c, AV.nils, nU 0, nU 0, nU 0, nU 0, nU 0, nU 0, nU 0, nU 0])), (4, bR j.mem.bs), (6, bR j.out.bs), (7, bR j.disk.bs), (8, bR j.queue.bs)]), (true, LOut.mk (AX.exit 2) gnSlots 10 [(0, ABlk.mk true 2
  (AC.cells (geBf_c_p2 bs o m c e fr mem s steps nt out disk queue n j))), (1, bR j.x.bs), (2, ABlk.mk true 35 (AC.cells zeroSv)), (3, ABlk.mk true 35 (AC.cells [nI j.fr, AV.msl 4 0 0 j.mem.bs.length j.mem.c, nU j.s.r0, nU j.s.r1, nU j.s.r2, nU j.s.r3, nU j.s.r4, nU j.s.r5, nU j.s.r6, nU j.s.r7, nU j.s.pc, nU j.s.ps, nU j.s.c0, nU j.s.c1, nU j.s.c2, nU j.s.c3, nU j.s.c4, nU j.s.c5, nU j.s.c6, nU j.s.c7, AV.bool j.s.h, nI j.steps, AV.nils, AV.msl 6 0 0 j.out.bs.length j.out.c, AV.msl 7 0 0 j.disk.bs.length j.disk.c, AV.msl 8 0 0 j.queue.bs.length j.queue.c, AV.sl 9 0 0 (GeI.mk j.x j.e j.fr j.mem j.s j.steps j.nt j.out j.disk j.queue j.n j.k j.l true).r.l.length (GeI.mk j.x j.e j.fr j.mem j.s j.steps j.nt j.out j.disk j.queue j.n j.k j.l true).r.l.length false, nU 0, nU 0, nU 0, nU 0, nU 0, nU 0, nU 0, nU 0])), (4, bR j.mem.bs), (6, bR j.out.bs), (7, bR j.disk.bs), (8, bR j.queue.bs), (9,
  ABlk.mk true 3 (AC.recs (GeI.mk j.x j.e j.fr j.mem j.s j.steps j.nt j.out j.disk j.queue j.n j.k j.l true).r.l.length fun (i : Nat) => [nI ((GeI.mk j.x j.e j.fr j.mem j.s j.steps j.nt j.out j.disk j.queue j.n j.k j.l true).r.l.getD i instInhabitedE3.default).a, nI ((GeI.mk j.x j.e j.fr j.mem j.s j.steps j.nt j.out j.disk j.queue j.n j.k j.l true).r.l.getD i instInhabitedE3.default).k, nB ((GeI.mk j.x j.e j.fr j.mem j.s j.steps j.nt j.out j.disk j.queue j.n j.k j.l true).r.l.getD i instInhabitedE3.default).x]))])] = [((GeI.mk (RgX.mk bs o m c) e fr mem s steps nt out disk queue n 0 [] false).r.l.isEmpty, LOut.mk (AX.exit 2) gnSlots 10 [(0, ABlk.mk true 2 (AC.cells (geBf_c_p3 bs o m c e fr mem s steps nt out disk queue n))), (1, bR bs), (2, ABlk.mk true 35 (AC.cells zeroSv)), (3, ABlk.mk true 35 (AC.cells (geBf_c_p1 bs o m c e fr mem s steps nt out disk queue n))), (4, bR mem.bs), (6, bR
  out.bs), (7, bR disk.bs), (8, bR queue.bs)]), (true, LOut.mk (AX.exit 2) gnSlots 10 [(0, ABlk.mk true 2 (AC.cells (geBf_c_p3 bs o m c e fr mem s steps nt out disk queue n))), (1, bR bs), (2, ABlk.mk true 35 (AC.cells zeroSv)), (3, ABlk.mk true 35 (AC.cells [nI fr, AV.msl 4 0 0 mem.bs.length mem.c, nU s.r0, nU s.r1, nU s.r2, nU s.r3, nU s.r4, nU s.r5, nU s.r6, nU s.r7, nU s.pc, nU s.ps, nU s.c0, nU s.c1, nU s.c2, nU s.c3, nU s.c4, nU s.c5, nU s.c6, nU s.c7, AV.bool s.h, nI steps, AV.nils, AV.msl 6 0 0 out.bs.length out.c, AV.msl 7 0 0 disk.bs.length disk.c, AV.msl 8 0 0 queue.bs.length queue.c, AV.sl 9 0 0 (GeI.mk (RgX.mk bs o m c) e fr mem s steps nt out disk queue n 0 [] false).r.l.length (GeI.mk (RgX.mk bs o m c) e fr mem s steps nt out disk queue n 0 [] false).r.l.length false, nU 0, nU 0, nU 0, nU 0, nU 0, nU 0, nU 0, nU 0])), (4, bR mem.bs), (6, bR out.bs), (7, bR disk.bs), (8, bR
  queue.bs), (9, ABlk.mk true 3 (AC.recs (GeI.mk (RgX.mk bs o m c) e fr mem s steps nt out disk queue n 0 [] false).r.l.length fun (i : Nat) => [nI ((GeI.mk (RgX.mk bs o m c) e fr mem s steps nt out disk queue n 0 [] false).r.l.getD i instInhabitedE3.default).a, nI ((GeI.mk (RgX.mk bs o m c) e fr mem s steps nt out disk queue n 0 [] false).r.l.getD i instInhabitedE3.default).k, nB ((GeI.mk (RgX.mk bs o m c) e fr mem s steps nt out disk queue n 0 [] false).r.l.getD i instInhabitedE3.default).x]))])] ∧ (AV.ptr 0 0 0 = AV.ptr 0 0 0 ∧ AV.ptr 2 0 0 = AV.ptr 2 0 0 ∧ AV.ptr 3 0 0 = AV.ptr 3 0 0 ∧ nI (↑n : Int) = nI (↑j.n : Int) ∧ nI 1 = nI (↑j.k : Int) ∧ True) ∧ rdB y_2.o y_2.m y_2.c y_2.e = rdB j.x.o j.x.m j.x.c j.e ∧ bR bs = bR j.x.bs ∧ ABlk.mk true 35 (AC.cells zeroSv) = ABlk.mk true 35 (AC.cells [nI 0, AV.nils, nU 0, nU 0, nU 0, nU 0, nU 0, nU 0, nU 0, nU 0, nU 0, nU 0, nU 0, nU 0, nU 0, nU 0,
  nU 0, nU 0, nU 0, nU 0, AV.bool false, nI 0, AV.nils, AV.nils, AV.nils, AV.nils, AV.nils, nU 0, nU 0, nU 0, nU 0, nU 0, nU 0, nU 0, nU 0]) ∧ ABlk.mk true 35 (AC.cells ((geBf_c_p1 bs o m c e fr mem s steps nt out disk queue n).set 26 (AV.sl 11 0 0 1 1 false))) = ABlk.mk true 35 (AC.cells [nI j.fr, AV.msl 4 0 0 j.mem.bs.length j.mem.c, nU j.s.r0, nU j.s.r1, nU j.s.r2, nU j.s.r3, nU j.s.r4, nU j.s.r5, nU j.s.r6, nU j.s.r7, nU j.s.pc, nU j.s.ps, nU j.s.c0, nU j.s.c1, nU j.s.c2, nU j.s.c3, nU j.s.c4, nU j.s.c5, nU j.s.c6, nU j.s.c7, AV.bool j.s.h, nI j.steps, AV.nils, AV.msl 6 0 0 j.out.bs.length j.out.c, AV.msl 7 0 0 j.disk.bs.length j.disk.c, AV.msl 8 0 0 j.queue.bs.length j.queue.c, AV.sl 11 0 0 j.l.length j.l.length false, nU 0, nU 0, nU 0, nU 0, nU 0, nU 0, nU 0, nU 0]) ∧ bR mem.bs = bR j.mem.bs ∧ bR out.bs = bR j.out.bs ∧ bR disk.bs = bR j.disk.bs ∧ bR queue.bs = bR j.queue.bs ∧ (true =
  true ∧ 3 = 3 ∧ (List.take 3 (List.drop 0 (geBf_c_p4 bs o m c e fr mem s steps nt out disk queue n y y_1 y_2))).length = j.l.length * 3 ∧ ∀ (i : Nat), i < j.l.length → ∀ (j_1 : Nat), j_1 < 3 → (List.take 3 (List.drop 0 (geBf_c_p4 bs o m c e fr mem s steps nt out disk queue n y y_1 y_2))).getD (i * 3 + j_1) AV.any = [nI (j.l.getD i instInhabitedE3.default).a, nI (j.l.getD i instInhabitedE3.default).k, nB (j.l.getD i instInhabitedE3.default).x].getD j_1 AV.any) ∧ True) ∧ True) ∧ True) ∧ True) (geBf_c_p0 bs o m c e fr mem s steps nt out disk queue n)) (geBf_c_p0 bs o m c e fr mem s steps nt out disk queue n)
theorem geBf_c_e (bs : List Int) (o m c : Nat) (e fr : Int) (mem : Row) (s : St) (steps : Int) (nt : NRow) (out disk queue : Row) (n : Nat) : some (geBf_c_V bs o m c e fr mem s steps nt out disk queue n) = (some ((geLp Go.Proofs.Tryz.prog false).body sp Go.Proofs.Tryz.prog (orK ((rnumC F_mummerref30_Reader_number .u64 rnum).orc sp) (rwordC.orc sp)) (drP sp Go.Proofs.Tryz.prog (orK ((rnumC F_mummerref30_Reader_number .u64 rnum).orc sp) (rwordC.orc sp))) noLo 40 ⟨⟨bs, o, m, c⟩, e, fr, mem, s, steps, nt, out, disk, queue, n, 0, [], false⟩)) := by kernel_rfl
set_option maxRecDepth 100000 in
set_option maxHeartbeats 4000000 in
theorem geAt_ok (bs : List Int) (o m c : Nat) (e fr : Int) (mem : Row) (s : St) (steps : Int) (nt : NRow) (out disk queue : Row) (n k : Nat) (l : List E3) (h1 : o + m ≤ bs.length) (h2 : bs.length ≤ 140737488355328) (h3 : IsBytes bs) (h4 : m ≤ c) (h5 : n ≤ 100000) (h6 : k ≤ n) (h7 : l.length = k) (h8 : 1 ≤ k) : geAt_c_V bs o m c e fr mem s steps nt out disk queue n k l := by
  have stop : n ≤ k ∨ e ≠ 0 → (GeI.mk ⟨bs, o, m, c⟩ e fr mem s steps nt out disk queue n k l true).r = ⟨l, o, m, c, e⟩ := fun h => by
    unfold GeI.r
    rw [loR_stop h]
    simp
  unfold geAt_c_V geAt_c_p3 geAt_c_p0 geAt_c_p2 geAt_c_p1
  refine spI (fun hk => spI (fun he => ?_) (fun he => ?_)) (fun hk => ?_)
  · have hk : k < n := by have := of_decide_eq_true hk; omega
    have he : e = 0 := by simpa using he
    refine ⟨⟨⟨h1, h2, h3, h4⟩, ⟨by decide, by decide⟩⟩, rfl, ⟨rfl, rfl, trivial⟩, fun y0 g0 => ?_, trivial⟩
    have E0 : y0.o + y0.m = o + m := g0.1.2.1
    have C0 : y0.o + y0.c = o + c := g0.1.2.2.2
    have r0 : rnum (bs.take (o + m)) 1099511627776 ⟨o, e⟩ = (y0.n, ⟨y0.o, y0.e⟩) := by exact g0.1.1
    refine ⟨⟨⟨by rw [E0]; exact h1, h2, h3, g0.1.2.2.1⟩, ⟨by decide, by decide⟩⟩, rfl, ⟨rfl, rfl, trivial⟩, fun y1 g1 => ?_, trivial⟩
    have E1 : y1.o + y1.m = o + m := g1.1.2.1.trans E0
    have C1 : y1.o + y1.c = o + c := g1.1.2.2.2.trans C0
    have r1 : rnum (bs.take (o + m)) 1099511627776 ⟨y0.o, y0.e⟩ = (y1.n, ⟨y1.o, y1.e⟩) := by rw [← E0]; exact g1.1.1
    refine ⟨⟨⟨by rw [E1]; exact h1, h2, h3, g1.1.2.2.1⟩, ⟨by decide, by decide⟩⟩, rfl, ⟨rfl, rfl, trivial⟩, fun y2 g2 => ?_, trivial⟩
    have E2 : y2.o + y2.m = o + m := g2.1.2.1.trans E1
    have C2 : y2.o + y2.c = o + c := g2.1.2.2.2.trans C1
    have r2 : rnum (bs.take (o + m)) 255 ⟨y1.o, y1.e⟩ = (y2.n, ⟨y2.o, y2.e⟩) := by rw [← E1]; exact g2.1.1
    have hr : rev3 (bs.take (o + m)) ⟨o, e⟩ = (⟨y0.n, y1.n, y2.n⟩, ⟨y2.o, y2.e⟩) := by simp only [rev3, RB, r0, r1, r2]
    have w0 : IntKind.wrap .i64 y0.n = y0.n := IntWalk.i64_in _ (by have := g0.2.lo; have := g0.2.hi; omega)
    have w1 : IntKind.wrap .i64 y1.n = y1.n := IntWalk.i64_in _ (by have := g1.2.lo; have := g1.2.hi; omega)
    have w2 : IntKind.wrap .u8 y2.n = y2.n := by have := g2.2.lo; have := g2.2.hi; rw [IntKind.wrap_u8]; omega
    rw [w0, w1, w2]
    have hw : IntKind.wrap .i64 ((k : Nat) + 1 : Int) = ((k + 1 : Nat) : Int) := by rw [IntWalk.i64_in _ (by omega)]; omega
    refine spT ?_ ⟨⟨⟨bs, y2.o, y2.m, y2.c⟩, y2.e, fr, mem, s, steps, nt, out, disk, queue, n, k + 1, l ++ [⟨y0.n, y1.n, y2.n⟩], true⟩, ⟨⟨by show y2.o + y2.m ≤ bs.length; rw [E2]; exact h1, h2, h3, g2.1.2.2.1⟩, h5, hk, by simp [h7], (fun _ => Nat.succ_le_succ (Nat.zero_le _)), (fun h => by cases h)⟩, ?_, ?_, ⟨rfl, rfl, rfl, rfl, by rw [hw], trivial⟩, rfl, rfl, rfl, ?_, rfl, rfl, rfl, rfl, ⟨rfl, rfl, rfl, fun _ _ => rfl⟩, ⟨rfl, rfl, ?_, ?_⟩, trivial⟩
    · simp; omega
    · show n - (k + 1) < n - k; omega
    · show geOuts bs fr mem s steps nt true out disk queue (loR (rev3 (bs.take (y2.o + y2.m))) (y2.o + y2.m) (y2.o + y2.c) (n - (k + 1)) (l ++ [⟨y0.n, y1.n, y2.n⟩]) ⟨y2.o, y2.e⟩) = geOuts bs fr mem s steps nt true out disk queue (loR (rev3 (bs.take (o + m))) (o + m) (o + c) (n - k) l ⟨o, e⟩)
      rw [E2, C2, loR_go hk he hr]
    · rw [List.length_append]; rfl
    · simp
    · intro i hi
      have hi : i < l.length + 1 := by simpa using hi
      by_cases hik : i < l.length
      · simp only [blt_true hik, cond_true, Nat.zero_add, List.getD_eq_getElem?_getD, List.getElem?_append_left hik]
      · obtain rfl : i = l.length := by omega
        simp only [blt_false hik, cond_false, Nat.sub_self, List.getD_eq_getElem?_getD, List.getElem?_append_right (Nat.le_refl _)]
        rfl
  · rw [stop (.inr (by simpa using he))]
    exact spF (by cases l with | nil => (simp at h7; omega) | cons => rfl) ⟨⟨rfl, rfl, rfl, trivial⟩, rfl, rfl, rfl, rfl, rfl, rfl, rfl, rfl, ⟨rfl, rfl, rfl, fun _ _ => rfl⟩, ⟨rfl, rfl, rfl, fun _ _ => rfl⟩, trivial⟩
  · rw [stop (.inl (by have := of_decide_eq_false hk; omega))]
    exact spF (by cases l with | nil => (simp at h7; omega) | cons => rfl) ⟨⟨rfl, rfl, rfl, trivial⟩, rfl, rfl, rfl, rfl, rfl, rfl, rfl, rfl, ⟨rfl, rfl, rfl, fun _ _ => rfl⟩, ⟨rfl, rfl, rfl, fun _ _ => rfl⟩, trivial⟩
set_option maxRecDepth 100000 in
set_option maxHeartbeats 4000000 in
theorem geAf_ok (bs : List Int) (o m c : Nat) (e fr : Int) (mem : Row) (s : St) (steps : Int) (nt : NRow) (out disk queue : Row) (n k : Nat) (l : List E3) (h1 : o + m ≤ bs.length) (h2 : bs.length ≤ 140737488355328) (h3 : IsBytes bs) (h4 : m ≤ c) (h5 : n ≤ 100000) (h6 : k ≤ n) (h7 : l.length = k) (h8 : 1 ≤ k) : geAf_c_V bs o m c e fr mem s steps nt out disk queue n k l := by
  have stop : n ≤ k ∨ e ≠ 0 → (GeI.mk ⟨bs, o, m, c⟩ e fr mem s steps nt out disk queue n k l true).r = ⟨l, o, m, c, e⟩ := fun h => by
    unfold GeI.r
    rw [loR_stop h]
    simp
  unfold geAf_c_V geAf_c_p3 geAf_c_p0 geAf_c_p2 geAf_c_p1
  refine spI (fun hk => spI (fun he => ?_) (fun he => ?_)) (fun hk => ?_)
  · have hk : k < n := by have := of_decide_eq_true hk; omega
    have he : e = 0 := by simpa using he
    refine ⟨⟨⟨h1, h2, h3, h4⟩, ⟨by decide, by decide⟩⟩, rfl, ⟨rfl, rfl, trivial⟩, fun y0 g0 => ?_, trivial⟩
    have E0 : y0.o + y0.m = o + m := g0.1.2.1
    have C0 : y0.o + y0.c = o + c := g0.1.2.2.2
    have r0 : rnum (bs.take (o + m)) 1099511627776 ⟨o, e⟩ = (y0.n, ⟨y0.o, y0.e⟩) := by exact g0.1.1
    refine ⟨⟨⟨by rw [E0]; exact h1, h2, h3, g0.1.2.2.1⟩, ⟨by decide, by decide⟩⟩, rfl, ⟨rfl, rfl, trivial⟩, fun y1 g1 => ?_, trivial⟩
    have E1 : y1.o + y1.m = o + m := g1.1.2.1.trans E0
    have C1 : y1.o + y1.c = o + c := g1.1.2.2.2.trans C0
    have r1 : rnum (bs.take (o + m)) 1099511627776 ⟨y0.o, y0.e⟩ = (y1.n, ⟨y1.o, y1.e⟩) := by rw [← E0]; exact g1.1.1
    refine ⟨⟨⟨by rw [E1]; exact h1, h2, h3, g1.1.2.2.1⟩, ⟨by decide, by decide⟩⟩, rfl, ⟨rfl, rfl, trivial⟩, fun y2 g2 => ?_, trivial⟩
    have E2 : y2.o + y2.m = o + m := g2.1.2.1.trans E1
    have C2 : y2.o + y2.c = o + c := g2.1.2.2.2.trans C1
    have r2 : rnum (bs.take (o + m)) 255 ⟨y1.o, y1.e⟩ = (y2.n, ⟨y2.o, y2.e⟩) := by rw [← E1]; exact g2.1.1
    have hr : rev3 (bs.take (o + m)) ⟨o, e⟩ = (⟨y0.n, y1.n, y2.n⟩, ⟨y2.o, y2.e⟩) := by simp only [rev3, RB, r0, r1, r2]
    have w0 : IntKind.wrap .i64 y0.n = y0.n := IntWalk.i64_in _ (by have := g0.2.lo; have := g0.2.hi; omega)
    have w1 : IntKind.wrap .i64 y1.n = y1.n := IntWalk.i64_in _ (by have := g1.2.lo; have := g1.2.hi; omega)
    have w2 : IntKind.wrap .u8 y2.n = y2.n := by have := g2.2.lo; have := g2.2.hi; rw [IntKind.wrap_u8]; omega
    rw [w0, w1, w2]
    have hw : IntKind.wrap .i64 ((k : Nat) + 1 : Int) = ((k + 1 : Nat) : Int) := by rw [IntWalk.i64_in _ (by omega)]; omega
    refine spT ?_ ⟨⟨⟨bs, y2.o, y2.m, y2.c⟩, y2.e, fr, mem, s, steps, nt, out, disk, queue, n, k + 1, l ++ [⟨y0.n, y1.n, y2.n⟩], true⟩, ⟨⟨by show y2.o + y2.m ≤ bs.length; rw [E2]; exact h1, h2, h3, g2.1.2.2.1⟩, h5, hk, by simp [h7], (fun _ => Nat.succ_le_succ (Nat.zero_le _)), (fun h => by cases h)⟩, ?_, ?_, ⟨rfl, rfl, rfl, rfl, by rw [hw], trivial⟩, rfl, rfl, rfl, ?_, rfl, rfl, rfl, rfl, ⟨rfl, rfl, ?_, ?_⟩, trivial⟩
    · simp; omega
    · show n - (k + 1) < n - k; omega
    · show geOuts bs fr mem s steps nt false out disk queue (loR (rev3 (bs.take (y2.o + y2.m))) (y2.o + y2.m) (y2.o + y2.c) (n - (k + 1)) (l ++ [⟨y0.n, y1.n, y2.n⟩]) ⟨y2.o, y2.e⟩) = geOuts bs fr mem s steps nt false out disk queue (loR (rev3 (bs.take (o + m))) (o + m) (o + c) (n - k) l ⟨o, e⟩)
      rw [E2, C2, loR_go hk he hr]
    · rw [List.length_append]; rfl
    · simp
    · intro i hi
      have hi : i < l.length + 1 := by simpa using hi
      by_cases hik : i < l.length
      · simp only [blt_true hik, cond_true, Nat.zero_add, List.getD_eq_getElem?_getD, List.getElem?_append_left hik]
      · obtain rfl : i = l.length := by omega
        simp only [blt_false hik, cond_false, Nat.sub_self, List.getD_eq_getElem?_getD, List.getElem?_append_right (Nat.le_refl _)]
        rfl
  · rw [stop (.inr (by simpa using he))]
    exact spF (by cases l with | nil => (simp at h7; omega) | cons => rfl) ⟨⟨rfl, rfl, rfl, trivial⟩, rfl, rfl, rfl, rfl, rfl, rfl, rfl, rfl, ⟨rfl, rfl, rfl, fun _ _ => rfl⟩, trivial⟩
  · rw [stop (.inl (by have := of_decide_eq_false hk; omega))]
    exact spF (by cases l with | nil => (simp at h7; omega) | cons => rfl) ⟨⟨rfl, rfl, rfl, trivial⟩, rfl, rfl, rfl, rfl, rfl, rfl, rfl, rfl, ⟨rfl, rfl, rfl, fun _ _ => rfl⟩, trivial⟩
set_option maxRecDepth 100000 in
set_option maxHeartbeats 4000000 in
theorem geBt_ok (bs : List Int) (o m c : Nat) (e fr : Int) (mem : Row) (s : St) (steps : Int) (nt : NRow) (out disk queue : Row) (n : Nat) (h1 : o + m ≤ bs.length) (h2 : bs.length ≤ 140737488355328) (h3 : IsBytes bs) (h4 : m ≤ c) (h5 : n ≤ 100000) : geBt_c_V bs o m c e fr mem s steps nt out disk queue n := by
  have stop : n ≤ 0 ∨ e ≠ 0 → (GeI.mk ⟨bs, o, m, c⟩ e fr mem s steps nt out disk queue n 0 [] false).r = ⟨[], o, m, c, e⟩ := fun h => by
    unfold GeI.r
    rw [loR_stop h]
    simp
  unfold geBt_c_V geBt_c_p4 geBt_c_p0 geBt_c_p3 geBt_c_p2 geBt_c_p1
  refine spI (fun hk => spI (fun he => ?_) (fun he => ?_)) (fun hk => ?_)
  · have hk : 0 < n := by have := of_decide_eq_true hk; omega
    have he : e = 0 := by simpa using he
    refine ⟨⟨⟨h1, h2, h3, h4⟩, ⟨by decide, by decide⟩⟩, rfl, ⟨rfl, rfl, trivial⟩, fun y0 g0 => ?_, trivial⟩
    have E0 : y0.o + y0.m = o + m := g0.1.2.1
    have C0 : y0.o + y0.c = o + c := g0.1.2.2.2
    have r0 : rnum (bs.take (o + m)) 1099511627776 ⟨o, e⟩ = (y0.n, ⟨y0.o, y0.e⟩) := by exact g0.1.1
    refine ⟨⟨⟨by rw [E0]; exact h1, h2, h3, g0.1.2.2.1⟩, ⟨by decide, by decide⟩⟩, rfl, ⟨rfl, rfl, trivial⟩, fun y1 g1 => ?_, trivial⟩
    have E1 : y1.o + y1.m = o + m := g1.1.2.1.trans E0
    have C1 : y1.o + y1.c = o + c := g1.1.2.2.2.trans C0
    have r1 : rnum (bs.take (o + m)) 1099511627776 ⟨y0.o, y0.e⟩ = (y1.n, ⟨y1.o, y1.e⟩) := by rw [← E0]; exact g1.1.1
    refine ⟨⟨⟨by rw [E1]; exact h1, h2, h3, g1.1.2.2.1⟩, ⟨by decide, by decide⟩⟩, rfl, ⟨rfl, rfl, trivial⟩, fun y2 g2 => ?_, trivial⟩
    have E2 : y2.o + y2.m = o + m := g2.1.2.1.trans E1
    have C2 : y2.o + y2.c = o + c := g2.1.2.2.2.trans C1
    have r2 : rnum (bs.take (o + m)) 255 ⟨y1.o, y1.e⟩ = (y2.n, ⟨y2.o, y2.e⟩) := by rw [← E1]; exact g2.1.1
    have hr : rev3 (bs.take (o + m)) ⟨o, e⟩ = (⟨y0.n, y1.n, y2.n⟩, ⟨y2.o, y2.e⟩) := by simp only [rev3, RB, r0, r1, r2]
    have w0 : IntKind.wrap .i64 y0.n = y0.n := IntWalk.i64_in _ (by have := g0.2.lo; have := g0.2.hi; omega)
    have w1 : IntKind.wrap .i64 y1.n = y1.n := IntWalk.i64_in _ (by have := g1.2.lo; have := g1.2.hi; omega)
    have w2 : IntKind.wrap .u8 y2.n = y2.n := by have := g2.2.lo; have := g2.2.hi; rw [IntKind.wrap_u8]; omega
    rw [w0, w1, w2]
    refine ⟨⟨⟨bs, y2.o, y2.m, y2.c⟩, y2.e, fr, mem, s, steps, nt, out, disk, queue, n, 1, [⟨y0.n, y1.n, y2.n⟩], true⟩, ⟨⟨by show y2.o + y2.m ≤ bs.length; rw [E2]; exact h1, h2, h3, g2.1.2.2.1⟩, h5, hk, rfl, (fun _ => Nat.le_refl _), (fun h => by cases h)⟩, ?_, ?_, ⟨rfl, rfl, rfl, rfl, rfl, trivial⟩, rfl, rfl, rfl, ?_, rfl, rfl, rfl, rfl, ⟨rfl, rfl, rfl, fun _ _ => rfl⟩, ⟨rfl, rfl, ?_, ?_⟩, trivial⟩
    · show n - (0 + 1) < n - 0; omega
    · show geOuts bs fr mem s steps nt true out disk queue (loR (rev3 (bs.take (y2.o + y2.m))) (y2.o + y2.m) (y2.o + y2.c) (n - (0 + 1)) ([] ++ [⟨y0.n, y1.n, y2.n⟩]) ⟨y2.o, y2.e⟩) = geOuts bs fr mem s steps nt true out disk queue (loR (rev3 (bs.take (o + m))) (o + m) (o + c) (n - 0) [] ⟨o, e⟩)
      rw [E2, C2, loR_go hk he hr]
    · rfl
    · rfl
    · intro i hi j hj
      obtain rfl : i = 0 := by have : i < 1 := hi
                               omega
      rw [Nat.zero_mul, Nat.zero_add]
      rfl
  · rw [stop (.inr (by simpa using he))]
    exact spT rfl ⟨⟨rfl, rfl, rfl, trivial⟩, rfl, rfl, rfl, rfl, rfl, rfl, rfl, rfl, ⟨rfl, rfl, rfl, fun _ _ => rfl⟩, trivial⟩
  · rw [stop (.inl (by have := of_decide_eq_false hk; omega))]
    exact spT rfl ⟨⟨rfl, rfl, rfl, trivial⟩, rfl, rfl, rfl, rfl, rfl, rfl, rfl, rfl, ⟨rfl, rfl, rfl, fun _ _ => rfl⟩, trivial⟩
set_option maxRecDepth 100000 in
set_option maxHeartbeats 4000000 in
theorem geBf_ok (bs : List Int) (o m c : Nat) (e fr : Int) (mem : Row) (s : St) (steps : Int) (nt : NRow) (out disk queue : Row) (n : Nat) (h1 : o + m ≤ bs.length) (h2 : bs.length ≤ 140737488355328) (h3 : IsBytes bs) (h4 : m ≤ c) (h5 : n ≤ 100000) : geBf_c_V bs o m c e fr mem s steps nt out disk queue n := by
  have stop : n ≤ 0 ∨ e ≠ 0 → (GeI.mk ⟨bs, o, m, c⟩ e fr mem s steps nt out disk queue n 0 [] false).r = ⟨[], o, m, c, e⟩ := fun h => by
    unfold GeI.r
    rw [loR_stop h]
    simp
  unfold geBf_c_V geBf_c_p4 geBf_c_p0 geBf_c_p3 geBf_c_p2 geBf_c_p1
  refine spI (fun hk => spI (fun he => ?_) (fun he => ?_)) (fun hk => ?_)
  · have hk : 0 < n := by have := of_decide_eq_true hk; omega
    have he : e = 0 := by simpa using he
    refine ⟨⟨⟨h1, h2, h3, h4⟩, ⟨by decide, by decide⟩⟩, rfl, ⟨rfl, rfl, trivial⟩, fun y0 g0 => ?_, trivial⟩
    have E0 : y0.o + y0.m = o + m := g0.1.2.1
    have C0 : y0.o + y0.c = o + c := g0.1.2.2.2
    have r0 : rnum (bs.take (o + m)) 1099511627776 ⟨o, e⟩ = (y0.n, ⟨y0.o, y0.e⟩) := by exact g0.1.1
    refine ⟨⟨⟨by rw [E0]; exact h1, h2, h3, g0.1.2.2.1⟩, ⟨by decide, by decide⟩⟩, rfl, ⟨rfl, rfl, trivial⟩, fun y1 g1 => ?_, trivial⟩
    have E1 : y1.o + y1.m = o + m := g1.1.2.1.trans E0
    have C1 : y1.o + y1.c = o + c := g1.1.2.2.2.trans C0
    have r1 : rnum (bs.take (o + m)) 1099511627776 ⟨y0.o, y0.e⟩ = (y1.n, ⟨y1.o, y1.e⟩) := by rw [← E0]; exact g1.1.1
    refine ⟨⟨⟨by rw [E1]; exact h1, h2, h3, g1.1.2.2.1⟩, ⟨by decide, by decide⟩⟩, rfl, ⟨rfl, rfl, trivial⟩, fun y2 g2 => ?_, trivial⟩
    have E2 : y2.o + y2.m = o + m := g2.1.2.1.trans E1
    have C2 : y2.o + y2.c = o + c := g2.1.2.2.2.trans C1
    have r2 : rnum (bs.take (o + m)) 255 ⟨y1.o, y1.e⟩ = (y2.n, ⟨y2.o, y2.e⟩) := by rw [← E1]; exact g2.1.1
    have hr : rev3 (bs.take (o + m)) ⟨o, e⟩ = (⟨y0.n, y1.n, y2.n⟩, ⟨y2.o, y2.e⟩) := by simp only [rev3, RB, r0, r1, r2]
    have w0 : IntKind.wrap .i64 y0.n = y0.n := IntWalk.i64_in _ (by have := g0.2.lo; have := g0.2.hi; omega)
    have w1 : IntKind.wrap .i64 y1.n = y1.n := IntWalk.i64_in _ (by have := g1.2.lo; have := g1.2.hi; omega)
    have w2 : IntKind.wrap .u8 y2.n = y2.n := by have := g2.2.lo; have := g2.2.hi; rw [IntKind.wrap_u8]; omega
    rw [w0, w1, w2]
    refine ⟨⟨⟨bs, y2.o, y2.m, y2.c⟩, y2.e, fr, mem, s, steps, nt, out, disk, queue, n, 1, [⟨y0.n, y1.n, y2.n⟩], true⟩, ⟨⟨by show y2.o + y2.m ≤ bs.length; rw [E2]; exact h1, h2, h3, g2.1.2.2.1⟩, h5, hk, rfl, (fun _ => Nat.le_refl _), (fun h => by cases h)⟩, ?_, ?_, ⟨rfl, rfl, rfl, rfl, rfl, trivial⟩, rfl, rfl, rfl, ?_, rfl, rfl, rfl, rfl, ⟨rfl, rfl, ?_, ?_⟩, trivial⟩
    · show n - (0 + 1) < n - 0; omega
    · show geOuts bs fr mem s steps nt false out disk queue (loR (rev3 (bs.take (y2.o + y2.m))) (y2.o + y2.m) (y2.o + y2.c) (n - (0 + 1)) ([] ++ [⟨y0.n, y1.n, y2.n⟩]) ⟨y2.o, y2.e⟩) = geOuts bs fr mem s steps nt false out disk queue (loR (rev3 (bs.take (o + m))) (o + m) (o + c) (n - 0) [] ⟨o, e⟩)
      rw [E2, C2, loR_go hk he hr]
    · rfl
    · rfl
    · intro i hi j hj
      obtain rfl : i = 0 := by have : i < 1 := hi
                               omega
      rw [Nat.zero_mul, Nat.zero_add]
      rfl
  · rw [stop (.inr (by simpa using he))]
    exact spT rfl ⟨⟨rfl, rfl, rfl, trivial⟩, rfl, rfl, rfl, rfl, rfl, rfl, rfl, rfl, trivial⟩
  · rw [stop (.inl (by have := of_decide_eq_false hk; omega))]
    exact spT rfl ⟨⟨rfl, rfl, rfl, trivial⟩, rfl, rfl, rfl, rfl, rfl, rfl, rfl, rfl, trivial⟩
set_option maxRecDepth 100000 in
theorem geLp_ok (hn : (rnumC F_mummerref30_Reader_number .u64 rnum).OK Go.Proofs.Tryz.prog) (nf : Bool) : (geLp Go.Proofs.Tryz.prog nf).OK Go.Proofs.Tryz.prog := by
  have hc := orK_ok (Con.orc_ok hn) (Con.orc_ok (rword_ok hn))
  refine Lp.ok_of hc (drP_ok hmix _ hc) (noLo_ok _) (by cases nf <;> decide) 40 (fun i hi => ?_)
  obtain ⟨⟨bs, o, m, c⟩, e, fr, mem, s, steps, nt, out, disk, queue, n, k, l, fl⟩ := i
  obtain ⟨⟨h1, h2, h3, h4⟩, h5, h6, h7, h8, h9⟩ := hi
  cases fl with
  | true =>
    cases nf with
    | true =>
      rw [← Option.some.inj (geAt_c_e bs o m c e fr mem s steps nt out disk queue n k l)]
      exact geAt_ok bs o m c e fr mem s steps nt out disk queue n k l h1 h2 h3 h4 h5 h6 h7 (h8 rfl)
    | false =>
      rw [← Option.some.inj (geAf_c_e bs o m c e fr mem s steps nt out disk queue n k l)]
      exact geAf_ok bs o m c e fr mem s steps nt out disk queue n k l h1 h2 h3 h4 h5 h6 h7 (h8 rfl)
  | false =>
    cases nf with
    | true =>
      have e1 : k = 0 := h9 rfl
      have e2 : l = [] := by simp only [] at h7; rw [e1] at h7; exact List.eq_nil_of_length_eq_zero h7
      subst e1 e2
      rw [← Option.some.inj (geBt_c_e bs o m c e fr mem s steps nt out disk queue n)]
      exact geBt_ok bs o m c e fr mem s steps nt out disk queue n h1 h2 h3 h4 h5
    | false =>
      have e1 : k = 0 := h9 rfl
      have e2 : l = [] := by simp only [] at h7; rw [e1] at h7; exact List.eq_nil_of_length_eq_zero h7
      subst e1 e2
      rw [← Option.some.inj (geBf_c_e bs o m c e fr mem s steps nt out disk queue n)]
      exact geBf_ok bs o m c e fr mem s steps nt out disk queue n h1 h2 h3 h4 h5
end Go.Proofs.YtmbcpmbpkdeioaaGreatDoor.W
/- The document's reader and the program's answer alike: the plain law. No condition. -/
namespace Go.Proofs.YtmbcpmbpkdeioaaGreatDoor.W
open Go Go.RowKit Go.Eng
set_option maxRecDepth 100000
set_option linter.unusedVariables false
set_option linter.unusedSimpArgs false
/-- What the one reads, or its reason; the other goes on, and keeps the reason. -/
def Sim {α : Type} (p : PR α) (r : α × RS) : Prop := match p with
  | .ok a o => r = (a, ⟨o, 0⟩)
  | .no e => e ≠ 0 ∧ r.2.e = e
def Keeps {α : Type} (f : RS → α × RS) : Prop := ∀ s, s.e ≠ 0 → (f s).2.e = s.e
theorem Keeps.RB {α β : Type} {f : RS → α × RS} {g : α → RS → β × RS} (hf : Keeps f) (hg : ∀ a, Keeps (g a)) : Keeps (fun s => W.RB (f s) g) := fun s hs => by
  show (g (f s).1 (f s).2).2.e = s.e
  have := hf s hs
  rw [hg _ _ (by rw [this]; exact hs), this]
theorem Keeps.ret {α : Type} (a : α) : Keeps (fun s => (a, s)) := fun _ _ => rfl
theorem Sim.bind {α β : Type} {p : PR α} {r : α × RS} {f : α → Nat → PR β} {g : α → RS → β × RS} (h : Sim p r) (hf : ∀ a o, Sim (f a o) (g a ⟨o, 0⟩)) (hk : ∀ a, Keeps (g a)) : Sim (p.bind f) (RB r g) := by
  cases p with
  | ok a o =>
    have h : r = (a, ⟨o, 0⟩) := h
    subst h
    exact hf a o
  | no e =>
    obtain ⟨h1, h2⟩ := h
    refine ⟨h1, ?_⟩
    show (g r.1 r.2).2.e = e
    rw [hk _ _ (by rw [h2]; exact h1), h2]
theorem Sim.ret {α : Type} (a : α) (o : Nat) : Sim (.ok a o) (a, ⟨o, 0⟩) := rfl
theorem k_num (l : List Int) (most : Int) : Keeps (rnum l most) := fun s hs => by unfold rnum; rw [if_pos hs]
theorem k_row (l : List Int) (most : Int) : Keeps (rrow l most) := fun s hs => by unfold rrow; rw [if_pos hs]
theorem k_cnt (l : List Int) {most : Int} (hm : 0 ≤ most) : Keeps (rcnt l most) := fun s hs => by
  unfold rcnt rnum
  rw [if_pos hs]
  show (if (0 : Int) > most then ((0 : Int), (⟨s.o, 3⟩ : RS)) else (0, s)).2.e = s.e
  rw [if_neg (by omega)]
theorem k_words (l : List Int) : ∀ k, Keeps (rwords l k)
  | 0 => Keeps.ret _
  | k + 1 => Keeps.RB (k_num _ _) fun _ => Keeps.RB (k_words l k) fun _ => Keeps.ret _
theorem k_state (l : List Int) : Keeps (rstate l) := Keeps.RB (k_words l 18) fun _ => Keeps.RB (k_num _ _) fun _ => Keeps.ret _
theorem k_many {α : Type} (p : RS → α × RS) : ∀ k, Keeps (rmany p k)
  | 0 => Keeps.ret _
  | k + 1 => fun s hs => by unfold rmany; rw [if_pos hs]
theorem s_num (l : List Int) (most : Int) (o : Nat) : Sim (upP l most o) (rnum l most ⟨o, 0⟩) := by
  have hz := nz_up l most o
  unfold rnum
  rw [if_neg (by simp)]
  unfold upP at hz ⊢
  cases h : upN l o most with
  | ok n o' => exact rfl
  | no e => exact ⟨hz e (by rw [h]), rfl⟩
theorem s_row (l : List Int) (most : Int) (o : Nat) : Sim (rowP l most o) (rrow l most ⟨o, 0⟩) := by
  have hz := nz_row l most o
  unfold rrow
  rw [if_neg (by simp)]
  unfold rowP at hz ⊢
  cases h : rowN (l.drop o) most with
  | ok n o' => exact rfl
  | no e => exact ⟨hz e (by rw [h]), rfl⟩
theorem s_cnt (l : List Int) {most : Int} (hm : 0 ≤ most) (o : Nat) : Sim (cntP l most o) (rcnt l most ⟨o, 0⟩) := by
  have hz := nz_cnt l most o
  unfold rcnt rnum
  rw [if_neg (by simp)]
  unfold cntP cntN at hz ⊢
  show Sim _ (match (match upN l o 1099511627776 with | .ok n o => ((n, ⟨o, 0⟩) : Int × RS) | .no e => (0, ⟨o, e⟩)) with | (n, s') => if n > most then ((0 : Int), (⟨s'.o, 3⟩ : RS)) else (n, s'))
  cases h : upN l o 1099511627776 with
  | ok n o' =>
    by_cases hn : n > most
    · simp only [hn, if_true]
      exact ⟨by decide, rfl⟩
    · simp only [hn, if_false]
      exact rfl
  | no e =>
    rw [h] at hz
    simp only []
    rw [if_neg (by omega)]
    exact ⟨hz e rfl, rfl⟩
theorem s_words (l : List Int) : ∀ k o, Sim (numsP l k o) (rwords l k ⟨o, 0⟩)
  | 0, o => Sim.ret _ _
  | k + 1, o => Sim.bind (s_num _ _ _) (fun _ o => Sim.bind (s_words l k o) (fun _ _ => Sim.ret _ _) fun _ => Keeps.ret _) fun _ => Keeps.RB (k_words l k) fun _ => Keeps.ret _
theorem s_state (l : List Int) (o : Nat) : Sim (stP l o) (rstate l ⟨o, 0⟩) :=
  Sim.bind (s_words l 18 o) (fun _ o => Sim.bind (s_num _ _ _) (fun _ _ => Sim.ret _ _) fun _ => Keeps.ret _) fun _ => Keeps.RB (k_num _ _) fun _ => Keeps.ret _
theorem s_note (l : List Int) (o : Nat) : Sim (noteP l o) (rnote l ⟨o, 0⟩) :=
  Sim.bind (s_num _ _ _) (fun _ _ => Sim.bind (s_num _ _ _) (fun _ _ => Sim.bind (s_num _ _ _) (fun _ _ => Sim.bind (s_num _ _ _) (fun _ _ => Sim.ret _ _) fun _ => Keeps.ret _)
    fun _ => Keeps.RB (k_num _ _) fun _ => Keeps.ret _) fun _ => Keeps.RB (k_num _ _) fun _ => Keeps.RB (k_num _ _) fun _ => Keeps.ret _) fun _ => Keeps.RB (k_num _ _) fun _ => Keeps.RB (k_num _ _) fun _ => Keeps.RB (k_num _ _) fun _ => Keeps.ret _
theorem s_ev (l : List Int) (o : Nat) : Sim (evP l o) (rev3 l ⟨o, 0⟩) :=
  Sim.bind (s_num _ _ _) (fun _ _ => Sim.bind (s_num _ _ _) (fun _ _ => Sim.bind (s_num _ _ _) (fun _ _ => Sim.ret _ _) fun _ => Keeps.ret _) fun _ => Keeps.RB (k_num _ _) fun _ => Keeps.ret _) fun _ => Keeps.RB (k_num _ _) fun _ => Keeps.RB (k_num _ _) fun _ => Keeps.ret _
theorem s_many {α : Type} {p : Nat → PR α} {q : RS → α × RS} (h : ∀ o, Sim (p o) (q ⟨o, 0⟩)) : ∀ k o, Sim (manyP p k o) (rmany q k ⟨o, 0⟩)
  | 0, o => Sim.ret _ _
  | k + 1, o => by
    unfold rmany
    rw [if_neg (by simp)]
    exact Sim.bind (h o) (fun _ o => Sim.bind (s_many h k o) (fun _ _ => Sim.ret _ _) fun _ => Keeps.ret _) fun _ => Keeps.RB (k_many q k) fun _ => Keeps.ret _
theorem s_nt (l : List Int) (o : Nat) : Sim (ntP l o) (RB (rcnt l 4096 ⟨o, 0⟩) fun n s => rmany (rnote l) n.toNat s) :=
  Sim.bind (s_cnt l (by omega) o) (fun n o => s_many (s_note l) n.toNat o) fun _ => k_many _ _
theorem s_es (l : List Int) (o : Nat) : Sim (esP l o) (RB (rcnt l 64 ⟨o, 0⟩) fun n s => rmany (rev3 l) n.toNat s) :=
  Sim.bind (s_cnt l (by omega) o) (fun n o => s_many (s_ev l) n.toNat o) fun _ => k_many _ _
theorem k_nt (l : List Int) : Keeps (fun s => RB (rcnt l 4096 s) fun n s => rmany (rnote l) n.toNat s) := Keeps.RB (k_cnt l (by omega)) fun _ => k_many _ _
theorem k_es (l : List Int) : Keeps (fun s => RB (rcnt l 64 s) fun n s => rmany (rev3 l) n.toNat s) := Keeps.RB (k_cnt l (by omega)) fun _ => k_many _ _
theorem s_guest (l : List Int) (o : Nat) : Sim (savP l o) (rguest l ⟨o, 0⟩) := by
  have k9 : ∀ fr mem st steps notes out disk queue script, Keeps (fun s => RB (rwords l 8 s) fun bl s => ((⟨fr, mem, st, steps, notes, out, disk, queue, script, bl⟩ : Dv), s)) := fun _ _ _ _ _ _ _ _ _ => Keeps.RB (k_words l 8) fun _ => Keeps.ret _
  have k8 := fun fr mem st steps notes out disk queue => Keeps.RB (k_es l) fun script => k9 fr mem st steps notes out disk queue script
  have k7 := fun fr mem st steps notes out disk => Keeps.RB (k_row l 32) fun queue => k8 fr mem st steps notes out disk queue
  have k6 := fun fr mem st steps notes out => Keeps.RB (k_row l 2048) fun disk => k7 fr mem st steps notes out disk
  have k5 := fun fr mem st steps notes => Keeps.RB (k_row l 65536) fun out => k6 fr mem st steps notes out
  have k4 := fun fr mem st steps => Keeps.RB (k_nt l) fun notes => k5 fr mem st steps notes
  have k3 := fun fr mem st => Keeps.RB (k_num l 1099511627776) fun steps => k4 fr mem st steps
  have k2 := fun fr mem => Keeps.RB (k_state l) fun st => k3 fr mem st
  have k1 := fun fr => Keeps.RB (k_row l 4096) fun mem => k2 fr mem
  exact Sim.bind (s_num _ _ _) (fun fr _ => Sim.bind (s_row _ _ _) (fun mem _ => Sim.bind (s_state _ _) (fun st _ => Sim.bind (s_num _ _ _) (fun steps _ => Sim.bind (s_nt _ _) (fun notes _ => Sim.bind (s_row _ _ _) (fun out _ => Sim.bind (s_row _ _ _) (fun disk _ => Sim.bind (s_row _ _ _) (fun queue _ => Sim.bind (s_es _ _) (fun script _ => Sim.bind (s_words l 8 _) (fun _ _ => Sim.ret _ _) fun _ => Keeps.ret _) (k9 fr mem st steps notes out disk queue)) (k8 fr mem st steps notes out disk)) (k7 fr mem st steps notes out)) (k6 fr mem st steps notes)) (k5 fr mem st steps)) (k4 fr mem st)) (k3 fr mem)) (k2 fr)) k1
end Go.Proofs.YtmbcpmbpkdeioaaGreatDoor.W
/- The document's reader: guests: what is reckoned. No condition. -/
namespace Go.Proofs.YtmbcpmbpkdeioaaGreatDoor.W
open Go Go.RowKit Go.Eng
set_option maxRecDepth 100000
set_option linter.unusedVariables false
set_option linter.unusedSimpArgs false
/-- What a loop comes to, told by its readings. -/
structure LoIs {α : Type} (p : RS → α × RS) (x : RgX) (e : Int) (n : Nat) (l : List α) (y : LoR α) : Prop where
  eq : (l ++ (rmany p n ⟨x.o, e⟩).1, (rmany p n ⟨x.o, e⟩).2) = (y.l, (⟨y.o, y.e⟩ : RS))
  m : y.o + y.m = x.o + x.m
  mc : y.m ≤ y.c
  c : y.o + y.c = x.o + x.c
  len : y.l.length ≤ l.length + n
theorem LoIs.of {α : Type} {p : RS → α × RS} {x : RgX} {e : Int} {n : Nat} {l : List α} (hp : ∀ s : RS, s.o ≤ x.o + x.m → (p s).2.o ≤ x.o + x.m) (h : x.m ≤ x.c) : LoIs p x e n l (loR p (x.o + x.m) (x.o + x.c) n l ⟨x.o, e⟩) := by
  rw [loR_eq]
  have h1 := rmany_le hp n ⟨x.o, e⟩ (Nat.le_add_right _ _)
  have h2 := rmany_len (p := p) n ⟨x.o, e⟩
  rcases hq : rmany p n ⟨x.o, e⟩ with ⟨t, s'⟩
  rw [hq] at h1 h2
  have h1 : s'.o ≤ x.o + x.m := h1
  have h2 : t.length ≤ n := h2
  exact ⟨by rw [hq], (by show s'.o + (x.o + x.m - s'.o) = _; omega), (by show x.o + x.m - s'.o ≤ x.o + x.c - s'.o; omega), (by show s'.o + (x.o + x.c - s'.o) = _; omega), (by show (l ++ t).length ≤ _; rw [List.length_append]; omega)⟩
def gnRel (i : GnI) (y : LoR N4) : Prop := LoIs (rnote (i.x.bs.take (i.x.o + i.x.m))) i.x i.e (i.n - i.k) i.l y
def gnOut (i : GnI) (y : LoR N4) : List (Bool × LOut) := gnOuts i.x.bs i.fr i.mem i.s i.steps y
def geRel (i : GeI) (y : LoR E3) : Prop := LoIs (rev3 (i.x.bs.take (i.x.o + i.x.m))) i.x i.e (i.n - i.k) i.l y
def geOut (nf : Bool) (i : GeI) (y : LoR E3) : List (Bool × LOut) := geOuts i.x.bs i.fr i.mem i.s i.steps i.nt nf i.out i.disk i.queue y
theorem gn_rel {P : Program} (i : GnI) (h : (gnLp P).pre i) : ∃ y, gnRel i y ∧ (gnLp P).outs i = gnOut i y := by
  obtain ⟨⟨h1, _, _, h4⟩, _⟩ := h
  have hl : (i.x.bs.take (i.x.o + i.x.m)).length = i.x.o + i.x.m := by simp; omega
  exact ⟨i.r, LoIs.of (fun s hs => by have := rnote_le (l := i.x.bs.take (i.x.o + i.x.m)) (s := s) (by rw [hl]; exact hs); rwa [hl] at this) h4, rfl⟩
theorem ge_rel {P : Program} {nf : Bool} (i : GeI) (h : (geLp P nf).pre i) : ∃ y, geRel i y ∧ (geLp P nf).outs i = geOut nf i y := by
  obtain ⟨⟨h1, _, _, h4⟩, _⟩ := h
  have hl : (i.x.bs.take (i.x.o + i.x.m)).length = i.x.o + i.x.m := by simp; omega
  exact ⟨i.r, LoIs.of (fun s hs => by have := rev3_le (l := i.x.bs.take (i.x.o + i.x.m)) (s := s) (by rw [hl]; exact hs); rwa [hl] at this) h4, rfl⟩
structure GuIs (l : List Int) (s : RS) (d : Dv) (s' : RS) : Prop where
  eq : rguest l s = (d, s')
structure GuY where
  d : Dv
  c0 : Nat
  c2 : Nat
  c3 : Nat
  c4 : Nat
  o : Nat
  m : Nat
  c : Nat
  e : Int
def Dv.svc (d : Dv) (c0 c2 c3 c4 : Nat) : Sv := { d.sv with mem := ⟨d.mem, c0⟩, out := ⟨d.out, c2⟩, disk := ⟨d.disk, c3⟩, queue := ⟨d.queue, c4⟩ }
def GuY.sv (y : GuY) : Sv := y.d.svc y.c0 y.c2 y.c3 y.c4
structure GuY.caps (y : GuY) : Prop where
  c0 : y.d.mem.length ≤ y.c0
  c2 : y.d.out.length ≤ y.c2
  c3 : y.d.disk.length ≤ y.c3
  c4 : y.d.queue.length ≤ y.c4
def gspec : List (Nat × Nat × AC) := [(22, 4, .recs 0 fun _ => [.int .i64 0, .int .i64 0, .int .u32 0, .int .u32 0]), (26, 3, .recs 0 fun _ => [.int .i64 0, .int .i64 0, .int .u8 0])]
def rsavedC : Con RdX GuY where
  f := F_mummerref30_Reader_saved
  fit vs H := match vs with
    | [.ptr b _ _] => rdxFit b 0 H
    | _ => none
  n0 := 2
  pre x := x.ok
  args x := [.ptr 0 0 0]
  L0 x := x.L
  outs x := [(fun y => GuIs x.l ⟨x.x.o, x.e⟩ y.d ⟨y.o, y.e⟩ ∧ x.rest y.o y.m y.c ∧ y.caps,
    fun y => (.ret (.agg (AV.rens up2 y.sv.av)), 8, [(0, rdB y.o y.m y.c y.e), (1, ⟨false, 1, .ints .u8 x.x.bs⟩), (2, y.sv.mem.blk), (3, y.sv.notes.blk), (4, y.sv.out.blk), (5, y.sv.disk.blk), (6, y.sv.queue.blk), (7, y.sv.script.blk)]))]
end Go.Proofs.YtmbcpmbpkdeioaaGreatDoor.W
