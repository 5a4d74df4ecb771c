/- The document's reader: states: the walk. No condition. -/
import Derived.Test.YtmbcpmbpkdeioaaGreatDoorF39
import Derived.KernelRfl
import Derived.Test.YtmbcpmbpkdeioaaGreatDoorF38
namespace Go.Proofs.YtmbcpmbpkdeioaaGreatDoor.W
open Go Go.RowKit Go.Eng
set_option maxRecDepth 100000
set_option linter.unusedVariables false
set_option linter.unusedSimpArgs false
def rstate_c_V (x : RdX) : Prop :=
  (x.x.o + x.x.m ≤ x.x.bs.length ∧ x.x.bs.length ≤ 140737488355328 ∧ IsBytes x.x.bs ∧ x.x.m ≤ x.x.c) ∧ [AV.ptr 0 0 0] = [AV.ptr 0 0 0] ∧ (some (rdB x.x.o x.x.m x.x.c x.e) = some (rdB x.x.o x.x.m x.x.c x.e) ∧ some (bR x.x.bs) = some (bR x.x.bs) ∧ True) ∧ (∀ (y : RdY), (rnum (RdX.mk (RgX.mk x.x.bs x.x.o x.x.m x.x.c) x.e 0).l 4294967295 (RS.mk x.x.o x.e) = (y.n, RS.mk y.o y.e) ∧ y.o + y.m = x.x.o + x.x.m ∧ y.m ≤ y.c ∧ y.o + y.c = x.x.o + x.x.c) ∧ InR 0 y.n 4294967295 → (y.o + y.m ≤ x.x.bs.length ∧ x.x.bs.length ≤ 140737488355328 ∧ IsBytes x.x.bs ∧ y.m ≤ y.c) ∧ [AV.ptr 0 0 0] = [AV.ptr 0 0 0] ∧ (some (rdB y.o y.m y.c y.e) = some (rdB y.o y.m y.c y.e) ∧ some (bR x.x.bs) = some (bR x.x.bs) ∧ True) ∧ (∀ (y_1 : RdY), (rnum (RdX.mk (RgX.mk x.x.bs y.o y.m y.c) y.e 0).l 4294967295 (RS.mk y.o y.e) = (y_1.n, RS.mk y_1.o y_1.e) ∧ y_1.o + y_1.m = y.o + y.m ∧ y_1.m ≤ y_1.c ∧ y_1.o + y_1.c = y.o + y.c) ∧
  InR 0 y_1.n 4294967295 → (y_1.o + y_1.m ≤ x.x.bs.length ∧ x.x.bs.length ≤ 140737488355328 ∧ IsBytes x.x.bs ∧ y_1.m ≤ y_1.c) ∧ [AV.ptr 0 0 0] = [AV.ptr 0 0 0] ∧ (some (rdB y_1.o y_1.m y_1.c y_1.e) = some (rdB y_1.o y_1.m y_1.c y_1.e) ∧ some (bR x.x.bs) = some (bR x.x.bs) ∧ True) ∧ (∀ (y_2 : RdY), (rnum (RdX.mk (RgX.mk x.x.bs y_1.o y_1.m y_1.c) y_1.e 0).l 4294967295 (RS.mk y_1.o y_1.e) = (y_2.n, RS.mk y_2.o y_2.e) ∧ y_2.o + y_2.m = y_1.o + y_1.m ∧ y_2.m ≤ y_2.c ∧ y_2.o + y_2.c = y_1.o + y_1.c) ∧ InR 0 y_2.n 4294967295 → (y_2.o + y_2.m ≤ x.x.bs.length ∧ x.x.bs.length ≤ 140737488355328 ∧ IsBytes x.x.bs ∧ y_2.m ≤ y_2.c) ∧ [AV.ptr 0 0 0] = [AV.ptr 0 0 0] ∧ (some (rdB y_2.o y_2.m y_2.c y_2.e) = some (rdB y_2.o y_2.m y_2.c y_2.e) ∧ some (bR x.x.bs) = some (bR x.x.bs) ∧ True) ∧ (∀ (y_3 : RdY), (rnum (RdX.mk (RgX.mk x.x.bs y_2.o y_2.m y_2.c) y_2.e 0).l 4294967295 (RS.mk y_2.o y_2.e) = (y_3.n, RS.mk
  y_3.o y_3.e) ∧ y_3.o + y_3.m = y_2.o + y_2.m ∧ y_3.m ≤ y_3.c ∧ y_3.o + y_3.c = y_2.o + y_2.c) ∧ InR 0 y_3.n 4294967295 → (y_3.o + y_3.m ≤ x.x.bs.length ∧ x.x.bs.length ≤ 140737488355328 ∧ IsBytes x.x.bs ∧ y_3.m ≤ y_3.c) ∧ [AV.ptr 0 0 0] = [AV.ptr 0 0 0] ∧ (some (rdB y_3.o y_3.m y_3.c y_3.e) = some (rdB y_3.o y_3.m y_3.c y_3.e) ∧ some (bR x.x.bs) = some (bR x.x.bs) ∧ True) ∧ (∀ (y_4 : RdY), (rnum (RdX.mk (RgX.mk x.x.bs y_3.o y_3.m y_3.c) y_3.e 0).l 4294967295 (RS.mk y_3.o y_3.e) = (y_4.n, RS.mk y_4.o y_4.e) ∧ y_4.o + y_4.m = y_3.o + y_3.m ∧ y_4.m ≤ y_4.c ∧ y_4.o + y_4.c = y_3.o + y_3.c) ∧ InR 0 y_4.n 4294967295 → (y_4.o + y_4.m ≤ x.x.bs.length ∧ x.x.bs.length ≤ 140737488355328 ∧ IsBytes x.x.bs ∧ y_4.m ≤ y_4.c) ∧ [AV.ptr 0 0 0] = [AV.ptr 0 0 0] ∧ (some (rdB y_4.o y_4.m y_4.c y_4.e) = some (rdB y_4.o y_4.m y_4.c y_4.e) ∧ some (bR x.x.bs) = some (bR x.x.bs) ∧ True) ∧ (∀ (y_5 : RdY), (rnum
  (RdX.mk (RgX.mk x.x.bs y_4.o y_4.m y_4.c) y_4.e 0).l 4294967295 (RS.mk y_4.o y_4.e) = (y_5.n, RS.mk y_5.o y_5.e) ∧ y_5.o + y_5.m = y_4.o + y_4.m ∧ y_5.m ≤ y_5.c ∧ y_5.o + y_5.c = y_4.o + y_4.c) ∧ InR 0 y_5.n 4294967295 → (y_5.o + y_5.m ≤ x.x.bs.length ∧ x.x.bs.length ≤ 140737488355328 ∧ IsBytes x.x.bs ∧ y_5.m ≤ y_5.c) ∧ [AV.ptr 0 0 0] = [AV.ptr 0 0 0] ∧ (some (rdB y_5.o y_5.m y_5.c y_5.e) = some (rdB y_5.o y_5.m y_5.c y_5.e) ∧ some (bR x.x.bs) = some (bR x.x.bs) ∧ True) ∧ (∀ (y_6 : RdY), (rnum (RdX.mk (RgX.mk x.x.bs y_5.o y_5.m y_5.c) y_5.e 0).l 4294967295 (RS.mk y_5.o y_5.e) = (y_6.n, RS.mk y_6.o y_6.e) ∧ y_6.o + y_6.m = y_5.o + y_5.m ∧ y_6.m ≤ y_6.c ∧ y_6.o + y_6.c = y_5.o + y_5.c) ∧ InR 0 y_6.n 4294967295 → (y_6.o + y_6.m ≤ x.x.bs.length ∧ x.x.bs.length ≤ 140737488355328 ∧ IsBytes x.x.bs ∧ y_6.m ≤ y_6.c) ∧ [AV.ptr 0 0 0] = [AV.ptr 0 0 0] ∧ (some (rdB y_6.o y_6.m y_6.c y_6.e) = some
  (rdB y_6.o y_6.m y_6.c y_6.e) ∧ some (bR x.x.bs) = some (bR x.x.bs) ∧ True) ∧ (∀ (y_7 : RdY), (rnum (RdX.mk (RgX.mk x.x.bs y_6.o y_6.m y_6.c) y_6.e 0).l 4294967295 (RS.mk y_6.o y_6.e) = (y_7.n, RS.mk y_7.o y_7.e) ∧ y_7.o + y_7.m = y_6.o + y_6.m ∧ y_7.m ≤ y_7.c ∧ y_7.o + y_7.c = y_6.o + y_6.c) ∧ InR 0 y_7.n 4294967295 → (y_7.o + y_7.m ≤ x.x.bs.length ∧ x.x.bs.length ≤ 140737488355328 ∧ IsBytes x.x.bs ∧ y_7.m ≤ y_7.c) ∧ [AV.ptr 0 0 0] = [AV.ptr 0 0 0] ∧ (some (rdB y_7.o y_7.m y_7.c y_7.e) = some (rdB y_7.o y_7.m y_7.c y_7.e) ∧ some (bR x.x.bs) = some (bR x.x.bs) ∧ True) ∧ (∀ (y_8 : RdY), (rnum (RdX.mk (RgX.mk x.x.bs y_7.o y_7.m y_7.c) y_7.e 0).l 4294967295 (RS.mk y_7.o y_7.e) = (y_8.n, RS.mk y_8.o y_8.e) ∧ y_8.o + y_8.m = y_7.o + y_7.m ∧ y_8.m ≤ y_8.c ∧ y_8.o + y_8.c = y_7.o + y_7.c) ∧ InR 0 y_8.n 4294967295 → (y_8.o + y_8.m ≤ x.x.bs.length ∧ x.x.bs.length ≤ 140737488355328 ∧ IsBytes x.x.bs
  ∧ y_8.m ≤ y_8.c) ∧ [AV.ptr 0 0 0] = [AV.ptr 0 0 0] ∧ (some (rdB y_8.o y_8.m y_8.c y_8.e) = some (rdB y_8.o y_8.m y_8.c y_8.e) ∧ some (bR x.x.bs) = some (bR x.x.bs) ∧ True) ∧ (∀ (y_9 : RdY), (rnum (RdX.mk (RgX.mk x.x.bs y_8.o y_8.m y_8.c) y_8.e 0).l 4294967295 (RS.mk y_8.o y_8.e) = (y_9.n, RS.mk y_9.o y_9.e) ∧ y_9.o + y_9.m = y_8.o + y_8.m ∧ y_9.m ≤ y_9.c ∧ y_9.o + y_9.c = y_8.o + y_8.c) ∧ InR 0 y_9.n 4294967295 → (y_9.o + y_9.m ≤ x.x.bs.length ∧ x.x.bs.length ≤ 140737488355328 ∧ IsBytes x.x.bs ∧ y_9.m ≤ y_9.c) ∧ [AV.ptr 0 0 0] = [AV.ptr 0 0 0] ∧ (some (rdB y_9.o y_9.m y_9.c y_9.e) = some (rdB y_9.o y_9.m y_9.c y_9.e) ∧ some (bR x.x.bs) = some (bR x.x.bs) ∧ True) ∧ (∀ (y_10 : RdY), (rnum (RdX.mk (RgX.mk x.x.bs y_9.o y_9.m y_9.c) y_9.e 0).l 4294967295 (RS.mk y_9.o y_9.e) = (y_10.n, RS.mk y_10.o y_10.e) ∧ y_10.o + y_10.m = y_9.o + y_9.m ∧ y_10.m ≤ y_10.c ∧ y_10.o + y_10.c = y_9.o + y_9.c) ∧
  InR 0 y_10.n 4294967295 → (y_10.o + y_10.m ≤ x.x.bs.length ∧ x.x.bs.length ≤ 140737488355328 ∧ IsBytes x.x.bs ∧ y_10.m ≤ y_10.c) ∧ [AV.ptr 0 0 0] = [AV.ptr 0 0 0] ∧ (some (rdB y_10.o y_10.m y_10.c y_10.e) = some (rdB y_10.o y_10.m y_10.c y_10.e) ∧ some (bR x.x.bs) = some (bR x.x.bs) ∧ True) ∧ (∀ (y_11 : RdY), (rnum (RdX.mk (RgX.mk x.x.bs y_10.o y_10.m y_10.c) y_10.e 0).l 4294967295 (RS.mk y_10.o y_10.e) = (y_11.n, RS.mk y_11.o y_11.e) ∧ y_11.o + y_11.m = y_10.o + y_10.m ∧ y_11.m ≤ y_11.c ∧ y_11.o + y_11.c = y_10.o + y_10.c) ∧ InR 0 y_11.n 4294967295 → (y_11.o + y_11.m ≤ x.x.bs.length ∧ x.x.bs.length ≤ 140737488355328 ∧ IsBytes x.x.bs ∧ y_11.m ≤ y_11.c) ∧ [AV.ptr 0 0 0] = [AV.ptr 0 0 0] ∧ (some (rdB y_11.o y_11.m y_11.c y_11.e) = some (rdB y_11.o y_11.m y_11.c y_11.e) ∧ some (bR x.x.bs) = some (bR x.x.bs) ∧ True) ∧ (∀ (y_12 : RdY), (rnum (RdX.mk (RgX.mk x.x.bs y_11.o y_11.m y_11.c) y_11.e
  0).l 4294967295 (RS.mk y_11.o y_11.e) = (y_12.n, RS.mk y_12.o y_12.e) ∧ y_12.o + y_12.m = y_11.o + y_11.m ∧ y_12.m ≤ y_12.c ∧ y_12.o + y_12.c = y_11.o + y_11.c) ∧ InR 0 y_12.n 4294967295 → (y_12.o + y_12.m ≤ x.x.bs.length ∧ x.x.bs.length ≤ 140737488355328 ∧ IsBytes x.x.bs ∧ y_12.m ≤ y_12.c) ∧ [AV.ptr 0 0 0] = [AV.ptr 0 0 0] ∧ (some (rdB y_12.o y_12.m y_12.c y_12.e) = some (rdB y_12.o y_12.m y_12.c y_12.e) ∧ some (bR x.x.bs) = some (bR x.x.bs) ∧ True) ∧ (∀ (y_13 : RdY), (rnum (RdX.mk (RgX.mk x.x.bs y_12.o y_12.m y_12.c) y_12.e 0).l 4294967295 (RS.mk y_12.o y_12.e) = (y_13.n, RS.mk y_13.o y_13.e) ∧ y_13.o + y_13.m = y_12.o + y_12.m ∧ y_13.m ≤ y_13.c ∧ y_13.o + y_13.c = y_12.o + y_12.c) ∧ InR 0 y_13.n 4294967295 → (y_13.o + y_13.m ≤ x.x.bs.length ∧ x.x.bs.length ≤ 140737488355328 ∧ IsBytes x.x.bs ∧ y_13.m ≤ y_13.c) ∧ [AV.ptr 0 0 0] = [AV.ptr 0 0 0] ∧ (some (rdB y_13.o y_13.m y_13.c y_13.e) =
  some (rdB y_13.o y_13.m y_13.c y_13.e) ∧ some (bR x.x.bs) = some (bR x.x.bs) ∧ True) ∧ (∀ (y_14 : RdY), (rnum (RdX.mk (RgX.mk x.x.bs y_13.o y_13.m y_13.c) y_13.e 0).l 4294967295 (RS.mk y_13.o y_13.e) = (y_14.n, RS.mk y_14.o y_14.e) ∧ y_14.o + y_14.m = y_13.o + y_13.m ∧ y_14.m ≤ y_14.c ∧ y_14.o + y_14.c = y_13.o + y_13.c) ∧ InR 0 y_14.n 4294967295 → (y_14.o + y_14.m ≤ x.x.bs.length ∧ x.x.bs.length ≤ 140737488355328 ∧ IsBytes x.x.bs ∧ y_14.m ≤ y_14.c) ∧ [AV.ptr 0 0 0] = [AV.ptr 0 0 0] ∧ (some (rdB y_14.o y_14.m y_14.c y_14.e) = some (rdB y_14.o y_14.m y_14.c y_14.e) ∧ some (bR x.x.bs) = some (bR x.x.bs) ∧ True) ∧ (∀ (y_15 : RdY), (rnum (RdX.mk (RgX.mk x.x.bs y_14.o y_14.m y_14.c) y_14.e 0).l 4294967295 (RS.mk y_14.o y_14.e) = (y_15.n, RS.mk y_15.o y_15.e) ∧ y_15.o + y_15.m = y_14.o + y_14.m ∧ y_15.m ≤ y_15.c ∧ y_15.o + y_15.c = y_14.o + y_14.c) ∧ InR 0 y_15.n 4294967295 → (y_15.o + y_15.m ≤
  x.x.bs.length ∧ x.x.bs.length ≤ 140737488355328 ∧ IsBytes x.x.bs ∧ y_15.m ≤ y_15.c) ∧ [AV.ptr 0 0 0] = [AV.ptr 0 0 0] ∧ (some (rdB y_15.o y_15.m y_15.c y_15.e) = some (rdB y_15.o y_15.m y_15.c y_15.e) ∧ some (bR x.x.bs) = some (bR x.x.bs) ∧ True) ∧ (∀ (y_16 : RdY), (rnum (RdX.mk (RgX.mk x.x.bs y_15.o y_15.m y_15.c) y_15.e 0).l 4294967295 (RS.mk y_15.o y_15.e) = (y_16.n, RS.mk y_16.o y_16.e) ∧ y_16.o + y_16.m = y_15.o + y_15.m ∧ y_16.m ≤ y_16.c ∧ y_16.o + y_16.c = y_15.o + y_15.c) ∧ InR 0 y_16.n 4294967295 → (y_16.o + y_16.m ≤ x.x.bs.length ∧ x.x.bs.length ≤ 140737488355328 ∧ IsBytes x.x.bs ∧ y_16.m ≤ y_16.c) ∧ [AV.ptr 0 0 0] = [AV.ptr 0 0 0] ∧ (some (rdB y_16.o y_16.m y_16.c y_16.e) = some (rdB y_16.o y_16.m y_16.c y_16.e) ∧ some (bR x.x.bs) = some (bR x.x.bs) ∧ True) ∧ (∀ (y_17 : RdY), (rnum (RdX.mk (RgX.mk x.x.bs y_16.o y_16.m y_16.c) y_16.e 0).l 4294967295 (RS.mk y_16.o y_16.e) =
  (y_17.n, RS.mk y_17.o y_17.e) ∧ y_17.o + y_17.m = y_16.o + y_16.m ∧ y_17.m ≤ y_17.c ∧ y_17.o + y_17.c = y_16.o + y_16.c) ∧ InR 0 y_17.n 4294967295 → ((y_17.o + y_17.m ≤ x.x.bs.length ∧ x.x.bs.length ≤ 140737488355328 ∧ IsBytes x.x.bs ∧ y_17.m ≤ y_17.c) ∧ InR 0 1 1099511627776) ∧ [AV.ptr 0 0 0, nL 1] = [AV.ptr 0 0 0, nL 1] ∧ (some (rdB y_17.o y_17.m y_17.c y_17.e) = some (rdB y_17.o y_17.m y_17.c y_17.e) ∧ some (bR x.x.bs) = some (bR x.x.bs) ∧ True) ∧ (∀ (y_18 : RdY), (rnum (RdX.mk (RgX.mk x.x.bs y_17.o y_17.m y_17.c) y_17.e 1).l 1 (RS.mk y_17.o y_17.e) = (y_18.n, RS.mk y_18.o y_18.e) ∧ y_18.o + y_18.m = y_17.o + y_17.m ∧ y_18.m ≤ y_18.c ∧ y_18.o + y_18.c = y_17.o + y_17.c) ∧ InR 0 y_18.n 1 → ∃ (y_19 : RtY), (StIs x.l (RS.mk x.x.o x.e) y_19.s (RS.mk y_19.o y_19.e) ∧ y_19.o + y_19.m = x.x.o + x.x.m ∧ y_19.m ≤ y_19.c ∧ y_19.o + y_19.c = x.x.o + x.x.c) ∧ [AV.agg [nU y.n, nU y_1.n, nU y_2.n,
  nU y_3.n, nU y_4.n, nU y_5.n, nU y_6.n, nU y_7.n, nU y_8.n, nU y_9.n, nU y_10.n, nU y_11.n, nU y_12.n, nU y_13.n, nU y_14.n, nU y_15.n, nU y_16.n, nU y_17.n, AV.bool (y_18.n == 1)]] = [AV.agg [nU y_19.s.r0, nU y_19.s.r1, nU y_19.s.r2, nU y_19.s.r3, nU y_19.s.r4, nU y_19.s.r5, nU y_19.s.r6, nU y_19.s.r7, nU y_19.s.pc, nU y_19.s.ps, nU y_19.s.c0, nU y_19.s.c1, nU y_19.s.c2, nU y_19.s.c3, nU y_19.s.c4, nU y_19.s.c5, nU y_19.s.c6, nU y_19.s.c7, AV.bool y_19.s.h]] ∧ rdB y_18.o y_18.m y_18.c y_18.e = rdB y_19.o y_19.m y_19.c y_19.e ∧ bR x.x.bs = bR x.x.bs ∧ True) ∧ True) ∧ True) ∧ True) ∧ True) ∧ True) ∧ True) ∧ True) ∧ True) ∧ True) ∧ True) ∧ True) ∧ True) ∧ True) ∧ True) ∧ True) ∧ True) ∧ True) ∧ True) ∧ True
theorem rstate_c_e (x : RdX) : some (rstate_c_V x) = (rstateC.cond sp Go.Proofs.Tryz.prog (drP sp Go.Proofs.Tryz.prog) noLoops (orK (rwordC.orc sp) ((rnumC F_mummerref30_Reader_number .u64 rnum).orc sp)) 40 2 x) := by kernel_rfl
set_option maxRecDepth 100000 in
set_option maxHeartbeats 4000000 in
theorem rstate_ok (hn : (rnumC F_mummerref30_Reader_number .u64 rnum).OK Go.Proofs.Tryz.prog) : rstateC.OK Go.Proofs.Tryz.prog := by
  refine Con.by hmix (noLoops_ok _) (orK_ok (Con.orc_ok (rword_ok hn)) (Con.orc_ok hn)) rstate_c_V rstate_c_e (fun x h => ?_)
  obtain ⟨⟨bs, o, m, c⟩, e, mo⟩ := x
  obtain ⟨h1, h2, h3, h4⟩ := h
  unfold rstate_c_V
  refine ⟨⟨h1, h2, h3, h4⟩, rfl, ⟨rfl, rfl, trivial⟩, fun y0 g0 => ?_, trivial⟩
  have E0 : y0.o + y0.m = o + m := g0.1.2.1
  have C0 : y0.o + y0.c = o + c := g0.1.2.2.2
  have r0 : rnum (bs.take (o + m)) 4294967295 ⟨o, e⟩ = (y0.n, ⟨y0.o, y0.e⟩) := g0.1.1
  refine ⟨⟨by rw [E0]; exact h1, h2, h3, g0.1.2.2.1⟩, rfl, ⟨rfl, rfl, trivial⟩, fun y1 g1 => ?_, trivial⟩
  have E1 : y1.o + y1.m = o + m := g1.1.2.1.trans E0
  have C1 : y1.o + y1.c = o + c := g1.1.2.2.2.trans C0
  have r1 : rnum (bs.take (o + m)) 4294967295 ⟨y0.o, y0.e⟩ = (y1.n, ⟨y1.o, y1.e⟩) := by rw [← E0]; exact g1.1.1
  refine ⟨⟨by rw [E1]; exact h1, h2, h3, g1.1.2.2.1⟩, rfl, ⟨rfl, rfl, trivial⟩, fun y2 g2 => ?_, trivial⟩
  have E2 : y2.o + y2.m = o + m := g2.1.2.1.trans E1
  have C2 : y2.o + y2.c = o + c := g2.1.2.2.2.trans C1
  have r2 : rnum (bs.take (o + m)) 4294967295 ⟨y1.o, y1.e⟩ = (y2.n, ⟨y2.o, y2.e⟩) := by rw [← E1]; exact g2.1.1
  refine ⟨⟨by rw [E2]; exact h1, h2, h3, g2.1.2.2.1⟩, rfl, ⟨rfl, rfl, trivial⟩, fun y3 g3 => ?_, trivial⟩
  have E3 : y3.o + y3.m = o + m := g3.1.2.1.trans E2
  have C3 : y3.o + y3.c = o + c := g3.1.2.2.2.trans C2
  have r3 : rnum (bs.take (o + m)) 4294967295 ⟨y2.o, y2.e⟩ = (y3.n, ⟨y3.o, y3.e⟩) := by rw [← E2]; exact g3.1.1
  refine ⟨⟨by rw [E3]; exact h1, h2, h3, g3.1.2.2.1⟩, rfl, ⟨rfl, rfl, trivial⟩, fun y4 g4 => ?_, trivial⟩
  have E4 : y4.o + y4.m = o + m := g4.1.2.1.trans E3
  have C4 : y4.o + y4.c = o + c := g4.1.2.2.2.trans C3
  have r4 : rnum (bs.take (o + m)) 4294967295 ⟨y3.o, y3.e⟩ = (y4.n, ⟨y4.o, y4.e⟩) := by rw [← E3]; exact g4.1.1
  refine ⟨⟨by rw [E4]; exact h1, h2, h3, g4.1.2.2.1⟩, rfl, ⟨rfl, rfl, trivial⟩, fun y5 g5 => ?_, trivial⟩
  have E5 : y5.o + y5.m = o + m := g5.1.2.1.trans E4
  have C5 : y5.o + y5.c = o + c := g5.1.2.2.2.trans C4
  have r5 : rnum (bs.take (o + m)) 4294967295 ⟨y4.o, y4.e⟩ = (y5.n, ⟨y5.o, y5.e⟩) := by rw [← E4]; exact g5.1.1
  refine ⟨⟨by rw [E5]; exact h1, h2, h3, g5.1.2.2.1⟩, rfl, ⟨rfl, rfl, trivial⟩, fun y6 g6 => ?_, trivial⟩
  have E6 : y6.o + y6.m = o + m := g6.1.2.1.trans E5
  have C6 : y6.o + y6.c = o + c := g6.1.2.2.2.trans C5
  have r6 : rnum (bs.take (o + m)) 4294967295 ⟨y5.o, y5.e⟩ = (y6.n, ⟨y6.o, y6.e⟩) := by rw [← E5]; exact g6.1.1
  refine ⟨⟨by rw [E6]; exact h1, h2, h3, g6.1.2.2.1⟩, rfl, ⟨rfl, rfl, trivial⟩, fun y7 g7 => ?_, trivial⟩
  have E7 : y7.o + y7.m = o + m := g7.1.2.1.trans E6
  have C7 : y7.o + y7.c = o + c := g7.1.2.2.2.trans C6
  have r7 : rnum (bs.take (o + m)) 4294967295 ⟨y6.o, y6.e⟩ = (y7.n, ⟨y7.o, y7.e⟩) := by rw [← E6]; exact g7.1.1
  refine ⟨⟨by rw [E7]; exact h1, h2, h3, g7.1.2.2.1⟩, rfl, ⟨rfl, rfl, trivial⟩, fun y8 g8 => ?_, trivial⟩
  have E8 : y8.o + y8.m = o + m := g8.1.2.1.trans E7
  have C8 : y8.o + y8.c = o + c := g8.1.2.2.2.trans C7
  have r8 : rnum (bs.take (o + m)) 4294967295 ⟨y7.o, y7.e⟩ = (y8.n, ⟨y8.o, y8.e⟩) := by rw [← E7]; exact g8.1.1
  refine ⟨⟨by rw [E8]; exact h1, h2, h3, g8.1.2.2.1⟩, rfl, ⟨rfl, rfl, trivial⟩, fun y9 g9 => ?_, trivial⟩
  have E9 : y9.o + y9.m = o + m := g9.1.2.1.trans E8
  have C9 : y9.o + y9.c = o + c := g9.1.2.2.2.trans C8
  have r9 : rnum (bs.take (o + m)) 4294967295 ⟨y8.o, y8.e⟩ = (y9.n, ⟨y9.o, y9.e⟩) := by rw [← E8]; exact g9.1.1
  refine ⟨⟨by rw [E9]; exact h1, h2, h3, g9.1.2.2.1⟩, rfl, ⟨rfl, rfl, trivial⟩, fun y10 g10 => ?_, trivial⟩
  have E10 : y10.o + y10.m = o + m := g10.1.2.1.trans E9
  have C10 : y10.o + y10.c = o + c := g10.1.2.2.2.trans C9
  have r10 : rnum (bs.take (o + m)) 4294967295 ⟨y9.o, y9.e⟩ = (y10.n, ⟨y10.o, y10.e⟩) := by rw [← E9]; exact g10.1.1
  refine ⟨⟨by rw [E10]; exact h1, h2, h3, g10.1.2.2.1⟩, rfl, ⟨rfl, rfl, trivial⟩, fun y11 g11 => ?_, trivial⟩
  have E11 : y11.o + y11.m = o + m := g11.1.2.1.trans E10
  have C11 : y11.o + y11.c = o + c := g11.1.2.2.2.trans C10
  have r11 : rnum (bs.take (o + m)) 4294967295 ⟨y10.o, y10.e⟩ = (y11.n, ⟨y11.o, y11.e⟩) := by rw [← E10]; exact g11.1.1
  refine ⟨⟨by rw [E11]; exact h1, h2, h3, g11.1.2.2.1⟩, rfl, ⟨rfl, rfl, trivial⟩, fun y12 g12 => ?_, trivial⟩
  have E12 : y12.o + y12.m = o + m := g12.1.2.1.trans E11
  have C12 : y12.o + y12.c = o + c := g12.1.2.2.2.trans C11
  have r12 : rnum (bs.take (o + m)) 4294967295 ⟨y11.o, y11.e⟩ = (y12.n, ⟨y12.o, y12.e⟩) := by rw [← E11]; exact g12.1.1
  refine ⟨⟨by rw [E12]; exact h1, h2, h3, g12.1.2.2.1⟩, rfl, ⟨rfl, rfl, trivial⟩, fun y13 g13 => ?_, trivial⟩
  have E13 : y13.o + y13.m = o + m := g13.1.2.1.trans E12
  have C13 : y13.o + y13.c = o + c := g13.1.2.2.2.trans C12
  have r13 : rnum (bs.take (o + m)) 4294967295 ⟨y12.o, y12.e⟩ = (y13.n, ⟨y13.o, y13.e⟩) := by rw [← E12]; exact g13.1.1
  refine ⟨⟨by rw [E13]; exact h1, h2, h3, g13.1.2.2.1⟩, rfl, ⟨rfl, rfl, trivial⟩, fun y14 g14 => ?_, trivial⟩
  have E14 : y14.o + y14.m = o + m := g14.1.2.1.trans E13
  have C14 : y14.o + y14.c = o + c := g14.1.2.2.2.trans C13
  have r14 : rnum (bs.take (o + m)) 4294967295 ⟨y13.o, y13.e⟩ = (y14.n, ⟨y14.o, y14.e⟩) := by rw [← E13]; exact g14.1.1
  refine ⟨⟨by rw [E14]; exact h1, h2, h3, g14.1.2.2.1⟩, rfl, ⟨rfl, rfl, trivial⟩, fun y15 g15 => ?_, trivial⟩
  have E15 : y15.o + y15.m = o + m := g15.1.2.1.trans E14
  have C15 : y15.o + y15.c = o + c := g15.1.2.2.2.trans C14
  have r15 : rnum (bs.take (o + m)) 4294967295 ⟨y14.o, y14.e⟩ = (y15.n, ⟨y15.o, y15.e⟩) := by rw [← E14]; exact g15.1.1
  refine ⟨⟨by rw [E15]; exact h1, h2, h3, g15.1.2.2.1⟩, rfl, ⟨rfl, rfl, trivial⟩, fun y16 g16 => ?_, trivial⟩
  have E16 : y16.o + y16.m = o + m := g16.1.2.1.trans E15
  have C16 : y16.o + y16.c = o + c := g16.1.2.2.2.trans C15
  have r16 : rnum (bs.take (o + m)) 4294967295 ⟨y15.o, y15.e⟩ = (y16.n, ⟨y16.o, y16.e⟩) := by rw [← E15]; exact g16.1.1
  refine ⟨⟨by rw [E16]; exact h1, h2, h3, g16.1.2.2.1⟩, rfl, ⟨rfl, rfl, trivial⟩, fun y17 g17 => ?_, trivial⟩
  have E17 : y17.o + y17.m = o + m := g17.1.2.1.trans E16
  have C17 : y17.o + y17.c = o + c := g17.1.2.2.2.trans C16
  have r17 : rnum (bs.take (o + m)) 4294967295 ⟨y16.o, y16.e⟩ = (y17.n, ⟨y17.o, y17.e⟩) := by rw [← E16]; exact g17.1.1
  refine ⟨⟨⟨by rw [E17]; exact h1, h2, h3, g17.1.2.2.1⟩, ⟨by decide, by decide⟩⟩, rfl, ⟨rfl, rfl, trivial⟩, fun y18 g18 => ?_, trivial⟩
  have E18 : y18.o + y18.m = o + m := g18.1.2.1.trans E17
  have C18 : y18.o + y18.c = o + c := g18.1.2.2.2.trans C17
  have r18 : rnum (bs.take (o + m)) 1 ⟨y17.o, y17.e⟩ = (y18.n, ⟨y18.o, y18.e⟩) := by rw [← E17]; exact g18.1.1
  refine ⟨⟨stL [y0.n, y1.n, y2.n, y3.n, y4.n, y5.n, y6.n, y7.n, y8.n, y9.n, y10.n, y11.n, y12.n, y13.n, y14.n, y15.n, y16.n, y17.n] y18.n, y18.o, y18.m, y18.c, y18.e⟩, ⟨⟨?_⟩, E18, g18.1.2.2.1, C18⟩, rfl, rfl, rfl, trivial⟩
  show rstate (bs.take (o + m)) ⟨o, e⟩ = _
  simp only [rstate, rwords, RB, r0, r1, r2, r3, r4, r5, r6, r7, r8, r9, r10, r11, r12, r13, r14, r15, r16, r17, r18]
end Go.Proofs.YtmbcpmbpkdeioaaGreatDoor.W
/- The document's reader: guests: the loops' states. No condition. -/
namespace Go.Proofs.YtmbcpmbpkdeioaaGreatDoor.W
open Go Go.RowKit Go.Eng
set_option maxRecDepth 100000
set_option linter.unusedVariables false
set_option linter.unusedSimpArgs false
/-- A guest that is being read: its cells. -/
def guCells (fr : Int) (mem : AV) (s : St) (steps : Int) (notes out disk queue script : AV) : List AV := [.int .i64 fr, mem,
  .int .u32 s.r0, .int .u32 s.r1, .int .u32 s.r2, .int .u32 s.r3, .int .u32 s.r4, .int .u32 s.r5, .int .u32 s.r6, .int .u32 s.r7, .int .u32 s.pc, .int .u32 s.ps,
  .int .u32 s.c0, .int .u32 s.c1, .int .u32 s.c2, .int .u32 s.c3, .int .u32 s.c4, .int .u32 s.c5, .int .u32 s.c6, .int .u32 s.c7, .bool s.h,
  .int .i64 steps, notes, out, disk, queue, script, .int .u32 0, .int .u32 0, .int .u32 0, .int .u32 0, .int .u32 0, .int .u32 0, .int .u32 0, .int .u32 0]
structure GnI where
  x : RgX
  e : Int
  fr : Int
  mem : Row
  s : St
  steps : Int
  n : Nat
  k : Nat
  l : List N4
  fl : Bool
/-- What a loop comes to. -/
structure LoR (α : Type) where
  l : List α
  o : Nat
  m : Nat
  c : Nat
  e : Int
def loR {α : Type} (p : RS → α × RS) (N C : Nat) : Nat → List α → RS → LoR α
  | 0, l, s => ⟨l, s.o, N - s.o, C - s.o, s.e⟩
  | k + 1, l, s => if s.e ≠ 0 then ⟨l, s.o, N - s.o, C - s.o, s.e⟩ else loR p N C k (l ++ [(p s).1]) (p s).2
def GnI.r (i : GnI) : LoR N4 := loR (rnote (i.x.bs.take (i.x.o + i.x.m))) (i.x.o + i.x.m) (i.x.o + i.x.c) (i.n - i.k) i.l ⟨i.x.o, i.e⟩
def gnL (bs : List Int) (o m c : Nat) (e fr : Int) (mem : Row) (s : St) (steps : Int) (notes : AV) (t : LH) : LH :=
  [(0, rdB o m c e), (1, ⟨false, 1, .ints .u8 bs⟩), (2, ⟨true, 35, .cells zeroSv⟩), (3, ⟨true, 35, .cells (guCells fr (mem.av 4) s steps notes .nils .nils .nils .nils)⟩), (4, mem.blk)] ++ t
def gnSlots : Slots := [(0, .ptr 0 0 0), (2, .ptr 2 0 0), (3, .ptr 3 0 0)]
def nsl (b n : Nat) : AV := .sl b 0 0 n n false
def gnOuts (bs : List Int) (fr : Int) (mem : Row) (s : St) (steps : Int) (r : LoR N4) : List (Bool × LOut) :=
  [(r.l.isEmpty, ⟨.exit 0, gnSlots, 6, gnL bs r.o r.m r.c r.e fr mem s steps .nils []⟩), (true, ⟨.exit 0, gnSlots, 6, gnL bs r.o r.m r.c r.e fr mem s steps (nsl 5 r.l.length) [(5, notesBlk r.l)]⟩)]
def gnLp (P : Program) : Lp GnI where
  B := 2
  n := ntmpsOf P F_mummerref30_Reader_saved
  code := loopOf P F_mummerref30_Reader_saved 0
  fit s H := match s.get 0, s.get 3, s.get 4 with
    | .ptr b _ _, .ptr bx _ _, .int _ n => match rdxFit b 0 H, H.get bx with
      | some (_, r), some q => match q.c with
        | .cells (.int _ fr :: .msl m0 _ _ _ c0 :: .int _ r0 :: .int _ r1 :: .int _ r2 :: .int _ r3 :: .int _ r4 :: .int _ r5 :: .int _ r6 :: .int _ r7 :: .int _ pc :: .int _ ps :: .int _ d0 :: .int _ d1 :: .int _ d2 :: .int _ d3 :: .int _ d4 :: .int _ d5 :: .int _ d6 :: .int _ d7 :: .bool h :: .int _ steps :: _) =>
          (rowOf H m0 c0).map fun mem => ⟨r.x, r.e, fr, mem, ⟨r0, r1, r2, r3, r4, r5, r6, r7, pc, ps, d0, d1, d2, d3, d4, d5, d6, d7, h⟩, steps, n.toNat, 0, [], false⟩
        | _ => none
      | _, _ => none
    | _, _, _ => none
  pre i := (i.x.o + i.x.m ≤ i.x.bs.length ∧ i.x.bs.length ≤ 140737488355328 ∧ IsBytes i.x.bs ∧ i.x.m ≤ i.x.c) ∧ i.n ≤ 100000 ∧ i.k ≤ i.n ∧ i.l.length = i.k ∧ (i.fl = true → 1 ≤ i.k) ∧ (i.fl = false → i.k = 0)
  slots i := gnSlots ++ [(4, .int .i64 i.n), (5, .int .i64 i.k)]
  nx _ := 6
  L i := gnL i.x.bs i.x.o i.x.m i.x.c i.e i.fr i.mem i.s i.steps (bif i.fl then nsl 5 i.l.length else .nils) (bif i.fl then [(5, notesBlk i.l)] else [])
  m i := i.n - i.k
  outs i := gnOuts i.x.bs i.fr i.mem i.s i.steps i.r
  sh j := { j with fl := true }
structure GeI where
  x : RgX
  e : Int
  fr : Int
  mem : Row
  s : St
  steps : Int
  nt : NRow
  out : Row
  disk : Row
  queue : Row
  n : Nat
  k : Nat
  l : List E3
  fl : Bool
def GeI.r (i : GeI) : LoR E3 := loR (rev3 (i.x.bs.take (i.x.o + i.x.m))) (i.x.o + i.x.m) (i.x.o + i.x.c) (i.n - i.k) i.l ⟨i.x.o, i.e⟩
def geL (bs : List Int) (o m c : Nat) (e fr : Int) (mem : Row) (s : St) (steps : Int) (nt : NRow) (nf : Bool) (out disk queue : Row) (script : AV) (t : LH) : LH :=
  [(0, rdB o m c e), (1, ⟨false, 1, .ints .u8 bs⟩), (2, ⟨true, 35, .cells zeroSv⟩), (3, ⟨true, 35, .cells (guCells fr (mem.av 4) s steps (bif nf then nsl 5 nt.n else .nils) (out.av 6) (disk.av 7) (queue.av 8) script)⟩), (4, mem.blk), (6, out.blk), (7, disk.blk), (8, queue.blk)] ++ ((bif nf then [(5, ⟨true, 4, .recs nt.n nt.f⟩)] else []) ++ t)
def geOuts (bs : List Int) (fr : Int) (mem : Row) (s : St) (steps : Int) (nt : NRow) (nf : Bool) (out disk queue : Row) (r : LoR E3) : List (Bool × LOut) :=
  [(r.l.isEmpty, ⟨.exit 2, gnSlots, 10, geL bs r.o r.m r.c r.e fr mem s steps nt nf out disk queue .nils []⟩), (true, ⟨.exit 2, gnSlots, 10, geL bs r.o r.m r.c r.e fr mem s steps nt nf out disk queue (nsl 9 r.l.length) [(9, evsBlk r.l)]⟩)]
def geLp (P : Program) (nf : Bool) : Lp GeI where
  B := 2
  n := ntmpsOf P F_mummerref30_Reader_saved
  code := loopOf P F_mummerref30_Reader_saved 1
  fit s H := match s.get 0, s.get 3, s.get 4 with
    | .ptr b _ _, .ptr bx _ _, .int _ n => match rdxFit b 0 H, H.get bx with
      | some (_, r), some q => match q.c with
        | .cells (.int _ fr :: .msl m0 _ _ _ c0 :: .int _ r0 :: .int _ r1 :: .int _ r2 :: .int _ r3 :: .int _ r4 :: .int _ r5 :: .int _ r6 :: .int _ r7 :: .int _ pc :: .int _ ps :: .int _ d0 :: .int _ d1 :: .int _ d2 :: .int _ d3 :: .int _ d4 :: .int _ d5 :: .int _ d6 :: .int _ d7 :: .bool h :: .int _ steps :: nt :: .msl m2 _ _ _ c2 :: .msl m3 _ _ _ c3 :: .msl m4 _ _ _ c4 :: _) =>
          match rowOf H m0 c0, rowOf H m2 c2, rowOf H m3 c3, rowOf H m4 c4 with
          | some mem, some out, some disk, some queue => match nf, nt with
            | true, .sl b5 _ _ n5 _ _ => (nrowOf H b5 n5).map fun nt => ⟨r.x, r.e, fr, mem, ⟨r0, r1, r2, r3, r4, r5, r6, r7, pc, ps, d0, d1, d2, d3, d4, d5, d6, d7, h⟩, steps, nt, out, disk, queue, n.toNat, 0, [], false⟩
            | false, .nils => some ⟨r.x, r.e, fr, mem, ⟨r0, r1, r2, r3, r4, r5, r6, r7, pc, ps, d0, d1, d2, d3, d4, d5, d6, d7, h⟩, steps, ⟨0, 0, fun _ => 0, fun _ => 0, fun _ => 0, fun _ => 0⟩, out, disk, queue, n.toNat, 0, [], false⟩
            | _, _ => none
          | _, _, _, _ => none
        | _ => none
      | _, _ => none
    | _, _, _ => none
  pre i := (i.x.o + i.x.m ≤ i.x.bs.length ∧ i.x.bs.length ≤ 140737488355328 ∧ IsBytes i.x.bs ∧ i.x.m ≤ i.x.c) ∧ i.n ≤ 100000 ∧ i.k ≤ i.n ∧ i.l.length = i.k ∧ (i.fl = true → 1 ≤ i.k) ∧ (i.fl = false → i.k = 0)
  slots i := gnSlots ++ [(4, .int .i64 i.n), (10, .int .i64 i.k)]
  nx _ := 10
  L i := geL i.x.bs i.x.o i.x.m i.x.c i.e i.fr i.mem i.s i.steps i.nt nf i.out i.disk i.queue (bif i.fl then nsl 9 i.l.length else .nils) (bif i.fl then [(9, evsBlk i.l)] else [])
  m i := i.n - i.k
  outs i := geOuts i.x.bs i.fr i.mem i.s i.steps i.nt nf i.out i.disk i.queue i.r
  sh j := { j with fl := true }
/-! ### what the loops come to -/
theorem rnum_le {l : List Int} {most : Int} {s : RS} (h : s.o ≤ l.length) : (rnum l most s).2.o ≤ l.length := by
  unfold rnum
  split
  · exact h
  · cases hu : upN l s.o most with
    | ok n o => exact upP_le (upP_ok hu) h
    | no e => exact h
theorem RB_le {α β : Type} {N : Nat} {r : α × RS} {g : α → RS → β × RS} (h : r.2.o ≤ N) (hg : ∀ a s, s.o ≤ N → (g a s).2.o ≤ N) : (RB r g).2.o ≤ N := hg _ _ h
theorem rnote_le {l : List Int} {s : RS} (h : s.o ≤ l.length) : (rnote l s).2.o ≤ l.length := RB_le (rnum_le h) fun _ _ h => RB_le (rnum_le h) fun _ _ h => RB_le (rnum_le h) fun _ _ h => RB_le (rnum_le h) fun _ _ h => h
theorem rev3_le {l : List Int} {s : RS} (h : s.o ≤ l.length) : (rev3 l s).2.o ≤ l.length := RB_le (rnum_le h) fun _ _ h => RB_le (rnum_le h) fun _ _ h => RB_le (rnum_le h) fun _ _ h => h
theorem rmany_le {α : Type} {N : Nat} {p : RS → α × RS} (hp : ∀ s, s.o ≤ N → (p s).2.o ≤ N) : ∀ (k : Nat) (s : RS), s.o ≤ N → (rmany p k s).2.o ≤ N
  | 0, s, h => h
  | k + 1, s, h => by
    unfold rmany
    split
    · exact h
    · exact RB_le (hp s h) fun _ s h => RB_le (rmany_le hp k s h) fun _ _ h => h
theorem rmany_len {α : Type} {p : RS → α × RS} : ∀ (k : Nat) (s : RS), (rmany p k s).1.length ≤ k
  | 0, s => Nat.le_refl _
  | k + 1, s => by
    unfold rmany
    split
    · exact Nat.zero_le _
    · exact Nat.succ_le_succ (rmany_len k _)
theorem loR_eq {α : Type} {p : RS → α × RS} {N C : Nat} : ∀ (k : Nat) (l : List α) (s : RS), loR p N C k l s = ⟨l ++ (rmany p k s).1, (rmany p k s).2.o, N - (rmany p k s).2.o, C - (rmany p k s).2.o, (rmany p k s).2.e⟩
  | 0, l, s => by simp [loR, rmany]
  | k + 1, l, s => by
    unfold loR rmany
    split
    · simp
    · rw [loR_eq k]
      simp [RB]
theorem loR_stop {α : Type} {p : RS → α × RS} {N C n k : Nat} {l : List α} {s : RS} (h : n ≤ k ∨ s.e ≠ 0) : loR p N C (n - k) l s = ⟨l, s.o, N - s.o, C - s.o, s.e⟩ := by
  rcases h with h | h
  · rw [show n - k = 0 by omega]; rfl
  · cases n - k with
    | zero => rfl
    | succ j => unfold loR; rw [if_pos h]
theorem loR_go {α : Type} {p : RS → α × RS} {N C n k : Nat} {l : List α} {s s' : RS} {a : α} (h : k < n) (he : s.e = 0) (hp : p s = (a, s')) : loR p N C (n - (k + 1)) (l ++ [a]) s' = loR p N C (n - k) l s := by
  rw [show n - k = (n - (k + 1)) + 1 by omega]
  show _ = (if s.e ≠ 0 then _ else _)
  rw [if_neg (by simp [he]), hp]
end Go.Proofs.YtmbcpmbpkdeioaaGreatDoor.W
/- The document's reader: guests: the loops' walks. No condition. -/
namespace Go.Proofs.YtmbcpmbpkdeioaaGreatDoor.W
open Go Go.RowKit Go.Eng
set_option maxRecDepth 100000
set_option linter.unusedVariables false
set_option linter.unusedSimpArgs false
abbrev gnA_c_p1 (bs : List Int) (o m c : Nat) (e fr : Int) (mem : Row) (s : St) (steps : Int) (n k : Nat) (l : List N4) (j : GnI) : List AV :=
  [AV.msl 1 (GnI.mk j.x j.e j.fr j.mem j.s j.steps j.n j.k j.l true).r.o 0 (GnI.mk j.x j.e j.fr j.mem j.s j.steps j.n j.k j.l true).r.m (GnI.mk j.x j.e j.fr j.mem j.s j.steps j.n j.k j.l true).r.c, nI (GnI.mk j.x j.e j.fr j.mem j.s j.steps j.n j.k j.l true).r.e]
abbrev gnA_c_p2 (bs : List Int) (o m c : Nat) (e fr : Int) (mem : Row) (s : St) (steps : Int) (n k : Nat) (l : List N4) : List AV :=
  [AV.msl 1 (GnI.mk (RgX.mk bs o m c) e fr mem s steps n k l true).r.o 0 (GnI.mk (RgX.mk bs o m c) e fr mem s steps n k l true).r.m (GnI.mk (RgX.mk bs o m c) e fr mem s steps n k l true).r.c, nI (GnI.mk (RgX.mk bs o m c) e fr mem s steps n k l true).r.e]
abbrev gnA_c_p0 (bs : List Int) (o m c : Nat) (e fr : Int) (mem : Row) (s : St) (steps : Int) (n k : Nat) (l : List N4) : Prop :=
  sp (GnI.mk (RgX.mk bs o m c) e fr mem s steps n k l true).r.l.isEmpty ((AV.ptr 0 0 0 = AV.ptr 0 0 0 ∧ AV.ptr 2 0 0 = AV.ptr 2 0 0 ∧ AV.ptr 3 0 0 = AV.ptr 3 0 0 ∧ True) ∧ rdB o m c e = ABlk.mk true 2 (AC.cells (gnA_c_p2 bs o m c e fr mem s steps n k l)) ∧ bR bs = bR bs ∧ ABlk.mk true 35 (AC.cells zeroSv) = ABlk.mk true 35 (AC.cells [nI 0, AV.nils, nU 0, nU 0, nU 0, nU 0, nU 0, nU 0, nU 0, nU 0, nU 0, nU 0, nU 0, nU 0, nU 0, nU 0, nU 0, nU 0, nU 0, nU 0, AV.bool false, nI 0, AV.nils, AV.nils, AV.nils, AV.nils, AV.nils, nU 0, nU 0, nU 0, nU 0, nU 0, nU 0, nU 0, nU 0]) ∧ ABlk.mk true 35 (AC.cells [nI fr, AV.msl 4 0 0 mem.bs.length mem.c, nU s.r0, nU s.r1, nU s.r2, nU s.r3, nU s.r4, nU s.r5, nU s.r6, nU s.r7, nU s.pc, nU s.ps, nU s.c0, nU s.c1, nU s.c2, nU s.c3, nU s.c4, nU s.c5, nU s.c6, nU s.c7, AV.bool s.h, nI steps, AV.sl 5 0 0 l.length l.length false, AV.nils, AV.nils, AV.nils, AV.nils,
  nU 0, nU 0, nU 0, nU 0, nU 0, nU 0, nU 0, nU 0]) = ABlk.mk true 35 (AC.cells [nI fr, AV.msl 4 0 0 mem.bs.length mem.c, nU s.r0, nU s.r1, nU s.r2, nU s.r3, nU s.r4, nU s.r5, nU s.r6, nU s.r7, nU s.pc, nU s.ps, nU s.c0, nU s.c1, nU s.c2, nU s.c3, nU s.c4, nU s.c5, nU s.c6, nU s.c7, AV.bool s.h, nI steps, AV.nils, AV.nils, AV.nils, AV.nils, AV.nils, nU 0, nU 0, nU 0, nU 0, nU 0, nU 0, nU 0, nU 0]) ∧ bR mem.bs = bR mem.bs ∧ True) ((AV.ptr 0 0 0 = AV.ptr 0 0 0 ∧ AV.ptr 2 0 0 = AV.ptr 2 0 0 ∧ AV.ptr 3 0 0 = AV.ptr 3 0 0 ∧ True) ∧ rdB o m c e = ABlk.mk true 2 (AC.cells (gnA_c_p2 bs o m c e fr mem s steps n k l)) ∧ bR bs = bR bs ∧ ABlk.mk true 35 (AC.cells zeroSv) = ABlk.mk true 35 (AC.cells [nI 0, AV.nils, nU 0, nU 0, nU 0, nU 0, nU 0, nU 0, nU 0, nU 0, nU 0, nU 0, nU 0, nU 0, nU 0, nU 0, nU 0, nU 0, nU 0, nU 0, AV.bool false, nI 0, AV.nils, AV.nils, AV.nils, AV.nils, AV.nils, nU 0, nU 0, nU 0,
  nU 0, nU 0, nU 0, nU 0, nU 0]) ∧ ABlk.mk true 35 (AC.cells [nI fr, AV.msl 4 0 0 mem.bs.length mem.c, nU s.r0, nU s.r1, nU s.r2, nU s.r3, nU s.r4, nU s.r5, nU s.r6, nU s.r7, nU s.pc, nU s.ps, nU s.c0, nU s.c1, nU s.c2, nU s.c3, nU s.c4, nU s.c5, nU s.c6, nU s.c7, AV.bool s.h, nI steps, AV.sl 5 0 0 l.length l.length false, AV.nils, AV.nils, AV.nils, AV.nils, nU 0, nU 0, nU 0, nU 0, nU 0, nU 0, nU 0, nU 0]) = ABlk.mk true 35 (AC.cells [nI fr, AV.msl 4 0 0 mem.bs.length mem.c, nU s.r0, nU s.r1, nU s.r2, nU s.r3, nU s.r4, nU s.r5, nU s.r6, nU s.r7, nU s.pc, nU s.ps, nU s.c0, nU s.c1, nU s.c2, nU s.c3, nU s.c4, nU s.c5, nU s.c6, nU s.c7, AV.bool s.h, nI steps, AV.sl 5 0 0 (GnI.mk (RgX.mk bs o m c) e fr mem s steps n k l true).r.l.length (GnI.mk (RgX.mk bs o m c) e fr mem s steps n k l true).r.l.length false, AV.nils, AV.nils, AV.nils, AV.nils, nU 0, nU 0, nU 0, nU 0, nU 0, nU 0, nU 0, nU 0]) ∧
  bR mem.bs = bR mem.bs ∧ (true = true ∧ 4 = 4 ∧ l.length = (GnI.mk (RgX.mk bs o m c) e fr mem s steps n k l true).r.l.length ∧ ∀ (i : Nat), i < l.length → [nI (l.getD i instInhabitedN4.default).a, nI (l.getD i instInhabitedN4.default).c, nU (l.getD i instInhabitedN4.default).b, nU (l.getD i instInhabitedN4.default).d] = [nI ((GnI.mk (RgX.mk bs o m c) e fr mem s steps n k l true).r.l.getD i instInhabitedN4.default).a, nI ((GnI.mk (RgX.mk bs o m c) e fr mem s steps n k l true).r.l.getD i instInhabitedN4.default).c, nU ((GnI.mk (RgX.mk bs o m c) e fr mem s steps n k l true).r.l.getD i instInhabitedN4.default).b, nU ((GnI.mk (RgX.mk bs o m c) e fr mem s steps n k l true).r.l.getD i instInhabitedN4.default).d]) ∧ True)
abbrev gnA_c_p3 (bs : List Int) (o m c : Nat) (e fr : Int) (mem : Row) (s : St) (steps : Int) (n k : Nat) (l : List N4) (y : RdY) (y_1 : RdY) (y_2 : RdY) (y_3 : RdY) : List AV :=
  [nI (IntKind.i64.wrap y.n), nI (IntKind.i64.wrap y_1.n), nU y_2.n, nU y_3.n]
def gnA_c_V (bs : List Int) (o m c : Nat) (e fr : Int) (mem : Row) (s : St) (steps : Int) (n k : Nat) (l : List N4) : Prop :=
  sp (decide ((↑k : Int) < (↑n : Int))) (sp (bif true then e == 0 else false) (((o + m ≤ bs.length ∧ bs.length ≤ 140737488355328 ∧ IsBytes bs ∧ m ≤ c) ∧ InR 0 1099511627776 1099511627776) ∧ [AV.ptr 0 0 0, nL 1099511627776] = [AV.ptr 0 0 0, nL 1099511627776] ∧ (some (rdB o m c e) = some (rdB o m c e) ∧ some (bR bs) = some (bR bs) ∧ True) ∧ (∀ (y : RdY), (rnum (RdX.mk (RgX.mk bs o m c) e 1099511627776).l 1099511627776 (RS.mk o e) = (y.n, RS.mk y.o y.e) ∧ y.o + y.m = o + m ∧ y.m ≤ y.c ∧ y.o + y.c = o + c) ∧ InR 0 y.n 1099511627776 → ((y.o + y.m ≤ bs.length ∧ bs.length ≤ 140737488355328 ∧ IsBytes bs ∧ y.m ≤ y.c) ∧ InR 0 1099511627776 1099511627776) ∧ [AV.ptr 0 0 0, nL 1099511627776] = [AV.ptr 0 0 0, nL 1099511627776] ∧ (some (rdB y.o y.m y.c y.e) = some (rdB y.o y.m y.c y.e) ∧ some (bR bs) = some (bR bs) ∧ True) ∧ (∀ (y_1 : RdY), (rnum (RdX.mk (RgX.mk bs y.o y.m y.c) y.e 1099511627776).l
  1099511627776 (RS.mk y.o y.e) = (y_1.n, RS.mk y_1.o y_1.e) ∧ y_1.o + y_1.m = y.o + y.m ∧ y_1.m ≤ y_1.c ∧ y_1.o + y_1.c = y.o + y.c) ∧ InR 0 y_1.n 1099511627776 → (y_1.o + y_1.m ≤ bs.length ∧ bs.length ≤ 140737488355328 ∧ IsBytes bs ∧ y_1.m ≤ y_1.c) ∧ [AV.ptr 0 0 0] = [AV.ptr 0 0 0] ∧ (some (rdB y_1.o y_1.m y_1.c y_1.e) = some (rdB y_1.o y_1.m y_1.c y_1.e) ∧ some (bR bs) = some (bR bs) ∧ True) ∧ (∀ (y_2 : RdY), (rnum (RdX.mk (RgX.mk bs y_1.o y_1.m y_1.c) y_1.e 0).l 4294967295 (RS.mk y_1.o y_1.e) = (y_2.n, RS.mk y_2.o y_2.e) ∧ y_2.o + y_2.m = y_1.o + y_1.m ∧ y_2.m ≤ y_2.c ∧ y_2.o + y_2.c = y_1.o + y_1.c) ∧ InR 0 y_2.n 4294967295 → (y_2.o + y_2.m ≤ bs.length ∧ bs.length ≤ 140737488355328 ∧ IsBytes bs ∧ y_2.m ≤ y_2.c) ∧ [AV.ptr 0 0 0] = [AV.ptr 0 0 0] ∧ (some (rdB y_2.o y_2.m y_2.c y_2.e) = some (rdB y_2.o y_2.m y_2.c y_2.e) ∧ some (bR bs) = some (bR bs) ∧ True) ∧ (∀ (y_3 : RdY), (rnum
  (RdX.mk (RgX.mk bs y_2.o y_2.m y_2.c) y_2.e 0).l 4294967295 (RS.mk y_2.o y_2.e) = (y_3.n, RS.mk y_3.o y_3.e) ∧ y_3.o + y_3.m = y_2.o + y_2.m ∧ y_3.m ≤ y_3.c ∧ y_3.o + y_3.c = y_2.o + y_2.c) ∧ InR 0 y_3.n 4294967295 → sp (decide (0 + l.length ≤ l.length) && true && true && true && true && decide ((l.length + 1) * 24 ≤ 140737488355328) && decide (l.length + 1 ≤ 9223372036854775807)) (∃ (j : GnI), ((j.x.o + j.x.m ≤ j.x.bs.length ∧ j.x.bs.length ≤ 140737488355328 ∧ IsBytes j.x.bs ∧ j.x.m ≤ j.x.c) ∧ j.n ≤ 100000 ∧ j.k ≤ j.n ∧ j.l.length = j.k ∧ (true = true → 1 ≤ j.k) ∧ (true = false → j.k = 0)) ∧ j.n - j.k < n - k ∧ [((GnI.mk j.x j.e j.fr j.mem j.s j.steps j.n j.k j.l true).r.l.isEmpty, LOut.mk (AX.exit 0) gnSlots 6 [(0, ABlk.mk true 2 (AC.cells (gnA_c_p1 bs o m c e fr mem s steps n k l j))), (1, bR j.x.bs), (2, ABlk.mk true 35 (AC.cells zeroSv)), (3, ABlk.mk true 35 (AC.cells [nI j.fr,
  AV.msl 4 0 0 j.mem.bs.length j.mem.c, nU j.s.r0, nU j.s.r1, nU j.s.r2, nU j.s.r3, nU j.s.r4, nU j.s.r5, nU j.s.r6, nU j.s.r7, nU j.s.pc, nU j.s.ps, nU j.s.c0, nU j.s.c1, nU j.s.c2, nU j.s.c3, nU j.s.c4, nU j.s.c5, nU j.s.c6, nU j.s.c7, AV.bool j.s.h, nI j.steps, AV.nils, AV.nils, AV.nils, AV.nils, AV.nils, nU 0, nU 0, nU 0, nU 0, nU 0, nU 0, nU 0, nU 0])), (4, bR j.mem.bs)]), (true, LOut.mk (AX.exit 0) gnSlots 6 [(0, ABlk.mk true 2 (AC.cells (gnA_c_p1 bs o m c e fr mem s steps n k l j))), (1, bR j.x.bs), (2, ABlk.mk true 35 (AC.cells zeroSv)), (3, ABlk.mk true 35 (AC.cells [nI j.fr, AV.msl 4 0 0 j.mem.bs.length j.mem.c, nU j.s.r0, nU j.s.r1, nU j.s.r2, nU j.s.r3, nU j.s.r4, nU j.s.r5, nU j.s.r6, nU j.s.r7, nU j.s.pc, nU j.s.ps, nU j.s.c0, nU j.s.c1, nU j.s.c2, nU j.s.c3, nU j.s.c4, nU j.s.c5, nU j.s.c6, nU j.s.c7, AV.bool j.s.h, nI j.steps, AV.sl 5 0 0 (GnI.mk j.x j.e j.fr j.mem j.s
  j.steps j.n j.k j.l true).r.l.length (GnI.mk j.x j.e j.fr j.mem j.s j.steps j.n j.k j.l true).r.l.length false, AV.nils, AV.nils, AV.nils, AV.nils, nU 0, nU 0, nU 0, nU 0, nU 0, nU 0, nU 0, nU 0])), (4, bR j.mem.bs), (5, ABlk.mk true 4 (AC.recs (GnI.mk j.x j.e j.fr j.mem j.s j.steps j.n j.k j.l true).r.l.length fun (i : Nat) => [nI ((GnI.mk j.x j.e j.fr j.mem j.s j.steps j.n j.k j.l true).r.l.getD i instInhabitedN4.default).a, nI ((GnI.mk j.x j.e j.fr j.mem j.s j.steps j.n j.k j.l true).r.l.getD i instInhabitedN4.default).c, nU ((GnI.mk j.x j.e j.fr j.mem j.s j.steps j.n j.k j.l true).r.l.getD i instInhabitedN4.default).b, nU ((GnI.mk j.x j.e j.fr j.mem j.s j.steps j.n j.k j.l true).r.l.getD i instInhabitedN4.default).d]))])] = [((GnI.mk (RgX.mk bs o m c) e fr mem s steps n k l true).r.l.isEmpty, LOut.mk (AX.exit 0) gnSlots 6 [(0, ABlk.mk true 2 (AC.cells (gnA_c_p2 bs o m c e fr mem s
  steps n k l))), (1, bR bs), (2, ABlk.mk true 35 (AC.cells zeroSv)), (3, ABlk.mk true 35 (AC.cells [nI fr, AV.msl 4 0 0 mem.bs.length mem.c, nU s.r0, nU s.r1, nU s.r2, nU s.r3, nU s.r4, nU s.r5, nU s.r6, nU s.r7, nU s.pc, nU s.ps, nU s.c0, nU s.c1, nU s.c2, nU s.c3, nU s.c4, nU s.c5, nU s.c6, nU s.c7, AV.bool s.h, nI steps, AV.nils, AV.nils, AV.nils, AV.nils, AV.nils, nU 0, nU 0, nU 0, nU 0, nU 0, nU 0, nU 0, nU 0])), (4, bR mem.bs)]), (true, LOut.mk (AX.exit 0) gnSlots 6 [(0, ABlk.mk true 2 (AC.cells (gnA_c_p2 bs o m c e fr mem s steps n k l))), (1, bR bs), (2, ABlk.mk true 35 (AC.cells zeroSv)), (3, ABlk.mk true 35 (AC.cells [nI fr, AV.msl 4 0 0 mem.bs.length mem.c, nU s.r0, nU s.r1, nU s.r2, nU s.r3, nU s.r4, nU s.r5, nU s.r6, nU s.r7, nU s.pc, nU s.ps, nU s.c0, nU s.c1, nU s.c2, nU s.c3, nU s.c4, nU s.c5, nU s.c6, nU s.c7, AV.bool s.h, nI steps, AV.sl 5 0 0 (GnI.mk (RgX.mk bs o m c) e
  fr mem s steps n k l true).r.l.length (GnI.mk (RgX.mk bs o m c) e fr mem s steps n k l true).r.l.length false, AV.nils, AV.nils, AV.nils, AV.nils, nU 0, nU 0, nU 0, nU 0, nU 0, nU 0, nU 0, nU 0])), (4, bR mem.bs), (5, ABlk.mk true 4 (AC.recs (GnI.mk (RgX.mk bs o m c) e fr mem s steps n k l true).r.l.length fun (i : Nat) => [nI ((GnI.mk (RgX.mk bs o m c) e fr mem s steps n k l true).r.l.getD i instInhabitedN4.default).a, nI ((GnI.mk (RgX.mk bs o m c) e fr mem s steps n k l true).r.l.getD i instInhabitedN4.default).c, nU ((GnI.mk (RgX.mk bs o m c) e fr mem s steps n k l true).r.l.getD i instInhabitedN4.default).b, nU ((GnI.mk (RgX.mk bs o m c) e fr mem s steps n k l true).r.l.getD i instInhabitedN4.default).d]))])] ∧ (AV.ptr 0 0 0 = AV.ptr 0 0 0 ∧ AV.ptr 2 0 0 = AV.ptr 2 0 0 ∧ AV.ptr 3 0 0 = AV.ptr 3 0 0 ∧ nI (↑n : Int) = nI (↑j.n : Int) ∧ nI (IntKind.i64.wrap ((↑k : Int) + 1)) = nI (↑j.k :
  Int) ∧ True) ∧ rdB y_3.o y_3.m y_3.c y_3.e = rdB j.x.o j.x.m j.x.c j.e ∧ bR bs = bR j.x.bs ∧ ABlk.mk true 35 (AC.cells zeroSv) = ABlk.mk true 35 (AC.cells [nI 0, AV.nils, nU 0, nU 0, nU 0, nU 0, nU 0, nU 0, nU 0, nU 0, nU 0, nU 0, nU 0, nU 0, nU 0, nU 0, nU 0, nU 0, nU 0, nU 0, AV.bool false, nI 0, AV.nils, AV.nils, AV.nils, AV.nils, AV.nils, nU 0, nU 0, nU 0, nU 0, nU 0, nU 0, nU 0, nU 0]) ∧ ABlk.mk true 35 (AC.cells ([nI fr, AV.msl 4 0 0 mem.bs.length mem.c, nU s.r0, nU s.r1, nU s.r2, nU s.r3, nU s.r4, nU s.r5, nU s.r6, nU s.r7, nU s.pc, nU s.ps, nU s.c0, nU s.c1, nU s.c2, nU s.c3, nU s.c4, nU s.c5, nU s.c6, nU s.c7, AV.bool s.h, nI steps, AV.sl 5 0 0 l.length l.length false, AV.nils, AV.nils, AV.nils, AV.nils, nU 0, nU 0, nU 0, nU 0, nU 0, nU 0, nU 0, nU 0].set 22 (AV.sl 7 0 0 (l.length + 1) (l.length + 1) false))) = ABlk.mk true 35 (AC.cells [nI j.fr, AV.msl 4 0 0 j.mem.bs.length
  j.mem.c, nU j.s.r0, nU j.s.r1, nU j.s.r2, nU j.s.r3, nU j.s.r4, nU j.s.r5, nU j.s.r6, nU j.s.r7, nU j.s.pc, nU j.s.ps, nU j.s.c0, nU j.s.c1, nU j.s.c2, nU j.s.c3, nU j.s.c4, nU j.s.c5, nU j.s.c6, nU j.s.c7, AV.bool j.s.h, nI j.steps, AV.sl 7 0 0 j.l.length j.l.length false, AV.nils, AV.nils, AV.nils, AV.nils, nU 0, nU 0, nU 0, nU 0, nU 0, nU 0, nU 0, nU 0]) ∧ bR mem.bs = bR j.mem.bs ∧ (true = true ∧ 4 = 4 ∧ l.length + (List.take 4 (List.drop 0 (gnA_c_p3 bs o m c e fr mem s steps n k l y y_1 y_2 y_3))).length / 4 = j.l.length ∧ ∀ (i : Nat), i < l.length + (List.take 4 (List.drop 0 (gnA_c_p3 bs o m c e fr mem s steps n k l y y_1 y_2 y_3))).length / 4 → (bif i.blt l.length then [nI (l.getD (0 + i) instInhabitedN4.default).a, nI (l.getD (0 + i) instInhabitedN4.default).c, nU (l.getD (0 + i) instInhabitedN4.default).b, nU (l.getD (0 + i) instInhabitedN4.default).d] else List.take 4 (List.drop
  ((i - l.length) * 4) (List.take 4 (List.drop 0 (gnA_c_p3 bs o m c e fr mem s steps n k l y y_1 y_2 y_3))))) = [nI (j.l.getD i instInhabitedN4.default).a, nI (j.l.getD i instInhabitedN4.default).c, nU (j.l.getD i instInhabitedN4.default).b, nU (j.l.getD i instInhabitedN4.default).d]) ∧ True) False) ∧ True) ∧ True) ∧ True) ∧ True) (gnA_c_p0 bs o m c e fr mem s steps n k l)) (gnA_c_p0 bs o m c e fr mem s steps n k l)
theorem gnA_c_e (bs : List Int) (o m c : Nat) (e fr : Int) (mem : Row) (s : St) (steps : Int) (n k : Nat) (l : List N4) : some (gnA_c_V bs o m c e fr mem s steps n k l) = (some ((gnLp Go.Proofs.Tryz.prog).body sp Go.Proofs.Tryz.prog (orK ((rnumC F_mummerref30_Reader_number .u64 rnum).orc sp) (rwordC.orc sp)) (drP sp Go.Proofs.Tryz.prog (orK ((rnumC F_mummerref30_Reader_number .u64 rnum).orc sp) (rwordC.orc sp))) noLo 40 ⟨⟨bs, o, m, c⟩, e, fr, mem, s, steps, n, k, l, true⟩)) := by kernel_rfl
abbrev gnB_c_p1 (bs : List Int) (o m c : Nat) (e fr : Int) (mem : Row) (s : St) (steps : Int) (n : Nat) : List AV :=
  [nI fr, AV.msl 4 0 0 mem.bs.length mem.c, nU s.r0, nU s.r1, nU s.r2, nU s.r3, nU s.r4, nU s.r5, nU s.r6, nU s.r7, nU s.pc, nU s.ps, nU s.c0, nU s.c1, nU s.c2, nU s.c3, nU s.c4, nU s.c5, nU s.c6, nU s.c7, AV.bool s.h, nI steps, AV.nils, AV.nils, AV.nils, AV.nils, AV.nils, nU 0, nU 0, nU 0, nU 0, nU 0, nU 0, nU 0, nU 0]
abbrev gnB_c_p2 (bs : List Int) (o m c : Nat) (e fr : Int) (mem : Row) (s : St) (steps : Int) (n : Nat) : List AV :=
  [AV.msl 1 (GnI.mk (RgX.mk bs o m c) e fr mem s steps n 0 [] false).r.o 0 (GnI.mk (RgX.mk bs o m c) e fr mem s steps n 0 [] false).r.m (GnI.mk (RgX.mk bs o m c) e fr mem s steps n 0 [] false).r.c, nI (GnI.mk (RgX.mk bs o m c) e fr mem s steps n 0 [] false).r.e]
abbrev gnB_c_p0 (bs : List Int) (o m c : Nat) (e fr : Int) (mem : Row) (s : St) (steps : Int) (n : Nat) : Prop :=
  sp (GnI.mk (RgX.mk bs o m c) e fr mem s steps n 0 [] false).r.l.isEmpty ((AV.ptr 0 0 0 = AV.ptr 0 0 0 ∧ AV.ptr 2 0 0 = AV.ptr 2 0 0 ∧ AV.ptr 3 0 0 = AV.ptr 3 0 0 ∧ True) ∧ rdB o m c e = ABlk.mk true 2 (AC.cells (gnB_c_p2 bs o m c e fr mem s steps n)) ∧ bR bs = bR bs ∧ ABlk.mk true 35 (AC.cells zeroSv) = ABlk.mk true 35 (AC.cells [nI 0, AV.nils, nU 0, nU 0, nU 0, nU 0, nU 0, nU 0, nU 0, nU 0, nU 0, nU 0, nU 0, nU 0, nU 0, nU 0, nU 0, nU 0, nU 0, nU 0, AV.bool false, nI 0, AV.nils, AV.nils, AV.nils, AV.nils, AV.nils, nU 0, nU 0, nU 0, nU 0, nU 0, nU 0, nU 0, nU 0]) ∧ ABlk.mk true 35 (AC.cells (gnB_c_p1 bs o m c e fr mem s steps n)) = ABlk.mk true 35 (AC.cells (gnB_c_p1 bs o m c e fr mem s steps n)) ∧ bR mem.bs = bR mem.bs ∧ True) ((AV.ptr 0 0 0 = AV.ptr 0 0 0 ∧ AV.ptr 2 0 0 = AV.ptr 2 0 0 ∧ AV.ptr 3 0 0 = AV.ptr 3 0 0 ∧ True) ∧ rdB o m c e = ABlk.mk true 2 (AC.cells (gnB_c_p2 bs o m c e fr
  mem s steps n)) ∧ bR bs = bR bs ∧ ABlk.mk true 35 (AC.cells zeroSv) = ABlk.mk true 35 (AC.cells [nI 0, AV.nils, nU 0, nU 0, nU 0, nU 0, nU 0, nU 0, nU 0, nU 0, nU 0, nU 0, nU 0, nU 0, nU 0, nU 0, nU 0, nU 0, nU 0, nU 0, AV.bool false, nI 0, AV.nils, AV.nils, AV.nils, AV.nils, AV.nils, nU 0, nU 0, nU 0, nU 0, nU 0, nU 0, nU 0, nU 0]) ∧ ABlk.mk true 35 (AC.cells (gnB_c_p1 bs o m c e fr mem s steps n)) = ABlk.mk true 35 (AC.cells [nI fr, AV.msl 4 0 0 mem.bs.length mem.c, nU s.r0, nU s.r1, nU s.r2, nU s.r3, nU s.r4, nU s.r5, nU s.r6, nU s.r7, nU s.pc, nU s.ps, nU s.c0, nU s.c1, nU s.c2, nU s.c3, nU s.c4, nU s.c5, nU s.c6, nU s.c7, AV.bool s.h, nI steps, AV.sl 6 0 0 (GnI.mk (RgX.mk bs o m c) e fr mem s steps n 0 [] false).r.l.length (GnI.mk (RgX.mk bs o m c) e fr mem s steps n 0 [] false).r.l.length false, AV.nils, AV.nils, AV.nils, AV.nils, nU 0, nU 0, nU 0, nU 0, nU 0, nU 0, nU 0, nU 0]) ∧
  bR mem.bs = bR mem.bs ∧ False ∧ True)
abbrev gnB_c_p3 (bs : List Int) (o m c : Nat) (e fr : Int) (mem : Row) (s : St) (steps : Int) (n : Nat) (j : GnI) : List AV :=
  [AV.msl 1 (GnI.mk j.x j.e j.fr j.mem j.s j.steps j.n j.k j.l true).r.o 0 (GnI.mk j.x j.e j.fr j.mem j.s j.steps j.n j.k j.l true).r.m (GnI.mk j.x j.e j.fr j.mem j.s j.steps j.n j.k j.l true).r.c, nI (GnI.mk j.x j.e j.fr j.mem j.s j.steps j.n j.k j.l true).r.e]
abbrev gnB_c_p4 (bs : List Int) (o m c : Nat) (e fr : Int) (mem : Row) (s : St) (steps : Int) (n : Nat) (y : RdY) (y_1 : RdY) (y_2 : RdY) (y_3 : RdY) : List AV :=
  [nI (IntKind.i64.wrap y.n), nI (IntKind.i64.wrap y_1.n), nU y_2.n, nU y_3.n]
def gnB_c_V (bs : List Int) (o m c : Nat) (e fr : Int) (mem : Row) (s : St) (steps : Int) (n : Nat) : Prop :=
  sp (decide (0 < (↑n : Int))) (sp (bif true then e == 0 else false) (((o + m ≤ bs.length ∧ bs.length ≤ 140737488355328 ∧ IsBytes bs ∧ m ≤ c) ∧ InR 0 1099511627776 1099511627776) ∧ [AV.ptr 0 0 0, nL 1099511627776] = [AV.ptr 0 0 0, nL 1099511627776] ∧ (some (rdB o m c e) = some (rdB o m c e) ∧ some (bR bs) = some (bR bs) ∧ True) ∧ (∀ (y : RdY), (rnum (RdX.mk (RgX.mk bs o m c) e 1099511627776).l 1099511627776 (RS.mk o e) = (y.n, RS.mk y.o y.e) ∧ y.o + y.m = o + m ∧ y.m ≤ y.c ∧ y.o + y.c = o + c) ∧ InR 0 y.n 1099511627776 → ((y.o + y.m ≤ bs.length ∧ bs.length ≤ 140737488355328 ∧ IsBytes bs ∧ y.m ≤ y.c) ∧ InR 0 1099511627776 1099511627776) ∧ [AV.ptr 0 0 0, nL 1099511627776] = [AV.ptr 0 0 0, nL 1099511627776] ∧ (some (rdB y.o y.m y.c y.e) = some (rdB y.o y.m y.c y.e) ∧ some (bR bs) = some (bR bs) ∧ True) ∧ (∀ (y_1 : RdY), (rnum (RdX.mk (RgX.mk bs y.o y.m y.c) y.e 1099511627776).l 1099511627776
  (RS.mk y.o y.e) = (y_1.n, RS.mk y_1.o y_1.e) ∧ y_1.o + y_1.m = y.o + y.m ∧ y_1.m ≤ y_1.c ∧ y_1.o + y_1.c = y.o + y.c) ∧ InR 0 y_1.n 1099511627776 → (y_1.o + y_1.m ≤ bs.length ∧ bs.length ≤ 140737488355328 ∧ IsBytes bs ∧ y_1.m ≤ y_1.c) ∧ [AV.ptr 0 0 0] = [AV.ptr 0 0 0] ∧ (some (rdB y_1.o y_1.m y_1.c y_1.e) = some (rdB y_1.o y_1.m y_1.c y_1.e) ∧ some (bR bs) = some (bR bs) ∧ True) ∧ (∀ (y_2 : RdY), (rnum (RdX.mk (RgX.mk bs y_1.o y_1.m y_1.c) y_1.e 0).l 4294967295 (RS.mk y_1.o y_1.e) = (y_2.n, RS.mk y_2.o y_2.e) ∧ y_2.o + y_2.m = y_1.o + y_1.m ∧ y_2.m ≤ y_2.c ∧ y_2.o + y_2.c = y_1.o + y_1.c) ∧ InR 0 y_2.n 4294967295 → (y_2.o + y_2.m ≤ bs.length ∧ bs.length ≤ 140737488355328 ∧ IsBytes bs ∧ y_2.m ≤ y_2.c) ∧ [AV.ptr 0 0 0] = [AV.ptr 0 0 0] ∧ (some (rdB y_2.o y_2.m y_2.c y_2.e) = some (rdB y_2.o y_2.m y_2.c y_2.e) ∧ some (bR bs) = some (bR bs) ∧ True) ∧ (∀ (y_3 : RdY), (rnum (RdX.mk (RgX.mk bs
  y_2.o y_2.m y_2.c) y_2.e 0).l 4294967295 (RS.mk y_2.o y_2.e) = (y_3.n, RS.mk y_3.o y_3.e) ∧ y_3.o + y_3.m = y_2.o + y_2.m ∧ y_3.m ≤ y_3.c ∧ y_3.o + y_3.c = y_2.o + y_2.c) ∧ InR 0 y_3.n 4294967295 → ∃ (j : GnI), ((j.x.o + j.x.m ≤ j.x.bs.length ∧ j.x.bs.length ≤ 140737488355328 ∧ IsBytes j.x.bs ∧ j.x.m ≤ j.x.c) ∧ j.n ≤ 100000 ∧ j.k ≤ j.n ∧ j.l.length = j.k ∧ (true = true → 1 ≤ j.k) ∧ (true = false → j.k = 0)) ∧ j.n - j.k < n - 0 ∧ [((GnI.mk j.x j.e j.fr j.mem j.s j.steps j.n j.k j.l true).r.l.isEmpty, LOut.mk (AX.exit 0) gnSlots 6 [(0, ABlk.mk true 2 (AC.cells (gnB_c_p3 bs o m c e fr mem s steps n j))), (1, bR j.x.bs), (2, ABlk.mk true 35 (AC.cells zeroSv)), (3, ABlk.mk true 35 (AC.cells [nI j.fr, AV.msl 4 0 0 j.mem.bs.length j.mem.c, nU j.s.r0, nU j.s.r1, nU j.s.r2, nU j.s.r3, nU j.s.r4, nU j.s.r5, nU j.s.r6, nU j.s.r7, nU j.s.pc, nU j.s.ps, nU j.s.c0, nU j.s.c1, nU j.s.c2, nU j.s.c3, nU
  j.s.c4, nU j.s.c5, nU j.s.c6, nU j.s.c7, AV.bool j.s.h, nI j.steps, AV.nils, AV.nils, AV.nils, AV.nils, AV.nils, nU 0, nU 0, nU 0, nU 0, nU 0, nU 0, nU 0, nU 0])), (4, bR j.mem.bs)]), (true, LOut.mk (AX.exit 0) gnSlots 6 [(0, ABlk.mk true 2 (AC.cells (gnB_c_p3 bs o m c e fr mem s steps n j))), (1, bR j.x.bs), (2, ABlk.mk true 35 (AC.cells zeroSv)), (3, ABlk.mk true 35 (AC.cells [nI j.fr, AV.msl 4 0 0 j.mem.bs.length j.mem.c, nU j.s.r0, nU j.s.r1, nU j.s.r2, nU j.s.r3, nU j.s.r4, nU j.s.r5, nU j.s.r6, nU j.s.r7, nU j.s.pc, nU j.s.ps, nU j.s.c0, nU j.s.c1, nU j.s.c2, nU j.s.c3, nU j.s.c4, nU j.s.c5, nU j.s.c6, nU j.s.c7, AV.bool j.s.h, nI j.steps, AV.sl 5 0 0 (GnI.mk j.x j.e j.fr j.mem j.s j.steps j.n j.k j.l true).r.l.length (GnI.mk j.x j.e j.fr j.mem j.s j.steps j.n j.k j.l true).r.l.length false, AV.nils, AV.nils, AV.nils, AV.nils, nU 0, nU 0, nU 0, nU 0, nU 0, nU 0, nU 0, nU 0])), (4,
  bR j.mem.bs), (5, ABlk.mk true 4 (AC.recs (GnI.mk j.x j.e j.fr j.mem j.s j.steps j.n j.k j.l true).r.l.length fun (i : Nat) => [nI ((GnI.mk j.x j.e j.fr j.mem j.s j.steps j.n j.k j.l true).r.l.getD i instInhabitedN4.default).a, nI ((GnI.mk j.x j.e j.fr j.mem j.s j.steps j.n j.k j.l true).r.l.getD i instInhabitedN4.default).c, nU ((GnI.mk j.x j.e j.fr j.mem j.s j.steps j.n j.k j.l true).r.l.getD i instInhabitedN4.default).b, nU ((GnI.mk j.x j.e j.fr j.mem j.s j.steps j.n j.k j.l true).r.l.getD i instInhabitedN4.default).d]))])] = [((GnI.mk (RgX.mk bs o m c) e fr mem s steps n 0 [] false).r.l.isEmpty, LOut.mk (AX.exit 0) gnSlots 6 [(0, ABlk.mk true 2 (AC.cells (gnB_c_p2 bs o m c e fr mem s steps n))), (1, bR bs), (2, ABlk.mk true 35 (AC.cells zeroSv)), (3, ABlk.mk true 35 (AC.cells (gnB_c_p1 bs o m c e fr mem s steps n))), (4, bR mem.bs)]), (true, LOut.mk (AX.exit 0) gnSlots 6 [(0, ABlk.mk
  true 2 (AC.cells (gnB_c_p2 bs o m c e fr mem s steps n))), (1, bR bs), (2, ABlk.mk true 35 (AC.cells zeroSv)), (3, ABlk.mk true 35 (AC.cells [nI fr, AV.msl 4 0 0 mem.bs.length mem.c, nU s.r0, nU s.r1, nU s.r2, nU s.r3, nU s.r4, nU s.r5, nU s.r6, nU s.r7, nU s.pc, nU s.ps, nU s.c0, nU s.c1, nU s.c2, nU s.c3, nU s.c4, nU s.c5, nU s.c6, nU s.c7, AV.bool s.h, nI steps, AV.sl 5 0 0 (GnI.mk (RgX.mk bs o m c) e fr mem s steps n 0 [] false).r.l.length (GnI.mk (RgX.mk bs o m c) e fr mem s steps n 0 [] false).r.l.length false, AV.nils, AV.nils, AV.nils, AV.nils, nU 0, nU 0, nU 0, nU 0, nU 0, nU 0, nU 0, nU 0])), (4, bR mem.bs), (5, ABlk.mk true 4 (AC.recs (GnI.mk (RgX.mk bs o m c) e fr mem s steps n 0 [] false).r.l.length fun (i : Nat) => [nI ((GnI.mk (RgX.mk bs o m c) e fr mem s steps n 0 [] false).r.l.getD i instInhabitedN4.default).a, nI ((GnI.mk (RgX.mk bs o m c) e fr mem s steps n 0 []
  false).r.l.getD i instInhabitedN4.default).c, nU ((GnI.mk (RgX.mk bs o m c) e fr mem s steps n 0 [] false).r.l.getD i instInhabitedN4.default).b, nU ((GnI.mk (RgX.mk bs o m c) e fr mem s steps n 0 [] false).r.l.getD i instInhabitedN4.default).d]))])] ∧ (AV.ptr 0 0 0 = AV.ptr 0 0 0 ∧ AV.ptr 2 0 0 = AV.ptr 2 0 0 ∧ AV.ptr 3 0 0 = AV.ptr 3 0 0 ∧ nI (↑n : Int) = nI (↑j.n : Int) ∧ nI 1 = nI (↑j.k : Int) ∧ True) ∧ rdB y_3.o y_3.m y_3.c y_3.e = rdB j.x.o j.x.m j.x.c j.e ∧ bR bs = bR j.x.bs ∧ ABlk.mk true 35 (AC.cells zeroSv) = ABlk.mk true 35 (AC.cells [nI 0, AV.nils, nU 0, nU 0, nU 0, nU 0, nU 0, nU 0, nU 0, nU 0, nU 0, nU 0, nU 0, nU 0, nU 0, nU 0, nU 0, nU 0, nU 0, nU 0, AV.bool false, nI 0, AV.nils, AV.nils, AV.nils, AV.nils, AV.nils, nU 0, nU 0, nU 0, nU 0, nU 0, nU 0, nU 0, nU 0]) ∧ ABlk.mk true 35 (AC.cells ((gnB_c_p1 bs o m c e fr mem s steps n).set 22 (AV.sl 7 0 0 1 1 false))) = ABlk.mk
  true 35 (AC.cells [nI j.fr, AV.msl 4 0 0 j.mem.bs.length j.mem.c, nU j.s.r0, nU j.s.r1, nU j.s.r2, nU j.s.r3, nU j.s.r4, nU j.s.r5, nU j.s.r6, nU j.s.r7, nU j.s.pc, nU j.s.ps, nU j.s.c0, nU j.s.c1, nU j.s.c2, nU j.s.c3, nU j.s.c4, nU j.s.c5, nU j.s.c6, nU j.s.c7, AV.bool j.s.h, nI j.steps, AV.sl 7 0 0 j.l.length j.l.length false, AV.nils, AV.nils, AV.nils, AV.nils, nU 0, nU 0, nU 0, nU 0, nU 0, nU 0, nU 0, nU 0]) ∧ bR mem.bs = bR j.mem.bs ∧ (true = true ∧ 4 = 4 ∧ (List.take 4 (List.drop 0 (gnB_c_p4 bs o m c e fr mem s steps n y y_1 y_2 y_3))).length = j.l.length * 4 ∧ ∀ (i : Nat), i < j.l.length → ∀ (j_1 : Nat), j_1 < 4 → (List.take 4 (List.drop 0 (gnB_c_p4 bs o m c e fr mem s steps n y y_1 y_2 y_3))).getD (i * 4 + j_1) AV.any = [nI (j.l.getD i instInhabitedN4.default).a, nI (j.l.getD i instInhabitedN4.default).c, nU (j.l.getD i instInhabitedN4.default).b, nU (j.l.getD i
  instInhabitedN4.default).d].getD j_1 AV.any) ∧ True) ∧ True) ∧ True) ∧ True) ∧ True) (gnB_c_p0 bs o m c e fr mem s steps n)) (gnB_c_p0 bs o m c e fr mem s steps n)
theorem gnB_c_e (bs : List Int) (o m c : Nat) (e fr : Int) (mem : Row) (s : St) (steps : Int) (n : Nat) : some (gnB_c_V bs o m c e fr mem s steps n) = (some ((gnLp Go.Proofs.Tryz.prog).body sp Go.Proofs.Tryz.prog (orK ((rnumC F_mummerref30_Reader_number .u64 rnum).orc sp) (rwordC.orc sp)) (drP sp Go.Proofs.Tryz.prog (orK ((rnumC F_mummerref30_Reader_number .u64 rnum).orc sp) (rwordC.orc sp))) noLo 40 ⟨⟨bs, o, m, c⟩, e, fr, mem, s, steps, n, 0, [], false⟩)) := by kernel_rfl
set_option maxRecDepth 100000 in
set_option maxHeartbeats 4000000 in
theorem gnA_ok (bs : List Int) (o m c : Nat) (e fr : Int) (mem : Row) (s : St) (steps : Int) (n k : Nat) (l : List N4) (h1 : o + m ≤ bs.length) (h2 : bs.length ≤ 140737488355328) (h3 : IsBytes bs) (h4 : m ≤ c) (h5 : n ≤ 100000) (h6 : k ≤ n) (h7 : l.length = k) (h8 : 1 ≤ k) : gnA_c_V bs o m c e fr mem s steps n k l := by
  have stop : n ≤ k ∨ e ≠ 0 → (GnI.mk ⟨bs, o, m, c⟩ e fr mem s steps n k l true).r = ⟨l, o, m, c, e⟩ := fun h => by
    unfold GnI.r
    rw [loR_stop h]
    simp
  unfold gnA_c_V gnA_c_p3 gnA_c_p0 gnA_c_p2 gnA_c_p1
  refine spI (fun hk => spI (fun he => ?_) (fun he => ?_)) (fun hk => ?_)
  · have hk : k < n := by have := of_decide_eq_true hk; omega
    have he : e = 0 := by simpa using he
    refine ⟨⟨⟨h1, h2, h3, h4⟩, ⟨by decide, by decide⟩⟩, rfl, ⟨rfl, rfl, trivial⟩, fun y0 g0 => ?_, trivial⟩
    have E0 : y0.o + y0.m = o + m := g0.1.2.1
    have C0 : y0.o + y0.c = o + c := g0.1.2.2.2
    have r0 : rnum (bs.take (o + m)) 1099511627776 ⟨o, e⟩ = (y0.n, ⟨y0.o, y0.e⟩) := by exact g0.1.1
    refine ⟨⟨⟨by rw [E0]; exact h1, h2, h3, g0.1.2.2.1⟩, ⟨by decide, by decide⟩⟩, rfl, ⟨rfl, rfl, trivial⟩, fun y1 g1 => ?_, trivial⟩
    have E1 : y1.o + y1.m = o + m := g1.1.2.1.trans E0
    have C1 : y1.o + y1.c = o + c := g1.1.2.2.2.trans C0
    have r1 : rnum (bs.take (o + m)) 1099511627776 ⟨y0.o, y0.e⟩ = (y1.n, ⟨y1.o, y1.e⟩) := by rw [← E0]; exact g1.1.1
    refine ⟨⟨by rw [E1]; exact h1, h2, h3, g1.1.2.2.1⟩, rfl, ⟨rfl, rfl, trivial⟩, fun y2 g2 => ?_, trivial⟩
    have E2 : y2.o + y2.m = o + m := g2.1.2.1.trans E1
    have C2 : y2.o + y2.c = o + c := g2.1.2.2.2.trans C1
    have r2 : rnum (bs.take (o + m)) 4294967295 ⟨y1.o, y1.e⟩ = (y2.n, ⟨y2.o, y2.e⟩) := by rw [← E1]; exact g2.1.1
    refine ⟨⟨by rw [E2]; exact h1, h2, h3, g2.1.2.2.1⟩, rfl, ⟨rfl, rfl, trivial⟩, fun y3 g3 => ?_, trivial⟩
    have E3 : y3.o + y3.m = o + m := g3.1.2.1.trans E2
    have C3 : y3.o + y3.c = o + c := g3.1.2.2.2.trans C2
    have r3 : rnum (bs.take (o + m)) 4294967295 ⟨y2.o, y2.e⟩ = (y3.n, ⟨y3.o, y3.e⟩) := by rw [← E2]; exact g3.1.1
    have hr : rnote (bs.take (o + m)) ⟨o, e⟩ = (⟨y0.n, y1.n, y2.n, y3.n⟩, ⟨y3.o, y3.e⟩) := by simp only [rnote, RB, r0, r1, r2, r3]
    have w0 : IntKind.wrap .i64 y0.n = y0.n := IntWalk.i64_in _ (by have := g0.2.lo; have := g0.2.hi; omega)
    have w1 : IntKind.wrap .i64 y1.n = y1.n := IntWalk.i64_in _ (by have := g1.2.lo; have := g1.2.hi; omega)
    rw [w0, w1]
    have hw : IntKind.wrap .i64 ((k : Nat) + 1 : Int) = ((k + 1 : Nat) : Int) := by rw [IntWalk.i64_in _ (by omega)]; omega
    refine spT ?_ ⟨⟨⟨bs, y3.o, y3.m, y3.c⟩, y3.e, fr, mem, s, steps, n, k + 1, l ++ [⟨y0.n, y1.n, y2.n, y3.n⟩], true⟩, ⟨⟨by show y3.o + y3.m ≤ bs.length; rw [E3]; exact h1, h2, h3, g3.1.2.2.1⟩, h5, hk, by simp [h7], (fun _ => Nat.succ_le_succ (Nat.zero_le _)), (fun h => by cases h)⟩, ?_, ?_, ⟨rfl, rfl, rfl, rfl, by rw [hw], trivial⟩, rfl, rfl, rfl, ?_, rfl, ⟨rfl, rfl, ?_, ?_⟩, trivial⟩
    · simp; omega
    · show n - (k + 1) < n - k; omega
    · show gnOuts bs fr mem s steps (loR (rnote (bs.take (y3.o + y3.m))) (y3.o + y3.m) (y3.o + y3.c) (n - (k + 1)) (l ++ [⟨y0.n, y1.n, y2.n, y3.n⟩]) ⟨y3.o, y3.e⟩) = gnOuts bs fr mem s steps (loR (rnote (bs.take (o + m))) (o + m) (o + c) (n - k) l ⟨o, e⟩)
      rw [E3, C3, loR_go hk he hr]
    · rw [List.length_append]; rfl
    · simp
    · intro i hi
      have hi : i < l.length + 1 := by simpa using hi
      by_cases hik : i < l.length
      · simp only [blt_true hik, cond_true, Nat.zero_add, List.getD_eq_getElem?_getD, List.getElem?_append_left hik]
      · obtain rfl : i = l.length := by omega
        simp only [blt_false hik, cond_false, Nat.sub_self, List.getD_eq_getElem?_getD, List.getElem?_append_right (Nat.le_refl _)]
        rfl
  · rw [stop (.inr (by simpa using he))]
    exact spF (by cases l with | nil => (simp at h7; omega) | cons => rfl) ⟨⟨rfl, rfl, rfl, trivial⟩, rfl, rfl, rfl, rfl, rfl, ⟨rfl, rfl, rfl, fun _ _ => rfl⟩, trivial⟩
  · rw [stop (.inl (by have := of_decide_eq_false hk; omega))]
    exact spF (by cases l with | nil => (simp at h7; omega) | cons => rfl) ⟨⟨rfl, rfl, rfl, trivial⟩, rfl, rfl, rfl, rfl, rfl, ⟨rfl, rfl, rfl, fun _ _ => rfl⟩, trivial⟩
set_option maxRecDepth 100000 in
set_option maxHeartbeats 4000000 in
theorem gnB_ok (bs : List Int) (o m c : Nat) (e fr : Int) (mem : Row) (s : St) (steps : Int) (n : Nat) (h1 : o + m ≤ bs.length) (h2 : bs.length ≤ 140737488355328) (h3 : IsBytes bs) (h4 : m ≤ c) (h5 : n ≤ 100000) : gnB_c_V bs o m c e fr mem s steps n := by
  have stop : n ≤ 0 ∨ e ≠ 0 → (GnI.mk ⟨bs, o, m, c⟩ e fr mem s steps n 0 [] false).r = ⟨[], o, m, c, e⟩ := fun h => by
    unfold GnI.r
    rw [loR_stop h]
    simp
  unfold gnB_c_V gnB_c_p4 gnB_c_p3 gnB_c_p0 gnB_c_p2 gnB_c_p1
  refine spI (fun hk => spI (fun he => ?_) (fun he => ?_)) (fun hk => ?_)
  · have hk : 0 < n := by have := of_decide_eq_true hk; omega
    have he : e = 0 := by simpa using he
    refine ⟨⟨⟨h1, h2, h3, h4⟩, ⟨by decide, by decide⟩⟩, rfl, ⟨rfl, rfl, trivial⟩, fun y0 g0 => ?_, trivial⟩
    have E0 : y0.o + y0.m = o + m := g0.1.2.1
    have C0 : y0.o + y0.c = o + c := g0.1.2.2.2
    have r0 : rnum (bs.take (o + m)) 1099511627776 ⟨o, e⟩ = (y0.n, ⟨y0.o, y0.e⟩) := by exact g0.1.1
    refine ⟨⟨⟨by rw [E0]; exact h1, h2, h3, g0.1.2.2.1⟩, ⟨by decide, by decide⟩⟩, rfl, ⟨rfl, rfl, trivial⟩, fun y1 g1 => ?_, trivial⟩
    have E1 : y1.o + y1.m = o + m := g1.1.2.1.trans E0
    have C1 : y1.o + y1.c = o + c := g1.1.2.2.2.trans C0
    have r1 : rnum (bs.take (o + m)) 1099511627776 ⟨y0.o, y0.e⟩ = (y1.n, ⟨y1.o, y1.e⟩) := by rw [← E0]; exact g1.1.1
    refine ⟨⟨by rw [E1]; exact h1, h2, h3, g1.1.2.2.1⟩, rfl, ⟨rfl, rfl, trivial⟩, fun y2 g2 => ?_, trivial⟩
    have E2 : y2.o + y2.m = o + m := g2.1.2.1.trans E1
    have C2 : y2.o + y2.c = o + c := g2.1.2.2.2.trans C1
    have r2 : rnum (bs.take (o + m)) 4294967295 ⟨y1.o, y1.e⟩ = (y2.n, ⟨y2.o, y2.e⟩) := by rw [← E1]; exact g2.1.1
    refine ⟨⟨by rw [E2]; exact h1, h2, h3, g2.1.2.2.1⟩, rfl, ⟨rfl, rfl, trivial⟩, fun y3 g3 => ?_, trivial⟩
    have E3 : y3.o + y3.m = o + m := g3.1.2.1.trans E2
    have C3 : y3.o + y3.c = o + c := g3.1.2.2.2.trans C2
    have r3 : rnum (bs.take (o + m)) 4294967295 ⟨y2.o, y2.e⟩ = (y3.n, ⟨y3.o, y3.e⟩) := by rw [← E2]; exact g3.1.1
    have hr : rnote (bs.take (o + m)) ⟨o, e⟩ = (⟨y0.n, y1.n, y2.n, y3.n⟩, ⟨y3.o, y3.e⟩) := by simp only [rnote, RB, r0, r1, r2, r3]
    have w0 : IntKind.wrap .i64 y0.n = y0.n := IntWalk.i64_in _ (by have := g0.2.lo; have := g0.2.hi; omega)
    have w1 : IntKind.wrap .i64 y1.n = y1.n := IntWalk.i64_in _ (by have := g1.2.lo; have := g1.2.hi; omega)
    rw [w0, w1]
    refine ⟨⟨⟨bs, y3.o, y3.m, y3.c⟩, y3.e, fr, mem, s, steps, n, 1, [⟨y0.n, y1.n, y2.n, y3.n⟩], true⟩, ⟨⟨by show y3.o + y3.m ≤ bs.length; rw [E3]; exact h1, h2, h3, g3.1.2.2.1⟩, h5, hk, rfl, (fun _ => Nat.le_refl _), (fun h => by cases h)⟩, ?_, ?_, ⟨rfl, rfl, rfl, rfl, rfl, trivial⟩, rfl, rfl, rfl, ?_, rfl, ⟨rfl, rfl, ?_, ?_⟩, trivial⟩
    · show n - (0 + 1) < n - 0; omega
    · show gnOuts bs fr mem s steps (loR (rnote (bs.take (y3.o + y3.m))) (y3.o + y3.m) (y3.o + y3.c) (n - (0 + 1)) ([] ++ [⟨y0.n, y1.n, y2.n, y3.n⟩]) ⟨y3.o, y3.e⟩) = gnOuts bs fr mem s steps (loR (rnote (bs.take (o + m))) (o + m) (o + c) (n - 0) [] ⟨o, e⟩)
      rw [E3, C3, loR_go hk he hr]
    · rfl
    · rfl
    · intro i hi j hj
      obtain rfl : i = 0 := by have : i < 1 := hi
                               omega
      rw [Nat.zero_mul, Nat.zero_add]
      rfl
  · rw [stop (.inr (by simpa using he))]
    exact spT rfl ⟨⟨rfl, rfl, rfl, trivial⟩, rfl, rfl, rfl, rfl, rfl, trivial⟩
  · rw [stop (.inl (by have := of_decide_eq_false hk; omega))]
    exact spT rfl ⟨⟨rfl, rfl, rfl, trivial⟩, rfl, rfl, rfl, rfl, rfl, trivial⟩
set_option maxRecDepth 100000 in
theorem gnLp_ok (hn : (rnumC F_mummerref30_Reader_number .u64 rnum).OK Go.Proofs.Tryz.prog) : (gnLp Go.Proofs.Tryz.prog).OK Go.Proofs.Tryz.prog := by
  have hc := orK_ok (Con.orc_ok hn) (Con.orc_ok (rword_ok hn))
  refine Lp.ok_of hc (drP_ok hmix _ hc) (noLo_ok _) (by decide) 40 (fun i hi => ?_)
  obtain ⟨⟨bs, o, m, c⟩, e, fr, mem, s, steps, n, k, l, fl⟩ := i
  obtain ⟨⟨h1, h2, h3, h4⟩, h5, h6, h7, h8, h9⟩ := hi
  cases fl with
  | true =>
    rw [← Option.some.inj (gnA_c_e bs o m c e fr mem s steps n k l)]
    exact gnA_ok bs o m c e fr mem s steps n k l h1 h2 h3 h4 h5 h6 h7 (h8 rfl)
  | false =>
    have e1 : k = 0 := h9 rfl
    have e2 : l = [] := by simp only [] at h7; rw [e1] at h7; exact List.eq_nil_of_length_eq_zero h7
    subst e1 e2
    rw [← Option.some.inj (gnB_c_e bs o m c e fr mem s steps n)]
    exact gnB_ok bs o m c e fr mem s steps n h1 h2 h3 h4 h5
end Go.Proofs.YtmbcpmbpkdeioaaGreatDoor.W
