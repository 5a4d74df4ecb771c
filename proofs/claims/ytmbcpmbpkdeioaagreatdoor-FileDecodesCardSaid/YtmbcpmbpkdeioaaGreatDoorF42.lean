/- The document's reader: guests: the walk. No condition. -/
import Derived.Test.YtmbcpmbpkdeioaaGreatDoorF41
import Derived.Test.YtmbcpmbpkdeioaaGreatDoorF40
import Derived.KernelRfl
import Derived.Test.YtmbcpmbpkdeioaaGreatDoorF38
import Derived.Test.YtmbcpmbpkdeioaaGreatDoorF39
namespace Go.Proofs.YtmbcpmbpkdeioaaGreatDoor.W
open Go Go.RowKit Go.Eng
set_option maxRecDepth 100000
set_option linter.unusedVariables false
set_option linter.unusedSimpArgs false
abbrev rsav_c_l0 (x : RdX) : List AV :=
  [nI 0, AV.nils, nU 0, nU 0, nU 0, nU 0, nU 0, nU 0, nU 0, nU 0, nU 0, nU 0, nU 0, nU 0, nU 0, nU 0, nU 0, nU 0, nU 0, nU 0, AV.bool false, nI 0, AV.nils, AV.nils, AV.nils, AV.nils, AV.nils, nU 0, nU 0, nU 0, nU 0, nU 0, nU 0, nU 0, nU 0]
abbrev rsav_c_p1 (x : RdX) (y : RdY) (y_1 : RrY) (y_2 : RtY) (y_3 : RdY) : List AV :=
  [nI (IntKind.i64.wrap y.n), AV.msl 4 0 0 y_1.l.length y_1.cap, nU y_2.s.r0, nU y_2.s.r1, nU y_2.s.r2, nU y_2.s.r3, nU y_2.s.r4, nU y_2.s.r5, nU y_2.s.r6, nU y_2.s.r7, nU y_2.s.pc, nU y_2.s.ps, nU y_2.s.c0, nU y_2.s.c1, nU y_2.s.c2, nU y_2.s.c3, nU y_2.s.c4, nU y_2.s.c5, nU y_2.s.c6, nU y_2.s.c7, AV.bool y_2.s.h, nI (IntKind.i64.wrap y_3.n), AV.nils, AV.nils, AV.nils, AV.nils, AV.nils, nU 0, nU 0, nU 0, nU 0, nU 0, nU 0, nU 0, nU 0]
abbrev rsav_c_p2 (x : RdX) (y_10 : LoR E3) (y_19 : GuY) : Prop :=
  false = false ∧ 3 = 3 ∧ y_10.l.length = y_19.d.script.length ∧ ∀ (i : Nat), i < y_10.l.length → [nI (y_10.l.getD i instInhabitedE3.default).a, nI (y_10.l.getD i instInhabitedE3.default).k, nB (y_10.l.getD i instInhabitedE3.default).x] = [nI (y_19.d.script.getD i instInhabitedE3.default).a, nI (y_19.d.script.getD i instInhabitedE3.default).k, nB (y_19.d.script.getD i instInhabitedE3.default).x]
abbrev rsav_c_p3 (x : RdX) (y_19 : GuY) : Prop :=
  false = false ∧ 4 = 4 ∧ 0 = y_19.d.notes.length ∧ ∀ (i : Nat), i < 0 → [nI 0, nI 0, nU 0, nU 0] = [nI (y_19.d.notes.getD i instInhabitedN4.default).a, nI (y_19.d.notes.getD i instInhabitedN4.default).c, nU (y_19.d.notes.getD i instInhabitedN4.default).b, nU (y_19.d.notes.getD i instInhabitedN4.default).d]
abbrev rsav_c_p4 (x : RdX) (y_19 : GuY) : Prop :=
  false = false ∧ 3 = 3 ∧ 0 = y_19.d.script.length ∧ ∀ (i : Nat), i < 0 → [nI 0, nI 0, nB 0] = [nI (y_19.d.script.getD i instInhabitedE3.default).a, nI (y_19.d.script.getD i instInhabitedE3.default).k, nB (y_19.d.script.getD i instInhabitedE3.default).x]
abbrev rsav_c_p5 (x : RdX) (y_10 : LoR E3) (y_11 : RdY) : Prop :=
  rnum (RdX.mk (RgX.mk x.x.bs y_10.o y_10.m y_10.c) y_10.e 0).l 4294967295 (RS.mk y_10.o y_10.e) = (y_11.n, RS.mk y_11.o y_11.e) ∧ y_11.o + y_11.m = y_10.o + y_10.m ∧ y_11.m ≤ y_11.c ∧ y_11.o + y_11.c = y_10.o + y_10.c
abbrev rsav_c_p6 (x : RdX) (y_11 : RdY) (y_12 : RdY) : Prop :=
  rnum (RdX.mk (RgX.mk x.x.bs y_11.o y_11.m y_11.c) y_11.e 0).l 4294967295 (RS.mk y_11.o y_11.e) = (y_12.n, RS.mk y_12.o y_12.e) ∧ y_12.o + y_12.m = y_11.o + y_11.m ∧ y_12.m ≤ y_12.c ∧ y_12.o + y_12.c = y_11.o + y_11.c
abbrev rsav_c_p7 (x : RdX) (y_12 : RdY) (y_13 : RdY) : Prop :=
  rnum (RdX.mk (RgX.mk x.x.bs y_12.o y_12.m y_12.c) y_12.e 0).l 4294967295 (RS.mk y_12.o y_12.e) = (y_13.n, RS.mk y_13.o y_13.e) ∧ y_13.o + y_13.m = y_12.o + y_12.m ∧ y_13.m ≤ y_13.c ∧ y_13.o + y_13.c = y_12.o + y_12.c
abbrev rsav_c_p8 (x : RdX) (y_13 : RdY) (y_14 : RdY) : Prop :=
  rnum (RdX.mk (RgX.mk x.x.bs y_13.o y_13.m y_13.c) y_13.e 0).l 4294967295 (RS.mk y_13.o y_13.e) = (y_14.n, RS.mk y_14.o y_14.e) ∧ y_14.o + y_14.m = y_13.o + y_13.m ∧ y_14.m ≤ y_14.c ∧ y_14.o + y_14.c = y_13.o + y_13.c
abbrev rsav_c_p9 (x : RdX) (y_14 : RdY) (y_15 : RdY) : Prop :=
  rnum (RdX.mk (RgX.mk x.x.bs y_14.o y_14.m y_14.c) y_14.e 0).l 4294967295 (RS.mk y_14.o y_14.e) = (y_15.n, RS.mk y_15.o y_15.e) ∧ y_15.o + y_15.m = y_14.o + y_14.m ∧ y_15.m ≤ y_15.c ∧ y_15.o + y_15.c = y_14.o + y_14.c
abbrev rsav_c_p10 (x : RdX) (y_15 : RdY) (y_16 : RdY) : Prop :=
  rnum (RdX.mk (RgX.mk x.x.bs y_15.o y_15.m y_15.c) y_15.e 0).l 4294967295 (RS.mk y_15.o y_15.e) = (y_16.n, RS.mk y_16.o y_16.e) ∧ y_16.o + y_16.m = y_15.o + y_15.m ∧ y_16.m ≤ y_16.c ∧ y_16.o + y_16.c = y_15.o + y_15.c
abbrev rsav_c_p11 (x : RdX) (y_16 : RdY) (y_17 : RdY) : Prop :=
  rnum (RdX.mk (RgX.mk x.x.bs y_16.o y_16.m y_16.c) y_16.e 0).l 4294967295 (RS.mk y_16.o y_16.e) = (y_17.n, RS.mk y_17.o y_17.e) ∧ y_17.o + y_17.m = y_16.o + y_16.m ∧ y_17.m ≤ y_17.c ∧ y_17.o + y_17.c = y_16.o + y_16.c
abbrev rsav_c_p12 (x : RdX) (y_17 : RdY) (y_18 : RdY) : Prop :=
  rnum (RdX.mk (RgX.mk x.x.bs y_17.o y_17.m y_17.c) y_17.e 0).l 4294967295 (RS.mk y_17.o y_17.e) = (y_18.n, RS.mk y_18.o y_18.e) ∧ y_18.o + y_18.m = y_17.o + y_17.m ∧ y_18.m ≤ y_18.c ∧ y_18.o + y_18.c = y_17.o + y_17.c
abbrev rsav_c_p13 (x : RdX) (y_9 : RdY) : Prop :=
  (y_9.o + y_9.m ≤ x.x.bs.length ∧ x.x.bs.length ≤ 140737488355328 ∧ IsBytes x.x.bs ∧ y_9.m ≤ y_9.c) ∧ y_9.n.toNat ≤ 100000 ∧ 0 ≤ y_9.n.toNat ∧ 0 = 0 ∧ (false = true → 1 ≤ 0) ∧ (false = false → 0 = 0)
abbrev rsav_c_p14 (x : RdX) (y_8 : RrY) (y_9 : RdY) : Prop :=
  rcnt (RdX.mk (RgX.mk x.x.bs y_8.o y_8.m y_8.c) y_8.e 64).l 64 (RS.mk y_8.o y_8.e) = (y_9.n, RS.mk y_9.o y_9.e) ∧ y_9.o + y_9.m = y_8.o + y_8.m ∧ y_9.m ≤ y_9.c ∧ y_9.o + y_9.c = y_8.o + y_8.c
abbrev rsav_c_p15 (x : RdX) (i : Nat) (y_5 : LoR N4) : List AV :=
  [nI (y_5.l.getD i instInhabitedN4.default).a, nI (y_5.l.getD i instInhabitedN4.default).c, nU (y_5.l.getD i instInhabitedN4.default).b, nU (y_5.l.getD i instInhabitedN4.default).d]
abbrev rsav_c_p0 (x : RdX) (y_19 : GuY) (y_5 : LoR N4) : Prop :=
  false = false ∧ 4 = 4 ∧ y_5.l.length = y_19.d.notes.length ∧ ∀ (i : Nat), i < y_5.l.length → (rsav_c_p15 x i y_5) = [nI (y_19.d.notes.getD i instInhabitedN4.default).a, nI (y_19.d.notes.getD i instInhabitedN4.default).c, nU (y_19.d.notes.getD i instInhabitedN4.default).b, nU (y_19.d.notes.getD i instInhabitedN4.default).d]
abbrev rsav_c_p16 (x : RdX) (y_19 : GuY) : Prop :=
  GuIs x.l (RS.mk x.x.o x.e) y_19.d (RS.mk y_19.o y_19.e) ∧ (y_19.o + y_19.m = x.x.o + x.x.m ∧ y_19.m ≤ y_19.c ∧ y_19.o + y_19.c = x.x.o + x.x.c) ∧ y_19.caps
abbrev rsav_c_p17 (x : RdX) (y_9 : RdY) : Prop :=
  AV.ptr 0 0 0 = AV.ptr 0 0 0 ∧ AV.ptr 2 0 0 = AV.ptr 2 0 0 ∧ AV.ptr 3 0 0 = AV.ptr 3 0 0 ∧ nI y_9.n = nI (↑y_9.n.toNat : Int) ∧ nI 0 = nI 0 ∧ True
abbrev rsav_c_p18 (x : RdX) (y_10 : LoR E3) : Prop :=
  some (rdB y_10.o y_10.m y_10.c y_10.e) = some (rdB y_10.o y_10.m y_10.c y_10.e) ∧ some (bR x.x.bs) = some (bR x.x.bs) ∧ True
abbrev rsav_c_p19 (x : RdX) (y_11 : RdY) : Prop :=
  some (rdB y_11.o y_11.m y_11.c y_11.e) = some (rdB y_11.o y_11.m y_11.c y_11.e) ∧ some (bR x.x.bs) = some (bR x.x.bs) ∧ True
abbrev rsav_c_p20 (x : RdX) (y_12 : RdY) : Prop :=
  some (rdB y_12.o y_12.m y_12.c y_12.e) = some (rdB y_12.o y_12.m y_12.c y_12.e) ∧ some (bR x.x.bs) = some (bR x.x.bs) ∧ True
abbrev rsav_c_p21 (x : RdX) (y_13 : RdY) : Prop :=
  some (rdB y_13.o y_13.m y_13.c y_13.e) = some (rdB y_13.o y_13.m y_13.c y_13.e) ∧ some (bR x.x.bs) = some (bR x.x.bs) ∧ True
abbrev rsav_c_p22 (x : RdX) (y_14 : RdY) : Prop :=
  some (rdB y_14.o y_14.m y_14.c y_14.e) = some (rdB y_14.o y_14.m y_14.c y_14.e) ∧ some (bR x.x.bs) = some (bR x.x.bs) ∧ True
abbrev rsav_c_p23 (x : RdX) (y_15 : RdY) : Prop :=
  some (rdB y_15.o y_15.m y_15.c y_15.e) = some (rdB y_15.o y_15.m y_15.c y_15.e) ∧ some (bR x.x.bs) = some (bR x.x.bs) ∧ True
abbrev rsav_c_p24 (x : RdX) (y_16 : RdY) : Prop :=
  some (rdB y_16.o y_16.m y_16.c y_16.e) = some (rdB y_16.o y_16.m y_16.c y_16.e) ∧ some (bR x.x.bs) = some (bR x.x.bs) ∧ True
abbrev rsav_c_p25 (x : RdX) (y_17 : RdY) : Prop :=
  some (rdB y_17.o y_17.m y_17.c y_17.e) = some (rdB y_17.o y_17.m y_17.c y_17.e) ∧ some (bR x.x.bs) = some (bR x.x.bs) ∧ True
abbrev rsav_c_p26 (x : RdX) (y_8 : RrY) : Prop :=
  (y_8.o + y_8.m ≤ x.x.bs.length ∧ x.x.bs.length ≤ 140737488355328 ∧ IsBytes x.x.bs ∧ y_8.m ≤ y_8.c) ∧ InR 0 64 1099511627776
abbrev rsav_c_p27 (x : RdX) (y_5 : LoR N4) : Prop :=
  some (rdB y_5.o y_5.m y_5.c y_5.e) = some (rdB y_5.o y_5.m y_5.c y_5.e) ∧ some (bR x.x.bs) = some (bR x.x.bs) ∧ True
abbrev rsav_c_p28 (x : RdX) (y_6 : RrY) : Prop :=
  some (rdB y_6.o y_6.m y_6.c y_6.e) = some (rdB y_6.o y_6.m y_6.c y_6.e) ∧ some (bR x.x.bs) = some (bR x.x.bs) ∧ True
abbrev rsav_c_p29 (x : RdX) (y_7 : RrY) : Prop :=
  some (rdB y_7.o y_7.m y_7.c y_7.e) = some (rdB y_7.o y_7.m y_7.c y_7.e) ∧ some (bR x.x.bs) = some (bR x.x.bs) ∧ True
abbrev rsav_c_p30 (x : RdX) (y_8 : RrY) : Prop :=
  some (rdB y_8.o y_8.m y_8.c y_8.e) = some (rdB y_8.o y_8.m y_8.c y_8.e) ∧ some (bR x.x.bs) = some (bR x.x.bs) ∧ True
abbrev rsav_c_p31 (x : RdX) (y_10 : LoR E3) : Prop :=
  y_10.o + y_10.m ≤ x.x.bs.length ∧ x.x.bs.length ≤ 140737488355328 ∧ IsBytes x.x.bs ∧ y_10.m ≤ y_10.c
abbrev rsav_c_p32 (x : RdX) (y_11 : RdY) : Prop :=
  y_11.o + y_11.m ≤ x.x.bs.length ∧ x.x.bs.length ≤ 140737488355328 ∧ IsBytes x.x.bs ∧ y_11.m ≤ y_11.c
abbrev rsav_c_p33 (x : RdX) (y_12 : RdY) : Prop :=
  y_12.o + y_12.m ≤ x.x.bs.length ∧ x.x.bs.length ≤ 140737488355328 ∧ IsBytes x.x.bs ∧ y_12.m ≤ y_12.c
abbrev rsav_c_p34 (x : RdX) (y_13 : RdY) : Prop :=
  y_13.o + y_13.m ≤ x.x.bs.length ∧ x.x.bs.length ≤ 140737488355328 ∧ IsBytes x.x.bs ∧ y_13.m ≤ y_13.c
abbrev rsav_c_p35 (x : RdX) (y_14 : RdY) : Prop :=
  y_14.o + y_14.m ≤ x.x.bs.length ∧ x.x.bs.length ≤ 140737488355328 ∧ IsBytes x.x.bs ∧ y_14.m ≤ y_14.c
abbrev rsav_c_p36 (x : RdX) (y_15 : RdY) : Prop :=
  y_15.o + y_15.m ≤ x.x.bs.length ∧ x.x.bs.length ≤ 140737488355328 ∧ IsBytes x.x.bs ∧ y_15.m ≤ y_15.c
abbrev rsav_c_p37 (x : RdX) (y_16 : RdY) : Prop :=
  y_16.o + y_16.m ≤ x.x.bs.length ∧ x.x.bs.length ≤ 140737488355328 ∧ IsBytes x.x.bs ∧ y_16.m ≤ y_16.c
abbrev rsav_c_p38 (x : RdX) (y_17 : RdY) : Prop :=
  y_17.o + y_17.m ≤ x.x.bs.length ∧ x.x.bs.length ≤ 140737488355328 ∧ IsBytes x.x.bs ∧ y_17.m ≤ y_17.c
abbrev rsav_c_p39 (x : RdX) (y_5 : LoR N4) : Prop :=
  y_5.o + y_5.m ≤ x.x.bs.length ∧ x.x.bs.length ≤ 140737488355328 ∧ IsBytes x.x.bs ∧ y_5.m ≤ y_5.c
abbrev rsav_c_p40 (x : RdX) (y_6 : RrY) : Prop :=
  y_6.o + y_6.m ≤ x.x.bs.length ∧ x.x.bs.length ≤ 140737488355328 ∧ IsBytes x.x.bs ∧ y_6.m ≤ y_6.c
abbrev rsav_c_p41 (x : RdX) (y_7 : RrY) : Prop :=
  y_7.o + y_7.m ≤ x.x.bs.length ∧ x.x.bs.length ≤ 140737488355328 ∧ IsBytes x.x.bs ∧ y_7.m ≤ y_7.c
def rsav_c_V (x : RdX) : Prop :=
  ((x.x.o + x.x.m ≤ x.x.bs.length ∧ x.x.bs.length ≤ 140737488355328 ∧ IsBytes x.x.bs ∧ x.x.m ≤ x.x.c) ∧ InR 0 1099511627776 1099511627776) ∧ [AV.ptr 0 0 0, nL 1099511627776] = [AV.ptr 0 0 0, nL 1099511627776] ∧ (some (rdB x.x.o x.x.m x.x.c x.e) = some (rdB x.x.o x.x.m x.x.c x.e) ∧ some (bR x.x.bs) = some (bR x.x.bs) ∧ True) ∧ (∀ (y : RdY), (rnum (RdX.mk (RgX.mk x.x.bs x.x.o x.x.m x.x.c) x.e 1099511627776).l 1099511627776 (RS.mk x.x.o x.e) = (y.n, RS.mk y.o y.e) ∧ y.o + y.m = x.x.o + x.x.m ∧ y.m ≤ y.c ∧ y.o + y.c = x.x.o + x.x.c) ∧ InR 0 y.n 1099511627776 → (y.o + y.m ≤ x.x.bs.length ∧ x.x.bs.length ≤ 140737488355328 ∧ IsBytes x.x.bs ∧ y.m ≤ y.c) ∧ [AV.ptr 0 0 0, nI 4096] = [AV.ptr 0 0 0, nI 4096] ∧ (some (rdB y.o y.m y.c y.e) = some (rdB y.o y.m y.c y.e) ∧ some (bR x.x.bs) = some (bR x.x.bs) ∧ True) ∧ (∀ (y_1 : RrY), rrow (RdX.mk (RgX.mk x.x.bs y.o y.m y.c) y.e 4096).l 4096 (RS.mk y.o y.e)
  = (y_1.l, RS.mk y_1.o y_1.e) ∧ y_1.o + y_1.m = y.o + y.m ∧ (y_1.m ≤ y_1.c ∧ y_1.o + y_1.c = y.o + y.c) ∧ y_1.l.length ≤ y_1.cap → (y_1.o + y_1.m ≤ x.x.bs.length ∧ x.x.bs.length ≤ 140737488355328 ∧ IsBytes x.x.bs ∧ y_1.m ≤ y_1.c) ∧ [AV.ptr 0 0 0] = [AV.ptr 0 0 0] ∧ (some (rdB y_1.o y_1.m y_1.c y_1.e) = some (rdB y_1.o y_1.m y_1.c y_1.e) ∧ some (bR x.x.bs) = some (bR x.x.bs) ∧ True) ∧ (∀ (y_2 : RtY), StIs (RdX.mk (RgX.mk x.x.bs y_1.o y_1.m y_1.c) y_1.e 0).l (RS.mk y_1.o y_1.e) y_2.s (RS.mk y_2.o y_2.e) ∧ y_2.o + y_2.m = y_1.o + y_1.m ∧ y_2.m ≤ y_2.c ∧ y_2.o + y_2.c = y_1.o + y_1.c → ((y_2.o + y_2.m ≤ x.x.bs.length ∧ x.x.bs.length ≤ 140737488355328 ∧ IsBytes x.x.bs ∧ y_2.m ≤ y_2.c) ∧ InR 0 1099511627776 1099511627776) ∧ [AV.ptr 0 0 0, nL 1099511627776] = [AV.ptr 0 0 0, nL 1099511627776] ∧ (some (rdB y_2.o y_2.m y_2.c y_2.e) = some (rdB y_2.o y_2.m y_2.c y_2.e) ∧ some (bR x.x.bs) = some (bR
  x.x.bs) ∧ True) ∧ (∀ (y_3 : RdY), (rnum (RdX.mk (RgX.mk x.x.bs y_2.o y_2.m y_2.c) y_2.e 1099511627776).l 1099511627776 (RS.mk y_2.o y_2.e) = (y_3.n, RS.mk y_3.o y_3.e) ∧ y_3.o + y_3.m = y_2.o + y_2.m ∧ y_3.m ≤ y_3.c ∧ y_3.o + y_3.c = y_2.o + y_2.c) ∧ InR 0 y_3.n 1099511627776 → ((y_3.o + y_3.m ≤ x.x.bs.length ∧ x.x.bs.length ≤ 140737488355328 ∧ IsBytes x.x.bs ∧ y_3.m ≤ y_3.c) ∧ InR 0 4096 1099511627776) ∧ [AV.ptr 0 0 0, nI 4096] = [AV.ptr 0 0 0, nI 4096] ∧ (some (rdB y_3.o y_3.m y_3.c y_3.e) = some (rdB y_3.o y_3.m y_3.c y_3.e) ∧ some (bR x.x.bs) = some (bR x.x.bs) ∧ True) ∧ (∀ (y_4 : RdY), (rcnt (RdX.mk (RgX.mk x.x.bs y_3.o y_3.m y_3.c) y_3.e 4096).l 4096 (RS.mk y_3.o y_3.e) = (y_4.n, RS.mk y_4.o y_4.e) ∧ y_4.o + y_4.m = y_3.o + y_3.m ∧ y_4.m ≤ y_4.c ∧ y_4.o + y_4.c = y_3.o + y_3.c) ∧ InR 0 y_4.n 4096 → same (loopOf Proofs.Tryz.prog F_mummerref30_Reader_saved 0) (loopOf Proofs.Tryz.prog
  F_mummerref30_Reader_saved 0) ∧ ((y_4.o + y_4.m ≤ x.x.bs.length ∧ x.x.bs.length ≤ 140737488355328 ∧ IsBytes x.x.bs ∧ y_4.m ≤ y_4.c) ∧ y_4.n.toNat ≤ 100000 ∧ 0 ≤ y_4.n.toNat ∧ 0 = 0 ∧ (false = true → 1 ≤ 0) ∧ (false = false → 0 = 0)) ∧ ((AV.ptr 0 0 0 = AV.ptr 0 0 0 ∧ AV.ptr 2 0 0 = AV.ptr 2 0 0 ∧ AV.ptr 3 0 0 = AV.ptr 3 0 0 ∧ nI y_4.n = nI (↑y_4.n.toNat : Int) ∧ nI 0 = nI 0 ∧ True) ∧ rdB y_4.o y_4.m y_4.c y_4.e = rdB y_4.o y_4.m y_4.c y_4.e ∧ bR x.x.bs = bR x.x.bs ∧ ABlk.mk true 35 (AC.cells (rsav_c_l0 x)) = ABlk.mk true 35 (AC.cells (rsav_c_l0 x)) ∧ ABlk.mk true 35 (AC.cells (((((((((((((((((((((((rsav_c_l0 x).set 0 (nI (IntKind.i64.wrap y.n))).set 1 (AV.msl 4 0 0 y_1.l.length y_1.cap)).set 2 (nU y_2.s.r0)).set 3 (nU y_2.s.r1)).set 4 (nU y_2.s.r2)).set 5 (nU y_2.s.r3)).set 6 (nU y_2.s.r4)).set 7 (nU y_2.s.r5)).set 8 (nU y_2.s.r6)).set 9 (nU y_2.s.r7)).set 10 (nU y_2.s.pc)).set 11 (nU
  y_2.s.ps)).set 12 (nU y_2.s.c0)).set 13 (nU y_2.s.c1)).set 14 (nU y_2.s.c2)).set 15 (nU y_2.s.c3)).set 16 (nU y_2.s.c4)).set 17 (nU y_2.s.c5)).set 18 (nU y_2.s.c6)).set 19 (nU y_2.s.c7)).set 20 (AV.bool y_2.s.h)).set 21 (nI (IntKind.i64.wrap y_3.n)))) = ABlk.mk true 35 (AC.cells (rsav_c_p1 x y y_1 y_2 y_3)) ∧ bR y_1.l = bR y_1.l ∧ True) ∧ ∀ (y_5 : LoR N4), LoIs (rnote (List.take (y_4.o + y_4.m) x.x.bs)) (RgX.mk x.x.bs y_4.o y_4.m y_4.c) y_4.e (y_4.n.toNat - 0) [] y_5 → sp y_5.l.isEmpty ((rsav_c_p39 x y_5) ∧ [AV.ptr 0 0 0, nI 65536] = [AV.ptr 0 0 0, nI 65536] ∧ (rsav_c_p27 x y_5) ∧ (∀ (y_6 : RrY), rrow (RdX.mk (RgX.mk x.x.bs y_5.o y_5.m y_5.c) y_5.e 65536).l 65536 (RS.mk y_5.o y_5.e) = (y_6.l, RS.mk y_6.o y_6.e) ∧ y_6.o + y_6.m = y_5.o + y_5.m ∧ (y_6.m ≤ y_6.c ∧ y_6.o + y_6.c = y_5.o + y_5.c) ∧ y_6.l.length ≤ y_6.cap → (rsav_c_p40 x y_6) ∧ [AV.ptr 0 0 0, nI 2048] = [AV.ptr 0 0 0, nI 2048]
  ∧ (rsav_c_p28 x y_6) ∧ (∀ (y_7 : RrY), rrow (RdX.mk (RgX.mk x.x.bs y_6.o y_6.m y_6.c) y_6.e 2048).l 2048 (RS.mk y_6.o y_6.e) = (y_7.l, RS.mk y_7.o y_7.e) ∧ y_7.o + y_7.m = y_6.o + y_6.m ∧ (y_7.m ≤ y_7.c ∧ y_7.o + y_7.c = y_6.o + y_6.c) ∧ y_7.l.length ≤ y_7.cap → (rsav_c_p41 x y_7) ∧ [AV.ptr 0 0 0, nI 32] = [AV.ptr 0 0 0, nI 32] ∧ (rsav_c_p29 x y_7) ∧ (∀ (y_8 : RrY), rrow (RdX.mk (RgX.mk x.x.bs y_7.o y_7.m y_7.c) y_7.e 32).l 32 (RS.mk y_7.o y_7.e) = (y_8.l, RS.mk y_8.o y_8.e) ∧ y_8.o + y_8.m = y_7.o + y_7.m ∧ (y_8.m ≤ y_8.c ∧ y_8.o + y_8.c = y_7.o + y_7.c) ∧ y_8.l.length ≤ y_8.cap → (rsav_c_p26 x y_8) ∧ [AV.ptr 0 0 0, nI 64] = [AV.ptr 0 0 0, nI 64] ∧ (rsav_c_p30 x y_8) ∧ (∀ (y_9 : RdY), (rsav_c_p14 x y_8 y_9) ∧ InR 0 y_9.n 64 → same (loopOf Proofs.Tryz.prog F_mummerref30_Reader_saved 1) (loopOf Proofs.Tryz.prog F_mummerref30_Reader_saved 1) ∧ (rsav_c_p13 x y_9) ∧ ((rsav_c_p17 x y_9) ∧ rdB
  y_9.o y_9.m y_9.c y_9.e = rdB y_9.o y_9.m y_9.c y_9.e ∧ bR x.x.bs = bR x.x.bs ∧ ABlk.mk true 35 (AC.cells zeroSv) = ABlk.mk true 35 (AC.cells (rsav_c_l0 x)) ∧ ABlk.mk true 35 (AC.cells ((((rsav_c_p1 x y y_1 y_2 y_3).set 23 (AV.msl 6 0 0 y_6.l.length y_6.cap)).set 24 (AV.msl 7 0 0 y_7.l.length y_7.cap)).set 25 (AV.msl 8 0 0 y_8.l.length y_8.cap))) = ABlk.mk true 35 (AC.cells [nI (IntKind.i64.wrap y.n), AV.msl 4 0 0 y_1.l.length y_1.cap, nU y_2.s.r0, nU y_2.s.r1, nU y_2.s.r2, nU y_2.s.r3, nU y_2.s.r4, nU y_2.s.r5, nU y_2.s.r6, nU y_2.s.r7, nU y_2.s.pc, nU y_2.s.ps, nU y_2.s.c0, nU y_2.s.c1, nU y_2.s.c2, nU y_2.s.c3, nU y_2.s.c4, nU y_2.s.c5, nU y_2.s.c6, nU y_2.s.c7, AV.bool y_2.s.h, nI (IntKind.i64.wrap y_3.n), AV.nils, AV.msl 6 0 0 y_6.l.length y_6.cap, AV.msl 7 0 0 y_7.l.length y_7.cap, AV.msl 8 0 0 y_8.l.length y_8.cap, AV.nils, nU 0, nU 0, nU 0, nU 0, nU 0, nU 0, nU 0, nU 0]) ∧ bR
  y_1.l = bR y_1.l ∧ bR y_6.l = bR y_6.l ∧ bR y_7.l = bR y_7.l ∧ bR y_8.l = bR y_8.l ∧ True) ∧ ∀ (y_10 : LoR E3), LoIs (rev3 (List.take (y_9.o + y_9.m) x.x.bs)) (RgX.mk x.x.bs y_9.o y_9.m y_9.c) y_9.e (y_9.n.toNat - 0) [] y_10 → sp y_10.l.isEmpty ((rsav_c_p31 x y_10) ∧ [AV.ptr 0 0 0] = [AV.ptr 0 0 0] ∧ (rsav_c_p18 x y_10) ∧ (∀ (y_11 : RdY), (rsav_c_p5 x y_10 y_11) ∧ InR 0 y_11.n 4294967295 → (rsav_c_p32 x y_11) ∧ [AV.ptr 0 0 0] = [AV.ptr 0 0 0] ∧ (rsav_c_p19 x y_11) ∧ (∀ (y_12 : RdY), (rsav_c_p6 x y_11 y_12) ∧ InR 0 y_12.n 4294967295 → (rsav_c_p33 x y_12) ∧ [AV.ptr 0 0 0] = [AV.ptr 0 0 0] ∧ (rsav_c_p20 x y_12) ∧ (∀ (y_13 : RdY), (rsav_c_p7 x y_12 y_13) ∧ InR 0 y_13.n 4294967295 → (rsav_c_p34 x y_13) ∧ [AV.ptr 0 0 0] = [AV.ptr 0 0 0] ∧ (rsav_c_p21 x y_13) ∧ (∀ (y_14 : RdY), (rsav_c_p8 x y_13 y_14) ∧ InR 0 y_14.n 4294967295 → (rsav_c_p35 x y_14) ∧ [AV.ptr 0 0 0] = [AV.ptr 0 0 0] ∧ (rsav_c_p22
  x y_14) ∧ (∀ (y_15 : RdY), (rsav_c_p9 x y_14 y_15) ∧ InR 0 y_15.n 4294967295 → (rsav_c_p36 x y_15) ∧ [AV.ptr 0 0 0] = [AV.ptr 0 0 0] ∧ (rsav_c_p23 x y_15) ∧ (∀ (y_16 : RdY), (rsav_c_p10 x y_15 y_16) ∧ InR 0 y_16.n 4294967295 → (rsav_c_p37 x y_16) ∧ [AV.ptr 0 0 0] = [AV.ptr 0 0 0] ∧ (rsav_c_p24 x y_16) ∧ (∀ (y_17 : RdY), (rsav_c_p11 x y_16 y_17) ∧ InR 0 y_17.n 4294967295 → (rsav_c_p38 x y_17) ∧ [AV.ptr 0 0 0] = [AV.ptr 0 0 0] ∧ (rsav_c_p25 x y_17) ∧ (∀ (y_18 : RdY), (rsav_c_p12 x y_17 y_18) ∧ InR 0 y_18.n 4294967295 → ∃ (y_19 : GuY), (rsav_c_p16 x y_19) ∧ [AV.agg (([nI (IntKind.i64.wrap y.n), AV.msl 4 0 0 y_1.l.length y_1.cap, nU y_2.s.r0, nU y_2.s.r1, nU y_2.s.r2, nU y_2.s.r3, nU y_2.s.r4, nU y_2.s.r5, nU y_2.s.r6, nU y_2.s.r7, nU y_2.s.pc, nU y_2.s.ps, nU y_2.s.c0, nU y_2.s.c1, nU y_2.s.c2, nU y_2.s.c3, nU y_2.s.c4, nU y_2.s.c5, nU y_2.s.c6, nU y_2.s.c7, AV.bool y_2.s.h, nI
  (IntKind.i64.wrap y_3.n), AV.nils, AV.msl 6 0 0 y_6.l.length y_6.cap, AV.msl 7 0 0 y_7.l.length y_7.cap, AV.msl 8 0 0 y_8.l.length y_8.cap, AV.nils, nU y_11.n, nU y_12.n, nU y_13.n, nU y_14.n, nU y_15.n, nU y_16.n, nU y_17.n, nU y_18.n].set 22 (AV.msl 10 0 0 0 0)).set 26 (AV.msl 11 0 0 0 0))] = [AV.agg [nI y_19.d.fr, AV.msl 4 0 0 y_19.d.mem.length y_19.c0, nU y_19.d.s.r0, nU y_19.d.s.r1, nU y_19.d.s.r2, nU y_19.d.s.r3, nU y_19.d.s.r4, nU y_19.d.s.r5, nU y_19.d.s.r6, nU y_19.d.s.r7, nU y_19.d.s.pc, nU y_19.d.s.ps, nU y_19.d.s.c0, nU y_19.d.s.c1, nU y_19.d.s.c2, nU y_19.d.s.c3, nU y_19.d.s.c4, nU y_19.d.s.c5, nU y_19.d.s.c6, nU y_19.d.s.c7, AV.bool y_19.d.s.h, nI y_19.d.steps, AV.msl 10 0 0 y_19.d.notes.length y_19.d.notes.length, AV.msl 6 0 0 y_19.d.out.length y_19.c2, AV.msl 7 0 0 y_19.d.disk.length y_19.c3, AV.msl 8 0 0 y_19.d.queue.length y_19.c4, AV.msl 11 0 0 y_19.d.script.length
  y_19.d.script.length, nU (y_19.d.bl.getD 0 0), nU (y_19.d.bl.getD 1 0), nU (y_19.d.bl.getD 2 0), nU (y_19.d.bl.getD 3 0), nU (y_19.d.bl.getD 4 0), nU (y_19.d.bl.getD 5 0), nU (y_19.d.bl.getD 6 0), nU (y_19.d.bl.getD 7 0)]] ∧ rdB y_18.o y_18.m y_18.c y_18.e = rdB y_19.o y_19.m y_19.c y_19.e ∧ bR x.x.bs = bR x.x.bs ∧ bR y_1.l = bR y_19.d.mem ∧ (rsav_c_p3 x y_19) ∧ bR y_6.l = bR y_19.d.out ∧ bR y_7.l = bR y_19.d.disk ∧ bR y_8.l = bR y_19.d.queue ∧ (rsav_c_p4 x y_19) ∧ True) ∧ True) ∧ True) ∧ True) ∧ True) ∧ True) ∧ True) ∧ True) ∧ True) ((rsav_c_p31 x y_10) ∧ [AV.ptr 0 0 0] = [AV.ptr 0 0 0] ∧ (rsav_c_p18 x y_10) ∧ (∀ (y_11 : RdY), (rsav_c_p5 x y_10 y_11) ∧ InR 0 y_11.n 4294967295 → (rsav_c_p32 x y_11) ∧ [AV.ptr 0 0 0] = [AV.ptr 0 0 0] ∧ (rsav_c_p19 x y_11) ∧ (∀ (y_12 : RdY), (rsav_c_p6 x y_11 y_12) ∧ InR 0 y_12.n 4294967295 → (rsav_c_p33 x y_12) ∧ [AV.ptr 0 0 0] = [AV.ptr 0 0 0] ∧
  (rsav_c_p20 x y_12) ∧ (∀ (y_13 : RdY), (rsav_c_p7 x y_12 y_13) ∧ InR 0 y_13.n 4294967295 → (rsav_c_p34 x y_13) ∧ [AV.ptr 0 0 0] = [AV.ptr 0 0 0] ∧ (rsav_c_p21 x y_13) ∧ (∀ (y_14 : RdY), (rsav_c_p8 x y_13 y_14) ∧ InR 0 y_14.n 4294967295 → (rsav_c_p35 x y_14) ∧ [AV.ptr 0 0 0] = [AV.ptr 0 0 0] ∧ (rsav_c_p22 x y_14) ∧ (∀ (y_15 : RdY), (rsav_c_p9 x y_14 y_15) ∧ InR 0 y_15.n 4294967295 → (rsav_c_p36 x y_15) ∧ [AV.ptr 0 0 0] = [AV.ptr 0 0 0] ∧ (rsav_c_p23 x y_15) ∧ (∀ (y_16 : RdY), (rsav_c_p10 x y_15 y_16) ∧ InR 0 y_16.n 4294967295 → (rsav_c_p37 x y_16) ∧ [AV.ptr 0 0 0] = [AV.ptr 0 0 0] ∧ (rsav_c_p24 x y_16) ∧ (∀ (y_17 : RdY), (rsav_c_p11 x y_16 y_17) ∧ InR 0 y_17.n 4294967295 → (rsav_c_p38 x y_17) ∧ [AV.ptr 0 0 0] = [AV.ptr 0 0 0] ∧ (rsav_c_p25 x y_17) ∧ (∀ (y_18 : RdY), (rsav_c_p12 x y_17 y_18) ∧ InR 0 y_18.n 4294967295 → ∃ (y_19 : GuY), (rsav_c_p16 x y_19) ∧ [AV.agg (([nI (IntKind.i64.wrap
  y.n), AV.msl 4 0 0 y_1.l.length y_1.cap, nU y_2.s.r0, nU y_2.s.r1, nU y_2.s.r2, nU y_2.s.r3, nU y_2.s.r4, nU y_2.s.r5, nU y_2.s.r6, nU y_2.s.r7, nU y_2.s.pc, nU y_2.s.ps, nU y_2.s.c0, nU y_2.s.c1, nU y_2.s.c2, nU y_2.s.c3, nU y_2.s.c4, nU y_2.s.c5, nU y_2.s.c6, nU y_2.s.c7, AV.bool y_2.s.h, nI (IntKind.i64.wrap y_3.n), AV.nils, AV.msl 6 0 0 y_6.l.length y_6.cap, AV.msl 7 0 0 y_7.l.length y_7.cap, AV.msl 8 0 0 y_8.l.length y_8.cap, AV.sl 9 0 0 y_10.l.length y_10.l.length false, nU y_11.n, nU y_12.n, nU y_13.n, nU y_14.n, nU y_15.n, nU y_16.n, nU y_17.n, nU y_18.n].set 22 (AV.msl 10 0 0 0 0)).set 26 (AV.msl 9 0 0 y_10.l.length y_10.l.length))] = [AV.agg [nI y_19.d.fr, AV.msl 4 0 0 y_19.d.mem.length y_19.c0, nU y_19.d.s.r0, nU y_19.d.s.r1, nU y_19.d.s.r2, nU y_19.d.s.r3, nU y_19.d.s.r4, nU y_19.d.s.r5, nU y_19.d.s.r6, nU y_19.d.s.r7, nU y_19.d.s.pc, nU y_19.d.s.ps, nU y_19.d.s.c0, nU
  y_19.d.s.c1, nU y_19.d.s.c2, nU y_19.d.s.c3, nU y_19.d.s.c4, nU y_19.d.s.c5, nU y_19.d.s.c6, nU y_19.d.s.c7, AV.bool y_19.d.s.h, nI y_19.d.steps, AV.msl 10 0 0 y_19.d.notes.length y_19.d.notes.length, AV.msl 6 0 0 y_19.d.out.length y_19.c2, AV.msl 7 0 0 y_19.d.disk.length y_19.c3, AV.msl 8 0 0 y_19.d.queue.length y_19.c4, AV.msl 9 0 0 y_19.d.script.length y_19.d.script.length, nU (y_19.d.bl.getD 0 0), nU (y_19.d.bl.getD 1 0), nU (y_19.d.bl.getD 2 0), nU (y_19.d.bl.getD 3 0), nU (y_19.d.bl.getD 4 0), nU (y_19.d.bl.getD 5 0), nU (y_19.d.bl.getD 6 0), nU (y_19.d.bl.getD 7 0)]] ∧ rdB y_18.o y_18.m y_18.c y_18.e = rdB y_19.o y_19.m y_19.c y_19.e ∧ bR x.x.bs = bR x.x.bs ∧ bR y_1.l = bR y_19.d.mem ∧ (rsav_c_p3 x y_19) ∧ bR y_6.l = bR y_19.d.out ∧ bR y_7.l = bR y_19.d.disk ∧ bR y_8.l = bR y_19.d.queue ∧ (rsav_c_p2 x y_10 y_19) ∧ True) ∧ True) ∧ True) ∧ True) ∧ True) ∧ True) ∧ True) ∧ True) ∧
  True)) ∧ True) ∧ True) ∧ True) ∧ True) ((rsav_c_p39 x y_5) ∧ [AV.ptr 0 0 0, nI 65536] = [AV.ptr 0 0 0, nI 65536] ∧ (rsav_c_p27 x y_5) ∧ (∀ (y_6 : RrY), rrow (RdX.mk (RgX.mk x.x.bs y_5.o y_5.m y_5.c) y_5.e 65536).l 65536 (RS.mk y_5.o y_5.e) = (y_6.l, RS.mk y_6.o y_6.e) ∧ y_6.o + y_6.m = y_5.o + y_5.m ∧ (y_6.m ≤ y_6.c ∧ y_6.o + y_6.c = y_5.o + y_5.c) ∧ y_6.l.length ≤ y_6.cap → (rsav_c_p40 x y_6) ∧ [AV.ptr 0 0 0, nI 2048] = [AV.ptr 0 0 0, nI 2048] ∧ (rsav_c_p28 x y_6) ∧ (∀ (y_7 : RrY), rrow (RdX.mk (RgX.mk x.x.bs y_6.o y_6.m y_6.c) y_6.e 2048).l 2048 (RS.mk y_6.o y_6.e) = (y_7.l, RS.mk y_7.o y_7.e) ∧ y_7.o + y_7.m = y_6.o + y_6.m ∧ (y_7.m ≤ y_7.c ∧ y_7.o + y_7.c = y_6.o + y_6.c) ∧ y_7.l.length ≤ y_7.cap → (rsav_c_p41 x y_7) ∧ [AV.ptr 0 0 0, nI 32] = [AV.ptr 0 0 0, nI 32] ∧ (rsav_c_p29 x y_7) ∧ (∀ (y_8 : RrY), rrow (RdX.mk (RgX.mk x.x.bs y_7.o y_7.m y_7.c) y_7.e 32).l 32 (RS.mk y_7.o y_7.e) =
  (y_8.l, RS.mk y_8.o y_8.e) ∧ y_8.o + y_8.m = y_7.o + y_7.m ∧ (y_8.m ≤ y_8.c ∧ y_8.o + y_8.c = y_7.o + y_7.c) ∧ y_8.l.length ≤ y_8.cap → (rsav_c_p26 x y_8) ∧ [AV.ptr 0 0 0, nI 64] = [AV.ptr 0 0 0, nI 64] ∧ (rsav_c_p30 x y_8) ∧ (∀ (y_9 : RdY), (rsav_c_p14 x y_8 y_9) ∧ InR 0 y_9.n 64 → same (loopOf Proofs.Tryz.prog F_mummerref30_Reader_saved 1) (loopOf Proofs.Tryz.prog F_mummerref30_Reader_saved 1) ∧ (rsav_c_p13 x y_9) ∧ ((rsav_c_p17 x y_9) ∧ rdB y_9.o y_9.m y_9.c y_9.e = rdB y_9.o y_9.m y_9.c y_9.e ∧ bR x.x.bs = bR x.x.bs ∧ ABlk.mk true 35 (AC.cells zeroSv) = ABlk.mk true 35 (AC.cells (rsav_c_l0 x)) ∧ ABlk.mk true 35 (AC.cells ((([nI (IntKind.i64.wrap y.n), AV.msl 4 0 0 y_1.l.length y_1.cap, nU y_2.s.r0, nU y_2.s.r1, nU y_2.s.r2, nU y_2.s.r3, nU y_2.s.r4, nU y_2.s.r5, nU y_2.s.r6, nU y_2.s.r7, nU y_2.s.pc, nU y_2.s.ps, nU y_2.s.c0, nU y_2.s.c1, nU y_2.s.c2, nU y_2.s.c3, nU y_2.s.c4, nU
  y_2.s.c5, nU y_2.s.c6, nU y_2.s.c7, AV.bool y_2.s.h, nI (IntKind.i64.wrap y_3.n), AV.sl 5 0 0 y_5.l.length y_5.l.length false, AV.nils, AV.nils, AV.nils, AV.nils, nU 0, nU 0, nU 0, nU 0, nU 0, nU 0, nU 0, nU 0].set 23 (AV.msl 6 0 0 y_6.l.length y_6.cap)).set 24 (AV.msl 7 0 0 y_7.l.length y_7.cap)).set 25 (AV.msl 8 0 0 y_8.l.length y_8.cap))) = ABlk.mk true 35 (AC.cells [nI (IntKind.i64.wrap y.n), AV.msl 4 0 0 y_1.l.length y_1.cap, nU y_2.s.r0, nU y_2.s.r1, nU y_2.s.r2, nU y_2.s.r3, nU y_2.s.r4, nU y_2.s.r5, nU y_2.s.r6, nU y_2.s.r7, nU y_2.s.pc, nU y_2.s.ps, nU y_2.s.c0, nU y_2.s.c1, nU y_2.s.c2, nU y_2.s.c3, nU y_2.s.c4, nU y_2.s.c5, nU y_2.s.c6, nU y_2.s.c7, AV.bool y_2.s.h, nI (IntKind.i64.wrap y_3.n), AV.sl 5 0 0 y_5.l.length y_5.l.length false, AV.msl 6 0 0 y_6.l.length y_6.cap, AV.msl 7 0 0 y_7.l.length y_7.cap, AV.msl 8 0 0 y_8.l.length y_8.cap, AV.nils, nU 0, nU 0, nU 0, nU 0, nU
  0, nU 0, nU 0, nU 0]) ∧ bR y_1.l = bR y_1.l ∧ bR y_6.l = bR y_6.l ∧ bR y_7.l = bR y_7.l ∧ bR y_8.l = bR y_8.l ∧ (true = true ∧ 4 = 4 ∧ y_5.l.length = y_5.l.length ∧ ∀ (i : Nat), i < y_5.l.length → (rsav_c_p15 x i y_5) = (rsav_c_p15 x i y_5)) ∧ True) ∧ ∀ (y_10 : LoR E3), LoIs (rev3 (List.take (y_9.o + y_9.m) x.x.bs)) (RgX.mk x.x.bs y_9.o y_9.m y_9.c) y_9.e (y_9.n.toNat - 0) [] y_10 → sp y_10.l.isEmpty ((rsav_c_p31 x y_10) ∧ [AV.ptr 0 0 0] = [AV.ptr 0 0 0] ∧ (rsav_c_p18 x y_10) ∧ (∀ (y_11 : RdY), (rsav_c_p5 x y_10 y_11) ∧ InR 0 y_11.n 4294967295 → (rsav_c_p32 x y_11) ∧ [AV.ptr 0 0 0] = [AV.ptr 0 0 0] ∧ (rsav_c_p19 x y_11) ∧ (∀ (y_12 : RdY), (rsav_c_p6 x y_11 y_12) ∧ InR 0 y_12.n 4294967295 → (rsav_c_p33 x y_12) ∧ [AV.ptr 0 0 0] = [AV.ptr 0 0 0] ∧ (rsav_c_p20 x y_12) ∧ (∀ (y_13 : RdY), (rsav_c_p7 x y_12 y_13) ∧ InR 0 y_13.n 4294967295 → (rsav_c_p34 x y_13) ∧ [AV.ptr 0 0 0] = [AV.ptr 0 0 0] ∧
  (rsav_c_p21 x y_13) ∧ (∀ (y_14 : RdY), (rsav_c_p8 x y_13 y_14) ∧ InR 0 y_14.n 4294967295 → (rsav_c_p35 x y_14) ∧ [AV.ptr 0 0 0] = [AV.ptr 0 0 0] ∧ (rsav_c_p22 x y_14) ∧ (∀ (y_15 : RdY), (rsav_c_p9 x y_14 y_15) ∧ InR 0 y_15.n 4294967295 → (rsav_c_p36 x y_15) ∧ [AV.ptr 0 0 0] = [AV.ptr 0 0 0] ∧ (rsav_c_p23 x y_15) ∧ (∀ (y_16 : RdY), (rsav_c_p10 x y_15 y_16) ∧ InR 0 y_16.n 4294967295 → (rsav_c_p37 x y_16) ∧ [AV.ptr 0 0 0] = [AV.ptr 0 0 0] ∧ (rsav_c_p24 x y_16) ∧ (∀ (y_17 : RdY), (rsav_c_p11 x y_16 y_17) ∧ InR 0 y_17.n 4294967295 → (rsav_c_p38 x y_17) ∧ [AV.ptr 0 0 0] = [AV.ptr 0 0 0] ∧ (rsav_c_p25 x y_17) ∧ (∀ (y_18 : RdY), (rsav_c_p12 x y_17 y_18) ∧ InR 0 y_18.n 4294967295 → ∃ (y_19 : GuY), (rsav_c_p16 x y_19) ∧ [AV.agg (([nI (IntKind.i64.wrap y.n), AV.msl 4 0 0 y_1.l.length y_1.cap, nU y_2.s.r0, nU y_2.s.r1, nU y_2.s.r2, nU y_2.s.r3, nU y_2.s.r4, nU y_2.s.r5, nU y_2.s.r6, nU y_2.s.r7, nU
  y_2.s.pc, nU y_2.s.ps, nU y_2.s.c0, nU y_2.s.c1, nU y_2.s.c2, nU y_2.s.c3, nU y_2.s.c4, nU y_2.s.c5, nU y_2.s.c6, nU y_2.s.c7, AV.bool y_2.s.h, nI (IntKind.i64.wrap y_3.n), AV.sl 5 0 0 y_5.l.length y_5.l.length false, AV.msl 6 0 0 y_6.l.length y_6.cap, AV.msl 7 0 0 y_7.l.length y_7.cap, AV.msl 8 0 0 y_8.l.length y_8.cap, AV.nils, nU y_11.n, nU y_12.n, nU y_13.n, nU y_14.n, nU y_15.n, nU y_16.n, nU y_17.n, nU y_18.n].set 22 (AV.msl 5 0 0 y_5.l.length y_5.l.length)).set 26 (AV.msl 10 0 0 0 0))] = [AV.agg [nI y_19.d.fr, AV.msl 4 0 0 y_19.d.mem.length y_19.c0, nU y_19.d.s.r0, nU y_19.d.s.r1, nU y_19.d.s.r2, nU y_19.d.s.r3, nU y_19.d.s.r4, nU y_19.d.s.r5, nU y_19.d.s.r6, nU y_19.d.s.r7, nU y_19.d.s.pc, nU y_19.d.s.ps, nU y_19.d.s.c0, nU y_19.d.s.c1, nU y_19.d.s.c2, nU y_19.d.s.c3, nU y_19.d.s.c4, nU y_19.d.s.c5, nU y_19.d.s.c6, nU y_19.d.s.c7, AV.bool y_19.d.s.h, nI y_19.d.steps, AV.msl 5 0 0
  y_19.d.notes.length y_19.d.notes.length, AV.msl 6 0 0 y_19.d.out.length y_19.c2, AV.msl 7 0 0 y_19.d.disk.length y_19.c3, AV.msl 8 0 0 y_19.d.queue.length y_19.c4, AV.msl 10 0 0 y_19.d.script.length y_19.d.script.length, nU (y_19.d.bl.getD 0 0), nU (y_19.d.bl.getD 1 0), nU (y_19.d.bl.getD 2 0), nU (y_19.d.bl.getD 3 0), nU (y_19.d.bl.getD 4 0), nU (y_19.d.bl.getD 5 0), nU (y_19.d.bl.getD 6 0), nU (y_19.d.bl.getD 7 0)]] ∧ rdB y_18.o y_18.m y_18.c y_18.e = rdB y_19.o y_19.m y_19.c y_19.e ∧ bR x.x.bs = bR x.x.bs ∧ bR y_1.l = bR y_19.d.mem ∧ (rsav_c_p0 x y_19 y_5) ∧ bR y_6.l = bR y_19.d.out ∧ bR y_7.l = bR y_19.d.disk ∧ bR y_8.l = bR y_19.d.queue ∧ (rsav_c_p4 x y_19) ∧ True) ∧ True) ∧ True) ∧ True) ∧ True) ∧ True) ∧ True) ∧ True) ∧ True) ((rsav_c_p31 x y_10) ∧ [AV.ptr 0 0 0] = [AV.ptr 0 0 0] ∧ (rsav_c_p18 x y_10) ∧ (∀ (y_11 : RdY), (rsav_c_p5 x y_10 y_11) ∧ InR 0 y_11.n 4294967295 →
  (rsav_c_p32 x y_11) ∧ [AV.ptr 0 0 0] = [AV.ptr 0 0 0] ∧ (rsav_c_p19 x y_11) ∧ (∀ (y_12 : RdY), (rsav_c_p6 x y_11 y_12) ∧ InR 0 y_12.n 4294967295 → (rsav_c_p33 x y_12) ∧ [AV.ptr 0 0 0] = [AV.ptr 0 0 0] ∧ (rsav_c_p20 x y_12) ∧ (∀ (y_13 : RdY), (rsav_c_p7 x y_12 y_13) ∧ InR 0 y_13.n 4294967295 → (rsav_c_p34 x y_13) ∧ [AV.ptr 0 0 0] = [AV.ptr 0 0 0] ∧ (rsav_c_p21 x y_13) ∧ (∀ (y_14 : RdY), (rsav_c_p8 x y_13 y_14) ∧ InR 0 y_14.n 4294967295 → (rsav_c_p35 x y_14) ∧ [AV.ptr 0 0 0] = [AV.ptr 0 0 0] ∧ (rsav_c_p22 x y_14) ∧ (∀ (y_15 : RdY), (rsav_c_p9 x y_14 y_15) ∧ InR 0 y_15.n 4294967295 → (rsav_c_p36 x y_15) ∧ [AV.ptr 0 0 0] = [AV.ptr 0 0 0] ∧ (rsav_c_p23 x y_15) ∧ (∀ (y_16 : RdY), (rsav_c_p10 x y_15 y_16) ∧ InR 0 y_16.n 4294967295 → (rsav_c_p37 x y_16) ∧ [AV.ptr 0 0 0] = [AV.ptr 0 0 0] ∧ (rsav_c_p24 x y_16) ∧ (∀ (y_17 : RdY), (rsav_c_p11 x y_16 y_17) ∧ InR 0 y_17.n 4294967295 → (rsav_c_p38 x
  y_17) ∧ [AV.ptr 0 0 0] = [AV.ptr 0 0 0] ∧ (rsav_c_p25 x y_17) ∧ (∀ (y_18 : RdY), (rsav_c_p12 x y_17 y_18) ∧ InR 0 y_18.n 4294967295 → ∃ (y_19 : GuY), (rsav_c_p16 x y_19) ∧ [AV.agg (([nI (IntKind.i64.wrap y.n), AV.msl 4 0 0 y_1.l.length y_1.cap, nU y_2.s.r0, nU y_2.s.r1, nU y_2.s.r2, nU y_2.s.r3, nU y_2.s.r4, nU y_2.s.r5, nU y_2.s.r6, nU y_2.s.r7, nU y_2.s.pc, nU y_2.s.ps, nU y_2.s.c0, nU y_2.s.c1, nU y_2.s.c2, nU y_2.s.c3, nU y_2.s.c4, nU y_2.s.c5, nU y_2.s.c6, nU y_2.s.c7, AV.bool y_2.s.h, nI (IntKind.i64.wrap y_3.n), AV.sl 5 0 0 y_5.l.length y_5.l.length false, AV.msl 6 0 0 y_6.l.length y_6.cap, AV.msl 7 0 0 y_7.l.length y_7.cap, AV.msl 8 0 0 y_8.l.length y_8.cap, AV.sl 9 0 0 y_10.l.length y_10.l.length false, nU y_11.n, nU y_12.n, nU y_13.n, nU y_14.n, nU y_15.n, nU y_16.n, nU y_17.n, nU y_18.n].set 22 (AV.msl 5 0 0 y_5.l.length y_5.l.length)).set 26 (AV.msl 9 0 0 y_10.l.length
  y_10.l.length))] = [AV.agg [nI y_19.d.fr, AV.msl 4 0 0 y_19.d.mem.length y_19.c0, nU y_19.d.s.r0, nU y_19.d.s.r1, nU y_19.d.s.r2, nU y_19.d.s.r3, nU y_19.d.s.r4, nU y_19.d.s.r5, nU y_19.d.s.r6, nU y_19.d.s.r7, nU y_19.d.s.pc, nU y_19.d.s.ps, nU y_19.d.s.c0, nU y_19.d.s.c1, nU y_19.d.s.c2, nU y_19.d.s.c3, nU y_19.d.s.c4, nU y_19.d.s.c5, nU y_19.d.s.c6, nU y_19.d.s.c7, AV.bool y_19.d.s.h, nI y_19.d.steps, AV.msl 5 0 0 y_19.d.notes.length y_19.d.notes.length, AV.msl 6 0 0 y_19.d.out.length y_19.c2, AV.msl 7 0 0 y_19.d.disk.length y_19.c3, AV.msl 8 0 0 y_19.d.queue.length y_19.c4, AV.msl 9 0 0 y_19.d.script.length y_19.d.script.length, nU (y_19.d.bl.getD 0 0), nU (y_19.d.bl.getD 1 0), nU (y_19.d.bl.getD 2 0), nU (y_19.d.bl.getD 3 0), nU (y_19.d.bl.getD 4 0), nU (y_19.d.bl.getD 5 0), nU (y_19.d.bl.getD 6 0), nU (y_19.d.bl.getD 7 0)]] ∧ rdB y_18.o y_18.m y_18.c y_18.e = rdB y_19.o y_19.m y_19.c
  y_19.e ∧ bR x.x.bs = bR x.x.bs ∧ bR y_1.l = bR y_19.d.mem ∧ (rsav_c_p0 x y_19 y_5) ∧ bR y_6.l = bR y_19.d.out ∧ bR y_7.l = bR y_19.d.disk ∧ bR y_8.l = bR y_19.d.queue ∧ (rsav_c_p2 x y_10 y_19) ∧ True) ∧ True) ∧ True) ∧ True) ∧ True) ∧ True) ∧ True) ∧ True) ∧ True)) ∧ True) ∧ True) ∧ True) ∧ True)) ∧ True) ∧ True) ∧ True) ∧ True) ∧ True
theorem rsav_c_e (x : RdX) : some (rsav_c_V x) = (rsavedC.condF sp Go.Proofs.Tryz.prog (looseMsl 1 gspec) (drP sp Go.Proofs.Tryz.prog) (forF F_mummerref30_Reader_saved (orL ((gnLp Go.Proofs.Tryz.prog).loV sp Go.Proofs.Tryz.prog (isLoop 8) (loopOf Go.Proofs.Tryz.prog F_mummerref30_Reader_saved 0) gnRel gnOut) (orL ((geLp Go.Proofs.Tryz.prog true).loV sp Go.Proofs.Tryz.prog (isLoop 20) (loopOf Go.Proofs.Tryz.prog F_mummerref30_Reader_saved 1) geRel (geOut true)) ((geLp Go.Proofs.Tryz.prog false).loV sp Go.Proofs.Tryz.prog (isLoop 20) (loopOf Go.Proofs.Tryz.prog F_mummerref30_Reader_saved 1) geRel (geOut false)))) noLoops) (orK ((rnumC F_mummerref30_Reader_number .u64 rnum).orc sp) (orK (rwordC.orc sp) (orK ((rnumC F_mummerref30_Reader_count .i64 rcnt).orc sp) (orK (rrowC.orc sp) (rstateC.orc sp))))) 60 2 x) := by kernel_rfl
set_option maxRecDepth 100000 in
set_option maxHeartbeats 8000000 in
theorem rsaved_ok (hn : (rnumC F_mummerref30_Reader_number .u64 rnum).OK Go.Proofs.Tryz.prog) (hb : rgbC.OK Go.Proofs.Tryz.prog) : rsavedC.OK Go.Proofs.Tryz.prog := by
  refine Con.byF hmix (looseMsl_ok 1 gspec) (forF_ok (orL_ok (Lp.loV_ok (gnLp_ok hn) rfl gn_rel) (orL_ok (Lp.loV_ok (geLp_ok hn true) rfl ge_rel) (Lp.loV_ok (geLp_ok hn false) rfl ge_rel))) (noLoops_ok _)) (orK_ok (Con.orc_ok hn) (orK_ok (Con.orc_ok (rword_ok hn)) (orK_ok (Con.orc_ok (rcnt_ok hn)) (orK_ok (Con.orc_ok (rrow_ok hb)) (Con.orc_ok (rstate_ok hn)))))) rsav_c_V rsav_c_e (fun x h => ?_)
  obtain ⟨⟨bs, o, m, c⟩, e, mo⟩ := x
  obtain ⟨h1, h2, h3, h4⟩ := h
  unfold rsav_c_V rsav_c_p41 rsav_c_p40 rsav_c_p39 rsav_c_p38 rsav_c_p37 rsav_c_p36 rsav_c_p35 rsav_c_p34 rsav_c_p33 rsav_c_p32 rsav_c_p31 rsav_c_p30 rsav_c_p29 rsav_c_p28 rsav_c_p27 rsav_c_p26 rsav_c_p25 rsav_c_p24 rsav_c_p23 rsav_c_p22 rsav_c_p21 rsav_c_p20 rsav_c_p19 rsav_c_p18 rsav_c_p17 rsav_c_p16 rsav_c_p0 rsav_c_p15 rsav_c_p14 rsav_c_p13 rsav_c_p12 rsav_c_p11 rsav_c_p10 rsav_c_p9 rsav_c_p8 rsav_c_p7 rsav_c_p6 rsav_c_p5 rsav_c_p4 rsav_c_p3 rsav_c_p2 rsav_c_p1
  refine ⟨⟨⟨h1, h2, h3, h4⟩, ⟨by decide, by decide⟩⟩, rfl, ⟨rfl, rfl, trivial⟩, fun y0 g0 => ?_, trivial⟩
  have E0 : y0.o + y0.m = o + m := g0.1.2.1
  have M0 : y0.m ≤ y0.c := g0.1.2.2.1
  have C0 : y0.o + y0.c = o + c := g0.1.2.2.2
  have r0 : rnum (bs.take (o + m)) 1099511627776 ⟨o, e⟩ = (y0.n, ⟨y0.o, y0.e⟩) := by exact g0.1.1
  refine ⟨⟨by rw [E0]; exact h1, h2, h3, M0⟩, rfl, ⟨rfl, rfl, trivial⟩, fun y1 g1 => ?_, trivial⟩
  have E1 : y1.o + y1.m = o + m := g1.2.1.trans E0
  have M1 : y1.m ≤ y1.c := g1.2.2.1.1
  have C1 : y1.o + y1.c = o + c := g1.2.2.1.2.trans C0
  have r1 : rrow (bs.take (o + m)) 4096 ⟨y0.o, y0.e⟩ = (y1.l, ⟨y1.o, y1.e⟩) := by rw [← E0]; exact g1.1
  refine ⟨⟨by rw [E1]; exact h1, h2, h3, M1⟩, rfl, ⟨rfl, rfl, trivial⟩, fun y2 g2 => ?_, trivial⟩
  have E2 : y2.o + y2.m = o + m := g2.2.1.trans E1
  have M2 : y2.m ≤ y2.c := g2.2.2.1
  have C2 : y2.o + y2.c = o + c := g2.2.2.2.trans C1
  have r2 : rstate (bs.take (o + m)) ⟨y1.o, y1.e⟩ = (y2.s, ⟨y2.o, y2.e⟩) := by rw [← E1]; exact g2.1.eq
  refine ⟨⟨⟨by rw [E2]; exact h1, h2, h3, M2⟩, ⟨by decide, by decide⟩⟩, rfl, ⟨rfl, rfl, trivial⟩, fun y3 g3 => ?_, trivial⟩
  have E3 : y3.o + y3.m = o + m := g3.1.2.1.trans E2
  have M3 : y3.m ≤ y3.c := g3.1.2.2.1
  have C3 : y3.o + y3.c = o + c := g3.1.2.2.2.trans C2
  have r3 : rnum (bs.take (o + m)) 1099511627776 ⟨y2.o, y2.e⟩ = (y3.n, ⟨y3.o, y3.e⟩) := by rw [← E2]; exact g3.1.1
  refine ⟨⟨⟨by rw [E3]; exact h1, h2, h3, M3⟩, ⟨by decide, by decide⟩⟩, rfl, ⟨rfl, rfl, trivial⟩, fun y4 g4 => ?_, trivial⟩
  have E4 : y4.o + y4.m = o + m := g4.1.2.1.trans E3
  have M4 : y4.m ≤ y4.c := g4.1.2.2.1
  have C4 : y4.o + y4.c = o + c := g4.1.2.2.2.trans C3
  have r4 : rcnt (bs.take (o + m)) 4096 ⟨y3.o, y3.e⟩ = (y4.n, ⟨y4.o, y4.e⟩) := by rw [← E3]; exact g4.1.1
  have w0 : IntKind.wrap .i64 y0.n = y0.n := IntWalk.i64_in _ (by have := g0.2.lo; have := g0.2.hi; omega)
  have w3 : IntKind.wrap .i64 y3.n = y3.n := IntWalk.i64_in _ (by have := g3.2.lo; have := g3.2.hi; omega)
  rw [w0, w3]
  have t4 : ((y4.n.toNat : Nat) : Int) = y4.n := Int.toNat_of_nonneg g4.2.lo
  refine ⟨rfl, ⟨⟨by rw [E4]; exact h1, h2, h3, M4⟩, (by have := g4.2.hi; omega), Nat.zero_le _, rfl, (fun h => by cases h), fun _ => rfl⟩, ⟨⟨rfl, rfl, rfl, by rw [t4], rfl, trivial⟩, rfl, rfl, rfl, (by kernel_rfl), rfl, trivial⟩, fun y5 g5 => ?_⟩
  have E5 : y5.o + y5.m = o + m := g5.m.trans E4
  have M5 : y5.m ≤ y5.c := g5.mc
  have C5 : y5.o + y5.c = o + c := g5.c.trans C4
  have r5 : rmany (rnote (bs.take (o + m))) y4.n.toNat ⟨y4.o, y4.e⟩ = (y5.l, ⟨y5.o, y5.e⟩) := by rw [← E4]; exact g5.eq
  refine spI (fun z5 => ?_) (fun _ => ?_)
  · have z5 : y5.l = [] := List.isEmpty_iff.1 z5
    rw [z5] at r5
    refine ⟨⟨by rw [E5]; exact h1, h2, h3, M5⟩, rfl, ⟨rfl, rfl, trivial⟩, fun y6 g6 => ?_, trivial⟩
    have E6 : y6.o + y6.m = o + m := g6.2.1.trans E5
    have M6 : y6.m ≤ y6.c := g6.2.2.1.1
    have C6 : y6.o + y6.c = o + c := g6.2.2.1.2.trans C5
    have r6 : rrow (bs.take (o + m)) 65536 ⟨y5.o, y5.e⟩ = (y6.l, ⟨y6.o, y6.e⟩) := by rw [← E5]; exact g6.1
    refine ⟨⟨by rw [E6]; exact h1, h2, h3, M6⟩, rfl, ⟨rfl, rfl, trivial⟩, fun y7 g7 => ?_, trivial⟩
    have E7 : y7.o + y7.m = o + m := g7.2.1.trans E6
    have M7 : y7.m ≤ y7.c := g7.2.2.1.1
    have C7 : y7.o + y7.c = o + c := g7.2.2.1.2.trans C6
    have r7 : rrow (bs.take (o + m)) 2048 ⟨y6.o, y6.e⟩ = (y7.l, ⟨y7.o, y7.e⟩) := by rw [← E6]; exact g7.1
    refine ⟨⟨by rw [E7]; exact h1, h2, h3, M7⟩, rfl, ⟨rfl, rfl, trivial⟩, fun y8 g8 => ?_, trivial⟩
    have E8 : y8.o + y8.m = o + m := g8.2.1.trans E7
    have M8 : y8.m ≤ y8.c := g8.2.2.1.1
    have C8 : y8.o + y8.c = o + c := g8.2.2.1.2.trans C7
    have r8 : rrow (bs.take (o + m)) 32 ⟨y7.o, y7.e⟩ = (y8.l, ⟨y8.o, y8.e⟩) := by rw [← E7]; exact g8.1
    refine ⟨⟨⟨by rw [E8]; exact h1, h2, h3, M8⟩, ⟨by decide, by decide⟩⟩, rfl, ⟨rfl, rfl, trivial⟩, fun y9 g9 => ?_, trivial⟩
    have E9 : y9.o + y9.m = o + m := g9.1.2.1.trans E8
    have M9 : y9.m ≤ y9.c := g9.1.2.2.1
    have C9 : y9.o + y9.c = o + c := g9.1.2.2.2.trans C8
    have r9 : rcnt (bs.take (o + m)) 64 ⟨y8.o, y8.e⟩ = (y9.n, ⟨y9.o, y9.e⟩) := by rw [← E8]; exact g9.1.1
    have t9 : ((y9.n.toNat : Nat) : Int) = y9.n := Int.toNat_of_nonneg g9.2.lo
    refine ⟨rfl, ⟨⟨by rw [E9]; exact h1, h2, h3, M9⟩, (by have := g9.2.hi; omega), Nat.zero_le _, rfl, (fun h => by cases h), fun _ => rfl⟩, ⟨⟨rfl, rfl, rfl, by rw [t9], rfl, trivial⟩, rfl, rfl, rfl, (by kernel_rfl), rfl, rfl, rfl, rfl, trivial⟩, fun y10 g10 => ?_⟩
    have E10 : y10.o + y10.m = o + m := g10.m.trans E9
    have M10 : y10.m ≤ y10.c := g10.mc
    have C10 : y10.o + y10.c = o + c := g10.c.trans C9
    have r10 : rmany (rev3 (bs.take (o + m))) y9.n.toNat ⟨y9.o, y9.e⟩ = (y10.l, ⟨y10.o, y10.e⟩) := by rw [← E9]; exact g10.eq
    refine spI (fun z10 => ?_) (fun _ => ?_)
    · have z10 : y10.l = [] := List.isEmpty_iff.1 z10
      rw [z10] at r10
      refine ⟨⟨by rw [E10]; exact h1, h2, h3, M10⟩, rfl, ⟨rfl, rfl, trivial⟩, fun y11 g11 => ?_, trivial⟩
      have E11 : y11.o + y11.m = o + m := g11.1.2.1.trans E10
      have M11 : y11.m ≤ y11.c := g11.1.2.2.1
      have C11 : y11.o + y11.c = o + c := g11.1.2.2.2.trans C10
      have r11 : rnum (bs.take (o + m)) 4294967295 ⟨y10.o, y10.e⟩ = (y11.n, ⟨y11.o, y11.e⟩) := by rw [← E10]; exact g11.1.1
      refine ⟨⟨by rw [E11]; exact h1, h2, h3, M11⟩, rfl, ⟨rfl, rfl, trivial⟩, fun y12 g12 => ?_, trivial⟩
      have E12 : y12.o + y12.m = o + m := g12.1.2.1.trans E11
      have M12 : y12.m ≤ y12.c := g12.1.2.2.1
      have C12 : y12.o + y12.c = o + c := g12.1.2.2.2.trans C11
      have r12 : rnum (bs.take (o + m)) 4294967295 ⟨y11.o, y11.e⟩ = (y12.n, ⟨y12.o, y12.e⟩) := by rw [← E11]; exact g12.1.1
      refine ⟨⟨by rw [E12]; exact h1, h2, h3, M12⟩, rfl, ⟨rfl, rfl, trivial⟩, fun y13 g13 => ?_, trivial⟩
      have E13 : y13.o + y13.m = o + m := g13.1.2.1.trans E12
      have M13 : y13.m ≤ y13.c := g13.1.2.2.1
      have C13 : y13.o + y13.c = o + c := g13.1.2.2.2.trans C12
      have r13 : rnum (bs.take (o + m)) 4294967295 ⟨y12.o, y12.e⟩ = (y13.n, ⟨y13.o, y13.e⟩) := by rw [← E12]; exact g13.1.1
      refine ⟨⟨by rw [E13]; exact h1, h2, h3, M13⟩, rfl, ⟨rfl, rfl, trivial⟩, fun y14 g14 => ?_, trivial⟩
      have E14 : y14.o + y14.m = o + m := g14.1.2.1.trans E13
      have M14 : y14.m ≤ y14.c := g14.1.2.2.1
      have C14 : y14.o + y14.c = o + c := g14.1.2.2.2.trans C13
      have r14 : rnum (bs.take (o + m)) 4294967295 ⟨y13.o, y13.e⟩ = (y14.n, ⟨y14.o, y14.e⟩) := by rw [← E13]; exact g14.1.1
      refine ⟨⟨by rw [E14]; exact h1, h2, h3, M14⟩, rfl, ⟨rfl, rfl, trivial⟩, fun y15 g15 => ?_, trivial⟩
      have E15 : y15.o + y15.m = o + m := g15.1.2.1.trans E14
      have M15 : y15.m ≤ y15.c := g15.1.2.2.1
      have C15 : y15.o + y15.c = o + c := g15.1.2.2.2.trans C14
      have r15 : rnum (bs.take (o + m)) 4294967295 ⟨y14.o, y14.e⟩ = (y15.n, ⟨y15.o, y15.e⟩) := by rw [← E14]; exact g15.1.1
      refine ⟨⟨by rw [E15]; exact h1, h2, h3, M15⟩, rfl, ⟨rfl, rfl, trivial⟩, fun y16 g16 => ?_, trivial⟩
      have E16 : y16.o + y16.m = o + m := g16.1.2.1.trans E15
      have M16 : y16.m ≤ y16.c := g16.1.2.2.1
      have C16 : y16.o + y16.c = o + c := g16.1.2.2.2.trans C15
      have r16 : rnum (bs.take (o + m)) 4294967295 ⟨y15.o, y15.e⟩ = (y16.n, ⟨y16.o, y16.e⟩) := by rw [← E15]; exact g16.1.1
      refine ⟨⟨by rw [E16]; exact h1, h2, h3, M16⟩, rfl, ⟨rfl, rfl, trivial⟩, fun y17 g17 => ?_, trivial⟩
      have E17 : y17.o + y17.m = o + m := g17.1.2.1.trans E16
      have M17 : y17.m ≤ y17.c := g17.1.2.2.1
      have C17 : y17.o + y17.c = o + c := g17.1.2.2.2.trans C16
      have r17 : rnum (bs.take (o + m)) 4294967295 ⟨y16.o, y16.e⟩ = (y17.n, ⟨y17.o, y17.e⟩) := by rw [← E16]; exact g17.1.1
      refine ⟨⟨by rw [E17]; exact h1, h2, h3, M17⟩, rfl, ⟨rfl, rfl, trivial⟩, fun y18 g18 => ?_, trivial⟩
      have E18 : y18.o + y18.m = o + m := g18.1.2.1.trans E17
      have M18 : y18.m ≤ y18.c := g18.1.2.2.1
      have C18 : y18.o + y18.c = o + c := g18.1.2.2.2.trans C17
      have r18 : rnum (bs.take (o + m)) 4294967295 ⟨y17.o, y17.e⟩ = (y18.n, ⟨y18.o, y18.e⟩) := by rw [← E17]; exact g18.1.1
      refine ⟨⟨⟨y0.n, y1.l, y2.s, y3.n, [], y6.l, y7.l, y8.l, [], [y11.n, y12.n, y13.n, y14.n, y15.n, y16.n, y17.n, y18.n]⟩, y1.cap, y6.cap, y7.cap, y8.cap, y18.o, y18.m, y18.c, y18.e⟩, ⟨⟨?_⟩, ⟨E18, M18, C18⟩, ⟨g1.2.2.2, g6.2.2.2, g7.2.2.2, g8.2.2.2⟩⟩, (by kernel_rfl), rfl, rfl, rfl, ⟨rfl, rfl, rfl, fun i hi => absurd hi (Nat.not_lt_zero i)⟩, rfl, rfl, rfl, ⟨rfl, rfl, rfl, fun i hi => absurd hi (Nat.not_lt_zero i)⟩, trivial⟩
      show rguest (bs.take (o + m)) ⟨o, e⟩ = _
      simp only [rguest, rwords, RB, r0, r1, r2, r3, r4, r5, r6, r7, r8, r9, r10, r11, r12, r13, r14, r15, r16, r17, r18]
    · refine ⟨⟨by rw [E10]; exact h1, h2, h3, M10⟩, rfl, ⟨rfl, rfl, trivial⟩, fun y11 g11 => ?_, trivial⟩
      have E11 : y11.o + y11.m = o + m := g11.1.2.1.trans E10
      have M11 : y11.m ≤ y11.c := g11.1.2.2.1
      have C11 : y11.o + y11.c = o + c := g11.1.2.2.2.trans C10
      have r11 : rnum (bs.take (o + m)) 4294967295 ⟨y10.o, y10.e⟩ = (y11.n, ⟨y11.o, y11.e⟩) := by rw [← E10]; exact g11.1.1
      refine ⟨⟨by rw [E11]; exact h1, h2, h3, M11⟩, rfl, ⟨rfl, rfl, trivial⟩, fun y12 g12 => ?_, trivial⟩
      have E12 : y12.o + y12.m = o + m := g12.1.2.1.trans E11
      have M12 : y12.m ≤ y12.c := g12.1.2.2.1
      have C12 : y12.o + y12.c = o + c := g12.1.2.2.2.trans C11
      have r12 : rnum (bs.take (o + m)) 4294967295 ⟨y11.o, y11.e⟩ = (y12.n, ⟨y12.o, y12.e⟩) := by rw [← E11]; exact g12.1.1
      refine ⟨⟨by rw [E12]; exact h1, h2, h3, M12⟩, rfl, ⟨rfl, rfl, trivial⟩, fun y13 g13 => ?_, trivial⟩
      have E13 : y13.o + y13.m = o + m := g13.1.2.1.trans E12
      have M13 : y13.m ≤ y13.c := g13.1.2.2.1
      have C13 : y13.o + y13.c = o + c := g13.1.2.2.2.trans C12
      have r13 : rnum (bs.take (o + m)) 4294967295 ⟨y12.o, y12.e⟩ = (y13.n, ⟨y13.o, y13.e⟩) := by rw [← E12]; exact g13.1.1
      refine ⟨⟨by rw [E13]; exact h1, h2, h3, M13⟩, rfl, ⟨rfl, rfl, trivial⟩, fun y14 g14 => ?_, trivial⟩
      have E14 : y14.o + y14.m = o + m := g14.1.2.1.trans E13
      have M14 : y14.m ≤ y14.c := g14.1.2.2.1
      have C14 : y14.o + y14.c = o + c := g14.1.2.2.2.trans C13
      have r14 : rnum (bs.take (o + m)) 4294967295 ⟨y13.o, y13.e⟩ = (y14.n, ⟨y14.o, y14.e⟩) := by rw [← E13]; exact g14.1.1
      refine ⟨⟨by rw [E14]; exact h1, h2, h3, M14⟩, rfl, ⟨rfl, rfl, trivial⟩, fun y15 g15 => ?_, trivial⟩
      have E15 : y15.o + y15.m = o + m := g15.1.2.1.trans E14
      have M15 : y15.m ≤ y15.c := g15.1.2.2.1
      have C15 : y15.o + y15.c = o + c := g15.1.2.2.2.trans C14
      have r15 : rnum (bs.take (o + m)) 4294967295 ⟨y14.o, y14.e⟩ = (y15.n, ⟨y15.o, y15.e⟩) := by rw [← E14]; exact g15.1.1
      refine ⟨⟨by rw [E15]; exact h1, h2, h3, M15⟩, rfl, ⟨rfl, rfl, trivial⟩, fun y16 g16 => ?_, trivial⟩
      have E16 : y16.o + y16.m = o + m := g16.1.2.1.trans E15
      have M16 : y16.m ≤ y16.c := g16.1.2.2.1
      have C16 : y16.o + y16.c = o + c := g16.1.2.2.2.trans C15
      have r16 : rnum (bs.take (o + m)) 4294967295 ⟨y15.o, y15.e⟩ = (y16.n, ⟨y16.o, y16.e⟩) := by rw [← E15]; exact g16.1.1
      refine ⟨⟨by rw [E16]; exact h1, h2, h3, M16⟩, rfl, ⟨rfl, rfl, trivial⟩, fun y17 g17 => ?_, trivial⟩
      have E17 : y17.o + y17.m = o + m := g17.1.2.1.trans E16
      have M17 : y17.m ≤ y17.c := g17.1.2.2.1
      have C17 : y17.o + y17.c = o + c := g17.1.2.2.2.trans C16
      have r17 : rnum (bs.take (o + m)) 4294967295 ⟨y16.o, y16.e⟩ = (y17.n, ⟨y17.o, y17.e⟩) := by rw [← E16]; exact g17.1.1
      refine ⟨⟨by rw [E17]; exact h1, h2, h3, M17⟩, rfl, ⟨rfl, rfl, trivial⟩, fun y18 g18 => ?_, trivial⟩
      have E18 : y18.o + y18.m = o + m := g18.1.2.1.trans E17
      have M18 : y18.m ≤ y18.c := g18.1.2.2.1
      have C18 : y18.o + y18.c = o + c := g18.1.2.2.2.trans C17
      have r18 : rnum (bs.take (o + m)) 4294967295 ⟨y17.o, y17.e⟩ = (y18.n, ⟨y18.o, y18.e⟩) := by rw [← E17]; exact g18.1.1
      refine ⟨⟨⟨y0.n, y1.l, y2.s, y3.n, [], y6.l, y7.l, y8.l, y10.l, [y11.n, y12.n, y13.n, y14.n, y15.n, y16.n, y17.n, y18.n]⟩, y1.cap, y6.cap, y7.cap, y8.cap, y18.o, y18.m, y18.c, y18.e⟩, ⟨⟨?_⟩, ⟨E18, M18, C18⟩, ⟨g1.2.2.2, g6.2.2.2, g7.2.2.2, g8.2.2.2⟩⟩, (by kernel_rfl), rfl, rfl, rfl, ⟨rfl, rfl, rfl, fun i hi => absurd hi (Nat.not_lt_zero i)⟩, rfl, rfl, rfl, ⟨rfl, rfl, rfl, fun _ _ => rfl⟩, trivial⟩
      show rguest (bs.take (o + m)) ⟨o, e⟩ = _
      simp only [rguest, rwords, RB, r0, r1, r2, r3, r4, r5, r6, r7, r8, r9, r10, r11, r12, r13, r14, r15, r16, r17, r18]
  · refine ⟨⟨by rw [E5]; exact h1, h2, h3, M5⟩, rfl, ⟨rfl, rfl, trivial⟩, fun y6 g6 => ?_, trivial⟩
    have E6 : y6.o + y6.m = o + m := g6.2.1.trans E5
    have M6 : y6.m ≤ y6.c := g6.2.2.1.1
    have C6 : y6.o + y6.c = o + c := g6.2.2.1.2.trans C5
    have r6 : rrow (bs.take (o + m)) 65536 ⟨y5.o, y5.e⟩ = (y6.l, ⟨y6.o, y6.e⟩) := by rw [← E5]; exact g6.1
    refine ⟨⟨by rw [E6]; exact h1, h2, h3, M6⟩, rfl, ⟨rfl, rfl, trivial⟩, fun y7 g7 => ?_, trivial⟩
    have E7 : y7.o + y7.m = o + m := g7.2.1.trans E6
    have M7 : y7.m ≤ y7.c := g7.2.2.1.1
    have C7 : y7.o + y7.c = o + c := g7.2.2.1.2.trans C6
    have r7 : rrow (bs.take (o + m)) 2048 ⟨y6.o, y6.e⟩ = (y7.l, ⟨y7.o, y7.e⟩) := by rw [← E6]; exact g7.1
    refine ⟨⟨by rw [E7]; exact h1, h2, h3, M7⟩, rfl, ⟨rfl, rfl, trivial⟩, fun y8 g8 => ?_, trivial⟩
    have E8 : y8.o + y8.m = o + m := g8.2.1.trans E7
    have M8 : y8.m ≤ y8.c := g8.2.2.1.1
    have C8 : y8.o + y8.c = o + c := g8.2.2.1.2.trans C7
    have r8 : rrow (bs.take (o + m)) 32 ⟨y7.o, y7.e⟩ = (y8.l, ⟨y8.o, y8.e⟩) := by rw [← E7]; exact g8.1
    refine ⟨⟨⟨by rw [E8]; exact h1, h2, h3, M8⟩, ⟨by decide, by decide⟩⟩, rfl, ⟨rfl, rfl, trivial⟩, fun y9 g9 => ?_, trivial⟩
    have E9 : y9.o + y9.m = o + m := g9.1.2.1.trans E8
    have M9 : y9.m ≤ y9.c := g9.1.2.2.1
    have C9 : y9.o + y9.c = o + c := g9.1.2.2.2.trans C8
    have r9 : rcnt (bs.take (o + m)) 64 ⟨y8.o, y8.e⟩ = (y9.n, ⟨y9.o, y9.e⟩) := by rw [← E8]; exact g9.1.1
    have t9 : ((y9.n.toNat : Nat) : Int) = y9.n := Int.toNat_of_nonneg g9.2.lo
    refine ⟨rfl, ⟨⟨by rw [E9]; exact h1, h2, h3, M9⟩, (by have := g9.2.hi; omega), Nat.zero_le _, rfl, (fun h => by cases h), fun _ => rfl⟩, ⟨⟨rfl, rfl, rfl, by rw [t9], rfl, trivial⟩, rfl, rfl, rfl, (by kernel_rfl), rfl, rfl, rfl, rfl, ⟨rfl, rfl, rfl, fun _ _ => rfl⟩, trivial⟩, fun y10 g10 => ?_⟩
    have E10 : y10.o + y10.m = o + m := g10.m.trans E9
    have M10 : y10.m ≤ y10.c := g10.mc
    have C10 : y10.o + y10.c = o + c := g10.c.trans C9
    have r10 : rmany (rev3 (bs.take (o + m))) y9.n.toNat ⟨y9.o, y9.e⟩ = (y10.l, ⟨y10.o, y10.e⟩) := by rw [← E9]; exact g10.eq
    refine spI (fun z10 => ?_) (fun _ => ?_)
    · have z10 : y10.l = [] := List.isEmpty_iff.1 z10
      rw [z10] at r10
      refine ⟨⟨by rw [E10]; exact h1, h2, h3, M10⟩, rfl, ⟨rfl, rfl, trivial⟩, fun y11 g11 => ?_, trivial⟩
      have E11 : y11.o + y11.m = o + m := g11.1.2.1.trans E10
      have M11 : y11.m ≤ y11.c := g11.1.2.2.1
      have C11 : y11.o + y11.c = o + c := g11.1.2.2.2.trans C10
      have r11 : rnum (bs.take (o + m)) 4294967295 ⟨y10.o, y10.e⟩ = (y11.n, ⟨y11.o, y11.e⟩) := by rw [← E10]; exact g11.1.1
      refine ⟨⟨by rw [E11]; exact h1, h2, h3, M11⟩, rfl, ⟨rfl, rfl, trivial⟩, fun y12 g12 => ?_, trivial⟩
      have E12 : y12.o + y12.m = o + m := g12.1.2.1.trans E11
      have M12 : y12.m ≤ y12.c := g12.1.2.2.1
      have C12 : y12.o + y12.c = o + c := g12.1.2.2.2.trans C11
      have r12 : rnum (bs.take (o + m)) 4294967295 ⟨y11.o, y11.e⟩ = (y12.n, ⟨y12.o, y12.e⟩) := by rw [← E11]; exact g12.1.1
      refine ⟨⟨by rw [E12]; exact h1, h2, h3, M12⟩, rfl, ⟨rfl, rfl, trivial⟩, fun y13 g13 => ?_, trivial⟩
      have E13 : y13.o + y13.m = o + m := g13.1.2.1.trans E12
      have M13 : y13.m ≤ y13.c := g13.1.2.2.1
      have C13 : y13.o + y13.c = o + c := g13.1.2.2.2.trans C12
      have r13 : rnum (bs.take (o + m)) 4294967295 ⟨y12.o, y12.e⟩ = (y13.n, ⟨y13.o, y13.e⟩) := by rw [← E12]; exact g13.1.1
      refine ⟨⟨by rw [E13]; exact h1, h2, h3, M13⟩, rfl, ⟨rfl, rfl, trivial⟩, fun y14 g14 => ?_, trivial⟩
      have E14 : y14.o + y14.m = o + m := g14.1.2.1.trans E13
      have M14 : y14.m ≤ y14.c := g14.1.2.2.1
      have C14 : y14.o + y14.c = o + c := g14.1.2.2.2.trans C13
      have r14 : rnum (bs.take (o + m)) 4294967295 ⟨y13.o, y13.e⟩ = (y14.n, ⟨y14.o, y14.e⟩) := by rw [← E13]; exact g14.1.1
      refine ⟨⟨by rw [E14]; exact h1, h2, h3, M14⟩, rfl, ⟨rfl, rfl, trivial⟩, fun y15 g15 => ?_, trivial⟩
      have E15 : y15.o + y15.m = o + m := g15.1.2.1.trans E14
      have M15 : y15.m ≤ y15.c := g15.1.2.2.1
      have C15 : y15.o + y15.c = o + c := g15.1.2.2.2.trans C14
      have r15 : rnum (bs.take (o + m)) 4294967295 ⟨y14.o, y14.e⟩ = (y15.n, ⟨y15.o, y15.e⟩) := by rw [← E14]; exact g15.1.1
      refine ⟨⟨by rw [E15]; exact h1, h2, h3, M15⟩, rfl, ⟨rfl, rfl, trivial⟩, fun y16 g16 => ?_, trivial⟩
      have E16 : y16.o + y16.m = o + m := g16.1.2.1.trans E15
      have M16 : y16.m ≤ y16.c := g16.1.2.2.1
      have C16 : y16.o + y16.c = o + c := g16.1.2.2.2.trans C15
      have r16 : rnum (bs.take (o + m)) 4294967295 ⟨y15.o, y15.e⟩ = (y16.n, ⟨y16.o, y16.e⟩) := by rw [← E15]; exact g16.1.1
      refine ⟨⟨by rw [E16]; exact h1, h2, h3, M16⟩, rfl, ⟨rfl, rfl, trivial⟩, fun y17 g17 => ?_, trivial⟩
      have E17 : y17.o + y17.m = o + m := g17.1.2.1.trans E16
      have M17 : y17.m ≤ y17.c := g17.1.2.2.1
      have C17 : y17.o + y17.c = o + c := g17.1.2.2.2.trans C16
      have r17 : rnum (bs.take (o + m)) 4294967295 ⟨y16.o, y16.e⟩ = (y17.n, ⟨y17.o, y17.e⟩) := by rw [← E16]; exact g17.1.1
      refine ⟨⟨by rw [E17]; exact h1, h2, h3, M17⟩, rfl, ⟨rfl, rfl, trivial⟩, fun y18 g18 => ?_, trivial⟩
      have E18 : y18.o + y18.m = o + m := g18.1.2.1.trans E17
      have M18 : y18.m ≤ y18.c := g18.1.2.2.1
      have C18 : y18.o + y18.c = o + c := g18.1.2.2.2.trans C17
      have r18 : rnum (bs.take (o + m)) 4294967295 ⟨y17.o, y17.e⟩ = (y18.n, ⟨y18.o, y18.e⟩) := by rw [← E17]; exact g18.1.1
      refine ⟨⟨⟨y0.n, y1.l, y2.s, y3.n, y5.l, y6.l, y7.l, y8.l, [], [y11.n, y12.n, y13.n, y14.n, y15.n, y16.n, y17.n, y18.n]⟩, y1.cap, y6.cap, y7.cap, y8.cap, y18.o, y18.m, y18.c, y18.e⟩, ⟨⟨?_⟩, ⟨E18, M18, C18⟩, ⟨g1.2.2.2, g6.2.2.2, g7.2.2.2, g8.2.2.2⟩⟩, (by kernel_rfl), rfl, rfl, rfl, ⟨rfl, rfl, rfl, fun _ _ => rfl⟩, rfl, rfl, rfl, ⟨rfl, rfl, rfl, fun i hi => absurd hi (Nat.not_lt_zero i)⟩, trivial⟩
      show rguest (bs.take (o + m)) ⟨o, e⟩ = _
      simp only [rguest, rwords, RB, r0, r1, r2, r3, r4, r5, r6, r7, r8, r9, r10, r11, r12, r13, r14, r15, r16, r17, r18]
    · refine ⟨⟨by rw [E10]; exact h1, h2, h3, M10⟩, rfl, ⟨rfl, rfl, trivial⟩, fun y11 g11 => ?_, trivial⟩
      have E11 : y11.o + y11.m = o + m := g11.1.2.1.trans E10
      have M11 : y11.m ≤ y11.c := g11.1.2.2.1
      have C11 : y11.o + y11.c = o + c := g11.1.2.2.2.trans C10
      have r11 : rnum (bs.take (o + m)) 4294967295 ⟨y10.o, y10.e⟩ = (y11.n, ⟨y11.o, y11.e⟩) := by rw [← E10]; exact g11.1.1
      refine ⟨⟨by rw [E11]; exact h1, h2, h3, M11⟩, rfl, ⟨rfl, rfl, trivial⟩, fun y12 g12 => ?_, trivial⟩
      have E12 : y12.o + y12.m = o + m := g12.1.2.1.trans E11
      have M12 : y12.m ≤ y12.c := g12.1.2.2.1
      have C12 : y12.o + y12.c = o + c := g12.1.2.2.2.trans C11
      have r12 : rnum (bs.take (o + m)) 4294967295 ⟨y11.o, y11.e⟩ = (y12.n, ⟨y12.o, y12.e⟩) := by rw [← E11]; exact g12.1.1
      refine ⟨⟨by rw [E12]; exact h1, h2, h3, M12⟩, rfl, ⟨rfl, rfl, trivial⟩, fun y13 g13 => ?_, trivial⟩
      have E13 : y13.o + y13.m = o + m := g13.1.2.1.trans E12
      have M13 : y13.m ≤ y13.c := g13.1.2.2.1
      have C13 : y13.o + y13.c = o + c := g13.1.2.2.2.trans C12
      have r13 : rnum (bs.take (o + m)) 4294967295 ⟨y12.o, y12.e⟩ = (y13.n, ⟨y13.o, y13.e⟩) := by rw [← E12]; exact g13.1.1
      refine ⟨⟨by rw [E13]; exact h1, h2, h3, M13⟩, rfl, ⟨rfl, rfl, trivial⟩, fun y14 g14 => ?_, trivial⟩
      have E14 : y14.o + y14.m = o + m := g14.1.2.1.trans E13
      have M14 : y14.m ≤ y14.c := g14.1.2.2.1
      have C14 : y14.o + y14.c = o + c := g14.1.2.2.2.trans C13
      have r14 : rnum (bs.take (o + m)) 4294967295 ⟨y13.o, y13.e⟩ = (y14.n, ⟨y14.o, y14.e⟩) := by rw [← E13]; exact g14.1.1
      refine ⟨⟨by rw [E14]; exact h1, h2, h3, M14⟩, rfl, ⟨rfl, rfl, trivial⟩, fun y15 g15 => ?_, trivial⟩
      have E15 : y15.o + y15.m = o + m := g15.1.2.1.trans E14
      have M15 : y15.m ≤ y15.c := g15.1.2.2.1
      have C15 : y15.o + y15.c = o + c := g15.1.2.2.2.trans C14
      have r15 : rnum (bs.take (o + m)) 4294967295 ⟨y14.o, y14.e⟩ = (y15.n, ⟨y15.o, y15.e⟩) := by rw [← E14]; exact g15.1.1
      refine ⟨⟨by rw [E15]; exact h1, h2, h3, M15⟩, rfl, ⟨rfl, rfl, trivial⟩, fun y16 g16 => ?_, trivial⟩
      have E16 : y16.o + y16.m = o + m := g16.1.2.1.trans E15
      have M16 : y16.m ≤ y16.c := g16.1.2.2.1
      have C16 : y16.o + y16.c = o + c := g16.1.2.2.2.trans C15
      have r16 : rnum (bs.take (o + m)) 4294967295 ⟨y15.o, y15.e⟩ = (y16.n, ⟨y16.o, y16.e⟩) := by rw [← E15]; exact g16.1.1
      refine ⟨⟨by rw [E16]; exact h1, h2, h3, M16⟩, rfl, ⟨rfl, rfl, trivial⟩, fun y17 g17 => ?_, trivial⟩
      have E17 : y17.o + y17.m = o + m := g17.1.2.1.trans E16
      have M17 : y17.m ≤ y17.c := g17.1.2.2.1
      have C17 : y17.o + y17.c = o + c := g17.1.2.2.2.trans C16
      have r17 : rnum (bs.take (o + m)) 4294967295 ⟨y16.o, y16.e⟩ = (y17.n, ⟨y17.o, y17.e⟩) := by rw [← E16]; exact g17.1.1
      refine ⟨⟨by rw [E17]; exact h1, h2, h3, M17⟩, rfl, ⟨rfl, rfl, trivial⟩, fun y18 g18 => ?_, trivial⟩
      have E18 : y18.o + y18.m = o + m := g18.1.2.1.trans E17
      have M18 : y18.m ≤ y18.c := g18.1.2.2.1
      have C18 : y18.o + y18.c = o + c := g18.1.2.2.2.trans C17
      have r18 : rnum (bs.take (o + m)) 4294967295 ⟨y17.o, y17.e⟩ = (y18.n, ⟨y18.o, y18.e⟩) := by rw [← E17]; exact g18.1.1
      refine ⟨⟨⟨y0.n, y1.l, y2.s, y3.n, y5.l, y6.l, y7.l, y8.l, y10.l, [y11.n, y12.n, y13.n, y14.n, y15.n, y16.n, y17.n, y18.n]⟩, y1.cap, y6.cap, y7.cap, y8.cap, y18.o, y18.m, y18.c, y18.e⟩, ⟨⟨?_⟩, ⟨E18, M18, C18⟩, ⟨g1.2.2.2, g6.2.2.2, g7.2.2.2, g8.2.2.2⟩⟩, (by kernel_rfl), rfl, rfl, rfl, ⟨rfl, rfl, rfl, fun _ _ => rfl⟩, rfl, rfl, rfl, ⟨rfl, rfl, rfl, fun _ _ => rfl⟩, trivial⟩
      show rguest (bs.take (o + m)) ⟨o, e⟩ = _
      simp only [rguest, rwords, RB, r0, r1, r2, r3, r4, r5, r6, r7, r8, r9, r10, r11, r12, r13, r14, r15, r16, r17, r18]
end Go.Proofs.YtmbcpmbpkdeioaaGreatDoor.W
/- Whether the document lets a guest be kept: what is reckoned. No condition. -/
namespace Go.Proofs.YtmbcpmbpkdeioaaGreatDoor.W
open Go Go.RowKit Go.Eng
set_option maxRecDepth 100000
set_option linter.unusedVariables false
set_option linter.unusedSimpArgs false
def erLp (P : Program) : Lp DnI where
  B := 2
  n := ntmpsOf P F_mummerref11_Error
  code := loopOf P F_mummerref11_Error 0
  fit s H := match s.get 0, s.get 1, s.get 5 with
    | .msl b _ _ _ c, .msl b1 _ _ _ c1, .int _ k => match erowOf H b c, rowOf H b1 c1 with
      | some e, some d => some ⟨e, d, k.toNat⟩
      | _, _ => none
    | _, _, _ => none
  pre i := i.k ≤ i.e.n ∧ i.e.n ≤ 100000000
  slots i := [(0, i.e.av 0), (1, i.d.av 1), (5, .int .i64 i.k)]
  nx _ := 2
  L i := [(0, i.e.blk), (1, i.d.blk)]
  m i := i.e.n - i.k
  outs i := [(evsOk i.e i.k, ⟨.exit 0, [(1, i.d.av 1)], 2, [(0, i.e.blk), (1, i.d.blk)]⟩), (true, ⟨.ret, [(4, .int .i64 2)], 2, [(0, i.e.blk), (1, i.d.blk)]⟩)]
def rerrC : Con DnX Unit where
  f := F_mummerref11_Error
  fit vs H := match vs with
    | [.msl b _ _ _ c, .msl b1 _ _ _ c1] => match erowOf H b c, rowOf H b1 c1 with
      | some e, some d => some ([b, b1], ⟨e, d⟩)
      | _, _ => none
    | _ => none
  n0 := 2
  pre x := x.e.n ≤ 140737488351232 ∧ x.e.n ≤ x.e.c ∧ x.d.bs.length ≤ 140737488351232 ∧ x.d.bs.length ≤ x.d.c
  args x := [x.e.av 0, x.d.av 1]
  L0 x := [(0, x.e.blk), (1, x.d.blk)]
  outs x := [(fun _ => True, fun _ => (.ret (.int .i64 (devN x)), 2, [(0, x.e.blk), (1, x.d.blk)]))]
def rmayLp (P : Program) : Lp MyI where
  B := 6
  n := ntmpsOf P F_mummerref30_May
  code := loopOf P F_mummerref30_May 0
  fit s H := match s.get 1 with
    | .ptr b _ _ => match H.get b with
      | some q => match q.c with
        | .cells cs => (svOf H cs).map fun r => ⟨r.2, 0⟩
        | _ => none
      | none => none
    | _ => none
  pre i := i.k ≤ i.x.notes.n ∧ i.x.notes.n ≤ 100000000
  slots i := [(1, .ptr 6 0 0), (6, .int .i64 i.k)]
  nx _ := 7
  L i := i.x.L ++ [(6, ⟨true, 35, .cells i.x.av⟩)]
  m i := i.x.notes.n - i.k
  outs i := [(notesOk i.x.notes i.k, ⟨.exit 0, [], 6, i.x.L⟩), (true, ⟨.ret, [(2, .int .i64 2)], 6, i.x.L⟩)]
structure RkOk (x : Sv) : Prop where
  fine : x.fine
  ps : 0 ≤ x.s.ps ∧ x.s.ps ≤ 4294967295
  b1 : 0 ≤ x.b1 ∧ x.b1 ≤ 4294967295
  b2 : 0 ≤ x.b2 ∧ x.b2 ≤ 4294967295
  b5 : 0 ≤ x.b5
def rkeepC : Con Sv Unit where
  f := F_mummerref30_May
  fit := svFit
  n0 := 6
  pre := RkOk
  args x := [.agg x.av]
  L0 x := x.L
  outs x := [(fun _ => True, fun _ => (.ret (.int .i64 (keepN x)), 6, x.L))]
end Go.Proofs.YtmbcpmbpkdeioaaGreatDoor.W
/- Whether the document lets a guest be kept: the walks. No condition. -/
namespace Go.Proofs.YtmbcpmbpkdeioaaGreatDoor.W
open Go Go.RowKit Go.Eng
set_option maxRecDepth 100000
set_option linter.unusedVariables false
set_option linter.unusedSimpArgs false
abbrev erL_c_p0 (i : DnI) : Prop :=
  ∃ (j : DnI), (j.k ≤ j.e.n ∧ j.e.n ≤ 100000000) ∧ j.e.n - j.k < i.e.n - i.k ∧ [(evsOk j.e j.k, LOut.mk (AX.exit 0) [(1, AV.msl 1 0 0 j.d.bs.length j.d.c)] 2 [(0, ABlk.mk false 3 (AC.recs j.e.n j.e.f)), (1, bR j.d.bs)]), (true, LOut.mk AX.ret [(4, nI 2)] 2 [(0, ABlk.mk false 3 (AC.recs j.e.n j.e.f)), (1, bR j.d.bs)])] = [(evsOk i.e i.k, LOut.mk (AX.exit 0) [(1, AV.msl 1 0 0 i.d.bs.length i.d.c)] 2 [(0, ABlk.mk false 3 (AC.recs i.e.n i.e.f)), (1, bR i.d.bs)]), (true, LOut.mk AX.ret [(4, nI 2)] 2 [(0, ABlk.mk false 3 (AC.recs i.e.n i.e.f)), (1, bR i.d.bs)])] ∧ (AV.msl 0 0 0 i.e.n i.e.c = AV.msl 0 0 0 j.e.n j.e.c ∧ AV.msl 1 0 0 i.d.bs.length i.d.c = AV.msl 1 0 0 j.d.bs.length j.d.c ∧ nI (IntKind.i64.wrap ((↑i.k : Int) + 1)) = nI (↑j.k : Int) ∧ True) ∧ (false = false ∧ 3 = 3 ∧ i.e.n = j.e.n ∧ ∀ (i_1 : Nat), i_1 < i.e.n → [nI (i.e.at_ i_1), nI (i.e.kind i_1), nB (i.e.byte i_1)] = [nI (j.e.at_
  i_1), nI (j.e.kind i_1), nB (j.e.byte i_1)]) ∧ bR i.d.bs = bR j.d.bs ∧ True
abbrev erL_c_p1 (i : DnI) : Prop :=
  sp (evsOk i.e i.k) False ((nI 2 = nI 2 ∧ True) ∧ (false = false ∧ 3 = 3 ∧ i.e.n = i.e.n ∧ ∀ (i_1 : Nat), i_1 < i.e.n → [nI (i.e.at_ i_1), nI (i.e.kind i_1), nB (i.e.byte i_1)] = [nI (i.e.at_ i_1), nI (i.e.kind i_1), nB (i.e.byte i_1)]) ∧ bR i.d.bs = bR i.d.bs ∧ True)
def erL_c_V (i : DnI) : Prop :=
  sp (decide ((↑i.k : Int) < (↑i.e.n : Int))) (sp (decide ((↑i.k : Int) < (↑i.e.n : Int)) && true) (sp (decide (0 + (↑i.k : Int).toNat < i.e.n) && true && (decide (0 + (↑i.k : Int).toNat < i.e.n) && true && (decide (0 + (↑i.k : Int).toNat < i.e.n) && true && true))) (sp (decide (i.e.kind (0 + (↑i.k : Int).toNat) < 0)) (erL_c_p1 i) (sp (bif false then true else decide (i.e.kind (0 + (↑i.k : Int).toNat) > 2)) (erL_c_p1 i) (sp (bif false then true else decide (i.e.at_ (0 + (↑i.k : Int).toNat) < 0)) (erL_c_p1 i) (sp (bif false then true else decide (i.e.at_ (0 + (↑i.k : Int).toNat) > 1073741824)) (erL_c_p1 i) (sp (i.e.kind (0 + (↑i.k : Int).toNat) != 1) (sp (bif false then true else bif true then i.e.byte (0 + (↑i.k : Int).toNat) != 0 else false) (erL_c_p1 i) (erL_c_p0 i)) (erL_c_p0 i)))))) False) False) (sp (evsOk i.e i.k) ((AV.msl 1 0 0 i.d.bs.length i.d.c = AV.msl 1 0 0 i.d.bs.length i.d.c ∧
  True) ∧ (false = false ∧ 3 = 3 ∧ i.e.n = i.e.n ∧ ∀ (i_1 : Nat), i_1 < i.e.n → [nI (i.e.at_ i_1), nI (i.e.kind i_1), nB (i.e.byte i_1)] = [nI (i.e.at_ i_1), nI (i.e.kind i_1), nB (i.e.byte i_1)]) ∧ bR i.d.bs = bR i.d.bs ∧ True) False)
theorem erL_c_e (i : DnI) : some (erL_c_V i) = (some ((erLp Go.Proofs.Tryz.prog).body sp Go.Proofs.Tryz.prog noBaseK (drP sp Go.Proofs.Tryz.prog noBaseK) noLo 40 i)) := by kernel_rfl
abbrev rerr_c_p2 (x : DnX) : Prop :=
  false = false ∧ 3 = 3 ∧ x.e.n = x.e.n ∧ ∀ (i : Nat), i < x.e.n → [nI (x.e.at_ i), nI (x.e.kind i), nB (x.e.byte i)] = [nI (x.e.at_ i), nI (x.e.kind i), nB (x.e.byte i)]
abbrev rerr_c_p0 (x : DnX) : Prop :=
  ∃ (y : Unit), True ∧ [nI 2] = [nI (devN x)] ∧ (rerr_c_p2 x) ∧ bR x.d.bs = bR x.d.bs ∧ True
abbrev rerr_c_p1 (x : DnX) : Prop :=
  ∃ (y : Unit), True ∧ [nI 3] = [nI (devN x)] ∧ (rerr_c_p2 x) ∧ bR x.d.bs = bR x.d.bs ∧ True
def rerr_c_V (x : DnX) : Prop :=
  sp (decide ((↑x.e.n : Int) > 64)) (rerr_c_p1 x) (sp (bif false then true else decide ((↑x.d.bs.length : Int) > 2048)) (rerr_c_p1 x) (same (loopOf Proofs.Tryz.prog F_mummerref11_Error 0) (loopOf Proofs.Tryz.prog F_mummerref11_Error 0) ∧ (0 ≤ x.e.n ∧ x.e.n ≤ 100000000) ∧ ((AV.msl 0 0 0 x.e.n x.e.c = AV.msl 0 0 0 x.e.n x.e.c ∧ AV.msl 1 0 0 x.d.bs.length x.d.c = AV.msl 1 0 0 x.d.bs.length x.d.c ∧ nI 0 = nI 0 ∧ True) ∧ (rerr_c_p2 x) ∧ bR x.d.bs = bR x.d.bs ∧ True) ∧ sp (evsOk (ERow.mk x.e.n x.e.c (fun (i : Nat) => numAt (x.e.f i) 0) (fun (i : Nat) => numAt (x.e.f i) 1) fun (i : Nat) => numAt (x.e.f i) 2) 0) (sp ((↑x.d.bs.length : Int).tmod 64 != 0) (rerr_c_p0 x) (∃ (y : Unit), True ∧ [nI 0] = [nI (devN x)] ∧ (rerr_c_p2 x) ∧ bR x.d.bs = bR x.d.bs ∧ True)) (rerr_c_p0 x)))
theorem rerr_c_e (x : DnX) : some (rerr_c_V x) = (rerrC.cond sp Go.Proofs.Tryz.prog (drP sp Go.Proofs.Tryz.prog) (forF F_mummerref11_Error ((erLp Go.Proofs.Tryz.prog).lo sp Go.Proofs.Tryz.prog (isLoop 4) (loopOf Go.Proofs.Tryz.prog F_mummerref11_Error 0)) noLoops) noBaseK 40 2 x) := by kernel_rfl
abbrev rmayL_c_p0 (i : MyI) : Prop :=
  sp (notesOk i.x.notes i.k) False ((nI 2 = nI 2 ∧ True) ∧ bR i.x.mem.bs = bR i.x.mem.bs ∧ (false = false ∧ 4 = 4 ∧ i.x.notes.n = i.x.notes.n ∧ ∀ (i_1 : Nat), i_1 < i.x.notes.n → [nI (i.x.notes.at_ i_1), nI (i.x.notes.cause i_1), nU (i.x.notes.back i_1), nU (i.x.notes.addr i_1)] = [nI (i.x.notes.at_ i_1), nI (i.x.notes.cause i_1), nU (i.x.notes.back i_1), nU (i.x.notes.addr i_1)]) ∧ bR i.x.out.bs = bR i.x.out.bs ∧ bR i.x.disk.bs = bR i.x.disk.bs ∧ bR i.x.queue.bs = bR i.x.queue.bs ∧ (false = false ∧ 3 = 3 ∧ i.x.script.n = i.x.script.n ∧ ∀ (i_1 : Nat), i_1 < i.x.script.n → [nI (i.x.script.at_ i_1), nI (i.x.script.kind i_1), nB (i.x.script.byte i_1)] = [nI (i.x.script.at_ i_1), nI (i.x.script.kind i_1), nB (i.x.script.byte i_1)]) ∧ True)
def rmayL_c_V (i : MyI) : Prop :=
  sp (decide ((↑i.k : Int) < (↑i.x.notes.n : Int))) (sp (decide ((↑i.k : Int) < (↑i.x.notes.n : Int)) && true) (sp (decide (0 + (↑i.k : Int).toNat < i.x.notes.n) && true && (decide (0 + (↑i.k : Int).toNat < i.x.notes.n) && true && (decide (0 + (↑i.k : Int).toNat < i.x.notes.n) && true && (decide (0 + (↑i.k : Int).toNat < i.x.notes.n) && true && true)))) (sp (decide (i.x.notes.at_ (0 + (↑i.k : Int).toNat) < 0)) (rmayL_c_p0 i) (sp (bif false then true else decide (i.x.notes.at_ (0 + (↑i.k : Int).toNat) > 1099511627776)) (rmayL_c_p0 i) (sp (bif false then true else decide (i.x.notes.cause (0 + (↑i.k : Int).toNat) < 1)) (rmayL_c_p0 i) (sp (bif false then true else decide (i.x.notes.cause (0 + (↑i.k : Int).toNat) > 11)) (rmayL_c_p0 i) (∃ (j : MyI), (j.k ≤ j.x.notes.n ∧ j.x.notes.n ≤ 100000000) ∧ j.x.notes.n - j.k < i.x.notes.n - i.k ∧ [(notesOk j.x.notes j.k, LOut.mk (AX.exit 0) [] 6 [(0, bR
  j.x.mem.bs), (1, ABlk.mk false 4 (AC.recs j.x.notes.n j.x.notes.f)), (2, bR j.x.out.bs), (3, bR j.x.disk.bs), (4, bR j.x.queue.bs), (5, ABlk.mk false 3 (AC.recs j.x.script.n j.x.script.f))]), (true, LOut.mk AX.ret [(2, nI 2)] 6 [(0, bR j.x.mem.bs), (1, ABlk.mk false 4 (AC.recs j.x.notes.n j.x.notes.f)), (2, bR j.x.out.bs), (3, bR j.x.disk.bs), (4, bR j.x.queue.bs), (5, ABlk.mk false 3 (AC.recs j.x.script.n j.x.script.f))])] = [(notesOk i.x.notes i.k, LOut.mk (AX.exit 0) [] 6 [(0, bR i.x.mem.bs), (1, ABlk.mk false 4 (AC.recs i.x.notes.n i.x.notes.f)), (2, bR i.x.out.bs), (3, bR i.x.disk.bs), (4, bR i.x.queue.bs), (5, ABlk.mk false 3 (AC.recs i.x.script.n i.x.script.f))]), (true, LOut.mk AX.ret [(2, nI 2)] 6 [(0, bR i.x.mem.bs), (1, ABlk.mk false 4 (AC.recs i.x.notes.n i.x.notes.f)), (2, bR i.x.out.bs), (3, bR i.x.disk.bs), (4, bR i.x.queue.bs), (5, ABlk.mk false 3 (AC.recs i.x.script.n
  i.x.script.f))])] ∧ (AV.ptr 6 0 0 = AV.ptr 6 0 0 ∧ nI (IntKind.i64.wrap ((↑i.k : Int) + 1)) = nI (↑j.k : Int) ∧ True) ∧ bR i.x.mem.bs = bR j.x.mem.bs ∧ (false = false ∧ 4 = 4 ∧ i.x.notes.n = j.x.notes.n ∧ ∀ (i_1 : Nat), i_1 < i.x.notes.n → [nI (i.x.notes.at_ i_1), nI (i.x.notes.cause i_1), nU (i.x.notes.back i_1), nU (i.x.notes.addr i_1)] = [nI (j.x.notes.at_ i_1), nI (j.x.notes.cause i_1), nU (j.x.notes.back i_1), nU (j.x.notes.addr i_1)]) ∧ bR i.x.out.bs = bR j.x.out.bs ∧ bR i.x.disk.bs = bR j.x.disk.bs ∧ bR i.x.queue.bs = bR j.x.queue.bs ∧ (false = false ∧ 3 = 3 ∧ i.x.script.n = j.x.script.n ∧ ∀ (i_1 : Nat), i_1 < i.x.script.n → [nI (i.x.script.at_ i_1), nI (i.x.script.kind i_1), nB (i.x.script.byte i_1)] = [nI (j.x.script.at_ i_1), nI (j.x.script.kind i_1), nB (j.x.script.byte i_1)]) ∧ ABlk.mk true 35 (AC.cells [nI i.x.fr, AV.msl 0 0 0 i.x.mem.bs.length i.x.mem.c, nU i.x.s.r0, nU
  i.x.s.r1, nU i.x.s.r2, nU i.x.s.r3, nU i.x.s.r4, nU i.x.s.r5, nU i.x.s.r6, nU i.x.s.r7, nU i.x.s.pc, nU i.x.s.ps, nU i.x.s.c0, nU i.x.s.c1, nU i.x.s.c2, nU i.x.s.c3, nU i.x.s.c4, nU i.x.s.c5, nU i.x.s.c6, nU i.x.s.c7, AV.bool i.x.s.h, nI i.x.steps, AV.msl 1 0 0 i.x.notes.n i.x.notes.c, AV.msl 2 0 0 i.x.out.bs.length i.x.out.c, AV.msl 3 0 0 i.x.disk.bs.length i.x.disk.c, AV.msl 4 0 0 i.x.queue.bs.length i.x.queue.c, AV.msl 5 0 0 i.x.script.n i.x.script.c, nU i.x.b1, nU i.x.b2, nU i.x.b3, nU i.x.b4, nU i.x.b5, nU i.x.b6, nU i.x.b7, nU i.x.b8]) = ABlk.mk true 35 (AC.cells [nI j.x.fr, AV.msl 0 0 0 j.x.mem.bs.length j.x.mem.c, nU j.x.s.r0, nU j.x.s.r1, nU j.x.s.r2, nU j.x.s.r3, nU j.x.s.r4, nU j.x.s.r5, nU j.x.s.r6, nU j.x.s.r7, nU j.x.s.pc, nU j.x.s.ps, nU j.x.s.c0, nU j.x.s.c1, nU j.x.s.c2, nU j.x.s.c3, nU j.x.s.c4, nU j.x.s.c5, nU j.x.s.c6, nU j.x.s.c7, AV.bool j.x.s.h, nI j.x.steps, AV.msl
  1 0 0 j.x.notes.n j.x.notes.c, AV.msl 2 0 0 j.x.out.bs.length j.x.out.c, AV.msl 3 0 0 j.x.disk.bs.length j.x.disk.c, AV.msl 4 0 0 j.x.queue.bs.length j.x.queue.c, AV.msl 5 0 0 j.x.script.n j.x.script.c, nU j.x.b1, nU j.x.b2, nU j.x.b3, nU j.x.b4, nU j.x.b5, nU j.x.b6, nU j.x.b7, nU j.x.b8]) ∧ True))))) False) False) (sp (notesOk i.x.notes i.k) (True ∧ bR i.x.mem.bs = bR i.x.mem.bs ∧ (false = false ∧ 4 = 4 ∧ i.x.notes.n = i.x.notes.n ∧ ∀ (i_1 : Nat), i_1 < i.x.notes.n → [nI (i.x.notes.at_ i_1), nI (i.x.notes.cause i_1), nU (i.x.notes.back i_1), nU (i.x.notes.addr i_1)] = [nI (i.x.notes.at_ i_1), nI (i.x.notes.cause i_1), nU (i.x.notes.back i_1), nU (i.x.notes.addr i_1)]) ∧ bR i.x.out.bs = bR i.x.out.bs ∧ bR i.x.disk.bs = bR i.x.disk.bs ∧ bR i.x.queue.bs = bR i.x.queue.bs ∧ (false = false ∧ 3 = 3 ∧ i.x.script.n = i.x.script.n ∧ ∀ (i_1 : Nat), i_1 < i.x.script.n → [nI (i.x.script.at_ i_1),
  nI (i.x.script.kind i_1), nB (i.x.script.byte i_1)] = [nI (i.x.script.at_ i_1), nI (i.x.script.kind i_1), nB (i.x.script.byte i_1)]) ∧ True) False)
theorem rmayL_c_e (i : MyI) : some (rmayL_c_V i) = (some ((rmayLp Go.Proofs.Tryz.prog).body sp Go.Proofs.Tryz.prog noBaseK (drP sp Go.Proofs.Tryz.prog noBaseK) noLo 40 i)) := by kernel_rfl
abbrev rkeep_c_p5 (x : Sv) : Prop :=
  false = false ∧ 4 = 4 ∧ x.notes.n = x.notes.n ∧ ∀ (i : Nat), i < x.notes.n → [nI (x.notes.at_ i), nI (x.notes.cause i), nU (x.notes.back i), nU (x.notes.addr i)] = [nI (x.notes.at_ i), nI (x.notes.cause i), nU (x.notes.back i), nU (x.notes.addr i)]
abbrev rkeep_c_p6 (x : Sv) : Prop :=
  false = false ∧ 3 = 3 ∧ x.script.n = x.script.n ∧ ∀ (i : Nat), i < x.script.n → [nI (x.script.at_ i), nI (x.script.kind i), nB (x.script.byte i)] = [nI (x.script.at_ i), nI (x.script.kind i), nB (x.script.byte i)]
abbrev rkeep_c_p4 (x : Sv) : Prop :=
  ∃ (y : Unit), True ∧ [nI 2] = [nI (keepN x)] ∧ bR x.mem.bs = bR x.mem.bs ∧ (rkeep_c_p5 x) ∧ bR x.out.bs = bR x.out.bs ∧ bR x.disk.bs = bR x.disk.bs ∧ bR x.queue.bs = bR x.queue.bs ∧ (rkeep_c_p6 x) ∧ True
abbrev rkeep_c_p3 (x : Sv) : Prop :=
  sp (decide ((↑x.notes.n : Int) > 4096)) (∃ (y : Unit), True ∧ [nI 3] = [nI (keepN x)] ∧ bR x.mem.bs = bR x.mem.bs ∧ (rkeep_c_p5 x) ∧ bR x.out.bs = bR x.out.bs ∧ bR x.disk.bs = bR x.disk.bs ∧ bR x.queue.bs = bR x.queue.bs ∧ (rkeep_c_p6 x) ∧ True) (sp (bif false then true else decide ((↑x.out.bs.length : Int) > 65536)) (∃ (y : Unit), True ∧ [nI 3] = [nI (keepN x)] ∧ bR x.mem.bs = bR x.mem.bs ∧ (rkeep_c_p5 x) ∧ bR x.out.bs = bR x.out.bs ∧ bR x.disk.bs = bR x.disk.bs ∧ bR x.queue.bs = bR x.queue.bs ∧ (rkeep_c_p6 x) ∧ True) (same (loopOf Proofs.Tryz.prog F_mummerref30_May 0) (loopOf Proofs.Tryz.prog F_mummerref30_May 0) ∧ (0 ≤ x.notes.n ∧ x.notes.n ≤ 100000000) ∧ ((AV.ptr 6 0 0 = AV.ptr 6 0 0 ∧ nI 0 = nI 0 ∧ True) ∧ bR x.mem.bs = bR x.mem.bs ∧ (rkeep_c_p5 x) ∧ bR x.out.bs = bR x.out.bs ∧ bR x.disk.bs = bR x.disk.bs ∧ bR x.queue.bs = bR x.queue.bs ∧ (rkeep_c_p6 x) ∧ ABlk.mk true [nI x.fr,
  AV.msl 0 0 0 x.mem.bs.length x.mem.c, nU x.s.r0, nU x.s.r1, nU x.s.r2, nU x.s.r3, nU x.s.r4, nU x.s.r5, nU x.s.r6, nU x.s.r7, nU x.s.pc, nU x.s.ps, nU x.s.c0, nU x.s.c1, nU x.s.c2, nU x.s.c3, nU x.s.c4, nU x.s.c5, nU x.s.c6, nU x.s.c7, AV.bool x.s.h, nI x.steps, AV.msl 1 0 0 x.notes.n x.notes.c, AV.msl 2 0 0 x.out.bs.length x.out.c, AV.msl 3 0 0 x.disk.bs.length x.disk.c, AV.msl 4 0 0 x.queue.bs.length x.queue.c, AV.msl 5 0 0 x.script.n x.script.c, nU x.b1, nU x.b2, nU x.b3, nU x.b4, nU x.b5, nU x.b6, nU x.b7, nU x.b8].length (AC.cells [nI x.fr, AV.msl 0 0 0 x.mem.bs.length x.mem.c, nU x.s.r0, nU x.s.r1, nU x.s.r2, nU x.s.r3, nU x.s.r4, nU x.s.r5, nU x.s.r6, nU x.s.r7, nU x.s.pc, nU x.s.ps, nU x.s.c0, nU x.s.c1, nU x.s.c2, nU x.s.c3, nU x.s.c4, nU x.s.c5, nU x.s.c6, nU x.s.c7, AV.bool x.s.h, nI x.steps, AV.msl 1 0 0 x.notes.n x.notes.c, AV.msl 2 0 0 x.out.bs.length x.out.c, AV.msl 3 0 0
  x.disk.bs.length x.disk.c, AV.msl 4 0 0 x.queue.bs.length x.queue.c, AV.msl 5 0 0 x.script.n x.script.c, nU x.b1, nU x.b2, nU x.b3, nU x.b4, nU x.b5, nU x.b6, nU x.b7, nU x.b8]) = ABlk.mk true 35 (AC.cells [nI x.fr, AV.msl 0 0 0 x.mem.bs.length x.mem.c, nU x.s.r0, nU x.s.r1, nU x.s.r2, nU x.s.r3, nU x.s.r4, nU x.s.r5, nU x.s.r6, nU x.s.r7, nU x.s.pc, nU x.s.ps, nU x.s.c0, nU x.s.c1, nU x.s.c2, nU x.s.c3, nU x.s.c4, nU x.s.c5, nU x.s.c6, nU x.s.c7, AV.bool x.s.h, nI x.steps, AV.msl 1 0 0 x.notes.n x.notes.c, AV.msl 2 0 0 x.out.bs.length x.out.c, AV.msl 3 0 0 x.disk.bs.length x.disk.c, AV.msl 4 0 0 x.queue.bs.length x.queue.c, AV.msl 5 0 0 x.script.n x.script.c, nU x.b1, nU x.b2, nU x.b3, nU x.b4, nU x.b5, nU x.b6, nU x.b7, nU x.b8]) ∧ True) ∧ sp (notesOk (NRow.mk x.notes.n x.notes.c (fun (i : Nat) => numAt (x.notes.f i) 0) (fun (i : Nat) => numAt (x.notes.f i) 1) (fun (i : Nat) => numAt
  (x.notes.f i) 2) fun (i : Nat) => numAt (x.notes.f i) 3) 0) (∃ (y : Unit), True ∧ [nI 0] = [nI (keepN x)] ∧ bR x.mem.bs = bR x.mem.bs ∧ (rkeep_c_p5 x) ∧ bR x.out.bs = bR x.out.bs ∧ bR x.disk.bs = bR x.disk.bs ∧ bR x.queue.bs = bR x.queue.bs ∧ (rkeep_c_p6 x) ∧ True) (rkeep_c_p4 x)))
abbrev rkeep_c_p0 (x : Sv) : Prop :=
  sp (bif true then x.b6 == 0 else false) (sp (bif true then x.b7 == 0 else false) (sp (decide (x.b1 > 7)) (rkeep_c_p4 x) (sp (bif false then true else decide (x.b2 > 7)) (rkeep_c_p4 x) (sp (!bif true then bif false then true else x.b6 == 2 else false) (sp (bif false then true else bif true then !bif true then x.b8 == 0 else false else false) (rkeep_c_p4 x) (rkeep_c_p3 x)) (rkeep_c_p3 x)))) (sp (decide (x.b1 > 7)) (rkeep_c_p4 x) (sp (bif false then true else decide (x.b2 > 7)) (rkeep_c_p4 x) (sp (!bif true then bif false then true else x.b6 == 2 else false) (rkeep_c_p4 x) (rkeep_c_p3 x))))) (sp (decide (x.b1 > 7)) (rkeep_c_p4 x) (sp (bif false then true else decide (x.b2 > 7)) (rkeep_c_p4 x) (sp (!bif true then bif false then true else x.b6 == 2 else false) (rkeep_c_p4 x) (rkeep_c_p3 x))))
abbrev rkeep_c_p1 (x : Sv) : Prop :=
  sp (bif true then x.b6 == 0 else false) (sp (bif true then x.b7 == 0 else false) (sp (decide (x.b1 > 7)) (rkeep_c_p4 x) (sp (bif false then true else decide (x.b2 > 7)) (rkeep_c_p4 x) (rkeep_c_p3 x))) (sp (decide (x.b1 > 7)) (rkeep_c_p4 x) (sp (bif false then true else decide (x.b2 > 7)) (rkeep_c_p4 x) (rkeep_c_p3 x)))) (sp (decide (x.b1 > 7)) (rkeep_c_p4 x) (sp (bif false then true else decide (x.b2 > 7)) (rkeep_c_p4 x) (rkeep_c_p3 x)))
abbrev rkeep_c_p2 (x : Sv) : Prop :=
  sp (bif true then x.b6 == 0 else false) (sp (bif true then x.b7 == 0 else false) (sp (decide (x.b1 > 7)) (rkeep_c_p4 x) (sp (bif false then true else decide (x.b2 > 7)) (rkeep_c_p4 x) (sp (bif false then true else bif true then !bif true then x.b8 == 0 else false else false) (rkeep_c_p4 x) (rkeep_c_p3 x)))) (sp (decide (x.b1 > 7)) (rkeep_c_p4 x) (sp (bif false then true else decide (x.b2 > 7)) (rkeep_c_p4 x) (rkeep_c_p4 x)))) (sp (decide (x.b1 > 7)) (rkeep_c_p4 x) (sp (bif false then true else decide (x.b2 > 7)) (rkeep_c_p4 x) (rkeep_c_p4 x)))
abbrev rkeep_c_p7 (x : Sv) : ERow :=
  ERow.mk x.script.n x.script.c (fun (i : Nat) => numAt (x.script.f i) 0) (fun (i : Nat) => numAt (x.script.f i) 1) fun (i : Nat) => numAt (x.script.f i) 2
def rkeep_c_V (x : Sv) : Prop :=
  sp (decide (x.fr < 1)) (rkeep_c_p4 x) (sp (bif false then true else decide (x.fr > 64)) (rkeep_c_p4 x) (sp (bif false then true else (↑x.mem.bs.length : Int) != IntKind.i64.wrap (64 * x.fr)) (rkeep_c_p4 x) (sp (bif false then true else decide (x.s.ps ≥ 256)) (rkeep_c_p4 x) (sp (bif false then true else (IntKind.u32.wrap (x.s.ps.tdiv 8)).tmod 2 == 1) (rkeep_c_p4 x) (sp (bif false then true else decide (x.steps < 0)) (rkeep_c_p4 x) (sp (bif false then true else decide (x.steps > 1099511627776)) (rkeep_c_p4 x) ((x.script.n ≤ 140737488351232 ∧ x.script.n ≤ x.script.c ∧ x.disk.bs.length ≤ 140737488351232 ∧ x.disk.bs.length ≤ x.disk.c) ∧ [] ++ [AV.msl 5 0 0 x.script.n x.script.c, AV.msl 3 0 0 x.disk.bs.length x.disk.c] ++ [] = [AV.msl 5 0 0 x.script.n x.script.c, AV.msl 3 0 0 x.disk.bs.length x.disk.c] ∧ (some (ABlk.mk false 3 (AC.recs x.script.n x.script.f)) = some (ABlk.mk false 3 (AC.recs
  x.script.n fun (i : Nat) => [nI (x.script.at_ i), nI (x.script.kind i), nB (x.script.byte i)])) ∧ some (bR x.disk.bs) = some (bR x.disk.bs) ∧ True) ∧ (∀ (y : Unit), True → sp (devN (DnX.mk (rkeep_c_p7 x) (Row.mk x.disk.bs x.disk.c)) != 0) (∃ (y : Unit), True ∧ [nI (devN (DnX.mk (rkeep_c_p7 x) (Row.mk x.disk.bs x.disk.c)))] = [nI (keepN x)] ∧ bR x.mem.bs = bR x.mem.bs ∧ (rkeep_c_p5 x) ∧ bR x.out.bs = bR x.out.bs ∧ bR x.disk.bs = bR x.disk.bs ∧ bR x.queue.bs = bR x.queue.bs ∧ (rkeep_c_p6 x) ∧ True) (sp (decide ((↑x.queue.bs.length : Int) > 32)) (∃ (y : Unit), True ∧ [nI 3] = [nI (keepN x)] ∧ bR x.mem.bs = bR x.mem.bs ∧ (rkeep_c_p5 x) ∧ bR x.out.bs = bR x.out.bs ∧ bR x.disk.bs = bR x.disk.bs ∧ bR x.queue.bs = bR x.queue.bs ∧ (rkeep_c_p6 x) ∧ True) (sp (x.b5 == 1) (sp (x.b6 == 1) (sp (x.b5 == 0) (rkeep_c_p1 x) (sp (bif false then true else x.b5 == 2) (rkeep_c_p1 x) (sp (decide (x.b1 > 7))
  (rkeep_c_p4 x) (sp (bif false then true else decide (x.b2 > 7)) (rkeep_c_p4 x) (rkeep_c_p3 x))))) (sp (x.b5 == 0) (rkeep_c_p0 x) (sp (bif false then true else x.b5 == 2) (rkeep_c_p0 x) (sp (decide (x.b1 > 7)) (rkeep_c_p4 x) (sp (bif false then true else decide (x.b2 > 7)) (rkeep_c_p4 x) (sp (!bif true then bif false then true else x.b6 == 2 else false) (rkeep_c_p4 x) (rkeep_c_p3 x))))))) (sp (x.b5 == 0) (rkeep_c_p2 x) (sp (bif false then true else x.b5 == 2) (rkeep_c_p2 x) (sp (decide (x.b1 > 7)) (rkeep_c_p4 x) (sp (bif false then true else decide (x.b2 > 7)) (rkeep_c_p4 x) (rkeep_c_p4 x)))))))) ∧ True)))))))
theorem rkeep_c_e (x : Sv) : some (rkeep_c_V x) = (rkeepC.cond sp Go.Proofs.Tryz.prog (drP sp Go.Proofs.Tryz.prog) (forF F_mummerref30_May ((rmayLp Go.Proofs.Tryz.prog).lo sp Go.Proofs.Tryz.prog (isLoop 15) (loopOf Go.Proofs.Tryz.prog F_mummerref30_May 0)) noLoops) (rerrC.orc sp) 40 2 x) := by kernel_rfl
theorem spP {p : Prop} [Decidable p] {A B : Prop} (h1 : p → A) (h2 : ¬ p → B) : sp (decide p) A B := spI (fun h => h1 (of_decide_eq_true h)) (fun h => h2 (of_decide_eq_false h))
theorem spE {a b : Int} {A B : Prop} (h1 : a = b → A) (h2 : a ≠ b → B) : sp (a == b) A B := spI (fun h => h1 (by simpa using h)) (fun h => h2 (by simpa using h))
theorem spN {a b : Int} {A B : Prop} (h1 : a ≠ b → A) (h2 : a = b → B) : sp (a != b) A B := spI (fun h => h1 (by simpa using h)) (fun h => h2 (by simpa using h))
theorem spNot {b : Bool} {A B : Prop} (h : sp b B A) : sp (!b) A B := by cases b <;> exact h
theorem mayN_iff (a k b : Int) : mayN ⟨a, k, b⟩ = true ↔ 0 ≤ k ∧ k ≤ 2 ∧ 0 ≤ a ∧ a ≤ 1073741824 ∧ (k = 1 ∨ b = 0) := by
  simp only [mayN, Bool.and_eq_true, Bool.or_eq_true, decide_eq_true_eq, beq_iff_eq]
  omega
set_option maxRecDepth 100000 in
theorem erL_ok : (erLp Go.Proofs.Tryz.prog).OK Go.Proofs.Tryz.prog := by
  refine Lp.ok_of (noBaseK_ok _) (drP_ok hmix _ (noBaseK_ok _)) (noLo_ok _) (by decide) 40 (fun i hi => ?_)
  rw [← Option.some.inj (erL_c_e i)]
  obtain ⟨h1, h2⟩ := hi
  unfold erL_c_V
  by_cases hk : i.k < i.e.n
  · have hx0 : 0 + (i.k : Int).toNat = i.k := by simp
    have hw : IntKind.wrap .i64 ((i.k : Int) + 1) = ((i.k + 1 : Nat) : Int) := by rw [IntWalk.i64_in _ (by omega)]; omega
    have hs := evsOk_step i.e i.k hk
    have im := mayN_iff (i.e.at_ i.k) (i.e.kind i.k) (i.e.byte i.k)
    have bad : ¬ mayN (i.e.x i.k) = true → erL_c_p1 i := fun e => spF (by rw [hs, Bool.eq_false_iff.2 e]; rfl) ⟨⟨rfl, trivial⟩, ⟨rfl, rfl, rfl, fun _ _ => rfl⟩, rfl, trivial⟩
    have good : mayN (i.e.x i.k) = true → erL_c_p0 i := fun e => ⟨⟨i.e, i.d, i.k + 1⟩, ⟨hk, h2⟩, (by show i.e.n - (i.k + 1) < i.e.n - i.k; omega), (by rw [hs, e, Bool.true_and]), ⟨rfl, rfl, by rw [hw], trivial⟩, ⟨rfl, rfl, rfl, fun _ _ => rfl⟩, rfl, trivial⟩
    have e0 : i.e.x i.k = ⟨i.e.at_ i.k, i.e.kind i.k, i.e.byte i.k⟩ := rfl
    rw [e0, im] at bad good
    rw [hx0]
    refine spT (by simp; omega) (spT (by simp; omega) (spT (by simp [hk]) (spP (fun a1 => bad (by omega)) (fun a1 => spP (fun a2 => bad (by omega)) (fun a2 => spP (fun a3 => bad (by omega)) (fun a3 => spP (fun a4 => bad (by omega)) (fun a4 => spN (fun a5 => spN (fun a6 => bad (by omega)) (fun a6 => good (by omega))) (fun a5 => good (by omega)))))))))
  · refine spF (by simp; omega) (spT (evsOk_end _ _ (by omega)) ⟨⟨rfl, trivial⟩, ⟨rfl, rfl, rfl, fun _ _ => rfl⟩, rfl, trivial⟩)
set_option maxRecDepth 100000 in
theorem rerr_ok : rerrC.OK Go.Proofs.Tryz.prog := by
  refine Con.by hmix (forF_ok (Lp.lo_ok erL_ok rfl) (noLoops_ok _)) (noBaseK_ok _) rerr_c_V rerr_c_e (fun x hx => ?_)
  obtain ⟨h1, h2, h3, h4⟩ := hx
  have LN : devN x = bif decide (x.e.n > 64) || decide (x.d.bs.length > 2048) then 3 else bif evsOk x.e 0 then (bif x.d.bs.length % 64 == 0 then 0 else 2) else 2 := rfl
  have p0 : devN x = 3 → rerr_c_p1 x := fun e => ⟨(), trivial, by rw [e], ⟨rfl, rfl, rfl, fun _ _ => rfl⟩, rfl, trivial⟩
  have p1 : devN x = 2 → rerr_c_p0 x := fun e => ⟨(), trivial, by rw [e], ⟨rfl, rfl, rfl, fun _ _ => rfl⟩, rfl, trivial⟩
  unfold rerr_c_V
  refine spP (fun a => p0 ?_) (fun a => spP (fun b => p0 ?_) (fun b => ⟨rfl, ⟨Nat.zero_le _, by omega⟩, ⟨⟨rfl, rfl, rfl, trivial⟩, ⟨rfl, rfl, rfl, fun _ _ => rfl⟩, rfl, trivial⟩, spI (fun c => spN (fun d => p1 ?_) (fun d => ?_)) (fun c => p1 ?_)⟩))
  · rw [LN, decide_eq_true (show x.e.n > 64 by omega)]; rfl
  · rw [LN, decide_eq_true (show x.d.bs.length > 2048 by omega), Bool.or_true]; rfl
  all_goals
    have LN : devN x = bif evsOk x.e 0 then (bif x.d.bs.length % 64 == 0 then 0 else 2) else 2 := by
      rw [LN, decide_eq_false (show ¬ x.e.n > 64 by omega), decide_eq_false (show ¬ x.d.bs.length > 2048 by omega)]; rfl
  · have c : evsOk x.e 0 = true := c
    rw [Int.tmod_eq_emod_of_nonneg (by omega)] at d
    have d : (x.d.bs.length % 64 == 0) = false := by simp; omega
    rw [LN, c, d]; rfl
  · have c : evsOk x.e 0 = true := c
    rw [Int.tmod_eq_emod_of_nonneg (by omega)] at d
    have d : (x.d.bs.length % 64 == 0) = true := by simp; omega
    exact ⟨(), trivial, by rw [LN, c, d]; rfl, ⟨rfl, rfl, rfl, fun _ _ => rfl⟩, rfl, trivial⟩
  · have c : evsOk x.e 0 = false := c
    rw [LN, c]; rfl
theorem noteOk_iff (r : NRow) (i : Nat) : noteOk r i = true ↔ 0 ≤ r.at_ i ∧ r.at_ i ≤ 1099511627776 ∧ 1 ≤ r.cause i ∧ r.cause i ≤ 11 := by
  simp only [noteOk, Bool.not_eq_true', Bool.or_eq_false_iff, decide_eq_false_iff_not]
  omega
set_option maxRecDepth 100000 in
theorem rmayL_ok : (rmayLp Go.Proofs.Tryz.prog).OK Go.Proofs.Tryz.prog := by
  refine Lp.ok_of (noBaseK_ok _) (drP_ok hmix _ (noBaseK_ok _)) (noLo_ok _) (by decide) 40 (fun i hi => ?_)
  rw [← Option.some.inj (rmayL_c_e i)]
  obtain ⟨h1, h2⟩ := hi
  unfold rmayL_c_V
  by_cases hk : i.k < i.x.notes.n
  · have hx0 : 0 + (i.k : Int).toNat = i.k := by simp
    have hw : IntKind.wrap .i64 ((i.k : Int) + 1) = ((i.k + 1 : Nat) : Int) := by rw [IntWalk.i64_in _ (by omega)]; omega
    have hs := notesOk_step i.x.notes i.k hk
    have bad : ¬ noteOk i.x.notes i.k = true → rmayL_c_p0 i := fun e => spF (by rw [hs, Bool.eq_false_iff.2 e]; rfl) ⟨⟨rfl, trivial⟩, rfl, ⟨rfl, rfl, rfl, fun _ _ => rfl⟩, rfl, rfl, rfl, ⟨rfl, rfl, rfl, fun _ _ => rfl⟩, trivial⟩
    rw [noteOk_iff] at bad
    rw [hx0, hw]
    refine spT (by simp; omega) (spT (by simp; omega) (spT (by simp [hk]) (spP (fun a1 => bad (by omega)) (fun a1 => spP (fun a2 => bad (by omega)) (fun a2 => spP (fun a3 => bad (by omega)) (fun a3 => spP (fun a4 => bad (by omega)) (fun a4 => ?_)))))))
    have hok : noteOk i.x.notes i.k = true := (noteOk_iff _ _).2 (by omega)
    refine ⟨⟨i.x, i.k + 1⟩, ⟨hk, h2⟩, ?_, ?_, ⟨rfl, rfl, trivial⟩, rfl, ⟨rfl, rfl, rfl, fun _ _ => rfl⟩, rfl, rfl, rfl, ⟨rfl, rfl, rfl, fun _ _ => rfl⟩, rfl, trivial⟩
    · show i.x.notes.n - (i.k + 1) < i.x.notes.n - i.k; omega
    · rw [hs, hok, Bool.true_and]
  · exact spF (by simp; omega) (spT (notesOk_end _ _ (by omega)) ⟨trivial, rfl, ⟨rfl, rfl, rfl, fun _ _ => rfl⟩, rfl, rfl, rfl, ⟨rfl, rfl, rfl, fun _ _ => rfl⟩, trivial⟩)
theorem u32_andNot_nat (a b : Nat) (ha : a < 4294967296) (hb : b < 4294967296) : bits .andNot .u32 (a : Int) (b : Int) = ((a &&& (4294967295 - b) : Nat) : Int) := by
  have hx : a &&& (4294967295 - b) < 4294967296 := Nat.lt_of_le_of_lt Nat.and_le_left ha
  have o : ∀ n : Nat, n < 4294967296 → (BitVec.ofInt 32 (n : Int)).toNat = n := fun n hn => by
    rw [BitVec.ofInt_natCast, BitVec.toNat_ofNat]
    exact Nat.mod_eq_of_lt hn
  show IntKind.u32.wrap ((BitVec.ofInt 32 (a : Int) &&& ~~~BitVec.ofInt 32 (b : Int)).toNat : Int) = _
  rw [BitVec.toNat_and, BitVec.toNat_not, o a ha, o b hb, IntKind.wrap_u32, show 2 ^ 32 - 1 - b = 4294967295 - b by omega]
  omega
theorem nat_and_hi (a k M : Nat) (ha : a / 2 ^ k < 2 ^ 24) (hM : M / 2 ^ k = 2 ^ 24 - 1) : (a &&& M) / 2 ^ k = a / 2 ^ k := by
  have : (a &&& M) >>> k = a >>> k &&& M >>> k := Nat.shiftRight_and_distrib
  rw [Nat.shiftRight_eq_div_pow, Nat.shiftRight_eq_div_pow, Nat.shiftRight_eq_div_pow, hM, Nat.and_two_pow_sub_one_eq_mod, Nat.mod_eq_of_lt ha] at this
  exact this
set_option maxRecDepth 100000 in
theorem low8 : ∀ k, k < 256 → ((k &&& 8 = 0) ↔ (k / 8 % 2 = 0)) ∧ ((k &&& 248 = 0) ↔ k ≤ 7) := by decide
theorem nat_247 (a : Nat) (ha : a < 4294967296) : (a &&& 4294967048) = 0 ↔ a < 256 ∧ a / 8 % 2 = 0 := by
  have h1 := nat_and_hi a 8 4294967048 (by simp; omega) (by decide)
  have h2 : (a &&& 4294967048) % 2 ^ 8 = (a % 2 ^ 8) &&& (4294967048 % 2 ^ 8) := Nat.and_mod_two_pow
  have h3 := (low8 (a % 256) (Nat.mod_lt _ (by decide))).1
  have e : (4294967048 : Nat) % 2 ^ 8 = 8 := by decide
  rw [e] at h2
  generalize (a &&& 4294967048) = x at *
  simp only [Nat.reducePow] at *
  generalize (a % 256 &&& 8) = y at *
  omega
theorem nat_7 (a : Nat) (ha : a < 4294967296) : (a &&& 4294967288) = 0 ↔ a ≤ 7 := by
  have h1 := nat_and_hi a 8 4294967288 (by simp; omega) (by decide)
  have h2 : (a &&& 4294967288) % 2 ^ 8 = (a % 2 ^ 8) &&& (4294967288 % 2 ^ 8) := Nat.and_mod_two_pow
  have h3 := (low8 (a % 256) (Nat.mod_lt _ (by decide))).2
  have e : (4294967288 : Nat) % 2 ^ 8 = 248 := by decide
  rw [e] at h2
  generalize (a &&& 4294967288) = x at *
  simp only [Nat.reducePow] at *
  generalize (a % 256 &&& 248) = y at *
  omega
theorem andNot7 {n : Int} (h0 : 0 ≤ n) (h1 : n ≤ 4294967295) : (bits .andNot .u32 n 7 != 0) = decide (n > 7) := by
  obtain ⟨a, rfl⟩ := Int.eq_ofNat_of_zero_le h0
  have e := u32_andNot_nat a 7 (by omega) (by decide)
  have i := nat_7 a (by omega)
  rw [show ((7 : Nat) : Int) = 7 from rfl] at e
  rw [e, show 4294967295 - 7 = 4294967288 from rfl]
  generalize (a &&& 4294967288) = z at *
  by_cases h : a ≤ 7
  · rw [i.2 h, decide_eq_false (by omega)]
    rfl
  · rw [decide_eq_true (by omega)]
    have : ¬ z = 0 := fun q => h (i.1 q)
    simp only [bne_iff_ne, ne_eq]
    omega
theorem fits_iff {x : Sv} (h : RkOk x) : fitsN x = true ↔ 1 ≤ x.fr ∧ x.fr ≤ 64 ∧ (x.mem.bs.length : Int) = IntKind.wrap .i64 (64 * x.fr) ∧ x.s.ps < 256 ∧ (IntKind.wrap .u32 (x.s.ps.tdiv 8)).tmod 2 ≠ 1 ∧ 0 ≤ x.steps ∧ x.steps ≤ 1099511627776 := by
  obtain ⟨h0, h1⟩ := h.ps
  have key : (bits .andNot .u32 x.s.ps 247 == 0) = true ↔ x.s.ps < 256 ∧ (IntKind.wrap .u32 (x.s.ps.tdiv 8)).tmod 2 ≠ 1 := by
    generalize x.s.ps = n at *
    obtain ⟨a, rfl⟩ := Int.eq_ofNat_of_zero_le h0
    have e := u32_andNot_nat a 247 (by omega) (by decide)
    have i := nat_247 a (by omega)
    rw [show ((247 : Nat) : Int) = 247 from rfl] at e
    rw [e, show 4294967295 - 247 = 4294967048 from rfl]
    have w : IntKind.wrap .u32 (((a : Nat) : Int).tdiv 8) = ((a / 8 : Nat) : Int) := by
      rw [Int.tdiv_eq_ediv_of_nonneg (by omega), IntKind.wrap_u32]
      omega
    rw [w, Int.tmod_eq_emod_of_nonneg (by omega)]
    simp only [beq_iff_eq]
    generalize (a &&& 4294967048) = z at *
    omega
  have e64 : IntKind.wrap .i64 (x.fr * 64) = IntKind.wrap .i64 (64 * x.fr) := by rw [Int.mul_comm]
  unfold fitsN
  rw [e64]
  simp only [Bool.and_eq_true, decide_eq_true_eq, key]
  simp only [beq_iff_eq]
  omega
def badS (x : Sv) : Prop := x.b1 > 7 ∨ x.b2 > 7 ∨ ¬ ((x.b5 = 1 ∧ (x.b6 = 1 ∨ x.b6 = 2)) ∨ (x.b5 ≠ 1 ∧ x.b5 ≤ 2 ∧ x.b6 = 0 ∧ x.b7 = 0 ∧ x.b8 = 0))
theorem bad_iff {x : Sv} (h : RkOk x) : (bits .andNot .u32 x.b1 7 != 0 || bits .andNot .u32 x.b2 7 != 0 || !orderedN x) = true ↔ badS x := by
  rw [andNot7 h.b1.1 h.b1.2, andNot7 h.b2.1 h.b2.2]
  unfold badS orderedN
  by_cases e : x.b5 = 1
  · simp [e]
    omega
  · have e' : (x.b5 == 1) = false := by simpa using e
    rw [e']
    simp
    omega
set_option maxRecDepth 100000 in
set_option maxHeartbeats 4000000 in
theorem rkeep_ok : rkeepC.OK Go.Proofs.Tryz.prog := by
  refine Con.by hmix (forF_ok (Lp.lo_ok rmayL_ok rfl) (noLoops_ok _)) (Con.orc_ok rerr_ok) rkeep_c_V rkeep_c_e (fun x hx => ?_)
  obtain ⟨hm, hno, ho, hd, hq, hs⟩ := hx.fine
  have fi := fits_iff hx
  have bi := bad_iff hx
  have p5 : rkeep_c_p5 x := ⟨rfl, rfl, rfl, fun _ _ => rfl⟩
  have p6 : rkeep_c_p6 x := ⟨rfl, rfl, rfl, fun _ _ => rfl⟩
  have E2 : keepN x = 2 → rkeep_c_p4 x := fun e => ⟨(), trivial, by rw [e], rfl, p5, rfl, rfl, rfl, p6, trivial⟩
  have nf : ¬ fitsN x = true → rkeep_c_p4 x := fun e => E2 (by unfold keepN loadN; rw [Bool.eq_false_iff.2 e]; rfl)
  rw [fi] at nf
  have b5 := hx.b5
  unfold rkeep_c_V
  refine spP (fun a => nf (by omega)) (fun a1 => spP (fun a => nf (by omega)) (fun a2 => spN (fun a => nf (by omega)) (fun a3 => spP (fun a => nf (by omega)) (fun a4 => spE (fun a => nf (by omega)) (fun a5 => spP (fun a => nf (by omega)) (fun a6 => spP (fun a => nf (by omega)) (fun a7 => ⟨⟨hs.1, hs.2, hd.1, hd.2⟩, rfl, ⟨rfl, rfl, trivial⟩, fun _ _ => ?_, trivial⟩)))))))
  have hf : fitsN x = true := fi.2 (by omega)
  have hL : loadN x = devLN x := by unfold loadN; rw [hf]; rfl
  have hK : keepN x = bif devLN x == 0 then (bif decide (x.notes.n > 4096) || decide (x.out.bs.length > 65536) then 3 else bif notesOk x.notes 0 then 0 else 2) else devLN x := by unfold keepN; rw [hL]
  refine spN (fun c => ?_) (fun c => ?_)
  · have c : devN ⟨x.script, x.disk⟩ ≠ 0 := c
    have e1 : devLN x = devN ⟨x.script, x.disk⟩ := by unfold devLN; rw [show (devN ⟨x.script, x.disk⟩ == 0) = false by simpa using c]; rfl
    have e2 : keepN x = devN ⟨x.script, x.disk⟩ := by rw [hK, e1, show (devN ⟨x.script, x.disk⟩ == 0) = false by simpa using c]; rfl
    exact ⟨(), trivial, by rw [e2]; rfl, rfl, p5, rfl, rfl, rfl, p6, trivial⟩
  · have c : devN ⟨x.script, x.disk⟩ = 0 := c
    have e1 : devLN x = (bif decide (x.queue.bs.length > 32) then 3 else bif bits .andNot .u32 x.b1 7 != 0 || bits .andNot .u32 x.b2 7 != 0 || !orderedN x then 2 else 0) := by unfold devLN; rw [c]; rfl
    refine spP (fun d => ?_) (fun d => ?_)
    · have e2 : devLN x = 3 := by rw [e1, decide_eq_true (show x.queue.bs.length > 32 by omega)]; rfl
      exact ⟨(), trivial, by rw [hK, e2]; rfl, rfl, p5, rfl, rfl, rfl, p6, trivial⟩
    · rw [decide_eq_false (show ¬ x.queue.bs.length > 32 by omega)] at e1
      have hE2 : badS x → rkeep_c_p4 x := fun e => E2 (by rw [hK, e1, bi.2 e]; rfl)
      have hP3 : ¬ badS x → rkeep_c_p3 x := fun e => by
        have e3 := Bool.eq_false_iff.2 (fun q => e (bi.1 q))
        have hK : keepN x = bif decide (x.notes.n > 4096) || decide (x.out.bs.length > 65536) then 3 else bif notesOk x.notes 0 then 0 else 2 := by rw [hK, e1, e3]; rfl
        refine spP (fun f => ?_) (fun f => spP (fun g => ?_) (fun g => ⟨rfl, ⟨Nat.zero_le _, by omega⟩, ⟨⟨rfl, rfl, trivial⟩, rfl, p5, rfl, rfl, rfl, p6, rfl, trivial⟩, spI (fun z => ?_) (fun z => ?_)⟩))
        · exact ⟨(), trivial, by rw [hK, decide_eq_true (show x.notes.n > 4096 by omega)]; rfl, rfl, p5, rfl, rfl, rfl, p6, trivial⟩
        · exact ⟨(), trivial, by rw [hK, decide_eq_true (show x.out.bs.length > 65536 by omega), Bool.or_true]; rfl, rfl, p5, rfl, rfl, rfl, p6, trivial⟩
        all_goals
          rw [decide_eq_false (show ¬ x.notes.n > 4096 by omega), decide_eq_false (show ¬ x.out.bs.length > 65536 by omega)] at hK
        · have z : notesOk x.notes 0 = true := z
          exact ⟨(), trivial, by rw [hK, z]; rfl, rfl, p5, rfl, rfl, rfl, p6, trivial⟩
        · have z : notesOk x.notes 0 = false := z
          exact E2 (by rw [hK, z]; rfl)
      unfold badS at hE2 hP3
      repeat' first
        | exact hE2 (by omega)
        | exact hP3 (by omega)
        | refine spE (fun _ => ?_) (fun _ => ?_)
        | refine spP (fun _ => ?_) (fun _ => ?_)
        | refine spNot ?_
end Go.Proofs.YtmbcpmbpkdeioaaGreatDoor.W
/- The document's Decode: what is reckoned. No condition. -/
namespace Go.Proofs.YtmbcpmbpkdeioaaGreatDoor.W
open Go Go.RowKit Go.Eng
set_option maxRecDepth 100000
set_option linter.unusedVariables false
set_option linter.unusedSimpArgs false
structure RcE where
  y : GuY
  e : Int
def rdecC : Con Row RcE where
  f := F_mummerref30_Decode
  fit vs H := match vs with
    | [.msl b _ _ _ c] => (rowOf H b c).map fun q => ([b], q)
    | _ => none
  n0 := 1
  pre x := IsBytes x.bs ∧ x.bs.length ≤ 140737488355324 ∧ x.bs.length ≤ x.c
  args x := [.msl 0 0 0 x.bs.length x.c]
  L0 x := [(0, ⟨false, 1, .ints .u8 x.bs⟩)]
  outs x := [(fun z => decP x.bs = .ok z.y.d ∧ z.y.caps, fun z => (.ret (.tup [.agg (AV.rens up1 z.y.sv.av), .int .i64 0]), 7, [(0, ⟨false, 1, .ints .u8 x.bs⟩), (1, z.y.sv.mem.blk), (2, z.y.sv.notes.blk), (3, z.y.sv.out.blk), (4, z.y.sv.disk.blk), (5, z.y.sv.queue.blk), (6, z.y.sv.script.blk)])),
    (fun z => decP x.bs = .no z.e, fun z => (.ret (.tup [.agg zeroSv, .int .i64 z.e]), 7, [(0, ⟨false, 1, .ints .u8 x.bs⟩)]))]
end Go.Proofs.YtmbcpmbpkdeioaaGreatDoor.W
