/- A guest read: the walk. No condition. -/
import Derived.Test.YtmbcpmbpkdeioaaGreatDoorF37
import Derived.KernelRfl
import Derived.Test.YtmbcpmbpkdeioaaGreatDoorF36
import Derived.RowKit
import Derived.Test.YtmbcpmbpkdeioaaGreatDoorEn29
namespace Go.Proofs.YtmbcpmbpkdeioaaGreatDoor.W
open Go Go.RowKit Go.Eng
set_option maxRecDepth 100000
set_option linter.unusedVariables false
set_option linter.unusedSimpArgs false
abbrev svC_c_p0 (x : At) (y_17 : DvE) (y_4 : NtE) : Prop :=
  false = false ∧ 4 = 4 ∧ y_4.l.length = y_17.d.notes.length ∧ ∀ (i : Nat), i < y_4.l.length → [nI (y_4.l.getD i instInhabitedN4.default).a, nI (y_4.l.getD i instInhabitedN4.default).c, nU (y_4.l.getD i instInhabitedN4.default).b, nU (y_4.l.getD i instInhabitedN4.default).d] = [nI (y_17.d.notes.getD i instInhabitedN4.default).a, nI (y_17.d.notes.getD i instInhabitedN4.default).c, nU (y_17.d.notes.getD i instInhabitedN4.default).b, nU (y_17.d.notes.getD i instInhabitedN4.default).d]
abbrev svC_c_p1 (x : At) (y_17 : DvE) (y_8 : EsE) : Prop :=
  false = false ∧ 3 = 3 ∧ y_8.l.length = y_17.d.script.length ∧ ∀ (i : Nat), i < y_8.l.length → [nI (y_8.l.getD i instInhabitedE3.default).a, nI (y_8.l.getD i instInhabitedE3.default).k, nB (y_8.l.getD i instInhabitedE3.default).x] = [nI (y_17.d.script.getD i instInhabitedE3.default).a, nI (y_17.d.script.getD i instInhabitedE3.default).k, nB (y_17.d.script.getD i instInhabitedE3.default).x]
abbrev svC_c_p2 (x : At) (y_17 : DvE) : Prop :=
  false = false ∧ 4 = 4 ∧ 0 = y_17.d.notes.length ∧ ∀ (i : Nat), i < 0 → [nI 0, nI 0, nU 0, nU 0] = [nI (y_17.d.notes.getD i instInhabitedN4.default).a, nI (y_17.d.notes.getD i instInhabitedN4.default).c, nU (y_17.d.notes.getD i instInhabitedN4.default).b, nU (y_17.d.notes.getD i instInhabitedN4.default).d]
abbrev svC_c_p15 (x : At) (y_17 : DvE) : Prop :=
  false = false ∧ 3 = 3 ∧ 0 = y_17.d.script.length ∧ ∀ (i : Nat), i < 0 → [nI 0, nI 0, nB 0] = [nI (y_17.d.script.getD i instInhabitedE3.default).a, nI (y_17.d.script.getD i instInhabitedE3.default).k, nB (y_17.d.script.getD i instInhabitedE3.default).x]
abbrev svC_c_p16 (x : At) (y_10 : UpE) : Prop :=
  some (bC [AV.sl 1 y_10.o 0 (x.bs.length - y_10.o) (x.bs.length - y_10.o) false]) = some (bC [AV.sl 1 y_10.o 0 (x.bs.length - y_10.o) (x.bs.length - y_10.o) false]) ∧ some (bW x.bs) = some (bW x.bs) ∧ True
abbrev svC_c_p17 (x : At) (y_11 : UpE) : Prop :=
  some (bC [AV.sl 1 y_11.o 0 (x.bs.length - y_11.o) (x.bs.length - y_11.o) false]) = some (bC [AV.sl 1 y_11.o 0 (x.bs.length - y_11.o) (x.bs.length - y_11.o) false]) ∧ some (bW x.bs) = some (bW x.bs) ∧ True
abbrev svC_c_p18 (x : At) (y_12 : UpE) : Prop :=
  some (bC [AV.sl 1 y_12.o 0 (x.bs.length - y_12.o) (x.bs.length - y_12.o) false]) = some (bC [AV.sl 1 y_12.o 0 (x.bs.length - y_12.o) (x.bs.length - y_12.o) false]) ∧ some (bW x.bs) = some (bW x.bs) ∧ True
abbrev svC_c_p19 (x : At) (y_13 : UpE) : Prop :=
  some (bC [AV.sl 1 y_13.o 0 (x.bs.length - y_13.o) (x.bs.length - y_13.o) false]) = some (bC [AV.sl 1 y_13.o 0 (x.bs.length - y_13.o) (x.bs.length - y_13.o) false]) ∧ some (bW x.bs) = some (bW x.bs) ∧ True
abbrev svC_c_p20 (x : At) (y_14 : UpE) : Prop :=
  some (bC [AV.sl 1 y_14.o 0 (x.bs.length - y_14.o) (x.bs.length - y_14.o) false]) = some (bC [AV.sl 1 y_14.o 0 (x.bs.length - y_14.o) (x.bs.length - y_14.o) false]) ∧ some (bW x.bs) = some (bW x.bs) ∧ True
abbrev svC_c_p21 (x : At) (y_15 : UpE) : Prop :=
  some (bC [AV.sl 1 y_15.o 0 (x.bs.length - y_15.o) (x.bs.length - y_15.o) false]) = some (bC [AV.sl 1 y_15.o 0 (x.bs.length - y_15.o) (x.bs.length - y_15.o) false]) ∧ some (bW x.bs) = some (bW x.bs) ∧ True
abbrev svC_c_p22 (x : At) (y_4 : NtE) : Prop :=
  some (bC [AV.sl 1 y_4.o 0 (x.bs.length - y_4.o) (x.bs.length - y_4.o) false]) = some (bC [AV.sl 1 y_4.o 0 (x.bs.length - y_4.o) (x.bs.length - y_4.o) false]) ∧ some (bW x.bs) = some (bW x.bs) ∧ True
abbrev svC_c_p23 (x : At) (y_5 : RwE) : Prop :=
  some (bC [AV.sl 1 y_5.o 0 (x.bs.length - y_5.o) (x.bs.length - y_5.o) false]) = some (bC [AV.sl 1 y_5.o 0 (x.bs.length - y_5.o) (x.bs.length - y_5.o) false]) ∧ some (bW x.bs) = some (bW x.bs) ∧ True
abbrev svC_c_p24 (x : At) (y_6 : RwE) : Prop :=
  some (bC [AV.sl 1 y_6.o 0 (x.bs.length - y_6.o) (x.bs.length - y_6.o) false]) = some (bC [AV.sl 1 y_6.o 0 (x.bs.length - y_6.o) (x.bs.length - y_6.o) false]) ∧ some (bW x.bs) = some (bW x.bs) ∧ True
abbrev svC_c_p25 (x : At) (y_7 : RwE) : Prop :=
  some (bC [AV.sl 1 y_7.o 0 (x.bs.length - y_7.o) (x.bs.length - y_7.o) false]) = some (bC [AV.sl 1 y_7.o 0 (x.bs.length - y_7.o) (x.bs.length - y_7.o) false]) ∧ some (bW x.bs) = some (bW x.bs) ∧ True
abbrev svC_c_p26 (x : At) (y_8 : EsE) : Prop :=
  some (bC [AV.sl 1 y_8.o 0 (x.bs.length - y_8.o) (x.bs.length - y_8.o) false]) = some (bC [AV.sl 1 y_8.o 0 (x.bs.length - y_8.o) (x.bs.length - y_8.o) false]) ∧ some (bW x.bs) = some (bW x.bs) ∧ True
abbrev svC_c_p27 (x : At) (y_9 : UpE) : Prop :=
  some (bC [AV.sl 1 y_9.o 0 (x.bs.length - y_9.o) (x.bs.length - y_9.o) false]) = some (bC [AV.sl 1 y_9.o 0 (x.bs.length - y_9.o) (x.bs.length - y_9.o) false]) ∧ some (bW x.bs) = some (bW x.bs) ∧ True
abbrev svC_c_p28 (x : At) : Prop :=
  ∃ (y : DvE), (savP x.bs x.o = PR.ok y.d y.o ∧ y.o ≤ x.bs.length) ∧ False
abbrev svC_c_p3 (x : At) (y_10 : UpE) : Prop :=
  ∀ (y : UpE), upP x.bs 4294967295 y_10.o = PR.no y.e → (svC_c_p28 x) ∨ ∃ (y_11 : DvE), savP x.bs x.o = PR.no y_11.e ∧ [AV.ifc T_file_wrong (AV.agg [nI y.e])] = [AV.ifc T_file_wrong (AV.agg [nI y_11.e])] ∧ True
abbrev svC_c_p4 (x : At) (y_11 : UpE) : Prop :=
  ∀ (y : UpE), upP x.bs 4294967295 y_11.o = PR.no y.e → (svC_c_p28 x) ∨ ∃ (y_12 : DvE), savP x.bs x.o = PR.no y_12.e ∧ [AV.ifc T_file_wrong (AV.agg [nI y.e])] = [AV.ifc T_file_wrong (AV.agg [nI y_12.e])] ∧ True
abbrev svC_c_p5 (x : At) (y_12 : UpE) : Prop :=
  ∀ (y : UpE), upP x.bs 4294967295 y_12.o = PR.no y.e → (svC_c_p28 x) ∨ ∃ (y_13 : DvE), savP x.bs x.o = PR.no y_13.e ∧ [AV.ifc T_file_wrong (AV.agg [nI y.e])] = [AV.ifc T_file_wrong (AV.agg [nI y_13.e])] ∧ True
abbrev svC_c_p6 (x : At) (y_13 : UpE) : Prop :=
  ∀ (y : UpE), upP x.bs 4294967295 y_13.o = PR.no y.e → (svC_c_p28 x) ∨ ∃ (y_14 : DvE), savP x.bs x.o = PR.no y_14.e ∧ [AV.ifc T_file_wrong (AV.agg [nI y.e])] = [AV.ifc T_file_wrong (AV.agg [nI y_14.e])] ∧ True
abbrev svC_c_p7 (x : At) (y_14 : UpE) : Prop :=
  ∀ (y : UpE), upP x.bs 4294967295 y_14.o = PR.no y.e → (svC_c_p28 x) ∨ ∃ (y_15 : DvE), savP x.bs x.o = PR.no y_15.e ∧ [AV.ifc T_file_wrong (AV.agg [nI y.e])] = [AV.ifc T_file_wrong (AV.agg [nI y_15.e])] ∧ True
abbrev svC_c_p8 (x : At) (y_15 : UpE) : Prop :=
  ∀ (y : UpE), upP x.bs 4294967295 y_15.o = PR.no y.e → (svC_c_p28 x) ∨ ∃ (y_16 : DvE), savP x.bs x.o = PR.no y_16.e ∧ [AV.ifc T_file_wrong (AV.agg [nI y.e])] = [AV.ifc T_file_wrong (AV.agg [nI y_16.e])] ∧ True
abbrev svC_c_p9 (x : At) (y_9 : UpE) : Prop :=
  ∀ (y : UpE), upP x.bs 4294967295 y_9.o = PR.no y.e → (svC_c_p28 x) ∨ ∃ (y_10 : DvE), savP x.bs x.o = PR.no y_10.e ∧ [AV.ifc T_file_wrong (AV.agg [nI y.e])] = [AV.ifc T_file_wrong (AV.agg [nI y_10.e])] ∧ True
abbrev svC_c_p10 (x : At) (y_8 : EsE) : Prop :=
  ∀ (y : UpE), upP x.bs 4294967295 y_8.o = PR.no y.e → (svC_c_p28 x) ∨ ∃ (y_9 : DvE), savP x.bs x.o = PR.no y_9.e ∧ [AV.ifc T_file_wrong (AV.agg [nI y.e])] = [AV.ifc T_file_wrong (AV.agg [nI y_9.e])] ∧ True
abbrev svC_c_p11 (x : At) (y_4 : NtE) : Prop :=
  ∀ (y : RwE), rowP x.bs 65536 y_4.o = PR.no y.e → (svC_c_p28 x) ∨ ∃ (y_5 : DvE), savP x.bs x.o = PR.no y_5.e ∧ [AV.ifc T_file_wrong (AV.agg [nI y.e])] = [AV.ifc T_file_wrong (AV.agg [nI y_5.e])] ∧ True
abbrev svC_c_p12 (x : At) (y_5 : RwE) : Prop :=
  ∀ (y : RwE), rowP x.bs 2048 y_5.o = PR.no y.e → (svC_c_p28 x) ∨ ∃ (y_6 : DvE), savP x.bs x.o = PR.no y_6.e ∧ [AV.ifc T_file_wrong (AV.agg [nI y.e])] = [AV.ifc T_file_wrong (AV.agg [nI y_6.e])] ∧ True
abbrev svC_c_p13 (x : At) (y_6 : RwE) : Prop :=
  ∀ (y : RwE), rowP x.bs 32 y_6.o = PR.no y.e → (svC_c_p28 x) ∨ ∃ (y_7 : DvE), savP x.bs x.o = PR.no y_7.e ∧ [AV.ifc T_file_wrong (AV.agg [nI y.e])] = [AV.ifc T_file_wrong (AV.agg [nI y_7.e])] ∧ True
abbrev svC_c_p14 (x : At) (y_7 : RwE) : Prop :=
  ∀ (y : EsE), esP x.bs y_7.o = PR.no y.e → (svC_c_p28 x) ∨ ∃ (y_8 : DvE), savP x.bs x.o = PR.no y_8.e ∧ [AV.ifc T_file_wrong (AV.agg [nI y.e])] = [AV.ifc T_file_wrong (AV.agg [nI y_8.e])] ∧ True
def svC_c_V (x : At) : Prop :=
  (x.o ≤ x.bs.length ∧ x.bs.length ≤ 140737488355328) ∧ [AV.ptr 0 0 0] = [AV.ptr 0 0 0] ∧ (some (bC [AV.sl 1 x.o 0 (x.bs.length - x.o) (x.bs.length - x.o) false]) = some (bC [AV.sl 1 x.o 0 (x.bs.length - x.o) (x.bs.length - x.o) false]) ∧ some (bW x.bs) = some (bW x.bs) ∧ True) ∧ (∀ (y : UpE), upP x.bs 1099511627776 x.o = PR.ok y.n y.o ∧ y.o ≤ x.bs.length ∧ 0 ≤ y.n ∧ y.n ≤ 1099511627776 → (y.o ≤ x.bs.length ∧ x.bs.length ≤ 140737488355328) ∧ [AV.ptr 0 0 0, nI 4096] = [AV.ptr 0 0 0, nI 4096] ∧ (some (bC [AV.sl 1 y.o 0 (x.bs.length - y.o) (x.bs.length - y.o) false]) = some (bC [AV.sl 1 y.o 0 (x.bs.length - y.o) (x.bs.length - y.o) false]) ∧ some (bW x.bs) = some (bW x.bs) ∧ True) ∧ (∀ (y_1 : RwE), rowP x.bs 4096 y.o = PR.ok y_1.l y_1.o ∧ y_1.o ≤ x.bs.length → (y_1.o ≤ x.bs.length ∧ x.bs.length ≤ 140737488355328) ∧ [AV.ptr 0 0 0] = [AV.ptr 0 0 0] ∧ (some (bC [AV.sl 1 y_1.o 0 (x.bs.length -
  y_1.o) (x.bs.length - y_1.o) false]) = some (bC [AV.sl 1 y_1.o 0 (x.bs.length - y_1.o) (x.bs.length - y_1.o) false]) ∧ some (bW x.bs) = some (bW x.bs) ∧ True) ∧ (∀ (y_2 : StE), stP x.bs y_1.o = PR.ok y_2.s y_2.o ∧ y_2.o ≤ x.bs.length → (y_2.o ≤ x.bs.length ∧ x.bs.length ≤ 140737488355328) ∧ [AV.ptr 0 0 0] = [AV.ptr 0 0 0] ∧ (some (bC [AV.sl 1 y_2.o 0 (x.bs.length - y_2.o) (x.bs.length - y_2.o) false]) = some (bC [AV.sl 1 y_2.o 0 (x.bs.length - y_2.o) (x.bs.length - y_2.o) false]) ∧ some (bW x.bs) = some (bW x.bs) ∧ True) ∧ (∀ (y_3 : UpE), upP x.bs 1099511627776 y_2.o = PR.ok y_3.n y_3.o ∧ y_3.o ≤ x.bs.length ∧ 0 ≤ y_3.n ∧ y_3.n ≤ 1099511627776 → (y_3.o ≤ x.bs.length ∧ x.bs.length ≤ 140737488355328) ∧ [AV.ptr 0 0 0] = [AV.ptr 0 0 0] ∧ (some (bC [AV.sl 1 y_3.o 0 (x.bs.length - y_3.o) (x.bs.length - y_3.o) false]) = some (bC [AV.sl 1 y_3.o 0 (x.bs.length - y_3.o) (x.bs.length - y_3.o)
  false]) ∧ some (bW x.bs) = some (bW x.bs) ∧ True) ∧ (∀ (y_4 : NtE), ntP x.bs y_3.o = PR.ok [] y_4.o ∧ y_4.o ≤ x.bs.length → (y_4.o ≤ x.bs.length ∧ x.bs.length ≤ 140737488355328) ∧ [AV.ptr 0 0 0, nI 65536] = [AV.ptr 0 0 0, nI 65536] ∧ (svC_c_p22 x y_4) ∧ (∀ (y_5 : RwE), rowP x.bs 65536 y_4.o = PR.ok y_5.l y_5.o ∧ y_5.o ≤ x.bs.length → (y_5.o ≤ x.bs.length ∧ x.bs.length ≤ 140737488355328) ∧ [AV.ptr 0 0 0, nI 2048] = [AV.ptr 0 0 0, nI 2048] ∧ (svC_c_p23 x y_5) ∧ (∀ (y_6 : RwE), rowP x.bs 2048 y_5.o = PR.ok y_6.l y_6.o ∧ y_6.o ≤ x.bs.length → (y_6.o ≤ x.bs.length ∧ x.bs.length ≤ 140737488355328) ∧ [AV.ptr 0 0 0, nI 32] = [AV.ptr 0 0 0, nI 32] ∧ (svC_c_p24 x y_6) ∧ (∀ (y_7 : RwE), rowP x.bs 32 y_6.o = PR.ok y_7.l y_7.o ∧ y_7.o ≤ x.bs.length → (y_7.o ≤ x.bs.length ∧ x.bs.length ≤ 140737488355328) ∧ [AV.ptr 0 0 0] = [AV.ptr 0 0 0] ∧ (svC_c_p25 x y_7) ∧ (∀ (y_8 : EsE), esP x.bs y_7.o = PR.ok []
  y_8.o ∧ y_8.o ≤ x.bs.length → (y_8.o ≤ x.bs.length ∧ x.bs.length ≤ 140737488355328) ∧ [AV.ptr 0 0 0] = [AV.ptr 0 0 0] ∧ (svC_c_p26 x y_8) ∧ (∀ (y_9 : UpE), upP x.bs 4294967295 y_8.o = PR.ok y_9.n y_9.o ∧ y_9.o ≤ x.bs.length ∧ 0 ≤ y_9.n ∧ y_9.n ≤ 4294967295 → (y_9.o ≤ x.bs.length ∧ x.bs.length ≤ 140737488355328) ∧ [AV.ptr 0 0 0] = [AV.ptr 0 0 0] ∧ (svC_c_p27 x y_9) ∧ (∀ (y_10 : UpE), upP x.bs 4294967295 y_9.o = PR.ok y_10.n y_10.o ∧ y_10.o ≤ x.bs.length ∧ 0 ≤ y_10.n ∧ y_10.n ≤ 4294967295 → (y_10.o ≤ x.bs.length ∧ x.bs.length ≤ 140737488355328) ∧ [AV.ptr 0 0 0] = [AV.ptr 0 0 0] ∧ (svC_c_p16 x y_10) ∧ (∀ (y_11 : UpE), upP x.bs 4294967295 y_10.o = PR.ok y_11.n y_11.o ∧ y_11.o ≤ x.bs.length ∧ 0 ≤ y_11.n ∧ y_11.n ≤ 4294967295 → (y_11.o ≤ x.bs.length ∧ x.bs.length ≤ 140737488355328) ∧ [AV.ptr 0 0 0] = [AV.ptr 0 0 0] ∧ (svC_c_p17 x y_11) ∧ (∀ (y_12 : UpE), upP x.bs 4294967295 y_11.o = PR.ok
  y_12.n y_12.o ∧ y_12.o ≤ x.bs.length ∧ 0 ≤ y_12.n ∧ y_12.n ≤ 4294967295 → (y_12.o ≤ x.bs.length ∧ x.bs.length ≤ 140737488355328) ∧ [AV.ptr 0 0 0] = [AV.ptr 0 0 0] ∧ (svC_c_p18 x y_12) ∧ (∀ (y_13 : UpE), upP x.bs 4294967295 y_12.o = PR.ok y_13.n y_13.o ∧ y_13.o ≤ x.bs.length ∧ 0 ≤ y_13.n ∧ y_13.n ≤ 4294967295 → (y_13.o ≤ x.bs.length ∧ x.bs.length ≤ 140737488355328) ∧ [AV.ptr 0 0 0] = [AV.ptr 0 0 0] ∧ (svC_c_p19 x y_13) ∧ (∀ (y_14 : UpE), upP x.bs 4294967295 y_13.o = PR.ok y_14.n y_14.o ∧ y_14.o ≤ x.bs.length ∧ 0 ≤ y_14.n ∧ y_14.n ≤ 4294967295 → (y_14.o ≤ x.bs.length ∧ x.bs.length ≤ 140737488355328) ∧ [AV.ptr 0 0 0] = [AV.ptr 0 0 0] ∧ (svC_c_p20 x y_14) ∧ (∀ (y_15 : UpE), upP x.bs 4294967295 y_14.o = PR.ok y_15.n y_15.o ∧ y_15.o ≤ x.bs.length ∧ 0 ≤ y_15.n ∧ y_15.n ≤ 4294967295 → (y_15.o ≤ x.bs.length ∧ x.bs.length ≤ 140737488355328) ∧ [AV.ptr 0 0 0] = [AV.ptr 0 0 0] ∧ (svC_c_p21 x y_15) ∧
  (∀ (y_16 : UpE), upP x.bs 4294967295 y_15.o = PR.ok y_16.n y_16.o ∧ y_16.o ≤ x.bs.length ∧ 0 ≤ y_16.n ∧ y_16.n ≤ 4294967295 → (∃ (y_17 : DvE), (savP x.bs x.o = PR.ok y_17.d y_17.o ∧ y_17.o ≤ x.bs.length) ∧ [AV.agg (((((([nI y.n, AV.sl 4 0 0 y_1.l.length y_1.l.length false, nU y_2.s.r0, nU y_2.s.r1, nU y_2.s.r2, nU y_2.s.r3, nU y_2.s.r4, nU y_2.s.r5, nU y_2.s.r6, nU y_2.s.r7, nU y_2.s.pc, nU y_2.s.ps, nU y_2.s.c0, nU y_2.s.c1, nU y_2.s.c2, nU y_2.s.c3, nU y_2.s.c4, nU y_2.s.c5, nU y_2.s.c6, nU y_2.s.c7, AV.bool y_2.s.h, nI y_3.n, AV.nils, AV.sl 8 0 0 y_5.l.length y_5.l.length false, AV.sl 9 0 0 y_6.l.length y_6.l.length false, AV.sl 10 0 0 y_7.l.length y_7.l.length false, AV.nils, nU y_9.n, nU y_10.n, nU y_11.n, nU y_12.n, nU y_13.n, nU y_14.n, nU y_15.n, nU y_16.n].set 1 (AV.msl 4 0 0 y_1.l.length y_1.l.length)).set 22 (AV.msl 12 0 0 0 0)).set 23 (AV.msl 8 0 0 y_5.l.length
  y_5.l.length)).set 24 (AV.msl 9 0 0 y_6.l.length y_6.l.length)).set 25 (AV.msl 10 0 0 y_7.l.length y_7.l.length)).set 26 (AV.msl 13 0 0 0 0))] = [AV.agg [nI y_17.d.fr, AV.msl 4 0 0 y_17.d.mem.length y_17.d.mem.length, nU y_17.d.s.r0, nU y_17.d.s.r1, nU y_17.d.s.r2, nU y_17.d.s.r3, nU y_17.d.s.r4, nU y_17.d.s.r5, nU y_17.d.s.r6, nU y_17.d.s.r7, nU y_17.d.s.pc, nU y_17.d.s.ps, nU y_17.d.s.c0, nU y_17.d.s.c1, nU y_17.d.s.c2, nU y_17.d.s.c3, nU y_17.d.s.c4, nU y_17.d.s.c5, nU y_17.d.s.c6, nU y_17.d.s.c7, AV.bool y_17.d.s.h, nI y_17.d.steps, AV.msl 12 0 0 y_17.d.notes.length y_17.d.notes.length, AV.msl 8 0 0 y_17.d.out.length y_17.d.out.length, AV.msl 9 0 0 y_17.d.disk.length y_17.d.disk.length, AV.msl 10 0 0 y_17.d.queue.length y_17.d.queue.length, AV.msl 13 0 0 y_17.d.script.length y_17.d.script.length, nU (y_17.d.bl.getD 0 0), nU (y_17.d.bl.getD 1 0), nU (y_17.d.bl.getD 2 0), nU
  (y_17.d.bl.getD 3 0), nU (y_17.d.bl.getD 4 0), nU (y_17.d.bl.getD 5 0), nU (y_17.d.bl.getD 6 0), nU (y_17.d.bl.getD 7 0)]] ∧ bC [AV.sl 1 y_16.o 0 (x.bs.length - y_16.o) (x.bs.length - y_16.o) false] = bC [AV.sl 1 y_17.o 0 (x.bs.length - y_17.o) (x.bs.length - y_17.o) false] ∧ bW x.bs = bW x.bs ∧ bR y_1.l = bR y_17.d.mem ∧ (svC_c_p2 x y_17) ∧ bR y_5.l = bR y_17.d.out ∧ bR y_6.l = bR y_17.d.disk ∧ bR y_7.l = bR y_17.d.queue ∧ (svC_c_p15 x y_17) ∧ True) ∨ ∃ (y : DvE), savP x.bs x.o = PR.no y.e ∧ False) ∧ (svC_c_p8 x y_15) ∧ True) ∧ (svC_c_p7 x y_14) ∧ True) ∧ (svC_c_p6 x y_13) ∧ True) ∧ (svC_c_p5 x y_12) ∧ True) ∧ (svC_c_p4 x y_11) ∧ True) ∧ (svC_c_p3 x y_10) ∧ True) ∧ (svC_c_p9 x y_9) ∧ True) ∧ (svC_c_p10 x y_8) ∧ True) ∧ (∀ (y_8 : EsE), esP x.bs y_7.o = PR.ok y_8.l y_8.o ∧ y_8.o ≤ x.bs.length ∧ 0 < y_8.l.length ∧ y_8.l.length ≤ 64 → (y_8.o ≤ x.bs.length ∧ x.bs.length ≤ 140737488355328) ∧
  [AV.ptr 0 0 0] = [AV.ptr 0 0 0] ∧ (svC_c_p26 x y_8) ∧ (∀ (y_9 : UpE), upP x.bs 4294967295 y_8.o = PR.ok y_9.n y_9.o ∧ y_9.o ≤ x.bs.length ∧ 0 ≤ y_9.n ∧ y_9.n ≤ 4294967295 → (y_9.o ≤ x.bs.length ∧ x.bs.length ≤ 140737488355328) ∧ [AV.ptr 0 0 0] = [AV.ptr 0 0 0] ∧ (svC_c_p27 x y_9) ∧ (∀ (y_10 : UpE), upP x.bs 4294967295 y_9.o = PR.ok y_10.n y_10.o ∧ y_10.o ≤ x.bs.length ∧ 0 ≤ y_10.n ∧ y_10.n ≤ 4294967295 → (y_10.o ≤ x.bs.length ∧ x.bs.length ≤ 140737488355328) ∧ [AV.ptr 0 0 0] = [AV.ptr 0 0 0] ∧ (svC_c_p16 x y_10) ∧ (∀ (y_11 : UpE), upP x.bs 4294967295 y_10.o = PR.ok y_11.n y_11.o ∧ y_11.o ≤ x.bs.length ∧ 0 ≤ y_11.n ∧ y_11.n ≤ 4294967295 → (y_11.o ≤ x.bs.length ∧ x.bs.length ≤ 140737488355328) ∧ [AV.ptr 0 0 0] = [AV.ptr 0 0 0] ∧ (svC_c_p17 x y_11) ∧ (∀ (y_12 : UpE), upP x.bs 4294967295 y_11.o = PR.ok y_12.n y_12.o ∧ y_12.o ≤ x.bs.length ∧ 0 ≤ y_12.n ∧ y_12.n ≤ 4294967295 → (y_12.o ≤
  x.bs.length ∧ x.bs.length ≤ 140737488355328) ∧ [AV.ptr 0 0 0] = [AV.ptr 0 0 0] ∧ (svC_c_p18 x y_12) ∧ (∀ (y_13 : UpE), upP x.bs 4294967295 y_12.o = PR.ok y_13.n y_13.o ∧ y_13.o ≤ x.bs.length ∧ 0 ≤ y_13.n ∧ y_13.n ≤ 4294967295 → (y_13.o ≤ x.bs.length ∧ x.bs.length ≤ 140737488355328) ∧ [AV.ptr 0 0 0] = [AV.ptr 0 0 0] ∧ (svC_c_p19 x y_13) ∧ (∀ (y_14 : UpE), upP x.bs 4294967295 y_13.o = PR.ok y_14.n y_14.o ∧ y_14.o ≤ x.bs.length ∧ 0 ≤ y_14.n ∧ y_14.n ≤ 4294967295 → (y_14.o ≤ x.bs.length ∧ x.bs.length ≤ 140737488355328) ∧ [AV.ptr 0 0 0] = [AV.ptr 0 0 0] ∧ (svC_c_p20 x y_14) ∧ (∀ (y_15 : UpE), upP x.bs 4294967295 y_14.o = PR.ok y_15.n y_15.o ∧ y_15.o ≤ x.bs.length ∧ 0 ≤ y_15.n ∧ y_15.n ≤ 4294967295 → (y_15.o ≤ x.bs.length ∧ x.bs.length ≤ 140737488355328) ∧ [AV.ptr 0 0 0] = [AV.ptr 0 0 0] ∧ (svC_c_p21 x y_15) ∧ (∀ (y_16 : UpE), upP x.bs 4294967295 y_15.o = PR.ok y_16.n y_16.o ∧ y_16.o ≤
  x.bs.length ∧ 0 ≤ y_16.n ∧ y_16.n ≤ 4294967295 → (∃ (y_17 : DvE), (savP x.bs x.o = PR.ok y_17.d y_17.o ∧ y_17.o ≤ x.bs.length) ∧ [AV.agg (((((([nI y.n, AV.sl 4 0 0 y_1.l.length y_1.l.length false, nU y_2.s.r0, nU y_2.s.r1, nU y_2.s.r2, nU y_2.s.r3, nU y_2.s.r4, nU y_2.s.r5, nU y_2.s.r6, nU y_2.s.r7, nU y_2.s.pc, nU y_2.s.ps, nU y_2.s.c0, nU y_2.s.c1, nU y_2.s.c2, nU y_2.s.c3, nU y_2.s.c4, nU y_2.s.c5, nU y_2.s.c6, nU y_2.s.c7, AV.bool y_2.s.h, nI y_3.n, AV.nils, AV.sl 8 0 0 y_5.l.length y_5.l.length false, AV.sl 9 0 0 y_6.l.length y_6.l.length false, AV.sl 10 0 0 y_7.l.length y_7.l.length false, AV.sl 11 0 0 y_8.l.length y_8.l.length false, nU y_9.n, nU y_10.n, nU y_11.n, nU y_12.n, nU y_13.n, nU y_14.n, nU y_15.n, nU y_16.n].set 1 (AV.msl 4 0 0 y_1.l.length y_1.l.length)).set 22 (AV.msl 12 0 0 0 0)).set 23 (AV.msl 8 0 0 y_5.l.length y_5.l.length)).set 24 (AV.msl 9 0 0 y_6.l.length
  y_6.l.length)).set 25 (AV.msl 10 0 0 y_7.l.length y_7.l.length)).set 26 (AV.msl 11 0 0 y_8.l.length y_8.l.length))] = [AV.agg [nI y_17.d.fr, AV.msl 4 0 0 y_17.d.mem.length y_17.d.mem.length, nU y_17.d.s.r0, nU y_17.d.s.r1, nU y_17.d.s.r2, nU y_17.d.s.r3, nU y_17.d.s.r4, nU y_17.d.s.r5, nU y_17.d.s.r6, nU y_17.d.s.r7, nU y_17.d.s.pc, nU y_17.d.s.ps, nU y_17.d.s.c0, nU y_17.d.s.c1, nU y_17.d.s.c2, nU y_17.d.s.c3, nU y_17.d.s.c4, nU y_17.d.s.c5, nU y_17.d.s.c6, nU y_17.d.s.c7, AV.bool y_17.d.s.h, nI y_17.d.steps, AV.msl 12 0 0 y_17.d.notes.length y_17.d.notes.length, AV.msl 8 0 0 y_17.d.out.length y_17.d.out.length, AV.msl 9 0 0 y_17.d.disk.length y_17.d.disk.length, AV.msl 10 0 0 y_17.d.queue.length y_17.d.queue.length, AV.msl 11 0 0 y_17.d.script.length y_17.d.script.length, nU (y_17.d.bl.getD 0 0), nU (y_17.d.bl.getD 1 0), nU (y_17.d.bl.getD 2 0), nU (y_17.d.bl.getD 3 0), nU
  (y_17.d.bl.getD 4 0), nU (y_17.d.bl.getD 5 0), nU (y_17.d.bl.getD 6 0), nU (y_17.d.bl.getD 7 0)]] ∧ bC [AV.sl 1 y_16.o 0 (x.bs.length - y_16.o) (x.bs.length - y_16.o) false] = bC [AV.sl 1 y_17.o 0 (x.bs.length - y_17.o) (x.bs.length - y_17.o) false] ∧ bW x.bs = bW x.bs ∧ bR y_1.l = bR y_17.d.mem ∧ (svC_c_p2 x y_17) ∧ bR y_5.l = bR y_17.d.out ∧ bR y_6.l = bR y_17.d.disk ∧ bR y_7.l = bR y_17.d.queue ∧ (svC_c_p1 x y_17 y_8) ∧ True) ∨ ∃ (y : DvE), savP x.bs x.o = PR.no y.e ∧ False) ∧ (svC_c_p8 x y_15) ∧ True) ∧ (svC_c_p7 x y_14) ∧ True) ∧ (svC_c_p6 x y_13) ∧ True) ∧ (svC_c_p5 x y_12) ∧ True) ∧ (svC_c_p4 x y_11) ∧ True) ∧ (svC_c_p3 x y_10) ∧ True) ∧ (svC_c_p9 x y_9) ∧ True) ∧ (svC_c_p10 x y_8) ∧ True) ∧ (svC_c_p14 x y_7) ∧ True) ∧ (svC_c_p13 x y_6) ∧ True) ∧ (svC_c_p12 x y_5) ∧ True) ∧ (svC_c_p11 x y_4) ∧ True) ∧ (∀ (y_4 : NtE), ntP x.bs y_3.o = PR.ok y_4.l y_4.o ∧ y_4.o ≤ x.bs.length ∧ 0 <
  y_4.l.length ∧ y_4.l.length ≤ 4096 → (y_4.o ≤ x.bs.length ∧ x.bs.length ≤ 140737488355328) ∧ [AV.ptr 0 0 0, nI 65536] = [AV.ptr 0 0 0, nI 65536] ∧ (svC_c_p22 x y_4) ∧ (∀ (y_5 : RwE), rowP x.bs 65536 y_4.o = PR.ok y_5.l y_5.o ∧ y_5.o ≤ x.bs.length → (y_5.o ≤ x.bs.length ∧ x.bs.length ≤ 140737488355328) ∧ [AV.ptr 0 0 0, nI 2048] = [AV.ptr 0 0 0, nI 2048] ∧ (svC_c_p23 x y_5) ∧ (∀ (y_6 : RwE), rowP x.bs 2048 y_5.o = PR.ok y_6.l y_6.o ∧ y_6.o ≤ x.bs.length → (y_6.o ≤ x.bs.length ∧ x.bs.length ≤ 140737488355328) ∧ [AV.ptr 0 0 0, nI 32] = [AV.ptr 0 0 0, nI 32] ∧ (svC_c_p24 x y_6) ∧ (∀ (y_7 : RwE), rowP x.bs 32 y_6.o = PR.ok y_7.l y_7.o ∧ y_7.o ≤ x.bs.length → (y_7.o ≤ x.bs.length ∧ x.bs.length ≤ 140737488355328) ∧ [AV.ptr 0 0 0] = [AV.ptr 0 0 0] ∧ (svC_c_p25 x y_7) ∧ (∀ (y_8 : EsE), esP x.bs y_7.o = PR.ok [] y_8.o ∧ y_8.o ≤ x.bs.length → (y_8.o ≤ x.bs.length ∧ x.bs.length ≤ 140737488355328) ∧
  [AV.ptr 0 0 0] = [AV.ptr 0 0 0] ∧ (svC_c_p26 x y_8) ∧ (∀ (y_9 : UpE), upP x.bs 4294967295 y_8.o = PR.ok y_9.n y_9.o ∧ y_9.o ≤ x.bs.length ∧ 0 ≤ y_9.n ∧ y_9.n ≤ 4294967295 → (y_9.o ≤ x.bs.length ∧ x.bs.length ≤ 140737488355328) ∧ [AV.ptr 0 0 0] = [AV.ptr 0 0 0] ∧ (svC_c_p27 x y_9) ∧ (∀ (y_10 : UpE), upP x.bs 4294967295 y_9.o = PR.ok y_10.n y_10.o ∧ y_10.o ≤ x.bs.length ∧ 0 ≤ y_10.n ∧ y_10.n ≤ 4294967295 → (y_10.o ≤ x.bs.length ∧ x.bs.length ≤ 140737488355328) ∧ [AV.ptr 0 0 0] = [AV.ptr 0 0 0] ∧ (svC_c_p16 x y_10) ∧ (∀ (y_11 : UpE), upP x.bs 4294967295 y_10.o = PR.ok y_11.n y_11.o ∧ y_11.o ≤ x.bs.length ∧ 0 ≤ y_11.n ∧ y_11.n ≤ 4294967295 → (y_11.o ≤ x.bs.length ∧ x.bs.length ≤ 140737488355328) ∧ [AV.ptr 0 0 0] = [AV.ptr 0 0 0] ∧ (svC_c_p17 x y_11) ∧ (∀ (y_12 : UpE), upP x.bs 4294967295 y_11.o = PR.ok y_12.n y_12.o ∧ y_12.o ≤ x.bs.length ∧ 0 ≤ y_12.n ∧ y_12.n ≤ 4294967295 → (y_12.o ≤
  x.bs.length ∧ x.bs.length ≤ 140737488355328) ∧ [AV.ptr 0 0 0] = [AV.ptr 0 0 0] ∧ (svC_c_p18 x y_12) ∧ (∀ (y_13 : UpE), upP x.bs 4294967295 y_12.o = PR.ok y_13.n y_13.o ∧ y_13.o ≤ x.bs.length ∧ 0 ≤ y_13.n ∧ y_13.n ≤ 4294967295 → (y_13.o ≤ x.bs.length ∧ x.bs.length ≤ 140737488355328) ∧ [AV.ptr 0 0 0] = [AV.ptr 0 0 0] ∧ (svC_c_p19 x y_13) ∧ (∀ (y_14 : UpE), upP x.bs 4294967295 y_13.o = PR.ok y_14.n y_14.o ∧ y_14.o ≤ x.bs.length ∧ 0 ≤ y_14.n ∧ y_14.n ≤ 4294967295 → (y_14.o ≤ x.bs.length ∧ x.bs.length ≤ 140737488355328) ∧ [AV.ptr 0 0 0] = [AV.ptr 0 0 0] ∧ (svC_c_p20 x y_14) ∧ (∀ (y_15 : UpE), upP x.bs 4294967295 y_14.o = PR.ok y_15.n y_15.o ∧ y_15.o ≤ x.bs.length ∧ 0 ≤ y_15.n ∧ y_15.n ≤ 4294967295 → (y_15.o ≤ x.bs.length ∧ x.bs.length ≤ 140737488355328) ∧ [AV.ptr 0 0 0] = [AV.ptr 0 0 0] ∧ (svC_c_p21 x y_15) ∧ (∀ (y_16 : UpE), upP x.bs 4294967295 y_15.o = PR.ok y_16.n y_16.o ∧ y_16.o ≤
  x.bs.length ∧ 0 ≤ y_16.n ∧ y_16.n ≤ 4294967295 → (∃ (y_17 : DvE), (savP x.bs x.o = PR.ok y_17.d y_17.o ∧ y_17.o ≤ x.bs.length) ∧ [AV.agg (((((([nI y.n, AV.sl 4 0 0 y_1.l.length y_1.l.length false, nU y_2.s.r0, nU y_2.s.r1, nU y_2.s.r2, nU y_2.s.r3, nU y_2.s.r4, nU y_2.s.r5, nU y_2.s.r6, nU y_2.s.r7, nU y_2.s.pc, nU y_2.s.ps, nU y_2.s.c0, nU y_2.s.c1, nU y_2.s.c2, nU y_2.s.c3, nU y_2.s.c4, nU y_2.s.c5, nU y_2.s.c6, nU y_2.s.c7, AV.bool y_2.s.h, nI y_3.n, AV.sl 7 0 0 y_4.l.length y_4.l.length false, AV.sl 8 0 0 y_5.l.length y_5.l.length false, AV.sl 9 0 0 y_6.l.length y_6.l.length false, AV.sl 10 0 0 y_7.l.length y_7.l.length false, AV.nils, nU y_9.n, nU y_10.n, nU y_11.n, nU y_12.n, nU y_13.n, nU y_14.n, nU y_15.n, nU y_16.n].set 1 (AV.msl 4 0 0 y_1.l.length y_1.l.length)).set 22 (AV.msl 7 0 0 y_4.l.length y_4.l.length)).set 23 (AV.msl 8 0 0 y_5.l.length y_5.l.length)).set 24 (AV.msl 9 0 0
  y_6.l.length y_6.l.length)).set 25 (AV.msl 10 0 0 y_7.l.length y_7.l.length)).set 26 (AV.msl 12 0 0 0 0))] = [AV.agg [nI y_17.d.fr, AV.msl 4 0 0 y_17.d.mem.length y_17.d.mem.length, nU y_17.d.s.r0, nU y_17.d.s.r1, nU y_17.d.s.r2, nU y_17.d.s.r3, nU y_17.d.s.r4, nU y_17.d.s.r5, nU y_17.d.s.r6, nU y_17.d.s.r7, nU y_17.d.s.pc, nU y_17.d.s.ps, nU y_17.d.s.c0, nU y_17.d.s.c1, nU y_17.d.s.c2, nU y_17.d.s.c3, nU y_17.d.s.c4, nU y_17.d.s.c5, nU y_17.d.s.c6, nU y_17.d.s.c7, AV.bool y_17.d.s.h, nI y_17.d.steps, AV.msl 7 0 0 y_17.d.notes.length y_17.d.notes.length, AV.msl 8 0 0 y_17.d.out.length y_17.d.out.length, AV.msl 9 0 0 y_17.d.disk.length y_17.d.disk.length, AV.msl 10 0 0 y_17.d.queue.length y_17.d.queue.length, AV.msl 12 0 0 y_17.d.script.length y_17.d.script.length, nU (y_17.d.bl.getD 0 0), nU (y_17.d.bl.getD 1 0), nU (y_17.d.bl.getD 2 0), nU (y_17.d.bl.getD 3 0), nU (y_17.d.bl.getD 4 0),
  nU (y_17.d.bl.getD 5 0), nU (y_17.d.bl.getD 6 0), nU (y_17.d.bl.getD 7 0)]] ∧ bC [AV.sl 1 y_16.o 0 (x.bs.length - y_16.o) (x.bs.length - y_16.o) false] = bC [AV.sl 1 y_17.o 0 (x.bs.length - y_17.o) (x.bs.length - y_17.o) false] ∧ bW x.bs = bW x.bs ∧ bR y_1.l = bR y_17.d.mem ∧ (svC_c_p0 x y_17 y_4) ∧ bR y_5.l = bR y_17.d.out ∧ bR y_6.l = bR y_17.d.disk ∧ bR y_7.l = bR y_17.d.queue ∧ (svC_c_p15 x y_17) ∧ True) ∨ ∃ (y : DvE), savP x.bs x.o = PR.no y.e ∧ False) ∧ (svC_c_p8 x y_15) ∧ True) ∧ (svC_c_p7 x y_14) ∧ True) ∧ (svC_c_p6 x y_13) ∧ True) ∧ (svC_c_p5 x y_12) ∧ True) ∧ (svC_c_p4 x y_11) ∧ True) ∧ (svC_c_p3 x y_10) ∧ True) ∧ (svC_c_p9 x y_9) ∧ True) ∧ (svC_c_p10 x y_8) ∧ True) ∧ (∀ (y_8 : EsE), esP x.bs y_7.o = PR.ok y_8.l y_8.o ∧ y_8.o ≤ x.bs.length ∧ 0 < y_8.l.length ∧ y_8.l.length ≤ 64 → (y_8.o ≤ x.bs.length ∧ x.bs.length ≤ 140737488355328) ∧ [AV.ptr 0 0 0] = [AV.ptr 0 0 0] ∧ (svC_c_p26
  x y_8) ∧ (∀ (y_9 : UpE), upP x.bs 4294967295 y_8.o = PR.ok y_9.n y_9.o ∧ y_9.o ≤ x.bs.length ∧ 0 ≤ y_9.n ∧ y_9.n ≤ 4294967295 → (y_9.o ≤ x.bs.length ∧ x.bs.length ≤ 140737488355328) ∧ [AV.ptr 0 0 0] = [AV.ptr 0 0 0] ∧ (svC_c_p27 x y_9) ∧ (∀ (y_10 : UpE), upP x.bs 4294967295 y_9.o = PR.ok y_10.n y_10.o ∧ y_10.o ≤ x.bs.length ∧ 0 ≤ y_10.n ∧ y_10.n ≤ 4294967295 → (y_10.o ≤ x.bs.length ∧ x.bs.length ≤ 140737488355328) ∧ [AV.ptr 0 0 0] = [AV.ptr 0 0 0] ∧ (svC_c_p16 x y_10) ∧ (∀ (y_11 : UpE), upP x.bs 4294967295 y_10.o = PR.ok y_11.n y_11.o ∧ y_11.o ≤ x.bs.length ∧ 0 ≤ y_11.n ∧ y_11.n ≤ 4294967295 → (y_11.o ≤ x.bs.length ∧ x.bs.length ≤ 140737488355328) ∧ [AV.ptr 0 0 0] = [AV.ptr 0 0 0] ∧ (svC_c_p17 x y_11) ∧ (∀ (y_12 : UpE), upP x.bs 4294967295 y_11.o = PR.ok y_12.n y_12.o ∧ y_12.o ≤ x.bs.length ∧ 0 ≤ y_12.n ∧ y_12.n ≤ 4294967295 → (y_12.o ≤ x.bs.length ∧ x.bs.length ≤ 140737488355328) ∧
  [AV.ptr 0 0 0] = [AV.ptr 0 0 0] ∧ (svC_c_p18 x y_12) ∧ (∀ (y_13 : UpE), upP x.bs 4294967295 y_12.o = PR.ok y_13.n y_13.o ∧ y_13.o ≤ x.bs.length ∧ 0 ≤ y_13.n ∧ y_13.n ≤ 4294967295 → (y_13.o ≤ x.bs.length ∧ x.bs.length ≤ 140737488355328) ∧ [AV.ptr 0 0 0] = [AV.ptr 0 0 0] ∧ (svC_c_p19 x y_13) ∧ (∀ (y_14 : UpE), upP x.bs 4294967295 y_13.o = PR.ok y_14.n y_14.o ∧ y_14.o ≤ x.bs.length ∧ 0 ≤ y_14.n ∧ y_14.n ≤ 4294967295 → (y_14.o ≤ x.bs.length ∧ x.bs.length ≤ 140737488355328) ∧ [AV.ptr 0 0 0] = [AV.ptr 0 0 0] ∧ (svC_c_p20 x y_14) ∧ (∀ (y_15 : UpE), upP x.bs 4294967295 y_14.o = PR.ok y_15.n y_15.o ∧ y_15.o ≤ x.bs.length ∧ 0 ≤ y_15.n ∧ y_15.n ≤ 4294967295 → (y_15.o ≤ x.bs.length ∧ x.bs.length ≤ 140737488355328) ∧ [AV.ptr 0 0 0] = [AV.ptr 0 0 0] ∧ (svC_c_p21 x y_15) ∧ (∀ (y_16 : UpE), upP x.bs 4294967295 y_15.o = PR.ok y_16.n y_16.o ∧ y_16.o ≤ x.bs.length ∧ 0 ≤ y_16.n ∧ y_16.n ≤ 4294967295 → (∃
  (y_17 : DvE), (savP x.bs x.o = PR.ok y_17.d y_17.o ∧ y_17.o ≤ x.bs.length) ∧ [AV.agg (((((([nI y.n, AV.sl 4 0 0 y_1.l.length y_1.l.length false, nU y_2.s.r0, nU y_2.s.r1, nU y_2.s.r2, nU y_2.s.r3, nU y_2.s.r4, nU y_2.s.r5, nU y_2.s.r6, nU y_2.s.r7, nU y_2.s.pc, nU y_2.s.ps, nU y_2.s.c0, nU y_2.s.c1, nU y_2.s.c2, nU y_2.s.c3, nU y_2.s.c4, nU y_2.s.c5, nU y_2.s.c6, nU y_2.s.c7, AV.bool y_2.s.h, nI y_3.n, AV.sl 7 0 0 y_4.l.length y_4.l.length false, AV.sl 8 0 0 y_5.l.length y_5.l.length false, AV.sl 9 0 0 y_6.l.length y_6.l.length false, AV.sl 10 0 0 y_7.l.length y_7.l.length false, AV.sl 11 0 0 y_8.l.length y_8.l.length false, nU y_9.n, nU y_10.n, nU y_11.n, nU y_12.n, nU y_13.n, nU y_14.n, nU y_15.n, nU y_16.n].set 1 (AV.msl 4 0 0 y_1.l.length y_1.l.length)).set 22 (AV.msl 7 0 0 y_4.l.length y_4.l.length)).set 23 (AV.msl 8 0 0 y_5.l.length y_5.l.length)).set 24 (AV.msl 9 0 0 y_6.l.length
  y_6.l.length)).set 25 (AV.msl 10 0 0 y_7.l.length y_7.l.length)).set 26 (AV.msl 11 0 0 y_8.l.length y_8.l.length))] = [AV.agg [nI y_17.d.fr, AV.msl 4 0 0 y_17.d.mem.length y_17.d.mem.length, nU y_17.d.s.r0, nU y_17.d.s.r1, nU y_17.d.s.r2, nU y_17.d.s.r3, nU y_17.d.s.r4, nU y_17.d.s.r5, nU y_17.d.s.r6, nU y_17.d.s.r7, nU y_17.d.s.pc, nU y_17.d.s.ps, nU y_17.d.s.c0, nU y_17.d.s.c1, nU y_17.d.s.c2, nU y_17.d.s.c3, nU y_17.d.s.c4, nU y_17.d.s.c5, nU y_17.d.s.c6, nU y_17.d.s.c7, AV.bool y_17.d.s.h, nI y_17.d.steps, AV.msl 7 0 0 y_17.d.notes.length y_17.d.notes.length, AV.msl 8 0 0 y_17.d.out.length y_17.d.out.length, AV.msl 9 0 0 y_17.d.disk.length y_17.d.disk.length, AV.msl 10 0 0 y_17.d.queue.length y_17.d.queue.length, AV.msl 11 0 0 y_17.d.script.length y_17.d.script.length, nU (y_17.d.bl.getD 0 0), nU (y_17.d.bl.getD 1 0), nU (y_17.d.bl.getD 2 0), nU (y_17.d.bl.getD 3 0), nU
  (y_17.d.bl.getD 4 0), nU (y_17.d.bl.getD 5 0), nU (y_17.d.bl.getD 6 0), nU (y_17.d.bl.getD 7 0)]] ∧ bC [AV.sl 1 y_16.o 0 (x.bs.length - y_16.o) (x.bs.length - y_16.o) false] = bC [AV.sl 1 y_17.o 0 (x.bs.length - y_17.o) (x.bs.length - y_17.o) false] ∧ bW x.bs = bW x.bs ∧ bR y_1.l = bR y_17.d.mem ∧ (svC_c_p0 x y_17 y_4) ∧ bR y_5.l = bR y_17.d.out ∧ bR y_6.l = bR y_17.d.disk ∧ bR y_7.l = bR y_17.d.queue ∧ (svC_c_p1 x y_17 y_8) ∧ True) ∨ ∃ (y : DvE), savP x.bs x.o = PR.no y.e ∧ False) ∧ (svC_c_p8 x y_15) ∧ True) ∧ (svC_c_p7 x y_14) ∧ True) ∧ (svC_c_p6 x y_13) ∧ True) ∧ (svC_c_p5 x y_12) ∧ True) ∧ (svC_c_p4 x y_11) ∧ True) ∧ (svC_c_p3 x y_10) ∧ True) ∧ (svC_c_p9 x y_9) ∧ True) ∧ (svC_c_p10 x y_8) ∧ True) ∧ (svC_c_p14 x y_7) ∧ True) ∧ (svC_c_p13 x y_6) ∧ True) ∧ (svC_c_p12 x y_5) ∧ True) ∧ (svC_c_p11 x y_4) ∧ True) ∧ (∀ (y : NtE), ntP x.bs y_3.o = PR.no y.e → (svC_c_p28 x) ∨ ∃ (y_4 : DvE),
  savP x.bs x.o = PR.no y_4.e ∧ [AV.ifc T_file_wrong (AV.agg [nI y.e])] = [AV.ifc T_file_wrong (AV.agg [nI y_4.e])] ∧ True) ∧ True) ∧ (∀ (y : UpE), upP x.bs 1099511627776 y_2.o = PR.no y.e → (svC_c_p28 x) ∨ ∃ (y_3 : DvE), savP x.bs x.o = PR.no y_3.e ∧ [AV.ifc T_file_wrong (AV.agg [nI y.e])] = [AV.ifc T_file_wrong (AV.agg [nI y_3.e])] ∧ True) ∧ True) ∧ (∀ (y : StE), stP x.bs y_1.o = PR.no y.e → (svC_c_p28 x) ∨ ∃ (y_2 : DvE), savP x.bs x.o = PR.no y_2.e ∧ [AV.ifc T_file_wrong (AV.agg [nI y.e])] = [AV.ifc T_file_wrong (AV.agg [nI y_2.e])] ∧ True) ∧ True) ∧ (∀ (y_1 : RwE), rowP x.bs 4096 y.o = PR.no y_1.e → (svC_c_p28 x) ∨ ∃ (y : DvE), savP x.bs x.o = PR.no y.e ∧ [AV.ifc T_file_wrong (AV.agg [nI y_1.e])] = [AV.ifc T_file_wrong (AV.agg [nI y.e])] ∧ True) ∧ True) ∧ (∀ (y : UpE), upP x.bs 1099511627776 x.o = PR.no y.e → (svC_c_p28 x) ∨ ∃ (y_1 : DvE), savP x.bs x.o = PR.no y_1.e ∧ [AV.ifc
  T_file_wrong (AV.agg [nI y.e])] = [AV.ifc T_file_wrong (AV.agg [nI y_1.e])] ∧ True) ∧ True
theorem svC_c_e (x : At) : some (svC_c_V x) = (rdSavedC.condL sp Go.Proofs.Tryz.prog 1 svSpec (drP sp Go.Proofs.Tryz.prog) noLoops (orK ((numS F_file_reader_int 1099511627776 .i64).orc sp) (orK ((numS F_file_reader_number 4294967295 .u32).orc sp) (orK (rdRowS.orc sp) (orK (rdStC.orc sp) (orK (rdNotesC.orc sp) (rdEvsC.orc sp)))))) 60 2 x) := by kernel_rfl
def Dv0 : Dv := ⟨0, [], default, 0, [], [], [], [], [], []⟩
set_option maxRecDepth 100000 in
set_option maxHeartbeats 8000000 in
theorem rdSaved_ok : rdSavedC.OK Go.Proofs.Tryz.prog := by
  refine Con.byL hmix (noLoops_ok _) (orK_ok (Con.orc_ok intS_ok) (orK_ok (Con.orc_ok numberS_ok) (orK_ok (Con.orc_ok rowS_ok) (orK_ok (Con.orc_ok rdSt_ok) (orK_ok (Con.orc_ok rdNotesC_ok) (Con.orc_ok rdEvsC_ok)))))) svC_c_V svC_c_e (fun x hx => ?_)
  obtain ⟨h1, h2⟩ := hx
  unfold svC_c_V svC_c_p14 svC_c_p13 svC_c_p12 svC_c_p11 svC_c_p10 svC_c_p9 svC_c_p8 svC_c_p7 svC_c_p6 svC_c_p5 svC_c_p4 svC_c_p3 svC_c_p28 svC_c_p27 svC_c_p26 svC_c_p25 svC_c_p24 svC_c_p23 svC_c_p22 svC_c_p21 svC_c_p20 svC_c_p19 svC_c_p18 svC_c_p17 svC_c_p16 svC_c_p15 svC_c_p2 svC_c_p1 svC_c_p0
  exact ⟨⟨h1, h2⟩, rfl, ⟨rfl, rfl, trivial⟩, (fun y0 g0 => ⟨⟨g0.2.1, h2⟩, rfl, ⟨rfl, rfl, trivial⟩, (fun y1 g1 => ⟨⟨g1.2, h2⟩, rfl, ⟨rfl, rfl, trivial⟩, (fun y2 g2 => ⟨⟨g2.2, h2⟩, rfl, ⟨rfl, rfl, trivial⟩, (fun y3 g3 => ⟨⟨g3.2.1, h2⟩, rfl, ⟨rfl, rfl, trivial⟩, (fun y4 g4 => ⟨⟨g4.2, h2⟩, rfl, ⟨rfl, rfl, trivial⟩, (fun y5 g5 => ⟨⟨g5.2, h2⟩, rfl, ⟨rfl, rfl, trivial⟩, (fun y6 g6 => ⟨⟨g6.2, h2⟩, rfl, ⟨rfl, rfl, trivial⟩, (fun y7 g7 => ⟨⟨g7.2, h2⟩, rfl, ⟨rfl, rfl, trivial⟩, (fun y8 g8 => ⟨⟨g8.2, h2⟩, rfl, ⟨rfl, rfl, trivial⟩, (fun y9 g9 => ⟨⟨g9.2.1, h2⟩, rfl, ⟨rfl, rfl, trivial⟩, (fun y10 g10 => ⟨⟨g10.2.1, h2⟩, rfl, ⟨rfl, rfl, trivial⟩, (fun y11 g11 => ⟨⟨g11.2.1, h2⟩, rfl, ⟨rfl, rfl, trivial⟩, (fun y12 g12 => ⟨⟨g12.2.1, h2⟩, rfl, ⟨rfl, rfl, trivial⟩, (fun y13 g13 => ⟨⟨g13.2.1, h2⟩, rfl, ⟨rfl, rfl, trivial⟩, (fun y14 g14 => ⟨⟨g14.2.1, h2⟩, rfl, ⟨rfl, rfl, trivial⟩, (fun y15 g15 => ⟨⟨g15.2.1, h2⟩, rfl, ⟨rfl, rfl, trivial⟩, (fun y16 g16 => .inl ⟨⟨⟨y0.n, y1.l, y2.s, y3.n, [], y5.l, y6.l, y7.l, [], [y9.n, y10.n, y11.n, y12.n, y13.n, y14.n, y15.n, y16.n]⟩, y16.o, 0⟩, ⟨by simp only [savP, numsP, PR.bind, g0.1, g1.1, g2.1, g3.1, g4.1, g5.1, g6.1, g7.1, g8.1, g9.1, g10.1, g11.1, g12.1, g13.1, g14.1, g15.1, g16.1], g16.2.1⟩, rfl, rfl, rfl, rfl, ⟨rfl, rfl, rfl, fun i hi => absurd hi (Nat.not_lt_zero i)⟩, rfl, rfl, rfl, ⟨rfl, rfl, rfl, fun i hi => absurd hi (Nat.not_lt_zero i)⟩, trivial⟩), (fun y hy => .inr ⟨⟨Dv0, 0, y.e⟩, by simp only [savP, numsP, PR.bind, g0.1, g1.1, g2.1, g3.1, g4.1, g5.1, g6.1, g7.1, g8.1, g9.1, g10.1, g11.1, g12.1, g13.1, g14.1, g15.1, hy], rfl, trivial⟩), trivial⟩), (fun y hy => .inr ⟨⟨Dv0, 0, y.e⟩, by simp only [savP, numsP, PR.bind, g0.1, g1.1, g2.1, g3.1, g4.1, g5.1, g6.1, g7.1, g8.1, g9.1, g10.1, g11.1, g12.1, g13.1, g14.1, hy], rfl, trivial⟩), trivial⟩), (fun y hy => .inr ⟨⟨Dv0, 0, y.e⟩, by simp only [savP, numsP, PR.bind, g0.1, g1.1, g2.1, g3.1, g4.1, g5.1, g6.1, g7.1, g8.1, g9.1, g10.1, g11.1, g12.1, g13.1, hy], rfl, trivial⟩), trivial⟩), (fun y hy => .inr ⟨⟨Dv0, 0, y.e⟩, by simp only [savP, numsP, PR.bind, g0.1, g1.1, g2.1, g3.1, g4.1, g5.1, g6.1, g7.1, g8.1, g9.1, g10.1, g11.1, g12.1, hy], rfl, trivial⟩), trivial⟩), (fun y hy => .inr ⟨⟨Dv0, 0, y.e⟩, by simp only [savP, numsP, PR.bind, g0.1, g1.1, g2.1, g3.1, g4.1, g5.1, g6.1, g7.1, g8.1, g9.1, g10.1, g11.1, hy], rfl, trivial⟩), trivial⟩), (fun y hy => .inr ⟨⟨Dv0, 0, y.e⟩, by simp only [savP, numsP, PR.bind, g0.1, g1.1, g2.1, g3.1, g4.1, g5.1, g6.1, g7.1, g8.1, g9.1, g10.1, hy], rfl, trivial⟩), trivial⟩), (fun y hy => .inr ⟨⟨Dv0, 0, y.e⟩, by simp only [savP, numsP, PR.bind, g0.1, g1.1, g2.1, g3.1, g4.1, g5.1, g6.1, g7.1, g8.1, g9.1, hy], rfl, trivial⟩), trivial⟩), (fun y hy => .inr ⟨⟨Dv0, 0, y.e⟩, by simp only [savP, numsP, PR.bind, g0.1, g1.1, g2.1, g3.1, g4.1, g5.1, g6.1, g7.1, g8.1, hy], rfl, trivial⟩), trivial⟩),
(fun y8 g8 => ⟨⟨g8.2.1, h2⟩, rfl, ⟨rfl, rfl, trivial⟩, (fun y9 g9 => ⟨⟨g9.2.1, h2⟩, rfl, ⟨rfl, rfl, trivial⟩, (fun y10 g10 => ⟨⟨g10.2.1, h2⟩, rfl, ⟨rfl, rfl, trivial⟩, (fun y11 g11 => ⟨⟨g11.2.1, h2⟩, rfl, ⟨rfl, rfl, trivial⟩, (fun y12 g12 => ⟨⟨g12.2.1, h2⟩, rfl, ⟨rfl, rfl, trivial⟩, (fun y13 g13 => ⟨⟨g13.2.1, h2⟩, rfl, ⟨rfl, rfl, trivial⟩, (fun y14 g14 => ⟨⟨g14.2.1, h2⟩, rfl, ⟨rfl, rfl, trivial⟩, (fun y15 g15 => ⟨⟨g15.2.1, h2⟩, rfl, ⟨rfl, rfl, trivial⟩, (fun y16 g16 => .inl ⟨⟨⟨y0.n, y1.l, y2.s, y3.n, [], y5.l, y6.l, y7.l, y8.l, [y9.n, y10.n, y11.n, y12.n, y13.n, y14.n, y15.n, y16.n]⟩, y16.o, 0⟩, ⟨by simp only [savP, numsP, PR.bind, g0.1, g1.1, g2.1, g3.1, g4.1, g5.1, g6.1, g7.1, g8.1, g9.1, g10.1, g11.1, g12.1, g13.1, g14.1, g15.1, g16.1], g16.2.1⟩, rfl, rfl, rfl, rfl, ⟨rfl, rfl, rfl, fun i hi => absurd hi (Nat.not_lt_zero i)⟩, rfl, rfl, rfl, ⟨rfl, rfl, rfl, fun _ _ => rfl⟩, trivial⟩), (fun y hy => .inr ⟨⟨Dv0, 0, y.e⟩, by simp only [savP, numsP, PR.bind, g0.1, g1.1, g2.1, g3.1, g4.1, g5.1, g6.1, g7.1, g8.1, g9.1, g10.1, g11.1, g12.1, g13.1, g14.1, g15.1, hy], rfl, trivial⟩), trivial⟩), (fun y hy => .inr ⟨⟨Dv0, 0, y.e⟩, by simp only [savP, numsP, PR.bind, g0.1, g1.1, g2.1, g3.1, g4.1, g5.1, g6.1, g7.1, g8.1, g9.1, g10.1, g11.1, g12.1, g13.1, g14.1, hy], rfl, trivial⟩), trivial⟩), (fun y hy => .inr ⟨⟨Dv0, 0, y.e⟩, by simp only [savP, numsP, PR.bind, g0.1, g1.1, g2.1, g3.1, g4.1, g5.1, g6.1, g7.1, g8.1, g9.1, g10.1, g11.1, g12.1, g13.1, hy], rfl, trivial⟩), trivial⟩), (fun y hy => .inr ⟨⟨Dv0, 0, y.e⟩, by simp only [savP, numsP, PR.bind, g0.1, g1.1, g2.1, g3.1, g4.1, g5.1, g6.1, g7.1, g8.1, g9.1, g10.1, g11.1, g12.1, hy], rfl, trivial⟩), trivial⟩), (fun y hy => .inr ⟨⟨Dv0, 0, y.e⟩, by simp only [savP, numsP, PR.bind, g0.1, g1.1, g2.1, g3.1, g4.1, g5.1, g6.1, g7.1, g8.1, g9.1, g10.1, g11.1, hy], rfl, trivial⟩), trivial⟩), (fun y hy => .inr ⟨⟨Dv0, 0, y.e⟩, by simp only [savP, numsP, PR.bind, g0.1, g1.1, g2.1, g3.1, g4.1, g5.1, g6.1, g7.1, g8.1, g9.1, g10.1, hy], rfl, trivial⟩), trivial⟩), (fun y hy => .inr ⟨⟨Dv0, 0, y.e⟩, by simp only [savP, numsP, PR.bind, g0.1, g1.1, g2.1, g3.1, g4.1, g5.1, g6.1, g7.1, g8.1, g9.1, hy], rfl, trivial⟩), trivial⟩), (fun y hy => .inr ⟨⟨Dv0, 0, y.e⟩, by simp only [savP, numsP, PR.bind, g0.1, g1.1, g2.1, g3.1, g4.1, g5.1, g6.1, g7.1, g8.1, hy], rfl, trivial⟩), trivial⟩), (fun y hy => .inr ⟨⟨Dv0, 0, y.e⟩, by simp only [savP, numsP, PR.bind, g0.1, g1.1, g2.1, g3.1, g4.1, g5.1, g6.1, g7.1, hy], rfl, trivial⟩), trivial⟩), (fun y hy => .inr ⟨⟨Dv0, 0, y.e⟩, by simp only [savP, numsP, PR.bind, g0.1, g1.1, g2.1, g3.1, g4.1, g5.1, g6.1, hy], rfl, trivial⟩), trivial⟩), (fun y hy => .inr ⟨⟨Dv0, 0, y.e⟩, by simp only [savP, numsP, PR.bind, g0.1, g1.1, g2.1, g3.1, g4.1, g5.1, hy], rfl, trivial⟩), trivial⟩), (fun y hy => .inr ⟨⟨Dv0, 0, y.e⟩, by simp only [savP, numsP, PR.bind, g0.1, g1.1, g2.1, g3.1, g4.1, hy], rfl, trivial⟩), trivial⟩),
(fun y4 g4 => ⟨⟨g4.2.1, h2⟩, rfl, ⟨rfl, rfl, trivial⟩, (fun y5 g5 => ⟨⟨g5.2, h2⟩, rfl, ⟨rfl, rfl, trivial⟩, (fun y6 g6 => ⟨⟨g6.2, h2⟩, rfl, ⟨rfl, rfl, trivial⟩, (fun y7 g7 => ⟨⟨g7.2, h2⟩, rfl, ⟨rfl, rfl, trivial⟩, (fun y8 g8 => ⟨⟨g8.2, h2⟩, rfl, ⟨rfl, rfl, trivial⟩, (fun y9 g9 => ⟨⟨g9.2.1, h2⟩, rfl, ⟨rfl, rfl, trivial⟩, (fun y10 g10 => ⟨⟨g10.2.1, h2⟩, rfl, ⟨rfl, rfl, trivial⟩, (fun y11 g11 => ⟨⟨g11.2.1, h2⟩, rfl, ⟨rfl, rfl, trivial⟩, (fun y12 g12 => ⟨⟨g12.2.1, h2⟩, rfl, ⟨rfl, rfl, trivial⟩, (fun y13 g13 => ⟨⟨g13.2.1, h2⟩, rfl, ⟨rfl, rfl, trivial⟩, (fun y14 g14 => ⟨⟨g14.2.1, h2⟩, rfl, ⟨rfl, rfl, trivial⟩, (fun y15 g15 => ⟨⟨g15.2.1, h2⟩, rfl, ⟨rfl, rfl, trivial⟩, (fun y16 g16 => .inl ⟨⟨⟨y0.n, y1.l, y2.s, y3.n, y4.l, y5.l, y6.l, y7.l, [], [y9.n, y10.n, y11.n, y12.n, y13.n, y14.n, y15.n, y16.n]⟩, y16.o, 0⟩, ⟨by simp only [savP, numsP, PR.bind, g0.1, g1.1, g2.1, g3.1, g4.1, g5.1, g6.1, g7.1, g8.1, g9.1, g10.1, g11.1, g12.1, g13.1, g14.1, g15.1, g16.1], g16.2.1⟩, rfl, rfl, rfl, rfl, ⟨rfl, rfl, rfl, fun _ _ => rfl⟩, rfl, rfl, rfl, ⟨rfl, rfl, rfl, fun i hi => absurd hi (Nat.not_lt_zero i)⟩, trivial⟩), (fun y hy => .inr ⟨⟨Dv0, 0, y.e⟩, by simp only [savP, numsP, PR.bind, g0.1, g1.1, g2.1, g3.1, g4.1, g5.1, g6.1, g7.1, g8.1, g9.1, g10.1, g11.1, g12.1, g13.1, g14.1, g15.1, hy], rfl, trivial⟩), trivial⟩), (fun y hy => .inr ⟨⟨Dv0, 0, y.e⟩, by simp only [savP, numsP, PR.bind, g0.1, g1.1, g2.1, g3.1, g4.1, g5.1, g6.1, g7.1, g8.1, g9.1, g10.1, g11.1, g12.1, g13.1, g14.1, hy], rfl, trivial⟩), trivial⟩), (fun y hy => .inr ⟨⟨Dv0, 0, y.e⟩, by simp only [savP, numsP, PR.bind, g0.1, g1.1, g2.1, g3.1, g4.1, g5.1, g6.1, g7.1, g8.1, g9.1, g10.1, g11.1, g12.1, g13.1, hy], rfl, trivial⟩), trivial⟩), (fun y hy => .inr ⟨⟨Dv0, 0, y.e⟩, by simp only [savP, numsP, PR.bind, g0.1, g1.1, g2.1, g3.1, g4.1, g5.1, g6.1, g7.1, g8.1, g9.1, g10.1, g11.1, g12.1, hy], rfl, trivial⟩), trivial⟩), (fun y hy => .inr ⟨⟨Dv0, 0, y.e⟩, by simp only [savP, numsP, PR.bind, g0.1, g1.1, g2.1, g3.1, g4.1, g5.1, g6.1, g7.1, g8.1, g9.1, g10.1, g11.1, hy], rfl, trivial⟩), trivial⟩), (fun y hy => .inr ⟨⟨Dv0, 0, y.e⟩, by simp only [savP, numsP, PR.bind, g0.1, g1.1, g2.1, g3.1, g4.1, g5.1, g6.1, g7.1, g8.1, g9.1, g10.1, hy], rfl, trivial⟩), trivial⟩), (fun y hy => .inr ⟨⟨Dv0, 0, y.e⟩, by simp only [savP, numsP, PR.bind, g0.1, g1.1, g2.1, g3.1, g4.1, g5.1, g6.1, g7.1, g8.1, g9.1, hy], rfl, trivial⟩), trivial⟩), (fun y hy => .inr ⟨⟨Dv0, 0, y.e⟩, by simp only [savP, numsP, PR.bind, g0.1, g1.1, g2.1, g3.1, g4.1, g5.1, g6.1, g7.1, g8.1, hy], rfl, trivial⟩), trivial⟩),
(fun y8 g8 => ⟨⟨g8.2.1, h2⟩, rfl, ⟨rfl, rfl, trivial⟩, (fun y9 g9 => ⟨⟨g9.2.1, h2⟩, rfl, ⟨rfl, rfl, trivial⟩, (fun y10 g10 => ⟨⟨g10.2.1, h2⟩, rfl, ⟨rfl, rfl, trivial⟩, (fun y11 g11 => ⟨⟨g11.2.1, h2⟩, rfl, ⟨rfl, rfl, trivial⟩, (fun y12 g12 => ⟨⟨g12.2.1, h2⟩, rfl, ⟨rfl, rfl, trivial⟩, (fun y13 g13 => ⟨⟨g13.2.1, h2⟩, rfl, ⟨rfl, rfl, trivial⟩, (fun y14 g14 => ⟨⟨g14.2.1, h2⟩, rfl, ⟨rfl, rfl, trivial⟩, (fun y15 g15 => ⟨⟨g15.2.1, h2⟩, rfl, ⟨rfl, rfl, trivial⟩, (fun y16 g16 => .inl ⟨⟨⟨y0.n, y1.l, y2.s, y3.n, y4.l, y5.l, y6.l, y7.l, y8.l, [y9.n, y10.n, y11.n, y12.n, y13.n, y14.n, y15.n, y16.n]⟩, y16.o, 0⟩, ⟨by simp only [savP, numsP, PR.bind, g0.1, g1.1, g2.1, g3.1, g4.1, g5.1, g6.1, g7.1, g8.1, g9.1, g10.1, g11.1, g12.1, g13.1, g14.1, g15.1, g16.1], g16.2.1⟩, rfl, rfl, rfl, rfl, ⟨rfl, rfl, rfl, fun _ _ => rfl⟩, rfl, rfl, rfl, ⟨rfl, rfl, rfl, fun _ _ => rfl⟩, trivial⟩), (fun y hy => .inr ⟨⟨Dv0, 0, y.e⟩, by simp only [savP, numsP, PR.bind, g0.1, g1.1, g2.1, g3.1, g4.1, g5.1, g6.1, g7.1, g8.1, g9.1, g10.1, g11.1, g12.1, g13.1, g14.1, g15.1, hy], rfl, trivial⟩), trivial⟩), (fun y hy => .inr ⟨⟨Dv0, 0, y.e⟩, by simp only [savP, numsP, PR.bind, g0.1, g1.1, g2.1, g3.1, g4.1, g5.1, g6.1, g7.1, g8.1, g9.1, g10.1, g11.1, g12.1, g13.1, g14.1, hy], rfl, trivial⟩), trivial⟩), (fun y hy => .inr ⟨⟨Dv0, 0, y.e⟩, by simp only [savP, numsP, PR.bind, g0.1, g1.1, g2.1, g3.1, g4.1, g5.1, g6.1, g7.1, g8.1, g9.1, g10.1, g11.1, g12.1, g13.1, hy], rfl, trivial⟩), trivial⟩), (fun y hy => .inr ⟨⟨Dv0, 0, y.e⟩, by simp only [savP, numsP, PR.bind, g0.1, g1.1, g2.1, g3.1, g4.1, g5.1, g6.1, g7.1, g8.1, g9.1, g10.1, g11.1, g12.1, hy], rfl, trivial⟩), trivial⟩), (fun y hy => .inr ⟨⟨Dv0, 0, y.e⟩, by simp only [savP, numsP, PR.bind, g0.1, g1.1, g2.1, g3.1, g4.1, g5.1, g6.1, g7.1, g8.1, g9.1, g10.1, g11.1, hy], rfl, trivial⟩), trivial⟩), (fun y hy => .inr ⟨⟨Dv0, 0, y.e⟩, by simp only [savP, numsP, PR.bind, g0.1, g1.1, g2.1, g3.1, g4.1, g5.1, g6.1, g7.1, g8.1, g9.1, g10.1, hy], rfl, trivial⟩), trivial⟩), (fun y hy => .inr ⟨⟨Dv0, 0, y.e⟩, by simp only [savP, numsP, PR.bind, g0.1, g1.1, g2.1, g3.1, g4.1, g5.1, g6.1, g7.1, g8.1, g9.1, hy], rfl, trivial⟩), trivial⟩), (fun y hy => .inr ⟨⟨Dv0, 0, y.e⟩, by simp only [savP, numsP, PR.bind, g0.1, g1.1, g2.1, g3.1, g4.1, g5.1, g6.1, g7.1, g8.1, hy], rfl, trivial⟩), trivial⟩), (fun y hy => .inr ⟨⟨Dv0, 0, y.e⟩, by simp only [savP, numsP, PR.bind, g0.1, g1.1, g2.1, g3.1, g4.1, g5.1, g6.1, g7.1, hy], rfl, trivial⟩), trivial⟩), (fun y hy => .inr ⟨⟨Dv0, 0, y.e⟩, by simp only [savP, numsP, PR.bind, g0.1, g1.1, g2.1, g3.1, g4.1, g5.1, g6.1, hy], rfl, trivial⟩), trivial⟩), (fun y hy => .inr ⟨⟨Dv0, 0, y.e⟩, by simp only [savP, numsP, PR.bind, g0.1, g1.1, g2.1, g3.1, g4.1, g5.1, hy], rfl, trivial⟩), trivial⟩), (fun y hy => .inr ⟨⟨Dv0, 0, y.e⟩, by simp only [savP, numsP, PR.bind, g0.1, g1.1, g2.1, g3.1, g4.1, hy], rfl, trivial⟩), trivial⟩), (fun y hy => .inr ⟨⟨Dv0, 0, y.e⟩, by simp only [savP, numsP, PR.bind, g0.1, g1.1, g2.1, g3.1, hy], rfl, trivial⟩), trivial⟩), (fun y hy => .inr ⟨⟨Dv0, 0, y.e⟩, by simp only [savP, numsP, PR.bind, g0.1, g1.1, g2.1, hy], rfl, trivial⟩), trivial⟩), (fun y hy => .inr ⟨⟨Dv0, 0, y.e⟩, by simp only [savP, numsP, PR.bind, g0.1, g1.1, hy], rfl, trivial⟩), trivial⟩), (fun y hy => .inr ⟨⟨Dv0, 0, y.e⟩, by simp only [savP, numsP, PR.bind, g0.1, hy], rfl, trivial⟩), trivial⟩), (fun y hy => .inr ⟨⟨Dv0, 0, y.e⟩, by simp only [savP, numsP, PR.bind, hy], rfl, trivial⟩), trivial⟩
end Go.Proofs.YtmbcpmbpkdeioaaGreatDoor.W
/- A guest decoded: what is reckoned. No condition. -/
namespace Go.Proofs.YtmbcpmbpkdeioaaGreatDoor.W
open Go Go.RowKit Go.Eng
set_option maxRecDepth 100000
set_option linter.unusedVariables false
set_option linter.unusedSimpArgs false
inductive DecR where
  | ok (d : Dv)
  | no (e : Int)
def magicB (l : List Int) : Bool := l.getD 0 0 == 109 && (l.getD 1 0 == 117 && (l.getD 2 0 == 109 && (l.getD 3 0 == 1 && true)))
def decGo (n : Nat) : PR Dv → DecR
  | .no e => .no e
  | .ok d o => if o < n then .no 291 else if keepN d.sv = 0 then .ok d else .no (keepN d.sv)
def decIn (l : List Int) : DecR :=
  if l.length < 4 then .no 291 else if magicB l = false then .no 291 else decGo l.length (savP l 4)
def decP (bs : List Int) : DecR :=
  match openN bs with
  | .no e => .no e
  | .ok l => decIn l
def up1 : Nat → Nat := fun b => b + 1
def zeroSv : List AV := [.int .i64 0, .nils, .int .u32 0, .int .u32 0, .int .u32 0, .int .u32 0, .int .u32 0, .int .u32 0, .int .u32 0, .int .u32 0, .int .u32 0, .int .u32 0, .int .u32 0, .int .u32 0, .int .u32 0, .int .u32 0, .int .u32 0, .int .u32 0, .int .u32 0, .int .u32 0, .bool false,
  .int .i64 0, .nils, .nils, .nils, .nils, .nils, .int .u32 0, .int .u32 0, .int .u32 0, .int .u32 0, .int .u32 0, .int .u32 0, .int .u32 0, .int .u32 0]
structure DecE where
  d : Dv
  e : Int
def decC : Con OpenX DecE where
  f := F_file_Decode
  fit vs H := match vs with
    | [.msl b _ _ _ c] => match H.get b with
      | some k => match k.c with
        | .ints _ bs => some ([b], ⟨bs, c⟩)
        | _ => none
      | none => none
    | _ => none
  n0 := 1
  pre x := x.bs.length ≤ 140737488355328 ∧ x.bs.length ≤ x.c
  args x := [.msl 0 0 0 x.bs.length x.c]
  L0 x := [(0, ⟨false, 1, .ints .u8 x.bs⟩)]
  outs x := [(fun y => decP x.bs = .ok y.d, fun y => (.ret (.tup [.agg (AV.rens up1 y.d.sv.av), .int .i64 0]), 7, [(0, ⟨false, 1, .ints .u8 x.bs⟩), (1, y.d.sv.mem.blk), (2, y.d.sv.notes.blk), (3, y.d.sv.out.blk), (4, y.d.sv.disk.blk), (5, y.d.sv.queue.blk), (6, y.d.sv.script.blk)])),
    (fun y => decP x.bs = .no y.e, fun y => (.ret (.tup [.agg zeroSv, .int .i64 y.e]), 7, [(0, ⟨false, 1, .ints .u8 x.bs⟩)]))]
/-! ### what was read is small -/
theorem rowP_len {bs : List Int} {most : Int} {o : Nat} {l : List Int} {o' : Nat} (h : rowP bs most o = .ok l o') (h1 : 0 ≤ most) (h2 : most ≤ 1000000) : (l.length : Int) ≤ most := by
  unfold rowP at h
  cases hr : rowN (bs.drop o) most with
  | no e => rw [hr] at h; cases h
  | ok u n =>
    rw [hr] at h
    cases h
    unfold rowN at hr
    have hw : IntKind.wrap .u64 (if (0 : Int) > most then 0 else most) = most := by rw [if_neg (by omega), IntKind.wrap_u64]; omega
    rw [hw] at hr
    rcases getN_range (bs.drop o) with ⟨n', u', e, h3, h4, h5⟩ | e | e
    · rw [e] at hr
      simp only [ne_eq, not_true_eq_false, if_false] at hr
      split at hr
      · cases hr
      · split at hr
        · cases hr
        · cases hr
          simp only [List.length_take]
          omega
    · rw [e] at hr; simp at hr
    · rw [e] at hr; simp at hr
theorem savP_fine {bs : List Int} {o : Nat} {d : Dv} {o' : Nat} (h : savP bs o = .ok d o') (ho : o ≤ bs.length) : d.sv.fine ∧ d.notes.length ≤ 4096 ∧ d.script.length ≤ 64 := by
  obtain ⟨_, _, h1, h⟩ := PR.bind_ok h
  obtain ⟨_, _, h2, h⟩ := PR.bind_ok h
  obtain ⟨_, _, h3, h⟩ := PR.bind_ok h
  obtain ⟨_, _, h4, h⟩ := PR.bind_ok h
  obtain ⟨_, _, h5, h⟩ := PR.bind_ok h
  obtain ⟨_, _, h6, h⟩ := PR.bind_ok h
  obtain ⟨_, _, h7, h⟩ := PR.bind_ok h
  obtain ⟨_, _, h8, h⟩ := PR.bind_ok h
  obtain ⟨_, _, h9, h⟩ := PR.bind_ok h
  obtain ⟨_, _, h10, h⟩ := PR.bind_ok h
  cases h
  have q2 := rowP_len h2 (by omega) (by omega)
  have q6 := rowP_len h6 (by omega) (by omega)
  have q7 := rowP_len h7 (by omega) (by omega)
  have q8 := rowP_len h8 (by omega) (by omega)
  have cnt : ∀ {most : Int} {o n o'}, cntP bs most o = .ok n o' → n ≤ most := by
    intro most o n o' h
    unfold cntP cntN at h
    cases hu : upN bs o 1099511627776 with
    | no e => rw [hu] at h; cases h
    | ok n' o2 =>
      rw [hu] at h
      simp only [] at h
      by_cases hm : n' > most
      · rw [if_pos hm] at h; cases h
      · rw [if_neg hm] at h; cases h; omega
  have len : ∀ {α : Type} (p : Nat → PR α) (k o : Nat) {l : List α} {o' : Nat}, manyP p k o = .ok l o' → l.length = k := by
    intro α p k
    induction k with
    | zero => intro o l o' h; simp only [manyP, PR.ok.injEq] at h; rw [← h.1]; rfl
    | succ k ih =>
      intro o l o' h
      obtain ⟨a, o1, g1, h⟩ := PR.bind_ok h
      obtain ⟨l2, o2, g2, h⟩ := PR.bind_ok h
      cases h
      simp [ih _ g2]
  obtain ⟨n5, o5, c5, h5⟩ := PR.bind_ok h5
  obtain ⟨n9, o9, c9, h9⟩ := PR.bind_ok h9
  have q5 := len _ _ _ h5
  have q9 := len _ _ _ h9
  have r5 := cnt c5
  have r9 := cnt c9
  refine ⟨⟨⟨?_, Nat.le_refl _⟩, ⟨?_, Nat.le_refl _⟩, ⟨?_, Nat.le_refl _⟩, ⟨?_, Nat.le_refl _⟩, ⟨?_, Nat.le_refl _⟩, ⟨?_, Nat.le_refl _⟩⟩, ?_, ?_⟩ <;> simp only [Dv.sv] <;> omega
end Go.Proofs.YtmbcpmbpkdeioaaGreatDoor.W
/- A guest decoded: the walk. No condition. -/
namespace Go.Proofs.YtmbcpmbpkdeioaaGreatDoor.W
open Go Go.RowKit Go.Eng
set_option maxRecDepth 100000
set_option linter.unusedVariables false
set_option linter.unusedSimpArgs false
abbrev dec_c_p1 (x : OpenX) (y_1 : DvE) : List AV :=
  [AV.tup [AV.agg [nI y_1.d.fr, AV.msl 6 0 0 y_1.d.mem.length y_1.d.mem.length, nU y_1.d.s.r0, nU y_1.d.s.r1, nU y_1.d.s.r2, nU y_1.d.s.r3, nU y_1.d.s.r4, nU y_1.d.s.r5, nU y_1.d.s.r6, nU y_1.d.s.r7, nU y_1.d.s.pc, nU y_1.d.s.ps, nU y_1.d.s.c0, nU y_1.d.s.c1, nU y_1.d.s.c2, nU y_1.d.s.c3, nU y_1.d.s.c4, nU y_1.d.s.c5, nU y_1.d.s.c6, nU y_1.d.s.c7, AV.bool y_1.d.s.h, nI y_1.d.steps, AV.msl 7 0 0 y_1.d.notes.length y_1.d.notes.length, AV.msl 8 0 0 y_1.d.out.length y_1.d.out.length, AV.msl 9 0 0 y_1.d.disk.length y_1.d.disk.length, AV.msl 10 0 0 y_1.d.queue.length y_1.d.queue.length, AV.msl 11 0 0 y_1.d.script.length y_1.d.script.length, nU (y_1.d.bl.getD 0 0), nU (y_1.d.bl.getD 1 0), nU (y_1.d.bl.getD 2 0), nU (y_1.d.bl.getD 3 0), nU (y_1.d.bl.getD 4 0), nU (y_1.d.bl.getD 5 0), nU (y_1.d.bl.getD 6 0), nU (y_1.d.bl.getD 7 0)], nI 0]]
abbrev dec_c_p2 (x : OpenX) (y_1 : DvE) : List AV :=
  [AV.agg [nI y_1.d.fr, AV.msl 6 0 0 y_1.d.mem.length y_1.d.mem.length, nU y_1.d.s.r0, nU y_1.d.s.r1, nU y_1.d.s.r2, nU y_1.d.s.r3, nU y_1.d.s.r4, nU y_1.d.s.r5, nU y_1.d.s.r6, nU y_1.d.s.r7, nU y_1.d.s.pc, nU y_1.d.s.ps, nU y_1.d.s.c0, nU y_1.d.s.c1, nU y_1.d.s.c2, nU y_1.d.s.c3, nU y_1.d.s.c4, nU y_1.d.s.c5, nU y_1.d.s.c6, nU y_1.d.s.c7, AV.bool y_1.d.s.h, nI y_1.d.steps, AV.msl 7 0 0 y_1.d.notes.length y_1.d.notes.length, AV.msl 8 0 0 y_1.d.out.length y_1.d.out.length, AV.msl 9 0 0 y_1.d.disk.length y_1.d.disk.length, AV.msl 10 0 0 y_1.d.queue.length y_1.d.queue.length, AV.msl 11 0 0 y_1.d.script.length y_1.d.script.length, nU (y_1.d.bl.getD 0 0), nU (y_1.d.bl.getD 1 0), nU (y_1.d.bl.getD 2 0), nU (y_1.d.bl.getD 3 0), nU (y_1.d.bl.getD 4 0), nU (y_1.d.bl.getD 5 0), nU (y_1.d.bl.getD 6 0), nU (y_1.d.bl.getD 7 0)]]
abbrev dec_c_p5 (x : OpenX) : List AV :=
  [nI 0, AV.nils, nU 0, nU 0, nU 0, nU 0, nU 0, nU 0, nU 0, nU 0, nU 0, nU 0, nU 0, nU 0, nU 0, nU 0, nU 0, nU 0, nU 0, nU 0, AV.bool false, nI 0, AV.nils, AV.nils, AV.nils, AV.nils, AV.nils, nU 0, nU 0, nU 0, nU 0, nU 0, nU 0, nU 0, nU 0]
abbrev dec_c_p4 (x : OpenX) (y : DecE) : List AV :=
  [AV.tup [AV.agg (dec_c_p5 x), nI y.e]]
abbrev dec_c_p3 (x : OpenX) : Prop :=
  (∃ (y : DecE), decP x.bs = DecR.ok y.d ∧ False) ∨ ∃ (y : DecE), decP x.bs = DecR.no y.e ∧ [AV.tup [AV.agg (dec_c_p5 x), nI 291]] = (dec_c_p4 x y) ∧ bR x.bs = bR x.bs ∧ True
abbrev dec_c_p6 (x : OpenX) (i : Nat) (y_1 : DvE) : List AV :=
  [nI (y_1.d.notes.getD i instInhabitedN4.default).a, nI (y_1.d.notes.getD i instInhabitedN4.default).c, nU (y_1.d.notes.getD i instInhabitedN4.default).b, nU (y_1.d.notes.getD i instInhabitedN4.default).d]
abbrev dec_c_p7 (x : OpenX) (i : Nat) (y_1 : DvE) : List AV :=
  [nI (y_1.d.script.getD i instInhabitedE3.default).a, nI (y_1.d.script.getD i instInhabitedE3.default).k, nB (y_1.d.script.getD i instInhabitedE3.default).x]
abbrev dec_c_p0 (x : OpenX) (y_1 : DvE) : Sv :=
  Sv.mk y_1.d.fr (Row.mk y_1.d.mem y_1.d.mem.length) (St.mk y_1.d.s.r0 y_1.d.s.r1 y_1.d.s.r2 y_1.d.s.r3 y_1.d.s.r4 y_1.d.s.r5 y_1.d.s.r6 y_1.d.s.r7 y_1.d.s.pc y_1.d.s.ps y_1.d.s.c0 y_1.d.s.c1 y_1.d.s.c2 y_1.d.s.c3 y_1.d.s.c4 y_1.d.s.c5 y_1.d.s.c6 y_1.d.s.c7 y_1.d.s.h) y_1.d.steps (NRow.mk y_1.d.notes.length y_1.d.notes.length (fun (i : Nat) => numAt ((fun (i : Nat) => (dec_c_p6 x i y_1)) i) 0) (fun (i : Nat) => numAt ((fun (i : Nat) => (dec_c_p6 x i y_1)) i) 1) (fun (i : Nat) => numAt ((fun (i : Nat) => (dec_c_p6 x i y_1)) i) 2) fun (i : Nat) => numAt ((fun (i : Nat) => (dec_c_p6 x i y_1)) i) 3) (Row.mk y_1.d.out y_1.d.out.length) (Row.mk y_1.d.disk y_1.d.disk.length) (Row.mk y_1.d.queue y_1.d.queue.length) (ERow.mk y_1.d.script.length y_1.d.script.length (fun (i : Nat) => numAt ((fun (i : Nat) => (dec_c_p7 x i y_1)) i) 0) (fun (i : Nat) => numAt ((fun (i : Nat) => (dec_c_p7 x i y_1)) i) 1)
  fun (i : Nat) => numAt ((fun (i : Nat) => (dec_c_p7 x i y_1)) i) 2) (y_1.d.bl.getD 0 0) (y_1.d.bl.getD 1 0) (y_1.d.bl.getD 2 0) (y_1.d.bl.getD 3 0) (y_1.d.bl.getD 4 0) (y_1.d.bl.getD 5 0) (y_1.d.bl.getD 6 0) (y_1.d.bl.getD 7 0)
def dec_c_V (x : OpenX) : Prop :=
  (x.bs.length ≤ 140737488355328 ∧ x.bs.length ≤ x.c) ∧ [] ++ [AV.msl 0 0 0 x.bs.length x.c] ++ [] = [AV.msl 0 0 0 x.bs.length x.c] ∧ (some (bR x.bs) = some (bR x.bs) ∧ True) ∧ (∀ (y : List Int), openN x.bs = OpenR.ok y → sp (decide ((↑y.length : Int) < 4)) (sp (decide ((↑y.length : Int) < 4) == true) (sp (decide ((↑y.length : Int) < 4) == decide ((↑y.length : Int) < 4)) (sp (decide ((↑y.length : Int) = (↑y.length : Int))) (sp (y.length.beq y.length && y.length.beq y.length && true) (dec_c_p3 x) False) False) False) False) (sp (decide (0 < y.length) && (decide (1 < y.length) && (decide (2 < y.length) && (decide (3 < y.length) && true))) && (decide (y.getD 0 0 = y.getD 0 0) && (decide (y.getD 1 0 = y.getD 1 0) && (decide (y.getD 2 0 = y.getD 2 0) && (decide (y.getD 3 0 = y.getD 3 0) && true))))) (sp (decide (4 ≤ y.length) && decide (y.length ≤ y.length) && true && true && ((y.length - 0).beq
  (y.length - 0) && true)) (sp (y.length.beq y.length && y.length.beq y.length && true) (sp (decide ((↑y.length : Int) < 4) == false) (sp (decide ((↑y.length : Int) < 4) == decide ((↑y.length : Int) < 4)) (sp (decide ((↑y.length : Int) = (↑y.length : Int))) (sp (y.length.beq y.length && y.length.beq y.length && true) (sp ((bif false then true else bif true then !(y.getD 0 0 == 109 && (y.getD 1 0 == 117 && (y.getD 2 0 == 109 && (y.getD 3 0 == 1 && true)))) else y.getD 0 0 == 109 && (y.getD 1 0 == 117 && (y.getD 2 0 == 109 && (y.getD 3 0 == 1 && true)))) == bif false then true else bif true then !(y.getD 0 0 == 109 && (y.getD 1 0 == 117 && (y.getD 2 0 == 109 && (y.getD 3 0 == 1 && true)))) else y.getD 0 0 == 109 && (y.getD 1 0 == 117 && (y.getD 2 0 == 109 && (y.getD 3 0 == 1 && true)))) (sp ((bif true then !(y.getD 0 0 == 109 && (y.getD 1 0 == 117 && (y.getD 2 0 == 109 && (y.getD 3 0 == 1 &&
  true)))) else y.getD 0 0 == 109 && (y.getD 1 0 == 117 && (y.getD 2 0 == 109 && (y.getD 3 0 == 1 && true)))) == bif true then !(y.getD 0 0 == 109 && (y.getD 1 0 == 117 && (y.getD 2 0 == 109 && (y.getD 3 0 == 1 && true)))) else y.getD 0 0 == 109 && (y.getD 1 0 == 117 && (y.getD 2 0 == 109 && (y.getD 3 0 == 1 && true)))) (sp (decide (0 < y.length) && (decide (1 < y.length) && (decide (2 < y.length) && (decide (3 < y.length) && true))) && (decide (y.getD 0 0 = y.getD 0 0) && (decide (y.getD 1 0 = y.getD 1 0) && (decide (y.getD 2 0 = y.getD 2 0) && (decide (y.getD 3 0 = y.getD 3 0) && true))))) (sp (decide (4 ≤ y.length) && decide (y.length ≤ y.length) && true && true && ((y.length - 0).beq (y.length - 0) && true)) (sp (y.length.beq y.length && y.length.beq y.length && true) (sp (bif false then true else bif true then !(y.getD 0 0 == 109 && (y.getD 1 0 == 117 && (y.getD 2 0 == 109 && (y.getD 3
  0 == 1 && true)))) else y.getD 0 0 == 109 && (y.getD 1 0 == 117 && (y.getD 2 0 == 109 && (y.getD 3 0 == 1 && true)))) (dec_c_p3 x) (sp (decide (4 ≤ y.length) && decide (y.length ≤ y.length) && decide (y.length ≤ y.length) && true && true) ((4 ≤ y.length ∧ y.length ≤ 140737488355328) ∧ [AV.ptr 5 0 0] = [AV.ptr 5 0 0] ∧ (some (ABlk.mk true [AV.sl 3 4 0 (y.length - 4) (y.length - 4) false].length (AC.cells [AV.sl 3 4 0 (y.length - 4) (y.length - 4) false])) = some (bC [AV.sl 3 4 0 (y.length - 4) (y.length - 4) false]) ∧ some (bW y) = some (bW y) ∧ True) ∧ (∀ (y_1 : DvE), savP y 4 = PR.ok y_1.d y_1.o ∧ y_1.o ≤ y.length → sp (decide ((↑(y.length - y_1.o) : Int) > 0)) (dec_c_p3 x) (((y_1.d.mem.length ≤ 140737488351232 ∧ y_1.d.mem.length ≤ y_1.d.mem.length) ∧ (y_1.d.notes.length ≤ 5864062014634 ∧ y_1.d.notes.length ≤ y_1.d.notes.length) ∧ (y_1.d.out.length ≤ 140737488351232 ∧ y_1.d.out.length ≤
  y_1.d.out.length) ∧ (y_1.d.disk.length ≤ 140737488351232 ∧ y_1.d.disk.length ≤ y_1.d.disk.length) ∧ (y_1.d.queue.length ≤ 140737488351232 ∧ y_1.d.queue.length ≤ y_1.d.queue.length) ∧ y_1.d.script.length ≤ 140737488351232 ∧ y_1.d.script.length ≤ y_1.d.script.length) ∧ [] ++ (dec_c_p2 x y_1) ++ [] = (dec_c_p2 x y_1) ∧ (some (bR y_1.d.mem) = some (bR y_1.d.mem) ∧ some (ABlk.mk false 4 (AC.recs y_1.d.notes.length fun (i : Nat) => (dec_c_p6 x i y_1))) = some (ABlk.mk false 4 (AC.recs y_1.d.notes.length fun (i : Nat) => (dec_c_p6 x i y_1))) ∧ some (bR y_1.d.out) = some (bR y_1.d.out) ∧ some (bR y_1.d.disk) = some (bR y_1.d.disk) ∧ some (bR y_1.d.queue) = some (bR y_1.d.queue) ∧ some (ABlk.mk false 3 (AC.recs y_1.d.script.length fun (i : Nat) => (dec_c_p7 x i y_1))) = some (ABlk.mk false 3 (AC.recs y_1.d.script.length fun (i : Nat) => (dec_c_p7 x i y_1))) ∧ True) ∧ (∀ (y : Unit), keepN (dec_c_p0
  x y_1) = 3 → (∃ (y : DecE), decP x.bs = DecR.ok y.d ∧ False) ∨ ∃ (y : DecE), decP x.bs = DecR.no y.e ∧ [AV.tup [AV.agg (dec_c_p5 x), nI 3]] = (dec_c_p4 x y) ∧ bR x.bs = bR x.bs ∧ True) ∧ (∀ (y : Unit), keepN (dec_c_p0 x y_1) = 2 → (∃ (y : DecE), decP x.bs = DecR.ok y.d ∧ False) ∨ ∃ (y : DecE), decP x.bs = DecR.no y.e ∧ [AV.tup [AV.agg (dec_c_p5 x), nI 2]] = (dec_c_p4 x y) ∧ bR x.bs = bR x.bs ∧ True) ∧ (∀ (y : Unit), keepN (dec_c_p0 x y_1) = 0 → (∃ (y : DecE), decP x.bs = DecR.ok y.d ∧ (dec_c_p1 x y_1) = [AV.tup [AV.agg [nI y.d.fr, AV.msl 6 0 0 y.d.mem.length y.d.mem.length, nU y.d.s.r0, nU y.d.s.r1, nU y.d.s.r2, nU y.d.s.r3, nU y.d.s.r4, nU y.d.s.r5, nU y.d.s.r6, nU y.d.s.r7, nU y.d.s.pc, nU y.d.s.ps, nU y.d.s.c0, nU y.d.s.c1, nU y.d.s.c2, nU y.d.s.c3, nU y.d.s.c4, nU y.d.s.c5, nU y.d.s.c6, nU y.d.s.c7, AV.bool y.d.s.h, nI y.d.steps, AV.msl 7 0 0 y.d.notes.length y.d.notes.length, AV.msl
  8 0 0 y.d.out.length y.d.out.length, AV.msl 9 0 0 y.d.disk.length y.d.disk.length, AV.msl 10 0 0 y.d.queue.length y.d.queue.length, AV.msl 11 0 0 y.d.script.length y.d.script.length, nU (y.d.bl.getD 0 0), nU (y.d.bl.getD 1 0), nU (y.d.bl.getD 2 0), nU (y.d.bl.getD 3 0), nU (y.d.bl.getD 4 0), nU (y.d.bl.getD 5 0), nU (y.d.bl.getD 6 0), nU (y.d.bl.getD 7 0)], nI 0]] ∧ bR x.bs = bR x.bs ∧ bR y_1.d.mem = bR y.d.mem ∧ (false = false ∧ 4 = 4 ∧ y_1.d.notes.length = y.d.notes.length ∧ ∀ (i : Nat), i < y_1.d.notes.length → (dec_c_p6 x i y_1) = [nI (y.d.notes.getD i instInhabitedN4.default).a, nI (y.d.notes.getD i instInhabitedN4.default).c, nU (y.d.notes.getD i instInhabitedN4.default).b, nU (y.d.notes.getD i instInhabitedN4.default).d]) ∧ bR y_1.d.out = bR y.d.out ∧ bR y_1.d.disk = bR y.d.disk ∧ bR y_1.d.queue = bR y.d.queue ∧ (false = false ∧ 3 = 3 ∧ y_1.d.script.length = y.d.script.length ∧ ∀
  (i : Nat), i < y_1.d.script.length → (dec_c_p7 x i y_1) = [nI (y.d.script.getD i instInhabitedE3.default).a, nI (y.d.script.getD i instInhabitedE3.default).k, nB (y.d.script.getD i instInhabitedE3.default).x]) ∧ True) ∨ ∃ (y : DecE), decP x.bs = DecR.no y.e ∧ (dec_c_p1 x y_1) = (dec_c_p4 x y) ∧ bR x.bs = bR x.bs ∧ True) ∧ True)) ∧ (∀ (y_1 : DvE), savP y 4 = PR.no y_1.e → sp (decide (y_1.e = y_1.e)) (sp (decide (y_1.e = y_1.e)) (sp (decide (y_1.e = y_1.e)) ((∃ (y : DecE), decP x.bs = DecR.ok y.d ∧ False) ∨ ∃ (y : DecE), decP x.bs = DecR.no y.e ∧ [AV.tup [AV.agg (dec_c_p5 x), nI y_1.e]] = (dec_c_p4 x y) ∧ bR x.bs = bR x.bs ∧ True) False) False) False) ∧ True) False)) False) False) False) False) False) False) False) False) False) False) False) False)) ∧ (∀ (y : List Int), openN x.bs = OpenR.no 290 → (∃ (y : DecE), decP x.bs = DecR.ok y.d ∧ False) ∨ ∃ (y : DecE), decP x.bs = DecR.no y.e ∧
  [AV.tup [AV.agg (dec_c_p5 x), nI 290]] = (dec_c_p4 x y) ∧ bR x.bs = bR x.bs ∧ True) ∧ (∀ (y : List Int), openN x.bs = OpenR.no 292 → (∃ (y : DecE), decP x.bs = DecR.ok y.d ∧ False) ∨ ∃ (y : DecE), decP x.bs = DecR.no y.e ∧ [AV.tup [AV.agg (dec_c_p5 x), nI 292]] = (dec_c_p4 x y) ∧ bR x.bs = bR x.bs ∧ True) ∧ True
theorem dec_c_e (x : OpenX) : some (dec_c_V x) = (decC.condD sp Go.Proofs.Tryz.prog (drP sp Go.Proofs.Tryz.prog) noLoops (vF sp Go.Proofs.Tryz.prog (drP sp Go.Proofs.Tryz.prog) noLoops (orK (openC.orc sp) (orK (rdSavedC.orc sp) (keepC.orc sp))) 40 3) (vRD sp Go.Proofs.Tryz.prog noBaseK (drP sp Go.Proofs.Tryz.prog noBaseK) noLoops 40) 2 60 x) := by kernel_rfl
set_option maxRecDepth 100000 in
set_option maxHeartbeats 8000000 in
theorem decC_ok : decC.OK Go.Proofs.Tryz.prog := by
  refine Con.byD hmix (noLoops_ok _) (vF_ok (fun c hc => drP_ok hmix c hc) (noLoops_ok _) (orK_ok (Con.orc_ok openC_ok) (orK_ok (Con.orc_ok rdSaved_ok) (Con.orc_ok keepC_ok))) 40 3) (vRD_ok (noBaseK_ok _) (drP_ok hmix _ (noBaseK_ok _)) (noLoops_ok _) 40) dec_c_V dec_c_e (fun x hx => ?_)
  obtain ⟨h1, h2⟩ := hx
  unfold dec_c_V dec_c_p0 dec_c_p7 dec_c_p6 dec_c_p3 dec_c_p4 dec_c_p5 dec_c_p2 dec_c_p1
  refine ⟨⟨by omega, h2⟩, rfl, ⟨rfl, trivial⟩, (fun y hy => ?_), (fun y hy => .inr ⟨⟨Dv0, 290⟩, by unfold decP; rw [hy], rfl, rfl, trivial⟩), (fun y hy => .inr ⟨⟨Dv0, 292⟩, by unfold decP; rw [hy], rfl, rfl, trivial⟩), trivial⟩
  have hy : openN x.bs = .ok y := hy
  have hD : decP x.bs = decIn y := by unfold decP; rw [hy]
  have hly : y.length ≤ x.bs.length := by
    unfold openN at hy
    split at hy
    · cases hy
    · split at hy
      · cases hy
      · cases hy; simp
  refine spI (fun hl => ?_) (fun hl => ?_)
  · refine spT (by rw [hl]; rfl) (spT (beq_self_eq_true _) (spT (decide_eq_true rfl) (spT (by simp) ?_)))
    have hl : y.length < 4 := by have := of_decide_eq_true hl; omega
    exact .inr ⟨⟨Dv0, 291⟩, by rw [hD]; unfold decIn; rw [if_pos hl], rfl, rfl, trivial⟩
  · have hl4 : ¬ y.length < 4 := by have := of_decide_eq_false hl; omega
    have c1 : (decide (0 < y.length) && (decide (1 < y.length) && (decide (2 < y.length) && (decide (3 < y.length) && true))) && (decide (y.getD 0 0 = y.getD 0 0) && (decide (y.getD 1 0 = y.getD 1 0) && (decide (y.getD 2 0 = y.getD 2 0) && (decide (y.getD 3 0 = y.getD 3 0) && true))))) = true := by
      rw [decide_eq_true (show 0 < y.length by omega), decide_eq_true (show 1 < y.length by omega), decide_eq_true (show 2 < y.length by omega), decide_eq_true (show 3 < y.length by omega)]
      simp
    have c2 : (decide (4 ≤ y.length) && decide (y.length ≤ y.length) && true && true && ((y.length - 0).beq (y.length - 0) && true)) = true := by
      rw [decide_eq_true (show 4 ≤ y.length by omega)]
      simp
    have c3 : (y.length.beq y.length && y.length.beq y.length && true) = true := by simp
    refine spT c1 (spT c2 (spT c3 (spT (by rw [hl]; rfl) (spT (beq_self_eq_true _) (spT (decide_eq_true rfl) (spT c3 (spT (beq_self_eq_true _) (spT (beq_self_eq_true _) (spT c1 (spT c2 (spT c3 ?_)))))))))))
    refine spI (fun hm => ?_) (fun hm => ?_)
    · have hm : (!magicB y) = true := hm
      have hm : magicB y = false := by simpa using hm
      exact .inr ⟨⟨Dv0, 291⟩, by rw [hD]; unfold decIn; rw [if_neg hl4, if_pos hm], rfl, rfl, trivial⟩
    · have hm : (!magicB y) = false := hm
      have hm : ¬ magicB y = false := by simpa using hm
      have hI : decP x.bs = decGo y.length (savP y 4) := by
        rw [hD]; unfold decIn; rw [if_neg hl4, if_neg hm]
      refine spT (by rw [decide_eq_true (show 4 ≤ y.length by omega)]; simp) ⟨⟨by omega, by omega⟩, rfl, ⟨rfl, rfl, trivial⟩, (fun y1 hy1 => ?_), (fun y1 hy1 => ?_), trivial⟩
      · obtain ⟨g1, g2⟩ := hy1
        have g1 : savP y 4 = .ok y1.d y1.o := g1
        rw [g1] at hI
        simp only [decGo] at hI
        refine spI (fun h => ?_) (fun h => ?_)
        · have h : y1.o < y.length := by have := of_decide_eq_true h; omega
          rw [if_pos h] at hI
          exact .inr ⟨⟨Dv0, 291⟩, hI, rfl, rfl, trivial⟩
        · have h : ¬ y1.o < y.length := by have := of_decide_eq_false h; omega
          rw [if_neg h] at hI
          refine ⟨(savP_fine g1 (by omega)).1, rfl, ⟨rfl, rfl, rfl, rfl, rfl, rfl, trivial⟩, (fun _ h3 => ?_), (fun _ h2 => ?_), (fun _ h0 => ?_), trivial⟩
          · have h3 : keepN y1.d.sv = 3 := h3
            exact .inr ⟨⟨Dv0, 3⟩, by rw [hI, h3]; rfl, rfl, rfl, trivial⟩
          · have h2 : keepN y1.d.sv = 2 := h2
            exact .inr ⟨⟨Dv0, 2⟩, by rw [hI, h2]; rfl, rfl, rfl, trivial⟩
          · have h0 : keepN y1.d.sv = 0 := h0
            rw [if_pos h0] at hI
            exact .inl ⟨⟨y1.d, 0⟩, hI, rfl, rfl, rfl, ⟨rfl, rfl, rfl, fun _ _ => rfl⟩, rfl, rfl, rfl, ⟨rfl, rfl, rfl, fun _ _ => rfl⟩, trivial⟩
      · have g1 : savP y 4 = .no y1.e := hy1
        rw [g1] at hI
        exact spT (decide_eq_true rfl) (spT (decide_eq_true rfl) (spT (decide_eq_true rfl) (.inr ⟨⟨Dv0, y1.e⟩, hI, rfl, rfl, trivial⟩)))
end Go.Proofs.YtmbcpmbpkdeioaaGreatDoor.W
/- Numbers written and read again: plain law. No condition. -/
namespace Go.Proofs.YtmbcpmbpkdeioaaGreatDoor.W
open Go Go.RowKit Go.Eng
set_option maxRecDepth 100000
set_option linter.unusedVariables false
set_option linter.unusedSimpArgs false
theorem and127 {x : Int} (h0 : 0 ≤ x) (h1 : x < 256) : bits .and .u8 x 127 = x % 128 := bits_mask .u8 8 (by decide) wraps_u8 7 (by decide) x h0 h1
theorem wraps_u64 (n : Int) (h₀ : 0 ≤ n) (h₁ : n < 2 ^ 64) : IntKind.u64.wrap n = n := by rw [IntKind.wrap_u64]; omega
theorem bits_or_comm (k : IntKind) (a b : Int) : bits .or k a b = bits .or k b a := by
  simp only [bits]
  rw [BitVec.or_comm]
theorem pow7 (k : Nat) : (2 : Int) ^ (7 * k) = 128 ^ k := by
  rw [Int.pow_mul]; rfl
theorem accN_eq {k : Nat} {acc x : Int} (hk : k ≤ 9) (h0 : 0 ≤ acc) (h1 : acc < 128 ^ k) (hx0 : 0 ≤ x) (hx1 : x < 256) (ht : x % 128 * 128 ^ k < 18446744073709551616) : accN k acc x = acc + x % 128 * 128 ^ k := by
  unfold accN
  have hP : (0 : Int) < 128 ^ k := Int.pow_pos (by decide)
  have e1 : (IntKind.wrap .i64 (7 * (k : Int))).toNat = 7 * k := by rw [IntWalk.i64_in _ (by omega)]; omega
  rw [and127 hx0 hx1, e1, Nat.min_eq_left (by omega), pow7, wraps_u64 (x % 128) (by omega) (by omega)]
  have hm0 : 0 ≤ x % 128 * 128 ^ k := Int.mul_nonneg (by omega) (Int.le_of_lt hP)
  rw [wraps_u64 _ hm0 (by exact ht), bits_or_comm]
  have hlt : acc < 18446744073709551616 := by
    have : (128 : Int) ^ k ≤ 128 ^ 9 := by exact_mod_cast Nat.pow_le_pow_right (show 0 < 128 by decide) hk
    have e : (128 : Int) ^ 9 = 9223372036854775808 := by decide
    omega
  rw [bits_join .u64 64 (by decide) wraps_u64 (7 * k) (x % 128 * 128 ^ k) acc hm0 (by rw [pow7]; exact Int.mul_emod_left _ _) (by exact ht) h0 (by rw [pow7]; exact h1) (by exact hlt)]
  omega
end Go.Proofs.YtmbcpmbpkdeioaaGreatDoor.W
/- A guest written and read again: plain law. No condition. -/
namespace Go.Proofs.YtmbcpmbpkdeioaaGreatDoor.W
open Go Go.RowKit Go.Eng
set_option maxRecDepth 100000
set_option linter.unusedVariables false
set_option linter.unusedSimpArgs false
end Go.Proofs.YtmbcpmbpkdeioaaGreatDoor.W
/- A guest's bytes are decoded as it was: plain law. No condition. -/
namespace Go.Proofs.YtmbcpmbpkdeioaaGreatDoor.W
open Go Go.RowKit Go.Eng
set_option maxRecDepth 100000
set_option linter.unusedVariables false
set_option linter.unusedSimpArgs false
/-! ### whether it may be kept -/
/-! ### the seal -/
theorem le32_bytes {s : Int} (h0 : 0 ≤ s) (h1 : s < 4294967296) : le32 (IntKind.wrap .u8 s) (IntKind.wrap .u8 (s.fdiv 256)) (IntKind.wrap .u8 (s.fdiv 65536)) (IntKind.wrap .u8 (s.fdiv 16777216)) = s := by
  have wu : ∀ n : Int, 0 ≤ n → n < 2 ^ 32 → IntKind.u32.wrap n = n := fun n a b => by rw [IntKind.wrap_u32]; omega
  have w : ∀ n : Int, 0 ≤ n → n < 4294967296 → IntKind.u32.wrap n = n := fun n a b => wu n a (by omega)
  rw [Int.fdiv_eq_ediv_of_nonneg _ (by decide), Int.fdiv_eq_ediv_of_nonneg _ (by decide), Int.fdiv_eq_ediv_of_nonneg _ (by decide)]
  simp only [IntKind.wrap_u8]
  unfold le32
  rw [w (s % 256) (by omega) (by omega), w (s / 256 % 256) (by omega) (by omega), w (s / 65536 % 256) (by omega) (by omega), w (s / 16777216 % 256) (by omega) (by omega)]
  rw [w (s / 256 % 256 * 256) (by omega) (by omega), w (s / 65536 % 256 * 65536) (by omega) (by omega), w (s / 16777216 % 256 * 16777216) (by omega) (by omega)]
  have j1 : bits .or .u32 (s % 256) (s / 256 % 256 * 256) = s / 256 % 256 * 256 + s % 256 := by
    rw [bits_or_comm]
    exact bits_join .u32 32 (by decide) wu 8 _ _ (by omega) (by omega) (by omega) (by omega) (by omega) (by omega)
  have j2 : bits .or .u32 (s / 256 % 256 * 256 + s % 256) (s / 65536 % 256 * 65536) = s / 65536 % 256 * 65536 + (s / 256 % 256 * 256 + s % 256) := by
    rw [bits_or_comm]
    exact bits_join .u32 32 (by decide) wu 16 _ _ (by omega) (by omega) (by omega) (by omega) (by omega) (by omega)
  have j3 : bits .or .u32 (s / 65536 % 256 * 65536 + (s / 256 % 256 * 256 + s % 256)) (s / 16777216 % 256 * 16777216) = s / 16777216 % 256 * 16777216 + (s / 65536 % 256 * 65536 + (s / 256 % 256 * 256 + s % 256)) := by
    rw [bits_or_comm]
    exact bits_join .u32 32 (by decide) wu 24 _ _ (by omega) (by omega) (by omega) (by omega) (by omega) (by omega)
  rw [j1, j2, j3]
  omega
theorem sumB_range (l : List Int) : 0 ≤ sumB l ∧ sumB l < 4294967296 := by
  have := bits_within .xor .u32 4294967295 (sumR 4294967295 l)
  have h1 : IntKind.u32.min = 0 := rfl
  have h2 : IntKind.u32.max = 4294967295 := rfl
  unfold sumB
  omega
theorem openN_seal (l : List Int) : openN (sealB l) = .ok l := by
  obtain ⟨h0, h1⟩ := sumB_range l
  have hl : (sealB l).length = l.length + 4 := by simp [sealB]
  unfold openN
  rw [if_neg (by omega), hl, Nat.add_sub_cancel]
  have ht : (sealB l).take l.length = l := by simp [sealB]
  have g : ∀ k, (sealB l).getD (l.length + k) 0 = [IntKind.wrap .u8 (sumB l), IntKind.wrap .u8 ((sumB l).fdiv 256), IntKind.wrap .u8 ((sumB l).fdiv 65536), IntKind.wrap .u8 ((sumB l).fdiv 16777216)].getD k 0 := by
    intro k
    unfold sealB
    rw [List.getD_eq_getElem?_getD, List.getElem?_append_right (by omega), Nat.add_sub_cancel_left, List.getD_eq_getElem?_getD]
  rw [ht]
  have g0 := g 0
  rw [Nat.add_zero] at g0
  rw [g0, g 1, g 2, g 3]
  simp only [List.getD_cons_zero, List.getD_cons_succ]
  rw [le32_bytes h0 h1]
  simp
end Go.Proofs.YtmbcpmbpkdeioaaGreatDoor.W
/- A guest's bytes are bytes, and few. No condition. -/
namespace Go.Proofs.YtmbcpmbpkdeioaaGreatDoor.W
open Go Go.RowKit Go.Eng
set_option maxRecDepth 100000
set_option linter.unusedVariables false
set_option linter.unusedSimpArgs false
def IsBytes (l : List Int) : Prop := ∀ x ∈ l, 0 ≤ x ∧ x < 256
/-! ### a guest's bytes are bytes -/
theorem IsBytes.append {a b : List Int} (ha : IsBytes a) (hb : IsBytes b) : IsBytes (a ++ b) := fun x hx => by
  rcases List.mem_append.1 hx with h | h
  · exact ha x h
  · exact hb x h
theorem sealB_bytes {l : List Int} (h : IsBytes l) : IsBytes (sealB l) := by
  refine h.append (fun x hx => ?_)
  simp only [List.mem_cons, List.not_mem_nil, or_false] at hx
  have w : ∀ n : Int, 0 ≤ IntKind.wrap .u8 n ∧ IntKind.wrap .u8 n < 256 := fun n => by rw [IntKind.wrap_u8]; omega
  rcases hx with rfl | rfl | rfl | rfl <;> exact w _
end Go.Proofs.YtmbcpmbpkdeioaaGreatDoor.W
/- A sum over bits: a register of 32 bits that is moved down bit by bit, with a polynomial joined in. Bits that are turned within 32 places are seen in it. Plain bit vectors; no condition. -/
namespace Go.Proofs.Crc
end Go.Proofs.Crc
/- Bytes that are spoilt are seen: plain law. No condition. -/
namespace Go.Proofs.YtmbcpmbpkdeioaaGreatDoor.W
open Go Go.RowKit Go.Eng
set_option maxRecDepth 100000
set_option linter.unusedVariables false
set_option linter.unusedSimpArgs false
theorem bx (a b : Int) : bits .xor .u32 a b = ((BitVec.ofInt 32 a ^^^ BitVec.ofInt 32 b).toNat : Int) := by
  show IntKind.u32.wrap ((BitVec.ofInt 32 a ^^^ BitVec.ofInt 32 b).toNat : Int) = _
  rw [IntKind.wrap_u32]
  have := (BitVec.ofInt 32 a ^^^ BitVec.ofInt 32 b).isLt
  omega
theorem ba (a b : Int) : bits .and .u32 a b = ((BitVec.ofInt 32 a &&& BitVec.ofInt 32 b).toNat : Int) := by
  show IntKind.u32.wrap ((BitVec.ofInt 32 a &&& BitVec.ofInt 32 b).toNat : Int) = _
  rw [IntKind.wrap_u32]
  have := (BitVec.ofInt 32 a &&& BitVec.ofInt 32 b).isLt
  omega
theorem le32_sum {a b c d : Int} (ha : 0 ≤ a ∧ a < 256) (hb : 0 ≤ b ∧ b < 256) (hc : 0 ≤ c ∧ c < 256) (hd : 0 ≤ d ∧ d < 256) : le32 a b c d = a + 256 * b + 65536 * c + 16777216 * d := by
  have h := le32_bytes (s := a + 256 * b + 65536 * c + 16777216 * d) (by omega) (by omega)
  rw [Int.fdiv_eq_ediv_of_nonneg _ (by decide), Int.fdiv_eq_ediv_of_nonneg _ (by decide), Int.fdiv_eq_ediv_of_nonneg _ (by decide)] at h
  simp only [IntKind.wrap_u8] at h
  have e0 : (a + 256 * b + 65536 * c + 16777216 * d) % 256 = a := by omega
  have e1 : (a + 256 * b + 65536 * c + 16777216 * d) / 256 % 256 = b := by omega
  have e2 : (a + 256 * b + 65536 * c + 16777216 * d) / 65536 % 256 = c := by omega
  have e3 : (a + 256 * b + 65536 * c + 16777216 * d) / 16777216 % 256 = d := by omega
  rw [e0, e1, e2, e3] at h
  exact h
theorem last4 {l : List Int} (h4 : 4 ≤ l.length) : l = l.take (l.length - 4) ++ [l.getD (l.length - 4) 0, l.getD (l.length - 4 + 1) 0, l.getD (l.length - 4 + 2) 0, l.getD (l.length - 4 + 3) 0] := by
  refine List.ext_getElem? fun i => ?_
  rcases Nat.lt_or_ge i (l.length - 4) with hi | hi
  · rw [List.getElem?_append_left (by simp; omega), List.getElem?_take_of_lt hi]
  · rw [List.getElem?_append_right (by simp; omega)]
    have e : (l.take (l.length - 4)).length = l.length - 4 := by simp
    rw [e]
    obtain ⟨j, rfl⟩ : ∃ j, i = l.length - 4 + j := ⟨i - (l.length - 4), by omega⟩
    rw [Nat.add_sub_cancel_left]
    rcases Nat.lt_or_ge j 4 with hj | hj
    · have hlt : l.length - 4 + j < l.length := by omega
      rw [List.getElem?_eq_getElem hlt]
      match j, hj with
      | 0, _ => have hlt' : l.length - 4 < l.length := by omega
                simp [List.getD_eq_getElem?_getD, List.getElem?_eq_getElem hlt']
      | 1, _ | 2, _ | 3, _ => simp [List.getD_eq_getElem?_getD, List.getElem?_eq_getElem hlt]
      | n + 4, h => omega
    · rw [List.getElem?_eq_none (by omega), List.getElem?_eq_none (by simp; omega)]
end Go.Proofs.YtmbcpmbpkdeioaaGreatDoor.W
/- What is read is written to the same bytes: plain law. No condition. -/
namespace Go.Proofs.YtmbcpmbpkdeioaaGreatDoor.W
open Go Go.RowKit Go.Eng
set_option maxRecDepth 100000
set_option linter.unusedVariables false
set_option linter.unusedSimpArgs false
theorem pow128_le {k : Nat} (h : k ≤ 8) : (128 : Int) ^ k ≤ 72057594037927936 := by
  have : (128 : Int) ^ k ≤ 128 ^ 8 := by exact_mod_cast Nat.pow_le_pow_right (show 0 < 128 by decide) h
  have e : (128 : Int) ^ 8 = 72057594037927936 := by decide
  omega
theorem openN_canon {l y : List Int} (hb : IsBytes l) (h : openN l = .ok y) : l = sealB y := by
  unfold openN at h
  by_cases h4 : l.length < 4
  · rw [if_pos h4] at h; cases h
  · rw [if_neg h4] at h
    by_cases hs : sumB (l.take (l.length - 4)) = le32 (l.getD (l.length - 4) 0) (l.getD (l.length - 4 + 1) 0) (l.getD (l.length - 4 + 2) 0) (l.getD (l.length - 4 + 3) 0)
    · rw [if_neg (by simp [hs])] at h
      cases h
      have gb : ∀ k, 0 ≤ l.getD k 0 ∧ l.getD k 0 < 256 := by
        intro k
        rw [List.getD_eq_getElem?_getD]
        rcases hk : l[k]? with _ | y
        · simp
        · simp; exact hb y (List.mem_of_getElem? hk)
      rw [le32_sum (gb _) (gb _) (gb _) (gb _)] at hs
      have hl : l = l.take (l.length - 4) ++ [l.getD (l.length - 4) 0, l.getD (l.length - 4 + 1) 0, l.getD (l.length - 4 + 2) 0, l.getD (l.length - 4 + 3) 0] := last4 (by omega)
      have g0 := gb (l.length - 4)
      have g1 := gb (l.length - 4 + 1)
      have g2 := gb (l.length - 4 + 2)
      have g3 := gb (l.length - 4 + 3)
      generalize l.getD (l.length - 4) 0 = a at *
      generalize l.getD (l.length - 4 + 1) 0 = b at *
      generalize l.getD (l.length - 4 + 2) 0 = c at *
      generalize l.getD (l.length - 4 + 3) 0 = d at *
      generalize l.take (l.length - 4) = t at *
      rw [hl]
      unfold sealB
      rw [hs, Int.fdiv_eq_ediv_of_nonneg _ (by decide), Int.fdiv_eq_ediv_of_nonneg _ (by decide), Int.fdiv_eq_ediv_of_nonneg _ (by decide)]
      simp only [IntKind.wrap_u8]
      have e0 : (a + 256 * b + 65536 * c + 16777216 * d) % 256 = a := by omega
      have e1 : (a + 256 * b + 65536 * c + 16777216 * d) / 256 % 256 = b := by omega
      have e2 : (a + 256 * b + 65536 * c + 16777216 * d) / 65536 % 256 = c := by omega
      have e3 : (a + 256 * b + 65536 * c + 16777216 * d) / 16777216 % 256 = d := by omega
      rw [e0, e1, e2, e3]
    · rw [if_pos hs] at h; cases h
end Go.Proofs.YtmbcpmbpkdeioaaGreatDoor.W
/- What is refused is refused for a reason; what is decoded is encoded to just those bytes. No condition. -/
namespace Go.Proofs.YtmbcpmbpkdeioaaGreatDoor.W
open Go Go.RowKit Go.Eng
set_option maxRecDepth 100000
set_option linter.unusedVariables false
set_option linter.unusedSimpArgs false
/-! ### what is refused is refused for a reason -/
def Nz {α : Type} (p : PR α) : Prop := ∀ e, p = .no e → e ≠ 0
theorem upN_nz (bs : List Int) (o : Nat) (most : Int) : ∀ e, upN bs o most = .no e → e ≠ 0 := by
  intro e h
  unfold upN at h
  rcases hg : getN (bs.drop o) with ⟨n, u, e'⟩
  rw [hg] at h
  by_cases he : e' = 0
  · subst he
    simp only [ne_eq, not_true_eq_false, if_false] at h
    split at h
    · cases h; decide
    · cases h
  · simp only [ne_eq, he, not_false_eq_true, if_true] at h
    cases h
    exact he
theorem nz_up (bs : List Int) (most : Int) (o : Nat) : Nz (upP bs most o) := fun e h => by
  unfold upP at h
  cases hu : upN bs o most with
  | ok n o' => rw [hu] at h; cases h
  | no e' => rw [hu] at h; cases h; exact upN_nz bs o most e hu
theorem nz_cnt (bs : List Int) (most : Int) (o : Nat) : Nz (cntP bs most o) := fun e h => by
  unfold cntP cntN at h
  cases hu : upN bs o 1099511627776 with
  | ok n o' =>
    rw [hu] at h
    by_cases hm : n > most
    · simp only [hm, if_true] at h; cases h; decide
    · simp only [hm, if_false] at h; cases h
  | no e' => rw [hu] at h; cases h; exact upN_nz _ _ _ e hu
theorem nz_row (bs : List Int) (most : Int) (o : Nat) : Nz (rowP bs most o) := fun e h => by
  unfold rowP at h
  cases hu : rowN (bs.drop o) most with
  | ok n o' => rw [hu] at h; cases h
  | no e' =>
    rw [hu] at h
    cases h
    unfold rowN at hu
    rcases hg : getN (bs.drop o) with ⟨n, u, e'⟩
    rw [hg] at hu
    by_cases he : e' = 0
    · subst he
      simp only [ne_eq, not_true_eq_false, if_false] at hu
      generalize IntKind.wrap .u64 (if (0 : Int) > most then 0 else most) = w at hu
      generalize IntKind.wrap .u64 (IntKind.wrap .i64 _) = w2 at hu
      split at hu
      · cases hu; decide
      · split at hu
        · cases hu; decide
        · cases hu
    · simp only [ne_eq, he, not_false_eq_true, if_true] at hu
      cases hu
      exact he
end Go.Proofs.YtmbcpmbpkdeioaaGreatDoor.W
/- Where two lists differ, and sums by the document: what is reckoned, and the loops' states. No condition. -/
namespace Go.Proofs.YtmbcpmbpkdeioaaGreatDoor.W
open Go Go.RowKit Go.Eng
set_option maxRecDepth 100000
set_option linter.unusedVariables false
set_option linter.unusedSimpArgs false
/-! ### where two lists differ -/
structure FbX where
  bs : List Int
  c : Nat
  d : Nat
structure FbI where
  x : FbX
  k : Nat
def FbX.L (x : FbX) : LH := [(0, ⟨false, 1, .ints .u8 x.bs⟩), (1, ⟨false, 1, .ints .u8 x.bs⟩)]
def firstSlots (f : FuncId) (n k : Nat) : Slots := [(5, .fn (.func f) [] [.ptr 2 0 0, .ptr 3 0 0]), (12, .int .i64 n), (13, .int .i64 k)]
def fbL (P : Program) : Lp FbI where
  B := 2
  n := ntmpsOf P F_judge_first_byte
  code := loopOf P F_judge_first_byte 0
  fit s H := match s.get 0, s.get 1 with
    | .msl b _ _ _ c, .msl _ _ _ _ d => (rowOf H b c).map fun r => ⟨⟨r.bs, c, d⟩, 0⟩
    | _, _ => none
  pre i := i.k ≤ i.x.bs.length ∧ i.x.bs.length ≤ 140737488355328
  slots i := firstSlots F_judge_first_byte_1 i.x.bs.length i.k
  nx i := 4
  L i := [(0, ⟨false, 1, .ints .u8 i.x.bs⟩), (1, ⟨false, 1, .ints .u8 i.x.bs⟩), (2, ⟨true, 1, .cells [.msl 0 0 0 i.x.bs.length i.x.c]⟩), (3, ⟨true, 1, .cells [.msl 1 0 0 i.x.bs.length i.x.d]⟩)]
  m i := i.x.bs.length - i.k
  outs i := [(true, ⟨.exit 0, [], 4, i.x.L⟩)]
def fbC : Con FbX Unit where
  f := F_judge_first_byte
  fit vs H := match vs with
    | [.msl b _ _ _ c, .msl b1 _ _ _ d] => (rowOf H b c).map fun r => ([b, b1], ⟨r.bs, c, d⟩)
    | _ => none
  n0 := 2
  pre x := x.bs.length ≤ 140737488355328
  args x := [.msl 0 0 0 x.bs.length x.c, .msl 1 0 0 x.bs.length x.d]
  L0 x := x.L
  outs x := [(fun _ => True, fun _ => (.ret (.int .i64 (-1)), 4, x.L))]
/-- Lists of notes, alike. -/
structure FnX where
  r : NRow
  q : NRow
def FnX.same (x : FnX) : Prop := x.q.n = x.r.n ∧ x.r.n ≤ 140737488355328 ∧ ∀ i, i < x.r.n → x.q.at_ i = x.r.at_ i ∧ x.q.cause i = x.r.cause i ∧ x.q.back i = x.r.back i ∧ x.q.addr i = x.r.addr i
structure FnI where
  x : FnX
  k : Nat
def FnX.L (x : FnX) : LH := [(0, ⟨false, 4, .recs x.r.n x.r.f⟩), (1, ⟨false, 4, .recs x.q.n x.q.f⟩)]
def fnL (P : Program) : Lp FnI where
  B := 2
  n := ntmpsOf P F_judge_first_api_Note
  code := loopOf P F_judge_first_api_Note 0
  fit s H := match s.get 0, s.get 1 with
    | .msl b _ _ _ c, .msl b1 _ _ _ d => match nrowOf H b c, nrowOf H b1 d with
      | some r, some q => some ⟨⟨r, q⟩, 0⟩
      | _, _ => none
    | _, _ => none
  pre i := i.k ≤ i.x.r.n ∧ i.x.same
  slots i := firstSlots F_judge_first_api_Note_1 i.x.r.n i.k
  nx i := 4
  L i := [(0, ⟨false, 4, .recs i.x.r.n i.x.r.f⟩), (1, ⟨false, 4, .recs i.x.q.n i.x.q.f⟩), (2, ⟨true, 1, .cells [.msl 0 0 0 i.x.r.n i.x.r.c]⟩), (3, ⟨true, 1, .cells [.msl 1 0 0 i.x.q.n i.x.q.c]⟩)]
  m i := i.x.r.n - i.k
  outs i := [(true, ⟨.exit 0, [], 4, i.x.L⟩)]
def fnC : Con FnX Unit where
  f := F_judge_first_api_Note
  fit vs H := match vs with
    | [.msl b _ _ _ c, .msl b1 _ _ _ d] => match nrowOf H b c, nrowOf H b1 d with
      | some r, some q => some ([b, b1], ⟨r, q⟩)
      | _, _ => none
    | _ => none
  n0 := 2
  pre x := x.same
  args x := [.msl 0 0 0 x.r.n x.r.c, .msl 1 0 0 x.q.n x.q.c]
  L0 x := x.L
  outs x := [(fun _ => True, fun _ => (.ret (.int .i64 (-1)), 4, x.L))]
/-- Lists of events, alike. -/
structure FeX where
  r : ERow
  q : ERow
def FeX.same (x : FeX) : Prop := x.q.n = x.r.n ∧ x.r.n ≤ 140737488355328 ∧ ∀ i, i < x.r.n → x.q.at_ i = x.r.at_ i ∧ x.q.kind i = x.r.kind i ∧ x.q.byte i = x.r.byte i
structure FeI where
  x : FeX
  k : Nat
def FeX.L (x : FeX) : LH := [(0, ⟨false, 3, .recs x.r.n x.r.f⟩), (1, ⟨false, 3, .recs x.q.n x.q.f⟩)]
def feL (P : Program) : Lp FeI where
  B := 2
  n := ntmpsOf P F_judge_first_api_Event
  code := loopOf P F_judge_first_api_Event 0
  fit s H := match s.get 0, s.get 1 with
    | .msl b _ _ _ c, .msl b1 _ _ _ d => match erowOf H b c, erowOf H b1 d with
      | some r, some q => some ⟨⟨r, q⟩, 0⟩
      | _, _ => none
    | _, _ => none
  pre i := i.k ≤ i.x.r.n ∧ i.x.same
  slots i := firstSlots F_judge_first_api_Event_1 i.x.r.n i.k
  nx i := 4
  L i := [(0, ⟨false, 3, .recs i.x.r.n i.x.r.f⟩), (1, ⟨false, 3, .recs i.x.q.n i.x.q.f⟩), (2, ⟨true, 1, .cells [.msl 0 0 0 i.x.r.n i.x.r.c]⟩), (3, ⟨true, 1, .cells [.msl 1 0 0 i.x.q.n i.x.q.c]⟩)]
  m i := i.x.r.n - i.k
  outs i := [(true, ⟨.exit 0, [], 4, i.x.L⟩)]
def feC : Con FeX Unit where
  f := F_judge_first_api_Event
  fit vs H := match vs with
    | [.msl b _ _ _ c, .msl b1 _ _ _ d] => match erowOf H b c, erowOf H b1 d with
      | some r, some q => some ([b, b1], ⟨r, q⟩)
      | _, _ => none
    | _ => none
  n0 := 2
  pre x := x.same
  args x := [.msl 0 0 0 x.r.n x.r.c, .msl 1 0 0 x.q.n x.q.c]
  L0 x := x.L
  outs x := [(fun _ => True, fun _ => (.ret (.int .i64 (-1)), 4, x.L))]
end Go.Proofs.YtmbcpmbpkdeioaaGreatDoor.W
/- Where two lists differ: the walks. No condition. -/
namespace Go.Proofs.YtmbcpmbpkdeioaaGreatDoor.W
open Go Go.RowKit Go.Eng
set_option maxRecDepth 100000
set_option linter.unusedVariables false
set_option linter.unusedSimpArgs false
abbrev fbl_c_p0 (i : FbI) : Prop :=
  sp (decide ((↑i.k : Int) ≥ (↑i.x.bs.length : Int)) == decide ((↑i.k : Int) ≥ (↑i.x.bs.length : Int))) (sp (decide ((↑i.x.bs.length : Int) = (↑i.x.bs.length : Int))) (sp (i.x.bs.length.beq i.x.bs.length && i.x.c.beq i.x.c) (sp (decide ((↑i.k : Int) = (↑i.k : Int))) False False) False) False) False
abbrev fbl_c_p1 (i : FbI) : Prop :=
  i.x.bs.getD (0 + (↑i.k : Int).toNat + 0) 0 = i.x.bs.getD (0 + (↑i.k : Int).toNat + 0) 0
def fbl_c_V (i : FbI) : Prop :=
  sp (decide ((↑i.k : Int) < (↑i.x.bs.length : Int))) (sp (decide ((↑i.k : Int) ≥ (↑i.x.bs.length : Int))) (sp (decide ((↑i.k : Int) ≥ (↑i.x.bs.length : Int)) == true) (fbl_c_p0 i) False) (sp (bif false then true else decide ((↑i.k : Int) ≥ (↑i.x.bs.length : Int))) (sp ((bif false then true else decide ((↑i.k : Int) ≥ (↑i.x.bs.length : Int))) == true) (sp ((bif false then true else decide ((↑i.k : Int) ≥ (↑i.x.bs.length : Int))) == bif false then true else decide ((↑i.k : Int) ≥ (↑i.x.bs.length : Int))) (sp (decide ((↑i.k : Int) ≥ (↑i.x.bs.length : Int)) == decide ((↑i.k : Int) ≥ (↑i.x.bs.length : Int))) (sp (decide ((↑i.x.bs.length : Int) = (↑i.x.bs.length : Int))) (sp (i.x.bs.length.beq i.x.bs.length && i.x.d.beq i.x.d) (sp (decide ((↑i.k : Int) = (↑i.k : Int))) (sp (decide ((↑i.k : Int) ≥ (↑i.x.bs.length : Int)) == false) (fbl_c_p0 i) False) False) False) False) False) False) False) (sp
  ((bif false then true else i.x.bs.getD (0 + (↑i.k : Int).toNat + 0) 0 != i.x.bs.getD (0 + (↑i.k : Int).toNat + 0) 0) == bif false then true else i.x.bs.getD (0 + (↑i.k : Int).toNat + 0) 0 != i.x.bs.getD (0 + (↑i.k : Int).toNat + 0) 0) (sp ((bif false then true else i.x.bs.getD (0 + (↑i.k : Int).toNat + 0) 0 != i.x.bs.getD (0 + (↑i.k : Int).toNat + 0) 0) == bif false then true else i.x.bs.getD (0 + (↑i.k : Int).toNat + 0) 0 != i.x.bs.getD (0 + (↑i.k : Int).toNat + 0) 0) (sp ((i.x.bs.getD (0 + (↑i.k : Int).toNat + 0) 0 != i.x.bs.getD (0 + (↑i.k : Int).toNat + 0) 0) == (i.x.bs.getD (0 + (↑i.k : Int).toNat + 0) 0 != i.x.bs.getD (0 + (↑i.k : Int).toNat + 0) 0)) (sp (decide (0 + (↑i.k : Int).toNat + 0 < i.x.bs.length) && decide (fbl_c_p1 i)) (sp (decide ((↑i.k : Int) < (↑i.x.bs.length : Int)) && true && ((0 + (↑i.k : Int).toNat).beq (0 + (↑i.k : Int).toNat) && true)) (sp (decide ((↑i.k : Int) =
  (↑i.k : Int))) (sp (i.x.bs.length.beq i.x.bs.length && i.x.d.beq i.x.d) (sp (decide (0 + (↑i.k : Int).toNat + 0 < i.x.bs.length) && decide (fbl_c_p1 i)) (sp (decide ((↑i.k : Int) < (↑i.x.bs.length : Int)) && true && ((0 + (↑i.k : Int).toNat).beq (0 + (↑i.k : Int).toNat) && true)) (sp (decide ((↑i.k : Int) = (↑i.k : Int))) (sp (i.x.bs.length.beq i.x.bs.length && i.x.c.beq i.x.c) (sp ((bif false then true else decide ((↑i.k : Int) ≥ (↑i.x.bs.length : Int))) == false) (sp ((bif false then true else decide ((↑i.k : Int) ≥ (↑i.x.bs.length : Int))) == bif false then true else decide ((↑i.k : Int) ≥ (↑i.x.bs.length : Int))) (sp (decide ((↑i.k : Int) ≥ (↑i.x.bs.length : Int)) == decide ((↑i.k : Int) ≥ (↑i.x.bs.length : Int))) (sp (decide ((↑i.x.bs.length : Int) = (↑i.x.bs.length : Int))) (sp (i.x.bs.length.beq i.x.bs.length && i.x.d.beq i.x.d) (sp (decide ((↑i.k : Int) = (↑i.k : Int))) (sp
  (decide ((↑i.k : Int) ≥ (↑i.x.bs.length : Int)) == false) (sp (decide ((↑i.k : Int) ≥ (↑i.x.bs.length : Int)) == decide ((↑i.k : Int) ≥ (↑i.x.bs.length : Int))) (sp (decide ((↑i.x.bs.length : Int) = (↑i.x.bs.length : Int))) (sp (i.x.bs.length.beq i.x.bs.length && i.x.c.beq i.x.c) (sp (decide ((↑i.k : Int) = (↑i.k : Int))) (sp (bif false then true else i.x.bs.getD (0 + (↑i.k : Int).toNat + 0) 0 != i.x.bs.getD (0 + (↑i.k : Int).toNat + 0) 0) False (∃ (j : FbI), (j.k ≤ j.x.bs.length ∧ j.x.bs.length ≤ 140737488355328) ∧ j.x.bs.length - j.k < i.x.bs.length - i.k ∧ [(true, LOut.mk (AX.exit 0) [] 4 [(0, bR j.x.bs), (1, bR j.x.bs)])] = [(true, LOut.mk (AX.exit 0) [] 4 [(0, bR i.x.bs), (1, bR i.x.bs)])] ∧ (AV.fn (Fn.func F_judge_first_byte_1) [] [AV.ptr 2 0 0, AV.ptr 3 0 0] = AV.fn (Fn.func F_judge_first_byte_1) [] [AV.ptr 2 0 0, AV.ptr 3 0 0] ∧ nI (↑i.x.bs.length : Int) = nI (↑j.x.bs.length :
  Int) ∧ nI (IntKind.i64.wrap ((↑i.k : Int) + 1)) = nI (↑j.k : Int) ∧ True) ∧ bR i.x.bs = bR j.x.bs ∧ bR i.x.bs = bR j.x.bs ∧ bC [AV.msl 0 0 0 i.x.bs.length i.x.c] = bC [AV.msl 0 0 0 j.x.bs.length j.x.c] ∧ bC [AV.msl 1 0 0 i.x.bs.length i.x.d] = bC [AV.msl 1 0 0 j.x.bs.length j.x.d] ∧ True)) False) False) False) False) False) False) False) False) False) False) False) False) False) False) False) False) False) False) False) False) False) False))) (True ∧ bR i.x.bs = bR i.x.bs ∧ bR i.x.bs = bR i.x.bs ∧ True)
theorem fbl_c_e (i : FbI) : some (fbl_c_V i) = (some ((fbL Go.Proofs.Tryz.prog).body sp Go.Proofs.Tryz.prog (vF sp Go.Proofs.Tryz.prog (drP sp Go.Proofs.Tryz.prog) noLoops noBaseK 40 2) (drP sp Go.Proofs.Tryz.prog (vF sp Go.Proofs.Tryz.prog (drP sp Go.Proofs.Tryz.prog) noLoops noBaseK 40 2)) noLo 40 i)) := by kernel_rfl
theorem fbl_ok : (fbL Go.Proofs.Tryz.prog).OK Go.Proofs.Tryz.prog := by
  refine Lp.ok_of (vF_ok (fun _ hk => drP_ok hmix _ hk) (noLoops_ok _) (noBaseK_ok _) 40 2) (drP_ok hmix _ (vF_ok (fun _ hk => drP_ok hmix _ hk) (noLoops_ok _) (noBaseK_ok _) 40 2)) (noLo_ok _) (by decide) 40 (fun i hi => ?_)
  rw [← Option.some.inj (fbl_c_e i)]
  obtain ⟨⟨bs, c, d⟩, k⟩ := i
  obtain ⟨h1, h2⟩ := hi
  have h1 : k ≤ bs.length := h1
  have h2 : bs.length ≤ 140737488355328 := h2
  unfold fbl_c_V fbl_c_p1 fbl_c_p0
  by_cases h : k < bs.length
  · have hw : IntKind.wrap .i64 ((k : Int) + 1) = ((k + 1 : Nat) : Int) := by rw [IntWalk.i64_in _ (by omega)]; rfl
    iterate 60 try first | refine spT (by first | (simp; done) | (simp [h]; done) | (simp; omega)) ?_ | refine spF (by first | (simp; done) | (simp [h]; done) | (simp; omega)) ?_
    exact ⟨⟨⟨bs, c, d⟩, k + 1⟩, ⟨h, h2⟩, by show bs.length - (k + 1) < bs.length - k; omega, rfl, ⟨rfl, rfl, by show AV.int _ (IntKind.wrap .i64 ((k : Int) + 1)) = _; rw [hw], trivial⟩, rfl, rfl, rfl, rfl, trivial⟩
  · refine spF (by simp; omega) ⟨trivial, rfl, rfl, trivial⟩
def fb_c_V (x : FbX) : Prop :=
  same (loopOf Proofs.Tryz.prog F_judge_first_byte 0) (loopOf Proofs.Tryz.prog F_judge_first_byte 0) ∧ (0 ≤ x.bs.length ∧ x.bs.length ≤ 140737488355328) ∧ ((AV.fn (Fn.func 76) [] [AV.ptr 2 0 0, AV.ptr 3 0 0] = AV.fn (Fn.func F_judge_first_byte_1) [] [AV.ptr 2 0 0, AV.ptr 3 0 0] ∧ nI (if (↑x.bs.length : Int) > (↑x.bs.length : Int) then (↑x.bs.length : Int) else (↑x.bs.length : Int)) = nI (↑x.bs.length : Int) ∧ nI 0 = nI 0 ∧ True) ∧ bR x.bs = bR x.bs ∧ bR x.bs = bR x.bs ∧ ABlk.mk true [AV.msl 0 0 0 x.bs.length x.c].length (AC.cells [AV.msl 0 0 0 x.bs.length x.c]) = bC [AV.msl 0 0 0 x.bs.length x.c] ∧ ABlk.mk true [AV.msl 1 0 0 x.bs.length x.d].length (AC.cells [AV.msl 1 0 0 x.bs.length x.d]) = bC [AV.msl 1 0 0 x.bs.length x.d] ∧ True) ∧ ∃ (y : Unit), True ∧ [nI (-1)] = [nI (-1)] ∧ bR x.bs = bR x.bs ∧ bR x.bs = bR x.bs ∧ True
theorem fb_c_e (x : FbX) : some (fb_c_V x) = (fbC.cond sp Go.Proofs.Tryz.prog (drP sp Go.Proofs.Tryz.prog) (forF F_judge_first_byte ((fbL Go.Proofs.Tryz.prog).lo sp Go.Proofs.Tryz.prog (isLoop 3) (loopOf Go.Proofs.Tryz.prog F_judge_first_byte 0)) noLoops) noBaseK 40 2 x) := by kernel_rfl
theorem fbC_ok : fbC.OK Go.Proofs.Tryz.prog := by
  refine Con.by hmix (forF_ok (Lp.lo_ok fbl_ok rfl) (noLoops_ok _)) (noBaseK_ok _) fb_c_V fb_c_e (fun x hx => ?_)
  unfold fb_c_V
  refine ⟨rfl, ⟨Nat.zero_le _, hx⟩, ⟨⟨rfl, by simp, rfl, trivial⟩, rfl, rfl, rfl, rfl, trivial⟩, ⟨(), trivial, rfl, rfl, rfl, trivial⟩⟩
abbrev fnl_c_p0 (i : FnI) : Prop :=
  sp (decide ((↑i.k : Int) ≥ (↑i.x.r.n : Int)) == decide ((↑i.k : Int) ≥ (↑i.x.r.n : Int))) (sp (decide ((↑i.x.r.n : Int) = (↑i.x.r.n : Int))) (sp (i.x.r.n.beq i.x.r.n && i.x.r.c.beq i.x.r.c) (sp (decide ((↑i.k : Int) = (↑i.k : Int))) False False) False) False) False
abbrev fnl_c_p1 (i : FnI) (i_1 : Nat) : List AV :=
  [nI (i.x.q.at_ i_1), nI (i.x.q.cause i_1), nU (i.x.q.back i_1), nU (i.x.q.addr i_1)]
abbrev fnl_c_p2 (i : FnI) (i_1 : Nat) : List AV :=
  [nI (i.x.r.at_ i_1), nI (i.x.r.cause i_1), nU (i.x.r.back i_1), nU (i.x.r.addr i_1)]
def fnl_c_V (i : FnI) : Prop :=
  sp (decide ((↑i.k : Int) < (↑i.x.r.n : Int))) (sp (decide ((↑i.k : Int) ≥ (↑i.x.r.n : Int))) (sp (decide ((↑i.k : Int) ≥ (↑i.x.r.n : Int)) == true) (fnl_c_p0 i) False) (sp (bif false then true else decide ((↑i.k : Int) ≥ (↑i.x.q.n : Int))) (sp ((bif false then true else decide ((↑i.k : Int) ≥ (↑i.x.q.n : Int))) == true) (sp ((bif false then true else decide ((↑i.k : Int) ≥ (↑i.x.q.n : Int))) == bif false then true else decide ((↑i.k : Int) ≥ (↑i.x.q.n : Int))) (sp (decide ((↑i.k : Int) ≥ (↑i.x.q.n : Int)) == decide ((↑i.k : Int) ≥ (↑i.x.q.n : Int))) (sp (decide ((↑i.x.q.n : Int) = (↑i.x.q.n : Int))) (sp (i.x.q.n.beq i.x.q.n && i.x.q.c.beq i.x.q.c) (sp (decide ((↑i.k : Int) = (↑i.k : Int))) (sp (decide ((↑i.k : Int) ≥ (↑i.x.r.n : Int)) == false) (fnl_c_p0 i) False) False) False) False) False) False) False) (sp ((bif false then true else bif true then !(i.x.r.at_ (0 + (↑i.k : Int).toNat) ==
  i.x.q.at_ (0 + (↑i.k : Int).toNat) && (i.x.r.cause (0 + (↑i.k : Int).toNat) == i.x.q.cause (0 + (↑i.k : Int).toNat) && (i.x.r.back (0 + (↑i.k : Int).toNat) == i.x.q.back (0 + (↑i.k : Int).toNat) && (i.x.r.addr (0 + (↑i.k : Int).toNat) == i.x.q.addr (0 + (↑i.k : Int).toNat) && true)))) else i.x.r.at_ (0 + (↑i.k : Int).toNat) == i.x.q.at_ (0 + (↑i.k : Int).toNat) && (i.x.r.cause (0 + (↑i.k : Int).toNat) == i.x.q.cause (0 + (↑i.k : Int).toNat) && (i.x.r.back (0 + (↑i.k : Int).toNat) == i.x.q.back (0 + (↑i.k : Int).toNat) && (i.x.r.addr (0 + (↑i.k : Int).toNat) == i.x.q.addr (0 + (↑i.k : Int).toNat) && true)))) == bif false then true else bif true then !(i.x.r.at_ (0 + (↑i.k : Int).toNat) == i.x.q.at_ (0 + (↑i.k : Int).toNat) && (i.x.r.cause (0 + (↑i.k : Int).toNat) == i.x.q.cause (0 + (↑i.k : Int).toNat) && (i.x.r.back (0 + (↑i.k : Int).toNat) == i.x.q.back (0 + (↑i.k : Int).toNat) &&
  (i.x.r.addr (0 + (↑i.k : Int).toNat) == i.x.q.addr (0 + (↑i.k : Int).toNat) && true)))) else i.x.r.at_ (0 + (↑i.k : Int).toNat) == i.x.q.at_ (0 + (↑i.k : Int).toNat) && (i.x.r.cause (0 + (↑i.k : Int).toNat) == i.x.q.cause (0 + (↑i.k : Int).toNat) && (i.x.r.back (0 + (↑i.k : Int).toNat) == i.x.q.back (0 + (↑i.k : Int).toNat) && (i.x.r.addr (0 + (↑i.k : Int).toNat) == i.x.q.addr (0 + (↑i.k : Int).toNat) && true)))) (sp ((bif false then true else bif true then !(i.x.r.at_ (0 + (↑i.k : Int).toNat) == i.x.q.at_ (0 + (↑i.k : Int).toNat) && (i.x.r.cause (0 + (↑i.k : Int).toNat) == i.x.q.cause (0 + (↑i.k : Int).toNat) && (i.x.r.back (0 + (↑i.k : Int).toNat) == i.x.q.back (0 + (↑i.k : Int).toNat) && (i.x.r.addr (0 + (↑i.k : Int).toNat) == i.x.q.addr (0 + (↑i.k : Int).toNat) && true)))) else i.x.r.at_ (0 + (↑i.k : Int).toNat) == i.x.q.at_ (0 + (↑i.k : Int).toNat) && (i.x.r.cause (0 + (↑i.k :
  Int).toNat) == i.x.q.cause (0 + (↑i.k : Int).toNat) && (i.x.r.back (0 + (↑i.k : Int).toNat) == i.x.q.back (0 + (↑i.k : Int).toNat) && (i.x.r.addr (0 + (↑i.k : Int).toNat) == i.x.q.addr (0 + (↑i.k : Int).toNat) && true)))) == bif false then true else bif true then !(i.x.r.at_ (0 + (↑i.k : Int).toNat) == i.x.q.at_ (0 + (↑i.k : Int).toNat) && (i.x.r.cause (0 + (↑i.k : Int).toNat) == i.x.q.cause (0 + (↑i.k : Int).toNat) && (i.x.r.back (0 + (↑i.k : Int).toNat) == i.x.q.back (0 + (↑i.k : Int).toNat) && (i.x.r.addr (0 + (↑i.k : Int).toNat) == i.x.q.addr (0 + (↑i.k : Int).toNat) && true)))) else i.x.r.at_ (0 + (↑i.k : Int).toNat) == i.x.q.at_ (0 + (↑i.k : Int).toNat) && (i.x.r.cause (0 + (↑i.k : Int).toNat) == i.x.q.cause (0 + (↑i.k : Int).toNat) && (i.x.r.back (0 + (↑i.k : Int).toNat) == i.x.q.back (0 + (↑i.k : Int).toNat) && (i.x.r.addr (0 + (↑i.k : Int).toNat) == i.x.q.addr (0 + (↑i.k :
  Int).toNat) && true)))) (sp ((bif true then !(i.x.r.at_ (0 + (↑i.k : Int).toNat) == i.x.q.at_ (0 + (↑i.k : Int).toNat) && (i.x.r.cause (0 + (↑i.k : Int).toNat) == i.x.q.cause (0 + (↑i.k : Int).toNat) && (i.x.r.back (0 + (↑i.k : Int).toNat) == i.x.q.back (0 + (↑i.k : Int).toNat) && (i.x.r.addr (0 + (↑i.k : Int).toNat) == i.x.q.addr (0 + (↑i.k : Int).toNat) && true)))) else i.x.r.at_ (0 + (↑i.k : Int).toNat) == i.x.q.at_ (0 + (↑i.k : Int).toNat) && (i.x.r.cause (0 + (↑i.k : Int).toNat) == i.x.q.cause (0 + (↑i.k : Int).toNat) && (i.x.r.back (0 + (↑i.k : Int).toNat) == i.x.q.back (0 + (↑i.k : Int).toNat) && (i.x.r.addr (0 + (↑i.k : Int).toNat) == i.x.q.addr (0 + (↑i.k : Int).toNat) && true)))) == bif true then !(i.x.r.at_ (0 + (↑i.k : Int).toNat) == i.x.q.at_ (0 + (↑i.k : Int).toNat) && (i.x.r.cause (0 + (↑i.k : Int).toNat) == i.x.q.cause (0 + (↑i.k : Int).toNat) && (i.x.r.back (0 + (↑i.k :
  Int).toNat) == i.x.q.back (0 + (↑i.k : Int).toNat) && (i.x.r.addr (0 + (↑i.k : Int).toNat) == i.x.q.addr (0 + (↑i.k : Int).toNat) && true)))) else i.x.r.at_ (0 + (↑i.k : Int).toNat) == i.x.q.at_ (0 + (↑i.k : Int).toNat) && (i.x.r.cause (0 + (↑i.k : Int).toNat) == i.x.q.cause (0 + (↑i.k : Int).toNat) && (i.x.r.back (0 + (↑i.k : Int).toNat) == i.x.q.back (0 + (↑i.k : Int).toNat) && (i.x.r.addr (0 + (↑i.k : Int).toNat) == i.x.q.addr (0 + (↑i.k : Int).toNat) && true)))) (sp (decide (0 + (↑i.k : Int).toNat < i.x.q.n) && true && (decide (0 + (↑i.k : Int).toNat < i.x.q.n) && true && (decide (0 + (↑i.k : Int).toNat < i.x.q.n) && true && (decide (0 + (↑i.k : Int).toNat < i.x.q.n) && true && true))) && (decide (i.x.q.at_ (0 + (↑i.k : Int).toNat) = i.x.q.at_ (0 + (↑i.k : Int).toNat)) && (decide (i.x.q.cause (0 + (↑i.k : Int).toNat) = i.x.q.cause (0 + (↑i.k : Int).toNat)) && (decide (i.x.q.back (0 +
  (↑i.k : Int).toNat) = i.x.q.back (0 + (↑i.k : Int).toNat)) && (decide (i.x.q.addr (0 + (↑i.k : Int).toNat) = i.x.q.addr (0 + (↑i.k : Int).toNat)) && true))))) (sp (decide ((↑i.k : Int) < (↑i.x.q.n : Int)) && true && ((0 + (↑i.k : Int).toNat).beq (0 + (↑i.k : Int).toNat) && true)) (sp (decide ((↑i.k : Int) = (↑i.k : Int))) (sp (i.x.q.n.beq i.x.q.n && i.x.q.c.beq i.x.q.c) (sp (decide (0 + (↑i.k : Int).toNat < i.x.r.n) && true && (decide (0 + (↑i.k : Int).toNat < i.x.r.n) && true && (decide (0 + (↑i.k : Int).toNat < i.x.r.n) && true && (decide (0 + (↑i.k : Int).toNat < i.x.r.n) && true && true))) && (decide (i.x.r.at_ (0 + (↑i.k : Int).toNat) = i.x.r.at_ (0 + (↑i.k : Int).toNat)) && (decide (i.x.r.cause (0 + (↑i.k : Int).toNat) = i.x.r.cause (0 + (↑i.k : Int).toNat)) && (decide (i.x.r.back (0 + (↑i.k : Int).toNat) = i.x.r.back (0 + (↑i.k : Int).toNat)) && (decide (i.x.r.addr (0 + (↑i.k :
  Int).toNat) = i.x.r.addr (0 + (↑i.k : Int).toNat)) && true))))) (sp (decide ((↑i.k : Int) < (↑i.x.r.n : Int)) && true && ((0 + (↑i.k : Int).toNat).beq (0 + (↑i.k : Int).toNat) && true)) (sp (decide ((↑i.k : Int) = (↑i.k : Int))) (sp (i.x.r.n.beq i.x.r.n && i.x.r.c.beq i.x.r.c) (sp ((bif false then true else decide ((↑i.k : Int) ≥ (↑i.x.q.n : Int))) == false) (sp ((bif false then true else decide ((↑i.k : Int) ≥ (↑i.x.q.n : Int))) == bif false then true else decide ((↑i.k : Int) ≥ (↑i.x.q.n : Int))) (sp (decide ((↑i.k : Int) ≥ (↑i.x.q.n : Int)) == decide ((↑i.k : Int) ≥ (↑i.x.q.n : Int))) (sp (decide ((↑i.x.q.n : Int) = (↑i.x.q.n : Int))) (sp (i.x.q.n.beq i.x.q.n && i.x.q.c.beq i.x.q.c) (sp (decide ((↑i.k : Int) = (↑i.k : Int))) (sp (decide ((↑i.k : Int) ≥ (↑i.x.r.n : Int)) == false) (sp (decide ((↑i.k : Int) ≥ (↑i.x.r.n : Int)) == decide ((↑i.k : Int) ≥ (↑i.x.r.n : Int))) (sp (decide
  ((↑i.x.r.n : Int) = (↑i.x.r.n : Int))) (sp (i.x.r.n.beq i.x.r.n && i.x.r.c.beq i.x.r.c) (sp (decide ((↑i.k : Int) = (↑i.k : Int))) (sp (bif false then true else bif true then !(i.x.r.at_ (0 + (↑i.k : Int).toNat) == i.x.q.at_ (0 + (↑i.k : Int).toNat) && (i.x.r.cause (0 + (↑i.k : Int).toNat) == i.x.q.cause (0 + (↑i.k : Int).toNat) && (i.x.r.back (0 + (↑i.k : Int).toNat) == i.x.q.back (0 + (↑i.k : Int).toNat) && (i.x.r.addr (0 + (↑i.k : Int).toNat) == i.x.q.addr (0 + (↑i.k : Int).toNat) && true)))) else i.x.r.at_ (0 + (↑i.k : Int).toNat) == i.x.q.at_ (0 + (↑i.k : Int).toNat) && (i.x.r.cause (0 + (↑i.k : Int).toNat) == i.x.q.cause (0 + (↑i.k : Int).toNat) && (i.x.r.back (0 + (↑i.k : Int).toNat) == i.x.q.back (0 + (↑i.k : Int).toNat) && (i.x.r.addr (0 + (↑i.k : Int).toNat) == i.x.q.addr (0 + (↑i.k : Int).toNat) && true)))) False (∃ (j : FnI), (j.k ≤ j.x.r.n ∧ j.x.q.n = j.x.r.n ∧ j.x.r.n ≤
  140737488355328 ∧ ∀ (i : Nat), i < j.x.r.n → j.x.q.at_ i = j.x.r.at_ i ∧ j.x.q.cause i = j.x.r.cause i ∧ j.x.q.back i = j.x.r.back i ∧ j.x.q.addr i = j.x.r.addr i) ∧ j.x.r.n - j.k < i.x.r.n - i.k ∧ [(true, LOut.mk (AX.exit 0) [] 4 [(0, ABlk.mk false 4 (AC.recs j.x.r.n j.x.r.f)), (1, ABlk.mk false 4 (AC.recs j.x.q.n j.x.q.f))])] = [(true, LOut.mk (AX.exit 0) [] 4 [(0, ABlk.mk false 4 (AC.recs i.x.r.n i.x.r.f)), (1, ABlk.mk false 4 (AC.recs i.x.q.n i.x.q.f))])] ∧ (AV.fn (Fn.func F_judge_first_api_Note_1) [] [AV.ptr 2 0 0, AV.ptr 3 0 0] = AV.fn (Fn.func F_judge_first_api_Note_1) [] [AV.ptr 2 0 0, AV.ptr 3 0 0] ∧ nI (↑i.x.r.n : Int) = nI (↑j.x.r.n : Int) ∧ nI (IntKind.i64.wrap ((↑i.k : Int) + 1)) = nI (↑j.k : Int) ∧ True) ∧ (false = false ∧ 4 = 4 ∧ i.x.r.n = j.x.r.n ∧ ∀ (i_1 : Nat), i_1 < i.x.r.n → (fnl_c_p2 i i_1) = [nI (j.x.r.at_ i_1), nI (j.x.r.cause i_1), nU (j.x.r.back i_1), nU
  (j.x.r.addr i_1)]) ∧ (false = false ∧ 4 = 4 ∧ i.x.q.n = j.x.q.n ∧ ∀ (i_1 : Nat), i_1 < i.x.q.n → (fnl_c_p1 i i_1) = [nI (j.x.q.at_ i_1), nI (j.x.q.cause i_1), nU (j.x.q.back i_1), nU (j.x.q.addr i_1)]) ∧ bC [AV.msl 0 0 0 i.x.r.n i.x.r.c] = bC [AV.msl 0 0 0 j.x.r.n j.x.r.c] ∧ bC [AV.msl 1 0 0 i.x.q.n i.x.q.c] = bC [AV.msl 1 0 0 j.x.q.n j.x.q.c] ∧ True)) False) False) False) False) False) False) False) False) False) False) False) False) False) False) False) False) False) False) False) False) False) False))) (True ∧ (false = false ∧ 4 = 4 ∧ i.x.r.n = i.x.r.n ∧ ∀ (i_1 : Nat), i_1 < i.x.r.n → (fnl_c_p2 i i_1) = (fnl_c_p2 i i_1)) ∧ (false = false ∧ 4 = 4 ∧ i.x.q.n = i.x.q.n ∧ ∀ (i_1 : Nat), i_1 < i.x.q.n → (fnl_c_p1 i i_1) = (fnl_c_p1 i i_1)) ∧ True)
theorem fnl_c_e (i : FnI) : some (fnl_c_V i) = (some ((fnL Go.Proofs.Tryz.prog).body sp Go.Proofs.Tryz.prog (vF sp Go.Proofs.Tryz.prog (drP sp Go.Proofs.Tryz.prog) noLoops noBaseK 40 2) (drP sp Go.Proofs.Tryz.prog (vF sp Go.Proofs.Tryz.prog (drP sp Go.Proofs.Tryz.prog) noLoops noBaseK 40 2)) noLo 40 i)) := by kernel_rfl
set_option maxHeartbeats 4000000 in
theorem fnl_ok : (fnL Go.Proofs.Tryz.prog).OK Go.Proofs.Tryz.prog := by
  refine Lp.ok_of (vF_ok (fun _ hk => drP_ok hmix _ hk) (noLoops_ok _) (noBaseK_ok _) 40 2) (drP_ok hmix _ (vF_ok (fun _ hk => drP_ok hmix _ hk) (noLoops_ok _) (noBaseK_ok _) 40 2)) (noLo_ok _) (by decide) 40 (fun i hi => ?_)
  rw [← Option.some.inj (fnl_c_e i)]
  obtain ⟨⟨r, q⟩, k⟩ := i
  obtain ⟨h1, h2, h3, h4⟩ := hi
  have h1 : k ≤ r.n := h1
  have h2 : q.n = r.n := h2
  have h3 : r.n ≤ 140737488355328 := h3
  unfold fnl_c_V fnl_c_p2 fnl_c_p1 fnl_c_p0
  by_cases h : k < r.n
  · have hw : IntKind.wrap .i64 ((k : Int) + 1) = ((k + 1 : Nat) : Int) := by rw [IntWalk.i64_in _ (by omega)]; rfl
    obtain ⟨e0, e1, e2, e3⟩ := h4 k h
    dsimp only at *
    iterate 60 try first | refine spT (by first | (simp; done) | (simp [h, h2]; done) | (simp [e0, e1, e2, e3]; done) | (simp [h2]; omega)) ?_ | refine spF (by first | (simp; done) | (simp [h, h2]; done) | (simp [e0, e1, e2, e3]; done) | (simp [h2]; omega)) ?_
    exact ⟨⟨⟨r, q⟩, k + 1⟩, ⟨h, h2, h3, h4⟩, by show r.n - (k + 1) < r.n - k; omega, rfl, ⟨rfl, rfl, by show AV.int _ (IntKind.wrap .i64 ((k : Int) + 1)) = _; rw [hw], trivial⟩, ⟨rfl, rfl, rfl, fun _ _ => rfl⟩, ⟨rfl, rfl, rfl, fun _ _ => rfl⟩, rfl, rfl, trivial⟩
  · refine spF (by simp; omega) ⟨trivial, ⟨rfl, rfl, rfl, fun _ _ => rfl⟩, ⟨rfl, rfl, rfl, fun _ _ => rfl⟩, trivial⟩
abbrev fn_c_p0 (x : FnX) : Prop :=
  false = false ∧ 4 = 4 ∧ x.q.n = x.q.n ∧ ∀ (i : Nat), i < x.q.n → [nI (x.q.at_ i), nI (x.q.cause i), nU (x.q.back i), nU (x.q.addr i)] = [nI (x.q.at_ i), nI (x.q.cause i), nU (x.q.back i), nU (x.q.addr i)]
abbrev fn_c_p1 (x : FnX) : Prop :=
  false = false ∧ 4 = 4 ∧ x.r.n = x.r.n ∧ ∀ (i : Nat), i < x.r.n → [nI (x.r.at_ i), nI (x.r.cause i), nU (x.r.back i), nU (x.r.addr i)] = [nI (x.r.at_ i), nI (x.r.cause i), nU (x.r.back i), nU (x.r.addr i)]
def fn_c_V (x : FnX) : Prop :=
  same (loopOf Proofs.Tryz.prog F_judge_first_api_Note 0) (loopOf Proofs.Tryz.prog F_judge_first_api_Note 0) ∧ (0 ≤ x.r.n ∧ x.q.n = x.r.n ∧ x.r.n ≤ 140737488355328 ∧ ∀ (i : Nat), i < x.r.n → x.q.at_ i = x.r.at_ i ∧ x.q.cause i = x.r.cause i ∧ x.q.back i = x.r.back i ∧ x.q.addr i = x.r.addr i) ∧ ((AV.fn (Fn.func 77) [] [AV.ptr 2 0 0, AV.ptr 3 0 0] = AV.fn (Fn.func F_judge_first_api_Note_1) [] [AV.ptr 2 0 0, AV.ptr 3 0 0] ∧ nI (if (↑x.q.n : Int) > (↑x.r.n : Int) then (↑x.q.n : Int) else (↑x.r.n : Int)) = nI (↑x.r.n : Int) ∧ nI 0 = nI 0 ∧ True) ∧ (fn_c_p1 x) ∧ (fn_c_p0 x) ∧ ABlk.mk true [AV.msl 0 0 0 x.r.n x.r.c].length (AC.cells [AV.msl 0 0 0 x.r.n x.r.c]) = bC [AV.msl 0 0 0 x.r.n x.r.c] ∧ ABlk.mk true [AV.msl 1 0 0 x.q.n x.q.c].length (AC.cells [AV.msl 1 0 0 x.q.n x.q.c]) = bC [AV.msl 1 0 0 x.q.n x.q.c] ∧ True) ∧ ∃ (y : Unit), True ∧ [nI (-1)] = [nI (-1)] ∧ (fn_c_p1 x) ∧ (fn_c_p0 x) ∧ True
theorem fn_c_e (x : FnX) : some (fn_c_V x) = (fnC.cond sp Go.Proofs.Tryz.prog (drP sp Go.Proofs.Tryz.prog) (forF F_judge_first_api_Note ((fnL Go.Proofs.Tryz.prog).lo sp Go.Proofs.Tryz.prog (isLoop 3) (loopOf Go.Proofs.Tryz.prog F_judge_first_api_Note 0)) noLoops) noBaseK 40 2 x) := by kernel_rfl
theorem fnC_ok : fnC.OK Go.Proofs.Tryz.prog := by
  refine Con.by hmix (forF_ok (Lp.lo_ok fnl_ok rfl) (noLoops_ok _)) (noBaseK_ok _) fn_c_V fn_c_e (fun x hx => ?_)
  obtain ⟨h2, h3, h4⟩ := hx
  unfold fn_c_V fn_c_p1 fn_c_p0
  refine ⟨rfl, ⟨Nat.zero_le _, h2, h3, h4⟩, ⟨⟨rfl, by simp [h2], rfl, trivial⟩, ⟨rfl, rfl, rfl, fun _ _ => rfl⟩, ⟨rfl, rfl, rfl, fun _ _ => rfl⟩, rfl, rfl, trivial⟩, ⟨(), trivial, rfl, ⟨rfl, rfl, rfl, fun _ _ => rfl⟩, ⟨rfl, rfl, rfl, fun _ _ => rfl⟩, trivial⟩⟩
abbrev fel_c_p0 (i : FeI) : Prop :=
  sp (decide ((↑i.k : Int) ≥ (↑i.x.r.n : Int)) == decide ((↑i.k : Int) ≥ (↑i.x.r.n : Int))) (sp (decide ((↑i.x.r.n : Int) = (↑i.x.r.n : Int))) (sp (i.x.r.n.beq i.x.r.n && i.x.r.c.beq i.x.r.c) (sp (decide ((↑i.k : Int) = (↑i.k : Int))) False False) False) False) False
def fel_c_V (i : FeI) : Prop :=
  sp (decide ((↑i.k : Int) < (↑i.x.r.n : Int))) (sp (decide ((↑i.k : Int) ≥ (↑i.x.r.n : Int))) (sp (decide ((↑i.k : Int) ≥ (↑i.x.r.n : Int)) == true) (fel_c_p0 i) False) (sp (bif false then true else decide ((↑i.k : Int) ≥ (↑i.x.q.n : Int))) (sp ((bif false then true else decide ((↑i.k : Int) ≥ (↑i.x.q.n : Int))) == true) (sp ((bif false then true else decide ((↑i.k : Int) ≥ (↑i.x.q.n : Int))) == bif false then true else decide ((↑i.k : Int) ≥ (↑i.x.q.n : Int))) (sp (decide ((↑i.k : Int) ≥ (↑i.x.q.n : Int)) == decide ((↑i.k : Int) ≥ (↑i.x.q.n : Int))) (sp (decide ((↑i.x.q.n : Int) = (↑i.x.q.n : Int))) (sp (i.x.q.n.beq i.x.q.n && i.x.q.c.beq i.x.q.c) (sp (decide ((↑i.k : Int) = (↑i.k : Int))) (sp (decide ((↑i.k : Int) ≥ (↑i.x.r.n : Int)) == false) (fel_c_p0 i) False) False) False) False) False) False) False) (sp ((bif false then true else bif true then !(i.x.r.at_ (0 + (↑i.k : Int).toNat) ==
  i.x.q.at_ (0 + (↑i.k : Int).toNat) && (i.x.r.kind (0 + (↑i.k : Int).toNat) == i.x.q.kind (0 + (↑i.k : Int).toNat) && (i.x.r.byte (0 + (↑i.k : Int).toNat) == i.x.q.byte (0 + (↑i.k : Int).toNat) && true))) else i.x.r.at_ (0 + (↑i.k : Int).toNat) == i.x.q.at_ (0 + (↑i.k : Int).toNat) && (i.x.r.kind (0 + (↑i.k : Int).toNat) == i.x.q.kind (0 + (↑i.k : Int).toNat) && (i.x.r.byte (0 + (↑i.k : Int).toNat) == i.x.q.byte (0 + (↑i.k : Int).toNat) && true))) == bif false then true else bif true then !(i.x.r.at_ (0 + (↑i.k : Int).toNat) == i.x.q.at_ (0 + (↑i.k : Int).toNat) && (i.x.r.kind (0 + (↑i.k : Int).toNat) == i.x.q.kind (0 + (↑i.k : Int).toNat) && (i.x.r.byte (0 + (↑i.k : Int).toNat) == i.x.q.byte (0 + (↑i.k : Int).toNat) && true))) else i.x.r.at_ (0 + (↑i.k : Int).toNat) == i.x.q.at_ (0 + (↑i.k : Int).toNat) && (i.x.r.kind (0 + (↑i.k : Int).toNat) == i.x.q.kind (0 + (↑i.k : Int).toNat) &&
  (i.x.r.byte (0 + (↑i.k : Int).toNat) == i.x.q.byte (0 + (↑i.k : Int).toNat) && true))) (sp ((bif false then true else bif true then !(i.x.r.at_ (0 + (↑i.k : Int).toNat) == i.x.q.at_ (0 + (↑i.k : Int).toNat) && (i.x.r.kind (0 + (↑i.k : Int).toNat) == i.x.q.kind (0 + (↑i.k : Int).toNat) && (i.x.r.byte (0 + (↑i.k : Int).toNat) == i.x.q.byte (0 + (↑i.k : Int).toNat) && true))) else i.x.r.at_ (0 + (↑i.k : Int).toNat) == i.x.q.at_ (0 + (↑i.k : Int).toNat) && (i.x.r.kind (0 + (↑i.k : Int).toNat) == i.x.q.kind (0 + (↑i.k : Int).toNat) && (i.x.r.byte (0 + (↑i.k : Int).toNat) == i.x.q.byte (0 + (↑i.k : Int).toNat) && true))) == bif false then true else bif true then !(i.x.r.at_ (0 + (↑i.k : Int).toNat) == i.x.q.at_ (0 + (↑i.k : Int).toNat) && (i.x.r.kind (0 + (↑i.k : Int).toNat) == i.x.q.kind (0 + (↑i.k : Int).toNat) && (i.x.r.byte (0 + (↑i.k : Int).toNat) == i.x.q.byte (0 + (↑i.k : Int).toNat) &&
  true))) else i.x.r.at_ (0 + (↑i.k : Int).toNat) == i.x.q.at_ (0 + (↑i.k : Int).toNat) && (i.x.r.kind (0 + (↑i.k : Int).toNat) == i.x.q.kind (0 + (↑i.k : Int).toNat) && (i.x.r.byte (0 + (↑i.k : Int).toNat) == i.x.q.byte (0 + (↑i.k : Int).toNat) && true))) (sp ((bif true then !(i.x.r.at_ (0 + (↑i.k : Int).toNat) == i.x.q.at_ (0 + (↑i.k : Int).toNat) && (i.x.r.kind (0 + (↑i.k : Int).toNat) == i.x.q.kind (0 + (↑i.k : Int).toNat) && (i.x.r.byte (0 + (↑i.k : Int).toNat) == i.x.q.byte (0 + (↑i.k : Int).toNat) && true))) else i.x.r.at_ (0 + (↑i.k : Int).toNat) == i.x.q.at_ (0 + (↑i.k : Int).toNat) && (i.x.r.kind (0 + (↑i.k : Int).toNat) == i.x.q.kind (0 + (↑i.k : Int).toNat) && (i.x.r.byte (0 + (↑i.k : Int).toNat) == i.x.q.byte (0 + (↑i.k : Int).toNat) && true))) == bif true then !(i.x.r.at_ (0 + (↑i.k : Int).toNat) == i.x.q.at_ (0 + (↑i.k : Int).toNat) && (i.x.r.kind (0 + (↑i.k : Int).toNat) ==
  i.x.q.kind (0 + (↑i.k : Int).toNat) && (i.x.r.byte (0 + (↑i.k : Int).toNat) == i.x.q.byte (0 + (↑i.k : Int).toNat) && true))) else i.x.r.at_ (0 + (↑i.k : Int).toNat) == i.x.q.at_ (0 + (↑i.k : Int).toNat) && (i.x.r.kind (0 + (↑i.k : Int).toNat) == i.x.q.kind (0 + (↑i.k : Int).toNat) && (i.x.r.byte (0 + (↑i.k : Int).toNat) == i.x.q.byte (0 + (↑i.k : Int).toNat) && true))) (sp (decide (0 + (↑i.k : Int).toNat < i.x.q.n) && true && (decide (0 + (↑i.k : Int).toNat < i.x.q.n) && true && (decide (0 + (↑i.k : Int).toNat < i.x.q.n) && true && true)) && (decide (i.x.q.at_ (0 + (↑i.k : Int).toNat) = i.x.q.at_ (0 + (↑i.k : Int).toNat)) && (decide (i.x.q.kind (0 + (↑i.k : Int).toNat) = i.x.q.kind (0 + (↑i.k : Int).toNat)) && (decide (i.x.q.byte (0 + (↑i.k : Int).toNat) = i.x.q.byte (0 + (↑i.k : Int).toNat)) && true)))) (sp (decide ((↑i.k : Int) < (↑i.x.q.n : Int)) && true && ((0 + (↑i.k :
  Int).toNat).beq (0 + (↑i.k : Int).toNat) && true)) (sp (decide ((↑i.k : Int) = (↑i.k : Int))) (sp (i.x.q.n.beq i.x.q.n && i.x.q.c.beq i.x.q.c) (sp (decide (0 + (↑i.k : Int).toNat < i.x.r.n) && true && (decide (0 + (↑i.k : Int).toNat < i.x.r.n) && true && (decide (0 + (↑i.k : Int).toNat < i.x.r.n) && true && true)) && (decide (i.x.r.at_ (0 + (↑i.k : Int).toNat) = i.x.r.at_ (0 + (↑i.k : Int).toNat)) && (decide (i.x.r.kind (0 + (↑i.k : Int).toNat) = i.x.r.kind (0 + (↑i.k : Int).toNat)) && (decide (i.x.r.byte (0 + (↑i.k : Int).toNat) = i.x.r.byte (0 + (↑i.k : Int).toNat)) && true)))) (sp (decide ((↑i.k : Int) < (↑i.x.r.n : Int)) && true && ((0 + (↑i.k : Int).toNat).beq (0 + (↑i.k : Int).toNat) && true)) (sp (decide ((↑i.k : Int) = (↑i.k : Int))) (sp (i.x.r.n.beq i.x.r.n && i.x.r.c.beq i.x.r.c) (sp ((bif false then true else decide ((↑i.k : Int) ≥ (↑i.x.q.n : Int))) == false) (sp ((bif false
  then true else decide ((↑i.k : Int) ≥ (↑i.x.q.n : Int))) == bif false then true else decide ((↑i.k : Int) ≥ (↑i.x.q.n : Int))) (sp (decide ((↑i.k : Int) ≥ (↑i.x.q.n : Int)) == decide ((↑i.k : Int) ≥ (↑i.x.q.n : Int))) (sp (decide ((↑i.x.q.n : Int) = (↑i.x.q.n : Int))) (sp (i.x.q.n.beq i.x.q.n && i.x.q.c.beq i.x.q.c) (sp (decide ((↑i.k : Int) = (↑i.k : Int))) (sp (decide ((↑i.k : Int) ≥ (↑i.x.r.n : Int)) == false) (sp (decide ((↑i.k : Int) ≥ (↑i.x.r.n : Int)) == decide ((↑i.k : Int) ≥ (↑i.x.r.n : Int))) (sp (decide ((↑i.x.r.n : Int) = (↑i.x.r.n : Int))) (sp (i.x.r.n.beq i.x.r.n && i.x.r.c.beq i.x.r.c) (sp (decide ((↑i.k : Int) = (↑i.k : Int))) (sp (bif false then true else bif true then !(i.x.r.at_ (0 + (↑i.k : Int).toNat) == i.x.q.at_ (0 + (↑i.k : Int).toNat) && (i.x.r.kind (0 + (↑i.k : Int).toNat) == i.x.q.kind (0 + (↑i.k : Int).toNat) && (i.x.r.byte (0 + (↑i.k : Int).toNat) ==
  i.x.q.byte (0 + (↑i.k : Int).toNat) && true))) else i.x.r.at_ (0 + (↑i.k : Int).toNat) == i.x.q.at_ (0 + (↑i.k : Int).toNat) && (i.x.r.kind (0 + (↑i.k : Int).toNat) == i.x.q.kind (0 + (↑i.k : Int).toNat) && (i.x.r.byte (0 + (↑i.k : Int).toNat) == i.x.q.byte (0 + (↑i.k : Int).toNat) && true))) False (∃ (j : FeI), (j.k ≤ j.x.r.n ∧ j.x.q.n = j.x.r.n ∧ j.x.r.n ≤ 140737488355328 ∧ ∀ (i : Nat), i < j.x.r.n → j.x.q.at_ i = j.x.r.at_ i ∧ j.x.q.kind i = j.x.r.kind i ∧ j.x.q.byte i = j.x.r.byte i) ∧ j.x.r.n - j.k < i.x.r.n - i.k ∧ [(true, LOut.mk (AX.exit 0) [] 4 [(0, ABlk.mk false 3 (AC.recs j.x.r.n j.x.r.f)), (1, ABlk.mk false 3 (AC.recs j.x.q.n j.x.q.f))])] = [(true, LOut.mk (AX.exit 0) [] 4 [(0, ABlk.mk false 3 (AC.recs i.x.r.n i.x.r.f)), (1, ABlk.mk false 3 (AC.recs i.x.q.n i.x.q.f))])] ∧ (AV.fn (Fn.func F_judge_first_api_Event_1) [] [AV.ptr 2 0 0, AV.ptr 3 0 0] = AV.fn (Fn.func
  F_judge_first_api_Event_1) [] [AV.ptr 2 0 0, AV.ptr 3 0 0] ∧ nI (↑i.x.r.n : Int) = nI (↑j.x.r.n : Int) ∧ nI (IntKind.i64.wrap ((↑i.k : Int) + 1)) = nI (↑j.k : Int) ∧ True) ∧ (false = false ∧ 3 = 3 ∧ i.x.r.n = j.x.r.n ∧ ∀ (i_1 : Nat), i_1 < i.x.r.n → [nI (i.x.r.at_ i_1), nI (i.x.r.kind i_1), nB (i.x.r.byte i_1)] = [nI (j.x.r.at_ i_1), nI (j.x.r.kind i_1), nB (j.x.r.byte i_1)]) ∧ (false = false ∧ 3 = 3 ∧ i.x.q.n = j.x.q.n ∧ ∀ (i_1 : Nat), i_1 < i.x.q.n → [nI (i.x.q.at_ i_1), nI (i.x.q.kind i_1), nB (i.x.q.byte i_1)] = [nI (j.x.q.at_ i_1), nI (j.x.q.kind i_1), nB (j.x.q.byte i_1)]) ∧ bC [AV.msl 0 0 0 i.x.r.n i.x.r.c] = bC [AV.msl 0 0 0 j.x.r.n j.x.r.c] ∧ bC [AV.msl 1 0 0 i.x.q.n i.x.q.c] = bC [AV.msl 1 0 0 j.x.q.n j.x.q.c] ∧ True)) False) False) False) False) False) False) False) False) False) False) False) False) False) False) False) False) False) False) False) False) False) False))) (True
  ∧ (false = false ∧ 3 = 3 ∧ i.x.r.n = i.x.r.n ∧ ∀ (i_1 : Nat), i_1 < i.x.r.n → [nI (i.x.r.at_ i_1), nI (i.x.r.kind i_1), nB (i.x.r.byte i_1)] = [nI (i.x.r.at_ i_1), nI (i.x.r.kind i_1), nB (i.x.r.byte i_1)]) ∧ (false = false ∧ 3 = 3 ∧ i.x.q.n = i.x.q.n ∧ ∀ (i_1 : Nat), i_1 < i.x.q.n → [nI (i.x.q.at_ i_1), nI (i.x.q.kind i_1), nB (i.x.q.byte i_1)] = [nI (i.x.q.at_ i_1), nI (i.x.q.kind i_1), nB (i.x.q.byte i_1)]) ∧ True)
theorem fel_c_e (i : FeI) : some (fel_c_V i) = (some ((feL Go.Proofs.Tryz.prog).body sp Go.Proofs.Tryz.prog (vF sp Go.Proofs.Tryz.prog (drP sp Go.Proofs.Tryz.prog) noLoops noBaseK 40 2) (drP sp Go.Proofs.Tryz.prog (vF sp Go.Proofs.Tryz.prog (drP sp Go.Proofs.Tryz.prog) noLoops noBaseK 40 2)) noLo 40 i)) := by kernel_rfl
set_option maxHeartbeats 4000000 in
theorem fel_ok : (feL Go.Proofs.Tryz.prog).OK Go.Proofs.Tryz.prog := by
  refine Lp.ok_of (vF_ok (fun _ hk => drP_ok hmix _ hk) (noLoops_ok _) (noBaseK_ok _) 40 2) (drP_ok hmix _ (vF_ok (fun _ hk => drP_ok hmix _ hk) (noLoops_ok _) (noBaseK_ok _) 40 2)) (noLo_ok _) (by decide) 40 (fun i hi => ?_)
  rw [← Option.some.inj (fel_c_e i)]
  obtain ⟨⟨r, q⟩, k⟩ := i
  obtain ⟨h1, h2, h3, h4⟩ := hi
  have h1 : k ≤ r.n := h1
  have h2 : q.n = r.n := h2
  have h3 : r.n ≤ 140737488355328 := h3
  unfold fel_c_V fel_c_p0
  by_cases h : k < r.n
  · have hw : IntKind.wrap .i64 ((k : Int) + 1) = ((k + 1 : Nat) : Int) := by rw [IntWalk.i64_in _ (by omega)]; rfl
    obtain ⟨e0, e1, e2⟩ := h4 k h
    dsimp only at *
    iterate 60 try first | refine spT (by first | (simp; done) | (simp [h, h2]; done) | (simp [e0, e1, e2]; done) | (simp [h2]; omega)) ?_ | refine spF (by first | (simp; done) | (simp [h, h2]; done) | (simp [e0, e1, e2]; done) | (simp [h2]; omega)) ?_
    exact ⟨⟨⟨r, q⟩, k + 1⟩, ⟨h, h2, h3, h4⟩, by show r.n - (k + 1) < r.n - k; omega, rfl, ⟨rfl, rfl, by show AV.int _ (IntKind.wrap .i64 ((k : Int) + 1)) = _; rw [hw], trivial⟩, ⟨rfl, rfl, rfl, fun _ _ => rfl⟩, ⟨rfl, rfl, rfl, fun _ _ => rfl⟩, rfl, rfl, trivial⟩
  · refine spF (by simp; omega) ⟨trivial, ⟨rfl, rfl, rfl, fun _ _ => rfl⟩, ⟨rfl, rfl, rfl, fun _ _ => rfl⟩, trivial⟩
abbrev fe_c_p0 (x : FeX) : Prop :=
  false = false ∧ 3 = 3 ∧ x.q.n = x.q.n ∧ ∀ (i : Nat), i < x.q.n → [nI (x.q.at_ i), nI (x.q.kind i), nB (x.q.byte i)] = [nI (x.q.at_ i), nI (x.q.kind i), nB (x.q.byte i)]
abbrev fe_c_p1 (x : FeX) : Prop :=
  false = false ∧ 3 = 3 ∧ x.r.n = x.r.n ∧ ∀ (i : Nat), i < x.r.n → [nI (x.r.at_ i), nI (x.r.kind i), nB (x.r.byte i)] = [nI (x.r.at_ i), nI (x.r.kind i), nB (x.r.byte i)]
def fe_c_V (x : FeX) : Prop :=
  same (loopOf Proofs.Tryz.prog F_judge_first_api_Event 0) (loopOf Proofs.Tryz.prog F_judge_first_api_Event 0) ∧ (0 ≤ x.r.n ∧ x.q.n = x.r.n ∧ x.r.n ≤ 140737488355328 ∧ ∀ (i : Nat), i < x.r.n → x.q.at_ i = x.r.at_ i ∧ x.q.kind i = x.r.kind i ∧ x.q.byte i = x.r.byte i) ∧ ((AV.fn (Fn.func 78) [] [AV.ptr 2 0 0, AV.ptr 3 0 0] = AV.fn (Fn.func F_judge_first_api_Event_1) [] [AV.ptr 2 0 0, AV.ptr 3 0 0] ∧ nI (if (↑x.q.n : Int) > (↑x.r.n : Int) then (↑x.q.n : Int) else (↑x.r.n : Int)) = nI (↑x.r.n : Int) ∧ nI 0 = nI 0 ∧ True) ∧ (fe_c_p1 x) ∧ (fe_c_p0 x) ∧ ABlk.mk true [AV.msl 0 0 0 x.r.n x.r.c].length (AC.cells [AV.msl 0 0 0 x.r.n x.r.c]) = bC [AV.msl 0 0 0 x.r.n x.r.c] ∧ ABlk.mk true [AV.msl 1 0 0 x.q.n x.q.c].length (AC.cells [AV.msl 1 0 0 x.q.n x.q.c]) = bC [AV.msl 1 0 0 x.q.n x.q.c] ∧ True) ∧ ∃ (y : Unit), True ∧ [nI (-1)] = [nI (-1)] ∧ (fe_c_p1 x) ∧ (fe_c_p0 x) ∧ True
theorem fe_c_e (x : FeX) : some (fe_c_V x) = (feC.cond sp Go.Proofs.Tryz.prog (drP sp Go.Proofs.Tryz.prog) (forF F_judge_first_api_Event ((feL Go.Proofs.Tryz.prog).lo sp Go.Proofs.Tryz.prog (isLoop 3) (loopOf Go.Proofs.Tryz.prog F_judge_first_api_Event 0)) noLoops) noBaseK 40 2 x) := by kernel_rfl
theorem feC_ok : feC.OK Go.Proofs.Tryz.prog := by
  refine Con.by hmix (forF_ok (Lp.lo_ok fel_ok rfl) (noLoops_ok _)) (noBaseK_ok _) fe_c_V fe_c_e (fun x hx => ?_)
  obtain ⟨h2, h3, h4⟩ := hx
  unfold fe_c_V fe_c_p1 fe_c_p0
  refine ⟨rfl, ⟨Nat.zero_le _, h2, h3, h4⟩, ⟨⟨rfl, by simp [h2], rfl, trivial⟩, ⟨rfl, rfl, rfl, fun _ _ => rfl⟩, ⟨rfl, rfl, rfl, fun _ _ => rfl⟩, rfl, rfl, trivial⟩, ⟨(), trivial, rfl, ⟨rfl, rfl, rfl, fun _ _ => rfl⟩, ⟨rfl, rfl, rfl, fun _ _ => rfl⟩, trivial⟩⟩
end Go.Proofs.YtmbcpmbpkdeioaaGreatDoor.W
/- A guest of one frame: what is reckoned. No condition. -/
namespace Go.Proofs.YtmbcpmbpkdeioaaGreatDoor.W
open Go Go.RowKit Go.Eng
set_option maxRecDepth 100000
set_option linter.unusedVariables false
set_option linter.unusedSimpArgs false
def wkC : Con Unit Unit where
  f := F_mummerlaw30_works
  fit vs H := match vs with
    | [] => some ([], ())
    | _ => none
  n0 := 0
  pre _ := True
  args _ := []
  L0 _ := []
  outs _ := [(fun _ => True, fun _ => (.ret (.bool true), 0, []))]
end Go.Proofs.YtmbcpmbpkdeioaaGreatDoor.W
/- A guest of one frame: the walk. No condition. -/
namespace Go.Proofs.YtmbcpmbpkdeioaaGreatDoor.W
open Go Go.RowKit Go.Eng
set_option maxRecDepth 100000
set_option linter.unusedVariables false
set_option linter.unusedSimpArgs false
abbrev wk_c_p0 (x : Unit) : Sv :=
  Sv.mk 1 (Row.mk [0, 0, 0, 0, 0, 0, 0, 0, 0, 0, 0, 0, 0, 0, 0, 0, 0, 0, 0, 0, 0, 0, 0, 0, 0, 0, 0, 0, 0, 0, 0, 0, 0, 0, 0, 0, 0, 0, 0, 0, 0, 0, 0, 0, 0, 0, 0, 0, 0, 0, 0, 0, 0, 0, 0, 0, 0, 0, 0, 0, 0, 0, 0, 0] 64) (St.mk 0 0 0 0 0 0 0 0 0 0 0 0 0 0 0 0 0 0 false) 0 (NRow.mk 0 0 (fun (i : Nat) => numAt ((fun (x : Nat) => [nI 0, nI 0, nU 0, nU 0]) i) 0) (fun (i : Nat) => numAt ((fun (x : Nat) => [nI 0, nI 0, nU 0, nU 0]) i) 1) (fun (i : Nat) => numAt ((fun (x : Nat) => [nI 0, nI 0, nU 0, nU 0]) i) 2) fun (i : Nat) => numAt ((fun (x : Nat) => [nI 0, nI 0, nU 0, nU 0]) i) 3) (Row.mk [] 0) (Row.mk [] 0) (Row.mk [] 0) (ERow.mk 0 0 (fun (i : Nat) => numAt ((fun (x : Nat) => [nI 0, nI 0, nB 0]) i) 0) (fun (i : Nat) => numAt ((fun (x : Nat) => [nI 0, nI 0, nB 0]) i) 1) fun (i : Nat) => numAt ((fun (x : Nat) => [nI 0, nI 0, nB 0]) i) 2) 0 0 0 0 0 0 0 0
abbrev wk_c_p1 (x : Unit) : List AV :=
  [AV.agg [nI 1, AV.msl 0 0 0 64 64, nU 0, nU 0, nU 0, nU 0, nU 0, nU 0, nU 0, nU 0, nU 0, nU 0, nU 0, nU 0, nU 0, nU 0, nU 0, nU 0, nU 0, nU 0, AV.bool false, nI 0, AV.msl 2 0 0 0 0, AV.msl 3 0 0 0 0, AV.msl 4 0 0 0 0, AV.msl 5 0 0 0 0, AV.msl 6 0 0 0 0, nU 0, nU 0, nU 0, nU 0, nU 0, nU 0, nU 0, nU 0]]
def wk_c_V (x : Unit) : Prop :=
  ((64 ≤ 140737488351232 ∧ 64 ≤ 64) ∧ (0 ≤ 5864062014634 ∧ 0 ≤ 0) ∧ (0 ≤ 140737488351232 ∧ 0 ≤ 0) ∧ (0 ≤ 140737488351232 ∧ 0 ≤ 0) ∧ (0 ≤ 140737488351232 ∧ 0 ≤ 0) ∧ 0 ≤ 140737488351232 ∧ 0 ≤ 0) ∧ (wk_c_p1 x) = (wk_c_p1 x) ∧ (some (bR [0, 0, 0, 0, 0, 0, 0, 0, 0, 0, 0, 0, 0, 0, 0, 0, 0, 0, 0, 0, 0, 0, 0, 0, 0, 0, 0, 0, 0, 0, 0, 0, 0, 0, 0, 0, 0, 0, 0, 0, 0, 0, 0, 0, 0, 0, 0, 0, 0, 0, 0, 0, 0, 0, 0, 0, 0, 0, 0, 0, 0, 0, 0, 0]) = some (bR [0, 0, 0, 0, 0, 0, 0, 0, 0, 0, 0, 0, 0, 0, 0, 0, 0, 0, 0, 0, 0, 0, 0, 0, 0, 0, 0, 0, 0, 0, 0, 0, 0, 0, 0, 0, 0, 0, 0, 0, 0, 0, 0, 0, 0, 0, 0, 0, 0, 0, 0, 0, 0, 0, 0, 0, 0, 0, 0, 0, 0, 0, 0, 0]) ∧ some (ABlk.mk false 4 (AC.recs 0 fun (x : Nat) => [nI 0, nI 0, nU 0, nU 0])) = some (ABlk.mk false 4 (AC.recs 0 fun (i : Nat) => [nI 0, nI 0, nU 0, nU 0])) ∧ some (bR []) = some (bR []) ∧ some (bR []) = some (bR []) ∧ some (bR []) = some (bR []) ∧ some (ABlk.mk false 3
  (AC.recs 0 fun (x : Nat) => [nI 0, nI 0, nB 0])) = some (ABlk.mk false 3 (AC.recs 0 fun (i : Nat) => [nI 0, nI 0, nB 0])) ∧ True) ∧ (∀ (y : Unit), keepN (wk_c_p0 x) = 3 → ∃ (y : Unit), True ∧ [AV.bool false] = [AV.bool true] ∧ True) ∧ (∀ (y : Unit), keepN (wk_c_p0 x) = 2 → ∃ (y : Unit), True ∧ [AV.bool false] = [AV.bool true] ∧ True) ∧ (∀ (y : Unit), keepN (wk_c_p0 x) = 0 → (103 ≤ 103 ∧ 103 ≤ 9223372036854775807) ∧ [AV.sl 195 0 0 1 1 true] = [AV.sl 195 0 0 1 1 true] ∧ (some (bC [AV.sl 194 0 0 103 103 false]) = some (bC [AV.sl 194 0 0 103 103 false]) ∧ some (bW [109, 117, 109, 1, 1, 64, 0, 0, 0, 0, 0, 0, 0, 0, 0, 0, 0, 0, 0, 0, 0, 0, 0, 0, 0, 0, 0, 0, 0, 0, 0, 0, 0, 0, 0, 0, 0, 0, 0, 0, 0, 0, 0, 0, 0, 0, 0, 0, 0, 0, 0, 0, 0, 0, 0, 0, 0, 0, 0, 0, 0, 0, 0, 0, 0, 0, 0, 0, 0, 0, 0, 0, 0, 0, 0, 0, 0, 0, 0, 0, 0, 0, 0, 0, 0, 0, 0, 0, 0, 0, 0, 0, 0, 0, 0, 0, 0, 0, 0, 0, 0, 0, 0]) = some (bW [109,
  117, 109, 1, 1, 64, 0, 0, 0, 0, 0, 0, 0, 0, 0, 0, 0, 0, 0, 0, 0, 0, 0, 0, 0, 0, 0, 0, 0, 0, 0, 0, 0, 0, 0, 0, 0, 0, 0, 0, 0, 0, 0, 0, 0, 0, 0, 0, 0, 0, 0, 0, 0, 0, 0, 0, 0, 0, 0, 0, 0, 0, 0, 0, 0, 0, 0, 0, 0, 0, 0, 0, 0, 0, 0, 0, 0, 0, 0, 0, 0, 0, 0, 0, 0, 0, 0, 0, 0, 0, 0, 0, 0, 0, 0, 0, 0, 0, 0, 0, 0, 0, 0]) ∧ True) ∧ (∀ (y : Unit), True → ∃ (y : Unit), True ∧ [AV.bool true] = [AV.bool true] ∧ True) ∧ True) ∧ True
theorem wk_c_e (x : Unit) : some (wk_c_V x) = (wkC.cond sp Go.Proofs.Tryz.prog (drP sp Go.Proofs.Tryz.prog) noLoops (orK (looseK F_file_May 1 svSpec (keepC.orc sp)) (sumC.orc sp)) 60 9 x) := by kernel_rfl
set_option maxRecDepth 100000 in
theorem wk_ok : wkC.OK Go.Proofs.Tryz.prog := by
  refine Con.by hmix (noLoops_ok _) (orK_ok (looseK_ok (Con.orc_ok keepC_ok)) (Con.orc_ok sumC_ok)) wk_c_V wk_c_e (fun x hx => ?_)
  unfold wk_c_V wk_c_p1 wk_c_p0
  exact ⟨by decide, rfl, ⟨rfl, rfl, rfl, rfl, rfl, rfl, trivial⟩, (fun y h => by cases h), (fun y h => by cases h), (fun y h => ⟨⟨by decide, by decide⟩, rfl, ⟨rfl, rfl, trivial⟩, (fun _ _ => ⟨(), trivial, rfl, trivial⟩), trivial⟩), trivial⟩
end Go.Proofs.YtmbcpmbpkdeioaaGreatDoor.W
/- Two guests told apart: what is reckoned. No condition. -/
namespace Go.Proofs.YtmbcpmbpkdeioaaGreatDoor.W
open Go Go.RowKit Go.Eng
set_option maxRecDepth 100000
set_option linter.unusedVariables false
set_option linter.unusedSimpArgs false
/-- Two guests alike: the second one's rows. -/
structure TlX where
  x : Sv
  c0 : Nat
  c2 : Nat
  c3 : Nat
  c4 : Nat
  q : NRow
  e : ERow
def TlX.y (t : TlX) : Sv := { t.x with mem := ⟨t.x.mem.bs, t.c0⟩, notes := t.q, out := ⟨t.x.out.bs, t.c2⟩, disk := ⟨t.x.disk.bs, t.c3⟩, queue := ⟨t.x.queue.bs, t.c4⟩, script := t.e }
def up6 : Nat → Nat := fun b => b + 6
def TlX.L (t : TlX) : LH := [(0, t.x.mem.blk), (1, t.x.notes.blk), (2, t.x.out.blk), (3, t.x.disk.blk), (4, t.x.queue.blk), (5, t.x.script.blk), (6, t.y.mem.blk), (7, t.y.notes.blk), (8, t.y.out.blk), (9, t.y.disk.blk), (10, t.y.queue.blk), (11, t.y.script.blk)]
def TlX.ok (t : TlX) : Prop := t.x.mem.bs.length ≤ 140737488355328 ∧ (FnX.mk t.x.notes t.q).same ∧ t.x.out.bs.length ≤ 140737488355328 ∧ t.x.disk.bs.length ≤ 140737488355328 ∧ t.x.queue.bs.length ≤ 140737488355328 ∧ (FeX.mk t.x.script t.e).same
def tlFit (vs : List AV) (H : AH) : Option (List Nat × TlX) := match vs with
  | [.agg l, .agg l2] => match svOf H l, svOf H l2 with
    | some (ms, x), some (ns, y) => some (ms ++ ns, ⟨x, y.mem.c, y.out.c, y.disk.c, y.queue.c, y.notes, y.script⟩)
    | _, _ => none
  | _ => none
/-! ### the parts of two guests alike -/
structure NmX where
  nm : ByteArray
  n : Int
def numbersC : Con NmX Unit where
  f := F_judge_numbers
  fit vs H := match vs with
    | [.str nm, .int _ a, .int _ _] => some ([], ⟨nm, a⟩)
    | _ => none
  n0 := 0
  pre _ := True
  args x := [.str x.nm, .int .i64 x.n, .int .i64 x.n]
  L0 _ := []
  outs x := [(fun _ => True, fun _ => (.ret (.agg [.str x.nm, .bool false, .fn (.func F_judge_numbers_1) [] [.ptr 0 0 0, .ptr 1 0 0]]), 3, []))]
def listC : Con ByteArray Unit where
  f := F_judge_list
  fit vs H := match vs with
    | [.str nm, .int _ _] => some ([], nm)
    | _ => none
  n0 := 0
  pre _ := True
  args nm := [.str nm, .int .i64 (-1)]
  L0 _ := []
  outs nm := [(fun _ => True, fun _ => (.ret (.agg [.str nm, .bool false, .fn (.func F_judge_list_1) [] [.ptr 0 0 0]]), 2, []))]
structure BtX where
  nm : ByteArray
  x : FbX
def bytesC : Con BtX Unit where
  f := F_judge_bytes
  fit vs H := match vs with
    | [.str nm, .msl b _ _ _ c, .msl b1 _ _ _ d] => (rowOf H b c).map fun r => ([b, b1], ⟨nm, ⟨r.bs, c, d⟩⟩)
    | _ => none
  n0 := 2
  pre x := x.x.bs.length ≤ 140737488355328
  args x := [.str x.nm, .msl 0 0 0 x.x.bs.length x.x.c, .msl 1 0 0 x.x.bs.length x.x.d]
  L0 x := x.x.L
  outs x := [(fun _ => True, fun _ => (.ret (.agg [.str x.nm, .bool false, .fn (.func F_judge_bytes_1) [] [.ptr 5 0 0, .ptr 2 0 0, .ptr 3 0 0]]), 6, x.x.L))]
def stateS : ByteArray := ⟨#[115, 116, 97, 116, 101]⟩
def statesC : Con St Unit where
  f := F_judge_states
  fit vs H := match vs with
    | [.agg l, .agg _] => (stOf l).map fun s => ([], s)
    | _ => none
  n0 := 0
  pre _ := True
  args s := [.agg s.av, .agg s.av]
  L0 _ := []
  outs s := [(fun _ => True, fun _ => (.ret (.agg [.str stateS, .bool false, .fn (.func F_judge_states_1) [] [.ptr 5 0 0, .ptr 6 0 0]]), 7, []))]
def devicesC : Con Sv Unit where
  f := F_judge_devices
  fit := svFit
  n0 := 6
  pre _ := True
  args x := [.agg x.av]
  L0 x := x.L
  outs x := [(fun _ => True, fun _ => (.ret (.agg [.int .u32 x.b1, .int .u32 x.b2, .int .u32 x.b3, .int .u32 x.b4, .int .u32 x.b5, .int .u32 x.b6, .int .u32 x.b7, .int .u32 x.b8]), 8, x.L))]
def notesC : Con FnX Unit := { fnC with f := F_judge_Notes }
def eventsC : Con FeX Unit := { feC with f := F_judge_Events }
def partsAV : List AV := [.str ⟨#[102, 114, 97, 109, 101, 115]⟩, .bool false, .fn (.func F_judge_numbers_1) [] [.ptr 13 0 0, .ptr 14 0 0], .str ⟨#[115, 116, 101, 112, 115]⟩, .bool false, .fn (.func F_judge_numbers_1) [] [.ptr 15 0 0, .ptr 16 0 0], .str ⟨#[115, 116, 97, 116, 101]⟩, .bool false, .fn (.func F_judge_states_1) [] [.ptr 17 0 0, .ptr 18 0 0], .str ⟨#[109, 101, 109]⟩, .bool false, .fn (.func F_judge_bytes_1) [] [.ptr 19 0 0, .ptr 20 0 0, .ptr 21 0 0], .str ⟨#[110, 111, 116, 101, 115]⟩, .bool false, .fn (.func F_judge_list_1) [] [.ptr 22 0 0], .str ⟨#[111, 117, 116]⟩, .bool false, .fn (.func F_judge_bytes_1) [] [.ptr 23 0 0, .ptr 24 0 0, .ptr 25 0 0], .str ⟨#[100, 105, 115, 107]⟩, .bool false, .fn (.func F_judge_bytes_1) [] [.ptr 26 0 0, .ptr 27 0 0, .ptr 28 0 0], .str ⟨#[113, 117, 101, 117, 101]⟩, .bool false, .fn (.func F_judge_bytes_1) [] [.ptr 29 0 0, .ptr 30 0 0, .ptr 31 0 0], .str ⟨#[115, 99, 114, 105, 112, 116]⟩, .bool false, .fn (.func F_judge_list_1) [] [.ptr 32 0 0], .str ⟨#[100, 101, 118, 105, 99, 101, 115]⟩, .bool false, .fn (.func F_judge_parts_1) [] []]
def partC : Con TlX Unit where
  f := F_judge_parts
  fit := tlFit
  n0 := 12
  pre t := t.ok
  args t := [.agg t.x.av, .agg (AV.rens up6 t.y.av)]
  L0 t := t.L
  outs t := [(fun _ => True, fun _ => (.ret (.sl 12 0 0 10 10 true), 33, t.L ++ [(12, ⟨true, 3, .cells partsAV⟩)]))]
def tellC : Con TlX Unit where
  f := F_judge_Tell
  fit := tlFit
  n0 := 12
  pre t := t.ok
  args t := [.agg t.x.av, .agg (AV.rens up6 t.y.av)]
  L0 t := t.L
  outs t := [(fun _ => True, fun _ => (.ret (.str ⟨#[]⟩), 12, t.L))]
def tellNo : List FuncId := [F_judge_values, F_judge_numbers_1, F_judge_states_1, F_judge_bytes_1, F_judge_list_1, F_judge_parts_1]
end Go.Proofs.YtmbcpmbpkdeioaaGreatDoor.W
