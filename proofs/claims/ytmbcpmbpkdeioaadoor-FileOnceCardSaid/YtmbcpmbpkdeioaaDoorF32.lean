/- Devices of a saved guest: the walks of disks. No condition. -/
import Derived.Test.YtmbcpmbpkdeioaaDoorF31
import Derived.KernelRfl
namespace Go.Proofs.YtmbcpmbpkdeioaaDoor.W
open Go Go.RowKit Go.Eng
set_option maxRecDepth 100000
set_option linter.unusedVariables false
set_option linter.unusedSimpArgs false
def laidA_c_V (r : Row) (k : Nat) (g : Nat → List AV) : Prop :=
  sp (decide ((↑(r.bs.length - 64 * k) : Int) ≥ 64)) (sp (decide (64 * k + 0 + 0 < r.bs.length) && (decide (64 * k + 0 + 1 < r.bs.length) && (decide (64 * k + 0 + 2 < r.bs.length) && (decide (64 * k + 0 + 3 < r.bs.length) && (decide (64 * k + 0 + 4 < r.bs.length) && (decide (64 * k + 0 + 5 < r.bs.length) && (decide (64 * k + 0 + 6 < r.bs.length) && (decide (64 * k + 0 + 7 < r.bs.length) && (decide (64 * k + 0 + 8 < r.bs.length) && (decide (64 * k + 0 + 9 < r.bs.length) && (decide (64 * k + 0 + 10 < r.bs.length) && (decide (64 * k + 0 + 11 < r.bs.length) && (decide (64 * k + 0 + 12 < r.bs.length) && (decide (64 * k + 0 + 13 < r.bs.length) && (decide (64 * k + 0 + 14 < r.bs.length) && (decide (64 * k + 0 + 15 < r.bs.length) && (decide (64 * k + 0 + 16 < r.bs.length) && (decide (64 * k + 0 + 17 < r.bs.length) && (decide (64 * k + 0 + 18 < r.bs.length) && (decide (64 * k + 0 + 19 < r.bs.length)
  && (decide (64 * k + 0 + 20 < r.bs.length) && (decide (64 * k + 0 + 21 < r.bs.length) && (decide (64 * k + 0 + 22 < r.bs.length) && (decide (64 * k + 0 + 23 < r.bs.length) && (decide (64 * k + 0 + 24 < r.bs.length) && (decide (64 * k + 0 + 25 < r.bs.length) && (decide (64 * k + 0 + 26 < r.bs.length) && (decide (64 * k + 0 + 27 < r.bs.length) && (decide (64 * k + 0 + 28 < r.bs.length) && (decide (64 * k + 0 + 29 < r.bs.length) && (decide (64 * k + 0 + 30 < r.bs.length) && (decide (64 * k + 0 + 31 < r.bs.length) && (decide (64 * k + 0 + 32 < r.bs.length) && (decide (64 * k + 0 + 33 < r.bs.length) && (decide (64 * k + 0 + 34 < r.bs.length) && (decide (64 * k + 0 + 35 < r.bs.length) && (decide (64 * k + 0 + 36 < r.bs.length) && (decide (64 * k + 0 + 37 < r.bs.length) && (decide (64 * k + 0 + 38 < r.bs.length) && (decide (64 * k + 0 + 39 < r.bs.length) && (decide (64 * k + 0 + 40 <
  r.bs.length) && (decide (64 * k + 0 + 41 < r.bs.length) && (decide (64 * k + 0 + 42 < r.bs.length) && (decide (64 * k + 0 + 43 < r.bs.length) && (decide (64 * k + 0 + 44 < r.bs.length) && (decide (64 * k + 0 + 45 < r.bs.length) && (decide (64 * k + 0 + 46 < r.bs.length) && (decide (64 * k + 0 + 47 < r.bs.length) && (decide (64 * k + 0 + 48 < r.bs.length) && (decide (64 * k + 0 + 49 < r.bs.length) && (decide (64 * k + 0 + 50 < r.bs.length) && (decide (64 * k + 0 + 51 < r.bs.length) && (decide (64 * k + 0 + 52 < r.bs.length) && (decide (64 * k + 0 + 53 < r.bs.length) && (decide (64 * k + 0 + 54 < r.bs.length) && (decide (64 * k + 0 + 55 < r.bs.length) && (decide (64 * k + 0 + 56 < r.bs.length) && (decide (64 * k + 0 + 57 < r.bs.length) && (decide (64 * k + 0 + 58 < r.bs.length) && (decide (64 * k + 0 + 59 < r.bs.length) && (decide (64 * k + 0 + 60 < r.bs.length) && (decide (64 * k + 0 + 61
  < r.bs.length) && (decide (64 * k + 0 + 62 < r.bs.length) && (decide (64 * k + 0 + 63 < r.bs.length) && true))))))))))))))))))))))))))))))))))))))))))))))))))))))))))))))) && (decide (r.bs.getD (64 * k + 0 + 0) 0 = r.bs.getD (64 * k + 0 + 0) 0) && (decide (r.bs.getD (64 * k + 0 + 1) 0 = r.bs.getD (64 * k + 0 + 1) 0) && (decide (r.bs.getD (64 * k + 0 + 2) 0 = r.bs.getD (64 * k + 0 + 2) 0) && (decide (r.bs.getD (64 * k + 0 + 3) 0 = r.bs.getD (64 * k + 0 + 3) 0) && (decide (r.bs.getD (64 * k + 0 + 4) 0 = r.bs.getD (64 * k + 0 + 4) 0) && (decide (r.bs.getD (64 * k + 0 + 5) 0 = r.bs.getD (64 * k + 0 + 5) 0) && (decide (r.bs.getD (64 * k + 0 + 6) 0 = r.bs.getD (64 * k + 0 + 6) 0) && (decide (r.bs.getD (64 * k + 0 + 7) 0 = r.bs.getD (64 * k + 0 + 7) 0) && (decide (r.bs.getD (64 * k + 0 + 8) 0 = r.bs.getD (64 * k + 0 + 8) 0) && (decide (r.bs.getD (64 * k + 0 + 9) 0 = r.bs.getD (64 * k + 0 + 9) 0)
  && (decide (r.bs.getD (64 * k + 0 + 10) 0 = r.bs.getD (64 * k + 0 + 10) 0) && (decide (r.bs.getD (64 * k + 0 + 11) 0 = r.bs.getD (64 * k + 0 + 11) 0) && (decide (r.bs.getD (64 * k + 0 + 12) 0 = r.bs.getD (64 * k + 0 + 12) 0) && (decide (r.bs.getD (64 * k + 0 + 13) 0 = r.bs.getD (64 * k + 0 + 13) 0) && (decide (r.bs.getD (64 * k + 0 + 14) 0 = r.bs.getD (64 * k + 0 + 14) 0) && (decide (r.bs.getD (64 * k + 0 + 15) 0 = r.bs.getD (64 * k + 0 + 15) 0) && (decide (r.bs.getD (64 * k + 0 + 16) 0 = r.bs.getD (64 * k + 0 + 16) 0) && (decide (r.bs.getD (64 * k + 0 + 17) 0 = r.bs.getD (64 * k + 0 + 17) 0) && (decide (r.bs.getD (64 * k + 0 + 18) 0 = r.bs.getD (64 * k + 0 + 18) 0) && (decide (r.bs.getD (64 * k + 0 + 19) 0 = r.bs.getD (64 * k + 0 + 19) 0) && (decide (r.bs.getD (64 * k + 0 + 20) 0 = r.bs.getD (64 * k + 0 + 20) 0) && (decide (r.bs.getD (64 * k + 0 + 21) 0 = r.bs.getD (64 * k + 0 + 21) 0)
  && (decide (r.bs.getD (64 * k + 0 + 22) 0 = r.bs.getD (64 * k + 0 + 22) 0) && (decide (r.bs.getD (64 * k + 0 + 23) 0 = r.bs.getD (64 * k + 0 + 23) 0) && (decide (r.bs.getD (64 * k + 0 + 24) 0 = r.bs.getD (64 * k + 0 + 24) 0) && (decide (r.bs.getD (64 * k + 0 + 25) 0 = r.bs.getD (64 * k + 0 + 25) 0) && (decide (r.bs.getD (64 * k + 0 + 26) 0 = r.bs.getD (64 * k + 0 + 26) 0) && (decide (r.bs.getD (64 * k + 0 + 27) 0 = r.bs.getD (64 * k + 0 + 27) 0) && (decide (r.bs.getD (64 * k + 0 + 28) 0 = r.bs.getD (64 * k + 0 + 28) 0) && (decide (r.bs.getD (64 * k + 0 + 29) 0 = r.bs.getD (64 * k + 0 + 29) 0) && (decide (r.bs.getD (64 * k + 0 + 30) 0 = r.bs.getD (64 * k + 0 + 30) 0) && (decide (r.bs.getD (64 * k + 0 + 31) 0 = r.bs.getD (64 * k + 0 + 31) 0) && (decide (r.bs.getD (64 * k + 0 + 32) 0 = r.bs.getD (64 * k + 0 + 32) 0) && (decide (r.bs.getD (64 * k + 0 + 33) 0 = r.bs.getD (64 * k + 0 + 33) 0)
  && (decide (r.bs.getD (64 * k + 0 + 34) 0 = r.bs.getD (64 * k + 0 + 34) 0) && (decide (r.bs.getD (64 * k + 0 + 35) 0 = r.bs.getD (64 * k + 0 + 35) 0) && (decide (r.bs.getD (64 * k + 0 + 36) 0 = r.bs.getD (64 * k + 0 + 36) 0) && (decide (r.bs.getD (64 * k + 0 + 37) 0 = r.bs.getD (64 * k + 0 + 37) 0) && (decide (r.bs.getD (64 * k + 0 + 38) 0 = r.bs.getD (64 * k + 0 + 38) 0) && (decide (r.bs.getD (64 * k + 0 + 39) 0 = r.bs.getD (64 * k + 0 + 39) 0) && (decide (r.bs.getD (64 * k + 0 + 40) 0 = r.bs.getD (64 * k + 0 + 40) 0) && (decide (r.bs.getD (64 * k + 0 + 41) 0 = r.bs.getD (64 * k + 0 + 41) 0) && (decide (r.bs.getD (64 * k + 0 + 42) 0 = r.bs.getD (64 * k + 0 + 42) 0) && (decide (r.bs.getD (64 * k + 0 + 43) 0 = r.bs.getD (64 * k + 0 + 43) 0) && (decide (r.bs.getD (64 * k + 0 + 44) 0 = r.bs.getD (64 * k + 0 + 44) 0) && (decide (r.bs.getD (64 * k + 0 + 45) 0 = r.bs.getD (64 * k + 0 + 45) 0)
  && (decide (r.bs.getD (64 * k + 0 + 46) 0 = r.bs.getD (64 * k + 0 + 46) 0) && (decide (r.bs.getD (64 * k + 0 + 47) 0 = r.bs.getD (64 * k + 0 + 47) 0) && (decide (r.bs.getD (64 * k + 0 + 48) 0 = r.bs.getD (64 * k + 0 + 48) 0) && (decide (r.bs.getD (64 * k + 0 + 49) 0 = r.bs.getD (64 * k + 0 + 49) 0) && (decide (r.bs.getD (64 * k + 0 + 50) 0 = r.bs.getD (64 * k + 0 + 50) 0) && (decide (r.bs.getD (64 * k + 0 + 51) 0 = r.bs.getD (64 * k + 0 + 51) 0) && (decide (r.bs.getD (64 * k + 0 + 52) 0 = r.bs.getD (64 * k + 0 + 52) 0) && (decide (r.bs.getD (64 * k + 0 + 53) 0 = r.bs.getD (64 * k + 0 + 53) 0) && (decide (r.bs.getD (64 * k + 0 + 54) 0 = r.bs.getD (64 * k + 0 + 54) 0) && (decide (r.bs.getD (64 * k + 0 + 55) 0 = r.bs.getD (64 * k + 0 + 55) 0) && (decide (r.bs.getD (64 * k + 0 + 56) 0 = r.bs.getD (64 * k + 0 + 56) 0) && (decide (r.bs.getD (64 * k + 0 + 57) 0 = r.bs.getD (64 * k + 0 + 57) 0)
  && (decide (r.bs.getD (64 * k + 0 + 58) 0 = r.bs.getD (64 * k + 0 + 58) 0) && (decide (r.bs.getD (64 * k + 0 + 59) 0 = r.bs.getD (64 * k + 0 + 59) 0) && (decide (r.bs.getD (64 * k + 0 + 60) 0 = r.bs.getD (64 * k + 0 + 60) 0) && (decide (r.bs.getD (64 * k + 0 + 61) 0 = r.bs.getD (64 * k + 0 + 61) 0) && (decide (r.bs.getD (64 * k + 0 + 62) 0 = r.bs.getD (64 * k + 0 + 62) 0) && (decide (r.bs.getD (64 * k + 0 + 63) 0 = r.bs.getD (64 * k + 0 + 63) 0) && true))))))))))))))))))))))))))))))))))))))))))))))))))))))))))))))))) (sp ((64 * k + 0).beq (64 * k + 0) && true) (sp (decide (64 ≤ r.c - 64 * k) && decide (r.c - 64 * k ≤ r.c - 64 * k) && true && ((64 * k + 0).beq (64 * k + 0) && true && true && (r.c - 64 * k - 0).beq (r.c - 64 * k - 0))) (sp ((64 * k).beq (64 * k) && true && (r.bs.length - 64 * k).beq (r.bs.length - 64 * k) && (r.c - 64 * k).beq (r.c - 64 * k)) (sp (k.beq k && k.beq k &&
  true) (sp (k.beq k && k.beq k && true) (sp (decide (0 + k ≤ k) && true && true && true && true && decide ((k + 1) * 64 ≤ 140737488355328) && decide (k + 1 ≤ 9223372036854775807)) (sp (decide (64 ≤ r.bs.length - 64 * k) && decide (r.bs.length - 64 * k ≤ r.c - 64 * k) && decide (r.c - 64 * k ≤ r.c - 64 * k) && true) (∃ (j : LdI), (64 * j.k ≤ j.r.bs.length ∧ j.r.bs.length ≤ 100000000 ∧ j.r.bs.length ≤ j.r.c ∧ (true = true → 1 ≤ j.k ∧ ∀ (σ : Nat → Nat) (n : Nat), AV.rens σ (j.g n) = j.g n) ∧ (true = false → j.k = 0)) ∧ j.r.bs.length - j.k < r.bs.length - k ∧ [(decide (j.r.bs.length < 64), LOut.mk (AX.exit 0) [(2, AV.ptr 1 0 0), (3, AV.ptr 2 0 0)] 4 [(0, bR j.r.bs), (1, ABlk.mk true 7 (AC.cells [AV.nils, nU 0, nU 0, nU 0, nU 0, nU 0, nU 0])), (2, ABlk.mk true 7 (AC.cells [AV.nils, nU 0, nU 0, nU 0, nU 0, nU 0, nU 0]))]), (true, LOut.mk (AX.exit 0) [(2, AV.ptr 1 0 0), (3, AV.ptr 2 0 0)] 4 [(0,
  bR j.r.bs), (1, ABlk.mk true 7 (AC.cells [AV.nils, nU 0, nU 0, nU 0, nU 0, nU 0, nU 0])), (2, ABlk.mk true 7 (AC.cells [AV.sl 3 0 0 (j.r.bs.length / 64) (j.r.bs.length / 64) false, nU 0, nU 0, nU 0, nU 0, nU 0, nU 0]))])] = [(decide (r.bs.length < 64), LOut.mk (AX.exit 0) [(2, AV.ptr 1 0 0), (3, AV.ptr 2 0 0)] 4 [(0, bR r.bs), (1, ABlk.mk true 7 (AC.cells [AV.nils, nU 0, nU 0, nU 0, nU 0, nU 0, nU 0])), (2, ABlk.mk true 7 (AC.cells [AV.nils, nU 0, nU 0, nU 0, nU 0, nU 0, nU 0]))]), (true, LOut.mk (AX.exit 0) [(2, AV.ptr 1 0 0), (3, AV.ptr 2 0 0)] 4 [(0, bR r.bs), (1, ABlk.mk true 7 (AC.cells [AV.nils, nU 0, nU 0, nU 0, nU 0, nU 0, nU 0])), (2, ABlk.mk true 7 (AC.cells [AV.sl 3 0 0 (r.bs.length / 64) (r.bs.length / 64) false, nU 0, nU 0, nU 0, nU 0, nU 0, nU 0]))])] ∧ (AV.msl 0 (64 * k + 64) 0 (r.bs.length - 64 * k - 64) (r.c - 64 * k - 64) = AV.msl 0 (64 * j.k) 0 (j.r.bs.length - 64 *
  j.k) (j.r.c - 64 * j.k) ∧ AV.ptr 1 0 0 = AV.ptr 1 0 0 ∧ AV.ptr 2 0 0 = AV.ptr 2 0 0 ∧ True) ∧ bR r.bs = bR j.r.bs ∧ ABlk.mk true 7 (AC.cells [AV.nils, nU 0, nU 0, nU 0, nU 0, nU 0, nU 0]) = ABlk.mk true 7 (AC.cells [AV.nils, nU 0, nU 0, nU 0, nU 0, nU 0, nU 0]) ∧ ABlk.mk true 7 (AC.cells ([AV.sl 3 0 0 k k false, nU 0, nU 0, nU 0, nU 0, nU 0, nU 0].set 0 (AV.sl 5 0 0 (k + 1) (k + 1) false))) = ABlk.mk true 7 (AC.cells [AV.sl 5 0 0 j.k j.k false, nU 0, nU 0, nU 0, nU 0, nU 0, nU 0]) ∧ (true = true ∧ 64 = 64 ∧ k + (List.take 64 (List.drop 0 [nB (r.bs.getD (64 * k + 0 + 0) 0), nB (r.bs.getD (64 * k + 0 + 1) 0), nB (r.bs.getD (64 * k + 0 + 2) 0), nB (r.bs.getD (64 * k + 0 + 3) 0), nB (r.bs.getD (64 * k + 0 + 4) 0), nB (r.bs.getD (64 * k + 0 + 5) 0), nB (r.bs.getD (64 * k + 0 + 6) 0), nB (r.bs.getD (64 * k + 0 + 7) 0), nB (r.bs.getD (64 * k + 0 + 8) 0), nB (r.bs.getD (64 * k + 0 + 9) 0), nB
  (r.bs.getD (64 * k + 0 + 10) 0), nB (r.bs.getD (64 * k + 0 + 11) 0), nB (r.bs.getD (64 * k + 0 + 12) 0), nB (r.bs.getD (64 * k + 0 + 13) 0), nB (r.bs.getD (64 * k + 0 + 14) 0), nB (r.bs.getD (64 * k + 0 + 15) 0), nB (r.bs.getD (64 * k + 0 + 16) 0), nB (r.bs.getD (64 * k + 0 + 17) 0), nB (r.bs.getD (64 * k + 0 + 18) 0), nB (r.bs.getD (64 * k + 0 + 19) 0), nB (r.bs.getD (64 * k + 0 + 20) 0), nB (r.bs.getD (64 * k + 0 + 21) 0), nB (r.bs.getD (64 * k + 0 + 22) 0), nB (r.bs.getD (64 * k + 0 + 23) 0), nB (r.bs.getD (64 * k + 0 + 24) 0), nB (r.bs.getD (64 * k + 0 + 25) 0), nB (r.bs.getD (64 * k + 0 + 26) 0), nB (r.bs.getD (64 * k + 0 + 27) 0), nB (r.bs.getD (64 * k + 0 + 28) 0), nB (r.bs.getD (64 * k + 0 + 29) 0), nB (r.bs.getD (64 * k + 0 + 30) 0), nB (r.bs.getD (64 * k + 0 + 31) 0), nB (r.bs.getD (64 * k + 0 + 32) 0), nB (r.bs.getD (64 * k + 0 + 33) 0), nB (r.bs.getD (64 * k + 0 + 34) 0), nB
  (r.bs.getD (64 * k + 0 + 35) 0), nB (r.bs.getD (64 * k + 0 + 36) 0), nB (r.bs.getD (64 * k + 0 + 37) 0), nB (r.bs.getD (64 * k + 0 + 38) 0), nB (r.bs.getD (64 * k + 0 + 39) 0), nB (r.bs.getD (64 * k + 0 + 40) 0), nB (r.bs.getD (64 * k + 0 + 41) 0), nB (r.bs.getD (64 * k + 0 + 42) 0), nB (r.bs.getD (64 * k + 0 + 43) 0), nB (r.bs.getD (64 * k + 0 + 44) 0), nB (r.bs.getD (64 * k + 0 + 45) 0), nB (r.bs.getD (64 * k + 0 + 46) 0), nB (r.bs.getD (64 * k + 0 + 47) 0), nB (r.bs.getD (64 * k + 0 + 48) 0), nB (r.bs.getD (64 * k + 0 + 49) 0), nB (r.bs.getD (64 * k + 0 + 50) 0), nB (r.bs.getD (64 * k + 0 + 51) 0), nB (r.bs.getD (64 * k + 0 + 52) 0), nB (r.bs.getD (64 * k + 0 + 53) 0), nB (r.bs.getD (64 * k + 0 + 54) 0), nB (r.bs.getD (64 * k + 0 + 55) 0), nB (r.bs.getD (64 * k + 0 + 56) 0), nB (r.bs.getD (64 * k + 0 + 57) 0), nB (r.bs.getD (64 * k + 0 + 58) 0), nB (r.bs.getD (64 * k + 0 + 59) 0), nB
  (r.bs.getD (64 * k + 0 + 60) 0), nB (r.bs.getD (64 * k + 0 + 61) 0), nB (r.bs.getD (64 * k + 0 + 62) 0), nB (r.bs.getD (64 * k + 0 + 63) 0)])).length / 64 = j.k ∧ ∀ (i : Nat), i < k + (List.take 64 (List.drop 0 [nB (r.bs.getD (64 * k + 0 + 0) 0), nB (r.bs.getD (64 * k + 0 + 1) 0), nB (r.bs.getD (64 * k + 0 + 2) 0), nB (r.bs.getD (64 * k + 0 + 3) 0), nB (r.bs.getD (64 * k + 0 + 4) 0), nB (r.bs.getD (64 * k + 0 + 5) 0), nB (r.bs.getD (64 * k + 0 + 6) 0), nB (r.bs.getD (64 * k + 0 + 7) 0), nB (r.bs.getD (64 * k + 0 + 8) 0), nB (r.bs.getD (64 * k + 0 + 9) 0), nB (r.bs.getD (64 * k + 0 + 10) 0), nB (r.bs.getD (64 * k + 0 + 11) 0), nB (r.bs.getD (64 * k + 0 + 12) 0), nB (r.bs.getD (64 * k + 0 + 13) 0), nB (r.bs.getD (64 * k + 0 + 14) 0), nB (r.bs.getD (64 * k + 0 + 15) 0), nB (r.bs.getD (64 * k + 0 + 16) 0), nB (r.bs.getD (64 * k + 0 + 17) 0), nB (r.bs.getD (64 * k + 0 + 18) 0), nB (r.bs.getD
  (64 * k + 0 + 19) 0), nB (r.bs.getD (64 * k + 0 + 20) 0), nB (r.bs.getD (64 * k + 0 + 21) 0), nB (r.bs.getD (64 * k + 0 + 22) 0), nB (r.bs.getD (64 * k + 0 + 23) 0), nB (r.bs.getD (64 * k + 0 + 24) 0), nB (r.bs.getD (64 * k + 0 + 25) 0), nB (r.bs.getD (64 * k + 0 + 26) 0), nB (r.bs.getD (64 * k + 0 + 27) 0), nB (r.bs.getD (64 * k + 0 + 28) 0), nB (r.bs.getD (64 * k + 0 + 29) 0), nB (r.bs.getD (64 * k + 0 + 30) 0), nB (r.bs.getD (64 * k + 0 + 31) 0), nB (r.bs.getD (64 * k + 0 + 32) 0), nB (r.bs.getD (64 * k + 0 + 33) 0), nB (r.bs.getD (64 * k + 0 + 34) 0), nB (r.bs.getD (64 * k + 0 + 35) 0), nB (r.bs.getD (64 * k + 0 + 36) 0), nB (r.bs.getD (64 * k + 0 + 37) 0), nB (r.bs.getD (64 * k + 0 + 38) 0), nB (r.bs.getD (64 * k + 0 + 39) 0), nB (r.bs.getD (64 * k + 0 + 40) 0), nB (r.bs.getD (64 * k + 0 + 41) 0), nB (r.bs.getD (64 * k + 0 + 42) 0), nB (r.bs.getD (64 * k + 0 + 43) 0), nB (r.bs.getD
  (64 * k + 0 + 44) 0), nB (r.bs.getD (64 * k + 0 + 45) 0), nB (r.bs.getD (64 * k + 0 + 46) 0), nB (r.bs.getD (64 * k + 0 + 47) 0), nB (r.bs.getD (64 * k + 0 + 48) 0), nB (r.bs.getD (64 * k + 0 + 49) 0), nB (r.bs.getD (64 * k + 0 + 50) 0), nB (r.bs.getD (64 * k + 0 + 51) 0), nB (r.bs.getD (64 * k + 0 + 52) 0), nB (r.bs.getD (64 * k + 0 + 53) 0), nB (r.bs.getD (64 * k + 0 + 54) 0), nB (r.bs.getD (64 * k + 0 + 55) 0), nB (r.bs.getD (64 * k + 0 + 56) 0), nB (r.bs.getD (64 * k + 0 + 57) 0), nB (r.bs.getD (64 * k + 0 + 58) 0), nB (r.bs.getD (64 * k + 0 + 59) 0), nB (r.bs.getD (64 * k + 0 + 60) 0), nB (r.bs.getD (64 * k + 0 + 61) 0), nB (r.bs.getD (64 * k + 0 + 62) 0), nB (r.bs.getD (64 * k + 0 + 63) 0)])).length / 64 → (bif i.blt k then g (0 + i) else List.take 64 (List.drop ((i - k) * 64) (List.take 64 (List.drop 0 [nB (r.bs.getD (64 * k + 0 + 0) 0), nB (r.bs.getD (64 * k + 0 + 1) 0), nB
  (r.bs.getD (64 * k + 0 + 2) 0), nB (r.bs.getD (64 * k + 0 + 3) 0), nB (r.bs.getD (64 * k + 0 + 4) 0), nB (r.bs.getD (64 * k + 0 + 5) 0), nB (r.bs.getD (64 * k + 0 + 6) 0), nB (r.bs.getD (64 * k + 0 + 7) 0), nB (r.bs.getD (64 * k + 0 + 8) 0), nB (r.bs.getD (64 * k + 0 + 9) 0), nB (r.bs.getD (64 * k + 0 + 10) 0), nB (r.bs.getD (64 * k + 0 + 11) 0), nB (r.bs.getD (64 * k + 0 + 12) 0), nB (r.bs.getD (64 * k + 0 + 13) 0), nB (r.bs.getD (64 * k + 0 + 14) 0), nB (r.bs.getD (64 * k + 0 + 15) 0), nB (r.bs.getD (64 * k + 0 + 16) 0), nB (r.bs.getD (64 * k + 0 + 17) 0), nB (r.bs.getD (64 * k + 0 + 18) 0), nB (r.bs.getD (64 * k + 0 + 19) 0), nB (r.bs.getD (64 * k + 0 + 20) 0), nB (r.bs.getD (64 * k + 0 + 21) 0), nB (r.bs.getD (64 * k + 0 + 22) 0), nB (r.bs.getD (64 * k + 0 + 23) 0), nB (r.bs.getD (64 * k + 0 + 24) 0), nB (r.bs.getD (64 * k + 0 + 25) 0), nB (r.bs.getD (64 * k + 0 + 26) 0), nB
  (r.bs.getD (64 * k + 0 + 27) 0), nB (r.bs.getD (64 * k + 0 + 28) 0), nB (r.bs.getD (64 * k + 0 + 29) 0), nB (r.bs.getD (64 * k + 0 + 30) 0), nB (r.bs.getD (64 * k + 0 + 31) 0), nB (r.bs.getD (64 * k + 0 + 32) 0), nB (r.bs.getD (64 * k + 0 + 33) 0), nB (r.bs.getD (64 * k + 0 + 34) 0), nB (r.bs.getD (64 * k + 0 + 35) 0), nB (r.bs.getD (64 * k + 0 + 36) 0), nB (r.bs.getD (64 * k + 0 + 37) 0), nB (r.bs.getD (64 * k + 0 + 38) 0), nB (r.bs.getD (64 * k + 0 + 39) 0), nB (r.bs.getD (64 * k + 0 + 40) 0), nB (r.bs.getD (64 * k + 0 + 41) 0), nB (r.bs.getD (64 * k + 0 + 42) 0), nB (r.bs.getD (64 * k + 0 + 43) 0), nB (r.bs.getD (64 * k + 0 + 44) 0), nB (r.bs.getD (64 * k + 0 + 45) 0), nB (r.bs.getD (64 * k + 0 + 46) 0), nB (r.bs.getD (64 * k + 0 + 47) 0), nB (r.bs.getD (64 * k + 0 + 48) 0), nB (r.bs.getD (64 * k + 0 + 49) 0), nB (r.bs.getD (64 * k + 0 + 50) 0), nB (r.bs.getD (64 * k + 0 + 51) 0), nB
  (r.bs.getD (64 * k + 0 + 52) 0), nB (r.bs.getD (64 * k + 0 + 53) 0), nB (r.bs.getD (64 * k + 0 + 54) 0), nB (r.bs.getD (64 * k + 0 + 55) 0), nB (r.bs.getD (64 * k + 0 + 56) 0), nB (r.bs.getD (64 * k + 0 + 57) 0), nB (r.bs.getD (64 * k + 0 + 58) 0), nB (r.bs.getD (64 * k + 0 + 59) 0), nB (r.bs.getD (64 * k + 0 + 60) 0), nB (r.bs.getD (64 * k + 0 + 61) 0), nB (r.bs.getD (64 * k + 0 + 62) 0), nB (r.bs.getD (64 * k + 0 + 63) 0)])))) = AV.rens (fun (b : Nat) => [0, 1, 2, 5].getD b 6) (j.g i)) ∧ True) False) False) False) False) False) False) False) False) (sp (decide (r.bs.length < 64)) ((AV.ptr 1 0 0 = AV.ptr 1 0 0 ∧ AV.ptr 2 0 0 = AV.ptr 2 0 0 ∧ True) ∧ bR r.bs = bR r.bs ∧ ABlk.mk true 7 (AC.cells [AV.nils, nU 0, nU 0, nU 0, nU 0, nU 0, nU 0]) = ABlk.mk true 7 (AC.cells [AV.nils, nU 0, nU 0, nU 0, nU 0, nU 0, nU 0]) ∧ ABlk.mk true 7 (AC.cells [AV.sl 3 0 0 k k false, nU 0, nU 0, nU 0, nU 0,
  nU 0, nU 0]) = ABlk.mk true 7 (AC.cells [AV.nils, nU 0, nU 0, nU 0, nU 0, nU 0, nU 0]) ∧ True) ((AV.ptr 1 0 0 = AV.ptr 1 0 0 ∧ AV.ptr 2 0 0 = AV.ptr 2 0 0 ∧ True) ∧ bR r.bs = bR r.bs ∧ ABlk.mk true 7 (AC.cells [AV.nils, nU 0, nU 0, nU 0, nU 0, nU 0, nU 0]) = ABlk.mk true 7 (AC.cells [AV.nils, nU 0, nU 0, nU 0, nU 0, nU 0, nU 0]) ∧ ABlk.mk true 7 (AC.cells [AV.sl 3 0 0 k k false, nU 0, nU 0, nU 0, nU 0, nU 0, nU 0]) = ABlk.mk true 7 (AC.cells [AV.sl 3 0 0 (r.bs.length / 64) (r.bs.length / 64) false, nU 0, nU 0, nU 0, nU 0, nU 0, nU 0]) ∧ True))
theorem laidA_c_e (r : Row) (k : Nat) (g : Nat → List AV) : some (laidA_c_V r k g) = (some ((laidL Go.Proofs.Tryd.prog).body sp Go.Proofs.Tryd.prog noBaseK (drP sp Go.Proofs.Tryd.prog noBaseK) noLo 40 ⟨r, k, g, true⟩)) := by kernel_rfl
def laidB_c_V (r : Row) (g : Nat → List AV) : Prop :=
  sp (decide ((↑(r.bs.length - 0) : Int) ≥ 64)) (sp (decide (0 < r.bs.length) && (decide (1 < r.bs.length) && (decide (2 < r.bs.length) && (decide (3 < r.bs.length) && (decide (4 < r.bs.length) && (decide (5 < r.bs.length) && (decide (6 < r.bs.length) && (decide (7 < r.bs.length) && (decide (8 < r.bs.length) && (decide (9 < r.bs.length) && (decide (10 < r.bs.length) && (decide (11 < r.bs.length) && (decide (12 < r.bs.length) && (decide (13 < r.bs.length) && (decide (14 < r.bs.length) && (decide (15 < r.bs.length) && (decide (16 < r.bs.length) && (decide (17 < r.bs.length) && (decide (18 < r.bs.length) && (decide (19 < r.bs.length) && (decide (20 < r.bs.length) && (decide (21 < r.bs.length) && (decide (22 < r.bs.length) && (decide (23 < r.bs.length) && (decide (24 < r.bs.length) && (decide (25 < r.bs.length) && (decide (26 < r.bs.length) && (decide (27 < r.bs.length) && (decide (28 <
  r.bs.length) && (decide (29 < r.bs.length) && (decide (30 < r.bs.length) && (decide (31 < r.bs.length) && (decide (32 < r.bs.length) && (decide (33 < r.bs.length) && (decide (34 < r.bs.length) && (decide (35 < r.bs.length) && (decide (36 < r.bs.length) && (decide (37 < r.bs.length) && (decide (38 < r.bs.length) && (decide (39 < r.bs.length) && (decide (40 < r.bs.length) && (decide (41 < r.bs.length) && (decide (42 < r.bs.length) && (decide (43 < r.bs.length) && (decide (44 < r.bs.length) && (decide (45 < r.bs.length) && (decide (46 < r.bs.length) && (decide (47 < r.bs.length) && (decide (48 < r.bs.length) && (decide (49 < r.bs.length) && (decide (50 < r.bs.length) && (decide (51 < r.bs.length) && (decide (52 < r.bs.length) && (decide (53 < r.bs.length) && (decide (54 < r.bs.length) && (decide (55 < r.bs.length) && (decide (56 < r.bs.length) && (decide (57 < r.bs.length) && (decide (58 <
  r.bs.length) && (decide (59 < r.bs.length) && (decide (60 < r.bs.length) && (decide (61 < r.bs.length) && (decide (62 < r.bs.length) && (decide (63 < r.bs.length) && true))))))))))))))))))))))))))))))))))))))))))))))))))))))))))))))) && (decide (r.bs.getD 0 0 = r.bs.getD 0 0) && (decide (r.bs.getD 1 0 = r.bs.getD 1 0) && (decide (r.bs.getD 2 0 = r.bs.getD 2 0) && (decide (r.bs.getD 3 0 = r.bs.getD 3 0) && (decide (r.bs.getD 4 0 = r.bs.getD 4 0) && (decide (r.bs.getD 5 0 = r.bs.getD 5 0) && (decide (r.bs.getD 6 0 = r.bs.getD 6 0) && (decide (r.bs.getD 7 0 = r.bs.getD 7 0) && (decide (r.bs.getD 8 0 = r.bs.getD 8 0) && (decide (r.bs.getD 9 0 = r.bs.getD 9 0) && (decide (r.bs.getD 10 0 = r.bs.getD 10 0) && (decide (r.bs.getD 11 0 = r.bs.getD 11 0) && (decide (r.bs.getD 12 0 = r.bs.getD 12 0) && (decide (r.bs.getD 13 0 = r.bs.getD 13 0) && (decide (r.bs.getD 14 0 = r.bs.getD 14 0) && (decide
  (r.bs.getD 15 0 = r.bs.getD 15 0) && (decide (r.bs.getD 16 0 = r.bs.getD 16 0) && (decide (r.bs.getD 17 0 = r.bs.getD 17 0) && (decide (r.bs.getD 18 0 = r.bs.getD 18 0) && (decide (r.bs.getD 19 0 = r.bs.getD 19 0) && (decide (r.bs.getD 20 0 = r.bs.getD 20 0) && (decide (r.bs.getD 21 0 = r.bs.getD 21 0) && (decide (r.bs.getD 22 0 = r.bs.getD 22 0) && (decide (r.bs.getD 23 0 = r.bs.getD 23 0) && (decide (r.bs.getD 24 0 = r.bs.getD 24 0) && (decide (r.bs.getD 25 0 = r.bs.getD 25 0) && (decide (r.bs.getD 26 0 = r.bs.getD 26 0) && (decide (r.bs.getD 27 0 = r.bs.getD 27 0) && (decide (r.bs.getD 28 0 = r.bs.getD 28 0) && (decide (r.bs.getD 29 0 = r.bs.getD 29 0) && (decide (r.bs.getD 30 0 = r.bs.getD 30 0) && (decide (r.bs.getD 31 0 = r.bs.getD 31 0) && (decide (r.bs.getD 32 0 = r.bs.getD 32 0) && (decide (r.bs.getD 33 0 = r.bs.getD 33 0) && (decide (r.bs.getD 34 0 = r.bs.getD 34 0) && (decide
  (r.bs.getD 35 0 = r.bs.getD 35 0) && (decide (r.bs.getD 36 0 = r.bs.getD 36 0) && (decide (r.bs.getD 37 0 = r.bs.getD 37 0) && (decide (r.bs.getD 38 0 = r.bs.getD 38 0) && (decide (r.bs.getD 39 0 = r.bs.getD 39 0) && (decide (r.bs.getD 40 0 = r.bs.getD 40 0) && (decide (r.bs.getD 41 0 = r.bs.getD 41 0) && (decide (r.bs.getD 42 0 = r.bs.getD 42 0) && (decide (r.bs.getD 43 0 = r.bs.getD 43 0) && (decide (r.bs.getD 44 0 = r.bs.getD 44 0) && (decide (r.bs.getD 45 0 = r.bs.getD 45 0) && (decide (r.bs.getD 46 0 = r.bs.getD 46 0) && (decide (r.bs.getD 47 0 = r.bs.getD 47 0) && (decide (r.bs.getD 48 0 = r.bs.getD 48 0) && (decide (r.bs.getD 49 0 = r.bs.getD 49 0) && (decide (r.bs.getD 50 0 = r.bs.getD 50 0) && (decide (r.bs.getD 51 0 = r.bs.getD 51 0) && (decide (r.bs.getD 52 0 = r.bs.getD 52 0) && (decide (r.bs.getD 53 0 = r.bs.getD 53 0) && (decide (r.bs.getD 54 0 = r.bs.getD 54 0) && (decide
  (r.bs.getD 55 0 = r.bs.getD 55 0) && (decide (r.bs.getD 56 0 = r.bs.getD 56 0) && (decide (r.bs.getD 57 0 = r.bs.getD 57 0) && (decide (r.bs.getD 58 0 = r.bs.getD 58 0) && (decide (r.bs.getD 59 0 = r.bs.getD 59 0) && (decide (r.bs.getD 60 0 = r.bs.getD 60 0) && (decide (r.bs.getD 61 0 = r.bs.getD 61 0) && (decide (r.bs.getD 62 0 = r.bs.getD 62 0) && (decide (r.bs.getD 63 0 = r.bs.getD 63 0) && true))))))))))))))))))))))))))))))))))))))))))))))))))))))))))))))))) (sp (decide (64 ≤ r.c - 0) && decide (r.c - 0 ≤ r.c - 0) && true && (r.c - 0 - 0).beq (r.c - 0 - 0)) (sp ((r.bs.length - 0).beq (r.bs.length - 0) && (r.c - 0).beq (r.c - 0)) (sp (decide (64 ≤ r.bs.length - 0) && decide (r.bs.length - 0 ≤ r.c - 0) && decide (r.c - 0 ≤ r.c - 0) && true) (∃ (j : LdI), (64 * j.k ≤ j.r.bs.length ∧ j.r.bs.length ≤ 100000000 ∧ j.r.bs.length ≤ j.r.c ∧ (true = true → 1 ≤ j.k ∧ ∀ (σ : Nat → Nat) (n : Nat),
  AV.rens σ (j.g n) = j.g n) ∧ (true = false → j.k = 0)) ∧ j.r.bs.length - j.k < r.bs.length - 0 ∧ [(decide (j.r.bs.length < 64), LOut.mk (AX.exit 0) [(2, AV.ptr 1 0 0), (3, AV.ptr 2 0 0)] 4 [(0, bR j.r.bs), (1, ABlk.mk true 7 (AC.cells [AV.nils, nU 0, nU 0, nU 0, nU 0, nU 0, nU 0])), (2, ABlk.mk true 7 (AC.cells [AV.nils, nU 0, nU 0, nU 0, nU 0, nU 0, nU 0]))]), (true, LOut.mk (AX.exit 0) [(2, AV.ptr 1 0 0), (3, AV.ptr 2 0 0)] 4 [(0, bR j.r.bs), (1, ABlk.mk true 7 (AC.cells [AV.nils, nU 0, nU 0, nU 0, nU 0, nU 0, nU 0])), (2, ABlk.mk true 7 (AC.cells [AV.sl 3 0 0 (j.r.bs.length / 64) (j.r.bs.length / 64) false, nU 0, nU 0, nU 0, nU 0, nU 0, nU 0]))])] = [(decide (r.bs.length < 64), LOut.mk (AX.exit 0) [(2, AV.ptr 1 0 0), (3, AV.ptr 2 0 0)] 4 [(0, bR r.bs), (1, ABlk.mk true 7 (AC.cells [AV.nils, nU 0, nU 0, nU 0, nU 0, nU 0, nU 0])), (2, ABlk.mk true 7 (AC.cells [AV.nils, nU 0, nU 0, nU 0,
  nU 0, nU 0, nU 0]))]), (true, LOut.mk (AX.exit 0) [(2, AV.ptr 1 0 0), (3, AV.ptr 2 0 0)] 4 [(0, bR r.bs), (1, ABlk.mk true 7 (AC.cells [AV.nils, nU 0, nU 0, nU 0, nU 0, nU 0, nU 0])), (2, ABlk.mk true 7 (AC.cells [AV.sl 3 0 0 (r.bs.length / 64) (r.bs.length / 64) false, nU 0, nU 0, nU 0, nU 0, nU 0, nU 0]))])] ∧ (AV.msl 0 64 0 (r.bs.length - 0 - 64) (r.c - 0 - 64) = AV.msl 0 (64 * j.k) 0 (j.r.bs.length - 64 * j.k) (j.r.c - 64 * j.k) ∧ AV.ptr 1 0 0 = AV.ptr 1 0 0 ∧ AV.ptr 2 0 0 = AV.ptr 2 0 0 ∧ True) ∧ bR r.bs = bR j.r.bs ∧ ABlk.mk true 7 (AC.cells [AV.nils, nU 0, nU 0, nU 0, nU 0, nU 0, nU 0]) = ABlk.mk true 7 (AC.cells [AV.nils, nU 0, nU 0, nU 0, nU 0, nU 0, nU 0]) ∧ ABlk.mk true 7 (AC.cells [AV.sl 5 0 0 1 1 false, nU 0, nU 0, nU 0, nU 0, nU 0, nU 0]) = ABlk.mk true 7 (AC.cells [AV.sl 5 0 0 j.k j.k false, nU 0, nU 0, nU 0, nU 0, nU 0, nU 0]) ∧ (true = true ∧ 64 = 64 ∧ (List.take 64
  (List.drop 0 [nB (r.bs.getD 0 0), nB (r.bs.getD 1 0), nB (r.bs.getD 2 0), nB (r.bs.getD 3 0), nB (r.bs.getD 4 0), nB (r.bs.getD 5 0), nB (r.bs.getD 6 0), nB (r.bs.getD 7 0), nB (r.bs.getD 8 0), nB (r.bs.getD 9 0), nB (r.bs.getD 10 0), nB (r.bs.getD 11 0), nB (r.bs.getD 12 0), nB (r.bs.getD 13 0), nB (r.bs.getD 14 0), nB (r.bs.getD 15 0), nB (r.bs.getD 16 0), nB (r.bs.getD 17 0), nB (r.bs.getD 18 0), nB (r.bs.getD 19 0), nB (r.bs.getD 20 0), nB (r.bs.getD 21 0), nB (r.bs.getD 22 0), nB (r.bs.getD 23 0), nB (r.bs.getD 24 0), nB (r.bs.getD 25 0), nB (r.bs.getD 26 0), nB (r.bs.getD 27 0), nB (r.bs.getD 28 0), nB (r.bs.getD 29 0), nB (r.bs.getD 30 0), nB (r.bs.getD 31 0), nB (r.bs.getD 32 0), nB (r.bs.getD 33 0), nB (r.bs.getD 34 0), nB (r.bs.getD 35 0), nB (r.bs.getD 36 0), nB (r.bs.getD 37 0), nB (r.bs.getD 38 0), nB (r.bs.getD 39 0), nB (r.bs.getD 40 0), nB (r.bs.getD 41 0), nB (r.bs.getD
  42 0), nB (r.bs.getD 43 0), nB (r.bs.getD 44 0), nB (r.bs.getD 45 0), nB (r.bs.getD 46 0), nB (r.bs.getD 47 0), nB (r.bs.getD 48 0), nB (r.bs.getD 49 0), nB (r.bs.getD 50 0), nB (r.bs.getD 51 0), nB (r.bs.getD 52 0), nB (r.bs.getD 53 0), nB (r.bs.getD 54 0), nB (r.bs.getD 55 0), nB (r.bs.getD 56 0), nB (r.bs.getD 57 0), nB (r.bs.getD 58 0), nB (r.bs.getD 59 0), nB (r.bs.getD 60 0), nB (r.bs.getD 61 0), nB (r.bs.getD 62 0), nB (r.bs.getD 63 0)])).length = j.k * 64 ∧ ∀ (i : Nat), i < j.k → ∀ (j_1 : Nat), j_1 < 64 → (List.take 64 (List.drop 0 [nB (r.bs.getD 0 0), nB (r.bs.getD 1 0), nB (r.bs.getD 2 0), nB (r.bs.getD 3 0), nB (r.bs.getD 4 0), nB (r.bs.getD 5 0), nB (r.bs.getD 6 0), nB (r.bs.getD 7 0), nB (r.bs.getD 8 0), nB (r.bs.getD 9 0), nB (r.bs.getD 10 0), nB (r.bs.getD 11 0), nB (r.bs.getD 12 0), nB (r.bs.getD 13 0), nB (r.bs.getD 14 0), nB (r.bs.getD 15 0), nB (r.bs.getD 16 0), nB
  (r.bs.getD 17 0), nB (r.bs.getD 18 0), nB (r.bs.getD 19 0), nB (r.bs.getD 20 0), nB (r.bs.getD 21 0), nB (r.bs.getD 22 0), nB (r.bs.getD 23 0), nB (r.bs.getD 24 0), nB (r.bs.getD 25 0), nB (r.bs.getD 26 0), nB (r.bs.getD 27 0), nB (r.bs.getD 28 0), nB (r.bs.getD 29 0), nB (r.bs.getD 30 0), nB (r.bs.getD 31 0), nB (r.bs.getD 32 0), nB (r.bs.getD 33 0), nB (r.bs.getD 34 0), nB (r.bs.getD 35 0), nB (r.bs.getD 36 0), nB (r.bs.getD 37 0), nB (r.bs.getD 38 0), nB (r.bs.getD 39 0), nB (r.bs.getD 40 0), nB (r.bs.getD 41 0), nB (r.bs.getD 42 0), nB (r.bs.getD 43 0), nB (r.bs.getD 44 0), nB (r.bs.getD 45 0), nB (r.bs.getD 46 0), nB (r.bs.getD 47 0), nB (r.bs.getD 48 0), nB (r.bs.getD 49 0), nB (r.bs.getD 50 0), nB (r.bs.getD 51 0), nB (r.bs.getD 52 0), nB (r.bs.getD 53 0), nB (r.bs.getD 54 0), nB (r.bs.getD 55 0), nB (r.bs.getD 56 0), nB (r.bs.getD 57 0), nB (r.bs.getD 58 0), nB (r.bs.getD 59 0),
  nB (r.bs.getD 60 0), nB (r.bs.getD 61 0), nB (r.bs.getD 62 0), nB (r.bs.getD 63 0)])).getD (i * 64 + j_1) AV.any = (AV.rens (fun (b : Nat) => [0, 1, 2, 5].getD b 6) (j.g i)).getD j_1 AV.any) ∧ True) False) False) False) False) (sp (decide (r.bs.length < 64)) ((AV.ptr 1 0 0 = AV.ptr 1 0 0 ∧ AV.ptr 2 0 0 = AV.ptr 2 0 0 ∧ True) ∧ bR r.bs = bR r.bs ∧ ABlk.mk true 7 (AC.cells [AV.nils, nU 0, nU 0, nU 0, nU 0, nU 0, nU 0]) = ABlk.mk true 7 (AC.cells [AV.nils, nU 0, nU 0, nU 0, nU 0, nU 0, nU 0]) ∧ ABlk.mk true 7 (AC.cells [AV.nils, nU 0, nU 0, nU 0, nU 0, nU 0, nU 0]) = ABlk.mk true 7 (AC.cells [AV.nils, nU 0, nU 0, nU 0, nU 0, nU 0, nU 0]) ∧ True) ((AV.ptr 1 0 0 = AV.ptr 1 0 0 ∧ AV.ptr 2 0 0 = AV.ptr 2 0 0 ∧ True) ∧ bR r.bs = bR r.bs ∧ ABlk.mk true 7 (AC.cells [AV.nils, nU 0, nU 0, nU 0, nU 0, nU 0, nU 0]) = ABlk.mk true 7 (AC.cells [AV.nils, nU 0, nU 0, nU 0, nU 0, nU 0, nU 0]) ∧ ABlk.mk true
  7 (AC.cells [AV.nils, nU 0, nU 0, nU 0, nU 0, nU 0, nU 0]) = ABlk.mk true 7 (AC.cells [AV.sl 4 0 0 (r.bs.length / 64) (r.bs.length / 64) false, nU 0, nU 0, nU 0, nU 0, nU 0, nU 0]) ∧ True))
theorem laidB_c_e (r : Row) (g : Nat → List AV) : some (laidB_c_V r g) = (some ((laidL Go.Proofs.Tryd.prog).body sp Go.Proofs.Tryd.prog noBaseK (drP sp Go.Proofs.Tryd.prog noBaseK) noLo 40 ⟨r, 0, g, false⟩)) := by kernel_rfl
set_option maxRecDepth 100000 in
set_option maxHeartbeats 4000000 in
theorem laidB_ok (r : Row) (g : Nat → List AV) (h1 : r.bs.length ≤ 100000000) (h2 : r.bs.length ≤ r.c) : laidB_c_V r g := by
  unfold laidB_c_V
  simp only [Nat.sub_zero]
  by_cases h : 64 ≤ r.bs.length
  · refine spT (by simp; omega) (spT (by simp; omega) (spT (by simp; omega) (spT (by simp) (spT (by simp; omega) ⟨⟨r, 1, fun _ => (List.range 64).map fun t => AV.int .u8 (r.bs.getD t 0), true⟩, ⟨h, h1, h2, fun _ => ⟨Nat.le_refl _, fun _ _ => rfl⟩, fun h => (by cases h)⟩, ?_, rfl, ?_⟩))))
    · show r.bs.length - 1 < r.bs.length; omega
    · refine ⟨⟨by simp, by simp, by simp, trivial⟩, by simp, by simp, by simp, ⟨by simp, by simp, by simp, fun i hi j hj => ?_⟩, trivial⟩
      obtain rfl : i = 0 := by have : i < 1 := hi
                               omega
      rw [Nat.zero_mul, Nat.zero_add]
      rfl
  · refine spF (by simp; omega) (spT (by simp; omega) ⟨⟨by simp, by simp, trivial⟩, by simp, by simp, by simp, trivial⟩)
set_option maxRecDepth 100000 in
set_option maxHeartbeats 4000000 in
theorem laidA_ok (r : Row) (k : Nat) (g : Nat → List AV) (h0 : 64 * k ≤ r.bs.length) (h1 : r.bs.length ≤ 100000000) (h2 : r.bs.length ≤ r.c) (hk : 1 ≤ k) (hg : ∀ σ n, AV.rens σ (g n) = g n) : laidA_c_V r k g := by
  unfold laidA_c_V
  by_cases h : 64 * k + 64 ≤ r.bs.length
  · refine spT (by first | (simp; done) | (simp; omega)) (spT (by first | (simp; done) | (simp; omega)) (spT (by first | (simp; done) | (simp; omega)) (spT (by first | (simp; done) | (simp; omega)) (spT (by first | (simp; done) | (simp; omega)) (spT (by first | (simp; done) | (simp; omega)) (spT (by first | (simp; done) | (simp; omega)) (spT (by first | (simp; done) | (simp; omega)) (spT (by first | (simp; done) | (simp; omega)) ⟨⟨r, k + 1, fun i => bif Nat.blt i k then g i else (List.range 64).map fun t => AV.int .u8 (r.bs.getD (64 * k + 0 + t) 0), true⟩, ⟨?_, h1, h2, fun _ => ⟨?_, fun σ n => ?_⟩, fun h => (by cases h)⟩, ?_, rfl, ?_⟩))))))))
    · show 64 * (k + 1) ≤ r.bs.length; omega
    · show 1 ≤ k + 1; omega
    · show AV.rens σ (bif Nat.blt n k then g n else (List.range 64).map fun t => AV.int .u8 (r.bs.getD (64 * k + 0 + t) 0)) = _
      cases hb : Nat.blt n k
      · simp only [hb]; rfl
      · simp only [hb, cond_true]; exact hg σ n
    · show r.bs.length - (k + 1) < r.bs.length - k; omega
    · have e1 : r.bs.length - 64 * k - 64 = r.bs.length - 64 * (k + 1) := by omega
      have e2 : r.c - 64 * k - 64 = r.c - 64 * (k + 1) := by omega
      have e3 : 64 * k + 64 = 64 * (k + 1) := by omega
      rw [e1, e2, e3]
      refine ⟨⟨rfl, rfl, rfl, trivial⟩, rfl, rfl, (by first | rfl | simp), ⟨rfl, rfl, (by first | rfl | simp), fun i hi => ?_⟩, trivial⟩
      have hi : i < k + 1 := by simpa using hi
      by_cases hik : i < k
      · simp only [blt_true hik, cond_true, Nat.zero_add, hg]
      · obtain rfl : i = k := by omega
        simp only [blt_false hik, cond_false, Nat.sub_self]
        rfl
  · refine spF (by first | (simp; done) | (simp; omega)) (spF (by first | (simp; done) | (simp; omega)) ⟨⟨rfl, rfl, trivial⟩, rfl, rfl, ?_⟩)
    have e : r.bs.length / 64 = k := by omega
    rw [e]
    exact ⟨rfl, trivial⟩
set_option maxRecDepth 100000 in
theorem laidL_ok : (laidL Go.Proofs.Tryd.prog).OK Go.Proofs.Tryd.prog := by
  refine Lp.ok_of (noBaseK_ok _) (drP_ok hmix _ (noBaseK_ok _)) (noLo_ok _) (by decide) 40 (fun i hi => ?_)
  obtain ⟨r, k, g, s⟩ := i
  obtain ⟨h1, h2, h3, h4, h5⟩ := hi
  cases s with
  | true =>
    rw [← Option.some.inj (laidA_c_e r k g)]
    exact laidA_ok r k g h1 h2 h3 (h4 rfl).1 (h4 rfl).2
  | false =>
    have e : k = 0 := h5 rfl
    rw [e, ← Option.some.inj (laidB_c_e r g)]
    exact laidB_ok r g h2 h3
def laidC_c_V (r : Row) : Prop :=
  same (loopOf Proofs.Tryd.prog F_dev_laid 0) (loopOf Proofs.Tryd.prog F_dev_laid 0) ∧ (0 ≤ r.bs.length ∧ r.bs.length ≤ 100000000 ∧ r.bs.length ≤ r.c ∧ (false = true → 1 ≤ 0 ∧ ∀ (σ : Nat → Nat) (n : Nat), [AV.nils] = [AV.nils]) ∧ (false = false → 0 = 0)) ∧ ((AV.msl 0 0 0 r.bs.length r.c = AV.msl 0 0 0 (r.bs.length - 0) (r.c - 0) ∧ AV.ptr 1 0 0 = AV.ptr 1 0 0 ∧ AV.ptr 2 0 0 = AV.ptr 2 0 0 ∧ True) ∧ bR r.bs = bR r.bs ∧ ABlk.mk true 7 (AC.cells [AV.nils, nU 0, nU 0, nU 0, nU 0, nU 0, nU 0]) = ABlk.mk true 7 (AC.cells [AV.nils, nU 0, nU 0, nU 0, nU 0, nU 0, nU 0]) ∧ ABlk.mk true 7 (AC.cells [AV.nils, nU 0, nU 0, nU 0, nU 0, nU 0, nU 0]) = ABlk.mk true 7 (AC.cells [AV.nils, nU 0, nU 0, nU 0, nU 0, nU 0, nU 0]) ∧ True) ∧ sp (decide (r.bs.length < 64)) ((∃ (y : Unit), decide (r.bs.length < 64) = true ∧ [AV.agg [AV.nils, nU 0, nU 0, nU 0, nU 0, nU 0, nU 0]] = [AV.agg [AV.nils, nU 0, nU 0, nU 0, nU
  0, nU 0, nU 0]] ∧ bR r.bs = bR r.bs ∧ True) ∨ ∃ (y : Unit), decide (r.bs.length < 64) = false ∧ [AV.agg [AV.nils, nU 0, nU 0, nU 0, nU 0, nU 0, nU 0]] = [AV.agg [AV.sl 4 0 0 (r.bs.length / 64) (r.bs.length / 64) false, nU 0, nU 0, nU 0, nU 0, nU 0, nU 0]] ∧ bR r.bs = bR r.bs ∧ True) ((∃ (y : Unit), decide (r.bs.length < 64) = true ∧ [AV.agg [AV.sl 3 0 0 (r.bs.length / 64) (r.bs.length / 64) false, nU 0, nU 0, nU 0, nU 0, nU 0, nU 0]] = [AV.agg [AV.nils, nU 0, nU 0, nU 0, nU 0, nU 0, nU 0]] ∧ bR r.bs = bR r.bs ∧ True) ∨ ∃ (y : Unit), decide (r.bs.length < 64) = false ∧ [AV.agg [AV.sl 3 0 0 (r.bs.length / 64) (r.bs.length / 64) false, nU 0, nU 0, nU 0, nU 0, nU 0, nU 0]] = [AV.agg [AV.sl 3 0 0 (r.bs.length / 64) (r.bs.length / 64) false, nU 0, nU 0, nU 0, nU 0, nU 0, nU 0]] ∧ bR r.bs = bR r.bs ∧ True)
theorem laidC_c_e (r : Row) : some (laidC_c_V r) = (laidC.cond sp Go.Proofs.Tryd.prog (drP sp Go.Proofs.Tryd.prog) (forF F_dev_laid ((laidL Go.Proofs.Tryd.prog).lo sp Go.Proofs.Tryd.prog (isLoop 2) (loopOf Go.Proofs.Tryd.prog F_dev_laid 0)) noLoops) noBaseK 40 2 r) := by kernel_rfl
set_option maxRecDepth 100000 in
theorem laidC_ok : laidC.OK Go.Proofs.Tryd.prog := by
  refine Con.by hmix (forF_ok (Lp.lo_ok laidL_ok rfl) (noLoops_ok _)) (noBaseK_ok _) laidC_c_V laidC_c_e (fun r hr => ?_)
  have h1 : r.bs.length ≤ 100000000 := hr.1
  have h2 : r.bs.length ≤ r.c := hr.2
  unfold laidC_c_V
  refine ⟨rfl, ⟨Nat.zero_le _, h1, h2, fun h => (by cases h), fun _ => rfl⟩, ⟨⟨by simp, rfl, rfl, trivial⟩, rfl, rfl, rfl, trivial⟩, spI (fun h => .inl ⟨(), h, rfl, rfl, trivial⟩) (fun h => .inr ⟨(), h, rfl, rfl, trivial⟩)⟩
def devNewL_c_V (i : DnI) : Prop :=
  sp (decide ((↑i.k : Int) < (↑i.e.n : Int))) (sp (decide ((↑i.k : Int) < (↑i.e.n : Int)) && true) (sp (decide (0 + (↑i.k : Int).toNat < i.e.n) && true && (decide (0 + (↑i.k : Int).toNat < i.e.n) && true && (decide (0 + (↑i.k : Int).toNat < i.e.n) && true && true))) (True ∧ [] ++ [AV.agg [nI (i.e.at_ (0 + (↑i.k : Int).toNat)), nI (i.e.kind (0 + (↑i.k : Int).toNat)), nB (i.e.byte (0 + (↑i.k : Int).toNat))]] ++ [] = [AV.agg [nI (i.e.at_ (0 + (↑i.k : Int).toNat)), nI (i.e.kind (0 + (↑i.k : Int).toNat)), nB (i.e.byte (0 + (↑i.k : Int).toNat))]] ∧ True ∧ (∀ (y : Unit), True → sp (!mayN (EvX.mk (i.e.at_ (0 + (↑i.k : Int).toNat)) (i.e.kind (0 + (↑i.k : Int).toNat)) (i.e.byte (0 + (↑i.k : Int).toNat)))) (sp (evsOk i.e i.k) False ((AV.nilp = AV.nilp ∧ nI 2 = nI 2 ∧ True) ∧ (false = false ∧ 3 = 3 ∧ i.e.n = i.e.n ∧ ∀ (i_1 : Nat), i_1 < i.e.n → [nI (i.e.at_ i_1), nI (i.e.kind i_1), nB (i.e.byte i_1)] =
  [nI (i.e.at_ i_1), nI (i.e.kind i_1), nB (i.e.byte i_1)]) ∧ bR i.d.bs = bR i.d.bs ∧ True)) (∃ (j : DnI), (j.k ≤ j.e.n ∧ j.e.n ≤ 100000000) ∧ j.e.n - j.k < i.e.n - i.k ∧ [(evsOk j.e j.k, LOut.mk (AX.exit 0) [(0, AV.msl 0 0 0 j.e.n j.e.c), (1, AV.msl 1 0 0 j.d.bs.length j.d.c)] 2 [(0, ABlk.mk false 3 (AC.recs j.e.n j.e.f)), (1, bR j.d.bs)]), (true, LOut.mk AX.ret [(4, AV.nilp), (5, nI 2)] 2 [(0, ABlk.mk false 3 (AC.recs j.e.n j.e.f)), (1, bR j.d.bs)])] = [(evsOk i.e i.k, LOut.mk (AX.exit 0) [(0, AV.msl 0 0 0 i.e.n i.e.c), (1, AV.msl 1 0 0 i.d.bs.length i.d.c)] 2 [(0, ABlk.mk false 3 (AC.recs i.e.n i.e.f)), (1, bR i.d.bs)]), (true, LOut.mk AX.ret [(4, AV.nilp), (5, nI 2)] 2 [(0, ABlk.mk false 3 (AC.recs i.e.n i.e.f)), (1, bR i.d.bs)])] ∧ (AV.msl 0 0 0 i.e.n i.e.c = AV.msl 0 0 0 j.e.n j.e.c ∧ AV.msl 1 0 0 i.d.bs.length i.d.c = AV.msl 1 0 0 j.d.bs.length j.d.c ∧ AV.msl 0 0 0 i.e.n i.e.c =
  AV.msl 0 0 0 j.e.n j.e.c ∧ nI (↑i.e.n : Int) = nI (↑j.e.n : Int) ∧ nI (IntKind.i64.wrap ((↑i.k : Int) + 1)) = nI (↑j.k : Int) ∧ True) ∧ (false = false ∧ 3 = 3 ∧ i.e.n = j.e.n ∧ ∀ (i_1 : Nat), i_1 < i.e.n → [nI (i.e.at_ i_1), nI (i.e.kind i_1), nB (i.e.byte i_1)] = [nI (j.e.at_ i_1), nI (j.e.kind i_1), nB (j.e.byte i_1)]) ∧ bR i.d.bs = bR j.d.bs ∧ True)) ∧ True) False) False) (sp (evsOk i.e i.k) ((AV.msl 0 0 0 i.e.n i.e.c = AV.msl 0 0 0 i.e.n i.e.c ∧ AV.msl 1 0 0 i.d.bs.length i.d.c = AV.msl 1 0 0 i.d.bs.length i.d.c ∧ True) ∧ (false = false ∧ 3 = 3 ∧ i.e.n = i.e.n ∧ ∀ (i_1 : Nat), i_1 < i.e.n → [nI (i.e.at_ i_1), nI (i.e.kind i_1), nB (i.e.byte i_1)] = [nI (i.e.at_ i_1), nI (i.e.kind i_1), nB (i.e.byte i_1)]) ∧ bR i.d.bs = bR i.d.bs ∧ True) False)
theorem devNewL_c_e (i : DnI) : some (devNewL_c_V i) = (some ((devNewL Go.Proofs.Tryd.prog).body sp Go.Proofs.Tryd.prog (evC.orc sp) (drP sp Go.Proofs.Tryd.prog (evC.orc sp)) noLo 40 i)) := by kernel_rfl
set_option maxRecDepth 100000 in
theorem devNewL_ok : (devNewL Go.Proofs.Tryd.prog).OK Go.Proofs.Tryd.prog := by
  refine Lp.ok_of (Con.orc_ok evC_ok) (drP_ok hmix _ (Con.orc_ok evC_ok)) (noLo_ok _) (by decide) 40 (fun i hi => ?_)
  rw [← Option.some.inj (devNewL_c_e i)]
  have h1 : i.k ≤ i.e.n := hi.1
  have h2 : i.e.n ≤ 100000000 := hi.2
  unfold devNewL_c_V
  by_cases hk : i.k < i.e.n
  · have hx0 : 0 + (i.k : Int).toNat = i.k := by simp
    have hw : IntKind.wrap .i64 ((i.k : Int) + 1) = ((i.k + 1 : Nat) : Int) := by rw [IntWalk.i64_in _ (by omega)]; omega
    have hs := evsOk_step i.e i.k hk
    rw [hx0, hw]
    refine spT (by simp; omega) (spT (by simp; omega) (spT (by simp [hk]) ⟨trivial, rfl, trivial, fun _ _ => spI (fun h => ?_) (fun h => ?_), trivial⟩))
    · have h : mayN (i.e.x i.k) = false := by
        have h' : (!mayN (i.e.x i.k)) = true := h
        cases hq : mayN (i.e.x i.k)
        · rfl
        · rw [hq] at h'; cases h'
      refine spF (by rw [hs, h]; rfl) ⟨⟨rfl, rfl, trivial⟩, ⟨rfl, rfl, rfl, fun _ _ => rfl⟩, rfl, trivial⟩
    · have h : mayN (i.e.x i.k) = true := by
        have h' : (!mayN (i.e.x i.k)) = false := h
        cases hq : mayN (i.e.x i.k)
        · rw [hq] at h'; cases h'
        · rfl
      refine ⟨⟨i.e, i.d, i.k + 1⟩, ⟨hk, h2⟩, ?_, ?_, ⟨rfl, rfl, rfl, rfl, rfl, trivial⟩, ⟨rfl, rfl, rfl, fun _ _ => rfl⟩, rfl, trivial⟩
      · show i.e.n - (i.k + 1) < i.e.n - i.k; omega
      · rw [hs, h, Bool.true_and]
  · refine spF (by simp; omega) (spT (evsOk_end _ _ (by omega)) ⟨⟨rfl, rfl, trivial⟩, ⟨rfl, rfl, rfl, fun _ _ => rfl⟩, rfl, trivial⟩)
end Go.Proofs.YtmbcpmbpkdeioaaDoor.W
/- Devices of a saved guest: the walks. No condition. -/
namespace Go.Proofs.YtmbcpmbpkdeioaaDoor.W
open Go Go.RowKit Go.Eng
set_option maxRecDepth 100000
set_option linter.unusedVariables false
set_option linter.unusedSimpArgs false
def devNewC_c_V (x : DnX) : Prop :=
  sp (decide ((↑x.e.n : Int) > 64)) ((∃ (y : Unit), devN x = 3 ∧ [AV.tup [AV.nilp, nI 3]] = [AV.tup [AV.nilp, nI 3]] ∧ (false = false ∧ 3 = 3 ∧ x.e.n = x.e.n ∧ ∀ (i : Nat), i < x.e.n → [nI (x.e.at_ i), nI (x.e.kind i), nB (x.e.byte i)] = [nI (x.e.at_ i), nI (x.e.kind i), nB (x.e.byte i)]) ∧ bR x.d.bs = bR x.d.bs ∧ True) ∨ (∃ (y : Unit), devN x = 2 ∧ [AV.tup [AV.nilp, nI 3]] = [AV.tup [AV.nilp, nI 2]] ∧ (false = false ∧ 3 = 3 ∧ x.e.n = x.e.n ∧ ∀ (i : Nat), i < x.e.n → [nI (x.e.at_ i), nI (x.e.kind i), nB (x.e.byte i)] = [nI (x.e.at_ i), nI (x.e.kind i), nB (x.e.byte i)]) ∧ bR x.d.bs = bR x.d.bs ∧ True) ∨ (∃ (y : Unit), (devN x = 0 ∧ x.d.bs.length < 64) ∧ [AV.tup [AV.nilp, nI 3]] = [AV.tup [AV.ptr 2 0 0, nI 0]] ∧ (false = false ∧ 3 = 3 ∧ x.e.n = x.e.n ∧ ∀ (i : Nat), i < x.e.n → [nI (x.e.at_ i), nI (x.e.kind i), nB (x.e.byte i)] = [nI (x.e.at_ i), nI (x.e.kind i), nB (x.e.byte i)]) ∧ bR x.d.bs
  = bR x.d.bs ∧ False ∧ True) ∨ ∃ (y : Unit), (devN x = 0 ∧ ¬x.d.bs.length < 64) ∧ [AV.tup [AV.nilp, nI 3]] = [AV.tup [AV.ptr 2 0 0, nI 0]] ∧ (false = false ∧ 3 = 3 ∧ x.e.n = x.e.n ∧ ∀ (i : Nat), i < x.e.n → [nI (x.e.at_ i), nI (x.e.kind i), nB (x.e.byte i)] = [nI (x.e.at_ i), nI (x.e.kind i), nB (x.e.byte i)]) ∧ bR x.d.bs = bR x.d.bs ∧ False ∧ True) (sp (bif false then true else decide ((↑x.d.bs.length : Int) > 2048)) ((∃ (y : Unit), devN x = 3 ∧ [AV.tup [AV.nilp, nI 3]] = [AV.tup [AV.nilp, nI 3]] ∧ (false = false ∧ 3 = 3 ∧ x.e.n = x.e.n ∧ ∀ (i : Nat), i < x.e.n → [nI (x.e.at_ i), nI (x.e.kind i), nB (x.e.byte i)] = [nI (x.e.at_ i), nI (x.e.kind i), nB (x.e.byte i)]) ∧ bR x.d.bs = bR x.d.bs ∧ True) ∨ (∃ (y : Unit), devN x = 2 ∧ [AV.tup [AV.nilp, nI 3]] = [AV.tup [AV.nilp, nI 2]] ∧ (false = false ∧ 3 = 3 ∧ x.e.n = x.e.n ∧ ∀ (i : Nat), i < x.e.n → [nI (x.e.at_ i), nI (x.e.kind i), nB
  (x.e.byte i)] = [nI (x.e.at_ i), nI (x.e.kind i), nB (x.e.byte i)]) ∧ bR x.d.bs = bR x.d.bs ∧ True) ∨ (∃ (y : Unit), (devN x = 0 ∧ x.d.bs.length < 64) ∧ [AV.tup [AV.nilp, nI 3]] = [AV.tup [AV.ptr 2 0 0, nI 0]] ∧ (false = false ∧ 3 = 3 ∧ x.e.n = x.e.n ∧ ∀ (i : Nat), i < x.e.n → [nI (x.e.at_ i), nI (x.e.kind i), nB (x.e.byte i)] = [nI (x.e.at_ i), nI (x.e.kind i), nB (x.e.byte i)]) ∧ bR x.d.bs = bR x.d.bs ∧ False ∧ True) ∨ ∃ (y : Unit), (devN x = 0 ∧ ¬x.d.bs.length < 64) ∧ [AV.tup [AV.nilp, nI 3]] = [AV.tup [AV.ptr 2 0 0, nI 0]] ∧ (false = false ∧ 3 = 3 ∧ x.e.n = x.e.n ∧ ∀ (i : Nat), i < x.e.n → [nI (x.e.at_ i), nI (x.e.kind i), nB (x.e.byte i)] = [nI (x.e.at_ i), nI (x.e.kind i), nB (x.e.byte i)]) ∧ bR x.d.bs = bR x.d.bs ∧ False ∧ True) (same (loopOf Proofs.Tryd.prog F_dev_New 0) (loopOf Proofs.Tryd.prog F_dev_New 0) ∧ (0 ≤ x.e.n ∧ x.e.n ≤ 100000000) ∧ ((AV.msl 0 0 0 x.e.n x.e.c = AV.msl 0
  0 0 x.e.n x.e.c ∧ AV.msl 1 0 0 x.d.bs.length x.d.c = AV.msl 1 0 0 x.d.bs.length x.d.c ∧ AV.msl 0 0 0 x.e.n x.e.c = AV.msl 0 0 0 x.e.n x.e.c ∧ nI (↑x.e.n : Int) = nI (↑x.e.n : Int) ∧ nI 0 = nI 0 ∧ True) ∧ (false = false ∧ 3 = 3 ∧ x.e.n = x.e.n ∧ ∀ (i : Nat), i < x.e.n → [nI (x.e.at_ i), nI (x.e.kind i), nB (x.e.byte i)] = [nI (x.e.at_ i), nI (x.e.kind i), nB (x.e.byte i)]) ∧ bR x.d.bs = bR x.d.bs ∧ True) ∧ sp (evsOk (ERow.mk x.e.n x.e.c (fun (i : Nat) => numAt (x.e.f i) 0) (fun (i : Nat) => numAt (x.e.f i) 1) fun (i : Nat) => numAt (x.e.f i) 2) 0) (sp ((↑x.d.bs.length : Int).tmod 64 != 0) ((∃ (y : Unit), devN x = 3 ∧ [AV.tup [AV.nilp, nI 2]] = [AV.tup [AV.nilp, nI 3]] ∧ (false = false ∧ 3 = 3 ∧ x.e.n = x.e.n ∧ ∀ (i : Nat), i < x.e.n → [nI (x.e.at_ i), nI (x.e.kind i), nB (x.e.byte i)] = [nI (x.e.at_ i), nI (x.e.kind i), nB (x.e.byte i)]) ∧ bR x.d.bs = bR x.d.bs ∧ True) ∨ (∃ (y : Unit),
  devN x = 2 ∧ [AV.tup [AV.nilp, nI 2]] = [AV.tup [AV.nilp, nI 2]] ∧ (false = false ∧ 3 = 3 ∧ x.e.n = x.e.n ∧ ∀ (i : Nat), i < x.e.n → [nI (x.e.at_ i), nI (x.e.kind i), nB (x.e.byte i)] = [nI (x.e.at_ i), nI (x.e.kind i), nB (x.e.byte i)]) ∧ bR x.d.bs = bR x.d.bs ∧ True) ∨ (∃ (y : Unit), (devN x = 0 ∧ x.d.bs.length < 64) ∧ [AV.tup [AV.nilp, nI 2]] = [AV.tup [AV.ptr 2 0 0, nI 0]] ∧ (false = false ∧ 3 = 3 ∧ x.e.n = x.e.n ∧ ∀ (i : Nat), i < x.e.n → [nI (x.e.at_ i), nI (x.e.kind i), nB (x.e.byte i)] = [nI (x.e.at_ i), nI (x.e.kind i), nB (x.e.byte i)]) ∧ bR x.d.bs = bR x.d.bs ∧ False ∧ True) ∨ ∃ (y : Unit), (devN x = 0 ∧ ¬x.d.bs.length < 64) ∧ [AV.tup [AV.nilp, nI 2]] = [AV.tup [AV.ptr 2 0 0, nI 0]] ∧ (false = false ∧ 3 = 3 ∧ x.e.n = x.e.n ∧ ∀ (i : Nat), i < x.e.n → [nI (x.e.at_ i), nI (x.e.kind i), nB (x.e.byte i)] = [nI (x.e.at_ i), nI (x.e.kind i), nB (x.e.byte i)]) ∧ bR x.d.bs = bR x.d.bs ∧
  False ∧ True) ((x.e.n ≤ 100000000 ∧ x.e.n ≤ x.e.c) ∧ [] ++ [AV.msl 0 0 0 x.e.n x.e.c] ++ [] = [AV.msl 0 0 0 x.e.n x.e.c] ∧ (some (ABlk.mk false 3 (AC.recs x.e.n (ERow.mk x.e.n x.e.c (fun (i : Nat) => numAt (x.e.f i) 0) (fun (i : Nat) => numAt (x.e.f i) 1) fun (i : Nat) => numAt (x.e.f i) 2).f)) = some (ABlk.mk false 3 (AC.recs x.e.n fun (i : Nat) => [nI (x.e.at_ i), nI (x.e.kind i), nB (x.e.byte i)])) ∧ True) ∧ (∀ (y : Unit), True → (x.d.bs.length ≤ 100000000 ∧ x.d.bs.length ≤ x.d.c) ∧ [] ++ [AV.msl 1 0 0 x.d.bs.length x.d.c] ++ [] = [AV.msl 1 0 0 x.d.bs.length x.d.c] ∧ (some (bR x.d.bs) = some (bR x.d.bs) ∧ True) ∧ (∀ (y : Unit), decide (x.d.bs.length < 64) = true → (∃ (y : Unit), devN x = 3 ∧ [AV.tup [AV.ptr 6 0 0, nI 0]] = [AV.tup [AV.nilp, nI 3]] ∧ (false = false ∧ 3 = 3 ∧ x.e.n = x.e.n ∧ ∀ (i : Nat), i < x.e.n → [nI (x.e.at_ i), nI (x.e.kind i), nB (x.e.byte i)] = [nI (x.e.at_ i), nI
  (x.e.kind i), nB (x.e.byte i)]) ∧ bR x.d.bs = bR x.d.bs ∧ True) ∨ (∃ (y : Unit), devN x = 2 ∧ [AV.tup [AV.ptr 6 0 0, nI 0]] = [AV.tup [AV.nilp, nI 2]] ∧ (false = false ∧ 3 = 3 ∧ x.e.n = x.e.n ∧ ∀ (i : Nat), i < x.e.n → [nI (x.e.at_ i), nI (x.e.kind i), nB (x.e.byte i)] = [nI (x.e.at_ i), nI (x.e.kind i), nB (x.e.byte i)]) ∧ bR x.d.bs = bR x.d.bs ∧ True) ∨ (∃ (y : Unit), (devN x = 0 ∧ x.d.bs.length < 64) ∧ [AV.tup [AV.ptr 6 0 0, nI 0]] = [AV.tup [AV.ptr 6 0 0, nI 0]] ∧ (false = false ∧ 3 = 3 ∧ x.e.n = x.e.n ∧ ∀ (i : Nat), i < x.e.n → [nI (x.e.at_ i), nI (x.e.kind i), nB (x.e.byte i)] = [nI (x.e.at_ i), nI (x.e.kind i), nB (x.e.byte i)]) ∧ bR x.d.bs = bR x.d.bs ∧ ABlk.mk true [nU 0, nU 0, AV.nils, AV.nils, nU 0, nU 0, nU 0, nU 0, nU 0, nU 0, AV.bool true, AV.msl 2 0 0 x.e.n x.e.n, AV.nils].length (AC.cells [nU 0, nU 0, AV.nils, AV.nils, nU 0, nU 0, nU 0, nU 0, nU 0, nU 0, AV.bool true,
  AV.msl 2 0 0 x.e.n x.e.n, AV.nils]) = ABlk.mk true 13 (AC.cells [nU 0, nU 0, AV.nils, AV.nils, nU 0, nU 0, nU 0, nU 0, nU 0, nU 0, AV.bool true, AV.msl 2 0 0 x.e.n x.e.n, AV.nils]) ∧ True) ∨ ∃ (y : Unit), (devN x = 0 ∧ ¬x.d.bs.length < 64) ∧ [AV.tup [AV.ptr 6 0 0, nI 0]] = [AV.tup [AV.ptr 6 0 0, nI 0]] ∧ (false = false ∧ 3 = 3 ∧ x.e.n = x.e.n ∧ ∀ (i : Nat), i < x.e.n → [nI (x.e.at_ i), nI (x.e.kind i), nB (x.e.byte i)] = [nI (x.e.at_ i), nI (x.e.kind i), nB (x.e.byte i)]) ∧ bR x.d.bs = bR x.d.bs ∧ ABlk.mk true [nU 0, nU 0, AV.nils, AV.nils, nU 0, nU 0, nU 0, nU 0, nU 0, nU 0, AV.bool true, AV.msl 2 0 0 x.e.n x.e.n, AV.nils].length (AC.cells [nU 0, nU 0, AV.nils, AV.nils, nU 0, nU 0, nU 0, nU 0, nU 0, nU 0, AV.bool true, AV.msl 2 0 0 x.e.n x.e.n, AV.nils]) = ABlk.mk true 13 (AC.cells [nU 0, nU 0, AV.nils, AV.sl 7 0 0 (x.d.bs.length / 64) (x.d.bs.length / 64) false, nU 0, nU 0, nU 0, nU 0,
  nU 0, nU 0, AV.bool true, AV.msl 2 0 0 x.e.n x.e.n, AV.nils]) ∧ True) ∧ (∀ (y : Unit), decide (x.d.bs.length < 64) = false → (∃ (y : Unit), devN x = 3 ∧ [AV.tup [AV.ptr 6 0 0, nI 0]] = [AV.tup [AV.nilp, nI 3]] ∧ (false = false ∧ 3 = 3 ∧ x.e.n = x.e.n ∧ ∀ (i : Nat), i < x.e.n → [nI (x.e.at_ i), nI (x.e.kind i), nB (x.e.byte i)] = [nI (x.e.at_ i), nI (x.e.kind i), nB (x.e.byte i)]) ∧ bR x.d.bs = bR x.d.bs ∧ True) ∨ (∃ (y : Unit), devN x = 2 ∧ [AV.tup [AV.ptr 6 0 0, nI 0]] = [AV.tup [AV.nilp, nI 2]] ∧ (false = false ∧ 3 = 3 ∧ x.e.n = x.e.n ∧ ∀ (i : Nat), i < x.e.n → [nI (x.e.at_ i), nI (x.e.kind i), nB (x.e.byte i)] = [nI (x.e.at_ i), nI (x.e.kind i), nB (x.e.byte i)]) ∧ bR x.d.bs = bR x.d.bs ∧ True) ∨ (∃ (y : Unit), (devN x = 0 ∧ x.d.bs.length < 64) ∧ [AV.tup [AV.ptr 6 0 0, nI 0]] = [AV.tup [AV.ptr 6 0 0, nI 0]] ∧ (false = false ∧ 3 = 3 ∧ x.e.n = x.e.n ∧ ∀ (i : Nat), i < x.e.n → [nI
  (x.e.at_ i), nI (x.e.kind i), nB (x.e.byte i)] = [nI (x.e.at_ i), nI (x.e.kind i), nB (x.e.byte i)]) ∧ bR x.d.bs = bR x.d.bs ∧ ABlk.mk true [nU 0, nU 0, AV.nils, AV.sl 5 0 0 (x.d.bs.length / 64) (x.d.bs.length / 64) false, nU 0, nU 0, nU 0, nU 0, nU 0, nU 0, AV.bool true, AV.msl 2 0 0 x.e.n x.e.n, AV.nils].length (AC.cells [nU 0, nU 0, AV.nils, AV.sl 5 0 0 (x.d.bs.length / 64) (x.d.bs.length / 64) false, nU 0, nU 0, nU 0, nU 0, nU 0, nU 0, AV.bool true, AV.msl 2 0 0 x.e.n x.e.n, AV.nils]) = ABlk.mk true 13 (AC.cells [nU 0, nU 0, AV.nils, AV.nils, nU 0, nU 0, nU 0, nU 0, nU 0, nU 0, AV.bool true, AV.msl 2 0 0 x.e.n x.e.n, AV.nils]) ∧ True) ∨ ∃ (y : Unit), (devN x = 0 ∧ ¬x.d.bs.length < 64) ∧ [AV.tup [AV.ptr 6 0 0, nI 0]] = [AV.tup [AV.ptr 6 0 0, nI 0]] ∧ (false = false ∧ 3 = 3 ∧ x.e.n = x.e.n ∧ ∀ (i : Nat), i < x.e.n → [nI (x.e.at_ i), nI (x.e.kind i), nB (x.e.byte i)] = [nI (x.e.at_ i),
  nI (x.e.kind i), nB (x.e.byte i)]) ∧ bR x.d.bs = bR x.d.bs ∧ ABlk.mk true [nU 0, nU 0, AV.nils, AV.sl 5 0 0 (x.d.bs.length / 64) (x.d.bs.length / 64) false, nU 0, nU 0, nU 0, nU 0, nU 0, nU 0, AV.bool true, AV.msl 2 0 0 x.e.n x.e.n, AV.nils].length (AC.cells [nU 0, nU 0, AV.nils, AV.sl 5 0 0 (x.d.bs.length / 64) (x.d.bs.length / 64) false, nU 0, nU 0, nU 0, nU 0, nU 0, nU 0, AV.bool true, AV.msl 2 0 0 x.e.n x.e.n, AV.nils]) = ABlk.mk true 13 (AC.cells [nU 0, nU 0, AV.nils, AV.sl 5 0 0 (x.d.bs.length / 64) (x.d.bs.length / 64) false, nU 0, nU 0, nU 0, nU 0, nU 0, nU 0, AV.bool true, AV.msl 2 0 0 x.e.n x.e.n, AV.nils]) ∧ True) ∧ True) ∧ True)) ((∃ (y : Unit), devN x = 3 ∧ [AV.tup [AV.nilp, nI 2]] = [AV.tup [AV.nilp, nI 3]] ∧ (false = false ∧ 3 = 3 ∧ x.e.n = x.e.n ∧ ∀ (i : Nat), i < x.e.n → [nI (x.e.at_ i), nI (x.e.kind i), nB (x.e.byte i)] = [nI (x.e.at_ i), nI (x.e.kind i), nB (x.e.byte
  i)]) ∧ bR x.d.bs = bR x.d.bs ∧ True) ∨ (∃ (y : Unit), devN x = 2 ∧ [AV.tup [AV.nilp, nI 2]] = [AV.tup [AV.nilp, nI 2]] ∧ (false = false ∧ 3 = 3 ∧ x.e.n = x.e.n ∧ ∀ (i : Nat), i < x.e.n → [nI (x.e.at_ i), nI (x.e.kind i), nB (x.e.byte i)] = [nI (x.e.at_ i), nI (x.e.kind i), nB (x.e.byte i)]) ∧ bR x.d.bs = bR x.d.bs ∧ True) ∨ (∃ (y : Unit), (devN x = 0 ∧ x.d.bs.length < 64) ∧ [AV.tup [AV.nilp, nI 2]] = [AV.tup [AV.ptr 2 0 0, nI 0]] ∧ (false = false ∧ 3 = 3 ∧ x.e.n = x.e.n ∧ ∀ (i : Nat), i < x.e.n → [nI (x.e.at_ i), nI (x.e.kind i), nB (x.e.byte i)] = [nI (x.e.at_ i), nI (x.e.kind i), nB (x.e.byte i)]) ∧ bR x.d.bs = bR x.d.bs ∧ False ∧ True) ∨ ∃ (y : Unit), (devN x = 0 ∧ ¬x.d.bs.length < 64) ∧ [AV.tup [AV.nilp, nI 2]] = [AV.tup [AV.ptr 2 0 0, nI 0]] ∧ (false = false ∧ 3 = 3 ∧ x.e.n = x.e.n ∧ ∀ (i : Nat), i < x.e.n → [nI (x.e.at_ i), nI (x.e.kind i), nB (x.e.byte i)] = [nI (x.e.at_ i), nI
  (x.e.kind i), nB (x.e.byte i)]) ∧ bR x.d.bs = bR x.d.bs ∧ False ∧ True)))
theorem devNewC_c_e (x : DnX) : some (devNewC_c_V x) = (devNewC.cond sp Go.Proofs.Tryd.prog (drP sp Go.Proofs.Tryd.prog) (forF F_dev_New ((devNewL Go.Proofs.Tryd.prog).lo sp Go.Proofs.Tryd.prog (isLoop 4) (loopOf Go.Proofs.Tryd.prog F_dev_New 0)) noLoops) (orK (eclC.orc sp) (laidC.orc sp)) 40 2 x) := by kernel_rfl
set_option maxRecDepth 100000 in
theorem devNewC_ok : devNewC.OK Go.Proofs.Tryd.prog := by
  refine Con.by hmix (forF_ok (Lp.lo_ok devNewL_ok rfl) (noLoops_ok _)) (orK_ok (Con.orc_ok eclC_ok) (Con.orc_ok laidC_ok)) devNewC_c_V devNewC_c_e (fun x hx => ?_)
  obtain ⟨h1, h2, h3, h4⟩ := hx
  have hb1 : decide ((x.e.n : Int) > 64) = false → x.e.n ≤ 100000000 := fun h => by
    have : ¬ (x.e.n : Int) > 64 := by simpa using h
    omega
  have hb2 : decide ((x.d.bs.length : Int) > 2048) = false → x.d.bs.length ≤ 100000000 := fun h => by
    have : ¬ (x.d.bs.length : Int) > 2048 := by simpa using h
    omega
  unfold devNewC_c_V
  refine spI (fun h => ?_) (fun h => spI (fun g => ?_) (fun g => ⟨rfl, ⟨Nat.zero_le _, hb1 h⟩, ⟨⟨rfl, rfl, rfl, rfl, rfl, trivial⟩, ⟨rfl, rfl, rfl, fun _ _ => rfl⟩, rfl, trivial⟩, spI (fun he => spI (fun hm => ?_) (fun hm => ⟨⟨hb1 h, h2⟩, rfl, ⟨rfl, trivial⟩, fun _ _ => ⟨⟨hb2 g, h4⟩, rfl, ⟨rfl, trivial⟩, fun _ hl => ?_, fun _ hl => ?_, trivial⟩, trivial⟩)) (fun he => ?_)⟩))
  · have h : x.e.n > 64 := by have : (x.e.n : Int) > 64 := by simpa using h
                              omega
    exact .inl ⟨(), by simp [devN, h], rfl, ⟨rfl, rfl, rfl, fun _ _ => rfl⟩, rfl, trivial⟩
  · have g : x.d.bs.length > 2048 := by have : (x.d.bs.length : Int) > 2048 := by simpa using g
                                        omega
    exact .inl ⟨(), by simp [devN, g], rfl, ⟨rfl, rfl, rfl, fun _ _ => rfl⟩, rfl, trivial⟩
  all_goals
    have h : ¬ x.e.n > 64 := by
      have : ¬ (x.e.n : Int) > 64 := by simpa using h
      omega
    have g : ¬ x.d.bs.length > 2048 := by
      have : ¬ (x.d.bs.length : Int) > 2048 := by simpa using g
      omega
    have h' : decide (x.e.n > 64) = false := by simpa using h
    have g' : decide (x.d.bs.length > 2048) = false := by simpa using g
  · have he : evsOk x.e 0 = true := he
    have hm : ¬ x.d.bs.length % 64 = 0 := by
      have : ¬ (x.d.bs.length : Int).tmod 64 = 0 := by simpa using hm
      rw [Int.tmod_eq_emod_of_nonneg (by omega)] at this
      omega
    have hm' : (x.d.bs.length % 64 == 0) = false := by simpa using hm
    exact .inr (.inl ⟨(), by simp [devN, h', g', he, hm'], rfl, ⟨rfl, rfl, rfl, fun _ _ => rfl⟩, rfl, trivial⟩)
  · have he : evsOk x.e 0 = true := he
    have hm : x.d.bs.length % 64 = 0 := by
      have : (x.d.bs.length : Int).tmod 64 = 0 := by simpa using hm
      rw [Int.tmod_eq_emod_of_nonneg (by omega)] at this
      omega
    exact .inr (.inr (.inl ⟨(), ⟨by simp [devN, h', g', he, hm], by simpa using hl⟩, rfl, ⟨rfl, rfl, rfl, fun _ _ => rfl⟩, rfl, rfl, trivial⟩))
  · have he : evsOk x.e 0 = true := he
    have hm : x.d.bs.length % 64 = 0 := by
      have : (x.d.bs.length : Int).tmod 64 = 0 := by simpa using hm
      rw [Int.tmod_eq_emod_of_nonneg (by omega)] at this
      omega
    exact .inr (.inr (.inr ⟨(), ⟨by simp [devN, h', g', he, hm], by simpa using hl⟩, rfl, ⟨rfl, rfl, rfl, fun _ _ => rfl⟩, rfl, rfl, trivial⟩))
  · have he : evsOk x.e 0 = false := he
    exact .inr (.inl ⟨(), by simp [devN, h', g', he], rfl, ⟨rfl, rfl, rfl, fun _ _ => rfl⟩, rfl, trivial⟩)
abbrev devLoadC_c_l0 (x : Sv) : List AV :=
  [AV.agg [nI x.fr, AV.msl 0 0 0 x.mem.bs.length x.mem.c, nU x.s.r0, nU x.s.r1, nU x.s.r2, nU x.s.r3, nU x.s.r4, nU x.s.r5, nU x.s.r6, nU x.s.r7, nU x.s.pc, nU x.s.ps, nU x.s.c0, nU x.s.c1, nU x.s.c2, nU x.s.c3, nU x.s.c4, nU x.s.c5, nU x.s.c6, nU x.s.c7, AV.bool x.s.h, nI x.steps, AV.msl 1 0 0 x.notes.n x.notes.c, AV.msl 2 0 0 x.out.bs.length x.out.c, AV.msl 3 0 0 x.disk.bs.length x.disk.c, AV.msl 4 0 0 x.queue.bs.length x.queue.c, AV.msl 5 0 0 x.script.n x.script.c, nU x.b1, nU x.b2, nU x.b3, nU x.b4, nU x.b5, nU x.b6, nU x.b7, nU x.b8]]
def devLoadC_c_V (x : Sv) : Prop :=
  (x.script.n ≤ 140737488351232 ∧ x.script.n ≤ x.script.c ∧ x.disk.bs.length ≤ 140737488351232 ∧ x.disk.bs.length ≤ x.disk.c) ∧ [] ++ [AV.msl 5 0 0 x.script.n x.script.c, AV.msl 3 0 0 x.disk.bs.length x.disk.c] ++ [] = [AV.msl 5 0 0 x.script.n x.script.c, AV.msl 3 0 0 x.disk.bs.length x.disk.c] ∧ (some (ABlk.mk false 3 (AC.recs x.script.n x.script.f)) = some (ABlk.mk false 3 (AC.recs x.script.n fun (i : Nat) => [nI (x.script.at_ i), nI (x.script.kind i), nB (x.script.byte i)])) ∧ some (bR x.disk.bs) = some (bR x.disk.bs) ∧ True) ∧ (∀ (y : Unit), devN (DnX.mk (ERow.mk x.script.n x.script.c (fun (i : Nat) => numAt (x.script.f i) 0) (fun (i : Nat) => numAt (x.script.f i) 1) fun (i : Nat) => numAt (x.script.f i) 2) (Row.mk x.disk.bs x.disk.c)) = 3 → (∃ (y : Unit), devLN x = 3 ∧ [AV.tup [AV.nilp, nI 3]] = [AV.tup [AV.nilp, nI 3]] ∧ bR x.mem.bs = bR x.mem.bs ∧ (false = false ∧ 4 = 4 ∧ x.notes.n =
  x.notes.n ∧ ∀ (i : Nat), i < x.notes.n → [nI (x.notes.at_ i), nI (x.notes.cause i), nU (x.notes.back i), nU (x.notes.addr i)] = [nI (x.notes.at_ i), nI (x.notes.cause i), nU (x.notes.back i), nU (x.notes.addr i)]) ∧ bR x.out.bs = bR x.out.bs ∧ bR x.disk.bs = bR x.disk.bs ∧ bR x.queue.bs = bR x.queue.bs ∧ (false = false ∧ 3 = 3 ∧ x.script.n = x.script.n ∧ ∀ (i : Nat), i < x.script.n → [nI (x.script.at_ i), nI (x.script.kind i), nB (x.script.byte i)] = [nI (x.script.at_ i), nI (x.script.kind i), nB (x.script.byte i)]) ∧ True) ∨ (∃ (y : Unit), devLN x = 2 ∧ [AV.tup [AV.nilp, nI 3]] = [AV.tup [AV.nilp, nI 2]] ∧ bR x.mem.bs = bR x.mem.bs ∧ (false = false ∧ 4 = 4 ∧ x.notes.n = x.notes.n ∧ ∀ (i : Nat), i < x.notes.n → [nI (x.notes.at_ i), nI (x.notes.cause i), nU (x.notes.back i), nU (x.notes.addr i)] = [nI (x.notes.at_ i), nI (x.notes.cause i), nU (x.notes.back i), nU (x.notes.addr i)]) ∧ bR
  x.out.bs = bR x.out.bs ∧ bR x.disk.bs = bR x.disk.bs ∧ bR x.queue.bs = bR x.queue.bs ∧ (false = false ∧ 3 = 3 ∧ x.script.n = x.script.n ∧ ∀ (i : Nat), i < x.script.n → [nI (x.script.at_ i), nI (x.script.kind i), nB (x.script.byte i)] = [nI (x.script.at_ i), nI (x.script.kind i), nB (x.script.byte i)]) ∧ True) ∨ ∃ (y : Unit), devLN x = 0 ∧ [AV.tup [AV.nilp, nI 3]] = [AV.tup [AV.ptr 11 0 0, nI 0]] ∧ bR x.mem.bs = bR x.mem.bs ∧ (false = false ∧ 4 = 4 ∧ x.notes.n = x.notes.n ∧ ∀ (i : Nat), i < x.notes.n → [nI (x.notes.at_ i), nI (x.notes.cause i), nU (x.notes.back i), nU (x.notes.addr i)] = [nI (x.notes.at_ i), nI (x.notes.cause i), nU (x.notes.back i), nU (x.notes.addr i)]) ∧ bR x.out.bs = bR x.out.bs ∧ bR x.disk.bs = bR x.disk.bs ∧ bR x.queue.bs = bR x.queue.bs ∧ (false = false ∧ 3 = 3 ∧ x.script.n = x.script.n ∧ ∀ (i : Nat), i < x.script.n → [nI (x.script.at_ i), nI (x.script.kind i), nB
  (x.script.byte i)] = [nI (x.script.at_ i), nI (x.script.kind i), nB (x.script.byte i)]) ∧ True) ∧ (∀ (y : Unit), devN (DnX.mk (ERow.mk x.script.n x.script.c (fun (i : Nat) => numAt (x.script.f i) 0) (fun (i : Nat) => numAt (x.script.f i) 1) fun (i : Nat) => numAt (x.script.f i) 2) (Row.mk x.disk.bs x.disk.c)) = 2 → (∃ (y : Unit), devLN x = 3 ∧ [AV.tup [AV.nilp, nI 2]] = [AV.tup [AV.nilp, nI 3]] ∧ bR x.mem.bs = bR x.mem.bs ∧ (false = false ∧ 4 = 4 ∧ x.notes.n = x.notes.n ∧ ∀ (i : Nat), i < x.notes.n → [nI (x.notes.at_ i), nI (x.notes.cause i), nU (x.notes.back i), nU (x.notes.addr i)] = [nI (x.notes.at_ i), nI (x.notes.cause i), nU (x.notes.back i), nU (x.notes.addr i)]) ∧ bR x.out.bs = bR x.out.bs ∧ bR x.disk.bs = bR x.disk.bs ∧ bR x.queue.bs = bR x.queue.bs ∧ (false = false ∧ 3 = 3 ∧ x.script.n = x.script.n ∧ ∀ (i : Nat), i < x.script.n → [nI (x.script.at_ i), nI (x.script.kind i), nB
  (x.script.byte i)] = [nI (x.script.at_ i), nI (x.script.kind i), nB (x.script.byte i)]) ∧ True) ∨ (∃ (y : Unit), devLN x = 2 ∧ [AV.tup [AV.nilp, nI 2]] = [AV.tup [AV.nilp, nI 2]] ∧ bR x.mem.bs = bR x.mem.bs ∧ (false = false ∧ 4 = 4 ∧ x.notes.n = x.notes.n ∧ ∀ (i : Nat), i < x.notes.n → [nI (x.notes.at_ i), nI (x.notes.cause i), nU (x.notes.back i), nU (x.notes.addr i)] = [nI (x.notes.at_ i), nI (x.notes.cause i), nU (x.notes.back i), nU (x.notes.addr i)]) ∧ bR x.out.bs = bR x.out.bs ∧ bR x.disk.bs = bR x.disk.bs ∧ bR x.queue.bs = bR x.queue.bs ∧ (false = false ∧ 3 = 3 ∧ x.script.n = x.script.n ∧ ∀ (i : Nat), i < x.script.n → [nI (x.script.at_ i), nI (x.script.kind i), nB (x.script.byte i)] = [nI (x.script.at_ i), nI (x.script.kind i), nB (x.script.byte i)]) ∧ True) ∨ ∃ (y : Unit), devLN x = 0 ∧ [AV.tup [AV.nilp, nI 2]] = [AV.tup [AV.ptr 11 0 0, nI 0]] ∧ bR x.mem.bs = bR x.mem.bs ∧ (false
  = false ∧ 4 = 4 ∧ x.notes.n = x.notes.n ∧ ∀ (i : Nat), i < x.notes.n → [nI (x.notes.at_ i), nI (x.notes.cause i), nU (x.notes.back i), nU (x.notes.addr i)] = [nI (x.notes.at_ i), nI (x.notes.cause i), nU (x.notes.back i), nU (x.notes.addr i)]) ∧ bR x.out.bs = bR x.out.bs ∧ bR x.disk.bs = bR x.disk.bs ∧ bR x.queue.bs = bR x.queue.bs ∧ (false = false ∧ 3 = 3 ∧ x.script.n = x.script.n ∧ ∀ (i : Nat), i < x.script.n → [nI (x.script.at_ i), nI (x.script.kind i), nB (x.script.byte i)] = [nI (x.script.at_ i), nI (x.script.kind i), nB (x.script.byte i)]) ∧ True) ∧ (∀ (y : Unit), devN (DnX.mk (ERow.mk x.script.n x.script.c (fun (i : Nat) => numAt (x.script.f i) 0) (fun (i : Nat) => numAt (x.script.f i) 1) fun (i : Nat) => numAt (x.script.f i) 2) (Row.mk x.disk.bs x.disk.c)) = 0 ∧ x.disk.bs.length < 64 → sp (decide ((↑x.queue.bs.length : Int) > 32)) ((∃ (y : Unit), devLN x = 3 ∧ [AV.tup [AV.nilp, nI
  3]] = [AV.tup [AV.nilp, nI 3]] ∧ bR x.mem.bs = bR x.mem.bs ∧ (false = false ∧ 4 = 4 ∧ x.notes.n = x.notes.n ∧ ∀ (i : Nat), i < x.notes.n → [nI (x.notes.at_ i), nI (x.notes.cause i), nU (x.notes.back i), nU (x.notes.addr i)] = [nI (x.notes.at_ i), nI (x.notes.cause i), nU (x.notes.back i), nU (x.notes.addr i)]) ∧ bR x.out.bs = bR x.out.bs ∧ bR x.disk.bs = bR x.disk.bs ∧ bR x.queue.bs = bR x.queue.bs ∧ (false = false ∧ 3 = 3 ∧ x.script.n = x.script.n ∧ ∀ (i : Nat), i < x.script.n → [nI (x.script.at_ i), nI (x.script.kind i), nB (x.script.byte i)] = [nI (x.script.at_ i), nI (x.script.kind i), nB (x.script.byte i)]) ∧ True) ∨ (∃ (y : Unit), devLN x = 2 ∧ [AV.tup [AV.nilp, nI 3]] = [AV.tup [AV.nilp, nI 2]] ∧ bR x.mem.bs = bR x.mem.bs ∧ (false = false ∧ 4 = 4 ∧ x.notes.n = x.notes.n ∧ ∀ (i : Nat), i < x.notes.n → [nI (x.notes.at_ i), nI (x.notes.cause i), nU (x.notes.back i), nU (x.notes.addr
  i)] = [nI (x.notes.at_ i), nI (x.notes.cause i), nU (x.notes.back i), nU (x.notes.addr i)]) ∧ bR x.out.bs = bR x.out.bs ∧ bR x.disk.bs = bR x.disk.bs ∧ bR x.queue.bs = bR x.queue.bs ∧ (false = false ∧ 3 = 3 ∧ x.script.n = x.script.n ∧ ∀ (i : Nat), i < x.script.n → [nI (x.script.at_ i), nI (x.script.kind i), nB (x.script.byte i)] = [nI (x.script.at_ i), nI (x.script.kind i), nB (x.script.byte i)]) ∧ True) ∨ ∃ (y : Unit), devLN x = 0 ∧ [AV.tup [AV.nilp, nI 3]] = [AV.tup [AV.ptr 11 0 0, nI 0]] ∧ bR x.mem.bs = bR x.mem.bs ∧ (false = false ∧ 4 = 4 ∧ x.notes.n = x.notes.n ∧ ∀ (i : Nat), i < x.notes.n → [nI (x.notes.at_ i), nI (x.notes.cause i), nU (x.notes.back i), nU (x.notes.addr i)] = [nI (x.notes.at_ i), nI (x.notes.cause i), nU (x.notes.back i), nU (x.notes.addr i)]) ∧ bR x.out.bs = bR x.out.bs ∧ bR x.disk.bs = bR x.disk.bs ∧ bR x.queue.bs = bR x.queue.bs ∧ (false = false ∧ 3 = 3 ∧
  x.script.n = x.script.n ∧ ∀ (i : Nat), i < x.script.n → [nI (x.script.at_ i), nI (x.script.kind i), nB (x.script.byte i)] = [nI (x.script.at_ i), nI (x.script.kind i), nB (x.script.byte i)]) ∧ True) (sp (bits BinOp.andNot IntKind.u32 x.b1 7 != 0) ((∃ (y : Unit), devLN x = 3 ∧ [AV.tup [AV.nilp, nI 2]] = [AV.tup [AV.nilp, nI 3]] ∧ bR x.mem.bs = bR x.mem.bs ∧ (false = false ∧ 4 = 4 ∧ x.notes.n = x.notes.n ∧ ∀ (i : Nat), i < x.notes.n → [nI (x.notes.at_ i), nI (x.notes.cause i), nU (x.notes.back i), nU (x.notes.addr i)] = [nI (x.notes.at_ i), nI (x.notes.cause i), nU (x.notes.back i), nU (x.notes.addr i)]) ∧ bR x.out.bs = bR x.out.bs ∧ bR x.disk.bs = bR x.disk.bs ∧ bR x.queue.bs = bR x.queue.bs ∧ (false = false ∧ 3 = 3 ∧ x.script.n = x.script.n ∧ ∀ (i : Nat), i < x.script.n → [nI (x.script.at_ i), nI (x.script.kind i), nB (x.script.byte i)] = [nI (x.script.at_ i), nI (x.script.kind i), nB
  (x.script.byte i)]) ∧ True) ∨ (∃ (y : Unit), devLN x = 2 ∧ [AV.tup [AV.nilp, nI 2]] = [AV.tup [AV.nilp, nI 2]] ∧ bR x.mem.bs = bR x.mem.bs ∧ (false = false ∧ 4 = 4 ∧ x.notes.n = x.notes.n ∧ ∀ (i : Nat), i < x.notes.n → [nI (x.notes.at_ i), nI (x.notes.cause i), nU (x.notes.back i), nU (x.notes.addr i)] = [nI (x.notes.at_ i), nI (x.notes.cause i), nU (x.notes.back i), nU (x.notes.addr i)]) ∧ bR x.out.bs = bR x.out.bs ∧ bR x.disk.bs = bR x.disk.bs ∧ bR x.queue.bs = bR x.queue.bs ∧ (false = false ∧ 3 = 3 ∧ x.script.n = x.script.n ∧ ∀ (i : Nat), i < x.script.n → [nI (x.script.at_ i), nI (x.script.kind i), nB (x.script.byte i)] = [nI (x.script.at_ i), nI (x.script.kind i), nB (x.script.byte i)]) ∧ True) ∨ ∃ (y : Unit), devLN x = 0 ∧ [AV.tup [AV.nilp, nI 2]] = [AV.tup [AV.ptr 11 0 0, nI 0]] ∧ bR x.mem.bs = bR x.mem.bs ∧ (false = false ∧ 4 = 4 ∧ x.notes.n = x.notes.n ∧ ∀ (i : Nat), i < x.notes.n
  → [nI (x.notes.at_ i), nI (x.notes.cause i), nU (x.notes.back i), nU (x.notes.addr i)] = [nI (x.notes.at_ i), nI (x.notes.cause i), nU (x.notes.back i), nU (x.notes.addr i)]) ∧ bR x.out.bs = bR x.out.bs ∧ bR x.disk.bs = bR x.disk.bs ∧ bR x.queue.bs = bR x.queue.bs ∧ (false = false ∧ 3 = 3 ∧ x.script.n = x.script.n ∧ ∀ (i : Nat), i < x.script.n → [nI (x.script.at_ i), nI (x.script.kind i), nB (x.script.byte i)] = [nI (x.script.at_ i), nI (x.script.kind i), nB (x.script.byte i)]) ∧ True) (sp (bif false then true else bits BinOp.andNot IntKind.u32 x.b2 7 != 0) ((∃ (y : Unit), devLN x = 3 ∧ [AV.tup [AV.nilp, nI 2]] = [AV.tup [AV.nilp, nI 3]] ∧ bR x.mem.bs = bR x.mem.bs ∧ (false = false ∧ 4 = 4 ∧ x.notes.n = x.notes.n ∧ ∀ (i : Nat), i < x.notes.n → [nI (x.notes.at_ i), nI (x.notes.cause i), nU (x.notes.back i), nU (x.notes.addr i)] = [nI (x.notes.at_ i), nI (x.notes.cause i), nU (x.notes.back
  i), nU (x.notes.addr i)]) ∧ bR x.out.bs = bR x.out.bs ∧ bR x.disk.bs = bR x.disk.bs ∧ bR x.queue.bs = bR x.queue.bs ∧ (false = false ∧ 3 = 3 ∧ x.script.n = x.script.n ∧ ∀ (i : Nat), i < x.script.n → [nI (x.script.at_ i), nI (x.script.kind i), nB (x.script.byte i)] = [nI (x.script.at_ i), nI (x.script.kind i), nB (x.script.byte i)]) ∧ True) ∨ (∃ (y : Unit), devLN x = 2 ∧ [AV.tup [AV.nilp, nI 2]] = [AV.tup [AV.nilp, nI 2]] ∧ bR x.mem.bs = bR x.mem.bs ∧ (false = false ∧ 4 = 4 ∧ x.notes.n = x.notes.n ∧ ∀ (i : Nat), i < x.notes.n → [nI (x.notes.at_ i), nI (x.notes.cause i), nU (x.notes.back i), nU (x.notes.addr i)] = [nI (x.notes.at_ i), nI (x.notes.cause i), nU (x.notes.back i), nU (x.notes.addr i)]) ∧ bR x.out.bs = bR x.out.bs ∧ bR x.disk.bs = bR x.disk.bs ∧ bR x.queue.bs = bR x.queue.bs ∧ (false = false ∧ 3 = 3 ∧ x.script.n = x.script.n ∧ ∀ (i : Nat), i < x.script.n → [nI (x.script.at_ i),
  nI (x.script.kind i), nB (x.script.byte i)] = [nI (x.script.at_ i), nI (x.script.kind i), nB (x.script.byte i)]) ∧ True) ∨ ∃ (y : Unit), devLN x = 0 ∧ [AV.tup [AV.nilp, nI 2]] = [AV.tup [AV.ptr 11 0 0, nI 0]] ∧ bR x.mem.bs = bR x.mem.bs ∧ (false = false ∧ 4 = 4 ∧ x.notes.n = x.notes.n ∧ ∀ (i : Nat), i < x.notes.n → [nI (x.notes.at_ i), nI (x.notes.cause i), nU (x.notes.back i), nU (x.notes.addr i)] = [nI (x.notes.at_ i), nI (x.notes.cause i), nU (x.notes.back i), nU (x.notes.addr i)]) ∧ bR x.out.bs = bR x.out.bs ∧ bR x.disk.bs = bR x.disk.bs ∧ bR x.queue.bs = bR x.queue.bs ∧ (false = false ∧ 3 = 3 ∧ x.script.n = x.script.n ∧ ∀ (i : Nat), i < x.script.n → [nI (x.script.at_ i), nI (x.script.kind i), nB (x.script.byte i)] = [nI (x.script.at_ i), nI (x.script.kind i), nB (x.script.byte i)]) ∧ True) (True ∧ [] ++ (devLoadC_c_l0 x) ++ [] = (devLoadC_c_l0 x) ∧ (some (bR x.mem.bs) = some (bR
  x.mem.bs) ∧ some (ABlk.mk false 4 (AC.recs x.notes.n x.notes.f)) = some (ABlk.mk false 4 (AC.recs x.notes.n fun (i : Nat) => [nI (x.notes.at_ i), nI (x.notes.cause i), nU (x.notes.back i), nU (x.notes.addr i)])) ∧ some (bR x.out.bs) = some (bR x.out.bs) ∧ some (bR x.disk.bs) = some (bR x.disk.bs) ∧ some (bR x.queue.bs) = some (bR x.queue.bs) ∧ some (ABlk.mk false 3 (AC.recs x.script.n fun (i : Nat) => [nI (x.script.at_ i), nI (x.script.kind i), nB (x.script.byte i)])) = some (ABlk.mk false 3 (AC.recs x.script.n fun (i : Nat) => [nI (x.script.at_ i), nI (x.script.kind i), nB (x.script.byte i)])) ∧ True) ∧ (∀ (y : Unit), True → sp (bif false then true else !orderedN (Sv.mk x.fr (Row.mk x.mem.bs x.mem.c) (St.mk x.s.r0 x.s.r1 x.s.r2 x.s.r3 x.s.r4 x.s.r5 x.s.r6 x.s.r7 x.s.pc x.s.ps x.s.c0 x.s.c1 x.s.c2 x.s.c3 x.s.c4 x.s.c5 x.s.c6 x.s.c7 x.s.h) x.steps (NRow.mk x.notes.n x.notes.c (fun (i :
  Nat) => numAt (x.notes.f i) 0) (fun (i : Nat) => numAt (x.notes.f i) 1) (fun (i : Nat) => numAt (x.notes.f i) 2) fun (i : Nat) => numAt (x.notes.f i) 3) (Row.mk x.out.bs x.out.c) (Row.mk x.disk.bs x.disk.c) (Row.mk x.queue.bs x.queue.c) (ERow.mk x.script.n x.script.c (fun (i : Nat) => numAt ((fun (i : Nat) => [nI (x.script.at_ i), nI (x.script.kind i), nB (x.script.byte i)]) i) 0) (fun (i : Nat) => numAt ((fun (i : Nat) => [nI (x.script.at_ i), nI (x.script.kind i), nB (x.script.byte i)]) i) 1) fun (i : Nat) => numAt ((fun (i : Nat) => [nI (x.script.at_ i), nI (x.script.kind i), nB (x.script.byte i)]) i) 2) x.b1 x.b2 x.b3 x.b4 x.b5 x.b6 x.b7 x.b8)) ((∃ (y : Unit), devLN x = 3 ∧ [AV.tup [AV.nilp, nI 2]] = [AV.tup [AV.nilp, nI 3]] ∧ bR x.mem.bs = bR x.mem.bs ∧ (false = false ∧ 4 = 4 ∧ x.notes.n = x.notes.n ∧ ∀ (i : Nat), i < x.notes.n → [nI (x.notes.at_ i), nI (x.notes.cause i), nU
  (x.notes.back i), nU (x.notes.addr i)] = [nI (x.notes.at_ i), nI (x.notes.cause i), nU (x.notes.back i), nU (x.notes.addr i)]) ∧ bR x.out.bs = bR x.out.bs ∧ bR x.disk.bs = bR x.disk.bs ∧ bR x.queue.bs = bR x.queue.bs ∧ (false = false ∧ 3 = 3 ∧ x.script.n = x.script.n ∧ ∀ (i : Nat), i < x.script.n → [nI (x.script.at_ i), nI (x.script.kind i), nB (x.script.byte i)] = [nI (x.script.at_ i), nI (x.script.kind i), nB (x.script.byte i)]) ∧ True) ∨ (∃ (y : Unit), devLN x = 2 ∧ [AV.tup [AV.nilp, nI 2]] = [AV.tup [AV.nilp, nI 2]] ∧ bR x.mem.bs = bR x.mem.bs ∧ (false = false ∧ 4 = 4 ∧ x.notes.n = x.notes.n ∧ ∀ (i : Nat), i < x.notes.n → [nI (x.notes.at_ i), nI (x.notes.cause i), nU (x.notes.back i), nU (x.notes.addr i)] = [nI (x.notes.at_ i), nI (x.notes.cause i), nU (x.notes.back i), nU (x.notes.addr i)]) ∧ bR x.out.bs = bR x.out.bs ∧ bR x.disk.bs = bR x.disk.bs ∧ bR x.queue.bs = bR x.queue.bs ∧
  (false = false ∧ 3 = 3 ∧ x.script.n = x.script.n ∧ ∀ (i : Nat), i < x.script.n → [nI (x.script.at_ i), nI (x.script.kind i), nB (x.script.byte i)] = [nI (x.script.at_ i), nI (x.script.kind i), nB (x.script.byte i)]) ∧ True) ∨ ∃ (y : Unit), devLN x = 0 ∧ [AV.tup [AV.nilp, nI 2]] = [AV.tup [AV.ptr 11 0 0, nI 0]] ∧ bR x.mem.bs = bR x.mem.bs ∧ (false = false ∧ 4 = 4 ∧ x.notes.n = x.notes.n ∧ ∀ (i : Nat), i < x.notes.n → [nI (x.notes.at_ i), nI (x.notes.cause i), nU (x.notes.back i), nU (x.notes.addr i)] = [nI (x.notes.at_ i), nI (x.notes.cause i), nU (x.notes.back i), nU (x.notes.addr i)]) ∧ bR x.out.bs = bR x.out.bs ∧ bR x.disk.bs = bR x.disk.bs ∧ bR x.queue.bs = bR x.queue.bs ∧ (false = false ∧ 3 = 3 ∧ x.script.n = x.script.n ∧ ∀ (i : Nat), i < x.script.n → [nI (x.script.at_ i), nI (x.script.kind i), nB (x.script.byte i)] = [nI (x.script.at_ i), nI (x.script.kind i), nB (x.script.byte i)])
  ∧ True) (sp (decide (x.b2 = x.b2)) (sp (decide (x.b1 = x.b1)) (sp (decide (x.b2 = x.b2)) (sp (x.out.bs.length.beq x.out.bs.length && x.out.c.beq x.out.c) (sp (x.queue.bs.length.beq x.queue.bs.length && x.queue.c.beq x.queue.c) ((x.queue.bs.length ≤ 140737488351232 ∧ x.queue.bs.length ≤ x.queue.c) ∧ [] ++ [AV.msl 4 0 0 x.queue.bs.length x.queue.c] ++ [] = [AV.msl 4 0 0 x.queue.bs.length x.queue.c] ∧ (some (bR x.queue.bs) = some (bR x.queue.bs) ∧ True) ∧ (∀ (y : Unit), True → sp (x.out.bs.length.beq x.out.bs.length && x.out.c.beq x.out.c) ((x.out.bs.length ≤ 140737488351232 ∧ x.out.bs.length ≤ x.out.c) ∧ [] ++ [AV.msl 2 0 0 x.out.bs.length x.out.c] ++ [] = [AV.msl 2 0 0 x.out.bs.length x.out.c] ∧ (some (bR x.out.bs) = some (bR x.out.bs) ∧ True) ∧ (∀ (y : Unit), True → sp (decide (x.b5 = x.b5)) (sp (decide (x.b4 = x.b4)) (sp (decide (x.b3 = x.b3)) (sp (decide (x.b5 = x.b5)) (sp (decide (x.b4
  = x.b4)) (sp (decide (x.b5 = x.b5)) ((∃ (y : Unit), devLN x = 3 ∧ [AV.tup [AV.ptr 8 0 0, nI 0]] = [AV.tup [AV.nilp, nI 3]] ∧ bR x.mem.bs = bR x.mem.bs ∧ (false = false ∧ 4 = 4 ∧ x.notes.n = x.notes.n ∧ ∀ (i : Nat), i < x.notes.n → [nI (x.notes.at_ i), nI (x.notes.cause i), nU (x.notes.back i), nU (x.notes.addr i)] = [nI (x.notes.at_ i), nI (x.notes.cause i), nU (x.notes.back i), nU (x.notes.addr i)]) ∧ bR x.out.bs = bR x.out.bs ∧ bR x.disk.bs = bR x.disk.bs ∧ bR x.queue.bs = bR x.queue.bs ∧ (false = false ∧ 3 = 3 ∧ x.script.n = x.script.n ∧ ∀ (i : Nat), i < x.script.n → [nI (x.script.at_ i), nI (x.script.kind i), nB (x.script.byte i)] = [nI (x.script.at_ i), nI (x.script.kind i), nB (x.script.byte i)]) ∧ True) ∨ (∃ (y : Unit), devLN x = 2 ∧ [AV.tup [AV.ptr 8 0 0, nI 0]] = [AV.tup [AV.nilp, nI 2]] ∧ bR x.mem.bs = bR x.mem.bs ∧ (false = false ∧ 4 = 4 ∧ x.notes.n = x.notes.n ∧ ∀ (i : Nat), i
  < x.notes.n → [nI (x.notes.at_ i), nI (x.notes.cause i), nU (x.notes.back i), nU (x.notes.addr i)] = [nI (x.notes.at_ i), nI (x.notes.cause i), nU (x.notes.back i), nU (x.notes.addr i)]) ∧ bR x.out.bs = bR x.out.bs ∧ bR x.disk.bs = bR x.disk.bs ∧ bR x.queue.bs = bR x.queue.bs ∧ (false = false ∧ 3 = 3 ∧ x.script.n = x.script.n ∧ ∀ (i : Nat), i < x.script.n → [nI (x.script.at_ i), nI (x.script.kind i), nB (x.script.byte i)] = [nI (x.script.at_ i), nI (x.script.kind i), nB (x.script.byte i)]) ∧ True) ∨ ∃ (y : Unit), devLN x = 0 ∧ [AV.tup [AV.ptr 8 0 0, nI 0]] = [AV.tup [AV.ptr 8 0 0, nI 0]] ∧ bR x.mem.bs = bR x.mem.bs ∧ (false = false ∧ 4 = 4 ∧ x.notes.n = x.notes.n ∧ ∀ (i : Nat), i < x.notes.n → [nI (x.notes.at_ i), nI (x.notes.cause i), nU (x.notes.back i), nU (x.notes.addr i)] = [nI (x.notes.at_ i), nI (x.notes.cause i), nU (x.notes.back i), nU (x.notes.addr i)]) ∧ bR x.out.bs = bR
  x.out.bs ∧ bR x.disk.bs = bR x.disk.bs ∧ bR x.queue.bs = bR x.queue.bs ∧ (false = false ∧ 3 = 3 ∧ x.script.n = x.script.n ∧ ∀ (i : Nat), i < x.script.n → [nI (x.script.at_ i), nI (x.script.kind i), nB (x.script.byte i)] = [nI (x.script.at_ i), nI (x.script.kind i), nB (x.script.byte i)]) ∧ True) False) False) False) False) False) False) ∧ True) False) ∧ True) False) False) False) False) False)) ∧ True)))) ∧ (∀ (y : Unit), devN (DnX.mk (ERow.mk x.script.n x.script.c (fun (i : Nat) => numAt (x.script.f i) 0) (fun (i : Nat) => numAt (x.script.f i) 1) fun (i : Nat) => numAt (x.script.f i) 2) (Row.mk x.disk.bs x.disk.c)) = 0 ∧ ¬x.disk.bs.length < 64 → sp (decide ((↑x.queue.bs.length : Int) > 32)) ((∃ (y : Unit), devLN x = 3 ∧ [AV.tup [AV.nilp, nI 3]] = [AV.tup [AV.nilp, nI 3]] ∧ bR x.mem.bs = bR x.mem.bs ∧ (false = false ∧ 4 = 4 ∧ x.notes.n = x.notes.n ∧ ∀ (i : Nat), i < x.notes.n → [nI
  (x.notes.at_ i), nI (x.notes.cause i), nU (x.notes.back i), nU (x.notes.addr i)] = [nI (x.notes.at_ i), nI (x.notes.cause i), nU (x.notes.back i), nU (x.notes.addr i)]) ∧ bR x.out.bs = bR x.out.bs ∧ bR x.disk.bs = bR x.disk.bs ∧ bR x.queue.bs = bR x.queue.bs ∧ (false = false ∧ 3 = 3 ∧ x.script.n = x.script.n ∧ ∀ (i : Nat), i < x.script.n → [nI (x.script.at_ i), nI (x.script.kind i), nB (x.script.byte i)] = [nI (x.script.at_ i), nI (x.script.kind i), nB (x.script.byte i)]) ∧ True) ∨ (∃ (y : Unit), devLN x = 2 ∧ [AV.tup [AV.nilp, nI 3]] = [AV.tup [AV.nilp, nI 2]] ∧ bR x.mem.bs = bR x.mem.bs ∧ (false = false ∧ 4 = 4 ∧ x.notes.n = x.notes.n ∧ ∀ (i : Nat), i < x.notes.n → [nI (x.notes.at_ i), nI (x.notes.cause i), nU (x.notes.back i), nU (x.notes.addr i)] = [nI (x.notes.at_ i), nI (x.notes.cause i), nU (x.notes.back i), nU (x.notes.addr i)]) ∧ bR x.out.bs = bR x.out.bs ∧ bR x.disk.bs = bR
  x.disk.bs ∧ bR x.queue.bs = bR x.queue.bs ∧ (false = false ∧ 3 = 3 ∧ x.script.n = x.script.n ∧ ∀ (i : Nat), i < x.script.n → [nI (x.script.at_ i), nI (x.script.kind i), nB (x.script.byte i)] = [nI (x.script.at_ i), nI (x.script.kind i), nB (x.script.byte i)]) ∧ True) ∨ ∃ (y : Unit), devLN x = 0 ∧ [AV.tup [AV.nilp, nI 3]] = [AV.tup [AV.ptr 11 0 0, nI 0]] ∧ bR x.mem.bs = bR x.mem.bs ∧ (false = false ∧ 4 = 4 ∧ x.notes.n = x.notes.n ∧ ∀ (i : Nat), i < x.notes.n → [nI (x.notes.at_ i), nI (x.notes.cause i), nU (x.notes.back i), nU (x.notes.addr i)] = [nI (x.notes.at_ i), nI (x.notes.cause i), nU (x.notes.back i), nU (x.notes.addr i)]) ∧ bR x.out.bs = bR x.out.bs ∧ bR x.disk.bs = bR x.disk.bs ∧ bR x.queue.bs = bR x.queue.bs ∧ (false = false ∧ 3 = 3 ∧ x.script.n = x.script.n ∧ ∀ (i : Nat), i < x.script.n → [nI (x.script.at_ i), nI (x.script.kind i), nB (x.script.byte i)] = [nI (x.script.at_ i),
  nI (x.script.kind i), nB (x.script.byte i)]) ∧ True) (sp (bits BinOp.andNot IntKind.u32 x.b1 7 != 0) ((∃ (y : Unit), devLN x = 3 ∧ [AV.tup [AV.nilp, nI 2]] = [AV.tup [AV.nilp, nI 3]] ∧ bR x.mem.bs = bR x.mem.bs ∧ (false = false ∧ 4 = 4 ∧ x.notes.n = x.notes.n ∧ ∀ (i : Nat), i < x.notes.n → [nI (x.notes.at_ i), nI (x.notes.cause i), nU (x.notes.back i), nU (x.notes.addr i)] = [nI (x.notes.at_ i), nI (x.notes.cause i), nU (x.notes.back i), nU (x.notes.addr i)]) ∧ bR x.out.bs = bR x.out.bs ∧ bR x.disk.bs = bR x.disk.bs ∧ bR x.queue.bs = bR x.queue.bs ∧ (false = false ∧ 3 = 3 ∧ x.script.n = x.script.n ∧ ∀ (i : Nat), i < x.script.n → [nI (x.script.at_ i), nI (x.script.kind i), nB (x.script.byte i)] = [nI (x.script.at_ i), nI (x.script.kind i), nB (x.script.byte i)]) ∧ True) ∨ (∃ (y : Unit), devLN x = 2 ∧ [AV.tup [AV.nilp, nI 2]] = [AV.tup [AV.nilp, nI 2]] ∧ bR x.mem.bs = bR x.mem.bs ∧ (false =
  false ∧ 4 = 4 ∧ x.notes.n = x.notes.n ∧ ∀ (i : Nat), i < x.notes.n → [nI (x.notes.at_ i), nI (x.notes.cause i), nU (x.notes.back i), nU (x.notes.addr i)] = [nI (x.notes.at_ i), nI (x.notes.cause i), nU (x.notes.back i), nU (x.notes.addr i)]) ∧ bR x.out.bs = bR x.out.bs ∧ bR x.disk.bs = bR x.disk.bs ∧ bR x.queue.bs = bR x.queue.bs ∧ (false = false ∧ 3 = 3 ∧ x.script.n = x.script.n ∧ ∀ (i : Nat), i < x.script.n → [nI (x.script.at_ i), nI (x.script.kind i), nB (x.script.byte i)] = [nI (x.script.at_ i), nI (x.script.kind i), nB (x.script.byte i)]) ∧ True) ∨ ∃ (y : Unit), devLN x = 0 ∧ [AV.tup [AV.nilp, nI 2]] = [AV.tup [AV.ptr 11 0 0, nI 0]] ∧ bR x.mem.bs = bR x.mem.bs ∧ (false = false ∧ 4 = 4 ∧ x.notes.n = x.notes.n ∧ ∀ (i : Nat), i < x.notes.n → [nI (x.notes.at_ i), nI (x.notes.cause i), nU (x.notes.back i), nU (x.notes.addr i)] = [nI (x.notes.at_ i), nI (x.notes.cause i), nU (x.notes.back
  i), nU (x.notes.addr i)]) ∧ bR x.out.bs = bR x.out.bs ∧ bR x.disk.bs = bR x.disk.bs ∧ bR x.queue.bs = bR x.queue.bs ∧ (false = false ∧ 3 = 3 ∧ x.script.n = x.script.n ∧ ∀ (i : Nat), i < x.script.n → [nI (x.script.at_ i), nI (x.script.kind i), nB (x.script.byte i)] = [nI (x.script.at_ i), nI (x.script.kind i), nB (x.script.byte i)]) ∧ True) (sp (bif false then true else bits BinOp.andNot IntKind.u32 x.b2 7 != 0) ((∃ (y : Unit), devLN x = 3 ∧ [AV.tup [AV.nilp, nI 2]] = [AV.tup [AV.nilp, nI 3]] ∧ bR x.mem.bs = bR x.mem.bs ∧ (false = false ∧ 4 = 4 ∧ x.notes.n = x.notes.n ∧ ∀ (i : Nat), i < x.notes.n → [nI (x.notes.at_ i), nI (x.notes.cause i), nU (x.notes.back i), nU (x.notes.addr i)] = [nI (x.notes.at_ i), nI (x.notes.cause i), nU (x.notes.back i), nU (x.notes.addr i)]) ∧ bR x.out.bs = bR x.out.bs ∧ bR x.disk.bs = bR x.disk.bs ∧ bR x.queue.bs = bR x.queue.bs ∧ (false = false ∧ 3 = 3 ∧
  x.script.n = x.script.n ∧ ∀ (i : Nat), i < x.script.n → [nI (x.script.at_ i), nI (x.script.kind i), nB (x.script.byte i)] = [nI (x.script.at_ i), nI (x.script.kind i), nB (x.script.byte i)]) ∧ True) ∨ (∃ (y : Unit), devLN x = 2 ∧ [AV.tup [AV.nilp, nI 2]] = [AV.tup [AV.nilp, nI 2]] ∧ bR x.mem.bs = bR x.mem.bs ∧ (false = false ∧ 4 = 4 ∧ x.notes.n = x.notes.n ∧ ∀ (i : Nat), i < x.notes.n → [nI (x.notes.at_ i), nI (x.notes.cause i), nU (x.notes.back i), nU (x.notes.addr i)] = [nI (x.notes.at_ i), nI (x.notes.cause i), nU (x.notes.back i), nU (x.notes.addr i)]) ∧ bR x.out.bs = bR x.out.bs ∧ bR x.disk.bs = bR x.disk.bs ∧ bR x.queue.bs = bR x.queue.bs ∧ (false = false ∧ 3 = 3 ∧ x.script.n = x.script.n ∧ ∀ (i : Nat), i < x.script.n → [nI (x.script.at_ i), nI (x.script.kind i), nB (x.script.byte i)] = [nI (x.script.at_ i), nI (x.script.kind i), nB (x.script.byte i)]) ∧ True) ∨ ∃ (y : Unit), devLN
  x = 0 ∧ [AV.tup [AV.nilp, nI 2]] = [AV.tup [AV.ptr 11 0 0, nI 0]] ∧ bR x.mem.bs = bR x.mem.bs ∧ (false = false ∧ 4 = 4 ∧ x.notes.n = x.notes.n ∧ ∀ (i : Nat), i < x.notes.n → [nI (x.notes.at_ i), nI (x.notes.cause i), nU (x.notes.back i), nU (x.notes.addr i)] = [nI (x.notes.at_ i), nI (x.notes.cause i), nU (x.notes.back i), nU (x.notes.addr i)]) ∧ bR x.out.bs = bR x.out.bs ∧ bR x.disk.bs = bR x.disk.bs ∧ bR x.queue.bs = bR x.queue.bs ∧ (false = false ∧ 3 = 3 ∧ x.script.n = x.script.n ∧ ∀ (i : Nat), i < x.script.n → [nI (x.script.at_ i), nI (x.script.kind i), nB (x.script.byte i)] = [nI (x.script.at_ i), nI (x.script.kind i), nB (x.script.byte i)]) ∧ True) (True ∧ [] ++ (devLoadC_c_l0 x) ++ [] = (devLoadC_c_l0 x) ∧ (some (bR x.mem.bs) = some (bR x.mem.bs) ∧ some (ABlk.mk false 4 (AC.recs x.notes.n x.notes.f)) = some (ABlk.mk false 4 (AC.recs x.notes.n fun (i : Nat) => [nI (x.notes.at_ i),
  nI (x.notes.cause i), nU (x.notes.back i), nU (x.notes.addr i)])) ∧ some (bR x.out.bs) = some (bR x.out.bs) ∧ some (bR x.disk.bs) = some (bR x.disk.bs) ∧ some (bR x.queue.bs) = some (bR x.queue.bs) ∧ some (ABlk.mk false 3 (AC.recs x.script.n fun (i : Nat) => [nI (x.script.at_ i), nI (x.script.kind i), nB (x.script.byte i)])) = some (ABlk.mk false 3 (AC.recs x.script.n fun (i : Nat) => [nI (x.script.at_ i), nI (x.script.kind i), nB (x.script.byte i)])) ∧ True) ∧ (∀ (y : Unit), True → sp (bif false then true else !orderedN (Sv.mk x.fr (Row.mk x.mem.bs x.mem.c) (St.mk x.s.r0 x.s.r1 x.s.r2 x.s.r3 x.s.r4 x.s.r5 x.s.r6 x.s.r7 x.s.pc x.s.ps x.s.c0 x.s.c1 x.s.c2 x.s.c3 x.s.c4 x.s.c5 x.s.c6 x.s.c7 x.s.h) x.steps (NRow.mk x.notes.n x.notes.c (fun (i : Nat) => numAt (x.notes.f i) 0) (fun (i : Nat) => numAt (x.notes.f i) 1) (fun (i : Nat) => numAt (x.notes.f i) 2) fun (i : Nat) => numAt (x.notes.f i)
  3) (Row.mk x.out.bs x.out.c) (Row.mk x.disk.bs x.disk.c) (Row.mk x.queue.bs x.queue.c) (ERow.mk x.script.n x.script.c (fun (i : Nat) => numAt ((fun (i : Nat) => [nI (x.script.at_ i), nI (x.script.kind i), nB (x.script.byte i)]) i) 0) (fun (i : Nat) => numAt ((fun (i : Nat) => [nI (x.script.at_ i), nI (x.script.kind i), nB (x.script.byte i)]) i) 1) fun (i : Nat) => numAt ((fun (i : Nat) => [nI (x.script.at_ i), nI (x.script.kind i), nB (x.script.byte i)]) i) 2) x.b1 x.b2 x.b3 x.b4 x.b5 x.b6 x.b7 x.b8)) ((∃ (y : Unit), devLN x = 3 ∧ [AV.tup [AV.nilp, nI 2]] = [AV.tup [AV.nilp, nI 3]] ∧ bR x.mem.bs = bR x.mem.bs ∧ (false = false ∧ 4 = 4 ∧ x.notes.n = x.notes.n ∧ ∀ (i : Nat), i < x.notes.n → [nI (x.notes.at_ i), nI (x.notes.cause i), nU (x.notes.back i), nU (x.notes.addr i)] = [nI (x.notes.at_ i), nI (x.notes.cause i), nU (x.notes.back i), nU (x.notes.addr i)]) ∧ bR x.out.bs = bR x.out.bs ∧
  bR x.disk.bs = bR x.disk.bs ∧ bR x.queue.bs = bR x.queue.bs ∧ (false = false ∧ 3 = 3 ∧ x.script.n = x.script.n ∧ ∀ (i : Nat), i < x.script.n → [nI (x.script.at_ i), nI (x.script.kind i), nB (x.script.byte i)] = [nI (x.script.at_ i), nI (x.script.kind i), nB (x.script.byte i)]) ∧ True) ∨ (∃ (y : Unit), devLN x = 2 ∧ [AV.tup [AV.nilp, nI 2]] = [AV.tup [AV.nilp, nI 2]] ∧ bR x.mem.bs = bR x.mem.bs ∧ (false = false ∧ 4 = 4 ∧ x.notes.n = x.notes.n ∧ ∀ (i : Nat), i < x.notes.n → [nI (x.notes.at_ i), nI (x.notes.cause i), nU (x.notes.back i), nU (x.notes.addr i)] = [nI (x.notes.at_ i), nI (x.notes.cause i), nU (x.notes.back i), nU (x.notes.addr i)]) ∧ bR x.out.bs = bR x.out.bs ∧ bR x.disk.bs = bR x.disk.bs ∧ bR x.queue.bs = bR x.queue.bs ∧ (false = false ∧ 3 = 3 ∧ x.script.n = x.script.n ∧ ∀ (i : Nat), i < x.script.n → [nI (x.script.at_ i), nI (x.script.kind i), nB (x.script.byte i)] = [nI
  (x.script.at_ i), nI (x.script.kind i), nB (x.script.byte i)]) ∧ True) ∨ ∃ (y : Unit), devLN x = 0 ∧ [AV.tup [AV.nilp, nI 2]] = [AV.tup [AV.ptr 11 0 0, nI 0]] ∧ bR x.mem.bs = bR x.mem.bs ∧ (false = false ∧ 4 = 4 ∧ x.notes.n = x.notes.n ∧ ∀ (i : Nat), i < x.notes.n → [nI (x.notes.at_ i), nI (x.notes.cause i), nU (x.notes.back i), nU (x.notes.addr i)] = [nI (x.notes.at_ i), nI (x.notes.cause i), nU (x.notes.back i), nU (x.notes.addr i)]) ∧ bR x.out.bs = bR x.out.bs ∧ bR x.disk.bs = bR x.disk.bs ∧ bR x.queue.bs = bR x.queue.bs ∧ (false = false ∧ 3 = 3 ∧ x.script.n = x.script.n ∧ ∀ (i : Nat), i < x.script.n → [nI (x.script.at_ i), nI (x.script.kind i), nB (x.script.byte i)] = [nI (x.script.at_ i), nI (x.script.kind i), nB (x.script.byte i)]) ∧ True) (sp (decide (x.b2 = x.b2)) (sp (decide (x.b1 = x.b1)) (sp (decide (x.b2 = x.b2)) (sp (x.out.bs.length.beq x.out.bs.length && x.out.c.beq x.out.c)
  (sp (x.queue.bs.length.beq x.queue.bs.length && x.queue.c.beq x.queue.c) ((x.queue.bs.length ≤ 140737488351232 ∧ x.queue.bs.length ≤ x.queue.c) ∧ [] ++ [AV.msl 4 0 0 x.queue.bs.length x.queue.c] ++ [] = [AV.msl 4 0 0 x.queue.bs.length x.queue.c] ∧ (some (bR x.queue.bs) = some (bR x.queue.bs) ∧ True) ∧ (∀ (y : Unit), True → sp (x.out.bs.length.beq x.out.bs.length && x.out.c.beq x.out.c) ((x.out.bs.length ≤ 140737488351232 ∧ x.out.bs.length ≤ x.out.c) ∧ [] ++ [AV.msl 2 0 0 x.out.bs.length x.out.c] ++ [] = [AV.msl 2 0 0 x.out.bs.length x.out.c] ∧ (some (bR x.out.bs) = some (bR x.out.bs) ∧ True) ∧ (∀ (y : Unit), True → sp (decide (x.b5 = x.b5)) (sp (decide (x.b4 = x.b4)) (sp (decide (x.b3 = x.b3)) (sp (decide (x.b5 = x.b5)) (sp (decide (x.b4 = x.b4)) (sp (decide (x.b5 = x.b5)) ((∃ (y : Unit), devLN x = 3 ∧ [AV.tup [AV.ptr 8 0 0, nI 0]] = [AV.tup [AV.nilp, nI 3]] ∧ bR x.mem.bs = bR x.mem.bs ∧
  (false = false ∧ 4 = 4 ∧ x.notes.n = x.notes.n ∧ ∀ (i : Nat), i < x.notes.n → [nI (x.notes.at_ i), nI (x.notes.cause i), nU (x.notes.back i), nU (x.notes.addr i)] = [nI (x.notes.at_ i), nI (x.notes.cause i), nU (x.notes.back i), nU (x.notes.addr i)]) ∧ bR x.out.bs = bR x.out.bs ∧ bR x.disk.bs = bR x.disk.bs ∧ bR x.queue.bs = bR x.queue.bs ∧ (false = false ∧ 3 = 3 ∧ x.script.n = x.script.n ∧ ∀ (i : Nat), i < x.script.n → [nI (x.script.at_ i), nI (x.script.kind i), nB (x.script.byte i)] = [nI (x.script.at_ i), nI (x.script.kind i), nB (x.script.byte i)]) ∧ True) ∨ (∃ (y : Unit), devLN x = 2 ∧ [AV.tup [AV.ptr 8 0 0, nI 0]] = [AV.tup [AV.nilp, nI 2]] ∧ bR x.mem.bs = bR x.mem.bs ∧ (false = false ∧ 4 = 4 ∧ x.notes.n = x.notes.n ∧ ∀ (i : Nat), i < x.notes.n → [nI (x.notes.at_ i), nI (x.notes.cause i), nU (x.notes.back i), nU (x.notes.addr i)] = [nI (x.notes.at_ i), nI (x.notes.cause i), nU
  (x.notes.back i), nU (x.notes.addr i)]) ∧ bR x.out.bs = bR x.out.bs ∧ bR x.disk.bs = bR x.disk.bs ∧ bR x.queue.bs = bR x.queue.bs ∧ (false = false ∧ 3 = 3 ∧ x.script.n = x.script.n ∧ ∀ (i : Nat), i < x.script.n → [nI (x.script.at_ i), nI (x.script.kind i), nB (x.script.byte i)] = [nI (x.script.at_ i), nI (x.script.kind i), nB (x.script.byte i)]) ∧ True) ∨ ∃ (y : Unit), devLN x = 0 ∧ [AV.tup [AV.ptr 8 0 0, nI 0]] = [AV.tup [AV.ptr 8 0 0, nI 0]] ∧ bR x.mem.bs = bR x.mem.bs ∧ (false = false ∧ 4 = 4 ∧ x.notes.n = x.notes.n ∧ ∀ (i : Nat), i < x.notes.n → [nI (x.notes.at_ i), nI (x.notes.cause i), nU (x.notes.back i), nU (x.notes.addr i)] = [nI (x.notes.at_ i), nI (x.notes.cause i), nU (x.notes.back i), nU (x.notes.addr i)]) ∧ bR x.out.bs = bR x.out.bs ∧ bR x.disk.bs = bR x.disk.bs ∧ bR x.queue.bs = bR x.queue.bs ∧ (false = false ∧ 3 = 3 ∧ x.script.n = x.script.n ∧ ∀ (i : Nat), i < x.script.n →
  [nI (x.script.at_ i), nI (x.script.kind i), nB (x.script.byte i)] = [nI (x.script.at_ i), nI (x.script.kind i), nB (x.script.byte i)]) ∧ True) False) False) False) False) False) False) ∧ True) False) ∧ True) False) False) False) False) False)) ∧ True)))) ∧ True
theorem devLoadC_c_e (x : Sv) : some (devLoadC_c_V x) = (devLoadC.cond sp Go.Proofs.Tryd.prog (drP sp Go.Proofs.Tryd.prog) noLoops (orK (devNewC.orc sp) (orK (cloneC.orc sp) (orderedC.orc sp))) 40 2 x) := by kernel_rfl
set_option maxRecDepth 100000 in
set_option maxHeartbeats 4000000 in
theorem devLoadC_ok : devLoadC.OK Go.Proofs.Tryd.prog := by
  refine Con.by hmix (noLoops_ok _) (orK_ok (Con.orc_ok devNewC_ok) (orK_ok (Con.orc_ok cloneC_ok) (Con.orc_ok orderedC_ok))) devLoadC_c_V devLoadC_c_e (fun x hx => ?_)
  obtain ⟨hm, hno, ho, hd, hq, hs⟩ := hx
  have LN : devLN x = bif devN ⟨x.script, x.disk⟩ == 0 then (bif decide (x.queue.bs.length > 32) then 3 else bif bits .andNot .u32 x.b1 7 != 0 || bits .andNot .u32 x.b2 7 != 0 || !orderedN x then 2 else 0) else devN ⟨x.script, x.disk⟩ := rfl
  unfold devLoadC_c_V
  refine ⟨⟨hs.1, hs.2, hd.1, hd.2⟩, rfl, ⟨rfl, rfl, trivial⟩, fun _ h3 => ?_, fun _ h2 => ?_, fun _ h0 => ?_, fun _ h0 => ?_, trivial⟩
  · have h3 : devN ⟨x.script, x.disk⟩ = 3 := h3
    exact .inl ⟨(), by rw [LN, h3]; rfl, rfl, rfl, ⟨rfl, rfl, rfl, fun _ _ => rfl⟩, rfl, rfl, rfl, ⟨rfl, rfl, rfl, fun _ _ => rfl⟩, trivial⟩
  · have h2 : devN ⟨x.script, x.disk⟩ = 2 := h2
    exact .inr (.inl ⟨(), by rw [LN, h2]; rfl, rfl, rfl, ⟨rfl, rfl, rfl, fun _ _ => rfl⟩, rfl, rfl, rfl, ⟨rfl, rfl, rfl, fun _ _ => rfl⟩, trivial⟩)
  all_goals
    have hz : devN ⟨x.script, x.disk⟩ = 0 := h0.1
    rw [hz] at LN
    have LN : devLN x = bif decide (x.queue.bs.length > 32) then 3 else bif bits .andNot .u32 x.b1 7 != 0 || bits .andNot .u32 x.b2 7 != 0 || !orderedN x then 2 else 0 := LN
    refine spI (fun h => ?_) (fun h => spI (fun g1 => ?_) (fun g1 => spI (fun g2 => ?_) (fun g2 => ⟨trivial, rfl, ⟨rfl, rfl, rfl, rfl, rfl, rfl, trivial⟩, fun _ _ => spI (fun g3 => ?_) (fun g3 => ?_), trivial⟩)))
    · have h : decide (x.queue.bs.length > 32) = true := by
        have : (x.queue.bs.length : Int) > 32 := by simpa using h
        exact decide_eq_true (by omega)
      exact .inl ⟨(), by rw [LN, h]; rfl, rfl, rfl, ⟨rfl, rfl, rfl, fun _ _ => rfl⟩, rfl, rfl, rfl, ⟨rfl, rfl, rfl, fun _ _ => rfl⟩, trivial⟩
    all_goals
      have h : decide (x.queue.bs.length > 32) = false := by
        have : ¬ (x.queue.bs.length : Int) > 32 := by simpa using h
        exact decide_eq_false (by omega)
      rw [h] at LN
    · exact .inr (.inl ⟨(), by rw [LN, g1]; rfl, rfl, rfl, ⟨rfl, rfl, rfl, fun _ _ => rfl⟩, rfl, rfl, rfl, ⟨rfl, rfl, rfl, fun _ _ => rfl⟩, trivial⟩)
    all_goals rw [g1] at LN
    · have g2 : (bits .andNot .u32 x.b2 7 != 0) = true := g2
      exact .inr (.inl ⟨(), by rw [LN, g2]; rfl, rfl, rfl, ⟨rfl, rfl, rfl, fun _ _ => rfl⟩, rfl, rfl, rfl, ⟨rfl, rfl, rfl, fun _ _ => rfl⟩, trivial⟩)
    all_goals
      have g2 : (bits .andNot .u32 x.b2 7 != 0) = false := g2
      rw [g2] at LN
    · have g3 : (!orderedN x) = true := g3
      exact .inr (.inl ⟨(), by rw [LN, g3]; rfl, rfl, rfl, ⟨rfl, rfl, rfl, fun _ _ => rfl⟩, rfl, rfl, rfl, ⟨rfl, rfl, rfl, fun _ _ => rfl⟩, trivial⟩)
    · have g3 : (!orderedN x) = false := g3
      refine spT (by simp) (spT (by simp) (spT (by simp) (spT (by simp) (spT (by simp) ⟨hq, rfl, ⟨rfl, trivial⟩, fun _ _ => spT (by simp) ⟨ho, rfl, ⟨rfl, trivial⟩, fun _ _ => spT (by simp) (spT (by simp) (spT (by simp) (spT (by simp) (spT (by simp) (spT (by simp) ?_))))), trivial⟩, trivial⟩))))
      exact .inr (.inr ⟨(), by rw [LN, g3]; rfl, rfl, rfl, ⟨rfl, rfl, rfl, fun _ _ => rfl⟩, rfl, rfl, rfl, ⟨rfl, rfl, rfl, fun _ _ => rfl⟩, trivial⟩)
end Go.Proofs.YtmbcpmbpkdeioaaDoor.W
/- A memory in frames, and a machine of a saved guest: what is reckoned, and the loops' states. No condition. -/
namespace Go.Proofs.YtmbcpmbpkdeioaaDoor.W
open Go Go.RowKit Go.Eng
set_option maxRecDepth 100000
set_option linter.unusedVariables false
set_option linter.unusedSimpArgs false
/-! ### a memory: block b its record, b + 1 its frames, b + 2 its bytes -/
def ramB (b N : Nat) : ABlk := ⟨true, 1, .cells [.sl b 0 0 N N false]⟩
def frameB (b N : Nat) : ABlk := ⟨true, 1, .recs N (fun i => [.sl b (64 * i) 0 64 64 true])⟩
def byteB (l : List Int) : ABlk := ⟨true, 1, .ints .u8 l⟩
def sizeC : Con Nat Unit where
  f := F_ram_RAM_Size
  fit vs H := match vs with
    | [.ptr b _ _] => match H.get b with
      | some k => match k.c with
        | .cells [.sl b1 _ _ n _ _] => some ([b, b1], n)
        | _ => none
      | none => none
    | _ => none
  n0 := 2
  pre n := n ≤ 512
  args n := [.ptr 0 0 0]
  L0 n := [(0, ramB 1 n)]
  outs n := [(fun _ => True, fun _ => (.ret (.int .u32 (64 * n : Nat)), 2, [(0, ramB 1 n)]))]
/-- All bytes stand within. -/
def withinC : Con Nat Unit where
  f := F_ram_RAM_within
  fit vs H := match vs with
    | [.ptr b _ _, _, _, _] => match H.get b with
      | some k => match k.c with
        | .cells [.sl b1 _ _ n _ _] => some ([b, b1], n)
        | _ => none
      | none => none
    | _ => none
  n0 := 2
  pre n := n ≤ 512
  args n := [.ptr 0 0 0, .int .u32 0, .int .i64 (64 * n : Nat), .int .i64 1]
  L0 n := [(0, ramB 1 n)]
  outs n := [(fun _ => True, fun _ => (.ret (.bool true), 2, [(0, ramB 1 n)]))]
structure AtX where
  N : Nat
  k : Nat
  all : List Int
def atC : Con AtX Unit where
  f := F_ram_RAM_at
  fit vs H := match vs with
    | [.ptr b _ _, .int _ a] => match H.get b with
      | some k => match k.c with
        | .cells [.sl b1 _ _ n _ _] => match H.get b1 with
          | some k1 => match k1.c with
            | .recs _ f => match f 0 with
              | [.sl b2 _ _ _ _ _] => match H.get b2 with
                | some k2 => match k2.c with
                  | .ints _ l => some ([b, b1, b2], ⟨n, a.toNat / 64, l⟩)
                  | _ => none
                | none => none
              | _ => none
            | _ => none
          | none => none
        | _ => none
      | none => none
    | _ => none
  n0 := 3
  pre x := x.N ≤ 512 ∧ x.k < x.N
  args x := [.ptr 0 0 0, .int .u32 (64 * x.k : Nat)]
  L0 x := [(0, ramB 1 x.N), (1, frameB 2 x.N), (2, byteB x.all)]
  outs x := [(fun _ => True, fun _ => (.ret (.sl 2 (64 * x.k) 0 64 64 true), 3, [(0, ramB 1 x.N), (1, frameB 2 x.N), (2, byteB x.all)]))]
structure LayX where
  N : Nat
  all : List Int
  mem : Row
structure LayI where
  N : Nat
  all : List Int
  mem : Row
  k : Nat
def atF (b : Nat) : AV := .fn (.func F_ram_RAM_at) [.ptr b 0 0] []
def withinF (b : Nat) : AV := .fn (.func F_ram_RAM_within) [.ptr b 0 0] []
def layL (P : Program) : Lp LayI where
  B := 4
  n := ntmpsOf P F_ram_lay
  code := loopOf P F_ram_lay 0
  fit s H := match s.get 4, s.get 1 with
    | .fn _ [.ptr b _ _] _, .msl b3 _ _ _ c => match H.get b with
      | some k => match k.c with
        | .cells [.sl b1 _ _ n _ _] => match H.get b1 with
          | some k1 => match k1.c with
            | .recs _ f => match f 0 with
              | [.sl b2 _ _ _ _ _] => match H.get b2 with
                | some k2 => match k2.c with
                  | .ints _ l => (rowOf H b3 c).map fun r => ⟨n, l, r, 0⟩
                  | _ => none
                | none => none
              | _ => none
            | _ => none
          | none => none
        | _ => none
      | none => none
    | _, _ => none
  pre i := i.N ≤ 512 ∧ i.all.length = 64 * i.N ∧ i.mem.bs.length = 64 * i.N ∧ i.mem.bs.length ≤ i.mem.c ∧ i.k ≤ i.N
  slots i := [(0, .int .u32 (64 * i.k : Nat)), (1, .msl 3 (64 * i.k) 0 (i.mem.bs.length - 64 * i.k) (i.mem.c - 64 * i.k)), (4, atF 0)]
  nx i := 4
  L i := [(0, ramB 1 i.N), (1, frameB 2 i.N), (2, byteB (i.mem.bs.take (64 * i.k) ++ i.all.drop (64 * i.k))), (3, i.mem.blk)]
  m i := i.N - i.k
  outs i := [(true, ⟨.exit 0, [], 4, [(0, ramB 1 i.N), (1, frameB 2 i.N), (2, byteB i.mem.bs), (3, i.mem.blk)]⟩)]
def layC : Con LayX Unit where
  f := F_ram_lay
  fit vs H := match vs with
    | [_, .msl b3 _ _ _ c, _, _, .fn _ [.ptr b _ _] _] => match H.get b with
      | some k => match k.c with
        | .cells [.sl b1 _ _ n _ _] => match H.get b1 with
          | some k1 => match k1.c with
            | .recs _ f => match f 0 with
              | [.sl b2 _ _ _ _ _] => match H.get b2 with
                | some k2 => match k2.c with
                  | .ints _ l => (rowOf H b3 c).map fun r => ([b, b1, b2, b3], ⟨n, l, r⟩)
                  | _ => none
                | none => none
              | _ => none
            | _ => none
          | none => none
        | _ => none
      | none => none
    | _ => none
  n0 := 4
  pre x := x.N ≤ 512 ∧ x.all.length = 64 * x.N ∧ x.mem.bs.length = 64 * x.N ∧ x.mem.bs.length ≤ x.mem.c
  args x := [.int .u32 0, x.mem.av 3, .int .i64 1, withinF 0, atF 0]
  L0 x := [(0, ramB 1 x.N), (1, frameB 2 x.N), (2, byteB x.all), (3, x.mem.blk)]
  outs x := [(fun _ => True, fun _ => (.ret (.bool true), 4, [(0, ramB 1 x.N), (1, frameB 2 x.N), (2, byteB x.mem.bs), (3, x.mem.blk)]))]
def fillC : Con LayX Unit where
  f := F_ram_RAM_Fill
  fit vs H := match vs with
    | [.ptr b _ _, _, .msl b3 _ _ _ c] => layC.fit [.nils, .msl b3 0 0 0 c, .nils, .nils, .fn (.func 0) [.ptr b 0 0] []] H
    | _ => none
  n0 := 4
  pre x := x.N ≤ 512 ∧ x.all.length = 64 * x.N ∧ x.mem.bs.length = 64 * x.N ∧ x.mem.bs.length ≤ x.mem.c
  args x := [.ptr 0 0 0, .int .u32 0, x.mem.av 3]
  L0 x := [(0, ramB 1 x.N), (1, frameB 2 x.N), (2, byteB x.all), (3, x.mem.blk)]
  outs x := [(fun _ => True, fun _ => (.ret (.bool true), 4, [(0, ramB 1 x.N), (1, frameB 2 x.N), (2, byteB x.mem.bs), (3, x.mem.blk)]))]
/-! ### a new memory -/
structure RnI where
  N : Nat
  k : Nat
  s : Bool
def ramNewL (P : Program) : Lp RnI where
  B := 0
  n := ntmpsOf P F_ram_New
  code := loopOf P F_ram_New 0
  fit s H := match s.get 0 with
    | .int _ n => some ⟨n.toNat, 0, false⟩
    | _ => none
  pre i := 1 ≤ i.N ∧ i.N ≤ 512 ∧ i.k ≤ i.N ∧ (i.s = true → 1 ≤ i.k) ∧ (i.s = false → i.k = 0)
  slots i := [(4, .ptr 0 0 0), (5, .sl 1 0 0 (64 * i.N) (64 * i.N) true), (19, .int .i64 i.N), (20, .int .i64 i.k)]
  nx i := 3
  L i := bif i.s then [(0, ⟨true, 1, .cells [.sl 2 0 0 i.k i.k false]⟩), (1, byteB (List.replicate (64 * i.N) 0)), (2, ⟨true, 1, .recs i.k (fun i => [.sl 1 (64 * i) 0 64 64 true])⟩)] else [(0, ⟨true, 1, .cells [.nils]⟩), (1, byteB (List.replicate (64 * i.N) 0))]
  m i := i.N - i.k
  outs i := [(true, ⟨.exit 0, [(4, .ptr 0 0 0)], 3, [(0, ⟨true, 1, .cells [.sl 2 0 0 i.N i.N false]⟩), (1, byteB (List.replicate (64 * i.N) 0)), (2, ⟨true, 1, .recs i.N (fun i => [.sl 1 (64 * i) 0 64 64 true])⟩)]⟩)]
  sh j := { j with s := true }
def ramNewC : Con Nat Unit where
  f := F_ram_New
  fit vs H := match vs with
    | [.int _ n] => some ([], n.toNat)
    | _ => none
  n0 := 0
  pre n := 1 ≤ n ∧ n ≤ 512
  args n := [.int .i64 n]
  L0 _ := []
  outs n := [(fun _ => True, fun _ => (.ret (.tup [.ptr 0 0 0, .int .i64 0]), 3, [(0, ramB 1 n), (1, frameB 2 n), (2, byteB (List.replicate (64 * n) 0))]))]
end Go.Proofs.YtmbcpmbpkdeioaaDoor.W
/- A memory in frames: the walks. No condition. -/
namespace Go.Proofs.YtmbcpmbpkdeioaaDoor.W
open Go Go.RowKit Go.Eng
set_option maxRecDepth 100000
set_option linter.unusedVariables false
set_option linter.unusedSimpArgs false
def sizeC_c_V (n : Nat) : Prop :=
  ∃ (y : Unit), True ∧ [nU (IntKind.u32.wrap (IntKind.i64.wrap ((↑n : Int) * 64)))] = [nU (↑(64 * n) : Int)] ∧ bC [AV.sl 1 0 0 n n false] = bC [AV.sl 1 0 0 n n false] ∧ True
theorem sizeC_c_e (n : Nat) : some (sizeC_c_V n) = (sizeC.cond sp Go.Proofs.Tryd.prog (drP sp Go.Proofs.Tryd.prog) noLoops noBaseK 40 2 n) := by kernel_rfl
theorem sizeC_ok : sizeC.OK Go.Proofs.Tryd.prog := by
  refine Con.by hmix (noLoops_ok _) (noBaseK_ok _) sizeC_c_V sizeC_c_e (fun n hn => ?_)
  have h : n ≤ 512 := hn
  have e1 : IntKind.wrap .i64 ((n : Int) * 64) = ((64 * n : Nat) : Int) := by rw [IntWalk.i64_in _ (by omega)]; omega
  have e2 : IntKind.wrap .u32 ((64 * n : Nat) : Int) = ((64 * n : Nat) : Int) := IntWalk.u32_in _ (by omega)
  unfold sizeC_c_V
  rw [e1, e2]
  exact ⟨(), trivial, rfl, rfl, trivial⟩
def withinC_c_V (n : Nat) : Prop :=
  n.le 512 ∧ [AV.ptr 0 0 0] = [AV.ptr 0 0 0] ∧ (some (bC [AV.sl 1 0 0 n n false]) = some (bC [AV.sl 1 0 0 n n false]) ∧ True) ∧ (∀ (y : Unit), True → sp (bif true then decide ((↑(64 * n) : Int) ≤ IntKind.i64.wrap (↑(64 * n) : Int)) else false) (n.le 512 ∧ [AV.ptr 0 0 0] = [AV.ptr 0 0 0] ∧ (some (bC [AV.sl 1 0 0 n n false]) = some (bC [AV.sl 1 0 0 n n false]) ∧ True) ∧ (∀ (y : Unit), True → ∃ (y : Unit), True ∧ [AV.bool (bif true then decide (0 ≤ IntKind.i64.wrap (IntKind.i64.wrap (↑(64 * n) : Int) - (↑(64 * n) : Int))) else false)] = [AV.bool true] ∧ bC [AV.sl 1 0 0 n n false] = bC [AV.sl 1 0 0 n n false] ∧ True) ∧ True) (∃ (y : Unit), True ∧ [AV.bool false] = [AV.bool true] ∧ bC [AV.sl 1 0 0 n n false] = bC [AV.sl 1 0 0 n n false] ∧ True)) ∧ True
theorem withinC_c_e (n : Nat) : some (withinC_c_V n) = (withinC.cond sp Go.Proofs.Tryd.prog (drP sp Go.Proofs.Tryd.prog) noLoops (sizeC.orc sp) 40 2 n) := by kernel_rfl
theorem withinC_ok : withinC.OK Go.Proofs.Tryd.prog := by
  refine Con.by hmix (noLoops_ok _) (Con.orc_ok sizeC_ok) withinC_c_V withinC_c_e (fun n hn => ?_)
  have h : n ≤ 512 := hn
  have e1 : IntKind.wrap .i64 ((64 * n : Nat) : Int) = ((64 * n : Nat) : Int) := IntWalk.i64_in _ (by omega)
  have e2 : IntKind.wrap .i64 (((64 * n : Nat) : Int) - ((64 * n : Nat) : Int)) = 0 := by rw [Int.sub_self]; decide
  unfold withinC_c_V
  rw [e1, e2]
  exact ⟨hn, rfl, ⟨rfl, trivial⟩, fun _ _ => spI (fun _ => ⟨hn, rfl, ⟨rfl, trivial⟩, fun _ _ => ⟨(), trivial, rfl, rfl, trivial⟩, trivial⟩) (fun h => by simp at h), trivial⟩
def atC_c_V (x : AtX) : Prop :=
  sp (decide (IntKind.u32.wrap ((↑(64 * x.k) : Int).tdiv 64) < (↑x.N : Int)) && true) (sp (decide (0 + (IntKind.u32.wrap ((↑(64 * x.k) : Int).tdiv 64)).toNat < x.N) && true) (sp (decide (((↑(64 * x.k) : Int).tmod 64).toNat ≤ 64) && true && true && true && true) (∃ (y : Unit), True ∧ [AV.sl 2 (64 * (0 + (IntKind.u32.wrap ((↑(64 * x.k) : Int).tdiv 64)).toNat) + ((↑(64 * x.k) : Int).tmod 64).toNat) 0 (64 - ((↑(64 * x.k) : Int).tmod 64).toNat) (64 - ((↑(64 * x.k) : Int).tmod 64).toNat) true] = [AV.sl 2 (64 * x.k) 0 64 64 true] ∧ bC [AV.sl 1 0 0 x.N x.N false] = bC [AV.sl 1 0 0 x.N x.N false] ∧ (true = true ∧ 1 = 1 ∧ x.N = x.N ∧ ∀ (i : Nat), i < x.N → [AV.sl 2 (64 * i) 0 64 64 true] = [AV.sl 2 (64 * i) 0 64 64 true]) ∧ bW x.all = bW x.all ∧ True) False) False) False
theorem atC_c_e (x : AtX) : some (atC_c_V x) = (atC.cond sp Go.Proofs.Tryd.prog (drP sp Go.Proofs.Tryd.prog) noLoops noBaseK 40 2 x) := by kernel_rfl
theorem atC_ok : atC.OK Go.Proofs.Tryd.prog := by
  refine Con.by hmix (noLoops_ok _) (noBaseK_ok _) atC_c_V atC_c_e (fun x hx => ?_)
  have h1 : x.N ≤ 512 := hx.1
  have h2 : x.k < x.N := hx.2
  have q1 : ((64 * x.k : Nat) : Int).tdiv 64 = (x.k : Int) := by rw [Int.tdiv_eq_ediv_of_nonneg (by omega)]; omega
  have q2 : ((64 * x.k : Nat) : Int).tmod 64 = 0 := by rw [Int.tmod_eq_emod_of_nonneg (by omega)]; omega
  have q3 : IntKind.wrap .u32 (x.k : Int) = (x.k : Int) := IntWalk.u32_in _ (by omega)
  have q4 : (x.k : Int) < (x.N : Int) := by omega
  unfold atC_c_V
  rw [q1, q2, q3]
  simp [sp, q4, h2]
def layL_c_V (i : LayI) : Prop :=
  sp (decide ((↑(i.mem.bs.length - 64 * i.k) : Int) > 0)) ((i.N ≤ 512 ∧ (↑(64 * i.k) : Int).toNat / 64 < i.N) ∧ [AV.ptr 0 0 0] ++ [nU (↑(64 * i.k) : Int)] ++ [] = [AV.ptr 0 0 0, nU (↑(64 * ((↑(64 * i.k) : Int).toNat / 64)) : Int)] ∧ (some (bC [AV.sl 1 0 0 i.N i.N false]) = some (bC [AV.sl 1 0 0 i.N i.N false]) ∧ some (ABlk.mk true 1 (AC.recs i.N fun (i : Nat) => [AV.sl 2 (64 * i) 0 64 64 true])) = some (ABlk.mk true 1 (AC.recs i.N fun (i : Nat) => [AV.sl 2 (64 * i) 0 64 64 true])) ∧ some (bW ((List.take (64 * i.k) i.mem.bs ++ List.drop (64 * i.k) i.all))) = some (bW ((List.take (64 * i.k) i.mem.bs ++ List.drop (64 * i.k) i.all))) ∧ True) ∧ (∀ (y : Unit), True → sp (decide (64 * ((↑(64 * i.k) : Int).toNat / 64) + 0 + (i.mem.bs.length - 64 * i.k).min 64 ≤ (List.take (64 * i.k) i.mem.bs ++ List.drop (64 * i.k) i.all).length) && decide (64 * i.k + 0 + (i.mem.bs.length - 64 * i.k).min 64 ≤
  i.mem.bs.length)) (sp (decide ((↑((i.mem.bs.length - 64 * i.k).min 64) : Int).toNat ≤ i.mem.bs.length - 64 * i.k) && decide (i.mem.bs.length - 64 * i.k ≤ i.mem.c - 64 * i.k) && decide (i.mem.c - 64 * i.k ≤ i.mem.c - 64 * i.k) && true) (∃ (j : LayI), (j.N ≤ 512 ∧ j.all.length = 64 * j.N ∧ j.mem.bs.length = 64 * j.N ∧ j.mem.bs.length ≤ j.mem.c ∧ j.k ≤ j.N) ∧ j.N - j.k < i.N - i.k ∧ [(true, LOut.mk (AX.exit 0) [] 4 [(0, bC [AV.sl 1 0 0 j.N j.N false]), (1, ABlk.mk true 1 (AC.recs j.N fun (i : Nat) => [AV.sl 2 (64 * i) 0 64 64 true])), (2, bW j.mem.bs), (3, bR j.mem.bs)])] = [(true, LOut.mk (AX.exit 0) [] 4 [(0, bC [AV.sl 1 0 0 i.N i.N false]), (1, ABlk.mk true 1 (AC.recs i.N fun (i : Nat) => [AV.sl 2 (64 * i) 0 64 64 true])), (2, bW i.mem.bs), (3, bR i.mem.bs)])] ∧ (nU (IntKind.u32.wrap ((↑(64 * i.k) : Int) + IntKind.u32.wrap (↑((i.mem.bs.length - 64 * i.k).min 64) : Int))) = nU (↑(64 * j.k)
  : Int) ∧ AV.msl 3 (64 * i.k + (↑((i.mem.bs.length - 64 * i.k).min 64) : Int).toNat) 0 (i.mem.bs.length - 64 * i.k - (↑((i.mem.bs.length - 64 * i.k).min 64) : Int).toNat) (i.mem.c - 64 * i.k - (↑((i.mem.bs.length - 64 * i.k).min 64) : Int).toNat) = AV.msl 3 (64 * j.k) 0 (j.mem.bs.length - 64 * j.k) (j.mem.c - 64 * j.k) ∧ AV.fn (Fn.func F_ram_RAM_at) [AV.ptr 0 0 0] [] = AV.fn (Fn.func F_ram_RAM_at) [AV.ptr 0 0 0] [] ∧ True) ∧ bC [AV.sl 1 0 0 i.N i.N false] = bC [AV.sl 1 0 0 j.N j.N false] ∧ (true = true ∧ 1 = 1 ∧ i.N = j.N ∧ ∀ (i_1 : Nat), i_1 < i.N → [AV.sl 2 (64 * i_1) 0 64 64 true] = [AV.sl 2 (64 * i_1) 0 64 64 true]) ∧ bW ((List.take (64 * ((↑(64 * i.k) : Int).toNat / 64) + 0) (List.take (64 * i.k) i.mem.bs ++ List.drop (64 * i.k) i.all) ++ List.take ((i.mem.bs.length - 64 * i.k).min 64) (List.drop (64 * i.k + 0) i.mem.bs) ++ List.drop (64 * ((↑(64 * i.k) : Int).toNat / 64) + 0 +
  (List.take ((i.mem.bs.length - 64 * i.k).min 64) (List.drop (64 * i.k + 0) i.mem.bs)).length) (List.take (64 * i.k) i.mem.bs ++ List.drop (64 * i.k) i.all))) = bW ((List.take (64 * j.k) j.mem.bs ++ List.drop (64 * j.k) j.all)) ∧ bR i.mem.bs = bR j.mem.bs ∧ True) False) False) ∧ True) (True ∧ bC [AV.sl 1 0 0 i.N i.N false] = bC [AV.sl 1 0 0 i.N i.N false] ∧ (true = true ∧ 1 = 1 ∧ i.N = i.N ∧ ∀ (i_1 : Nat), i_1 < i.N → [AV.sl 2 (64 * i_1) 0 64 64 true] = [AV.sl 2 (64 * i_1) 0 64 64 true]) ∧ bW ((List.take (64 * i.k) i.mem.bs ++ List.drop (64 * i.k) i.all)) = bW i.mem.bs ∧ bR i.mem.bs = bR i.mem.bs ∧ True)
theorem layL_c_e (i : LayI) : some (layL_c_V i) = (some ((layL Go.Proofs.Tryd.prog).body sp Go.Proofs.Tryd.prog (atC.orc sp) (drP sp Go.Proofs.Tryd.prog (atC.orc sp)) noLo 40 i)) := by kernel_rfl
theorem lay_eq (a : Nat) (bs al : List Int) (h1 : a + 64 ≤ bs.length) (h2 : al.length = bs.length) : List.take a (List.take a bs ++ List.drop a al) ++ List.take 64 (List.drop a bs) ++ List.drop (a + 64) (List.take a bs ++ List.drop a al) = List.take (a + 64) bs ++ List.drop (a + 64) al := by
  have e : (List.take a bs).length = a := by simp; omega
  rw [List.take_left' e, ← List.take_add, ← List.drop_drop, List.drop_left' e, List.drop_drop]
set_option maxRecDepth 100000 in
theorem layL_ok : (layL Go.Proofs.Tryd.prog).OK Go.Proofs.Tryd.prog := by
  refine Lp.ok_of (Con.orc_ok atC_ok) (drP_ok hmix _ (Con.orc_ok atC_ok)) (noLo_ok _) (by decide) 40 (fun i hi => ?_)
  rw [← Option.some.inj (layL_c_e i)]
  obtain ⟨h1, h2, h3, h4, h5⟩ := hi
  unfold layL_c_V
  by_cases hk : i.k < i.N
  · have hm : (i.mem.bs.length - 64 * i.k).min 64 = 64 := Nat.min_eq_right (by omega)
    have ht : ((64 * i.k : Nat) : Int).toNat / 64 = i.k := by rw [Int.toNat_natCast]; omega
    have hl : (List.take 64 (List.drop (64 * i.k) i.mem.bs)).length = 64 := by simp; omega
    have hl2 : (List.take (64 * i.k) i.mem.bs ++ List.drop (64 * i.k) i.all).length = 64 * i.N := by simp; omega
    rw [hm, ht]
    simp only [Nat.add_zero, hl, hl2]
    refine spI (fun _ => ⟨⟨h1, hk⟩, by simp, by simp [AV.rens, AV.ren, sig], fun _ _ => spI (fun _ => spI (fun _ => ⟨⟨i.N, i.all, i.mem, i.k + 1⟩, ⟨h1, h2, h3, h4, hk⟩, ?_, by simp, ?_⟩) (fun h => ?_)) (fun h => ?_), trivial⟩) (fun h => ?_)
    · show i.N - (i.k + 1) < i.N - i.k; omega
    · have ew : IntKind.wrap .u32 (((64 * i.k : Nat) : Int) + IntKind.wrap .u32 ((64 : Nat) : Int)) = ((64 * (i.k + 1) : Nat) : Int) := by
        rw [IntWalk.u32_in ((64 : Nat) : Int) (by omega), IntWalk.u32_in _ (by omega)]; omega
      refine ⟨⟨by rw [ew], ?_, by simp, trivial⟩, by simp, by simp, ?_, by simp, trivial⟩
      · have e1 : 64 * i.k + ((64 : Nat) : Int).toNat = 64 * (i.k + 1) := by simp; omega
        have e2 : i.mem.bs.length - 64 * i.k - ((64 : Nat) : Int).toNat = i.mem.bs.length - 64 * (i.k + 1) := by simp; omega
        have e3 : i.mem.c - 64 * i.k - ((64 : Nat) : Int).toNat = i.mem.c - 64 * (i.k + 1) := by simp; omega
        rw [e1, e2, e3]
      · rw [lay_eq _ _ _ (by omega) (by omega)]
        rw [show 64 * i.k + 64 = 64 * (i.k + 1) by omega]
    · simp at h; omega
    · simp at h; omega
    · simp at h; omega
  · have hk2 : i.k = i.N := by omega
    refine spI (fun h => ?_) (fun _ => ⟨trivial, rfl, ⟨rfl, rfl, rfl, fun _ _ => rfl⟩, ?_, rfl, trivial⟩)
    · simp at h; omega
    · rw [List.take_of_length_le (by omega), List.drop_of_length_le (by omega), List.append_nil]
def layC_c_V (x : LayX) : Prop :=
  x.N.le 512 ∧ [AV.ptr 0 0 0] ++ [nU 0, nI (↑x.mem.bs.length : Int), nI 1] ++ [] = [AV.ptr 0 0 0, nU 0, nI (↑(64 * x.N) : Int), nI 1] ∧ (some (bC [AV.sl 1 0 0 x.N x.N false]) = some (bC [AV.sl 1 0 0 x.N x.N false]) ∧ True) ∧ (∀ (y : Unit), True → same (loopOf Proofs.Tryd.prog F_ram_lay 0) (loopOf Proofs.Tryd.prog F_ram_lay 0) ∧ (x.N ≤ 512 ∧ x.all.length = 64 * x.N ∧ x.mem.bs.length = 64 * x.N ∧ x.mem.bs.length ≤ x.mem.c ∧ 0 ≤ x.N) ∧ ((nU 0 = nU 0 ∧ AV.msl 3 0 0 x.mem.bs.length x.mem.c = AV.msl 3 0 0 (x.mem.bs.length - 0) (x.mem.c - 0) ∧ AV.fn (Fn.func F_ram_RAM_at) [AV.ptr 0 0 0] [] = AV.fn (Fn.func F_ram_RAM_at) [AV.ptr 0 0 0] [] ∧ True) ∧ bC [AV.sl 1 0 0 x.N x.N false] = bC [AV.sl 1 0 0 x.N x.N false] ∧ (true = true ∧ 1 = 1 ∧ x.N = x.N ∧ ∀ (i : Nat), i < x.N → [AV.sl 2 (64 * i) 0 64 64 true] = [AV.sl 2 (64 * i) 0 64 64 true]) ∧ bW x.all = bW ((List.take 0 x.mem.bs ++ List.drop 0 x.all)) ∧
  bR x.mem.bs = bR x.mem.bs ∧ True) ∧ ∃ (y : Unit), True ∧ [AV.bool true] = [AV.bool true] ∧ bC [AV.sl 1 0 0 x.N x.N false] = bC [AV.sl 1 0 0 x.N x.N false] ∧ (true = true ∧ 1 = 1 ∧ x.N = x.N ∧ ∀ (i : Nat), i < x.N → [AV.sl 2 (64 * i) 0 64 64 true] = [AV.sl 2 (64 * i) 0 64 64 true]) ∧ bW x.mem.bs = bW x.mem.bs ∧ bR x.mem.bs = bR x.mem.bs ∧ True) ∧ True
theorem layC_c_e (x : LayX) : some (layC_c_V x) = (layC.cond sp Go.Proofs.Tryd.prog (drP sp Go.Proofs.Tryd.prog) (forF F_ram_lay ((layL Go.Proofs.Tryd.prog).lo sp Go.Proofs.Tryd.prog (isLoop 3) (loopOf Go.Proofs.Tryd.prog F_ram_lay 0)) noLoops) (orK (withinC.orc sp) (atC.orc sp)) 40 2 x) := by kernel_rfl
set_option maxRecDepth 100000 in
theorem layC_ok : layC.OK Go.Proofs.Tryd.prog := by
  refine Con.by hmix (forF_ok (Lp.lo_ok layL_ok rfl) (noLoops_ok _)) (orK_ok (Con.orc_ok withinC_ok) (Con.orc_ok atC_ok)) layC_c_V layC_c_e (fun x hx => ?_)
  obtain ⟨h1, h2, h3, h4⟩ := hx
  unfold layC_c_V
  exact ⟨h1, by simp [h3], ⟨rfl, trivial⟩, fun _ _ => ⟨rfl, ⟨h1, h2, h3, h4, Nat.zero_le _⟩, ⟨⟨rfl, rfl, rfl, trivial⟩, rfl, ⟨rfl, rfl, rfl, fun _ _ => rfl⟩, rfl, rfl, trivial⟩, (), trivial, rfl, rfl, ⟨rfl, rfl, rfl, fun _ _ => rfl⟩, rfl, rfl, trivial⟩, trivial⟩
def fillC_c_V (x : LayX) : Prop :=
  (x.N ≤ 512 ∧ x.all.length = 64 * x.N ∧ x.mem.bs.length = 64 * x.N ∧ x.mem.bs.length ≤ x.mem.c) ∧ [] ++ [nU 0, AV.msl 3 0 0 x.mem.bs.length x.mem.c, nI 1, AV.fn (Fn.func 74) [AV.ptr 0 0 0] [], AV.fn (Fn.func 75) [AV.ptr 0 0 0] []] ++ [] = [nU 0, AV.msl 3 0 0 x.mem.bs.length x.mem.c, nI 1, AV.fn (Fn.func F_ram_RAM_within) [AV.ptr 0 0 0] [], AV.fn (Fn.func F_ram_RAM_at) [AV.ptr 0 0 0] []] ∧ (some (bC [AV.sl 1 0 0 x.N x.N false]) = some (bC [AV.sl 1 0 0 x.N x.N false]) ∧ some (ABlk.mk true 1 (AC.recs x.N fun (i : Nat) => [AV.sl 2 (64 * i) 0 64 64 true])) = some (ABlk.mk true 1 (AC.recs x.N fun (i : Nat) => [AV.sl 2 (64 * i) 0 64 64 true])) ∧ some (bW x.all) = some (bW x.all) ∧ some (bR x.mem.bs) = some (bR x.mem.bs) ∧ True) ∧ (∀ (y : Unit), True → ∃ (y : Unit), True ∧ [AV.bool true] = [AV.bool true] ∧ bC [AV.sl 1 0 0 x.N x.N false] = bC [AV.sl 1 0 0 x.N x.N false] ∧ (true = true ∧ 1 = 1 ∧ x.N
  = x.N ∧ ∀ (i : Nat), i < x.N → [AV.sl 2 (64 * i) 0 64 64 true] = [AV.sl 2 (64 * i) 0 64 64 true]) ∧ bW x.mem.bs = bW x.mem.bs ∧ bR x.mem.bs = bR x.mem.bs ∧ True) ∧ True
theorem fillC_c_e (x : LayX) : some (fillC_c_V x) = (fillC.cond sp Go.Proofs.Tryd.prog (drP sp Go.Proofs.Tryd.prog) noLoops (layC.orc sp) 40 2 x) := by kernel_rfl
set_option maxRecDepth 100000 in
theorem fillC_ok : fillC.OK Go.Proofs.Tryd.prog := by
  refine Con.by hmix (noLoops_ok _) (Con.orc_ok layC_ok) fillC_c_V fillC_c_e (fun x hx => ?_)
  obtain ⟨h1, h2, h3, h4⟩ := hx
  unfold fillC_c_V
  exact ⟨⟨h1, h2, h3, h4⟩, rfl, ⟨rfl, rfl, rfl, rfl, trivial⟩, fun _ _ => ⟨(), trivial, rfl, rfl, ⟨rfl, rfl, rfl, fun _ _ => rfl⟩, rfl, rfl, trivial⟩, trivial⟩
def ramA_c_V (N k : Nat) : Prop :=
  sp (decide ((↑k : Int) < (↑N : Int))) (sp (decide (0 ≤ IntKind.i64.wrap ((↑k : Int) * 64)) && decide (0 ≤ IntKind.i64.wrap (IntKind.i64.wrap ((↑k : Int) * 64) + 64)) && decide (0 ≤ IntKind.i64.wrap (IntKind.i64.wrap ((↑k : Int) * 64) + 64)) && decide ((IntKind.i64.wrap ((↑k : Int) * 64)).toNat ≤ (IntKind.i64.wrap (IntKind.i64.wrap ((↑k : Int) * 64) + 64)).toNat) && decide ((IntKind.i64.wrap (IntKind.i64.wrap ((↑k : Int) * 64) + 64)).toNat ≤ (IntKind.i64.wrap (IntKind.i64.wrap ((↑k : Int) * 64) + 64)).toNat) && decide ((IntKind.i64.wrap (IntKind.i64.wrap ((↑k : Int) * 64) + 64)).toNat ≤ 64 * N) && true && true && ((0 + (IntKind.i64.wrap ((↑k : Int) * 64)).toNat).beq (0 + (IntKind.i64.wrap ((↑k : Int) * 64)).toNat) && true && ((IntKind.i64.wrap (IntKind.i64.wrap ((↑k : Int) * 64) + 64)).toNat - (IntKind.i64.wrap ((↑k : Int) * 64)).toNat).beq ((IntKind.i64.wrap (IntKind.i64.wrap ((↑k : Int)
  * 64) + 64)).toNat - (IntKind.i64.wrap ((↑k : Int) * 64)).toNat) && ((IntKind.i64.wrap (IntKind.i64.wrap ((↑k : Int) * 64) + 64)).toNat - (IntKind.i64.wrap ((↑k : Int) * 64)).toNat).beq ((IntKind.i64.wrap (IntKind.i64.wrap ((↑k : Int) * 64) + 64)).toNat - (IntKind.i64.wrap ((↑k : Int) * 64)).toNat) && true)) (sp (decide (IntKind.i64.wrap (IntKind.i64.wrap ((↑k : Int) * 64) + 64) = IntKind.i64.wrap (IntKind.i64.wrap ((↑k : Int) * 64) + 64))) (sp (decide (IntKind.i64.wrap ((↑k : Int) * 64) = IntKind.i64.wrap ((↑k : Int) * 64))) (sp (decide (IntKind.i64.wrap (IntKind.i64.wrap ((↑k : Int) * 64) + 64) = IntKind.i64.wrap (IntKind.i64.wrap ((↑k : Int) * 64) + 64))) (sp (decide (IntKind.i64.wrap ((↑k : Int) * 64) = IntKind.i64.wrap ((↑k : Int) * 64))) (sp (decide (IntKind.i64.wrap ((↑k : Int) * 64) = IntKind.i64.wrap ((↑k : Int) * 64))) (sp ((64 * N).beq (64 * N) && (64 * N).beq (64 * N) && true)
  (sp (k.beq k && k.beq k && true) (sp (k.beq k && k.beq k && true) (sp (decide (0 + k ≤ k) && true && true && true && true && decide ((k + 1) * 24 ≤ 140737488355328) && decide (k + 1 ≤ 9223372036854775807)) (∃ (j : RnI), (1 ≤ j.N ∧ j.N ≤ 512 ∧ j.k ≤ j.N ∧ (true = true → 1 ≤ j.k) ∧ (true = false → j.k = 0)) ∧ j.N - j.k < N - k ∧ [(true, LOut.mk (AX.exit 0) [(4, AV.ptr 0 0 0)] 3 [(0, bC [AV.sl 2 0 0 j.N j.N false]), (1, bW ((List.replicate (64 * j.N) (0 : Int)))), (2, ABlk.mk true 1 (AC.recs j.N fun (i : Nat) => [AV.sl 1 (64 * i) 0 64 64 true]))])] = [(true, LOut.mk (AX.exit 0) [(4, AV.ptr 0 0 0)] 3 [(0, bC [AV.sl 2 0 0 N N false]), (1, bW ((List.replicate (64 * N) (0 : Int)))), (2, ABlk.mk true 1 (AC.recs N fun (i : Nat) => [AV.sl 1 (64 * i) 0 64 64 true]))])] ∧ (AV.ptr 0 0 0 = AV.ptr 0 0 0 ∧ AV.sl 1 0 0 (64 * N) (64 * N) true = AV.sl 1 0 0 (64 * j.N) (64 * j.N) true ∧ nI (↑N : Int) = nI
  (↑j.N : Int) ∧ nI (IntKind.i64.wrap ((↑k : Int) + 1)) = nI (↑j.k : Int) ∧ True) ∧ bC (([AV.sl 2 0 0 k k false].set 0 (AV.sl 4 0 0 (k + 1) (k + 1) false))) = bC [AV.sl 4 0 0 j.k j.k false] ∧ bW ((List.replicate (64 * N) (0 : Int))) = bW ((List.replicate (64 * j.N) (0 : Int))) ∧ (true = true ∧ 1 = 1 ∧ k + (List.take 1 (List.drop 0 [AV.sl 1 (0 + (IntKind.i64.wrap ((↑k : Int) * 64)).toNat) 0 ((IntKind.i64.wrap (IntKind.i64.wrap ((↑k : Int) * 64) + 64)).toNat - (IntKind.i64.wrap ((↑k : Int) * 64)).toNat) ((IntKind.i64.wrap (IntKind.i64.wrap ((↑k : Int) * 64) + 64)).toNat - (IntKind.i64.wrap ((↑k : Int) * 64)).toNat) true])).length / 1 = j.k ∧ ∀ (i : Nat), i < k + (List.take 1 (List.drop 0 [AV.sl 1 (0 + (IntKind.i64.wrap ((↑k : Int) * 64)).toNat) 0 ((IntKind.i64.wrap (IntKind.i64.wrap ((↑k : Int) * 64) + 64)).toNat - (IntKind.i64.wrap ((↑k : Int) * 64)).toNat) ((IntKind.i64.wrap
  (IntKind.i64.wrap ((↑k : Int) * 64) + 64)).toNat - (IntKind.i64.wrap ((↑k : Int) * 64)).toNat) true])).length / 1 → (bif i.blt k then [AV.sl 1 (64 * (0 + i)) 0 64 64 true] else List.take 1 (List.drop ((i - k) * 1) (List.take 1 (List.drop 0 [AV.sl 1 (0 + (IntKind.i64.wrap ((↑k : Int) * 64)).toNat) 0 ((IntKind.i64.wrap (IntKind.i64.wrap ((↑k : Int) * 64) + 64)).toNat - (IntKind.i64.wrap ((↑k : Int) * 64)).toNat) ((IntKind.i64.wrap (IntKind.i64.wrap ((↑k : Int) * 64) + 64)).toNat - (IntKind.i64.wrap ((↑k : Int) * 64)).toNat) true])))) = [AV.sl 1 (64 * i) 0 64 64 true]) ∧ True) False) False) False) False) False) False) False) False) False) False) ((AV.ptr 0 0 0 = AV.ptr 0 0 0 ∧ True) ∧ bC [AV.sl 2 0 0 k k false] = bC [AV.sl 2 0 0 N N false] ∧ bW ((List.replicate (64 * N) (0 : Int))) = bW ((List.replicate (64 * N) (0 : Int))) ∧ (true = true ∧ 1 = 1 ∧ k = N ∧ ∀ (i : Nat), i < k → [AV.sl 1 (64 *
  i) 0 64 64 true] = [AV.sl 1 (64 * i) 0 64 64 true]) ∧ True)
theorem ramA_c_e (N k : Nat) : some (ramA_c_V N k) = (some ((ramNewL Go.Proofs.Tryd.prog).body sp Go.Proofs.Tryd.prog noBaseK (drP sp Go.Proofs.Tryd.prog noBaseK) noLo 40 ⟨N, k, true⟩)) := by kernel_rfl
def ramB_c_V (N : Nat) : Prop :=
  sp (decide (0 < (↑N : Int))) (sp (decide (64 ≤ 64 * N) && true && true && true) (sp ((64 * N).beq (64 * N) && (64 * N).beq (64 * N) && true) (∃ (j : RnI), (1 ≤ j.N ∧ j.N ≤ 512 ∧ j.k ≤ j.N ∧ (true = true → 1 ≤ j.k) ∧ (true = false → j.k = 0)) ∧ j.N - j.k < N - 0 ∧ [(true, LOut.mk (AX.exit 0) [(4, AV.ptr 0 0 0)] 3 [(0, bC [AV.sl 2 0 0 j.N j.N false]), (1, bW ((List.replicate (64 * j.N) (0 : Int)))), (2, ABlk.mk true 1 (AC.recs j.N fun (i : Nat) => [AV.sl 1 (64 * i) 0 64 64 true]))])] = [(true, LOut.mk (AX.exit 0) [(4, AV.ptr 0 0 0)] 3 [(0, bC [AV.sl 2 0 0 N N false]), (1, bW ((List.replicate (64 * N) (0 : Int)))), (2, ABlk.mk true 1 (AC.recs N fun (i : Nat) => [AV.sl 1 (64 * i) 0 64 64 true]))])] ∧ (AV.ptr 0 0 0 = AV.ptr 0 0 0 ∧ AV.sl 1 0 0 (64 * N) (64 * N) true = AV.sl 1 0 0 (64 * j.N) (64 * j.N) true ∧ nI (↑N : Int) = nI (↑j.N : Int) ∧ nI 1 = nI (↑j.k : Int) ∧ True) ∧ bC [AV.sl 4 0 0 1 1
  false] = bC [AV.sl 4 0 0 j.k j.k false] ∧ bW ((List.replicate (64 * N) (0 : Int))) = bW ((List.replicate (64 * j.N) (0 : Int))) ∧ (true = true ∧ 1 = 1 ∧ 1 = j.k * 1 ∧ ∀ (i : Nat), i < j.k → ∀ (j : Nat), j < 1 → [AV.sl 1 0 0 64 64 true].getD (i * 1 + j) AV.any = [AV.sl 1 (64 * i) 0 64 64 true].getD j AV.any) ∧ True) False) False) False
theorem ramB_c_e (N : Nat) : some (ramB_c_V N) = (some ((ramNewL Go.Proofs.Tryd.prog).body sp Go.Proofs.Tryd.prog noBaseK (drP sp Go.Proofs.Tryd.prog noBaseK) noLo 40 ⟨N, 0, false⟩)) := by kernel_rfl
set_option maxRecDepth 100000 in
theorem ramB_ok (N : Nat) (h1 : 1 ≤ N) (h2 : N ≤ 512) : ramB_c_V N := by
  unfold ramB_c_V
  refine spI (fun _ => spI (fun _ => spI (fun _ => ⟨⟨N, 1, true⟩, ⟨h1, h2, h1, fun _ => Nat.le_refl _, fun h => by cases h⟩, ?_, rfl, ⟨rfl, rfl, rfl, rfl, trivial⟩, rfl, rfl, ⟨rfl, rfl, rfl, fun i hi j hj => ?_⟩, trivial⟩) (fun h => ?_)) (fun h => ?_)) (fun h => ?_)
  · show N - 1 < N - 0; omega
  · obtain rfl : i = 0 := by have : i < 1 := hi
                             omega
    obtain rfl : j = 0 := by omega
    rfl
  · simp at h
  · simp at h; omega
  · simp at h; omega
set_option maxRecDepth 100000 in
theorem ramA_ok (N k : Nat) (h1 : 1 ≤ N) (h2 : N ≤ 512) (h3 : k ≤ N) (h4 : 1 ≤ k) : ramA_c_V N k := by
  unfold ramA_c_V
  by_cases hk : k < N
  · have e1 : IntKind.wrap .i64 ((k : Int) * 64) = ((64 * k : Nat) : Int) := by rw [IntWalk.i64_in _ (by omega)]; omega
    have e2 : IntKind.wrap .i64 (((64 * k : Nat) : Int) + 64) = ((64 * k + 64 : Nat) : Int) := by rw [IntWalk.i64_in _ (by omega)]; omega
    have e3 : IntKind.wrap .i64 ((k : Int) + 1) = ((k + 1 : Nat) : Int) := by rw [IntWalk.i64_in _ (by omega)]; omega
    rw [e1, e2, e3]
    simp only [Int.toNat_natCast, Nat.zero_add, show 64 * k + 64 - 64 * k = 64 by omega]
    refine spI (fun _ => spI (fun _ => spI (fun _ => spI (fun _ => spI (fun _ => spI (fun _ => spI (fun _ => spI (fun _ => spI (fun _ => spI (fun _ => spI (fun _ => ⟨⟨N, k + 1, true⟩, ⟨h1, h2, hk, fun _ => by show 1 ≤ k + 1; omega, fun h => by cases h⟩, ?_, by simp, by simp, by simp, by simp, ⟨by simp, by simp, by simp, fun i hi => ?_⟩, trivial⟩)
      (fun h => ?_)) (fun h => ?_)) (fun h => ?_)) (fun h => ?_)) (fun h => ?_)) (fun h => ?_)) (fun h => ?_)) (fun h => ?_)) (fun h => ?_)) (fun h => ?_)) (fun h => ?_)
    · show N - (k + 1) < N - k; omega
    · have hi : i < k + 1 := by simpa using hi
      by_cases hik : i < k
      · rw [blt_true hik]; rfl
      · obtain rfl : i = k := by omega
        rw [blt_false hik, Nat.sub_self]; rfl
    all_goals first | (simp at h; done) | (simp at h; omega)
  · obtain rfl : k = N := by omega
    refine spI (fun h => ?_) (fun _ => ?_)
    · simp at h
    · simp
set_option maxRecDepth 100000 in
theorem ramNewL_ok : (ramNewL Go.Proofs.Tryd.prog).OK Go.Proofs.Tryd.prog := by
  refine Lp.ok_of (noBaseK_ok _) (drP_ok hmix _ (noBaseK_ok _)) (noLo_ok _) (by decide) 40 (fun i hi => ?_)
  obtain ⟨N, k, s⟩ := i
  obtain ⟨h1, h2, h3, h4, h5⟩ := hi
  cases s with
  | true =>
    rw [← Option.some.inj (ramA_c_e N k)]
    exact ramA_ok N k h1 h2 h3 (h4 rfl)
  | false =>
    have e : k = 0 := h5 rfl
    rw [e, ← Option.some.inj (ramB_c_e N)]
    exact ramB_ok N h1 h2
def ramNewC_c_V (n : Nat) : Prop :=
  sp (decide ((↑n : Int) < 1)) (∃ (y : Unit), True ∧ False) (sp (bif false then true else decide ((↑n : Int) > 512)) (∃ (y : Unit), True ∧ False) (sp (decide (0 ≤ IntKind.i64.wrap ((↑n : Int) * 64)) && decide (IntKind.i64.wrap ((↑n : Int) * 64) ≤ IntKind.i64.wrap ((↑n : Int) * 64)) && decide (1 * IntKind.i64.wrap ((↑n : Int) * 64) ≤ 281474976710656) && decide (IntKind.i64.wrap ((↑n : Int) * 64) ≤ 9223372036854775807)) (same (loopOf Proofs.Tryd.prog F_ram_New 0) (loopOf Proofs.Tryd.prog F_ram_New 0) ∧ (1 ≤ (↑n : Int).toNat ∧ (↑n : Int).toNat ≤ 512 ∧ 0 ≤ (↑n : Int).toNat ∧ (false = true → 1 ≤ 0) ∧ (false = false → 0 = 0)) ∧ ((AV.ptr 0 0 0 = AV.ptr 0 0 0 ∧ AV.sl 1 0 0 (IntKind.i64.wrap ((↑n : Int) * 64)).toNat (IntKind.i64.wrap ((↑n : Int) * 64)).toNat true = AV.sl 1 0 0 (64 * (↑n : Int).toNat) (64 * (↑n : Int).toNat) true ∧ nI (↑n : Int) = nI (↑(↑n : Int).toNat : Int) ∧ nI 0 = nI 0 ∧ True) ∧
  bC [AV.nils] = bC [AV.nils] ∧ bW ((List.replicate (IntKind.i64.wrap ((↑n : Int) * 64)).toNat 0)) = bW ((List.replicate (64 * (↑n : Int).toNat) 0)) ∧ True) ∧ ∃ (y : Unit), True ∧ [AV.tup [AV.ptr 0 0 0, nI 0]] = [AV.tup [AV.ptr 0 0 0, nI 0]] ∧ bC [AV.sl 2 0 0 (↑n : Int).toNat (↑n : Int).toNat false] = bC [AV.sl 2 0 0 n n false] ∧ (true = true ∧ 1 = 1 ∧ (↑n : Int).toNat = n ∧ ∀ (i : Nat), i < (↑n : Int).toNat → [AV.sl 1 (64 * i) 0 64 64 true] = [AV.sl 1 (64 * i) 0 64 64 true]) ∧ bW ((List.replicate (64 * (↑n : Int).toNat) 0)) = bW ((List.replicate (64 * n) (0 : Int))) ∧ True) False))
theorem ramNewC_c_e (n : Nat) : some (ramNewC_c_V n) = (ramNewC.cond sp Go.Proofs.Tryd.prog (drP sp Go.Proofs.Tryd.prog) (forF F_ram_New ((ramNewL Go.Proofs.Tryd.prog).lo sp Go.Proofs.Tryd.prog (isLoop 6) (loopOf Go.Proofs.Tryd.prog F_ram_New 0)) noLoops) noBaseK 40 2 n) := by kernel_rfl
set_option maxRecDepth 100000 in
theorem ramNewC_ok : ramNewC.OK Go.Proofs.Tryd.prog := by
  refine Con.by hmix (forF_ok (Lp.lo_ok ramNewL_ok rfl) (noLoops_ok _)) (noBaseK_ok _) ramNewC_c_V ramNewC_c_e (fun n hn => ?_)
  have h1 : 1 ≤ n := hn.1
  have h2 : n ≤ 512 := hn.2
  have e1 : IntKind.wrap .i64 ((n : Int) * 64) = ((64 * n : Nat) : Int) := by rw [IntWalk.i64_in _ (by omega)]; omega
  unfold ramNewC_c_V
  rw [e1]
  simp only [Int.toNat_natCast]
  refine spI (fun h => ?_) (fun _ => spI (fun h => ?_) (fun _ => spI (fun _ => ?_) (fun h => ?_)))
  · simp at h; omega
  · simp at h; omega
  · simp [same, h1, h2]
  · simp at h; omega
end Go.Proofs.YtmbcpmbpkdeioaaDoor.W
/- Whether a guest may be kept: what is reckoned, and the loop's states. No condition. -/
namespace Go.Proofs.YtmbcpmbpkdeioaaDoor.W
open Go Go.RowKit Go.Eng
set_option maxRecDepth 100000
set_option linter.unusedVariables false
set_option linter.unusedSimpArgs false
structure RsX where
  x : Sv
  N : Nat
def resumeC : Con RsX Unit where
  f := F_machine_Resume
  fit vs H := match vs with
    | [.ptr b _ _, .agg cs] => match svOf H cs, sizeC.fit [.ptr b 0 0] H with
      | some (σ, x), some (τ, N) => match H.get (τ.getD 1 0) with
        | some k => match k.c with
          | .recs _ f => match f 0 with
            | [.sl b2 _ _ _ _ _] => some (σ ++ τ ++ [b2], ⟨x, N⟩)
            | _ => none
          | _ => none
        | none => none
      | _, _ => none
    | _ => none
  n0 := 9
  pre y := y.x.fine ∧ fitsN y.x = true ∧ y.x.fr = (y.N : Int) ∧ 1 ≤ y.N ∧ y.N ≤ 64
  args y := [.ptr 6 0 0, .agg y.x.av]
  L0 y := [(0, y.x.mem.blk), (1, y.x.notes.blk), (2, y.x.out.blk), (3, y.x.disk.blk), (4, y.x.queue.blk), (5, y.x.script.blk), (6, ramB 7 y.N), (7, frameB 8 y.N), (8, byteB (List.replicate (64 * y.N) 0))]
  outs y := [(fun _ => devLN y.x = 3, fun _ => (.ret (.tup [.nilp, .int .i64 3]), 10, y.x.L)), (fun _ => devLN y.x = 2, fun _ => (.ret (.tup [.nilp, .int .i64 2]), 10, y.x.L)), (fun _ => devLN y.x = 0, fun _ => (.ret (.tup [.ptr 9 0 0, .int .i64 0]), 10, y.x.L))]
def loadN (x : Sv) : Int := bif fitsN x then devLN x else 2
def loadC : Con Sv Unit where
  f := F_machine_Load
  fit := svFit
  n0 := 6
  pre := Sv.fine
  args x := [.agg x.av]
  L0 x := x.L
  outs x := [(fun _ => loadN x = 3, fun _ => (.ret (.tup [.nilp, .int .i64 3]), 7, x.L)), (fun _ => loadN x = 2, fun _ => (.ret (.tup [.nilp, .int .i64 2]), 7, x.L)), (fun _ => loadN x = 0, fun _ => (.ret (.tup [.ptr 6 0 0, .int .i64 0]), 7, x.L))]
def noteOk (r : NRow) (i : Nat) : Bool := !(decide (r.at_ i < 0) || decide (r.at_ i > 1099511627776) || decide (r.cause i < 1) || decide (r.cause i > 11))
def notesOk (r : NRow) (k : Nat) : Bool := (List.range' k (r.n - k)).all fun i => noteOk r i
structure MyI where
  x : Sv
  k : Nat
def mayL (P : Program) : Lp MyI where
  B := 6
  n := ntmpsOf P F_file_May
  code := loopOf P F_file_May 0
  fit s H := match s.get 1 with
    | .ptr b _ _ => match H.get b with
      | some q => match q.c with
        | .cells cs => (svOf H cs).map fun r => ⟨r.2, 0⟩
        | _ => none
      | none => none
    | _ => none
  pre i := i.k ≤ i.x.notes.n ∧ i.x.notes.n ≤ 100000000
  slots i := [(26, i.x.notes.av 1), (27, .int .i64 i.x.notes.n), (28, .int .i64 i.k)]
  nx i := 6
  L i := i.x.L
  m i := i.x.notes.n - i.k
  outs i := [(notesOk i.x.notes i.k, ⟨.exit 0, [], 6, i.x.L⟩), (true, ⟨.ret, [(2, .int .i64 2)], 6, i.x.L⟩)]
def keepN (x : Sv) : Int := bif loadN x == 0 then (bif decide (x.notes.n > 4096) || decide (x.out.bs.length > 65536) then 3 else bif notesOk x.notes 0 then 0 else 2) else loadN x
def keepC : Con Sv Unit where
  f := F_file_May
  fit := svFit
  n0 := 6
  pre := Sv.fine
  args x := [.agg x.av]
  L0 x := x.L
  outs x := [(fun _ => keepN x = 3, fun _ => (.ret (.int .i64 3), 6, x.L)), (fun _ => keepN x = 2, fun _ => (.ret (.int .i64 2), 6, x.L)), (fun _ => keepN x = 0, fun _ => (.ret (.int .i64 0), 6, x.L))]
end Go.Proofs.YtmbcpmbpkdeioaaDoor.W
