/- Stage 1 of works(). No condition. -/
import Derived.Test.YtilmgiompalggaaGreatDoorPSA
namespace Go.Proofs.YtilmgiompalggaaGreatDoor.W
open Go Go.RowKit Go.Eng Go.Proofs Go.Eng.St
set_option maxRecDepth 1000000
noncomputable section
def ga1_v := ([.agg [i 2, i 2, i 9, i 3, i 1, i 50, .bool false, u 0], .sl 0 0 0 9 9 true, .agg [u 0, u 0, u 0, u 0, u 0, u 0, u 0, u 0, u 0, u 0, u 0, u 0, u 0, u 0, u 0, u 0, u 0, u 0, .bool false], .nils, .nils] : List AV)
def ga1_n : Nat := 1
def ga1_L : LH := [(0, ⟨true, 1, .ints .u8 [32, 0, 5, 0, 0, 0, 101, 0, 1]⟩)]
def gb1_v := (.tup [.ptr 1 0 0, i 0] : AV)
def gb1_n : Nat := 37
def gb1_L : LH := [(0, ⟨true, 1, .ints .u8 [32, 0, 5, 0, 0, 0, 101, 0, 1]⟩), (1, k 3 [.ptr 2 0 0, .ptr 3 0 0, i 0]), (2, ⟨true, 29, .tr 29 (n (n (n (n (n e (.ptr 4 0 0) e) (u 0) (n e (i 0) e)) (i 3) (n (n e (.nils) e) (.ptr 5 0 0) (n e (i 0) e))) (i 2) (n vt0 (i 50) (n (n e (i 0) e) (.ptr 8 0 0) e))) (i 2) (n (n (n (n e (.ptr 9 0 0) e) (.ptr 10 0 0) (n e (i 0) e)) (i 1) (n (n e (i 0) e) (.ptr 11 0 0) (n e (i 0) e))) (i 9) (n (n (n e (.nils) e) (.ptr 12 0 0) (n e (i 0) e)) (.bool false) (n (n e (i 0) e) (.ptr 13 0 0) e))))⟩), (3, ⟨true, 23, .tr 23 (n (n vt2 (.ptr 14 0 0) vt4) (.ptr 15 0 0) vt8)⟩), (4, k 7 [.ptr 9 0 0, .nils, .map 16, .nils, i 0, i 0, i 0]), (5, ⟨true, 23, .tr 23 (n (n vt2 (.ptr 7 0 0) vt4)
(.ptr 17 0 0) vt8)⟩), (6, k 3 [.ptr 9 0 0, .ptr 4 0 0, .map 18]), (7, k 1 [.sl 19 0 0 2 2 false]), (8, k 3 [i 2, .map 20, .map 21]), (9, k 1 [.sl 22 0 0 2 2 false]), (10, k 1 [.sl 23 0 0 10 10 false]), (11, ⟨true, 25, .tr 25 (n (n vt10 (.ptr 24 0 0) vt6) (.ptr 10 0 0) (n (n (n (n e (u 0) e) (u 0) (n e (.map 25) e)) (u 0) vt5) (u 0) vt4))⟩), (12, k 2 [.sl 26 0 0 2 2 true, .map 27]), (13, ⟨true, 48, .tr 48 (n (n (n vt12 (.ptr 28 0 0) (n vt13 (u 0) (n (n e (.sl 29 0 0 1 1 false) e) (u 0) e))) (.ptr 10 0 0) (n vt16 (.bool false) (n vt1 (.nilp) (n vt17 (.bool false) e)))) (.bool true) (n vt19 (.ptr 31 0 0) vt21))⟩), (14, k 1 [.sl 32 0 0 2 2 false]), (15, ⟨true, 13, .tr 13 vt24⟩), (16, ⟨true, 1,
.map []⟩), (17, ⟨true, 13, .tr 13 vt24⟩), (18, ⟨true, 1, .map []⟩), (19, k 1 [.sl 33 0 0 64 64 true, .sl 33 64 0 64 64 true]), (20, ⟨true, 1, .map []⟩), (21, ⟨true, 1, .map []⟩), (22, k 1 [.sl 33 128 0 64 64 true, .sl 33 192 0 64 64 true]), (23, k 1 [.sl 33 0 0 64 64 true, .sl 33 64 0 64 64 true, .sl 33 128 0 64 64 true, .sl 33 192 0 64 64 true, .sl 33 256 0 64 64 true, .sl 33 320 0 64 64 true, .sl 33 384 0 64 64 true, .sl 33 448 0 64 64 true, .sl 33 512 0 64 64 true, .sl 33 576 0 64 64 true]), (24, k 3 [.sl 34 0 0 16 16 true, i 0, i 0]), (25, ⟨true, 1, .map []⟩), (26, ⟨true, 1, .tr 2 vt25⟩), (27, ⟨true, 1, .map [(i 0, i 0), (i 1, i 1)]⟩), (28, ⟨true, 580, .tr 580 (n (n vt46 (.ptr 31 0 0)
vt47) (.ptr 10 0 0) vt63)⟩), (29, ⟨true, 1, .ints .i64 [0]⟩), (30, ⟨true, 1, .ints .u32 [263]⟩), (31, k 6 [.bool true, i 7, i 3, .map 35, i 0, i 0]), (32, k 1 [.sl 36 0 0 64 64 true, .sl 36 64 0 64 64 true]), (33, ⟨true, 1, .tr 640 vt73⟩), (34, ⟨true, 4, .tr 64 vt82⟩), (35, ⟨true, 1, .map []⟩), (36, ⟨true, 1, .tr 128 vt83⟩)]
def G1 : Stg := ⟨8, ga1_n, ga1_v, ga1_L, .ret gb1_v, gb1_n, gb1_L⟩
theorem g1_e : xF Tryz.prog spc0 100000 60 G1.f G1.ars (AH.of G1.n0 G1.L0) G1.at = True := by kernel_rfl
theorem g1_ok : G1.con.OK Tryz.prog := Stg.con_ok (xF_ok mixed spc0_ok 100000 60 _ _ _ _ (by rw [g1_e]; trivial))
end
end Go.Proofs.YtilmgiompalggaaGreatDoor.W
