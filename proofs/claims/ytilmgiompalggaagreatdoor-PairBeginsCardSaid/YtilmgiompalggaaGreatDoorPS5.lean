/- Stage 5 of works(). No condition. -/
import Derived.Test.YtilmgiompalggaaGreatDoorPSA
namespace Go.Proofs.YtilmgiompalggaaGreatDoor.W
open Go Go.RowKit Go.Eng Go.Proofs Go.Eng.St
set_option maxRecDepth 1000000
noncomputable section
def ga5_v := ([.ptr 0 0 0] : List AV)
def ga5_n : Nat := 47
def ga5_L : LH := [(0, k 3 [.ptr 1 0 0, .ptr 2 0 0, i 0]), (1, ⟨true, 29, .tr 29 vt144⟩), (2, ⟨true, 23, .tr 23 vt145⟩), (3, k 7 [.ptr 8 0 0, .sl 15 0 0 2 2 false, .map 16, .sl 17 0 0 2 2 false, i 16, i 0, i 2]), (4, ⟨true, 23, .tr 23 vt146⟩), (5, k 3 [.ptr 8 0 0, .ptr 3 0 0, .map 19]), (6, k 1 [.sl 20 0 0 2 2 false]), (7, k 3 [i 2, .map 21, .map 22]), (8, k 1 [.sl 23 0 0 2 2 false]), (9, k 1 [.sl 24 0 0 10 10 false]), (10, ⟨true, 25, .tr 25 vt147⟩), (11, k 2 [.sl 27 0 0 2 2 true, .map 28]), (12, ⟨true, 48, .tr 48 vt148⟩), (13, k 1 [.sl 33 0 0 2 2 false]), (14, ⟨true, 13, .tr 13 vt123⟩), (15, k 8 [u 0, u 0, i 0, .sl 35 0 0 11 11 false, .sl 36 0 0 3 3 false, i 4, .sl 37 0 0 1 1 false, .bool false, u 8, u 0, i
11, .sl 38 0 0 5 5 false, .sl 39 0 0 2 2 false, i 4, .sl 40 0 0 1 1 false, .bool false]), (16, ⟨true, 1, .map [(.agg [u 0, u 0], i 0), (.agg [u 8, u 0], i 1)]⟩), (17, ⟨true, 1, .ints .i64 [0, 1]⟩), (18, ⟨true, 13, .tr 13 vt149⟩), (19, ⟨true, 1, .map []⟩), (20, k 1 [.sl 42 0 0 64 64 true, .sl 42 64 0 64 64 true]), (21, ⟨true, 1, .map [(i 0, .bool true)]⟩), (22, ⟨true, 1, .map []⟩), (23, k 1 [.sl 42 128 0 64 64 true, .sl 42 192 0 64 64 true]), (24, k 1 [.sl 42 0 0 64 64 true, .sl 42 64 0 64 64 true, .sl 42 128 0 64 64 true, .sl 42 192 0 64 64 true, .sl 42 256 0 64 64 true, .sl 42 320 0 64 64 true, .sl 42 384 0 64 64 true, .sl 42 448 0 64 64 true, .sl 42 512 0 64 64 true, .sl 42 576 0 64 64
true]), (25, k 3 [.sl 43 0 0 16 16 true, i 14, i 2]), (26, ⟨true, 1, .map []⟩), (27, ⟨true, 1, .tr 2 vt25⟩), (28, ⟨true, 1, .map [(i 0, i 0), (i 1, i 1)]⟩), (29, ⟨true, 580, .tr 580 vt150⟩), (30, ⟨true, 1, .ints .i64 [0]⟩), (31, ⟨true, 1, .ints .u32 [263]⟩), (32, k 6 [.bool true, i 7, i 3, .map 45, i 0, i 0]), (33, k 1 [.sl 46 0 0 64 64 true, .sl 46 64 0 64 64 true]), (34, ⟨true, 1, .ints .u8 [5]⟩), (35, ⟨true, 1, .ints .u8 [32, 0, 5, 0, 0, 0, 112, 1, 113, 0, 0]⟩), (36, k 4 [i 0, u 0, i 0, (.int .i64 (-1)), i 6, u 6, i 1, (.int .i64 (-1)), i 8, u 6, i 0, i 0]), (37, ⟨true, 1, .ints .i64 [0]⟩), (38, ⟨true, 1, .ints .u8 [112, 0, 113, 1, 0]⟩), (39, k 4 [i 0, u 8, i 0, (.int .i64 (-1)), i 2, u 8,
i 0, i 1]), (40, ⟨true, 1, .ints .i64 [0]⟩), (41, ⟨true, 1, .ints .u8 [5]⟩), (42, ⟨true, 1, .tr 640 vt143⟩), (43, ⟨true, 4, .tr 64 vt111⟩), (44, ⟨true, 1, .ints .u32 [263]⟩), (45, ⟨true, 1, .map []⟩), (46, ⟨true, 1, .tr 128 vt83⟩)]
def gb5_v := (.str ⟨#[]⟩ : AV)
def gb5_n : Nat := 47
def gb5_L : LH := ga5_L
def G5 : Stg := ⟨14, ga5_n, ga5_v, ga5_L, .ret gb5_v, gb5_n, gb5_L⟩
theorem g5_e : xF Tryz.prog spc0 100000 60 G5.f G5.ars (AH.of G5.n0 G5.L0) G5.at = True := by kernel_rfl
theorem g5_ok : G5.con.OK Tryz.prog := Stg.con_ok (xF_ok mixed spc0_ok 100000 60 _ _ _ _ (by rw [g5_e]; trivial))
end
end Go.Proofs.YtilmgiompalggaaGreatDoor.W
