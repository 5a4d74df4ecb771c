/- Stage 3 of works(). No condition. -/
import Derived.Test.YtilmgiompalggaaGreatDoorPSA
namespace Go.Proofs.YtilmgiompalggaaGreatDoor.W
open Go Go.RowKit Go.Eng Go.Proofs Go.Eng.St
set_option maxRecDepth 1000000
noncomputable section
def ga3_v := ([.ptr 0 0 0] : List AV)
def ga3_n : Nat := 44
def ga3_L : LH := [(0, k 3 [.ptr 1 0 0, .ptr 2 0 0, i 0]), (1, ⟨true, 29, .tr 29 vt116⟩), (2, ⟨true, 23, .tr 23 vt117⟩), (3, k 7 [.ptr 8 0 0, .sl 15 0 0 1 1 false, .map 16, .sl 17 0 0 1 1 false, i 11, i 0, i 1]), (4, ⟨true, 23, .tr 23 vt118⟩), (5, k 3 [.ptr 8 0 0, .ptr 3 0 0, .map 19]), (6, k 1 [.sl 20 0 0 2 2 false]), (7, k 3 [i 2, .map 21, .map 22]), (8, k 1 [.sl 23 0 0 2 2 false]), (9, k 1 [.sl 24 0 0 10 10 false]), (10, ⟨true, 25, .tr 25 vt120⟩), (11, k 2 [.sl 27 0 0 2 2 true, .map 28]), (12, ⟨true, 48, .tr 48 vt122⟩), (13, k 1 [.sl 33 0 0 2 2 false]), (14, ⟨true, 13, .tr 13 vt123⟩), (15, k 8 [u 0, u 0, i 0, .sl 35 0 0 11 11 false, .sl 36 0 0 3 3 false, i 4, .sl 37 0 0 1 1 false, .bool false]), (16, ⟨true,
1, .map [(.agg [u 0, u 0], i 0)]⟩), (17, ⟨true, 1, .ints .i64 [0]⟩), (18, ⟨true, 13, .tr 13 vt125⟩), (19, ⟨true, 1, .map []⟩), (20, k 1 [.sl 39 0 0 64 64 true, .sl 39 64 0 64 64 true]), (21, ⟨true, 1, .map [(i 0, .bool true)]⟩), (22, ⟨true, 1, .map []⟩), (23, k 1 [.sl 39 128 0 64 64 true, .sl 39 192 0 64 64 true]), (24, k 1 [.sl 39 0 0 64 64 true, .sl 39 64 0 64 64 true, .sl 39 128 0 64 64 true, .sl 39 192 0 64 64 true, .sl 39 256 0 64 64 true, .sl 39 320 0 64 64 true, .sl 39 384 0 64 64 true, .sl 39 448 0 64 64 true, .sl 39 512 0 64 64 true, .sl 39 576 0 64 64 true]), (25, k 3 [.sl 40 0 0 16 16 true, i 10, i 1]), (26, ⟨true, 1, .map []⟩), (27, ⟨true, 1, .tr 2 vt25⟩), (28, ⟨true, 1, .map [(i
0, i 0), (i 1, i 1)]⟩), (29, ⟨true, 580, .tr 580 vt127⟩), (30, ⟨true, 1, .ints .i64 [0]⟩), (31, ⟨true, 1, .ints .u32 [263]⟩), (32, k 6 [.bool true, i 7, i 3, .map 42, i 0, i 0]), (33, k 1 [.sl 43 0 0 64 64 true, .sl 43 64 0 64 64 true]), (34, ⟨true, 1, .ints .u8 [5]⟩), (35, ⟨true, 1, .ints .u8 [32, 0, 5, 0, 0, 0, 112, 1, 113, 0, 0]⟩), (36, k 4 [i 0, u 0, i 0, (.int .i64 (-1)), i 6, u 6, i 1, (.int .i64 (-1)), i 8, u 6, i 0, i 0]), (37, ⟨true, 1, .ints .i64 [0]⟩), (38, ⟨true, 1, .ints .u8 [5]⟩), (39, ⟨true, 1, .tr 640 vt110⟩), (40, ⟨true, 4, .tr 64 vt111⟩), (41, ⟨true, 1, .ints .u32 [263]⟩), (42, ⟨true, 1, .map []⟩), (43, ⟨true, 1, .tr 128 vt83⟩)]
def gb3_v := (.str ⟨#[]⟩ : AV)
def gb3_n : Nat := 44
def gb3_L : LH := ga3_L
def G3 : Stg := ⟨14, ga3_n, ga3_v, ga3_L, .ret gb3_v, gb3_n, gb3_L⟩
theorem g3_e : xF Tryz.prog spc0 100000 60 G3.f G3.ars (AH.of G3.n0 G3.L0) G3.at = True := by kernel_rfl
theorem g3_ok : G3.con.OK Tryz.prog := Stg.con_ok (xF_ok mixed spc0_ok 100000 60 _ _ _ _ (by rw [g3_e]; trivial))
end
end Go.Proofs.YtilmgiompalggaaGreatDoor.W
