/- Stage 6 of works(). No condition. -/
import Derived.Test.YtilmgiompalggaaGreatDoorPSA
namespace Go.Proofs.YtilmgiompalggaaGreatDoor.W
open Go Go.RowKit Go.Eng Go.Proofs Go.Eng.St
set_option maxRecDepth 1000000
noncomputable section
def ga6_v := ([.ptr 0 0 0, i 64] : List AV)
def ga6_n : Nat := 40
def ga6_L : LH := [(0, ⟨true, 29, .tr 29 vt134⟩), (1, k 7 [.ptr 6 0 0, .sl 11 0 0 2 2 false, .map 12, .sl 13 0 0 2 2 false, i 16, i 0, i 2]), (2, ⟨true, 23, .tr 23 vt137⟩), (3, k 3 [.ptr 6 0 0, .ptr 1 0 0, .map 15]), (4, k 1 [.sl 16 0 0 2 2 false]), (5, k 3 [i 2, .map 17, .map 18]), (6, k 1 [.sl 19 0 0 2 2 false]), (7, k 1 [.sl 20 0 0 10 10 false]), (8, ⟨true, 25, .tr 25 vt140⟩), (9, k 2 [.sl 23 0 0 2 2 true, .map 24]), (10, ⟨true, 48, .tr 48 vt151⟩), (11, k 8 [u 0, u 0, i 0, .sl 29 0 0 11 11 false, .sl 30 0 0 3 3 false, i 4, .sl 31 0 0 1 1 false, .bool false, u 8, u 0, i 11, .sl 32 0 0 5 5 false, .sl 33 0 0 2 2 false, i 4, .sl 34 0 0 1 1 false, .bool false]), (12, ⟨true, 1, .map [(.agg [u 0, u 0], i 0), (.agg
[u 8, u 0], i 1)]⟩), (13, ⟨true, 1, .ints .i64 [0, 1]⟩), (14, ⟨true, 13, .tr 13 vt152⟩), (15, ⟨true, 1, .map []⟩), (16, k 1 [.sl 36 0 0 64 64 true, .sl 36 64 0 64 64 true]), (17, ⟨true, 1, .map [(i 0, .bool true)]⟩), (18, ⟨true, 1, .map []⟩), (19, k 1 [.sl 36 128 0 64 64 true, .sl 36 192 0 64 64 true]), (20, k 1 [.sl 36 0 0 64 64 true, .sl 36 64 0 64 64 true, .sl 36 128 0 64 64 true, .sl 36 192 0 64 64 true, .sl 36 256 0 64 64 true, .sl 36 320 0 64 64 true, .sl 36 384 0 64 64 true, .sl 36 448 0 64 64 true, .sl 36 512 0 64 64 true, .sl 36 576 0 64 64 true]), (21, k 3 [.sl 37 0 0 16 16 true, i 14, i 2]), (22, ⟨true, 1, .map []⟩), (23, ⟨true, 1, .tr 2 vt25⟩), (24, ⟨true, 1, .map [(i 0, i 0), (i
1, i 1)]⟩), (25, ⟨true, 580, .tr 580 vt153⟩), (26, ⟨true, 1, .ints .i64 [0]⟩), (27, ⟨true, 1, .ints .u32 [263]⟩), (28, k 6 [.bool true, i 7, i 3, .map 39, i 0, i 0]), (29, ⟨true, 1, .ints .u8 [32, 0, 5, 0, 0, 0, 112, 1, 113, 0, 0]⟩), (30, k 4 [i 0, u 0, i 0, (.int .i64 (-1)), i 6, u 6, i 1, (.int .i64 (-1)), i 8, u 6, i 0, i 0]), (31, ⟨true, 1, .ints .i64 [0]⟩), (32, ⟨true, 1, .ints .u8 [112, 0, 113, 1, 0]⟩), (33, k 4 [i 0, u 8, i 0, (.int .i64 (-1)), i 2, u 8, i 0, i 1]), (34, ⟨true, 1, .ints .i64 [0]⟩), (35, ⟨true, 1, .ints .u8 [5]⟩), (36, ⟨true, 1, .tr 640 vt143⟩), (37, ⟨true, 4, .tr 64 vt111⟩), (38, ⟨true, 1, .ints .u32 [263]⟩), (39, ⟨true, 1, .map []⟩)]
def gb6_v := (.bool false : AV)
def gb6_n : Nat := 40
def gb6_L : LH := ga6_L
def G6 : Stg := ⟨11, ga6_n, ga6_v, ga6_L, .ret gb6_v, gb6_n, gb6_L⟩
theorem g6_e : xF Tryz.prog spc0 100000 60 G6.f G6.ars (AH.of G6.n0 G6.L0) G6.at = True := by kernel_rfl
theorem g6_ok : G6.con.OK Tryz.prog := Stg.con_ok (xF_ok mixed spc0_ok 100000 60 _ _ _ _ (by rw [g6_e]; trivial))
end
end Go.Proofs.YtilmgiompalggaaGreatDoor.W
