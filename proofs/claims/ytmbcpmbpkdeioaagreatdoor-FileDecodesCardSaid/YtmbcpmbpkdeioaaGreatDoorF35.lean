/- Numbers of functions and types, as this seat's program has them. No condition. -/
import Derived.Test.YtmbcpmbpkdeioaaGreatDoorProg
import Derived.Test.YtmbcpmbpkdeioaaGreatDoorEn24
import Derived.IntWalk
import Derived.Laws.BitsLemmas
import Derived.Laws.Bits64
import Derived.KernelRfl
namespace Go.Proofs.YtmbcpmbpkdeioaaGreatDoor.W
open Go
abbrev F_mummerlaw30_FileDecodes : Nat := 3
abbrev F_mummerref29_Sealed : Nat := 4
abbrev F_file_Decode : Nat := 5
abbrev F_mummerref30_Decode : Nat := 6
abbrev F_judge_Tell : Nat := 7
abbrev F_mummerlaw30_works : Nat := 8
abbrev F_mummerref29_Sum : Nat := 9
abbrev F_wire_Open : Nat := 11
abbrev F_file_reader_saved : Nat := 14
abbrev F_file_May : Nat := 15
abbrev F_mummerref30_Reader_saved : Nat := 16
abbrev F_mummerref30_May : Nat := 17
abbrev F_judge_parts : Nat := 18
abbrev F_wire_Sum : Nat := 21
abbrev F_file_reader_int : Nat := 22
abbrev F_file_reader_row : Nat := 23
abbrev F_file_reader_state : Nat := 24
abbrev F_file_reader_notes : Nat := 25
abbrev F_file_reader_script : Nat := 26
abbrev F_file_reader_number : Nat := 27
abbrev F_machine_Load : Nat := 28
abbrev F_mummerref30_Reader_number : Nat := 29
abbrev F_mummerref30_Reader_row : Nat := 30
abbrev F_mummerref30_Reader_state : Nat := 31
abbrev F_mummerref30_Reader_count : Nat := 32
abbrev F_mummerref30_Reader_word : Nat := 33
abbrev F_mummerref11_Error : Nat := 34
abbrev F_judge_numbers : Nat := 35
abbrev F_judge_states : Nat := 36
abbrev F_judge_bytes : Nat := 37
abbrev F_judge_list : Nat := 38
abbrev F_judge_Notes : Nat := 39
abbrev F_judge_Events : Nat := 40
abbrev F_judge_devices : Nat := 41
abbrev F_judge_parts_1 : Nat := 42
abbrev F_wire_moved : Nat := 48
abbrev F_file_reader_upTo : Nat := 49
abbrev F_wire_GetBytes : Nat := 50
abbrev F_file_reader_count : Nat := 51
abbrev F_machine_fits : Nat := 52
abbrev F_ram_New : Nat := 53
abbrev F_machine_Resume : Nat := 54
abbrev F_mummerref29_Get : Nat := 55
abbrev F_mummerref29_GetBytes : Nat := 56
abbrev F_judge_numbers_1 : Nat := 57
abbrev F_judge_states_1 : Nat := 61
abbrev F_judge_first_byte : Nat := 62
abbrev F_judge_bytes_1 : Nat := 63
abbrev F_judge_list_1 : Nat := 65
abbrev F_judge_first_api_Note : Nat := 66
abbrev F_judge_first_api_Event : Nat := 67
abbrev F_wire_Get : Nat := 70
abbrev F_ram_RAM_Size : Nat := 71
abbrev F_dev_Load : Nat := 72
abbrev F_ram_RAM_Fill : Nat := 73
abbrev F_judge_values : Nat := 75
abbrev F_judge_first_byte_1 : Nat := 76
abbrev F_judge_first_api_Note_1 : Nat := 77
abbrev F_judge_first_api_Event_1 : Nat := 78
abbrev F_dev_New : Nat := 79
abbrev F_dev_ordered : Nat := 80
abbrev F_slices_Clone_byte_byte : Nat := 81
abbrev F_ram_lay : Nat := 82
abbrev F_ram_RAM_within : Nat := 83
abbrev F_ram_RAM_at : Nat := 84
abbrev F_dev_may : Nat := 86
abbrev F_slices_Clone_api_Event_api_Event : Nat := 87
abbrev F_dev_laid : Nat := 88
abbrev T_file_wrong : Nat := 42
end Go.Proofs.YtmbcpmbpkdeioaaGreatDoor.W
/- Numbers of functions and types, as this seat's program has them. No condition. -/
namespace Go.Proofs.YtmbcpmbpkdeioaaGreatDoor.W
open Go
abbrev T_sl_b_uint8 : Nat := 5
abbrev T_sl_uint8 : Nat := 22
end Go.Proofs.YtmbcpmbpkdeioaaGreatDoor.W
/- The bytes of numbers, and sums: what is reckoned, and the loops' states. No condition. -/
namespace Go.Proofs.YtmbcpmbpkdeioaaGreatDoor.W
open Go Go.RowKit Go.Eng
set_option maxRecDepth 100000
set_option linter.unusedVariables false
set_option linter.unusedSimpArgs false
/-! ### the sum -/
def movedStep (r : Int) : Int := if bits .and .u32 r 1 = 1 then bits .xor .u32 (r.fdiv 2) 3988292384 else r.fdiv 2
def movedSteps : Nat → Int → Int
  | 0, r => r
  | k + 1, r => movedSteps k (movedStep r)
def movedN (r x : Int) : Int := movedSteps 8 (bits .xor .u32 r (IntKind.wrap .u32 x))
structure MovI where
  r : Int
  k : Nat
def movedL (P : Program) : Lp MovI where
  B := 0
  n := ntmpsOf P F_wire_moved
  code := loopOf P F_wire_moved 0
  fit s H := match s.get 0, s.get 10 with
    | .int _ r, .int _ k => some ⟨r, k.toNat⟩
    | _, _ => none
  pre i := i.k ≤ 8
  slots i := [(0, .int .u32 i.r), (10, .int .i64 i.k)]
  nx i := 0
  L i := []
  m i := 8 - i.k
  outs i := [(true, ⟨.exit 0, [(0, .int .u32 (movedSteps (8 - i.k) i.r))], 0, []⟩)]
structure MovX where
  r : Int
  x : Int
def movedC : Con MovX Unit where
  f := F_wire_moved
  fit vs H := match vs with
    | [.int _ r, .int _ x] => some ([], ⟨r, x⟩)
    | _ => none
  n0 := 0
  pre _ := True
  args i := [.int .u32 i.r, .int .u8 i.x]
  L0 _ := []
  outs i := [(fun _ => True, fun _ => (.ret (.int .u32 (movedN i.r i.x)), 0, []))]
def sumR (r : Int) : List Int → Int
  | [] => r
  | x :: l => sumR (movedN r x) l
def sumB (l : List Int) : Int := bits .xor .u32 4294967295 (sumR 4294967295 l)
structure SumI where
  bs : List Int
  n : Nat
  c : Nat
  ex : Bool
  own : Bool
  r : Int
  j : Nat
def sumL (P : Program) : Lp SumI where
  B := 2
  n := ntmpsOf P F_wire_Sum
  code := (loopsIn (loopOf P F_wire_Sum 0)).getD 0 .skip
  fit s H := match s.get 3, s.get 16, s.get 14 with
    | .int _ r, .int _ j, .sl b _ _ n c ex => match H.get b with
      | some k => match k.c with
        | .ints _ bs => some ⟨bs, n, c, ex, k.own, r, j.toNat⟩
        | _ => none
      | none => none
    | _, _, _ => none
  pre i := i.j ≤ i.n ∧ i.n ≤ i.bs.length ∧ i.n ≤ 9223372036854775807
  slots i := [(3, .int .u32 i.r), (8, .sl 0 0 0 1 1 true), (9, .int .i64 1), (10, .int .i64 0), (14, .sl 1 0 0 i.n i.c i.ex), (15, .int .i64 i.n), (16, .int .i64 i.j)]
  nx i := 2
  L i := [(1, ⟨i.own, 1, .ints .u8 i.bs⟩)]
  m i := i.n - i.j
  outs i := [(true, ⟨.exit 2, [(3, .int .u32 (sumR i.r ((i.bs.take i.n).drop i.j))), (8, .sl 0 0 0 1 1 true), (9, .int .i64 1), (10, .int .i64 0)], 2, [(1, ⟨i.own, 1, .ints .u8 i.bs⟩)]⟩)]
structure SumX where
  bs : List Int
  n : Nat
  c : Nat
  ex : Bool
  own : Bool
def sumC : Con SumX Unit where
  f := F_wire_Sum
  fit vs H := match vs with
    | [.sl b0 _ _ _ _ _] => match H.get b0 with
      | some k0 => match k0.c with
        | .cells [.sl b _ _ n c ex] => match H.get b with
          | some k => match k.c with
            | .ints _ bs => some ([b0, b], ⟨bs, n, c, ex, k.own⟩)
            | _ => none
          | none => none
        | _ => none
      | none => none
    | _ => none
  n0 := 2
  pre i := i.n ≤ i.bs.length ∧ i.n ≤ 9223372036854775807
  args i := [.sl 0 0 0 1 1 true]
  L0 i := [(0, ⟨true, 1, .cells [.sl 1 0 0 i.n i.c i.ex]⟩), (1, ⟨i.own, 1, .ints .u8 i.bs⟩)]
  outs i := [(fun _ => True, fun _ => (.ret (.int .u32 (sumB (i.bs.take i.n))), 2, [(1, ⟨i.own, 1, .ints .u8 i.bs⟩)]))]
def sumML (P : Program) : Lp SumI where
  B := 2
  n := ntmpsOf P F_wire_Sum
  code := (loopsIn (loopOf P F_wire_Sum 0)).getD 0 .skip
  fit s H := match s.get 3, s.get 16, s.get 14 with
    | .int _ r, .int _ j, .msl b _ _ n c => match H.get b with
      | some k => match k.c with
        | .ints _ bs => some ⟨bs, n, c, false, k.own, r, j.toNat⟩
        | _ => none
      | none => none
    | _, _, _ => none
  pre i := i.j ≤ i.n ∧ i.n ≤ i.bs.length ∧ i.n ≤ 9223372036854775807
  slots i := [(3, .int .u32 i.r), (8, .sl 0 0 0 1 1 true), (9, .int .i64 1), (10, .int .i64 0), (14, .msl 1 0 0 i.n i.c), (15, .int .i64 i.n), (16, .int .i64 i.j)]
  nx i := 2
  L i := [(1, ⟨i.own, 1, .ints .u8 i.bs⟩)]
  m i := i.n - i.j
  outs i := [(true, ⟨.exit 2, [(3, .int .u32 (sumR i.r ((i.bs.take i.n).drop i.j))), (8, .sl 0 0 0 1 1 true), (9, .int .i64 1), (10, .int .i64 0)], 2, [(1, ⟨i.own, 1, .ints .u8 i.bs⟩)]⟩)]
def sumMC : Con SumX Unit where
  f := F_wire_Sum
  fit vs H := match vs with
    | [.sl b0 _ _ _ _ _] => match H.get b0 with
      | some k0 => match k0.c with
        | .cells [.msl b _ _ n c] => match H.get b with
          | some k => match k.c with
            | .ints _ bs => some ([b0, b], ⟨bs, n, c, false, k.own⟩)
            | _ => none
          | none => none
        | _ => none
      | none => none
    | _ => none
  n0 := 2
  pre i := i.n ≤ i.bs.length ∧ i.n ≤ 9223372036854775807
  args i := [.sl 0 0 0 1 1 true]
  L0 i := [(0, ⟨true, 1, .cells [.msl 1 0 0 i.n i.c]⟩), (1, ⟨i.own, 1, .ints .u8 i.bs⟩)]
  outs i := [(fun _ => True, fun _ => (.ret (.int .u32 (sumB (i.bs.take i.n))), 2, [(1, ⟨i.own, 1, .ints .u8 i.bs⟩)]))]
/-! ### Seal -/
def sealB (l : List Int) : List Int := l ++ [IntKind.wrap .u8 (sumB l), IntKind.wrap .u8 ((sumB l).fdiv 256), IntKind.wrap .u8 ((sumB l).fdiv 65536), IntKind.wrap .u8 ((sumB l).fdiv 16777216)]
end Go.Proofs.YtmbcpmbpkdeioaaGreatDoor.W
/- The bytes of numbers, and sums: the walks. No condition. -/
namespace Go.Proofs.YtmbcpmbpkdeioaaGreatDoor.W
open Go Go.RowKit Go.Eng
set_option maxRecDepth 100000
set_option linter.unusedVariables false
set_option linter.unusedSimpArgs false
theorem hmix : Go.Proofs.Tryz.prog.follows .mixedOrders = true := by kernel_rfl
def movedL_c_V (i : MovI) : Prop :=
  sp (decide ((↑i.k : Int) < 8)) (sp (bits BinOp.and IntKind.u32 i.r 1 == 1) (∃ (j : MovI), j.k.le 8 ∧ 8 - j.k < 8 - i.k ∧ [(true, LOut.mk (AX.exit 0) [(0, nU (movedSteps (8 - j.k) j.r))] 0 [])] = [(true, LOut.mk (AX.exit 0) [(0, nU (movedSteps (8 - i.k) i.r))] 0 [])] ∧ (nU (bits BinOp.xor IntKind.u32 (i.r.fdiv 2) 3988292384) = nU j.r ∧ nI (IntKind.i64.wrap ((↑i.k : Int) + 1)) = nI (↑j.k : Int) ∧ True) ∧ True) (∃ (j : MovI), j.k.le 8 ∧ 8 - j.k < 8 - i.k ∧ [(true, LOut.mk (AX.exit 0) [(0, nU (movedSteps (8 - j.k) j.r))] 0 [])] = [(true, LOut.mk (AX.exit 0) [(0, nU (movedSteps (8 - i.k) i.r))] 0 [])] ∧ (nU (i.r.fdiv 2) = nU j.r ∧ nI (IntKind.i64.wrap ((↑i.k : Int) + 1)) = nI (↑j.k : Int) ∧ True) ∧ True)) ((nU i.r = nU (movedSteps (8 - i.k) i.r) ∧ True) ∧ True)
theorem movedL_c_e (i : MovI) : some (movedL_c_V i) = (some ((movedL Go.Proofs.Tryz.prog).body sp Go.Proofs.Tryz.prog noBaseK (drP sp Go.Proofs.Tryz.prog noBaseK) noLo 40 i)) := by kernel_rfl
theorem movedL_ok : (movedL Go.Proofs.Tryz.prog).OK Go.Proofs.Tryz.prog := by
  refine Lp.ok_of (noBaseK_ok _) (drP_ok hmix _ (noBaseK_ok _)) (noLo_ok _) (by decide) 40 (fun i hi => ?_)
  rw [← Option.some.inj (movedL_c_e i)]
  have h1 : i.k ≤ 8 := hi
  unfold movedL_c_V
  refine sp_iff.2 ⟨fun h => ?_, fun h => ?_⟩
  · have hk0 : (i.k : Int) < 8 := by simpa using h
    have hk : i.k < 8 := by omega
    have hw : IntKind.i64.wrap ((i.k : Int) + 1) = (i.k : Int) + 1 := IntWalk.i64_in _ (by omega)
    have hs : 8 - i.k = (8 - (i.k + 1)) + 1 := by omega
    refine sp_iff.2 ⟨fun h2 => ?_, fun h2 => ?_⟩
    · have h2 : bits .and .u32 i.r 1 = 1 := by simpa using h2
      refine ⟨⟨movedStep i.r, i.k + 1⟩, by show i.k + 1 ≤ 8; omega, by show 8 - (i.k + 1) < 8 - i.k; omega, ?_, ?_⟩
      · rw [hs]; rfl
      · simp [hw, movedStep, h2]
    · have h2 : ¬ bits .and .u32 i.r 1 = 1 := by simpa using h2
      refine ⟨⟨movedStep i.r, i.k + 1⟩, by show i.k + 1 ≤ 8; omega, by show 8 - (i.k + 1) < 8 - i.k; omega, ?_, ?_⟩
      · rw [hs]; rfl
      · simp [hw, movedStep, h2]
  · have hk0 : (8 : Int) ≤ i.k := by simpa using h
    have hk : i.k = 8 := by omega
    simp [hk, movedSteps]
def movedC_c_V (i : MovX) : Prop :=
  same (loopOf Proofs.Tryz.prog F_wire_moved 0) (loopOf Proofs.Tryz.prog F_wire_moved 0) ∧ Nat.le 0 8 ∧ ((nU (bits BinOp.xor IntKind.u32 i.r (IntKind.u32.wrap i.x)) = nU (bits BinOp.xor IntKind.u32 i.r (IntKind.u32.wrap i.x)) ∧ nI 0 = nI 0 ∧ True) ∧ True) ∧ ∃ (y : Unit), True ∧ [nU (movedSteps 8 (bits BinOp.xor IntKind.u32 i.r (IntKind.u32.wrap i.x)))] = [nU (movedN i.r i.x)] ∧ True
theorem movedC_c_e (i : MovX) : some (movedC_c_V i) = (movedC.cond sp Go.Proofs.Tryz.prog (drP sp Go.Proofs.Tryz.prog) (forF F_wire_moved ((movedL Go.Proofs.Tryz.prog).lo sp Go.Proofs.Tryz.prog (isLoop 3) (loopOf Go.Proofs.Tryz.prog F_wire_moved 0)) noLoops) noBaseK 40 2 i) := by kernel_rfl
theorem movedC_ok : movedC.OK Go.Proofs.Tryz.prog := by
  refine Con.by hmix (forF_ok (Lp.lo_ok movedL_ok rfl) (noLoops_ok _)) (noBaseK_ok _) movedC_c_V movedC_c_e (fun i _ => ?_)
  simp [movedC_c_V, same, movedN]
def sumL_c_V (i : SumI) : Prop :=
  sp (decide ((↑i.j : Int) < (↑i.n : Int))) (sp (decide ((↑i.j : Int) < (↑i.n : Int)) && true) (sp (decide (0 + (↑i.j : Int).toNat + 0 < i.bs.length)) (True ∧ [] ++ [nU i.r, nB (i.bs.getD (0 + (↑i.j : Int).toNat + 0) 0)] ++ [] = [nU i.r, nB (i.bs.getD (0 + (↑i.j : Int).toNat + 0) 0)] ∧ True ∧ (∀ (y : Unit), True → ∃ (j : SumI), (j.j ≤ j.n ∧ j.n ≤ j.bs.length ∧ j.n ≤ 9223372036854775807) ∧ j.n - j.j < i.n - i.j ∧ [(true, LOut.mk (AX.exit 2) [(3, nU (sumR j.r (List.drop j.j (List.take j.n j.bs)))), (8, AV.sl 0 0 0 1 1 true), (9, nI 1), (10, nI 0)] 2 [(1, ABlk.mk j.own 1 (AC.ints IntKind.u8 j.bs))])] = [(true, LOut.mk (AX.exit 2) [(3, nU (sumR i.r (List.drop i.j (List.take i.n i.bs)))), (8, AV.sl 0 0 0 1 1 true), (9, nI 1), (10, nI 0)] 2 [(1, ABlk.mk i.own 1 (AC.ints IntKind.u8 i.bs))])] ∧ (nU (movedN i.r (i.bs.getD (0 + (↑i.j : Int).toNat + 0) 0)) = nU j.r ∧ AV.sl 0 0 0 1 1 true = AV.sl 0 0 0
  1 1 true ∧ nI 1 = nI 1 ∧ nI 0 = nI 0 ∧ AV.sl 1 0 0 i.n i.c i.ex = AV.sl 1 0 0 j.n j.c j.ex ∧ nI (↑i.n : Int) = nI (↑j.n : Int) ∧ nI (IntKind.i64.wrap ((↑i.j : Int) + 1)) = nI (↑j.j : Int) ∧ True) ∧ ABlk.mk i.own 1 (AC.ints IntKind.u8 i.bs) = ABlk.mk j.own 1 (AC.ints IntKind.u8 j.bs) ∧ True) ∧ True) False) False) ((nU i.r = nU (sumR i.r (List.drop i.j (List.take i.n i.bs))) ∧ AV.sl 0 0 0 1 1 true = AV.sl 0 0 0 1 1 true ∧ nI 1 = nI 1 ∧ nI 0 = nI 0 ∧ True) ∧ ABlk.mk i.own 1 (AC.ints IntKind.u8 i.bs) = ABlk.mk i.own 1 (AC.ints IntKind.u8 i.bs) ∧ True)
theorem sumL_c_e (i : SumI) : some (sumL_c_V i) = (some ((sumL Go.Proofs.Tryz.prog).body sp Go.Proofs.Tryz.prog (movedC.orc sp) (drP sp Go.Proofs.Tryz.prog (movedC.orc sp)) noLo 40 i)) := by kernel_rfl
theorem sumL_ok : (sumL Go.Proofs.Tryz.prog).OK Go.Proofs.Tryz.prog := by
  refine Lp.ok_of (Con.orc_ok movedC_ok) (drP_ok hmix _ (Con.orc_ok movedC_ok)) (noLo_ok _) (by decide) 40 (fun i hi => ?_)
  rw [← Option.some.inj (sumL_c_e i)]
  obtain ⟨h1, h2, h3⟩ := hi
  unfold sumL_c_V
  refine sp_iff.2 ⟨fun h => ?_, fun h => ?_⟩
  · have hj : i.j < i.n := by simpa using h
    have hb : i.j < i.bs.length := by omega
    have e1 : (List.take i.n i.bs).drop i.j = i.bs[i.j] :: (List.take i.n i.bs).drop (i.j + 1) := by
      rw [List.drop_eq_getElem_cons (by simp; omega)]
      simp
    have hw : IntKind.i64.wrap ((i.j : Int) + 1) = (i.j : Int) + 1 := IntWalk.i64_in _ (by omega)
    simp [sp, hj, hb]
    refine ⟨{ i with r := movedN i.r i.bs[i.j], j := i.j + 1 }, ⟨?_, ?_, ?_⟩, ?_, ?_, ?_⟩
    · show i.j + 1 ≤ i.n; omega
    · exact h2
    · exact h3
    · show i.n - (i.j + 1) < i.n - i.j; omega
    · simp [e1, sumR]
    · simp [hw]
  · have hj : i.n ≤ i.j := by simpa using h
    have e1 : (List.take i.n i.bs).drop i.j = [] := by simp; omega
    simp [e1, sumR]
def sumC_c_V (i : SumX) : Prop :=
  same ((loopsIn (loopOf Proofs.Tryz.prog F_wire_Sum 0)).getD 0 Code.skip) ((loopsIn (loopOf Proofs.Tryz.prog F_wire_Sum 0)).getD 0 Code.skip) ∧ (0 ≤ i.n ∧ i.n ≤ i.bs.length ∧ i.n ≤ 9223372036854775807) ∧ ((nU 4294967295 = nU 4294967295 ∧ AV.sl 0 0 0 1 1 true = AV.sl 0 0 0 1 1 true ∧ nI 1 = nI 1 ∧ nI 0 = nI 0 ∧ AV.sl 1 0 0 i.n i.c i.ex = AV.sl 1 0 0 i.n i.c i.ex ∧ nI (↑i.n : Int) = nI (↑i.n : Int) ∧ nI 0 = nI 0 ∧ True) ∧ ABlk.mk i.own 1 (AC.ints IntKind.u8 i.bs) = ABlk.mk i.own 1 (AC.ints IntKind.u8 i.bs) ∧ True) ∧ ∃ (y : Unit), True ∧ [nU (bits BinOp.xor IntKind.u32 4294967295 (sumR 4294967295 (List.drop 0 (List.take i.n i.bs))))] = [nU (sumB (List.take i.n i.bs))] ∧ ABlk.mk i.own 1 (AC.ints IntKind.u8 i.bs) = ABlk.mk i.own 1 (AC.ints IntKind.u8 i.bs) ∧ True
theorem sumC_c_e (i : SumX) : some (sumC_c_V i) = (sumC.cond sp Go.Proofs.Tryz.prog (drP sp Go.Proofs.Tryz.prog) (forF F_wire_Sum ((sumL Go.Proofs.Tryz.prog).lo sp Go.Proofs.Tryz.prog (isLoop 6) ((loopsIn (loopOf Go.Proofs.Tryz.prog F_wire_Sum 0)).getD 0 .skip)) noLoops) (movedC.orc sp) 40 2 i) := by kernel_rfl
theorem sumC_ok : sumC.OK Go.Proofs.Tryz.prog := by
  refine Con.by hmix (forF_ok (Lp.lo_ok sumL_ok rfl) (noLoops_ok _)) (Con.orc_ok movedC_ok) sumC_c_V sumC_c_e (fun i hi => ?_)
  obtain ⟨h1, h2⟩ := hi
  simp [sumC_c_V, same, sumB, h1, h2]
def sumML_c_V (i : SumI) : Prop :=
  sp (decide ((↑i.j : Int) < (↑i.n : Int))) (sp (decide ((↑i.j : Int) < (↑i.n : Int)) && true) (sp (decide (0 + (↑i.j : Int).toNat + 0 < i.bs.length)) (True ∧ [] ++ [nU i.r, nB (i.bs.getD (0 + (↑i.j : Int).toNat + 0) 0)] ++ [] = [nU i.r, nB (i.bs.getD (0 + (↑i.j : Int).toNat + 0) 0)] ∧ True ∧ (∀ (y : Unit), True → ∃ (j : SumI), (j.j ≤ j.n ∧ j.n ≤ j.bs.length ∧ j.n ≤ 9223372036854775807) ∧ j.n - j.j < i.n - i.j ∧ [(true, LOut.mk (AX.exit 2) [(3, nU (sumR j.r (List.drop j.j (List.take j.n j.bs)))), (8, AV.sl 0 0 0 1 1 true), (9, nI 1), (10, nI 0)] 2 [(1, ABlk.mk j.own 1 (AC.ints IntKind.u8 j.bs))])] = [(true, LOut.mk (AX.exit 2) [(3, nU (sumR i.r (List.drop i.j (List.take i.n i.bs)))), (8, AV.sl 0 0 0 1 1 true), (9, nI 1), (10, nI 0)] 2 [(1, ABlk.mk i.own 1 (AC.ints IntKind.u8 i.bs))])] ∧ (nU (movedN i.r (i.bs.getD (0 + (↑i.j : Int).toNat + 0) 0)) = nU j.r ∧ AV.sl 0 0 0 1 1 true = AV.sl 0 0 0
  1 1 true ∧ nI 1 = nI 1 ∧ nI 0 = nI 0 ∧ AV.msl 1 0 0 i.n i.c = AV.msl 1 0 0 j.n j.c ∧ nI (↑i.n : Int) = nI (↑j.n : Int) ∧ nI (IntKind.i64.wrap ((↑i.j : Int) + 1)) = nI (↑j.j : Int) ∧ True) ∧ ABlk.mk i.own 1 (AC.ints IntKind.u8 i.bs) = ABlk.mk j.own 1 (AC.ints IntKind.u8 j.bs) ∧ True) ∧ True) False) False) ((nU i.r = nU (sumR i.r (List.drop i.j (List.take i.n i.bs))) ∧ AV.sl 0 0 0 1 1 true = AV.sl 0 0 0 1 1 true ∧ nI 1 = nI 1 ∧ nI 0 = nI 0 ∧ True) ∧ ABlk.mk i.own 1 (AC.ints IntKind.u8 i.bs) = ABlk.mk i.own 1 (AC.ints IntKind.u8 i.bs) ∧ True)
theorem sumML_c_e (i : SumI) : some (sumML_c_V i) = (some ((sumML Go.Proofs.Tryz.prog).body sp Go.Proofs.Tryz.prog (movedC.orc sp) (drP sp Go.Proofs.Tryz.prog (movedC.orc sp)) noLo 40 i)) := by kernel_rfl
theorem sumML_ok : (sumML Go.Proofs.Tryz.prog).OK Go.Proofs.Tryz.prog := by
  refine Lp.ok_of (Con.orc_ok movedC_ok) (drP_ok hmix _ (Con.orc_ok movedC_ok)) (noLo_ok _) (by decide) 40 (fun i hi => ?_)
  rw [← Option.some.inj (sumML_c_e i)]
  obtain ⟨h1, h2, h3⟩ := hi
  unfold sumML_c_V
  refine sp_iff.2 ⟨fun h => ?_, fun h => ?_⟩
  · have hj : i.j < i.n := by simpa using h
    have hb : i.j < i.bs.length := by omega
    have e1 : (List.take i.n i.bs).drop i.j = i.bs[i.j] :: (List.take i.n i.bs).drop (i.j + 1) := by
      rw [List.drop_eq_getElem_cons (by simp; omega)]
      simp
    have hw : IntKind.i64.wrap ((i.j : Int) + 1) = (i.j : Int) + 1 := IntWalk.i64_in _ (by omega)
    simp [sp, hj, hb]
    refine ⟨{ i with r := movedN i.r i.bs[i.j], j := i.j + 1 }, ⟨?_, ?_, ?_⟩, ?_, ?_, ?_⟩
    · show i.j + 1 ≤ i.n; omega
    · exact h2
    · exact h3
    · show i.n - (i.j + 1) < i.n - i.j; omega
    · simp [e1, sumR]
    · simp [hw]
  · have hj : i.n ≤ i.j := by simpa using h
    have e1 : (List.take i.n i.bs).drop i.j = [] := by simp; omega
    simp [e1, sumR]
def sumMC_c_V (i : SumX) : Prop :=
  same ((loopsIn (loopOf Proofs.Tryz.prog F_wire_Sum 0)).getD 0 Code.skip) ((loopsIn (loopOf Proofs.Tryz.prog F_wire_Sum 0)).getD 0 Code.skip) ∧ (0 ≤ i.n ∧ i.n ≤ i.bs.length ∧ i.n ≤ 9223372036854775807) ∧ ((nU 4294967295 = nU 4294967295 ∧ AV.sl 0 0 0 1 1 true = AV.sl 0 0 0 1 1 true ∧ nI 1 = nI 1 ∧ nI 0 = nI 0 ∧ AV.msl 1 0 0 i.n i.c = AV.msl 1 0 0 i.n i.c ∧ nI (↑i.n : Int) = nI (↑i.n : Int) ∧ nI 0 = nI 0 ∧ True) ∧ ABlk.mk i.own 1 (AC.ints IntKind.u8 i.bs) = ABlk.mk i.own 1 (AC.ints IntKind.u8 i.bs) ∧ True) ∧ ∃ (y : Unit), True ∧ [nU (bits BinOp.xor IntKind.u32 4294967295 (sumR 4294967295 (List.drop 0 (List.take i.n i.bs))))] = [nU (sumB (List.take i.n i.bs))] ∧ ABlk.mk i.own 1 (AC.ints IntKind.u8 i.bs) = ABlk.mk i.own 1 (AC.ints IntKind.u8 i.bs) ∧ True
theorem sumMC_c_e (i : SumX) : some (sumMC_c_V i) = (sumMC.cond sp Go.Proofs.Tryz.prog (drP sp Go.Proofs.Tryz.prog) (forF F_wire_Sum ((sumML Go.Proofs.Tryz.prog).lo sp Go.Proofs.Tryz.prog (isLoop 6) ((loopsIn (loopOf Go.Proofs.Tryz.prog F_wire_Sum 0)).getD 0 .skip)) noLoops) (movedC.orc sp) 40 2 i) := by kernel_rfl
theorem sumMC_ok : sumMC.OK Go.Proofs.Tryz.prog := by
  refine Con.by hmix (forF_ok (Lp.lo_ok sumML_ok rfl) (noLoops_ok _)) (Con.orc_ok movedC_ok) sumMC_c_V sumMC_c_e (fun i hi => ?_)
  obtain ⟨h1, h2⟩ := hi
  simp [sumMC_c_V, same, sumB, h1, h2]
end Go.Proofs.YtmbcpmbpkdeioaaGreatDoor.W
/- Rows of bytes and numbers read: what is reckoned, and the loops' states. No condition. -/
namespace Go.Proofs.YtmbcpmbpkdeioaaGreatDoor.W
open Go Go.RowKit Go.Eng
set_option maxRecDepth 100000
set_option linter.unusedVariables false
set_option linter.unusedSimpArgs false
structure Row where
  bs : List Int
  c : Nat
/-- A row of the call's, that may be nil. -/
def Row.av (b : Nat) (r : Row) : AV := .msl b 0 0 r.bs.length r.c
def Row.blk (r : Row) : ABlk := ⟨false, 1, .ints .u8 r.bs⟩
/-! ### numbers read -/
def accN (k : Nat) (acc x : Int) : Int := bits .or .u64 acc (IntKind.wrap .u64 (IntKind.wrap .u64 (bits .and .u8 x 127) * 2 ^ min (IntKind.wrap .i64 (7 * (k : Int))).toNat 64))
/-- The number, how many bytes it has, why it is none. -/
def getG : List Int → Nat → Int → Int × Int × Int
  | [], _, _ => (0, 0, 290)
  | x :: l, k, acc => if k = 9 ∧ x > 1 then (0, 0, 291) else if x ≥ 128 then getG l (k + 1) (accN k acc x) else if x = 0 ∧ k > 0 then (0, 0, 291) else (accN k acc x, (k : Int) + 1, 0)
def getN (l : List Int) : Int × Int × Int := getG l 0 0
structure GetI where
  bs : List Int
  o : Nat
  j : Nat
  acc : Int
def Rest (bs : List Int) (o : Nat) (b : Nat) : AV := .sl b o 0 (bs.length - o) (bs.length - o) false
def getL (P : Program) : Lp GetI where
  B := 1
  n := ntmpsOf P F_wire_Get
  code := loopOf P F_wire_Get 0
  fit s H := match s.get 5, s.get 10, s.get 8 with
    | .int _ acc, .int _ j, .sl b o _ _ _ _ => match H.get b with
      | some k => match k.c with
        | .ints _ bs => some ⟨bs, o, j.toNat, acc⟩
        | _ => none
      | none => none
    | _, _, _ => none
  pre i := i.o + i.j ≤ i.bs.length ∧ i.bs.length ≤ 140737488355328
  slots i := [(5, .int .u64 i.acc), (8, Rest i.bs i.o 0), (9, .int .i64 (i.bs.length - i.o : Nat)), (10, .int .i64 i.j)]
  nx i := 1
  L i := [(0, ⟨true, 1, .ints .u8 i.bs⟩)]
  m i := i.bs.length - i.j
  outs i := [(decide ((getG ((i.bs.drop i.o).drop i.j) i.j i.acc).2.2 = 290), ⟨.exit 0, [], 1, [(0, ⟨true, 1, .ints .u8 i.bs⟩)]⟩), (true, ⟨.ret, [(2, .int .u64 (getG ((i.bs.drop i.o).drop i.j) i.j i.acc).1), (3, .int .i64 (getG ((i.bs.drop i.o).drop i.j) i.j i.acc).2.1), (4, .int .i64 (getG ((i.bs.drop i.o).drop i.j) i.j i.acc).2.2)], 1, [(0, ⟨true, 1, .ints .u8 i.bs⟩)]⟩)]
structure At where
  bs : List Int
  o : Nat
structure Got where
  n : Int
  u : Nat
def getC : Con At Got where
  f := F_wire_Get
  fit vs H := match vs with
    | [.sl b o _ _ _ _] => match H.get b with
      | some k => match k.c with
        | .ints _ bs => some ([b], ⟨bs, o⟩)
        | _ => none
      | none => none
    | _ => none
  n0 := 1
  pre x := x.o ≤ x.bs.length ∧ x.bs.length ≤ 140737488355328
  args x := [Rest x.bs x.o 0]
  L0 x := [(0, ⟨true, 1, .ints .u8 x.bs⟩)]
  outs x := [(fun y => getN (x.bs.drop x.o) = (y.n, (y.u : Int), 0), fun y => (.ret (.tup [.int .u64 y.n, .int .i64 y.u, .int .i64 0]), 1, [(0, ⟨true, 1, .ints .u8 x.bs⟩)])),
    (fun y => getN (x.bs.drop x.o) = (0, 0, 290), fun y => (.ret (.tup [.int .u64 0, .int .i64 0, .int .i64 290]), 1, [(0, ⟨true, 1, .ints .u8 x.bs⟩)])),
    (fun y => getN (x.bs.drop x.o) = (0, 0, 291), fun y => (.ret (.tup [.int .u64 0, .int .i64 0, .int .i64 291]), 1, [(0, ⟨true, 1, .ints .u8 x.bs⟩)]))]
/-- A row read: how many bytes its length has, its length; or why there is none. -/
inductive RowR where
  | ok (u n : Nat)
  | no (e : Int)
def rowN (l : List Int) (most : Int) : RowR :=
  match getN l with
  | (n, u, e) => if e ≠ 0 then .no e else if n > IntKind.wrap .u64 (if (0 : Int) > most then 0 else most) then .no 3 else if n > IntKind.wrap .u64 (IntKind.wrap .i64 ((l.length : Int) - u)) then .no 290 else .ok u.toNat n.toNat
structure AtM where
  bs : List Int
  o : Nat
  most : Int
structure UN where
  u : Nat
  n : Nat
def getBytesC : Con AtM UN where
  f := F_wire_GetBytes
  fit vs H := match vs with
    | [.sl b o _ _ _ _, .int _ most] => match H.get b with
      | some k => match k.c with
        | .ints _ bs => some ([b], ⟨bs, o, most⟩)
        | _ => none
      | none => none
    | _ => none
  n0 := 1
  pre x := x.o ≤ x.bs.length ∧ x.bs.length ≤ 140737488355328
  args x := [Rest x.bs x.o 0, .int .i64 x.most]
  L0 x := [(0, ⟨true, 1, .ints .u8 x.bs⟩)]
  outs x := [(fun y => rowN (x.bs.drop x.o) x.most = .ok y.u y.n, fun y => (.ret (.tup [.sl 1 0 0 y.n y.n false, .int .i64 (y.u + y.n : Nat), .int .i64 0]), 2, [(0, ⟨true, 1, .ints .u8 x.bs⟩), (1, ⟨true, 1, .ints .u8 ((x.bs.drop (x.o + y.u)).take y.n)⟩)])),
    (fun y => rowN (x.bs.drop x.o) x.most = .no 290, fun y => (.ret (.tup [.nils, .int .i64 0, .int .i64 290]), 1, [(0, ⟨true, 1, .ints .u8 x.bs⟩)])),
    (fun y => rowN (x.bs.drop x.o) x.most = .no 291, fun y => (.ret (.tup [.nils, .int .i64 0, .int .i64 291]), 1, [(0, ⟨true, 1, .ints .u8 x.bs⟩)])),
    (fun y => rowN (x.bs.drop x.o) x.most = .no 3, fun y => (.ret (.tup [.nils, .int .i64 0, .int .i64 3]), 1, [(0, ⟨true, 1, .ints .u8 x.bs⟩)]))]
/-! ### Open -/
def le32 (a b c d : Int) : Int := bits .or .u32 (bits .or .u32 (bits .or .u32 (IntKind.wrap .u32 a) (IntKind.wrap .u32 (IntKind.wrap .u32 b * 256))) (IntKind.wrap .u32 (IntKind.wrap .u32 c * 65536))) (IntKind.wrap .u32 (IntKind.wrap .u32 d * 16777216))
inductive OpenR where
  | ok (l : List Int)
  | no (e : Int)
def openN (l : List Int) : OpenR :=
  if l.length < 4 then .no 290 else
  if sumB (l.take (l.length - 4)) ≠ le32 (l.getD (l.length - 4) 0) (l.getD (l.length - 4 + 1) 0) (l.getD (l.length - 4 + 2) 0) (l.getD (l.length - 4 + 3) 0) then .no 292 else .ok (l.take (l.length - 4))
structure OpenX where
  bs : List Int
  c : Nat
def openC : Con OpenX (List Int) where
  f := F_wire_Open
  fit vs H := match vs with
    | [.msl b _ _ _ c] => match H.get b with
      | some k => match k.c with
        | .ints _ bs => some ([b], ⟨bs, c⟩)
        | _ => none
      | none => none
    | _ => none
  n0 := 1
  pre x := x.bs.length ≤ 140737488355328 ∧ x.bs.length ≤ x.c
  args x := [.msl 0 0 0 x.bs.length x.c]
  L0 x := [(0, ⟨false, 1, .ints .u8 x.bs⟩)]
  outs x := [(fun y => openN x.bs = .ok y, fun y => (.ret (.tup [.sl 1 0 0 y.length y.length false, .int .i64 0]), 2, [(0, ⟨false, 1, .ints .u8 x.bs⟩), (1, ⟨true, 1, .ints .u8 y⟩)])),
    (fun y => openN x.bs = .no 290, fun y => (.ret (.tup [.nils, .int .i64 290]), 1, [(0, ⟨false, 1, .ints .u8 x.bs⟩)])),
    (fun y => openN x.bs = .no 292, fun y => (.ret (.tup [.nils, .int .i64 292]), 1, [(0, ⟨false, 1, .ints .u8 x.bs⟩)]))]
theorem spI {b : Bool} {A B : Prop} (h : b = true → A) (g : b = false → B) : sp b A B := sp_iff.2 ⟨h, g⟩
theorem getG_range : ∀ (l : List Int) (k : Nat) (acc : Int), (∃ u : Nat, (getG l k acc).2.1 = (u : Int) ∧ (getG l k acc).2.2 = 0 ∧ k < u ∧ u ≤ k + l.length ∧ 0 ≤ (getG l k acc).1) ∨ getG l k acc = (0, 0, 290) ∨ getG l k acc = (0, 0, 291)
  | [], k, acc => .inr (.inl rfl)
  | x :: l, k, acc => by
    unfold getG
    split
    · exact .inr (.inr rfl)
    · split
      · rcases getG_range l (k + 1) (accN k acc x) with ⟨u, h1, h2, h3, h4, h5⟩ | h | h
        · exact .inl ⟨u, h1, h2, by omega, by simp only [List.length_cons]; omega, h5⟩
        · exact .inr (.inl h)
        · exact .inr (.inr h)
      · split
        · exact .inr (.inr rfl)
        · exact .inl ⟨k + 1, by simp, rfl, by omega, by simp only [List.length_cons]; omega, (bits_within .or .u64 _ _).1⟩
theorem getN_range (l : List Int) : (∃ (n : Int) (u : Nat), getN l = (n, (u : Int), 0) ∧ 0 < u ∧ u ≤ l.length ∧ 0 ≤ n) ∨ getN l = (0, 0, 290) ∨ getN l = (0, 0, 291) := by
  rcases getG_range l 0 0 with ⟨u, h1, h2, h3, h4, h5⟩ | h | h
  · exact .inl ⟨(getN l).1, u, Prod.ext rfl (Prod.ext h1 h2), h3, by omega, h5⟩
  · exact .inr (.inl h)
  · exact .inr (.inr h)
end Go.Proofs.YtmbcpmbpkdeioaaGreatDoor.W
/- Rows of bytes and numbers read: the walks. No condition. -/
namespace Go.Proofs.YtmbcpmbpkdeioaaGreatDoor.W
open Go Go.RowKit Go.Eng
set_option maxRecDepth 100000
set_option linter.unusedVariables false
set_option linter.unusedSimpArgs false
abbrev getL_c_p0 (i : GetI) : Prop :=
  sp (decide (0 ≤ IntKind.i64.wrap (7 * (↑i.j : Int)))) (sp (decide (i.bs.getD (i.o + (↑i.j : Int).toNat + 0) 0 ≥ 128)) (∃ (j : GetI), (j.o + j.j ≤ j.bs.length ∧ j.bs.length ≤ 140737488355328) ∧ j.bs.length - j.j < i.bs.length - i.j ∧ [(decide ((getG (List.drop j.j (List.drop j.o j.bs)) j.j j.acc).snd.snd = 290), LOut.mk (AX.exit 0) [] 1 [(0, bW j.bs)]), (true, LOut.mk AX.ret [(2, nL (getG (List.drop j.j (List.drop j.o j.bs)) j.j j.acc).fst), (3, nI (getG (List.drop j.j (List.drop j.o j.bs)) j.j j.acc).snd.fst), (4, nI (getG (List.drop j.j (List.drop j.o j.bs)) j.j j.acc).snd.snd)] 1 [(0, bW j.bs)])] = [(decide ((getG (List.drop i.j (List.drop i.o i.bs)) i.j i.acc).snd.snd = 290), LOut.mk (AX.exit 0) [] 1 [(0, bW i.bs)]), (true, LOut.mk AX.ret [(2, nL (getG (List.drop i.j (List.drop i.o i.bs)) i.j i.acc).fst), (3, nI (getG (List.drop i.j (List.drop i.o i.bs)) i.j i.acc).snd.fst), (4, nI
  (getG (List.drop i.j (List.drop i.o i.bs)) i.j i.acc).snd.snd)] 1 [(0, bW i.bs)])] ∧ (nL (bits BinOp.or IntKind.u64 i.acc (IntKind.u64.wrap (IntKind.u64.wrap (bits BinOp.and IntKind.u8 (i.bs.getD (i.o + (↑i.j : Int).toNat + 0) 0) 127) * 2 ^ min (IntKind.i64.wrap (7 * (↑i.j : Int))).toNat 64))) = nL j.acc ∧ AV.sl 0 i.o 0 (i.bs.length - i.o) (i.bs.length - i.o) false = AV.sl 0 j.o 0 (j.bs.length - j.o) (j.bs.length - j.o) false ∧ nI (↑(i.bs.length - i.o) : Int) = nI (↑(j.bs.length - j.o) : Int) ∧ nI (IntKind.i64.wrap ((↑i.j : Int) + 1)) = nI (↑j.j : Int) ∧ True) ∧ bW i.bs = bW j.bs ∧ True) (sp (i.bs.getD (i.o + (↑i.j : Int).toNat + 0) 0 == 0) (sp (bif true then decide ((↑i.j : Int) > 0) else false) (sp (decide ((getG (List.drop i.j (List.drop i.o i.bs)) i.j i.acc).snd.snd = 290)) False ((nL 0 = nL (getG (List.drop i.j (List.drop i.o i.bs)) i.j i.acc).fst ∧ nI 0 = nI (getG (List.drop i.j
  (List.drop i.o i.bs)) i.j i.acc).snd.fst ∧ nI 291 = nI (getG (List.drop i.j (List.drop i.o i.bs)) i.j i.acc).snd.snd ∧ True) ∧ bW i.bs = bW i.bs ∧ True)) (sp (decide ((getG (List.drop i.j (List.drop i.o i.bs)) i.j i.acc).snd.snd = 290)) False ((nL (bits BinOp.or IntKind.u64 i.acc (IntKind.u64.wrap (IntKind.u64.wrap (bits BinOp.and IntKind.u8 (i.bs.getD (i.o + (↑i.j : Int).toNat + 0) 0) 127) * 2 ^ min (IntKind.i64.wrap (7 * (↑i.j : Int))).toNat 64))) = nL (getG (List.drop i.j (List.drop i.o i.bs)) i.j i.acc).fst ∧ nI (IntKind.i64.wrap ((↑i.j : Int) + 1)) = nI (getG (List.drop i.j (List.drop i.o i.bs)) i.j i.acc).snd.fst ∧ nI 0 = nI (getG (List.drop i.j (List.drop i.o i.bs)) i.j i.acc).snd.snd ∧ True) ∧ bW i.bs = bW i.bs ∧ True))) (sp (decide ((getG (List.drop i.j (List.drop i.o i.bs)) i.j i.acc).snd.snd = 290)) False ((nL (bits BinOp.or IntKind.u64 i.acc (IntKind.u64.wrap (IntKind.u64.wrap
  (bits BinOp.and IntKind.u8 (i.bs.getD (i.o + (↑i.j : Int).toNat + 0) 0) 127) * 2 ^ min (IntKind.i64.wrap (7 * (↑i.j : Int))).toNat 64))) = nL (getG (List.drop i.j (List.drop i.o i.bs)) i.j i.acc).fst ∧ nI (IntKind.i64.wrap ((↑i.j : Int) + 1)) = nI (getG (List.drop i.j (List.drop i.o i.bs)) i.j i.acc).snd.fst ∧ nI 0 = nI (getG (List.drop i.j (List.drop i.o i.bs)) i.j i.acc).snd.snd ∧ True) ∧ bW i.bs = bW i.bs ∧ True)))) False
def getL_c_V (i : GetI) : Prop :=
  sp (decide ((↑i.j : Int) < (↑(i.bs.length - i.o) : Int))) (sp (decide ((↑i.j : Int) < (↑(i.bs.length - i.o) : Int)) && true) (sp (decide (i.o + (↑i.j : Int).toNat + 0 < i.bs.length)) (sp ((↑i.j : Int) == 9) (sp (bif true then decide (i.bs.getD (i.o + (↑i.j : Int).toNat + 0) 0 > 1) else false) (sp (decide ((getG (List.drop i.j (List.drop i.o i.bs)) i.j i.acc).snd.snd = 290)) False ((nL 0 = nL (getG (List.drop i.j (List.drop i.o i.bs)) i.j i.acc).fst ∧ nI 0 = nI (getG (List.drop i.j (List.drop i.o i.bs)) i.j i.acc).snd.fst ∧ nI 291 = nI (getG (List.drop i.j (List.drop i.o i.bs)) i.j i.acc).snd.snd ∧ True) ∧ bW i.bs = bW i.bs ∧ True)) (getL_c_p0 i)) (getL_c_p0 i)) False) False) (sp (decide ((getG (List.drop i.j (List.drop i.o i.bs)) i.j i.acc).snd.snd = 290)) (True ∧ bW i.bs = bW i.bs ∧ True) False)
theorem getL_c_e (i : GetI) : some (getL_c_V i) = (some ((getL Go.Proofs.Tryz.prog).body sp Go.Proofs.Tryz.prog noBaseK (drP sp Go.Proofs.Tryz.prog noBaseK) noLo 40 i)) := by kernel_rfl
theorem getL_ok : (getL Go.Proofs.Tryz.prog).OK Go.Proofs.Tryz.prog := by
  refine Lp.ok_of (noBaseK_ok _) (drP_ok hmix _ (noBaseK_ok _)) (noLo_ok _) (by decide) 40 (fun i hi => ?_)
  rw [← Option.some.inj (getL_c_e i)]
  obtain ⟨h1, h2⟩ := hi
  by_cases hj : i.o + i.j < i.bs.length
  · have e : (i.bs.drop i.o).drop i.j = i.bs.getD (i.o + i.j) 0 :: (i.bs.drop i.o).drop (i.j + 1) := by
      rw [List.drop_eq_getElem_cons (by simp; omega)]
      simp [List.getD_eq_getElem?_getD, hj]
    have hg := e ▸ getG.eq_2 i.j i.acc (i.bs.getD (i.o + i.j) 0) ((i.bs.drop i.o).drop (i.j + 1))
    have hx0 : i.o + (i.j : Int).toNat + 0 = i.o + i.j := by simp
    unfold getL_c_V getL_c_p0
    rw [hx0]
    generalize i.bs.getD (i.o + i.j) 0 = x at hg e
    have hw : IntKind.wrap .i64 ((i.j : Int) + 1) = (i.j : Int) + 1 := IntWalk.i64_in _ (by omega)
    have hw7 : IntKind.wrap .i64 (7 * (i.j : Int)) = 7 * (i.j : Int) := IntWalk.i64_in _ (by omega)
    have cont : (if i.j = 9 ∧ x > 1 then ((0 : Int), (0 : Int), (291 : Int)) else if x ≥ 128 then getG ((i.bs.drop i.o).drop (i.j + 1)) (i.j + 1) (accN i.j i.acc x) else if x = 0 ∧ i.j > 0 then (0, 0, 291) else (accN i.j i.acc x, (i.j : Int) + 1, 0)) = getG ((i.bs.drop i.o).drop (i.j + 1)) (i.j + 1) (accN i.j i.acc x) → ∃ (j : GetI),
          (j.o + j.j ≤ j.bs.length ∧ j.bs.length ≤ 140737488355328) ∧
            j.bs.length - j.j < i.bs.length - i.j ∧
              [(decide ((getG (List.drop j.j (List.drop j.o j.bs)) j.j j.acc).snd.snd = 290), LOut.mk (AX.exit 0) [] 1 [(0, ABlk.mk true 1 (AC.ints IntKind.u8 j.bs))]),
                    (true,
                      LOut.mk AX.ret
                        [(2, AV.int IntKind.u64 (getG (List.drop j.j (List.drop j.o j.bs)) j.j j.acc).fst), (3, AV.int IntKind.i64 (getG (List.drop j.j (List.drop j.o j.bs)) j.j j.acc).snd.fst),
                          (4, AV.int IntKind.i64 (getG (List.drop j.j (List.drop j.o j.bs)) j.j j.acc).snd.snd)]
                        1 [(0, ABlk.mk true 1 (AC.ints IntKind.u8 j.bs))])] =
                  [(decide ((getG (List.drop i.j (List.drop i.o i.bs)) i.j i.acc).snd.snd = 290), LOut.mk (AX.exit 0) [] 1 [(0, ABlk.mk true 1 (AC.ints IntKind.u8 i.bs))]),
                    (true,
                      LOut.mk AX.ret
                        [(2, AV.int IntKind.u64 (getG (List.drop i.j (List.drop i.o i.bs)) i.j i.acc).fst), (3, AV.int IntKind.i64 (getG (List.drop i.j (List.drop i.o i.bs)) i.j i.acc).snd.fst),
                          (4, AV.int IntKind.i64 (getG (List.drop i.j (List.drop i.o i.bs)) i.j i.acc).snd.snd)]
                        1 [(0, ABlk.mk true 1 (AC.ints IntKind.u8 i.bs))])] ∧
                (AV.int IntKind.u64
                        (bits BinOp.or IntKind.u64 i.acc (IntKind.u64.wrap (IntKind.u64.wrap (bits BinOp.and IntKind.u8 x 127) * 2 ^ min (IntKind.i64.wrap (7 * (↑i.j : Int))).toNat 64))) =
                      AV.int IntKind.u64 j.acc ∧
                    AV.sl 0 i.o 0 (i.bs.length - i.o) (i.bs.length - i.o) false = AV.sl 0 j.o 0 (j.bs.length - j.o) (j.bs.length - j.o) false ∧
                      AV.int IntKind.i64 (↑(i.bs.length - i.o) : Int) = AV.int IntKind.i64 (↑(j.bs.length - j.o) : Int) ∧ AV.int IntKind.i64 (IntKind.i64.wrap ((↑i.j : Int) + 1)) = AV.int IntKind.i64 (↑j.j : Int) ∧ True) ∧
                  ABlk.mk true 1 (AC.ints IntKind.u8 i.bs) = ABlk.mk true 1 (AC.ints IntKind.u8 j.bs) ∧ True := by
      intro hc
      rw [hc] at hg
      refine ⟨⟨i.bs, i.o, i.j + 1, accN i.j i.acc x⟩, ⟨by show i.o + (i.j + 1) ≤ i.bs.length; omega, h2⟩, by show i.bs.length - (i.j + 1) < i.bs.length - i.j; omega, ?_, ?_⟩
      · simp only [hg]
      · simp [hw, accN]
    have hlt : (i.j : Int) < ((i.bs.length - i.o : Nat) : Int) := by omega
    have h77 : (0 : Int) ≤ 7 * (i.j : Int) := by omega
    refine spI (fun _ => spI (fun _ => spI (fun _ => spI (fun h9 => spI (fun hx => ?_) (fun hx => ?_)) (fun h9 => ?_)) (fun h => ?_)) (fun h => ?_)) (fun h => ?_)
    · have h9 : i.j = 9 := by have : (i.j : Int) = 9 := by simpa using h9
                              omega
      have hx : x > 1 := by simpa using hx
      rw [if_pos ⟨h9, hx⟩] at hg
      rw [hg]
      exact spI (fun h => by simp at h) (fun _ => ⟨⟨rfl, rfl, rfl, trivial⟩, rfl, trivial⟩)
    · have hx : ¬ x > 1 := by simpa using hx
      have hn : ¬ (i.j = 9 ∧ x > 1) := fun e => hx e.2
      refine spI (fun _ => spI (fun hg1 => ?_) (fun hg1 => spI (fun h0 => spI (fun hj0 => ?_) (fun hj0 => ?_)) (fun h0 => ?_))) (fun h => ?_)
      · have hg1 : x ≥ 128 := by simpa using hg1
        exact cont (by rw [if_neg hn, if_pos hg1])
      · have hg1 : ¬ x ≥ 128 := by simpa using hg1
        have h0 : x = 0 := by simpa using h0
        have hj0 : i.j > 0 := by have : (i.j : Int) > 0 := by simpa using hj0
                                 omega
        rw [if_neg hn, if_neg hg1, if_pos ⟨h0, hj0⟩] at hg
        rw [hg]
        exact spI (fun h => by simp at h) (fun _ => ⟨⟨rfl, rfl, rfl, trivial⟩, rfl, trivial⟩)
      · have hg1 : ¬ x ≥ 128 := by simpa using hg1
        have hj0 : ¬ i.j > 0 := by have : ¬ (i.j : Int) > 0 := by simpa using hj0
                                   omega
        rw [if_neg hn, if_neg hg1, if_neg (fun e => hj0 e.2)] at hg
        rw [hg]
        exact spI (fun h => by simp at h) (fun _ => ⟨⟨rfl, by rw [hw], rfl, trivial⟩, rfl, trivial⟩)
      · have hg1 : ¬ x ≥ 128 := by simpa using hg1
        have h0 : ¬ x = 0 := by simpa using h0
        rw [if_neg hn, if_neg hg1, if_neg (fun e => h0 e.1)] at hg
        rw [hg]
        exact spI (fun h => by simp at h) (fun _ => ⟨⟨rfl, by rw [hw], rfl, trivial⟩, rfl, trivial⟩)
      · rw [hw7] at h
        simp at h
        omega
    · have h9 : ¬ i.j = 9 := by have : ¬ (i.j : Int) = 9 := by simpa using h9
                                omega
      have hn : ¬ (i.j = 9 ∧ x > 1) := fun e => h9 e.1
      refine spI (fun _ => spI (fun hg1 => ?_) (fun hg1 => spI (fun h0 => spI (fun hj0 => ?_) (fun hj0 => ?_)) (fun h0 => ?_))) (fun h => ?_)
      · have hg1 : x ≥ 128 := by simpa using hg1
        exact cont (by rw [if_neg hn, if_pos hg1])
      · have hg1 : ¬ x ≥ 128 := by simpa using hg1
        have h0 : x = 0 := by simpa using h0
        have hj0 : i.j > 0 := by have : (i.j : Int) > 0 := by simpa using hj0
                                 omega
        rw [if_neg hn, if_neg hg1, if_pos ⟨h0, hj0⟩] at hg
        rw [hg]
        exact spI (fun h => by simp at h) (fun _ => ⟨⟨rfl, rfl, rfl, trivial⟩, rfl, trivial⟩)
      · have hg1 : ¬ x ≥ 128 := by simpa using hg1
        have hj0 : ¬ i.j > 0 := by have : ¬ (i.j : Int) > 0 := by simpa using hj0
                                   omega
        rw [if_neg hn, if_neg hg1, if_neg (fun e => hj0 e.2)] at hg
        rw [hg]
        exact spI (fun h => by simp at h) (fun _ => ⟨⟨rfl, by rw [hw], rfl, trivial⟩, rfl, trivial⟩)
      · have hg1 : ¬ x ≥ 128 := by simpa using hg1
        have h0 : ¬ x = 0 := by simpa using h0
        rw [if_neg hn, if_neg hg1, if_neg (fun e => h0 e.1)] at hg
        rw [hg]
        exact spI (fun h => by simp at h) (fun _ => ⟨⟨rfl, by rw [hw], rfl, trivial⟩, rfl, trivial⟩)
      · rw [hw7] at h
        simp at h
        omega
    · simp at h
      omega
    · simp at h
      omega
    · simp at h
      omega
  · have e : (i.bs.drop i.o).drop i.j = [] := by simp; omega
    have hlt : ¬ (i.j : Int) < ((i.bs.length - i.o : Nat) : Int) := by omega
    simp [getL_c_V, sp, hlt, e, getG]
abbrev getC_c_p0 (x : At) : List AV :=
  [AV.tup [nL (getG (List.drop 0 (List.drop x.o x.bs)) 0 0).fst, nI (getG (List.drop 0 (List.drop x.o x.bs)) 0 0).snd.fst, nI (getG (List.drop 0 (List.drop x.o x.bs)) 0 0).snd.snd]]
def getC_c_V (x : At) : Prop :=
  same (loopOf Proofs.Tryz.prog F_wire_Get 0) (loopOf Proofs.Tryz.prog F_wire_Get 0) ∧ (x.o + 0 ≤ x.bs.length ∧ x.bs.length ≤ 140737488355328) ∧ ((nL 0 = nL 0 ∧ AV.sl 0 x.o 0 (x.bs.length - x.o) (x.bs.length - x.o) false = AV.sl 0 x.o 0 (x.bs.length - x.o) (x.bs.length - x.o) false ∧ nI (↑(x.bs.length - x.o) : Int) = nI (↑(x.bs.length - x.o) : Int) ∧ nI 0 = nI 0 ∧ True) ∧ bW x.bs = bW x.bs ∧ True) ∧ sp (decide ((getG (List.drop 0 (List.drop x.o x.bs)) 0 0).snd.snd = 290)) ((∃ (y : Got), getN (List.drop x.o x.bs) = (y.n, (↑y.u : Int), 0) ∧ [AV.tup [nL 0, nI 0, nI 290]] = [AV.tup [nL y.n, nI (↑y.u : Int), nI 0]] ∧ bW x.bs = bW x.bs ∧ True) ∨ (∃ (y : Got), getN (List.drop x.o x.bs) = (0, 0, 290) ∧ [AV.tup [nL 0, nI 0, nI 290]] = [AV.tup [nL 0, nI 0, nI 290]] ∧ bW x.bs = bW x.bs ∧ True) ∨ ∃ (y : Got), getN (List.drop x.o x.bs) = (0, 0, 291) ∧ [AV.tup [nL 0, nI 0, nI 290]] = [AV.tup [nL 0, nI 0,
  nI 291]] ∧ bW x.bs = bW x.bs ∧ True) ((∃ (y : Got), getN (List.drop x.o x.bs) = (y.n, (↑y.u : Int), 0) ∧ (getC_c_p0 x) = [AV.tup [nL y.n, nI (↑y.u : Int), nI 0]] ∧ bW x.bs = bW x.bs ∧ True) ∨ (∃ (y : Got), getN (List.drop x.o x.bs) = (0, 0, 290) ∧ (getC_c_p0 x) = [AV.tup [nL 0, nI 0, nI 290]] ∧ bW x.bs = bW x.bs ∧ True) ∨ ∃ (y : Got), getN (List.drop x.o x.bs) = (0, 0, 291) ∧ (getC_c_p0 x) = [AV.tup [nL 0, nI 0, nI 291]] ∧ bW x.bs = bW x.bs ∧ True)
theorem getC_c_e (x : At) : some (getC_c_V x) = (getC.cond sp Go.Proofs.Tryz.prog (drP sp Go.Proofs.Tryz.prog) (forF F_wire_Get ((getL Go.Proofs.Tryz.prog).lo sp Go.Proofs.Tryz.prog (isLoop 3) (loopOf Go.Proofs.Tryz.prog F_wire_Get 0)) noLoops) noBaseK 40 2 x) := by kernel_rfl
theorem getC_ok : getC.OK Go.Proofs.Tryz.prog := by
  refine Con.by hmix (forF_ok (Lp.lo_ok getL_ok rfl) (noLoops_ok _)) (noBaseK_ok _) getC_c_V getC_c_e (fun x hx => ?_)
  obtain ⟨h1, h2⟩ := hx
  have hN : getG (List.drop 0 (List.drop x.o x.bs)) 0 0 = getN (List.drop x.o x.bs) := rfl
  unfold getC_c_V getC_c_p0
  rw [hN]
  refine ⟨rfl, ⟨by omega, h2⟩, by simp, ?_⟩
  rcases getN_range (List.drop x.o x.bs) with ⟨n, u, h, h3, h4, h5⟩ | h | h
  · rw [h]; exact .inl ⟨⟨n, u⟩, rfl, rfl, rfl, trivial⟩
  · rw [h]; exact .inr (.inl ⟨⟨0, 0⟩, rfl, rfl, rfl, trivial⟩)
  · rw [h]; exact .inr (.inr ⟨⟨0, 0⟩, rfl, rfl, rfl, trivial⟩)
abbrev getBytesC_c_p0 (x : AtM) (y : Got) : List AV :=
  [AV.tup [AV.sl 2 0 0 (0 + ((IntKind.i64.wrap ((↑y.u : Int) + IntKind.i64.wrap y.n)).toNat - (↑y.u : Int).toNat)) (0 + ((IntKind.i64.wrap ((↑y.u : Int) + IntKind.i64.wrap y.n)).toNat - (↑y.u : Int).toNat)) false, nI (IntKind.i64.wrap ((↑y.u : Int) + IntKind.i64.wrap y.n)), nI 0]]
abbrev getBytesC_c_p1 (x : AtM) : Prop :=
  ∃ (y : UN), rowN (List.drop x.o x.bs) x.most = RowR.ok y.u y.n ∧ [AV.tup [AV.nils, nI 0, nI 290]] = [AV.tup [AV.sl 1 0 0 y.n y.n false, nI (↑(y.u + y.n) : Int), nI 0]] ∧ bW x.bs = bW x.bs ∧ False ∧ True
abbrev getBytesC_c_p2 (x : AtM) : Prop :=
  ∃ (y : UN), rowN (List.drop x.o x.bs) x.most = RowR.no 290 ∧ [AV.tup [AV.nils, nI 0, nI 290]] = [AV.tup [AV.nils, nI 0, nI 290]] ∧ bW x.bs = bW x.bs ∧ True
abbrev getBytesC_c_p3 (x : AtM) : Prop :=
  ∃ (y : UN), rowN (List.drop x.o x.bs) x.most = RowR.no 291 ∧ [AV.tup [AV.nils, nI 0, nI 290]] = [AV.tup [AV.nils, nI 0, nI 291]] ∧ bW x.bs = bW x.bs ∧ True
def getBytesC_c_V (x : AtM) : Prop :=
  (x.o ≤ x.bs.length ∧ x.bs.length ≤ 140737488355328) ∧ [] ++ [AV.sl 0 x.o 0 (x.bs.length - x.o) (x.bs.length - x.o) false] ++ [] = [AV.sl 0 x.o 0 (x.bs.length - x.o) (x.bs.length - x.o) false] ∧ (some (bW x.bs) = some (bW x.bs) ∧ True) ∧ (∀ (y : Got), getN (List.drop x.o x.bs) = (y.n, (↑y.u : Int), 0) → sp (decide (y.n > IntKind.u64.wrap (if 0 > x.most then 0 else x.most))) ((∃ (y : UN), rowN (List.drop x.o x.bs) x.most = RowR.ok y.u y.n ∧ [AV.tup [AV.nils, nI 0, nI 3]] = [AV.tup [AV.sl 1 0 0 y.n y.n false, nI (↑(y.u + y.n) : Int), nI 0]] ∧ bW x.bs = bW x.bs ∧ False ∧ True) ∨ (∃ (y : UN), rowN (List.drop x.o x.bs) x.most = RowR.no 290 ∧ [AV.tup [AV.nils, nI 0, nI 3]] = [AV.tup [AV.nils, nI 0, nI 290]] ∧ bW x.bs = bW x.bs ∧ True) ∨ (∃ (y : UN), rowN (List.drop x.o x.bs) x.most = RowR.no 291 ∧ [AV.tup [AV.nils, nI 0, nI 3]] = [AV.tup [AV.nils, nI 0, nI 291]] ∧ bW x.bs = bW x.bs ∧ True) ∨ ∃
  (y : UN), rowN (List.drop x.o x.bs) x.most = RowR.no 3 ∧ [AV.tup [AV.nils, nI 0, nI 3]] = [AV.tup [AV.nils, nI 0, nI 3]] ∧ bW x.bs = bW x.bs ∧ True) (sp (decide (y.n > IntKind.u64.wrap (IntKind.i64.wrap ((↑(x.bs.length - x.o) : Int) - (↑y.u : Int))))) ((getBytesC_c_p1 x) ∨ (getBytesC_c_p2 x) ∨ (getBytesC_c_p3 x) ∨ ∃ (y : UN), rowN (List.drop x.o x.bs) x.most = RowR.no 3 ∧ [AV.tup [AV.nils, nI 0, nI 290]] = [AV.tup [AV.nils, nI 0, nI 3]] ∧ bW x.bs = bW x.bs ∧ True) (sp (decide (0 ≤ IntKind.i64.wrap ((↑y.u : Int) + IntKind.i64.wrap y.n)) && true && decide ((↑y.u : Int).toNat ≤ (IntKind.i64.wrap ((↑y.u : Int) + IntKind.i64.wrap y.n)).toNat) && decide ((IntKind.i64.wrap ((↑y.u : Int) + IntKind.i64.wrap y.n)).toNat ≤ x.bs.length - x.o) && decide (x.bs.length - x.o ≤ x.bs.length - x.o) && true && true) (sp (decide (x.o + (↑y.u : Int).toNat + 0 + ((IntKind.i64.wrap ((↑y.u : Int) +
  IntKind.i64.wrap y.n)).toNat - (↑y.u : Int).toNat) ≤ x.bs.length) && (decide ((0 + ((IntKind.i64.wrap ((↑y.u : Int) + IntKind.i64.wrap y.n)).toNat - (↑y.u : Int).toNat)) * 1 ≤ 140737488355328) && decide (0 + ((IntKind.i64.wrap ((↑y.u : Int) + IntKind.i64.wrap y.n)).toNat - (↑y.u : Int).toNat) ≤ 9223372036854775807))) ((∃ (y_1 : UN), rowN (List.drop x.o x.bs) x.most = RowR.ok y_1.u y_1.n ∧ (getBytesC_c_p0 x y) = [AV.tup [AV.sl 2 0 0 y_1.n y_1.n false, nI (↑(y_1.u + y_1.n) : Int), nI 0]] ∧ bW x.bs = bW x.bs ∧ bW (([] ++ List.take ((IntKind.i64.wrap ((↑y.u : Int) + IntKind.i64.wrap y.n)).toNat - (↑y.u : Int).toNat) (List.drop (x.o + (↑y.u : Int).toNat + 0) x.bs))) = bW ((List.take y_1.n (List.drop (x.o + y_1.u) x.bs))) ∧ True) ∨ (∃ (y_1 : UN), rowN (List.drop x.o x.bs) x.most = RowR.no 290 ∧ (getBytesC_c_p0 x y) = [AV.tup [AV.nils, nI 0, nI 290]] ∧ bW x.bs = bW x.bs ∧ True) ∨ (∃ (y_1 : UN),
  rowN (List.drop x.o x.bs) x.most = RowR.no 291 ∧ (getBytesC_c_p0 x y) = [AV.tup [AV.nils, nI 0, nI 291]] ∧ bW x.bs = bW x.bs ∧ True) ∨ ∃ (y_1 : UN), rowN (List.drop x.o x.bs) x.most = RowR.no 3 ∧ (getBytesC_c_p0 x y) = [AV.tup [AV.nils, nI 0, nI 3]] ∧ bW x.bs = bW x.bs ∧ True) False) False))) ∧ (∀ (y : Got), getN (List.drop x.o x.bs) = (0, 0, 290) → (getBytesC_c_p1 x) ∨ (getBytesC_c_p2 x) ∨ (getBytesC_c_p3 x) ∨ ∃ (y : UN), rowN (List.drop x.o x.bs) x.most = RowR.no 3 ∧ [AV.tup [AV.nils, nI 0, nI 290]] = [AV.tup [AV.nils, nI 0, nI 3]] ∧ bW x.bs = bW x.bs ∧ True) ∧ (∀ (y : Got), getN (List.drop x.o x.bs) = (0, 0, 291) → (∃ (y : UN), rowN (List.drop x.o x.bs) x.most = RowR.ok y.u y.n ∧ [AV.tup [AV.nils, nI 0, nI 291]] = [AV.tup [AV.sl 1 0 0 y.n y.n false, nI (↑(y.u + y.n) : Int), nI 0]] ∧ bW x.bs = bW x.bs ∧ False ∧ True) ∨ (∃ (y : UN), rowN (List.drop x.o x.bs) x.most = RowR.no 290 ∧
  [AV.tup [AV.nils, nI 0, nI 291]] = [AV.tup [AV.nils, nI 0, nI 290]] ∧ bW x.bs = bW x.bs ∧ True) ∨ (∃ (y : UN), rowN (List.drop x.o x.bs) x.most = RowR.no 291 ∧ [AV.tup [AV.nils, nI 0, nI 291]] = [AV.tup [AV.nils, nI 0, nI 291]] ∧ bW x.bs = bW x.bs ∧ True) ∨ ∃ (y : UN), rowN (List.drop x.o x.bs) x.most = RowR.no 3 ∧ [AV.tup [AV.nils, nI 0, nI 291]] = [AV.tup [AV.nils, nI 0, nI 3]] ∧ bW x.bs = bW x.bs ∧ True) ∧ True
theorem getBytesC_c_e (x : AtM) : some (getBytesC_c_V x) = (getBytesC.cond sp Go.Proofs.Tryz.prog (drP sp Go.Proofs.Tryz.prog) noLoops (getC.orc sp) 40 2 x) := by kernel_rfl
theorem getBytesC_ok : getBytesC.OK Go.Proofs.Tryz.prog := by
  refine Con.by hmix (noLoops_ok _) (Con.orc_ok getC_ok) getBytesC_c_V getBytesC_c_e (fun x hx => ?_)
  obtain ⟨h1, h2⟩ := hx
  have hd : (List.drop x.o x.bs).length = x.bs.length - x.o := by simp
  have hr := getN_range (List.drop x.o x.bs)
  unfold getBytesC_c_V getBytesC_c_p3 getBytesC_c_p2 getBytesC_c_p1 getBytesC_c_p0
  refine ⟨⟨h1, h2⟩, rfl, ⟨rfl, trivial⟩, fun ⟨n, u⟩ hy => ?_, fun y hy => ?_, fun y hy => ?_, trivial⟩
  · simp only [] at hy ⊢
    obtain ⟨q1, q2, q3⟩ : 0 < u ∧ u ≤ x.bs.length - x.o ∧ 0 ≤ n := by
      rcases hr with ⟨n', u', h, h3, h4, h5⟩ | h | h
      · rw [h] at hy
        simp only [Prod.mk.injEq] at hy
        obtain ⟨rfl, h6, _⟩ := hy
        omega
      · rw [h] at hy; simp at hy
      · rw [h] at hy; simp at hy
    have hN : rowN (List.drop x.o x.bs) x.most = if n > IntKind.wrap .u64 (if (0 : Int) > x.most then 0 else x.most) then .no 3 else if n > IntKind.wrap .u64 (IntKind.wrap .i64 (((x.bs.length - x.o : Nat) : Int) - u)) then .no 290 else .ok u n.toNat := by
      unfold rowN
      rw [hy, hd]
      simp
    have hw1 : IntKind.wrap .i64 (((x.bs.length - x.o : Nat) : Int) - u) = ((x.bs.length - x.o : Nat) : Int) - u := IntWalk.i64_in _ (by omega)
    have hw2 : IntKind.wrap .u64 (((x.bs.length - x.o : Nat) : Int) - u) = ((x.bs.length - x.o : Nat) : Int) - u := IntWalk.u64_in _ (by omega)
    rw [hw1, hw2] at hN
    rw [hw1, hw2]
    refine spI (fun h => ?_) (fun h => ?_)
    · have h : n > IntKind.wrap .u64 (if (0 : Int) > x.most then 0 else x.most) := by simpa using h
      rw [if_pos h] at hN
      exact .inr (.inr (.inr ⟨⟨0, 0⟩, hN, by simp⟩))
    · have h : ¬ n > IntKind.wrap .u64 (if (0 : Int) > x.most then 0 else x.most) := by simpa using h
      rw [if_neg h] at hN
      refine spI (fun h => ?_) (fun h => ?_)
      · have h : n > ((x.bs.length - x.o : Nat) : Int) - u := by simpa using h
        rw [if_pos h] at hN
        exact .inr (.inl ⟨⟨0, 0⟩, hN, by simp⟩)
      · have h : ¬ n > ((x.bs.length - x.o : Nat) : Int) - u := by simpa using h
        rw [if_neg h] at hN
        have hwn : IntKind.wrap .i64 n = n := IntWalk.i64_in _ (by omega)
        have hwu : IntKind.wrap .i64 ((u : Int) + n) = (u : Int) + n := IntWalk.i64_in _ (by omega)
        obtain ⟨m, rfl⟩ : ∃ m : Nat, n = (m : Int) := ⟨n.toNat, by omega⟩
        rw [hwn, hwu]
        have t1 : ((u : Int) + (m : Int)).toNat = u + m := by omega
        have t2 : u + m - u = m := by omega
        simp only [t1, Int.toNat_natCast, t2, Nat.zero_add, Nat.add_zero]
        refine spI (fun h => ?_) (fun h => ?_)
        · refine spI (fun h => ?_) (fun h => ?_)
          · refine .inl ⟨⟨u, m⟩, by simpa using hN, ?_⟩
            simp
          · clear t1 t2 hwu hwn hN hy hw1 hw2 hr
            simp at h
            omega
        · clear t1 t2 hwu hwn hN hy hw1 hw2 hr
          simp at h
          omega
  · have hN : rowN (List.drop x.o x.bs) x.most = .no 290 := by unfold rowN; rw [hy]; simp
    exact .inr (.inl ⟨⟨0, 0⟩, hN, rfl, rfl, trivial⟩)
  · have hN : rowN (List.drop x.o x.bs) x.most = .no 291 := by unfold rowN; rw [hy]; simp
    exact .inr (.inr (.inl ⟨⟨0, 0⟩, hN, rfl, rfl, trivial⟩))
abbrev openC_c_p0 (x : OpenX) : List AV :=
  [AV.tup [AV.sl 3 0 0 (0 + ((IntKind.i64.wrap ((↑x.bs.length : Int) - 4)).toNat - 0)) (0 + ((IntKind.i64.wrap ((↑x.bs.length : Int) - 4)).toNat - 0)) false, nI 0]]
abbrev openC_c_p1 (x : OpenX) : List AV :=
  [AV.msl 0 0 0 ((IntKind.i64.wrap ((↑x.bs.length : Int) - 4)).toNat - 0) (x.c - 0)]
def openC_c_V (x : OpenX) : Prop :=
  sp (decide ((↑x.bs.length : Int) < 4)) ((∃ (y : List Int), openN x.bs = OpenR.ok y ∧ [AV.tup [AV.nils, nI 290]] = [AV.tup [AV.sl 1 0 0 y.length y.length false, nI 0]] ∧ bR x.bs = bR x.bs ∧ False ∧ True) ∨ (∃ (y : List Int), openN x.bs = OpenR.no 290 ∧ [AV.tup [AV.nils, nI 290]] = [AV.tup [AV.nils, nI 290]] ∧ bR x.bs = bR x.bs ∧ True) ∨ ∃ (y : List Int), openN x.bs = OpenR.no 292 ∧ [AV.tup [AV.nils, nI 290]] = [AV.tup [AV.nils, nI 292]] ∧ bR x.bs = bR x.bs ∧ True) (sp (decide (0 ≤ IntKind.i64.wrap ((↑x.bs.length : Int) - 4)) && decide (IntKind.i64.wrap ((↑x.bs.length : Int) - 4) < (↑x.bs.length : Int)) && true) (sp (decide (0 + (IntKind.i64.wrap ((↑x.bs.length : Int) - 4)).toNat + 0 < x.bs.length)) (sp (decide (0 ≤ IntKind.i64.wrap (IntKind.i64.wrap ((↑x.bs.length : Int) - 4) + 1)) && decide (IntKind.i64.wrap (IntKind.i64.wrap ((↑x.bs.length : Int) - 4) + 1) < (↑x.bs.length : Int)) &&
  true) (sp (decide (0 + (IntKind.i64.wrap (IntKind.i64.wrap ((↑x.bs.length : Int) - 4) + 1)).toNat + 0 < x.bs.length)) (sp (decide (0 ≤ IntKind.i64.wrap (IntKind.i64.wrap ((↑x.bs.length : Int) - 4) + 2)) && decide (IntKind.i64.wrap (IntKind.i64.wrap ((↑x.bs.length : Int) - 4) + 2) < (↑x.bs.length : Int)) && true) (sp (decide (0 + (IntKind.i64.wrap (IntKind.i64.wrap ((↑x.bs.length : Int) - 4) + 2)).toNat + 0 < x.bs.length)) (sp (decide (0 ≤ IntKind.i64.wrap (IntKind.i64.wrap ((↑x.bs.length : Int) - 4) + 3)) && decide (IntKind.i64.wrap (IntKind.i64.wrap ((↑x.bs.length : Int) - 4) + 3) < (↑x.bs.length : Int)) && true) (sp (decide (0 + (IntKind.i64.wrap (IntKind.i64.wrap ((↑x.bs.length : Int) - 4) + 3)).toNat + 0 < x.bs.length)) (sp (decide (0 ≤ IntKind.i64.wrap ((↑x.bs.length : Int) - 4)) && true && true && decide ((IntKind.i64.wrap ((↑x.bs.length : Int) - 4)).toNat ≤ x.c) && decide (x.c ≤
  x.c) && true) (((IntKind.i64.wrap ((↑x.bs.length : Int) - 4)).toNat - 0 ≤ x.bs.length ∧ (IntKind.i64.wrap ((↑x.bs.length : Int) - 4)).toNat - 0 ≤ 9223372036854775807) ∧ [AV.sl 1 0 0 1 1 true] = [AV.sl 1 0 0 1 1 true] ∧ (some (bC (openC_c_p1 x)) = some (bC (openC_c_p1 x)) ∧ some (bR x.bs) = some (bR x.bs) ∧ True) ∧ (∀ (y : Unit), True → sp (sumB (List.take ((IntKind.i64.wrap ((↑x.bs.length : Int) - 4)).toNat - 0) x.bs) != bits BinOp.or IntKind.u32 (bits BinOp.or IntKind.u32 (bits BinOp.or IntKind.u32 (IntKind.u32.wrap (x.bs.getD (0 + (IntKind.i64.wrap ((↑x.bs.length : Int) - 4)).toNat + 0) 0)) (IntKind.u32.wrap (IntKind.u32.wrap (x.bs.getD (0 + (IntKind.i64.wrap (IntKind.i64.wrap ((↑x.bs.length : Int) - 4) + 1)).toNat + 0) 0) * 256))) (IntKind.u32.wrap (IntKind.u32.wrap (x.bs.getD (0 + (IntKind.i64.wrap (IntKind.i64.wrap ((↑x.bs.length : Int) - 4) + 2)).toNat + 0) 0) * 65536)))
  (IntKind.u32.wrap (IntKind.u32.wrap (x.bs.getD (0 + (IntKind.i64.wrap (IntKind.i64.wrap ((↑x.bs.length : Int) - 4) + 3)).toNat + 0) 0) * 16777216))) ((∃ (y : List Int), openN x.bs = OpenR.ok y ∧ [AV.tup [AV.nils, nI 292]] = [AV.tup [AV.sl 2 0 0 y.length y.length false, nI 0]] ∧ bR x.bs = bR x.bs ∧ False ∧ True) ∨ (∃ (y : List Int), openN x.bs = OpenR.no 290 ∧ [AV.tup [AV.nils, nI 292]] = [AV.tup [AV.nils, nI 290]] ∧ bR x.bs = bR x.bs ∧ True) ∨ ∃ (y : List Int), openN x.bs = OpenR.no 292 ∧ [AV.tup [AV.nils, nI 292]] = [AV.tup [AV.nils, nI 292]] ∧ bR x.bs = bR x.bs ∧ True) (sp (decide (0 ≤ IntKind.i64.wrap ((↑x.bs.length : Int) - 4)) && true && true && decide ((IntKind.i64.wrap ((↑x.bs.length : Int) - 4)).toNat ≤ x.c) && decide (x.c ≤ x.c) && true) (sp (decide (0 + ((IntKind.i64.wrap ((↑x.bs.length : Int) - 4)).toNat - 0) ≤ x.bs.length) && (decide ((0 + ((IntKind.i64.wrap ((↑x.bs.length :
  Int) - 4)).toNat - 0)) * 1 ≤ 140737488355328) && decide (0 + ((IntKind.i64.wrap ((↑x.bs.length : Int) - 4)).toNat - 0) ≤ 9223372036854775807))) ((∃ (y : List Int), openN x.bs = OpenR.ok y ∧ (openC_c_p0 x) = [AV.tup [AV.sl 3 0 0 y.length y.length false, nI 0]] ∧ bR x.bs = bR x.bs ∧ bW (([] ++ List.take ((IntKind.i64.wrap ((↑x.bs.length : Int) - 4)).toNat - 0) (List.drop 0 x.bs))) = bW y ∧ True) ∨ (∃ (y : List Int), openN x.bs = OpenR.no 290 ∧ (openC_c_p0 x) = [AV.tup [AV.nils, nI 290]] ∧ bR x.bs = bR x.bs ∧ True) ∨ ∃ (y : List Int), openN x.bs = OpenR.no 292 ∧ (openC_c_p0 x) = [AV.tup [AV.nils, nI 292]] ∧ bR x.bs = bR x.bs ∧ True) False) False)) ∧ True) False) False) False) False) False) False) False) False) False)
theorem openC_c_e (x : OpenX) : some (openC_c_V x) = (openC.cond sp Go.Proofs.Tryz.prog (drP sp Go.Proofs.Tryz.prog) noLoops (sumMC.orc sp) 40 2 x) := by kernel_rfl
theorem openC_ok : openC.OK Go.Proofs.Tryz.prog := by
  refine Con.by hmix (noLoops_ok _) (Con.orc_ok sumMC_ok) openC_c_V openC_c_e (fun x hx => ?_)
  have h1 : x.bs.length ≤ 140737488355328 := hx.1
  have h2 : x.bs.length ≤ x.c := hx.2
  unfold openC_c_V openC_c_p1 openC_c_p0
  refine spI (fun h => ?_) (fun h => ?_)
  · have h : x.bs.length < 4 := by have : (x.bs.length : Int) < 4 := by simpa using h
                                   omega
    exact .inr (.inl ⟨[], by simp [openN, h], rfl, rfl, trivial⟩)
  · have h : ¬ x.bs.length < 4 := by have : ¬ (x.bs.length : Int) < 4 := by simpa using h
                                     omega
    have w0 : IntKind.wrap .i64 ((x.bs.length : Int) - 4) = ((x.bs.length - 4 : Nat) : Int) := by rw [IntWalk.i64_in _ (by omega)]; omega
    have w1 : IntKind.wrap .i64 (((x.bs.length - 4 : Nat) : Int) + 1) = ((x.bs.length - 4 + 1 : Nat) : Int) := by rw [IntWalk.i64_in _ (by omega)]; omega
    have w2 : IntKind.wrap .i64 (((x.bs.length - 4 : Nat) : Int) + 2) = ((x.bs.length - 4 + 2 : Nat) : Int) := by rw [IntWalk.i64_in _ (by omega)]; omega
    have w3 : IntKind.wrap .i64 (((x.bs.length - 4 : Nat) : Int) + 3) = ((x.bs.length - 4 + 3 : Nat) : Int) := by rw [IntWalk.i64_in _ (by omega)]; omega
    simp only [w0, w1, w2, w3, Int.toNat_natCast, Nat.add_zero, Nat.zero_add, Nat.sub_zero]
    have ho : openN x.bs = if sumB (x.bs.take (x.bs.length - 4)) ≠ le32 (x.bs.getD (x.bs.length - 4) 0) (x.bs.getD (x.bs.length - 4 + 1) 0) (x.bs.getD (x.bs.length - 4 + 2) 0) (x.bs.getD (x.bs.length - 4 + 3) 0) then .no 292 else .ok (x.bs.take (x.bs.length - 4)) := by
      unfold openN; rw [if_neg h]
    generalize x.bs.getD (x.bs.length - 4) 0 = a0 at *
    generalize x.bs.getD (x.bs.length - 4 + 1) 0 = a1 at *
    generalize x.bs.getD (x.bs.length - 4 + 2) 0 = a2 at *
    generalize x.bs.getD (x.bs.length - 4 + 3) 0 = a3 at *
    clear w0 w1 w2 w3
    have k0 : (x.bs.length : Int) = ((x.bs.length - 4 : Nat) : Int) + 4 := by omega
    have kx : x.bs.length = (x.bs.length - 4) + 4 := by omega
    refine spI (fun _ => ?_) (fun h => by simp at h; omega)
    refine spI (fun _ => ?_) (fun h => by simp at h; omega)
    refine spI (fun _ => ?_) (fun h => by simp at h; omega)
    refine spI (fun _ => ?_) (fun h => by simp at h; omega)
    refine spI (fun _ => ?_) (fun h => by simp at h; omega)
    refine spI (fun _ => ?_) (fun h => by simp at h; omega)
    refine spI (fun _ => ?_) (fun h => by simp at h; omega)
    refine spI (fun _ => ?_) (fun h => by simp at h; omega)
    refine spI (fun _ => ?_) (fun h => by simp at h; omega)
    refine ⟨⟨by omega, by omega⟩, by simp, by simp, fun y hy => ?_, trivial⟩
    refine spI (fun h => ?_) (fun h => ?_)
    · have h : sumB (x.bs.take (x.bs.length - 4)) ≠ le32 a0 a1 a2 a3 := by simpa [le32] using h
      rw [if_pos h] at ho
      exact .inr (.inr ⟨[], ho, by simp, by simp⟩)
    · have h : ¬ sumB (x.bs.take (x.bs.length - 4)) ≠ le32 a0 a1 a2 a3 := by simpa [le32] using h
      rw [if_neg h] at ho
      refine spI (fun _ => ?_) (fun h => by simp at h; omega)
      refine spI (fun _ => ?_) (fun h => by simp at h; omega)
      refine .inl ⟨_, ho, by simp, by simp⟩
end Go.Proofs.YtmbcpmbpkdeioaaGreatDoor.W
/- A guest's fields laid: what is reckoned, and the loops' states. No condition. -/
namespace Go.Proofs.YtmbcpmbpkdeioaaGreatDoor.W
open Go Go.RowKit Go.Eng
set_option maxRecDepth 100000
set_option linter.unusedVariables false
set_option linter.unusedSimpArgs false
structure St where
  r0 : Int
  r1 : Int
  r2 : Int
  r3 : Int
  r4 : Int
  r5 : Int
  r6 : Int
  r7 : Int
  pc : Int
  ps : Int
  c0 : Int
  c1 : Int
  c2 : Int
  c3 : Int
  c4 : Int
  c5 : Int
  c6 : Int
  c7 : Int
  h : Bool
def St.av (s : St) : List AV := [.int .u32 (s.r0), .int .u32 (s.r1), .int .u32 (s.r2), .int .u32 (s.r3), .int .u32 (s.r4), .int .u32 (s.r5), .int .u32 (s.r6), .int .u32 (s.r7), .int .u32 s.pc, .int .u32 s.ps,
  .int .u32 (s.c0), .int .u32 (s.c1), .int .u32 (s.c2), .int .u32 (s.c3), .int .u32 (s.c4), .int .u32 (s.c5), .int .u32 (s.c6), .int .u32 (s.c7), .bool s.h]
end Go.Proofs.YtmbcpmbpkdeioaaGreatDoor.W
/- A guest's fields laid: the walks. No condition. -/
namespace Go.Proofs.YtmbcpmbpkdeioaaGreatDoor.W
open Go Go.RowKit Go.Eng
set_option maxRecDepth 100000
set_option linter.unusedVariables false
set_option linter.unusedSimpArgs false
end Go.Proofs.YtmbcpmbpkdeioaaGreatDoor.W
/- A guest's state laid: what is asked. No condition. -/
namespace Go.Proofs.YtmbcpmbpkdeioaaGreatDoor.W
open Go Go.RowKit Go.Eng
set_option maxRecDepth 100000
set_option linter.unusedVariables false
set_option linter.unusedSimpArgs false
def stOf : List AV → Option St
  | [.int _ r0, .int _ r1, .int _ r2, .int _ r3, .int _ r4, .int _ r5, .int _ r6, .int _ r7, .int _ pc, .int _ ps, .int _ c0, .int _ c1, .int _ c2, .int _ c3, .int _ c4, .int _ c5, .int _ c6, .int _ c7, .bool h] => some ⟨r0, r1, r2, r3, r4, r5, r6, r7, pc, ps, c0, c1, c2, c3, c4, c5, c6, c7, h⟩
  | _ => none
end Go.Proofs.YtmbcpmbpkdeioaaGreatDoor.W
/- A guest's state laid: the walk. No condition. -/
namespace Go.Proofs.YtmbcpmbpkdeioaaGreatDoor.W
open Go Go.RowKit Go.Eng
set_option maxRecDepth 100000
set_option linter.unusedVariables false
set_option linter.unusedSimpArgs false
end Go.Proofs.YtmbcpmbpkdeioaaGreatDoor.W
/- A guest's state laid: the walk, whole. No condition. -/
namespace Go.Proofs.YtmbcpmbpkdeioaaGreatDoor.W
open Go Go.RowKit Go.Eng
set_option maxRecDepth 100000
set_option linter.unusedVariables false
set_option linter.unusedSimpArgs false
end Go.Proofs.YtmbcpmbpkdeioaaGreatDoor.W
/- A machine of a saved guest: what is reckoned, and the loops' states. No condition. -/
namespace Go.Proofs.YtmbcpmbpkdeioaaGreatDoor.W
open Go Go.RowKit Go.Eng
set_option maxRecDepth 100000
set_option linter.unusedVariables false
set_option linter.unusedSimpArgs false
/-- Rows of notes, and of events, of the call's; each may be nil. -/
structure NRow where
  n : Nat
  c : Nat
  at_ : Nat → Int
  cause : Nat → Int
  back : Nat → Int
  addr : Nat → Int
structure ERow where
  n : Nat
  c : Nat
  at_ : Nat → Int
  kind : Nat → Int
  byte : Nat → Int
def NRow.f (r : NRow) (i : Nat) : List AV := [.int .i64 (r.at_ i), .int .i64 (r.cause i), .int .u32 (r.back i), .int .u32 (r.addr i)]
def ERow.f (r : ERow) (i : Nat) : List AV := [.int .i64 (r.at_ i), .int .i64 (r.kind i), .int .u8 (r.byte i)]
def NRow.av (b : Nat) (r : NRow) : AV := .msl b 0 0 r.n r.c
def ERow.av (b : Nat) (r : ERow) : AV := .msl b 0 0 r.n r.c
def NRow.blk (r : NRow) : ABlk := ⟨false, 4, .recs r.n r.f⟩
def ERow.blk (r : ERow) : ABlk := ⟨false, 3, .recs r.n r.f⟩
def numAt (l : List AV) (j : Nat) : Int := match l.getD j .any with
  | .int _ n => n
  | _ => 0
def rowOf (H : AH) (b c : Nat) : Option Row := match H.get b with
  | some k => match k.c with
    | .ints _ l => some ⟨l, c⟩
    | _ => none
  | none => none
def nrowOf (H : AH) (b c : Nat) : Option NRow := match H.get b with
  | some k => match k.c with
    | .recs n f => some ⟨n, c, fun i => numAt (f i) 0, fun i => numAt (f i) 1, fun i => numAt (f i) 2, fun i => numAt (f i) 3⟩
    | _ => none
  | none => none
def erowOf (H : AH) (b c : Nat) : Option ERow := match H.get b with
  | some k => match k.c with
    | .recs n f => some ⟨n, c, fun i => numAt (f i) 0, fun i => numAt (f i) 1, fun i => numAt (f i) 2⟩
    | _ => none
  | none => none
/-- A saved guest. -/
structure Sv where
  fr : Int
  mem : Row
  s : St
  steps : Int
  notes : NRow
  out : Row
  disk : Row
  queue : Row
  script : ERow
  b1 : Int
  b2 : Int
  b3 : Int
  b4 : Int
  b5 : Int
  b6 : Int
  b7 : Int
  b8 : Int
def Sv.av (x : Sv) : List AV := [.int .i64 x.fr, x.mem.av 0,
  .int .u32 x.s.r0, .int .u32 x.s.r1, .int .u32 x.s.r2, .int .u32 x.s.r3, .int .u32 x.s.r4, .int .u32 x.s.r5, .int .u32 x.s.r6, .int .u32 x.s.r7, .int .u32 x.s.pc, .int .u32 x.s.ps,
  .int .u32 x.s.c0, .int .u32 x.s.c1, .int .u32 x.s.c2, .int .u32 x.s.c3, .int .u32 x.s.c4, .int .u32 x.s.c5, .int .u32 x.s.c6, .int .u32 x.s.c7, .bool x.s.h,
  .int .i64 x.steps, x.notes.av 1, x.out.av 2, x.disk.av 3, x.queue.av 4, x.script.av 5,
  .int .u32 x.b1, .int .u32 x.b2, .int .u32 x.b3, .int .u32 x.b4, .int .u32 x.b5, .int .u32 x.b6, .int .u32 x.b7, .int .u32 x.b8]
def Sv.L (x : Sv) : LH := [(0, x.mem.blk), (1, x.notes.blk), (2, x.out.blk), (3, x.disk.blk), (4, x.queue.blk), (5, x.script.blk)]
/-- What is told of a guest by value. -/
def svOf (H : AH) : List AV → Option (List Nat × Sv)
  | .int _ fr :: .msl m0 _ _ _ c0 :: .int _ r0 :: .int _ r1 :: .int _ r2 :: .int _ r3 :: .int _ r4 :: .int _ r5 :: .int _ r6 :: .int _ r7 :: .int _ pc :: .int _ ps :: .int _ d0 :: .int _ d1 :: .int _ d2 :: .int _ d3 :: .int _ d4 :: .int _ d5 :: .int _ d6 :: .int _ d7 :: .bool h :: .int _ steps :: .msl m1 _ _ _ c1 :: .msl m2 _ _ _ c2 :: .msl m3 _ _ _ c3 :: .msl m4 _ _ _ c4 :: .msl m5 _ _ _ c5 :: l =>
    match l with
    | [.int _ b1, .int _ b2, .int _ b3, .int _ b4, .int _ b5, .int _ b6, .int _ b7, .int _ b8] => match rowOf H m0 c0, nrowOf H m1 c1, rowOf H m2 c2, rowOf H m3 c3, rowOf H m4 c4, erowOf H m5 c5 with
      | some l0, some l1, some l2, some l3, some l4, some l5 => some ([m0, m1, m2, m3, m4, m5], ⟨fr, l0, ⟨r0, r1, r2, r3, r4, r5, r6, r7, pc, ps, d0, d1, d2, d3, d4, d5, d6, d7, h⟩, steps, l1, l2, l3, l4, l5, b1, b2, b3, b4, b5, b6, b7, b8⟩)
      | _, _, _, _, _, _ => none
    | _ => none
  | _ => none
def svFit (vs : List AV) (H : AH) : Option (List Nat × Sv) := match vs with
  | [.agg cs] => svOf H cs
  | _ => none
/-! ### whether it fits -/
def fitsN (x : Sv) : Bool := decide (x.fr ≥ 1) && decide (x.fr ≤ 64) && ((x.mem.bs.length : Int) == IntKind.wrap .i64 (x.fr * 64)) && (bits .andNot .u32 x.s.ps 247 == 0) && decide (x.steps ≥ 0) && decide (x.steps ≤ 1099511627776)
def fitsC : Con Sv Unit where
  f := F_machine_fits
  fit := svFit
  n0 := 6
  pre _ := True
  args x := [.agg x.av]
  L0 x := x.L
  outs x := [(fun _ => True, fun _ => (.ret (.bool (fitsN x)), 6, x.L))]
def orderedN (x : Sv) : Bool := bif x.b5 == 1 then x.b6 == 1 || x.b6 == 2 else decide (x.b5 ≤ 2) && (x.b6 == 0) && (x.b7 == 0) && (x.b8 == 0)
def orderedC : Con Sv Unit where
  f := F_dev_ordered
  fit := svFit
  n0 := 6
  pre _ := True
  args x := [.agg x.av]
  L0 x := x.L
  outs x := [(fun _ => True, fun _ => (.ret (.bool (orderedN x)), 6, x.L))]
structure EvX where
  a : Int
  k : Int
  b : Int
def mayN (x : EvX) : Bool := decide (x.k ≥ 0) && decide (x.k ≤ 2) && decide (x.a ≥ 0) && decide (x.a ≤ 1073741824) && (x.k == 1 || x.b == 0)
def evC : Con EvX Unit where
  f := F_dev_may
  fit vs H := match vs with
    | [.agg [.int _ a, .int _ k, .int _ b]] => some ([], ⟨a, k, b⟩)
    | _ => none
  n0 := 0
  pre _ := True
  args x := [.agg [.int .i64 x.a, .int .i64 x.k, .int .u8 x.b]]
  L0 _ := []
  outs x := [(fun _ => True, fun _ => (.ret (.bool (mayN x)), 0, []))]
/-! ### copies of rows -/
def cloneS : Con Row Unit where
  f := F_slices_Clone_byte_byte
  fit _ _ := none
  n0 := 1
  pre r := r.bs.length ≤ 140737488351232 ∧ r.bs.length ≤ r.c
  args r := [.sl 0 0 0 r.bs.length r.c true]
  L0 r := [(0, r.blk)]
  outs r := [(fun _ => True, fun _ => (.ret (.sl 1 0 0 r.bs.length r.bs.length false), 2, [(0, r.blk)]))]
def cloneZ : Con Row Unit where
  f := F_slices_Clone_byte_byte
  fit _ _ := none
  n0 := 1
  pre _ := True
  args _ := [.nils]
  L0 r := [(0, r.blk)]
  outs r := [(fun _ => True, fun _ => (.ret .nils, 2, [(0, r.blk)]))]
def cloneC : Con Row Unit where
  f := F_slices_Clone_byte_byte
  fit vs H := match vs with
    | [.msl b _ _ _ c] => (rowOf H b c).map fun r => ([b], r)
    | _ => none
  n0 := 1
  pre r := r.bs.length ≤ 140737488351232 ∧ r.bs.length ≤ r.c
  args r := [r.av 0]
  L0 r := [(0, r.blk)]
  outs r := [(fun _ => True, fun _ => (.ret (.msl 1 0 0 r.bs.length r.bs.length), 2, [(0, r.blk)]))]
def eclS : Con ERow Unit where
  f := F_slices_Clone_api_Event_api_Event
  fit _ _ := none
  n0 := 1
  pre r := r.n ≤ 100000000 ∧ r.n ≤ r.c
  args r := [.sl 0 0 0 r.n r.c true]
  L0 r := [(0, r.blk)]
  outs r := [(fun _ => True, fun _ => (.ret (.sl 1 0 0 r.n r.n false), 2, [(0, r.blk)]))]
def eclZ : Con ERow Unit where
  f := F_slices_Clone_api_Event_api_Event
  fit _ _ := none
  n0 := 1
  pre _ := True
  args _ := [.nils]
  L0 r := [(0, r.blk)]
  outs r := [(fun _ => True, fun _ => (.ret .nils, 2, [(0, r.blk)]))]
def eclC : Con ERow Unit where
  f := F_slices_Clone_api_Event_api_Event
  fit vs H := match vs with
    | [.msl b _ _ _ c] => (erowOf H b c).map fun r => ([b], r)
    | _ => none
  n0 := 1
  pre r := r.n ≤ 100000000 ∧ r.n ≤ r.c
  args r := [r.av 0]
  L0 r := [(0, r.blk)]
  outs r := [(fun _ => True, fun _ => (.ret (.msl 1 0 0 r.n r.n), 2, [(0, r.blk)]))]
end Go.Proofs.YtmbcpmbpkdeioaaGreatDoor.W
/- A machine of a saved guest: the walks of what asks of it. No condition. -/
namespace Go.Proofs.YtmbcpmbpkdeioaaGreatDoor.W
open Go Go.RowKit Go.Eng
set_option maxRecDepth 100000
set_option linter.unusedVariables false
set_option linter.unusedSimpArgs false
abbrev fitsC_c_p1 (x : Sv) (i : Nat) : List AV :=
  [nI (x.notes.at_ i), nI (x.notes.cause i), nU (x.notes.back i), nU (x.notes.addr i)]
abbrev fitsC_c_p0 (x : Sv) : Prop :=
  ∃ (y : Unit), True ∧ [AV.bool false] = [AV.bool (fitsN x)] ∧ bR x.mem.bs = bR x.mem.bs ∧ (false = false ∧ 4 = 4 ∧ x.notes.n = x.notes.n ∧ ∀ (i : Nat), i < x.notes.n → (fitsC_c_p1 x i) = (fitsC_c_p1 x i)) ∧ bR x.out.bs = bR x.out.bs ∧ bR x.disk.bs = bR x.disk.bs ∧ bR x.queue.bs = bR x.queue.bs ∧ (false = false ∧ 3 = 3 ∧ x.script.n = x.script.n ∧ ∀ (i : Nat), i < x.script.n → [nI (x.script.at_ i), nI (x.script.kind i), nB (x.script.byte i)] = [nI (x.script.at_ i), nI (x.script.kind i), nB (x.script.byte i)]) ∧ True
def fitsC_c_V (x : Sv) : Prop :=
  sp (decide (x.fr ≥ 1)) (sp (bif true then decide (x.fr ≤ 64) else false) (sp (bif true then (↑x.mem.bs.length : Int) == IntKind.i64.wrap (x.fr * 64) else false) (sp (bif true then bits BinOp.andNot IntKind.u32 x.s.ps 247 == 0 else false) (sp (bif true then decide (x.steps ≥ 0) else false) (∃ (y : Unit), True ∧ [AV.bool (bif true then decide (x.steps ≤ 1099511627776) else false)] = [AV.bool (fitsN x)] ∧ bR x.mem.bs = bR x.mem.bs ∧ (false = false ∧ 4 = 4 ∧ x.notes.n = x.notes.n ∧ ∀ (i : Nat), i < x.notes.n → (fitsC_c_p1 x i) = (fitsC_c_p1 x i)) ∧ bR x.out.bs = bR x.out.bs ∧ bR x.disk.bs = bR x.disk.bs ∧ bR x.queue.bs = bR x.queue.bs ∧ (false = false ∧ 3 = 3 ∧ x.script.n = x.script.n ∧ ∀ (i : Nat), i < x.script.n → [nI (x.script.at_ i), nI (x.script.kind i), nB (x.script.byte i)] = [nI (x.script.at_ i), nI (x.script.kind i), nB (x.script.byte i)]) ∧ True) (fitsC_c_p0 x)) (fitsC_c_p0 x))
  (fitsC_c_p0 x)) (fitsC_c_p0 x)) (fitsC_c_p0 x)
theorem fitsC_c_e (x : Sv) : some (fitsC_c_V x) = (fitsC.cond sp Go.Proofs.Tryz.prog (drP sp Go.Proofs.Tryz.prog) noLoops noBaseK 40 2 x) := by kernel_rfl
theorem fitsC_ok : fitsC.OK Go.Proofs.Tryz.prog := by
  refine Con.by hmix (noLoops_ok _) (noBaseK_ok _) fitsC_c_V fitsC_c_e (fun x _ => ?_)
  unfold fitsC_c_V fitsC_c_p0 fitsC_c_p1
  refine spI (fun h1 => spI (fun h2 => spI (fun h3 => spI (fun h4 => spI (fun h5 => ?_) (fun h5 => ?_)) (fun h4 => ?_)) (fun h3 => ?_)) (fun h2 => ?_)) (fun h1 => ?_)
  all_goals
    simp only [cond_true] at *
    simp [fitsN, *]
abbrev orderedC_c_p1 (x : Sv) : Prop :=
  false = false ∧ 4 = 4 ∧ x.notes.n = x.notes.n ∧ ∀ (i : Nat), i < x.notes.n → [nI (x.notes.at_ i), nI (x.notes.cause i), nU (x.notes.back i), nU (x.notes.addr i)] = [nI (x.notes.at_ i), nI (x.notes.cause i), nU (x.notes.back i), nU (x.notes.addr i)]
abbrev orderedC_c_p2 (x : Sv) : Prop :=
  false = false ∧ 3 = 3 ∧ x.script.n = x.script.n ∧ ∀ (i : Nat), i < x.script.n → [nI (x.script.at_ i), nI (x.script.kind i), nB (x.script.byte i)] = [nI (x.script.at_ i), nI (x.script.kind i), nB (x.script.byte i)]
abbrev orderedC_c_p0 (x : Sv) : Prop :=
  ∃ (y : Unit), True ∧ [AV.bool false] = [AV.bool (orderedN x)] ∧ bR x.mem.bs = bR x.mem.bs ∧ (orderedC_c_p1 x) ∧ bR x.out.bs = bR x.out.bs ∧ bR x.disk.bs = bR x.disk.bs ∧ bR x.queue.bs = bR x.queue.bs ∧ (orderedC_c_p2 x) ∧ True
def orderedC_c_V (x : Sv) : Prop :=
  sp (x.b5 == 1) (sp (x.b6 == 1) (∃ (y : Unit), True ∧ [AV.bool true] = [AV.bool (orderedN x)] ∧ bR x.mem.bs = bR x.mem.bs ∧ (orderedC_c_p1 x) ∧ bR x.out.bs = bR x.out.bs ∧ bR x.disk.bs = bR x.disk.bs ∧ bR x.queue.bs = bR x.queue.bs ∧ (orderedC_c_p2 x) ∧ True) (∃ (y : Unit), True ∧ [AV.bool (bif false then true else x.b6 == 2)] = [AV.bool (orderedN x)] ∧ bR x.mem.bs = bR x.mem.bs ∧ (orderedC_c_p1 x) ∧ bR x.out.bs = bR x.out.bs ∧ bR x.disk.bs = bR x.disk.bs ∧ bR x.queue.bs = bR x.queue.bs ∧ (orderedC_c_p2 x) ∧ True)) (sp (decide (x.b5 ≤ 2)) (sp (bif true then x.b6 == 0 else false) (sp (bif true then x.b7 == 0 else false) (∃ (y : Unit), True ∧ [AV.bool (bif true then x.b8 == 0 else false)] = [AV.bool (orderedN x)] ∧ bR x.mem.bs = bR x.mem.bs ∧ (orderedC_c_p1 x) ∧ bR x.out.bs = bR x.out.bs ∧ bR x.disk.bs = bR x.disk.bs ∧ bR x.queue.bs = bR x.queue.bs ∧ (orderedC_c_p2 x) ∧ True) (orderedC_c_p0
  x)) (orderedC_c_p0 x)) (orderedC_c_p0 x))
theorem orderedC_c_e (x : Sv) : some (orderedC_c_V x) = (orderedC.cond sp Go.Proofs.Tryz.prog (drP sp Go.Proofs.Tryz.prog) noLoops noBaseK 40 2 x) := by kernel_rfl
theorem orderedC_ok : orderedC.OK Go.Proofs.Tryz.prog := by
  refine Con.by hmix (noLoops_ok _) (noBaseK_ok _) orderedC_c_V orderedC_c_e (fun x _ => ?_)
  unfold orderedC_c_V orderedC_c_p0 orderedC_c_p2 orderedC_c_p1
  refine spI (fun h1 => spI (fun h2 => ?_) (fun h2 => ?_)) (fun h1 => spI (fun h2 => spI (fun h3 => spI (fun h4 => ?_) (fun h4 => ?_)) (fun h3 => ?_)) (fun h2 => ?_))
  all_goals
    simp only [cond_true, cond_false] at *
    simp [orderedN, *]
def evC_c_V (x : EvX) : Prop :=
  sp (decide (x.k ≥ 0)) (sp (bif true then decide (x.k ≤ 2) else false) (sp (bif true then decide (x.a ≥ 0) else false) (sp (bif true then decide (x.a ≤ 1073741824) else false) (sp (x.k == 1) (∃ (y : Unit), True ∧ [AV.bool true] = [AV.bool (mayN x)] ∧ True) (∃ (y : Unit), True ∧ [AV.bool (bif true then bif false then true else x.b == 0 else false)] = [AV.bool (mayN x)] ∧ True)) (∃ (y : Unit), True ∧ [AV.bool false] = [AV.bool (mayN x)] ∧ True)) (∃ (y : Unit), True ∧ [AV.bool false] = [AV.bool (mayN x)] ∧ True)) (∃ (y : Unit), True ∧ [AV.bool false] = [AV.bool (mayN x)] ∧ True)) (∃ (y : Unit), True ∧ [AV.bool false] = [AV.bool (mayN x)] ∧ True)
theorem evC_c_e (x : EvX) : some (evC_c_V x) = (evC.cond sp Go.Proofs.Tryz.prog (drP sp Go.Proofs.Tryz.prog) noLoops noBaseK 40 2 x) := by kernel_rfl
theorem evC_ok : evC.OK Go.Proofs.Tryz.prog := by
  refine Con.by hmix (noLoops_ok _) (noBaseK_ok _) evC_c_V evC_c_e (fun x _ => ?_)
  unfold evC_c_V
  repeat' refine spI (fun _ => ?_) (fun _ => ?_)
  all_goals
    try simp only [cond_true, cond_false] at *
    simp [mayN, *]
def cloneS_c_V (r : Row) : Prop :=
  sp (decide (0 + r.bs.length ≤ r.bs.length) && (decide ((0 + r.bs.length) * 1 ≤ 140737488355328) && decide (0 + r.bs.length ≤ 9223372036854775807))) (∃ (y : Unit), True ∧ [AV.sl 2 0 0 (0 + r.bs.length) (0 + r.bs.length) false] = [AV.sl 2 0 0 r.bs.length r.bs.length false] ∧ bR r.bs = bR r.bs ∧ True) False
theorem cloneS_c_e (r : Row) : some (cloneS_c_V r) = (cloneS.cond sp Go.Proofs.Tryz.prog (drP sp Go.Proofs.Tryz.prog) noLoops noBaseK 40 2 r) := by kernel_rfl
theorem cloneS_ok : cloneS.OK Go.Proofs.Tryz.prog := by
  refine Con.by hmix (noLoops_ok _) (noBaseK_ok _) cloneS_c_V cloneS_c_e (fun r hr => ?_)
  have h1 : r.bs.length ≤ 140737488351232 := hr.1
  have h2 : r.bs.length ≤ 140737488355328 := by omega
  have h3 : r.bs.length ≤ 9223372036854775807 := by omega
  simp [cloneS_c_V, sp, h2, h3]
def cloneZ_c_V (r : Row) : Prop :=
  ∃ (y : Unit), True ∧ [AV.nils] = [AV.nils] ∧ bR r.bs = bR r.bs ∧ True
theorem cloneZ_c_e (r : Row) : some (cloneZ_c_V r) = (cloneZ.cond sp Go.Proofs.Tryz.prog (drP sp Go.Proofs.Tryz.prog) noLoops noBaseK 40 2 r) := by kernel_rfl
theorem cloneZ_ok : cloneZ.OK Go.Proofs.Tryz.prog := by
  refine Con.by hmix (noLoops_ok _) (noBaseK_ok _) cloneZ_c_V cloneZ_c_e (fun r hr => ?_)
  simp [cloneZ_c_V]
theorem cloneC_ok : cloneC.OK Go.Proofs.Tryz.prog := by
  intro r hr μ w vs hv s
  have h1 : r.bs.length ≤ 140737488351232 := hr.1
  have h2 : r.bs.length ≤ r.c := hr.2
  obtain ⟨v, vs', hv1⟩ : ∃ v, vs.toList = [v] ∧ VRel μ (r.av 0) v := by
    match hq : vs.toList, hv with
    | [v], h => exact ⟨v, rfl, h.1⟩
    | [], h => exact h.elim
    | _ :: _ :: _, h => exact h.2.elim
  rcases hv1 with ⟨hn, h0, hc⟩ | ⟨l, A, c', g1, g2, g3, g4, g6⟩
  · refine Calls.mono (cloneZ_ok r trivial μ w vs (by rw [vs']; exact ⟨hn, trivial⟩) s) (fun e w' hq => ?_)
    obtain ⟨out, H', μ', q1, q2, q3, q4⟩ := hq
    rcases q1 with ⟨y, _, rfl, rfl⟩ | q1
    · obtain ⟨x, rfl, hx⟩ := q2
      exact ⟨_, _, μ', .inl ⟨(), trivial, rfl, rfl⟩, ⟨x, rfl, .inl ⟨hx, h0, h0⟩⟩, q3, q4⟩
    · exact q1.elim
  · refine Calls.mono (cloneS_ok { r with c := c' } ⟨h1, by show r.bs.length ≤ c'; omega⟩ μ w vs (by rw [vs']; exact ⟨⟨l, A, c', g1, g2, Nat.le_trans h2 g4, Nat.le_refl _, fun _ => rfl, g6, fun e => by cases e⟩, trivial⟩) s) (fun e w' hq => ?_)
    obtain ⟨out, H', μ', q1, q2, q3, q4⟩ := hq
    rcases q1 with ⟨y, _, rfl, rfl⟩ | q1
    · obtain ⟨x, rfl, l2, A2, c2, k1, k2, k3, k4, k5, k6, k7⟩ := q2
      exact ⟨_, _, μ', .inl ⟨(), trivial, rfl, rfl⟩, ⟨x, rfl, .inr ⟨l2, A2, c2, k1, k2, k3, k4, k6⟩⟩, q3, q4⟩
    · exact q1.elim
def eclS_c_V (r : ERow) : Prop :=
  sp (decide (0 + r.n ≤ r.n) && (decide ((0 + r.n) * 24 ≤ 140737488355328) && decide (0 + r.n ≤ 9223372036854775807))) (∃ (y : Unit), True ∧ [AV.sl 2 0 0 (0 + r.n) (0 + r.n) false] = [AV.sl 2 0 0 r.n r.n false] ∧ (false = false ∧ 3 = 3 ∧ r.n = r.n ∧ ∀ (i : Nat), i < r.n → [nI (r.at_ i), nI (r.kind i), nB (r.byte i)] = [nI (r.at_ i), nI (r.kind i), nB (r.byte i)]) ∧ True) False
theorem eclS_c_e (r : ERow) : some (eclS_c_V r) = (eclS.cond sp Go.Proofs.Tryz.prog (drP sp Go.Proofs.Tryz.prog) noLoops noBaseK 40 2 r) := by kernel_rfl
theorem eclS_ok : eclS.OK Go.Proofs.Tryz.prog := by
  refine Con.by hmix (noLoops_ok _) (noBaseK_ok _) eclS_c_V eclS_c_e (fun r hr => ?_)
  have h1 : r.n ≤ 100000000 := hr.1
  have h2 : r.n * 24 ≤ 140737488355328 := by omega
  have h3 : r.n ≤ 9223372036854775807 := by omega
  simp [eclS_c_V, sp, h2, h3]
def eclZ_c_V (r : ERow) : Prop :=
  ∃ (y : Unit), True ∧ [AV.nils] = [AV.nils] ∧ (false = false ∧ 3 = 3 ∧ r.n = r.n ∧ ∀ (i : Nat), i < r.n → [nI (r.at_ i), nI (r.kind i), nB (r.byte i)] = [nI (r.at_ i), nI (r.kind i), nB (r.byte i)]) ∧ True
theorem eclZ_c_e (r : ERow) : some (eclZ_c_V r) = (eclZ.cond sp Go.Proofs.Tryz.prog (drP sp Go.Proofs.Tryz.prog) noLoops noBaseK 40 2 r) := by kernel_rfl
theorem eclZ_ok : eclZ.OK Go.Proofs.Tryz.prog := by
  refine Con.by hmix (noLoops_ok _) (noBaseK_ok _) eclZ_c_V eclZ_c_e (fun r hr => ?_)
  simp [eclZ_c_V]
theorem eclC_ok : eclC.OK Go.Proofs.Tryz.prog := by
  intro r hr μ w vs hv s
  have h1 : r.n ≤ 100000000 := hr.1
  have h2 : r.n ≤ r.c := hr.2
  obtain ⟨v, vs', hv1⟩ : ∃ v, vs.toList = [v] ∧ VRel μ (r.av 0) v := by
    match hq : vs.toList, hv with
    | [v], h => exact ⟨v, rfl, h.1⟩
    | [], h => exact h.elim
    | _ :: _ :: _, h => exact h.2.elim
  rcases hv1 with ⟨hn, h0, hc⟩ | ⟨l, A, c', g1, g2, g3, g4, g6⟩
  · refine Calls.mono (eclZ_ok r trivial μ w vs (by rw [vs']; exact ⟨hn, trivial⟩) s) (fun e w' hq => ?_)
    obtain ⟨out, H', μ', q1, q2, q3, q4⟩ := hq
    rcases q1 with ⟨y, _, rfl, rfl⟩ | q1
    · obtain ⟨x, rfl, hx⟩ := q2
      exact ⟨_, _, μ', .inl ⟨(), trivial, rfl, rfl⟩, ⟨x, rfl, .inl ⟨hx, h0, h0⟩⟩, q3, q4⟩
    · exact q1.elim
  · refine Calls.mono (eclS_ok { r with c := c' } ⟨h1, by show r.n ≤ c'; omega⟩ μ w vs (by rw [vs']; exact ⟨⟨l, A, c', g1, g2, Nat.le_trans h2 g4, Nat.le_refl _, fun _ => rfl, g6, fun e => by cases e⟩, trivial⟩) s) (fun e w' hq => ?_)
    obtain ⟨out, H', μ', q1, q2, q3, q4⟩ := hq
    rcases q1 with ⟨y, _, rfl, rfl⟩ | q1
    · obtain ⟨x, rfl, l2, A2, c2, k1, k2, k3, k4, k5, k6, k7⟩ := q2
      exact ⟨_, _, μ', .inl ⟨(), trivial, rfl, rfl⟩, ⟨x, rfl, .inr ⟨l2, A2, c2, k1, k2, k3, k4, k6⟩⟩, q3, q4⟩
    · exact q1.elim
end Go.Proofs.YtmbcpmbpkdeioaaGreatDoor.W
/- Devices of a saved guest: what is reckoned, and the loops' states. No condition. -/
namespace Go.Proofs.YtmbcpmbpkdeioaaGreatDoor.W
open Go Go.RowKit Go.Eng
set_option maxRecDepth 100000
set_option linter.unusedVariables false
set_option linter.unusedSimpArgs false
/-! ### a disk -/
def z7 (v : AV) : List AV := [v, .int .u32 0, .int .u32 0, .int .u32 0, .int .u32 0, .int .u32 0, .int .u32 0]
structure LdI where
  r : Row
  k : Nat
  g : Nat → List AV
  s : Bool
def laidL (P : Program) : Lp LdI where
  B := 1
  n := ntmpsOf P F_dev_laid
  code := loopOf P F_dev_laid 0
  fit s H := match s.get 0 with
    | .msl b _ _ _ c => (rowOf H b c).map fun r => ⟨r, 0, fun _ => [.nils], false⟩
    | _ => none
  pre i := 64 * i.k ≤ i.r.bs.length ∧ i.r.bs.length ≤ 100000000 ∧ i.r.bs.length ≤ i.r.c ∧ (i.s = true → 1 ≤ i.k ∧ ∀ σ n, AV.rens σ (i.g n) = i.g n) ∧ (i.s = false → i.k = 0)
  slots i := [(0, .msl 0 (64 * i.k) 0 (i.r.bs.length - 64 * i.k) (i.r.c - 64 * i.k)), (2, .ptr 1 0 0), (3, .ptr 2 0 0)]
  nx i := 4
  L i := bif i.s then [(0, i.r.blk), (1, ⟨true, 7, .cells (z7 .nils)⟩), (2, ⟨true, 7, .cells (z7 (.sl 3 0 0 i.k i.k false))⟩), (3, ⟨true, 64, .recs i.k i.g⟩)] else [(0, i.r.blk), (1, ⟨true, 7, .cells (z7 .nils)⟩), (2, ⟨true, 7, .cells (z7 .nils)⟩)]
  m i := i.r.bs.length - i.k
  outs i := [(decide (i.r.bs.length < 64), ⟨.exit 0, [(2, .ptr 1 0 0), (3, .ptr 2 0 0)], 4, [(0, i.r.blk), (1, ⟨true, 7, .cells (z7 .nils)⟩), (2, ⟨true, 7, .cells (z7 .nils)⟩)]⟩),
    (true, ⟨.exit 0, [(2, .ptr 1 0 0), (3, .ptr 2 0 0)], 4, [(0, i.r.blk), (1, ⟨true, 7, .cells (z7 .nils)⟩), (2, ⟨true, 7, .cells (z7 (.sl 3 0 0 (i.r.bs.length / 64) (i.r.bs.length / 64) false))⟩)]⟩)]
  sh j := { j with s := true }
def laidC : Con Row Unit where
  f := F_dev_laid
  fit vs H := match vs with
    | [.msl b _ _ _ c] => (rowOf H b c).map fun r => ([b], r)
    | _ => none
  n0 := 1
  pre r := r.bs.length ≤ 100000000 ∧ r.bs.length ≤ r.c
  args r := [r.av 0]
  L0 r := [(0, r.blk)]
  outs r := [(fun _ => decide (r.bs.length < 64) = true, fun _ => (.ret (.agg (z7 .nils)), 4, [(0, r.blk)])), (fun _ => decide (r.bs.length < 64) = false, fun _ => (.ret (.agg (z7 (.sl 3 0 0 (r.bs.length / 64) (r.bs.length / 64) false))), 4, [(0, r.blk)]))]
/-! ### devices -/
def ERow.x (e : ERow) (i : Nat) : EvX := ⟨e.at_ i, e.kind i, e.byte i⟩
def evsOk (e : ERow) (k : Nat) : Bool := (List.range' k (e.n - k)).all fun i => mayN (e.x i)
structure DnX where
  e : ERow
  d : Row
structure DnI where
  e : ERow
  d : Row
  k : Nat
def devNewL (P : Program) : Lp DnI where
  B := 2
  n := ntmpsOf P F_dev_New
  code := loopOf P F_dev_New 0
  fit s H := match s.get 0, s.get 1, s.get 18 with
    | .msl b _ _ _ c, .msl b1 _ _ _ c1, .int _ k => match erowOf H b c, rowOf H b1 c1 with
      | some e, some d => some ⟨e, d, k.toNat⟩
      | _, _ => none
    | _, _, _ => none
  pre i := i.k ≤ i.e.n ∧ i.e.n ≤ 100000000
  slots i := [(0, i.e.av 0), (1, i.d.av 1), (16, i.e.av 0), (17, .int .i64 i.e.n), (18, .int .i64 i.k)]
  nx i := 2
  L i := [(0, i.e.blk), (1, i.d.blk)]
  m i := i.e.n - i.k
  outs i := [(evsOk i.e i.k, ⟨.exit 0, [(0, i.e.av 0), (1, i.d.av 1)], 2, [(0, i.e.blk), (1, i.d.blk)]⟩), (true, ⟨.ret, [(4, .nilp), (5, .int .i64 2)], 2, [(0, i.e.blk), (1, i.d.blk)]⟩)]
def devN (x : DnX) : Int := bif decide (x.e.n > 64) || decide (x.d.bs.length > 2048) then 3 else bif evsOk x.e 0 then (bif x.d.bs.length % 64 == 0 then 0 else 2) else 2
def devAV (v : AV) (sc : AV) : List AV := [.int .u32 0, .int .u32 0, .nils, v, .int .u32 0, .int .u32 0, .int .u32 0, .int .u32 0, .int .u32 0, .int .u32 0, .bool true, sc, .nils]
def devNewC : Con DnX Unit where
  f := F_dev_New
  fit vs H := match vs with
    | [.msl b _ _ _ c, .msl b1 _ _ _ c1] => match erowOf H b c, rowOf H b1 c1 with
      | some e, some d => some ([b, b1], ⟨e, d⟩)
      | _, _ => none
    | _ => none
  n0 := 2
  pre x := x.e.n ≤ 140737488351232 ∧ x.e.n ≤ x.e.c ∧ x.d.bs.length ≤ 140737488351232 ∧ x.d.bs.length ≤ x.d.c
  args x := [x.e.av 0, x.d.av 1]
  L0 x := [(0, x.e.blk), (1, x.d.blk)]
  outs x := [(fun _ => devN x = 3, fun _ => (.ret (.tup [.nilp, .int .i64 3]), 6, [(0, x.e.blk), (1, x.d.blk)])), (fun _ => devN x = 2, fun _ => (.ret (.tup [.nilp, .int .i64 2]), 6, [(0, x.e.blk), (1, x.d.blk)])),
    (fun _ => devN x = 0 ∧ x.d.bs.length < 64, fun _ => (.ret (.tup [.ptr 3 0 0, .int .i64 0]), 6, [(0, x.e.blk), (1, x.d.blk), (3, ⟨true, 13, .cells (devAV .nils (.msl 4 0 0 x.e.n x.e.n))⟩)])),
    (fun _ => devN x = 0 ∧ ¬ x.d.bs.length < 64, fun _ => (.ret (.tup [.ptr 3 0 0, .int .i64 0]), 6, [(0, x.e.blk), (1, x.d.blk), (3, ⟨true, 13, .cells (devAV (.sl 5 0 0 (x.d.bs.length / 64) (x.d.bs.length / 64) false) (.msl 4 0 0 x.e.n x.e.n))⟩)]))]
def devLN (x : Sv) : Int := bif devN ⟨x.script, x.disk⟩ == 0 then (bif decide (x.queue.bs.length > 32) then 3 else bif bits .andNot .u32 x.b1 7 != 0 || bits .andNot .u32 x.b2 7 != 0 || !orderedN x then 2 else 0) else devN ⟨x.script, x.disk⟩
def Sv.fine (x : Sv) : Prop := (x.mem.bs.length ≤ 140737488351232 ∧ x.mem.bs.length ≤ x.mem.c) ∧ (x.notes.n ≤ 5864062014634 ∧ x.notes.n ≤ x.notes.c) ∧ (x.out.bs.length ≤ 140737488351232 ∧ x.out.bs.length ≤ x.out.c) ∧ (x.disk.bs.length ≤ 140737488351232 ∧ x.disk.bs.length ≤ x.disk.c) ∧ (x.queue.bs.length ≤ 140737488351232 ∧ x.queue.bs.length ≤ x.queue.c) ∧ (x.script.n ≤ 140737488351232 ∧ x.script.n ≤ x.script.c)
def devLoadC : Con Sv Unit where
  f := F_dev_Load
  fit := svFit
  n0 := 6
  pre := Sv.fine
  args x := [.agg x.av]
  L0 x := x.L
  outs x := [(fun _ => devLN x = 3, fun _ => (.ret (.tup [.nilp, .int .i64 3]), 8, x.L)), (fun _ => devLN x = 2, fun _ => (.ret (.tup [.nilp, .int .i64 2]), 8, x.L)), (fun _ => devLN x = 0, fun _ => (.ret (.tup [.ptr 7 0 0, .int .i64 0]), 8, x.L))]
theorem spT {b : Bool} {A B : Prop} (hb : b = true) (h : A) : sp b A B := by subst hb; exact h
theorem spF {b : Bool} {A B : Prop} (hb : b = false) (h : B) : sp b A B := by subst hb; exact h
theorem evsOk_step (e : ERow) (k : Nat) (h : k < e.n) : evsOk e k = (mayN (e.x k) && evsOk e (k + 1)) := by
  unfold evsOk
  rw [show e.n - k = (e.n - (k + 1)) + 1 by omega, List.range'_succ, List.all_cons]
theorem evsOk_end (e : ERow) (k : Nat) (h : e.n ≤ k) : evsOk e k = true := by
  unfold evsOk
  rw [show e.n - k = 0 by omega]; rfl
end Go.Proofs.YtmbcpmbpkdeioaaGreatDoor.W
/- Devices of a saved guest: the walks of disks. No condition. -/
namespace Go.Proofs.YtmbcpmbpkdeioaaGreatDoor.W
open Go Go.RowKit Go.Eng
set_option maxRecDepth 100000
set_option linter.unusedVariables false
set_option linter.unusedSimpArgs false
abbrev laidA_c_p0 (r : Row) (k : Nat) (g : Nat → List AV) : List AV :=
  [nB (r.bs.getD (64 * k + 0 + 0) 0), nB (r.bs.getD (64 * k + 0 + 1) 0), nB (r.bs.getD (64 * k + 0 + 2) 0), nB (r.bs.getD (64 * k + 0 + 3) 0), nB (r.bs.getD (64 * k + 0 + 4) 0), nB (r.bs.getD (64 * k + 0 + 5) 0), nB (r.bs.getD (64 * k + 0 + 6) 0), nB (r.bs.getD (64 * k + 0 + 7) 0), nB (r.bs.getD (64 * k + 0 + 8) 0), nB (r.bs.getD (64 * k + 0 + 9) 0), nB (r.bs.getD (64 * k + 0 + 10) 0), nB (r.bs.getD (64 * k + 0 + 11) 0), nB (r.bs.getD (64 * k + 0 + 12) 0), nB (r.bs.getD (64 * k + 0 + 13) 0), nB (r.bs.getD (64 * k + 0 + 14) 0), nB (r.bs.getD (64 * k + 0 + 15) 0), nB (r.bs.getD (64 * k + 0 + 16) 0), nB (r.bs.getD (64 * k + 0 + 17) 0), nB (r.bs.getD (64 * k + 0 + 18) 0), nB (r.bs.getD (64 * k + 0 + 19) 0), nB (r.bs.getD (64 * k + 0 + 20) 0), nB (r.bs.getD (64 * k + 0 + 21) 0), nB (r.bs.getD (64 * k + 0 + 22) 0), nB (r.bs.getD (64 * k + 0 + 23) 0), nB (r.bs.getD (64 * k + 0 + 24) 0), nB
  (r.bs.getD (64 * k + 0 + 25) 0), nB (r.bs.getD (64 * k + 0 + 26) 0), nB (r.bs.getD (64 * k + 0 + 27) 0), nB (r.bs.getD (64 * k + 0 + 28) 0), nB (r.bs.getD (64 * k + 0 + 29) 0), nB (r.bs.getD (64 * k + 0 + 30) 0), nB (r.bs.getD (64 * k + 0 + 31) 0), nB (r.bs.getD (64 * k + 0 + 32) 0), nB (r.bs.getD (64 * k + 0 + 33) 0), nB (r.bs.getD (64 * k + 0 + 34) 0), nB (r.bs.getD (64 * k + 0 + 35) 0), nB (r.bs.getD (64 * k + 0 + 36) 0), nB (r.bs.getD (64 * k + 0 + 37) 0), nB (r.bs.getD (64 * k + 0 + 38) 0), nB (r.bs.getD (64 * k + 0 + 39) 0), nB (r.bs.getD (64 * k + 0 + 40) 0), nB (r.bs.getD (64 * k + 0 + 41) 0), nB (r.bs.getD (64 * k + 0 + 42) 0), nB (r.bs.getD (64 * k + 0 + 43) 0), nB (r.bs.getD (64 * k + 0 + 44) 0), nB (r.bs.getD (64 * k + 0 + 45) 0), nB (r.bs.getD (64 * k + 0 + 46) 0), nB (r.bs.getD (64 * k + 0 + 47) 0), nB (r.bs.getD (64 * k + 0 + 48) 0), nB (r.bs.getD (64 * k + 0 + 49) 0), nB
  (r.bs.getD (64 * k + 0 + 50) 0), nB (r.bs.getD (64 * k + 0 + 51) 0), nB (r.bs.getD (64 * k + 0 + 52) 0), nB (r.bs.getD (64 * k + 0 + 53) 0), nB (r.bs.getD (64 * k + 0 + 54) 0), nB (r.bs.getD (64 * k + 0 + 55) 0), nB (r.bs.getD (64 * k + 0 + 56) 0), nB (r.bs.getD (64 * k + 0 + 57) 0), nB (r.bs.getD (64 * k + 0 + 58) 0), nB (r.bs.getD (64 * k + 0 + 59) 0), nB (r.bs.getD (64 * k + 0 + 60) 0), nB (r.bs.getD (64 * k + 0 + 61) 0), nB (r.bs.getD (64 * k + 0 + 62) 0), nB (r.bs.getD (64 * k + 0 + 63) 0)]
abbrev laidA_c_p1 (r : Row) (k : Nat) (g : Nat → List AV) : List AV :=
  [AV.sl 3 0 0 (r.bs.length / 64) (r.bs.length / 64) false, nU 0, nU 0, nU 0, nU 0, nU 0, nU 0]
def laidA_c_V (r : Row) (k : Nat) (g : Nat → List AV) : Prop :=
  sp (decide ((↑(r.bs.length - 64 * k) : Int) ≥ 64)) (sp (decide (64 * k + 0 + 0 < r.bs.length) && (decide (64 * k + 0 + 1 < r.bs.length) && (decide (64 * k + 0 + 2 < r.bs.length) && (decide (64 * k + 0 + 3 < r.bs.length) && (decide (64 * k + 0 + 4 < r.bs.length) && (decide (64 * k + 0 + 5 < r.bs.length) && (decide (64 * k + 0 + 6 < r.bs.length) && (decide (64 * k + 0 + 7 < r.bs.length) && (decide (64 * k + 0 + 8 < r.bs.length) && (decide (64 * k + 0 + 9 < r.bs.length) && (decide (64 * k + 0 + 10 < r.bs.length) && (decide (64 * k + 0 + 11 < r.bs.length) && (decide (64 * k + 0 + 12 < r.bs.length) && (decide (64 * k + 0 + 13 < r.bs.length) && (decide (64 * k + 0 + 14 < r.bs.length) && (decide (64 * k + 0 + 15 < r.bs.length) && (decide (64 * k + 0 + 16 < r.bs.length) && (decide (64 * k + 0 + 17 < r.bs.length) && (decide (64 * k + 0 + 18 < r.bs.length) && (decide (64 * k + 0 + 19 < r.bs.length)
  && (decide (64 * k + 0 + 20 < r.bs.length) && (decide (64 * k + 0 + 21 < r.bs.length) && (decide (64 * k + 0 + 22 < r.bs.length) && (decide (64 * k + 0 + 23 < r.bs.length) && (decide (64 * k + 0 + 24 < r.bs.length) && (decide (64 * k + 0 + 25 < r.bs.length) && (decide (64 * k + 0 + 26 < r.bs.length) && (decide (64 * k + 0 + 27 < r.bs.length) && (decide (64 * k + 0 + 28 < r.bs.length) && (decide (64 * k + 0 + 29 < r.bs.length) && (decide (64 * k + 0 + 30 < r.bs.length) && (decide (64 * k + 0 + 31 < r.bs.length) && (decide (64 * k + 0 + 32 < r.bs.length) && (decide (64 * k + 0 + 33 < r.bs.length) && (decide (64 * k + 0 + 34 < r.bs.length) && (decide (64 * k + 0 + 35 < r.bs.length) && (decide (64 * k + 0 + 36 < r.bs.length) && (decide (64 * k + 0 + 37 < r.bs.length) && (decide (64 * k + 0 + 38 < r.bs.length) && (decide (64 * k + 0 + 39 < r.bs.length) && (decide (64 * k + 0 + 40 <
  r.bs.length) && (decide (64 * k + 0 + 41 < r.bs.length) && (decide (64 * k + 0 + 42 < r.bs.length) && (decide (64 * k + 0 + 43 < r.bs.length) && (decide (64 * k + 0 + 44 < r.bs.length) && (decide (64 * k + 0 + 45 < r.bs.length) && (decide (64 * k + 0 + 46 < r.bs.length) && (decide (64 * k + 0 + 47 < r.bs.length) && (decide (64 * k + 0 + 48 < r.bs.length) && (decide (64 * k + 0 + 49 < r.bs.length) && (decide (64 * k + 0 + 50 < r.bs.length) && (decide (64 * k + 0 + 51 < r.bs.length) && (decide (64 * k + 0 + 52 < r.bs.length) && (decide (64 * k + 0 + 53 < r.bs.length) && (decide (64 * k + 0 + 54 < r.bs.length) && (decide (64 * k + 0 + 55 < r.bs.length) && (decide (64 * k + 0 + 56 < r.bs.length) && (decide (64 * k + 0 + 57 < r.bs.length) && (decide (64 * k + 0 + 58 < r.bs.length) && (decide (64 * k + 0 + 59 < r.bs.length) && (decide (64 * k + 0 + 60 < r.bs.length) && (decide (64 * k + 0 + 61
  < r.bs.length) && (decide (64 * k + 0 + 62 < r.bs.length) && (decide (64 * k + 0 + 63 < r.bs.length) && true))))))))))))))))))))))))))))))))))))))))))))))))))))))))))))))) && (decide (r.bs.getD (64 * k + 0 + 0) 0 = r.bs.getD (64 * k + 0 + 0) 0) && (decide (r.bs.getD (64 * k + 0 + 1) 0 = r.bs.getD (64 * k + 0 + 1) 0) && (decide (r.bs.getD (64 * k + 0 + 2) 0 = r.bs.getD (64 * k + 0 + 2) 0) && (decide (r.bs.getD (64 * k + 0 + 3) 0 = r.bs.getD (64 * k + 0 + 3) 0) && (decide (r.bs.getD (64 * k + 0 + 4) 0 = r.bs.getD (64 * k + 0 + 4) 0) && (decide (r.bs.getD (64 * k + 0 + 5) 0 = r.bs.getD (64 * k + 0 + 5) 0) && (decide (r.bs.getD (64 * k + 0 + 6) 0 = r.bs.getD (64 * k + 0 + 6) 0) && (decide (r.bs.getD (64 * k + 0 + 7) 0 = r.bs.getD (64 * k + 0 + 7) 0) && (decide (r.bs.getD (64 * k + 0 + 8) 0 = r.bs.getD (64 * k + 0 + 8) 0) && (decide (r.bs.getD (64 * k + 0 + 9) 0 = r.bs.getD (64 * k + 0 + 9) 0)
  && (decide (r.bs.getD (64 * k + 0 + 10) 0 = r.bs.getD (64 * k + 0 + 10) 0) && (decide (r.bs.getD (64 * k + 0 + 11) 0 = r.bs.getD (64 * k + 0 + 11) 0) && (decide (r.bs.getD (64 * k + 0 + 12) 0 = r.bs.getD (64 * k + 0 + 12) 0) && (decide (r.bs.getD (64 * k + 0 + 13) 0 = r.bs.getD (64 * k + 0 + 13) 0) && (decide (r.bs.getD (64 * k + 0 + 14) 0 = r.bs.getD (64 * k + 0 + 14) 0) && (decide (r.bs.getD (64 * k + 0 + 15) 0 = r.bs.getD (64 * k + 0 + 15) 0) && (decide (r.bs.getD (64 * k + 0 + 16) 0 = r.bs.getD (64 * k + 0 + 16) 0) && (decide (r.bs.getD (64 * k + 0 + 17) 0 = r.bs.getD (64 * k + 0 + 17) 0) && (decide (r.bs.getD (64 * k + 0 + 18) 0 = r.bs.getD (64 * k + 0 + 18) 0) && (decide (r.bs.getD (64 * k + 0 + 19) 0 = r.bs.getD (64 * k + 0 + 19) 0) && (decide (r.bs.getD (64 * k + 0 + 20) 0 = r.bs.getD (64 * k + 0 + 20) 0) && (decide (r.bs.getD (64 * k + 0 + 21) 0 = r.bs.getD (64 * k + 0 + 21) 0)
  && (decide (r.bs.getD (64 * k + 0 + 22) 0 = r.bs.getD (64 * k + 0 + 22) 0) && (decide (r.bs.getD (64 * k + 0 + 23) 0 = r.bs.getD (64 * k + 0 + 23) 0) && (decide (r.bs.getD (64 * k + 0 + 24) 0 = r.bs.getD (64 * k + 0 + 24) 0) && (decide (r.bs.getD (64 * k + 0 + 25) 0 = r.bs.getD (64 * k + 0 + 25) 0) && (decide (r.bs.getD (64 * k + 0 + 26) 0 = r.bs.getD (64 * k + 0 + 26) 0) && (decide (r.bs.getD (64 * k + 0 + 27) 0 = r.bs.getD (64 * k + 0 + 27) 0) && (decide (r.bs.getD (64 * k + 0 + 28) 0 = r.bs.getD (64 * k + 0 + 28) 0) && (decide (r.bs.getD (64 * k + 0 + 29) 0 = r.bs.getD (64 * k + 0 + 29) 0) && (decide (r.bs.getD (64 * k + 0 + 30) 0 = r.bs.getD (64 * k + 0 + 30) 0) && (decide (r.bs.getD (64 * k + 0 + 31) 0 = r.bs.getD (64 * k + 0 + 31) 0) && (decide (r.bs.getD (64 * k + 0 + 32) 0 = r.bs.getD (64 * k + 0 + 32) 0) && (decide (r.bs.getD (64 * k + 0 + 33) 0 = r.bs.getD (64 * k + 0 + 33) 0)
  && (decide (r.bs.getD (64 * k + 0 + 34) 0 = r.bs.getD (64 * k + 0 + 34) 0) && (decide (r.bs.getD (64 * k + 0 + 35) 0 = r.bs.getD (64 * k + 0 + 35) 0) && (decide (r.bs.getD (64 * k + 0 + 36) 0 = r.bs.getD (64 * k + 0 + 36) 0) && (decide (r.bs.getD (64 * k + 0 + 37) 0 = r.bs.getD (64 * k + 0 + 37) 0) && (decide (r.bs.getD (64 * k + 0 + 38) 0 = r.bs.getD (64 * k + 0 + 38) 0) && (decide (r.bs.getD (64 * k + 0 + 39) 0 = r.bs.getD (64 * k + 0 + 39) 0) && (decide (r.bs.getD (64 * k + 0 + 40) 0 = r.bs.getD (64 * k + 0 + 40) 0) && (decide (r.bs.getD (64 * k + 0 + 41) 0 = r.bs.getD (64 * k + 0 + 41) 0) && (decide (r.bs.getD (64 * k + 0 + 42) 0 = r.bs.getD (64 * k + 0 + 42) 0) && (decide (r.bs.getD (64 * k + 0 + 43) 0 = r.bs.getD (64 * k + 0 + 43) 0) && (decide (r.bs.getD (64 * k + 0 + 44) 0 = r.bs.getD (64 * k + 0 + 44) 0) && (decide (r.bs.getD (64 * k + 0 + 45) 0 = r.bs.getD (64 * k + 0 + 45) 0)
  && (decide (r.bs.getD (64 * k + 0 + 46) 0 = r.bs.getD (64 * k + 0 + 46) 0) && (decide (r.bs.getD (64 * k + 0 + 47) 0 = r.bs.getD (64 * k + 0 + 47) 0) && (decide (r.bs.getD (64 * k + 0 + 48) 0 = r.bs.getD (64 * k + 0 + 48) 0) && (decide (r.bs.getD (64 * k + 0 + 49) 0 = r.bs.getD (64 * k + 0 + 49) 0) && (decide (r.bs.getD (64 * k + 0 + 50) 0 = r.bs.getD (64 * k + 0 + 50) 0) && (decide (r.bs.getD (64 * k + 0 + 51) 0 = r.bs.getD (64 * k + 0 + 51) 0) && (decide (r.bs.getD (64 * k + 0 + 52) 0 = r.bs.getD (64 * k + 0 + 52) 0) && (decide (r.bs.getD (64 * k + 0 + 53) 0 = r.bs.getD (64 * k + 0 + 53) 0) && (decide (r.bs.getD (64 * k + 0 + 54) 0 = r.bs.getD (64 * k + 0 + 54) 0) && (decide (r.bs.getD (64 * k + 0 + 55) 0 = r.bs.getD (64 * k + 0 + 55) 0) && (decide (r.bs.getD (64 * k + 0 + 56) 0 = r.bs.getD (64 * k + 0 + 56) 0) && (decide (r.bs.getD (64 * k + 0 + 57) 0 = r.bs.getD (64 * k + 0 + 57) 0)
  && (decide (r.bs.getD (64 * k + 0 + 58) 0 = r.bs.getD (64 * k + 0 + 58) 0) && (decide (r.bs.getD (64 * k + 0 + 59) 0 = r.bs.getD (64 * k + 0 + 59) 0) && (decide (r.bs.getD (64 * k + 0 + 60) 0 = r.bs.getD (64 * k + 0 + 60) 0) && (decide (r.bs.getD (64 * k + 0 + 61) 0 = r.bs.getD (64 * k + 0 + 61) 0) && (decide (r.bs.getD (64 * k + 0 + 62) 0 = r.bs.getD (64 * k + 0 + 62) 0) && (decide (r.bs.getD (64 * k + 0 + 63) 0 = r.bs.getD (64 * k + 0 + 63) 0) && true))))))))))))))))))))))))))))))))))))))))))))))))))))))))))))))))) (sp ((64 * k + 0).beq (64 * k + 0) && true) (sp (decide (64 ≤ r.c - 64 * k) && decide (r.c - 64 * k ≤ r.c - 64 * k) && true && ((64 * k + 0).beq (64 * k + 0) && true && true && (r.c - 64 * k - 0).beq (r.c - 64 * k - 0))) (sp ((64 * k).beq (64 * k) && true && (r.bs.length - 64 * k).beq (r.bs.length - 64 * k) && (r.c - 64 * k).beq (r.c - 64 * k)) (sp (k.beq k && k.beq k &&
  true) (sp (k.beq k && k.beq k && true) (sp (decide (0 + k ≤ k) && true && true && true && true && decide ((k + 1) * 64 ≤ 140737488355328) && decide (k + 1 ≤ 9223372036854775807)) (sp (decide (64 ≤ r.bs.length - 64 * k) && decide (r.bs.length - 64 * k ≤ r.c - 64 * k) && decide (r.c - 64 * k ≤ r.c - 64 * k) && true) (∃ (j : LdI), (64 * j.k ≤ j.r.bs.length ∧ j.r.bs.length ≤ 100000000 ∧ j.r.bs.length ≤ j.r.c ∧ (true = true → 1 ≤ j.k ∧ ∀ (σ : Nat → Nat) (n : Nat), AV.rens σ (j.g n) = j.g n) ∧ (true = false → j.k = 0)) ∧ j.r.bs.length - j.k < r.bs.length - k ∧ [(decide (j.r.bs.length < 64), LOut.mk (AX.exit 0) [(2, AV.ptr 1 0 0), (3, AV.ptr 2 0 0)] 4 [(0, bR j.r.bs), (1, ABlk.mk true 7 (AC.cells [AV.nils, nU 0, nU 0, nU 0, nU 0, nU 0, nU 0])), (2, ABlk.mk true 7 (AC.cells [AV.nils, nU 0, nU 0, nU 0, nU 0, nU 0, nU 0]))]), (true, LOut.mk (AX.exit 0) [(2, AV.ptr 1 0 0), (3, AV.ptr 2 0 0)] 4 [(0,
  bR j.r.bs), (1, ABlk.mk true 7 (AC.cells [AV.nils, nU 0, nU 0, nU 0, nU 0, nU 0, nU 0])), (2, ABlk.mk true 7 (AC.cells [AV.sl 3 0 0 (j.r.bs.length / 64) (j.r.bs.length / 64) false, nU 0, nU 0, nU 0, nU 0, nU 0, nU 0]))])] = [(decide (r.bs.length < 64), LOut.mk (AX.exit 0) [(2, AV.ptr 1 0 0), (3, AV.ptr 2 0 0)] 4 [(0, bR r.bs), (1, ABlk.mk true 7 (AC.cells [AV.nils, nU 0, nU 0, nU 0, nU 0, nU 0, nU 0])), (2, ABlk.mk true 7 (AC.cells [AV.nils, nU 0, nU 0, nU 0, nU 0, nU 0, nU 0]))]), (true, LOut.mk (AX.exit 0) [(2, AV.ptr 1 0 0), (3, AV.ptr 2 0 0)] 4 [(0, bR r.bs), (1, ABlk.mk true 7 (AC.cells [AV.nils, nU 0, nU 0, nU 0, nU 0, nU 0, nU 0])), (2, ABlk.mk true 7 (AC.cells (laidA_c_p1 r k g)))])] ∧ (AV.msl 0 (64 * k + 64) 0 (r.bs.length - 64 * k - 64) (r.c - 64 * k - 64) = AV.msl 0 (64 * j.k) 0 (j.r.bs.length - 64 * j.k) (j.r.c - 64 * j.k) ∧ AV.ptr 1 0 0 = AV.ptr 1 0 0 ∧ AV.ptr 2 0 0 = AV.ptr
  2 0 0 ∧ True) ∧ bR r.bs = bR j.r.bs ∧ ABlk.mk true 7 (AC.cells [AV.nils, nU 0, nU 0, nU 0, nU 0, nU 0, nU 0]) = ABlk.mk true 7 (AC.cells [AV.nils, nU 0, nU 0, nU 0, nU 0, nU 0, nU 0]) ∧ ABlk.mk true 7 (AC.cells ([AV.sl 3 0 0 k k false, nU 0, nU 0, nU 0, nU 0, nU 0, nU 0].set 0 (AV.sl 5 0 0 (k + 1) (k + 1) false))) = ABlk.mk true 7 (AC.cells [AV.sl 5 0 0 j.k j.k false, nU 0, nU 0, nU 0, nU 0, nU 0, nU 0]) ∧ (true = true ∧ 64 = 64 ∧ k + (List.take 64 (List.drop 0 (laidA_c_p0 r k g))).length / 64 = j.k ∧ ∀ (i : Nat), i < k + (List.take 64 (List.drop 0 (laidA_c_p0 r k g))).length / 64 → (bif i.blt k then g (0 + i) else List.take 64 (List.drop ((i - k) * 64) (List.take 64 (List.drop 0 (laidA_c_p0 r k g))))) = AV.rens (fun (b : Nat) => [0, 1, 2, 5].getD b 6) (j.g i)) ∧ True) False) False) False) False) False) False) False) False) (sp (decide (r.bs.length < 64)) ((AV.ptr 1 0 0 = AV.ptr 1 0 0 ∧
  AV.ptr 2 0 0 = AV.ptr 2 0 0 ∧ True) ∧ bR r.bs = bR r.bs ∧ ABlk.mk true 7 (AC.cells [AV.nils, nU 0, nU 0, nU 0, nU 0, nU 0, nU 0]) = ABlk.mk true 7 (AC.cells [AV.nils, nU 0, nU 0, nU 0, nU 0, nU 0, nU 0]) ∧ ABlk.mk true 7 (AC.cells [AV.sl 3 0 0 k k false, nU 0, nU 0, nU 0, nU 0, nU 0, nU 0]) = ABlk.mk true 7 (AC.cells [AV.nils, nU 0, nU 0, nU 0, nU 0, nU 0, nU 0]) ∧ True) ((AV.ptr 1 0 0 = AV.ptr 1 0 0 ∧ AV.ptr 2 0 0 = AV.ptr 2 0 0 ∧ True) ∧ bR r.bs = bR r.bs ∧ ABlk.mk true 7 (AC.cells [AV.nils, nU 0, nU 0, nU 0, nU 0, nU 0, nU 0]) = ABlk.mk true 7 (AC.cells [AV.nils, nU 0, nU 0, nU 0, nU 0, nU 0, nU 0]) ∧ ABlk.mk true 7 (AC.cells [AV.sl 3 0 0 k k false, nU 0, nU 0, nU 0, nU 0, nU 0, nU 0]) = ABlk.mk true 7 (AC.cells (laidA_c_p1 r k g)) ∧ True))
theorem laidA_c_e (r : Row) (k : Nat) (g : Nat → List AV) : some (laidA_c_V r k g) = (some ((laidL Go.Proofs.Tryz.prog).body sp Go.Proofs.Tryz.prog noBaseK (drP sp Go.Proofs.Tryz.prog noBaseK) noLo 40 ⟨r, k, g, true⟩)) := by kernel_rfl
abbrev laidB_c_p0 (r : Row) (g : Nat → List AV) : List AV :=
  [nB (r.bs.getD 0 0), nB (r.bs.getD 1 0), nB (r.bs.getD 2 0), nB (r.bs.getD 3 0), nB (r.bs.getD 4 0), nB (r.bs.getD 5 0), nB (r.bs.getD 6 0), nB (r.bs.getD 7 0), nB (r.bs.getD 8 0), nB (r.bs.getD 9 0), nB (r.bs.getD 10 0), nB (r.bs.getD 11 0), nB (r.bs.getD 12 0), nB (r.bs.getD 13 0), nB (r.bs.getD 14 0), nB (r.bs.getD 15 0), nB (r.bs.getD 16 0), nB (r.bs.getD 17 0), nB (r.bs.getD 18 0), nB (r.bs.getD 19 0), nB (r.bs.getD 20 0), nB (r.bs.getD 21 0), nB (r.bs.getD 22 0), nB (r.bs.getD 23 0), nB (r.bs.getD 24 0), nB (r.bs.getD 25 0), nB (r.bs.getD 26 0), nB (r.bs.getD 27 0), nB (r.bs.getD 28 0), nB (r.bs.getD 29 0), nB (r.bs.getD 30 0), nB (r.bs.getD 31 0), nB (r.bs.getD 32 0), nB (r.bs.getD 33 0), nB (r.bs.getD 34 0), nB (r.bs.getD 35 0), nB (r.bs.getD 36 0), nB (r.bs.getD 37 0), nB (r.bs.getD 38 0), nB (r.bs.getD 39 0), nB (r.bs.getD 40 0), nB (r.bs.getD 41 0), nB (r.bs.getD 42 0), nB
  (r.bs.getD 43 0), nB (r.bs.getD 44 0), nB (r.bs.getD 45 0), nB (r.bs.getD 46 0), nB (r.bs.getD 47 0), nB (r.bs.getD 48 0), nB (r.bs.getD 49 0), nB (r.bs.getD 50 0), nB (r.bs.getD 51 0), nB (r.bs.getD 52 0), nB (r.bs.getD 53 0), nB (r.bs.getD 54 0), nB (r.bs.getD 55 0), nB (r.bs.getD 56 0), nB (r.bs.getD 57 0), nB (r.bs.getD 58 0), nB (r.bs.getD 59 0), nB (r.bs.getD 60 0), nB (r.bs.getD 61 0), nB (r.bs.getD 62 0), nB (r.bs.getD 63 0)]
def laidB_c_V (r : Row) (g : Nat → List AV) : Prop :=
  sp (decide ((↑(r.bs.length - 0) : Int) ≥ 64)) (sp (decide (0 < r.bs.length) && (decide (1 < r.bs.length) && (decide (2 < r.bs.length) && (decide (3 < r.bs.length) && (decide (4 < r.bs.length) && (decide (5 < r.bs.length) && (decide (6 < r.bs.length) && (decide (7 < r.bs.length) && (decide (8 < r.bs.length) && (decide (9 < r.bs.length) && (decide (10 < r.bs.length) && (decide (11 < r.bs.length) && (decide (12 < r.bs.length) && (decide (13 < r.bs.length) && (decide (14 < r.bs.length) && (decide (15 < r.bs.length) && (decide (16 < r.bs.length) && (decide (17 < r.bs.length) && (decide (18 < r.bs.length) && (decide (19 < r.bs.length) && (decide (20 < r.bs.length) && (decide (21 < r.bs.length) && (decide (22 < r.bs.length) && (decide (23 < r.bs.length) && (decide (24 < r.bs.length) && (decide (25 < r.bs.length) && (decide (26 < r.bs.length) && (decide (27 < r.bs.length) && (decide (28 <
  r.bs.length) && (decide (29 < r.bs.length) && (decide (30 < r.bs.length) && (decide (31 < r.bs.length) && (decide (32 < r.bs.length) && (decide (33 < r.bs.length) && (decide (34 < r.bs.length) && (decide (35 < r.bs.length) && (decide (36 < r.bs.length) && (decide (37 < r.bs.length) && (decide (38 < r.bs.length) && (decide (39 < r.bs.length) && (decide (40 < r.bs.length) && (decide (41 < r.bs.length) && (decide (42 < r.bs.length) && (decide (43 < r.bs.length) && (decide (44 < r.bs.length) && (decide (45 < r.bs.length) && (decide (46 < r.bs.length) && (decide (47 < r.bs.length) && (decide (48 < r.bs.length) && (decide (49 < r.bs.length) && (decide (50 < r.bs.length) && (decide (51 < r.bs.length) && (decide (52 < r.bs.length) && (decide (53 < r.bs.length) && (decide (54 < r.bs.length) && (decide (55 < r.bs.length) && (decide (56 < r.bs.length) && (decide (57 < r.bs.length) && (decide (58 <
  r.bs.length) && (decide (59 < r.bs.length) && (decide (60 < r.bs.length) && (decide (61 < r.bs.length) && (decide (62 < r.bs.length) && (decide (63 < r.bs.length) && true))))))))))))))))))))))))))))))))))))))))))))))))))))))))))))))) && (decide (r.bs.getD 0 0 = r.bs.getD 0 0) && (decide (r.bs.getD 1 0 = r.bs.getD 1 0) && (decide (r.bs.getD 2 0 = r.bs.getD 2 0) && (decide (r.bs.getD 3 0 = r.bs.getD 3 0) && (decide (r.bs.getD 4 0 = r.bs.getD 4 0) && (decide (r.bs.getD 5 0 = r.bs.getD 5 0) && (decide (r.bs.getD 6 0 = r.bs.getD 6 0) && (decide (r.bs.getD 7 0 = r.bs.getD 7 0) && (decide (r.bs.getD 8 0 = r.bs.getD 8 0) && (decide (r.bs.getD 9 0 = r.bs.getD 9 0) && (decide (r.bs.getD 10 0 = r.bs.getD 10 0) && (decide (r.bs.getD 11 0 = r.bs.getD 11 0) && (decide (r.bs.getD 12 0 = r.bs.getD 12 0) && (decide (r.bs.getD 13 0 = r.bs.getD 13 0) && (decide (r.bs.getD 14 0 = r.bs.getD 14 0) && (decide
  (r.bs.getD 15 0 = r.bs.getD 15 0) && (decide (r.bs.getD 16 0 = r.bs.getD 16 0) && (decide (r.bs.getD 17 0 = r.bs.getD 17 0) && (decide (r.bs.getD 18 0 = r.bs.getD 18 0) && (decide (r.bs.getD 19 0 = r.bs.getD 19 0) && (decide (r.bs.getD 20 0 = r.bs.getD 20 0) && (decide (r.bs.getD 21 0 = r.bs.getD 21 0) && (decide (r.bs.getD 22 0 = r.bs.getD 22 0) && (decide (r.bs.getD 23 0 = r.bs.getD 23 0) && (decide (r.bs.getD 24 0 = r.bs.getD 24 0) && (decide (r.bs.getD 25 0 = r.bs.getD 25 0) && (decide (r.bs.getD 26 0 = r.bs.getD 26 0) && (decide (r.bs.getD 27 0 = r.bs.getD 27 0) && (decide (r.bs.getD 28 0 = r.bs.getD 28 0) && (decide (r.bs.getD 29 0 = r.bs.getD 29 0) && (decide (r.bs.getD 30 0 = r.bs.getD 30 0) && (decide (r.bs.getD 31 0 = r.bs.getD 31 0) && (decide (r.bs.getD 32 0 = r.bs.getD 32 0) && (decide (r.bs.getD 33 0 = r.bs.getD 33 0) && (decide (r.bs.getD 34 0 = r.bs.getD 34 0) && (decide
  (r.bs.getD 35 0 = r.bs.getD 35 0) && (decide (r.bs.getD 36 0 = r.bs.getD 36 0) && (decide (r.bs.getD 37 0 = r.bs.getD 37 0) && (decide (r.bs.getD 38 0 = r.bs.getD 38 0) && (decide (r.bs.getD 39 0 = r.bs.getD 39 0) && (decide (r.bs.getD 40 0 = r.bs.getD 40 0) && (decide (r.bs.getD 41 0 = r.bs.getD 41 0) && (decide (r.bs.getD 42 0 = r.bs.getD 42 0) && (decide (r.bs.getD 43 0 = r.bs.getD 43 0) && (decide (r.bs.getD 44 0 = r.bs.getD 44 0) && (decide (r.bs.getD 45 0 = r.bs.getD 45 0) && (decide (r.bs.getD 46 0 = r.bs.getD 46 0) && (decide (r.bs.getD 47 0 = r.bs.getD 47 0) && (decide (r.bs.getD 48 0 = r.bs.getD 48 0) && (decide (r.bs.getD 49 0 = r.bs.getD 49 0) && (decide (r.bs.getD 50 0 = r.bs.getD 50 0) && (decide (r.bs.getD 51 0 = r.bs.getD 51 0) && (decide (r.bs.getD 52 0 = r.bs.getD 52 0) && (decide (r.bs.getD 53 0 = r.bs.getD 53 0) && (decide (r.bs.getD 54 0 = r.bs.getD 54 0) && (decide
  (r.bs.getD 55 0 = r.bs.getD 55 0) && (decide (r.bs.getD 56 0 = r.bs.getD 56 0) && (decide (r.bs.getD 57 0 = r.bs.getD 57 0) && (decide (r.bs.getD 58 0 = r.bs.getD 58 0) && (decide (r.bs.getD 59 0 = r.bs.getD 59 0) && (decide (r.bs.getD 60 0 = r.bs.getD 60 0) && (decide (r.bs.getD 61 0 = r.bs.getD 61 0) && (decide (r.bs.getD 62 0 = r.bs.getD 62 0) && (decide (r.bs.getD 63 0 = r.bs.getD 63 0) && true))))))))))))))))))))))))))))))))))))))))))))))))))))))))))))))))) (sp (decide (64 ≤ r.c - 0) && decide (r.c - 0 ≤ r.c - 0) && true && (r.c - 0 - 0).beq (r.c - 0 - 0)) (sp ((r.bs.length - 0).beq (r.bs.length - 0) && (r.c - 0).beq (r.c - 0)) (sp (decide (64 ≤ r.bs.length - 0) && decide (r.bs.length - 0 ≤ r.c - 0) && decide (r.c - 0 ≤ r.c - 0) && true) (∃ (j : LdI), (64 * j.k ≤ j.r.bs.length ∧ j.r.bs.length ≤ 100000000 ∧ j.r.bs.length ≤ j.r.c ∧ (true = true → 1 ≤ j.k ∧ ∀ (σ : Nat → Nat) (n : Nat),
  AV.rens σ (j.g n) = j.g n) ∧ (true = false → j.k = 0)) ∧ j.r.bs.length - j.k < r.bs.length - 0 ∧ [(decide (j.r.bs.length < 64), LOut.mk (AX.exit 0) [(2, AV.ptr 1 0 0), (3, AV.ptr 2 0 0)] 4 [(0, bR j.r.bs), (1, ABlk.mk true 7 (AC.cells [AV.nils, nU 0, nU 0, nU 0, nU 0, nU 0, nU 0])), (2, ABlk.mk true 7 (AC.cells [AV.nils, nU 0, nU 0, nU 0, nU 0, nU 0, nU 0]))]), (true, LOut.mk (AX.exit 0) [(2, AV.ptr 1 0 0), (3, AV.ptr 2 0 0)] 4 [(0, bR j.r.bs), (1, ABlk.mk true 7 (AC.cells [AV.nils, nU 0, nU 0, nU 0, nU 0, nU 0, nU 0])), (2, ABlk.mk true 7 (AC.cells [AV.sl 3 0 0 (j.r.bs.length / 64) (j.r.bs.length / 64) false, nU 0, nU 0, nU 0, nU 0, nU 0, nU 0]))])] = [(decide (r.bs.length < 64), LOut.mk (AX.exit 0) [(2, AV.ptr 1 0 0), (3, AV.ptr 2 0 0)] 4 [(0, bR r.bs), (1, ABlk.mk true 7 (AC.cells [AV.nils, nU 0, nU 0, nU 0, nU 0, nU 0, nU 0])), (2, ABlk.mk true 7 (AC.cells [AV.nils, nU 0, nU 0, nU 0,
  nU 0, nU 0, nU 0]))]), (true, LOut.mk (AX.exit 0) [(2, AV.ptr 1 0 0), (3, AV.ptr 2 0 0)] 4 [(0, bR r.bs), (1, ABlk.mk true 7 (AC.cells [AV.nils, nU 0, nU 0, nU 0, nU 0, nU 0, nU 0])), (2, ABlk.mk true 7 (AC.cells [AV.sl 3 0 0 (r.bs.length / 64) (r.bs.length / 64) false, nU 0, nU 0, nU 0, nU 0, nU 0, nU 0]))])] ∧ (AV.msl 0 64 0 (r.bs.length - 0 - 64) (r.c - 0 - 64) = AV.msl 0 (64 * j.k) 0 (j.r.bs.length - 64 * j.k) (j.r.c - 64 * j.k) ∧ AV.ptr 1 0 0 = AV.ptr 1 0 0 ∧ AV.ptr 2 0 0 = AV.ptr 2 0 0 ∧ True) ∧ bR r.bs = bR j.r.bs ∧ ABlk.mk true 7 (AC.cells [AV.nils, nU 0, nU 0, nU 0, nU 0, nU 0, nU 0]) = ABlk.mk true 7 (AC.cells [AV.nils, nU 0, nU 0, nU 0, nU 0, nU 0, nU 0]) ∧ ABlk.mk true 7 (AC.cells [AV.sl 5 0 0 1 1 false, nU 0, nU 0, nU 0, nU 0, nU 0, nU 0]) = ABlk.mk true 7 (AC.cells [AV.sl 5 0 0 j.k j.k false, nU 0, nU 0, nU 0, nU 0, nU 0, nU 0]) ∧ (true = true ∧ 64 = 64 ∧ (List.take 64
  (List.drop 0 (laidB_c_p0 r g))).length = j.k * 64 ∧ ∀ (i : Nat), i < j.k → ∀ (j_1 : Nat), j_1 < 64 → (List.take 64 (List.drop 0 (laidB_c_p0 r g))).getD (i * 64 + j_1) AV.any = (AV.rens (fun (b : Nat) => [0, 1, 2, 5].getD b 6) (j.g i)).getD j_1 AV.any) ∧ True) False) False) False) False) (sp (decide (r.bs.length < 64)) ((AV.ptr 1 0 0 = AV.ptr 1 0 0 ∧ AV.ptr 2 0 0 = AV.ptr 2 0 0 ∧ True) ∧ bR r.bs = bR r.bs ∧ ABlk.mk true 7 (AC.cells [AV.nils, nU 0, nU 0, nU 0, nU 0, nU 0, nU 0]) = ABlk.mk true 7 (AC.cells [AV.nils, nU 0, nU 0, nU 0, nU 0, nU 0, nU 0]) ∧ ABlk.mk true 7 (AC.cells [AV.nils, nU 0, nU 0, nU 0, nU 0, nU 0, nU 0]) = ABlk.mk true 7 (AC.cells [AV.nils, nU 0, nU 0, nU 0, nU 0, nU 0, nU 0]) ∧ True) ((AV.ptr 1 0 0 = AV.ptr 1 0 0 ∧ AV.ptr 2 0 0 = AV.ptr 2 0 0 ∧ True) ∧ bR r.bs = bR r.bs ∧ ABlk.mk true 7 (AC.cells [AV.nils, nU 0, nU 0, nU 0, nU 0, nU 0, nU 0]) = ABlk.mk true 7 (AC.cells
  [AV.nils, nU 0, nU 0, nU 0, nU 0, nU 0, nU 0]) ∧ ABlk.mk true 7 (AC.cells [AV.nils, nU 0, nU 0, nU 0, nU 0, nU 0, nU 0]) = ABlk.mk true 7 (AC.cells [AV.sl 4 0 0 (r.bs.length / 64) (r.bs.length / 64) false, nU 0, nU 0, nU 0, nU 0, nU 0, nU 0]) ∧ True))
theorem laidB_c_e (r : Row) (g : Nat → List AV) : some (laidB_c_V r g) = (some ((laidL Go.Proofs.Tryz.prog).body sp Go.Proofs.Tryz.prog noBaseK (drP sp Go.Proofs.Tryz.prog noBaseK) noLo 40 ⟨r, 0, g, false⟩)) := by kernel_rfl
set_option maxRecDepth 100000 in
set_option maxHeartbeats 4000000 in
theorem laidB_ok (r : Row) (g : Nat → List AV) (h1 : r.bs.length ≤ 100000000) (h2 : r.bs.length ≤ r.c) : laidB_c_V r g := by
  unfold laidB_c_V laidB_c_p0
  simp only [Nat.sub_zero]
  by_cases h : 64 ≤ r.bs.length
  · refine spT (by simp; omega) (spT (by simp; omega) (spT (by simp; omega) (spT (by simp) (spT (by simp; omega) ⟨⟨r, 1, fun _ => (List.range 64).map fun t => AV.int .u8 (r.bs.getD t 0), true⟩, ⟨h, h1, h2, fun _ => ⟨Nat.le_refl _, fun _ _ => rfl⟩, fun h => (by cases h)⟩, ?_, rfl, ?_⟩))))
    · show r.bs.length - 1 < r.bs.length; omega
    · refine ⟨⟨by simp, by simp, by simp, trivial⟩, by simp, by simp, by simp, ⟨by simp, by simp, by simp, fun i hi j hj => ?_⟩, trivial⟩
      obtain rfl : i = 0 := by have : i < 1 := hi
                               omega
      rw [Nat.zero_mul, Nat.zero_add]
      rfl
  · refine spF (by simp; omega) (spT (by simp; omega) ⟨⟨by simp, by simp, trivial⟩, by simp, by simp, by simp, trivial⟩)
set_option maxRecDepth 100000 in
set_option maxHeartbeats 4000000 in
theorem laidA_ok (r : Row) (k : Nat) (g : Nat → List AV) (h0 : 64 * k ≤ r.bs.length) (h1 : r.bs.length ≤ 100000000) (h2 : r.bs.length ≤ r.c) (hk : 1 ≤ k) (hg : ∀ σ n, AV.rens σ (g n) = g n) : laidA_c_V r k g := by
  unfold laidA_c_V laidA_c_p1 laidA_c_p0
  by_cases h : 64 * k + 64 ≤ r.bs.length
  · refine spT (by first | (simp; done) | (simp; omega)) (spT (by first | (simp; done) | (simp; omega)) (spT (by first | (simp; done) | (simp; omega)) (spT (by first | (simp; done) | (simp; omega)) (spT (by first | (simp; done) | (simp; omega)) (spT (by first | (simp; done) | (simp; omega)) (spT (by first | (simp; done) | (simp; omega)) (spT (by first | (simp; done) | (simp; omega)) (spT (by first | (simp; done) | (simp; omega)) ⟨⟨r, k + 1, fun i => bif Nat.blt i k then g i else (List.range 64).map fun t => AV.int .u8 (r.bs.getD (64 * k + 0 + t) 0), true⟩, ⟨?_, h1, h2, fun _ => ⟨?_, fun σ n => ?_⟩, fun h => (by cases h)⟩, ?_, rfl, ?_⟩))))))))
    · show 64 * (k + 1) ≤ r.bs.length; omega
    · show 1 ≤ k + 1; omega
    · show AV.rens σ (bif Nat.blt n k then g n else (List.range 64).map fun t => AV.int .u8 (r.bs.getD (64 * k + 0 + t) 0)) = _
      cases hb : Nat.blt n k
      · simp only [hb]; rfl
      · simp only [hb, cond_true]; exact hg σ n
    · show r.bs.length - (k + 1) < r.bs.length - k; omega
    · have e1 : r.bs.length - 64 * k - 64 = r.bs.length - 64 * (k + 1) := by omega
      have e2 : r.c - 64 * k - 64 = r.c - 64 * (k + 1) := by omega
      have e3 : 64 * k + 64 = 64 * (k + 1) := by omega
      rw [e1, e2, e3]
      refine ⟨⟨rfl, rfl, rfl, trivial⟩, rfl, rfl, (by first | rfl | simp), ⟨rfl, rfl, (by first | rfl | simp), fun i hi => ?_⟩, trivial⟩
      have hi : i < k + 1 := by simpa using hi
      by_cases hik : i < k
      · simp only [blt_true hik, cond_true, Nat.zero_add, hg]
      · obtain rfl : i = k := by omega
        simp only [blt_false hik, cond_false, Nat.sub_self]
        rfl
  · refine spF (by first | (simp; done) | (simp; omega)) (spF (by first | (simp; done) | (simp; omega)) ⟨⟨rfl, rfl, trivial⟩, rfl, rfl, ?_⟩)
    have e : r.bs.length / 64 = k := by omega
    rw [e]
    exact ⟨rfl, trivial⟩
set_option maxRecDepth 100000 in
theorem laidL_ok : (laidL Go.Proofs.Tryz.prog).OK Go.Proofs.Tryz.prog := by
  refine Lp.ok_of (noBaseK_ok _) (drP_ok hmix _ (noBaseK_ok _)) (noLo_ok _) (by decide) 40 (fun i hi => ?_)
  obtain ⟨r, k, g, s⟩ := i
  obtain ⟨h1, h2, h3, h4, h5⟩ := hi
  cases s with
  | true =>
    rw [← Option.some.inj (laidA_c_e r k g)]
    exact laidA_ok r k g h1 h2 h3 (h4 rfl).1 (h4 rfl).2
  | false =>
    have e : k = 0 := h5 rfl
    rw [e, ← Option.some.inj (laidB_c_e r g)]
    exact laidB_ok r g h2 h3
abbrev laidC_c_p0 (r : Row) : List AV :=
  [AV.agg [AV.sl 3 0 0 (r.bs.length / 64) (r.bs.length / 64) false, nU 0, nU 0, nU 0, nU 0, nU 0, nU 0]]
def laidC_c_V (r : Row) : Prop :=
  same (loopOf Proofs.Tryz.prog F_dev_laid 0) (loopOf Proofs.Tryz.prog F_dev_laid 0) ∧ (0 ≤ r.bs.length ∧ r.bs.length ≤ 100000000 ∧ r.bs.length ≤ r.c ∧ (false = true → 1 ≤ 0 ∧ ∀ (σ : Nat → Nat) (n : Nat), [AV.nils] = [AV.nils]) ∧ (false = false → 0 = 0)) ∧ ((AV.msl 0 0 0 r.bs.length r.c = AV.msl 0 0 0 (r.bs.length - 0) (r.c - 0) ∧ AV.ptr 1 0 0 = AV.ptr 1 0 0 ∧ AV.ptr 2 0 0 = AV.ptr 2 0 0 ∧ True) ∧ bR r.bs = bR r.bs ∧ ABlk.mk true 7 (AC.cells [AV.nils, nU 0, nU 0, nU 0, nU 0, nU 0, nU 0]) = ABlk.mk true 7 (AC.cells [AV.nils, nU 0, nU 0, nU 0, nU 0, nU 0, nU 0]) ∧ ABlk.mk true 7 (AC.cells [AV.nils, nU 0, nU 0, nU 0, nU 0, nU 0, nU 0]) = ABlk.mk true 7 (AC.cells [AV.nils, nU 0, nU 0, nU 0, nU 0, nU 0, nU 0]) ∧ True) ∧ sp (decide (r.bs.length < 64)) ((∃ (y : Unit), decide (r.bs.length < 64) = true ∧ [AV.agg [AV.nils, nU 0, nU 0, nU 0, nU 0, nU 0, nU 0]] = [AV.agg [AV.nils, nU 0, nU 0, nU 0, nU
  0, nU 0, nU 0]] ∧ bR r.bs = bR r.bs ∧ True) ∨ ∃ (y : Unit), decide (r.bs.length < 64) = false ∧ [AV.agg [AV.nils, nU 0, nU 0, nU 0, nU 0, nU 0, nU 0]] = [AV.agg [AV.sl 4 0 0 (r.bs.length / 64) (r.bs.length / 64) false, nU 0, nU 0, nU 0, nU 0, nU 0, nU 0]] ∧ bR r.bs = bR r.bs ∧ True) ((∃ (y : Unit), decide (r.bs.length < 64) = true ∧ (laidC_c_p0 r) = [AV.agg [AV.nils, nU 0, nU 0, nU 0, nU 0, nU 0, nU 0]] ∧ bR r.bs = bR r.bs ∧ True) ∨ ∃ (y : Unit), decide (r.bs.length < 64) = false ∧ (laidC_c_p0 r) = (laidC_c_p0 r) ∧ bR r.bs = bR r.bs ∧ True)
theorem laidC_c_e (r : Row) : some (laidC_c_V r) = (laidC.cond sp Go.Proofs.Tryz.prog (drP sp Go.Proofs.Tryz.prog) (forF F_dev_laid ((laidL Go.Proofs.Tryz.prog).lo sp Go.Proofs.Tryz.prog (isLoop 2) (loopOf Go.Proofs.Tryz.prog F_dev_laid 0)) noLoops) noBaseK 40 2 r) := by kernel_rfl
set_option maxRecDepth 100000 in
theorem laidC_ok : laidC.OK Go.Proofs.Tryz.prog := by
  refine Con.by hmix (forF_ok (Lp.lo_ok laidL_ok rfl) (noLoops_ok _)) (noBaseK_ok _) laidC_c_V laidC_c_e (fun r hr => ?_)
  have h1 : r.bs.length ≤ 100000000 := hr.1
  have h2 : r.bs.length ≤ r.c := hr.2
  unfold laidC_c_V laidC_c_p0
  refine ⟨rfl, ⟨Nat.zero_le _, h1, h2, fun h => (by cases h), fun _ => rfl⟩, ⟨⟨by simp, rfl, rfl, trivial⟩, rfl, rfl, rfl, trivial⟩, spI (fun h => .inl ⟨(), h, rfl, rfl, trivial⟩) (fun h => .inr ⟨(), h, rfl, rfl, trivial⟩)⟩
abbrev devNewL_c_p0 (i : DnI) : Prop :=
  false = false ∧ 3 = 3 ∧ i.e.n = i.e.n ∧ ∀ (i_1 : Nat), i_1 < i.e.n → [nI (i.e.at_ i_1), nI (i.e.kind i_1), nB (i.e.byte i_1)] = [nI (i.e.at_ i_1), nI (i.e.kind i_1), nB (i.e.byte i_1)]
abbrev devNewL_c_p1 (i : DnI) : List AV :=
  [AV.agg [nI (i.e.at_ (0 + (↑i.k : Int).toNat)), nI (i.e.kind (0 + (↑i.k : Int).toNat)), nB (i.e.byte (0 + (↑i.k : Int).toNat))]]
def devNewL_c_V (i : DnI) : Prop :=
  sp (decide ((↑i.k : Int) < (↑i.e.n : Int))) (sp (decide ((↑i.k : Int) < (↑i.e.n : Int)) && true) (sp (decide (0 + (↑i.k : Int).toNat < i.e.n) && true && (decide (0 + (↑i.k : Int).toNat < i.e.n) && true && (decide (0 + (↑i.k : Int).toNat < i.e.n) && true && true))) (True ∧ [] ++ (devNewL_c_p1 i) ++ [] = (devNewL_c_p1 i) ∧ True ∧ (∀ (y : Unit), True → sp (!mayN (EvX.mk (i.e.at_ (0 + (↑i.k : Int).toNat)) (i.e.kind (0 + (↑i.k : Int).toNat)) (i.e.byte (0 + (↑i.k : Int).toNat)))) (sp (evsOk i.e i.k) False ((AV.nilp = AV.nilp ∧ nI 2 = nI 2 ∧ True) ∧ (devNewL_c_p0 i) ∧ bR i.d.bs = bR i.d.bs ∧ True)) (∃ (j : DnI), (j.k ≤ j.e.n ∧ j.e.n ≤ 100000000) ∧ j.e.n - j.k < i.e.n - i.k ∧ [(evsOk j.e j.k, LOut.mk (AX.exit 0) [(0, AV.msl 0 0 0 j.e.n j.e.c), (1, AV.msl 1 0 0 j.d.bs.length j.d.c)] 2 [(0, ABlk.mk false 3 (AC.recs j.e.n j.e.f)), (1, bR j.d.bs)]), (true, LOut.mk AX.ret [(4, AV.nilp), (5, nI 2)] 2
  [(0, ABlk.mk false 3 (AC.recs j.e.n j.e.f)), (1, bR j.d.bs)])] = [(evsOk i.e i.k, LOut.mk (AX.exit 0) [(0, AV.msl 0 0 0 i.e.n i.e.c), (1, AV.msl 1 0 0 i.d.bs.length i.d.c)] 2 [(0, ABlk.mk false 3 (AC.recs i.e.n i.e.f)), (1, bR i.d.bs)]), (true, LOut.mk AX.ret [(4, AV.nilp), (5, nI 2)] 2 [(0, ABlk.mk false 3 (AC.recs i.e.n i.e.f)), (1, bR i.d.bs)])] ∧ (AV.msl 0 0 0 i.e.n i.e.c = AV.msl 0 0 0 j.e.n j.e.c ∧ AV.msl 1 0 0 i.d.bs.length i.d.c = AV.msl 1 0 0 j.d.bs.length j.d.c ∧ AV.msl 0 0 0 i.e.n i.e.c = AV.msl 0 0 0 j.e.n j.e.c ∧ nI (↑i.e.n : Int) = nI (↑j.e.n : Int) ∧ nI (IntKind.i64.wrap ((↑i.k : Int) + 1)) = nI (↑j.k : Int) ∧ True) ∧ (false = false ∧ 3 = 3 ∧ i.e.n = j.e.n ∧ ∀ (i_1 : Nat), i_1 < i.e.n → [nI (i.e.at_ i_1), nI (i.e.kind i_1), nB (i.e.byte i_1)] = [nI (j.e.at_ i_1), nI (j.e.kind i_1), nB (j.e.byte i_1)]) ∧ bR i.d.bs = bR j.d.bs ∧ True)) ∧ True) False) False) (sp (evsOk i.e
  i.k) ((AV.msl 0 0 0 i.e.n i.e.c = AV.msl 0 0 0 i.e.n i.e.c ∧ AV.msl 1 0 0 i.d.bs.length i.d.c = AV.msl 1 0 0 i.d.bs.length i.d.c ∧ True) ∧ (devNewL_c_p0 i) ∧ bR i.d.bs = bR i.d.bs ∧ True) False)
theorem devNewL_c_e (i : DnI) : some (devNewL_c_V i) = (some ((devNewL Go.Proofs.Tryz.prog).body sp Go.Proofs.Tryz.prog (evC.orc sp) (drP sp Go.Proofs.Tryz.prog (evC.orc sp)) noLo 40 i)) := by kernel_rfl
set_option maxRecDepth 100000 in
theorem devNewL_ok : (devNewL Go.Proofs.Tryz.prog).OK Go.Proofs.Tryz.prog := by
  refine Lp.ok_of (Con.orc_ok evC_ok) (drP_ok hmix _ (Con.orc_ok evC_ok)) (noLo_ok _) (by decide) 40 (fun i hi => ?_)
  rw [← Option.some.inj (devNewL_c_e i)]
  have h1 : i.k ≤ i.e.n := hi.1
  have h2 : i.e.n ≤ 100000000 := hi.2
  unfold devNewL_c_V devNewL_c_p1 devNewL_c_p0
  by_cases hk : i.k < i.e.n
  · have hx0 : 0 + (i.k : Int).toNat = i.k := by simp
    have hw : IntKind.wrap .i64 ((i.k : Int) + 1) = ((i.k + 1 : Nat) : Int) := by rw [IntWalk.i64_in _ (by omega)]; omega
    have hs := evsOk_step i.e i.k hk
    rw [hx0, hw]
    refine spT (by simp; omega) (spT (by simp; omega) (spT (by simp [hk]) ⟨trivial, rfl, trivial, fun _ _ => spI (fun h => ?_) (fun h => ?_), trivial⟩))
    · have h : mayN (i.e.x i.k) = false := by
        have h' : (!mayN (i.e.x i.k)) = true := h
        cases hq : mayN (i.e.x i.k)
        · rfl
        · rw [hq] at h'; cases h'
      refine spF (by rw [hs, h]; rfl) ⟨⟨rfl, rfl, trivial⟩, ⟨rfl, rfl, rfl, fun _ _ => rfl⟩, rfl, trivial⟩
    · have h : mayN (i.e.x i.k) = true := by
        have h' : (!mayN (i.e.x i.k)) = false := h
        cases hq : mayN (i.e.x i.k)
        · rw [hq] at h'; cases h'
        · rfl
      refine ⟨⟨i.e, i.d, i.k + 1⟩, ⟨hk, h2⟩, ?_, ?_, ⟨rfl, rfl, rfl, rfl, rfl, trivial⟩, ⟨rfl, rfl, rfl, fun _ _ => rfl⟩, rfl, trivial⟩
      · show i.e.n - (i.k + 1) < i.e.n - i.k; omega
      · rw [hs, h, Bool.true_and]
  · refine spF (by simp; omega) (spT (evsOk_end _ _ (by omega)) ⟨⟨rfl, rfl, trivial⟩, ⟨rfl, rfl, rfl, fun _ _ => rfl⟩, rfl, trivial⟩)
end Go.Proofs.YtmbcpmbpkdeioaaGreatDoor.W
