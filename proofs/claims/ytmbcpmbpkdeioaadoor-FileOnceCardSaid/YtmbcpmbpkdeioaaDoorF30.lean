/- Numbers of functions and types, as this seat's program has them. No condition. -/
import Derived.Test.YtmbcpmbpkdeioaaDoorProg
import Derived.Test.YtmbcpmbpkdeioaaDoorEn24
import Derived.IntWalk
import Derived.Laws.BitsLemmas
import Derived.Laws.Bits64
import Derived.KernelRfl
namespace Go.Proofs.YtmbcpmbpkdeioaaDoor.W
open Go
abbrev F_main_main : Nat := 0
abbrev F_gosem_cut : Nat := 1
abbrev F_gosem_cut_init : Nat := 2
abbrev F_mummerlaw30_FileOnce : Nat := 3
abbrev F_mummerlaw30_FileBack : Nat := 4
abbrev F_mummerref29_Sealed : Nat := 5
abbrev F_file_Decode : Nat := 6
abbrev F_judge_Tell : Nat := 7
abbrev F_mummerlaw30_works : Nat := 8
abbrev F_file_Encode : Nat := 9
abbrev F_file_May : Nat := 10
abbrev F_judge_Parts : Nat := 11
abbrev F_mummerref29_Sum : Nat := 12
abbrev F_file_Decode_1 : Nat := 13
abbrev F_wire_Open : Nat := 14
abbrev F_file_give : Nat := 15
abbrev F_file_magic : Nat := 16
abbrev F_file_reader_saved : Nat := 17
abbrev F_judge_parts : Nat := 18
abbrev F_judge_teller_say : Nat := 19
abbrev F_file_writer_ints : Nat := 20
abbrev F_file_writer_row : Nat := 21
abbrev F_file_writer_state : Nat := 22
abbrev F_file_writer_numbers : Nat := 23
abbrev F_wire_Seal : Nat := 24
abbrev F_machine_Load : Nat := 25
abbrev F_wire_Sum : Nat := 26
abbrev F_file_reader_int : Nat := 27
abbrev F_file_reader_row : Nat := 28
abbrev F_file_reader_state : Nat := 29
abbrev F_file_reader_notes : Nat := 30
abbrev F_file_reader_script : Nat := 31
abbrev F_file_reader_number : Nat := 32
abbrev F_judge_numbers : Nat := 33
abbrev F_judge_states : Nat := 34
abbrev F_judge_bytes : Nat := 35
abbrev F_judge_list : Nat := 36
abbrev F_judge_Notes : Nat := 37
abbrev F_judge_Events : Nat := 38
abbrev F_judge_devices : Nat := 39
abbrev F_judge_parts_1 : Nat := 40
abbrev F_wire_Put : Nat := 41
abbrev F_wire_PutBytes : Nat := 42
abbrev F_machine_fits : Nat := 43
abbrev F_ram_New : Nat := 44
abbrev F_machine_Resume : Nat := 45
abbrev F_wire_moved : Nat := 46
abbrev F_file_reader_upTo : Nat := 47
abbrev F_wire_GetBytes : Nat := 48
abbrev F_file_reader_count : Nat := 49
abbrev F_judge_numbers_1 : Nat := 50
abbrev F_judge_both : Nat := 51
abbrev F_judge_number : Nat := 52
abbrev F_judge_apart : Nat := 53
abbrev F_judge_states_1 : Nat := 54
abbrev F_judge_first_byte : Nat := 55
abbrev F_judge_bytes_1 : Nat := 56
abbrev F_judge_at : Nat := 57
abbrev F_judge_list_1 : Nat := 58
abbrev F_judge_first_api_Note : Nat := 59
abbrev F_judge_first_api_Event : Nat := 60
abbrev F_ram_RAM_Size : Nat := 61
abbrev F_dev_Load : Nat := 62
abbrev F_ram_RAM_Fill : Nat := 63
abbrev F_wire_Get : Nat := 64
abbrev F_strconv_Itoa : Nat := 65
abbrev F_judge_values : Nat := 66
abbrev F_judge_first_byte_1 : Nat := 67
abbrev F_judge_first_api_Note_1 : Nat := 68
abbrev F_judge_first_api_Event_1 : Nat := 69
abbrev F_dev_New : Nat := 70
abbrev F_dev_ordered : Nat := 71
abbrev F_slices_Clone_byte_byte : Nat := 72
abbrev F_ram_lay : Nat := 73
abbrev F_ram_RAM_within : Nat := 74
abbrev F_ram_RAM_at : Nat := 75
abbrev F_internal_strconv_Itoa : Nat := 76
abbrev F_dev_may : Nat := 77
abbrev F_slices_Clone_api_Event_api_Event : Nat := 78
abbrev F_dev_laid : Nat := 79
abbrev F_internal_strconv_FormatInt : Nat := 80
abbrev F_internal_strconv_small : Nat := 81
abbrev F_internal_strconv_numDigits : Nat := 82
abbrev F_internal_strconv_formatBase10 : Nat := 83
abbrev F_internal_strconv_formatBits : Nat := 84
abbrev F_internal_strconv_log10Pow2 : Nat := 85
abbrev F_math_bits_Len64 : Nat := 86
abbrev F_internal_strconv_bool2_int : Nat := 87
abbrev F_internal_strconv_isPowerOfTwo : Nat := 88
abbrev F_math_bits_TrailingZeros : Nat := 89
abbrev F_math_bits_TrailingZeros32 : Nat := 90
abbrev F_math_bits_TrailingZeros64 : Nat := 91
abbrev F_runtime_boundsError_Error : Nat := 92
abbrev F_runtime_boundsError_RuntimeError : Nat := 93
abbrev F_runtime_errorString_Error : Nat := 94
abbrev F_runtime_errorString_RuntimeError : Nat := 95
abbrev F_runtime_plainError_Error : Nat := 96
abbrev F_runtime_plainError_RuntimeError : Nat := 97
abbrev F_runtime_errorAddressString_Error : Nat := 98
abbrev F_runtime_errorAddressString_RuntimeError : Nat := 99
abbrev F_runtime_TypeAssertionError_Error : Nat := 100
abbrev F_runtime_TypeAssertionError_RuntimeError : Nat := 101
abbrev F_runtime_PanicNilError_Error : Nat := 102
abbrev F_runtime_PanicNilError_RuntimeError : Nat := 103
abbrev F_internal_abi_Type_Align : Nat := 104
abbrev F_internal_runtime_maps_unhashableTypeError_Error : Nat := 105
abbrev F_internal_runtime_maps_unhashableTypeError_RuntimeError : Nat := 106
abbrev F_api_Errno_Error : Nat := 107
abbrev F_machine_Machine_Step : Nat := 108
abbrev F_dev_Dev_Taken : Nat := 109
abbrev F_internal_abi_Kind_String : Nat := 110
abbrev F_var_s_door_gosem_cut_vars_holds_initialisers_alone_see_the_manifest_s_row_cutvarsword_look_11_test_files_too : Nat := 111
abbrev F_var_s_door_internal_strconv_uint64pow10_is_laid_by_its_own_initialiser_plain_data_look_11 : Nat := 112
abbrev F_var_s_door_math_bits_deBruijn32tab_is_laid_by_its_own_initialiser_plain_data_look_11 : Nat := 113
abbrev F_var_s_door_math_bits_deBruijn64tab_is_laid_by_its_own_initialiser_plain_data_look_11 : Nat := 114
abbrev F_var_s_door_the_look_of_gosem_cut_vars_went_over_the_folder_that_the_caller_named_as_the_repository_s_root_look_11 : Nat := 115
abbrev F_gosem_cut_vars : Nat := 116
abbrev T_abi_BoundsErrorCode : Nat := 6
abbrev T_maps_unhashableTypeError : Nat := 19
abbrev T_api_State : Nat := 27
abbrev T_api_Saved : Nat := 31
abbrev T_api_Errno : Nat := 32
abbrev T_file_wrong : Nat := 46
abbrev T_file_reader : Nat := 54
abbrev T_judge_part : Nat := 60
abbrev T_judge_teller : Nat := 61
abbrev T_file_writer : Nat := 64
abbrev T_api_Note : Nat := 69
abbrev T_api_Event : Nat := 72
abbrev T_judge_value : Nat := 113
abbrev T_ram_RAM : Nat := 117
abbrev T_machine_Machine : Nat := 123
abbrev T_dev_waiting : Nat := 130
abbrev T_dev_order : Nat := 133
abbrev T_dev_disk : Nat := 135
abbrev T_dev_Dev : Nat := 137
abbrev T_dev_block : Nat := 146
abbrev T_abi_TFlag : Nat := 164
abbrev T_abi_Kind : Nat := 165
abbrev T_abi_NameOff : Nat := 168
abbrev T_abi_TypeOff : Nat := 169
abbrev T_abi_Type : Nat := 171
end Go.Proofs.YtmbcpmbpkdeioaaDoor.W
/- Numbers of functions and types, as this seat's program has them. No condition. -/
namespace Go.Proofs.YtmbcpmbpkdeioaaDoor.W
open Go
abbrev T_sl_b_int64 : Nat := 2
abbrev T_sl_b_int : Nat := 3
abbrev T_sl_b_bool : Nat := 4
abbrev T_sl_b_uint8 : Nat := 5
abbrev T_sl_b_string : Nat := 9
abbrev T_sl_uint8 : Nat := 22
abbrev T_sl_b_uint32 : Nat := 24
abbrev T_sl_api_Note : Nat := 28
abbrev T_sl_api_Event : Nat := 29
abbrev T_sl_string : Nat := 41
abbrev T_sl_judge_part : Nat := 56
abbrev T_sl_int : Nat := 92
abbrev T_sl_b_uint64 : Nat := 94
abbrev T_sl_uint32 : Nat := 96
abbrev T_sl_uint8_x : Nat := 101
abbrev T_sl_judge_value : Nat := 109
abbrev T_sl_dev_block : Nat := 131
end Go.Proofs.YtmbcpmbpkdeioaaDoor.W
/- The bytes of numbers, and sums: what is reckoned, and the loops' states. No condition. -/
namespace Go.Proofs.YtmbcpmbpkdeioaaDoor.W
open Go Go.RowKit Go.Eng
set_option maxRecDepth 100000
set_option linter.unusedVariables false
set_option linter.unusedSimpArgs false
theorem p7 : (2 : Int) ^ 7 = 128 := by decide
theorem putDec {n : Int} (h : ¬ n < 128) : (n.fdiv 128).toNat < n.toNat := by
  rw [Int.fdiv_eq_ediv_of_nonneg _ (by decide)]; omega
/-- A number's bytes. -/
def putN (n : Int) : List Int := if n < 128 then [IntKind.wrap .u8 n] else bits .or .u8 (IntKind.wrap .u8 n) 128 :: putN (n.fdiv 128)
termination_by n.toNat
decreasing_by exact putDec (by assumption)
structure PutI where
  n : Int
  xs : List Int
def putL (P : Program) : Lp PutI where
  B := 0
  n := ntmpsOf P F_wire_Put
  code := loopOf P F_wire_Put 0
  fit s H := match s.get 1, s.get 5 with
    | .int _ n, .sl b _ _ _ _ _ => match H.get b with
      | some k => match k.c with
        | .ints _ xs => some ⟨n, xs⟩
        | _ => none
      | none => none
    | _, _ => none
  pre i := i.xs.length + (putN i.n).length ≤ 1000
  slots i := [(1, .int .u64 i.n), (5, .sl 0 0 0 i.xs.length i.xs.length false)]
  nx i := 1
  L i := [(0, ⟨true, 1, .ints .u8 i.xs⟩)]
  m i := i.n.toNat
  outs i := [(true, ⟨.exit 0, [(5, .sl 0 0 0 (i.xs ++ putN i.n).length (i.xs ++ putN i.n).length false)], 1, [(0, ⟨true, 1, .ints .u8 (i.xs ++ putN i.n)⟩)]⟩)]
/-- Put of a row that is not there. -/
def putC : Con Int Unit where
  f := F_wire_Put
  fit vs H := match vs with
    | [.nils, .int _ n] => some ([], n)
    | _ => none
  n0 := 0
  pre n := (putN n).length ≤ 900
  args n := [.nils, .int .u64 n]
  L0 n := []
  outs n := [(fun _ => True, fun _ => (.ret (.sl 0 0 0 (putN n).length (putN n).length false), 1, [(0, ⟨true, 1, .ints .u8 (putN n)⟩)]))]
/-! ### the sum -/
def movedStep (r : Int) : Int := if bits .and .u32 r 1 = 1 then bits .xor .u32 (r.fdiv 2) 3988292384 else r.fdiv 2
def movedSteps : Nat → Int → Int
  | 0, r => r
  | k + 1, r => movedSteps k (movedStep r)
def movedN (r x : Int) : Int := movedSteps 8 (bits .xor .u32 r (IntKind.wrap .u32 x))
structure MovI where
  r : Int
  k : Nat
def movedL (P : Program) : Lp MovI where
  B := 0
  n := ntmpsOf P F_wire_moved
  code := loopOf P F_wire_moved 0
  fit s H := match s.get 0, s.get 10 with
    | .int _ r, .int _ k => some ⟨r, k.toNat⟩
    | _, _ => none
  pre i := i.k ≤ 8
  slots i := [(0, .int .u32 i.r), (10, .int .i64 i.k)]
  nx i := 0
  L i := []
  m i := 8 - i.k
  outs i := [(true, ⟨.exit 0, [(0, .int .u32 (movedSteps (8 - i.k) i.r))], 0, []⟩)]
structure MovX where
  r : Int
  x : Int
def movedC : Con MovX Unit where
  f := F_wire_moved
  fit vs H := match vs with
    | [.int _ r, .int _ x] => some ([], ⟨r, x⟩)
    | _ => none
  n0 := 0
  pre _ := True
  args i := [.int .u32 i.r, .int .u8 i.x]
  L0 _ := []
  outs i := [(fun _ => True, fun _ => (.ret (.int .u32 (movedN i.r i.x)), 0, []))]
def sumR (r : Int) : List Int → Int
  | [] => r
  | x :: l => sumR (movedN r x) l
def sumB (l : List Int) : Int := bits .xor .u32 4294967295 (sumR 4294967295 l)
structure SumI where
  bs : List Int
  n : Nat
  c : Nat
  ex : Bool
  own : Bool
  r : Int
  j : Nat
def sumL (P : Program) : Lp SumI where
  B := 2
  n := ntmpsOf P F_wire_Sum
  code := (loopsIn (loopOf P F_wire_Sum 0)).getD 0 .skip
  fit s H := match s.get 3, s.get 16, s.get 14 with
    | .int _ r, .int _ j, .sl b _ _ n c ex => match H.get b with
      | some k => match k.c with
        | .ints _ bs => some ⟨bs, n, c, ex, k.own, r, j.toNat⟩
        | _ => none
      | none => none
    | _, _, _ => none
  pre i := i.j ≤ i.n ∧ i.n ≤ i.bs.length ∧ i.n ≤ 9223372036854775807
  slots i := [(3, .int .u32 i.r), (8, .sl 0 0 0 1 1 true), (9, .int .i64 1), (10, .int .i64 0), (14, .sl 1 0 0 i.n i.c i.ex), (15, .int .i64 i.n), (16, .int .i64 i.j)]
  nx i := 2
  L i := [(1, ⟨i.own, 1, .ints .u8 i.bs⟩)]
  m i := i.n - i.j
  outs i := [(true, ⟨.exit 2, [(3, .int .u32 (sumR i.r ((i.bs.take i.n).drop i.j))), (8, .sl 0 0 0 1 1 true), (9, .int .i64 1), (10, .int .i64 0)], 2, [(1, ⟨i.own, 1, .ints .u8 i.bs⟩)]⟩)]
structure SumX where
  bs : List Int
  n : Nat
  c : Nat
  ex : Bool
  own : Bool
def sumC : Con SumX Unit where
  f := F_wire_Sum
  fit vs H := match vs with
    | [.sl b0 _ _ _ _ _] => match H.get b0 with
      | some k0 => match k0.c with
        | .cells [.sl b _ _ n c ex] => match H.get b with
          | some k => match k.c with
            | .ints _ bs => some ([b0, b], ⟨bs, n, c, ex, k.own⟩)
            | _ => none
          | none => none
        | _ => none
      | none => none
    | _ => none
  n0 := 2
  pre i := i.n ≤ i.bs.length ∧ i.n ≤ 9223372036854775807
  args i := [.sl 0 0 0 1 1 true]
  L0 i := [(0, ⟨true, 1, .cells [.sl 1 0 0 i.n i.c i.ex]⟩), (1, ⟨i.own, 1, .ints .u8 i.bs⟩)]
  outs i := [(fun _ => True, fun _ => (.ret (.int .u32 (sumB (i.bs.take i.n))), 2, [(1, ⟨i.own, 1, .ints .u8 i.bs⟩)]))]
def sumML (P : Program) : Lp SumI where
  B := 2
  n := ntmpsOf P F_wire_Sum
  code := (loopsIn (loopOf P F_wire_Sum 0)).getD 0 .skip
  fit s H := match s.get 3, s.get 16, s.get 14 with
    | .int _ r, .int _ j, .msl b _ _ n c => match H.get b with
      | some k => match k.c with
        | .ints _ bs => some ⟨bs, n, c, false, k.own, r, j.toNat⟩
        | _ => none
      | none => none
    | _, _, _ => none
  pre i := i.j ≤ i.n ∧ i.n ≤ i.bs.length ∧ i.n ≤ 9223372036854775807
  slots i := [(3, .int .u32 i.r), (8, .sl 0 0 0 1 1 true), (9, .int .i64 1), (10, .int .i64 0), (14, .msl 1 0 0 i.n i.c), (15, .int .i64 i.n), (16, .int .i64 i.j)]
  nx i := 2
  L i := [(1, ⟨i.own, 1, .ints .u8 i.bs⟩)]
  m i := i.n - i.j
  outs i := [(true, ⟨.exit 2, [(3, .int .u32 (sumR i.r ((i.bs.take i.n).drop i.j))), (8, .sl 0 0 0 1 1 true), (9, .int .i64 1), (10, .int .i64 0)], 2, [(1, ⟨i.own, 1, .ints .u8 i.bs⟩)]⟩)]
def sumMC : Con SumX Unit where
  f := F_wire_Sum
  fit vs H := match vs with
    | [.sl b0 _ _ _ _ _] => match H.get b0 with
      | some k0 => match k0.c with
        | .cells [.msl b _ _ n c] => match H.get b with
          | some k => match k.c with
            | .ints _ bs => some ([b0, b], ⟨bs, n, c, false, k.own⟩)
            | _ => none
          | none => none
        | _ => none
      | none => none
    | _ => none
  n0 := 2
  pre i := i.n ≤ i.bs.length ∧ i.n ≤ 9223372036854775807
  args i := [.sl 0 0 0 1 1 true]
  L0 i := [(0, ⟨true, 1, .cells [.msl 1 0 0 i.n i.c]⟩), (1, ⟨i.own, 1, .ints .u8 i.bs⟩)]
  outs i := [(fun _ => True, fun _ => (.ret (.int .u32 (sumB (i.bs.take i.n))), 2, [(1, ⟨i.own, 1, .ints .u8 i.bs⟩)]))]
/-! ### Seal -/
def sealB (l : List Int) : List Int := l ++ [IntKind.wrap .u8 (sumB l), IntKind.wrap .u8 ((sumB l).fdiv 256), IntKind.wrap .u8 ((sumB l).fdiv 65536), IntKind.wrap .u8 ((sumB l).fdiv 16777216)]
def sealC : Con (List Int) Unit where
  f := F_wire_Seal
  fit vs H := match vs with
    | [.sl b _ _ _ _ _] => match H.get b with
      | some k => match k.c with
        | .ints _ bs => some ([b], bs)
        | _ => none
      | none => none
    | _ => none
  n0 := 1
  pre l := l.length ≤ 1000000000
  args l := [.sl 0 0 0 l.length l.length false]
  L0 l := [(0, ⟨true, 1, .ints .u8 l⟩)]
  outs l := [(fun _ => True, fun _ => (.ret (.sl 1 0 0 (sealB l).length (sealB l).length false), 2, [(1, ⟨true, 1, .ints .u8 (sealB l)⟩)]))]
end Go.Proofs.YtmbcpmbpkdeioaaDoor.W
/- The bytes of numbers, and sums: the walks. No condition. -/
namespace Go.Proofs.YtmbcpmbpkdeioaaDoor.W
open Go Go.RowKit Go.Eng
set_option maxRecDepth 100000
set_option linter.unusedVariables false
set_option linter.unusedSimpArgs false
theorem hmix : Go.Proofs.Tryd.prog.follows .mixedOrders = true := by kernel_rfl
def putL_c_V (i : PutI) : Prop :=
  sp (decide (i.n < 128)) (sp (decide (0 + i.xs.length ≤ i.xs.length) && true && true && true && true && decide ((i.xs.length + 1) * 1 ≤ 140737488355328) && decide (i.xs.length + 1 ≤ 9223372036854775807)) ((AV.sl 2 0 0 (i.xs.length + 1) (i.xs.length + 1) false = AV.sl 2 0 0 (i.xs ++ putN i.n).length (i.xs ++ putN i.n).length false ∧ True) ∧ bW ((List.take i.xs.length (List.drop 0 i.xs) ++ List.take 1 (List.drop 0 [IntKind.u8.wrap i.n]))) = bW ((i.xs ++ putN i.n)) ∧ True) False) (sp (decide (0 + i.xs.length ≤ i.xs.length) && true && true && true && true && decide ((i.xs.length + 1) * 1 ≤ 140737488355328) && decide (i.xs.length + 1 ≤ 9223372036854775807)) (∃ (j : PutI), (j.xs.length + (putN j.n).length).le 1000 ∧ j.n.toNat < i.n.toNat ∧ [(true, LOut.mk (AX.exit 0) [(5, AV.sl 0 0 0 (j.xs ++ putN j.n).length (j.xs ++ putN j.n).length false)] 1 [(0, bW ((j.xs ++ putN j.n)))])] = [(true, LOut.mk
  (AX.exit 0) [(5, AV.sl 0 0 0 (i.xs ++ putN i.n).length (i.xs ++ putN i.n).length false)] 1 [(0, bW ((i.xs ++ putN i.n)))])] ∧ (nL (i.n.fdiv 128) = nL j.n ∧ AV.sl 2 0 0 (i.xs.length + 1) (i.xs.length + 1) false = AV.sl 2 0 0 j.xs.length j.xs.length false ∧ True) ∧ bW ((List.take i.xs.length (List.drop 0 i.xs) ++ List.take 1 (List.drop 0 [bits BinOp.or IntKind.u8 (IntKind.u8.wrap i.n) 128]))) = bW j.xs ∧ True) False)
theorem putL_c_e (i : PutI) : some (putL_c_V i) = (some ((putL Go.Proofs.Tryd.prog).body sp Go.Proofs.Tryd.prog noBaseK (drP sp Go.Proofs.Tryd.prog noBaseK) noLo 40 i)) := by kernel_rfl
theorem putL_ok : (putL Go.Proofs.Tryd.prog).OK Go.Proofs.Tryd.prog := by
  refine Lp.ok_of (noBaseK_ok _) (drP_ok hmix _ (noBaseK_ok _)) (noLo_ok _) (by decide) 40 (fun i hi => ?_)
  rw [← Option.some.inj (putL_c_e i)]
  have hn := putN.eq_1 i.n
  have hk : i.xs.length + (putN i.n).length ≤ 1000 := hi
  unfold putL_c_V
  refine sp_iff.2 ⟨fun h => sp_iff.2 ⟨fun h2 => ?_, fun h2 => ?_⟩, fun h => sp_iff.2 ⟨fun h2 => ?_, fun h2 => ?_⟩⟩
  · simp only [decide_eq_true_eq] at h
    rw [if_pos h] at hn
    simp [hn]
  · simp at h2
    omega
  · simp only [decide_eq_false_iff_not] at h
    rw [if_neg h] at hn
    refine ⟨⟨i.n.fdiv 128, i.xs ++ [bits .or .u8 (IntKind.wrap .u8 i.n) 128]⟩, by rw [hn] at hk; simp at hk ⊢; omega, putDec h, ?_, ?_⟩
    · simp [hn]
    · simp
  · simp at h2
    omega
def putC_c_V (n : Int) : Prop :=
  same (loopOf Proofs.Tryd.prog F_wire_Put 0) (loopOf Proofs.Tryd.prog F_wire_Put 0) ∧ (0 + (putN n).length).le 1000 ∧ ((nL n = nL n ∧ AV.sl 1 0 0 0 0 false = AV.sl 1 0 0 0 0 false ∧ True) ∧ bW [] = bW [] ∧ True) ∧ ∃ (y : Unit), True ∧ [AV.sl 0 0 0 ([] ++ putN n).length ([] ++ putN n).length false] = [AV.sl 0 0 0 (putN n).length (putN n).length false] ∧ bW (([] ++ putN n)) = bW ((putN n)) ∧ True
theorem putC_c_e (n : Int) : some (putC_c_V n) = (putC.cond sp Go.Proofs.Tryd.prog (drP sp Go.Proofs.Tryd.prog) (forF F_wire_Put ((putL Go.Proofs.Tryd.prog).lo sp Go.Proofs.Tryd.prog (isLoop 2) (loopOf Go.Proofs.Tryd.prog F_wire_Put 0)) noLoops) noBaseK 40 2 n) := by kernel_rfl
theorem putC_ok : putC.OK Go.Proofs.Tryd.prog := by
  refine Con.by hmix (forF_ok (Lp.lo_ok putL_ok rfl) (noLoops_ok _)) (noBaseK_ok _) putC_c_V putC_c_e (fun n hn => ?_)
  have hn : (putN n).length ≤ 900 := hn
  have : (putN n).length ≤ 1000 := by omega
  simp [putC_c_V, same, this]
def movedL_c_V (i : MovI) : Prop :=
  sp (decide ((↑i.k : Int) < 8)) (sp (bits BinOp.and IntKind.u32 i.r 1 == 1) (∃ (j : MovI), j.k.le 8 ∧ 8 - j.k < 8 - i.k ∧ [(true, LOut.mk (AX.exit 0) [(0, nU (movedSteps (8 - j.k) j.r))] 0 [])] = [(true, LOut.mk (AX.exit 0) [(0, nU (movedSteps (8 - i.k) i.r))] 0 [])] ∧ (nU (bits BinOp.xor IntKind.u32 (i.r.fdiv 2) 3988292384) = nU j.r ∧ nI (IntKind.i64.wrap ((↑i.k : Int) + 1)) = nI (↑j.k : Int) ∧ True) ∧ True) (∃ (j : MovI), j.k.le 8 ∧ 8 - j.k < 8 - i.k ∧ [(true, LOut.mk (AX.exit 0) [(0, nU (movedSteps (8 - j.k) j.r))] 0 [])] = [(true, LOut.mk (AX.exit 0) [(0, nU (movedSteps (8 - i.k) i.r))] 0 [])] ∧ (nU (i.r.fdiv 2) = nU j.r ∧ nI (IntKind.i64.wrap ((↑i.k : Int) + 1)) = nI (↑j.k : Int) ∧ True) ∧ True)) ((nU i.r = nU (movedSteps (8 - i.k) i.r) ∧ True) ∧ True)
theorem movedL_c_e (i : MovI) : some (movedL_c_V i) = (some ((movedL Go.Proofs.Tryd.prog).body sp Go.Proofs.Tryd.prog noBaseK (drP sp Go.Proofs.Tryd.prog noBaseK) noLo 40 i)) := by kernel_rfl
theorem movedL_ok : (movedL Go.Proofs.Tryd.prog).OK Go.Proofs.Tryd.prog := by
  refine Lp.ok_of (noBaseK_ok _) (drP_ok hmix _ (noBaseK_ok _)) (noLo_ok _) (by decide) 40 (fun i hi => ?_)
  rw [← Option.some.inj (movedL_c_e i)]
  have h1 : i.k ≤ 8 := hi
  unfold movedL_c_V
  refine sp_iff.2 ⟨fun h => ?_, fun h => ?_⟩
  · have hk0 : (i.k : Int) < 8 := by simpa using h
    have hk : i.k < 8 := by omega
    have hw : IntKind.i64.wrap ((i.k : Int) + 1) = (i.k : Int) + 1 := IntWalk.i64_in _ (by omega)
    have hs : 8 - i.k = (8 - (i.k + 1)) + 1 := by omega
    refine sp_iff.2 ⟨fun h2 => ?_, fun h2 => ?_⟩
    · have h2 : bits .and .u32 i.r 1 = 1 := by simpa using h2
      refine ⟨⟨movedStep i.r, i.k + 1⟩, by show i.k + 1 ≤ 8; omega, by show 8 - (i.k + 1) < 8 - i.k; omega, ?_, ?_⟩
      · rw [hs]; rfl
      · simp [hw, movedStep, h2]
    · have h2 : ¬ bits .and .u32 i.r 1 = 1 := by simpa using h2
      refine ⟨⟨movedStep i.r, i.k + 1⟩, by show i.k + 1 ≤ 8; omega, by show 8 - (i.k + 1) < 8 - i.k; omega, ?_, ?_⟩
      · rw [hs]; rfl
      · simp [hw, movedStep, h2]
  · have hk0 : (8 : Int) ≤ i.k := by simpa using h
    have hk : i.k = 8 := by omega
    simp [hk, movedSteps]
def movedC_c_V (i : MovX) : Prop :=
  same (loopOf Proofs.Tryd.prog F_wire_moved 0) (loopOf Proofs.Tryd.prog F_wire_moved 0) ∧ Nat.le 0 8 ∧ ((nU (bits BinOp.xor IntKind.u32 i.r (IntKind.u32.wrap i.x)) = nU (bits BinOp.xor IntKind.u32 i.r (IntKind.u32.wrap i.x)) ∧ nI 0 = nI 0 ∧ True) ∧ True) ∧ ∃ (y : Unit), True ∧ [nU (movedSteps 8 (bits BinOp.xor IntKind.u32 i.r (IntKind.u32.wrap i.x)))] = [nU (movedN i.r i.x)] ∧ True
theorem movedC_c_e (i : MovX) : some (movedC_c_V i) = (movedC.cond sp Go.Proofs.Tryd.prog (drP sp Go.Proofs.Tryd.prog) (forF F_wire_moved ((movedL Go.Proofs.Tryd.prog).lo sp Go.Proofs.Tryd.prog (isLoop 3) (loopOf Go.Proofs.Tryd.prog F_wire_moved 0)) noLoops) noBaseK 40 2 i) := by kernel_rfl
theorem movedC_ok : movedC.OK Go.Proofs.Tryd.prog := by
  refine Con.by hmix (forF_ok (Lp.lo_ok movedL_ok rfl) (noLoops_ok _)) (noBaseK_ok _) movedC_c_V movedC_c_e (fun i _ => ?_)
  simp [movedC_c_V, same, movedN]
def sumL_c_V (i : SumI) : Prop :=
  sp (decide ((↑i.j : Int) < (↑i.n : Int))) (sp (decide ((↑i.j : Int) < (↑i.n : Int)) && true) (sp (decide (0 + (↑i.j : Int).toNat + 0 < i.bs.length)) (True ∧ [] ++ [nU i.r, nB (i.bs.getD (0 + (↑i.j : Int).toNat + 0) 0)] ++ [] = [nU i.r, nB (i.bs.getD (0 + (↑i.j : Int).toNat + 0) 0)] ∧ True ∧ (∀ (y : Unit), True → ∃ (j : SumI), (j.j ≤ j.n ∧ j.n ≤ j.bs.length ∧ j.n ≤ 9223372036854775807) ∧ j.n - j.j < i.n - i.j ∧ [(true, LOut.mk (AX.exit 2) [(3, nU (sumR j.r (List.drop j.j (List.take j.n j.bs)))), (8, AV.sl 0 0 0 1 1 true), (9, nI 1), (10, nI 0)] 2 [(1, ABlk.mk j.own 1 (AC.ints IntKind.u8 j.bs))])] = [(true, LOut.mk (AX.exit 2) [(3, nU (sumR i.r (List.drop i.j (List.take i.n i.bs)))), (8, AV.sl 0 0 0 1 1 true), (9, nI 1), (10, nI 0)] 2 [(1, ABlk.mk i.own 1 (AC.ints IntKind.u8 i.bs))])] ∧ (nU (movedN i.r (i.bs.getD (0 + (↑i.j : Int).toNat + 0) 0)) = nU j.r ∧ AV.sl 0 0 0 1 1 true = AV.sl 0 0 0
  1 1 true ∧ nI 1 = nI 1 ∧ nI 0 = nI 0 ∧ AV.sl 1 0 0 i.n i.c i.ex = AV.sl 1 0 0 j.n j.c j.ex ∧ nI (↑i.n : Int) = nI (↑j.n : Int) ∧ nI (IntKind.i64.wrap ((↑i.j : Int) + 1)) = nI (↑j.j : Int) ∧ True) ∧ ABlk.mk i.own 1 (AC.ints IntKind.u8 i.bs) = ABlk.mk j.own 1 (AC.ints IntKind.u8 j.bs) ∧ True) ∧ True) False) False) ((nU i.r = nU (sumR i.r (List.drop i.j (List.take i.n i.bs))) ∧ AV.sl 0 0 0 1 1 true = AV.sl 0 0 0 1 1 true ∧ nI 1 = nI 1 ∧ nI 0 = nI 0 ∧ True) ∧ ABlk.mk i.own 1 (AC.ints IntKind.u8 i.bs) = ABlk.mk i.own 1 (AC.ints IntKind.u8 i.bs) ∧ True)
theorem sumL_c_e (i : SumI) : some (sumL_c_V i) = (some ((sumL Go.Proofs.Tryd.prog).body sp Go.Proofs.Tryd.prog (movedC.orc sp) (drP sp Go.Proofs.Tryd.prog (movedC.orc sp)) noLo 40 i)) := by kernel_rfl
theorem sumL_ok : (sumL Go.Proofs.Tryd.prog).OK Go.Proofs.Tryd.prog := by
  refine Lp.ok_of (Con.orc_ok movedC_ok) (drP_ok hmix _ (Con.orc_ok movedC_ok)) (noLo_ok _) (by decide) 40 (fun i hi => ?_)
  rw [← Option.some.inj (sumL_c_e i)]
  obtain ⟨h1, h2, h3⟩ := hi
  unfold sumL_c_V
  refine sp_iff.2 ⟨fun h => ?_, fun h => ?_⟩
  · have hj : i.j < i.n := by simpa using h
    have hb : i.j < i.bs.length := by omega
    have e1 : (List.take i.n i.bs).drop i.j = i.bs[i.j] :: (List.take i.n i.bs).drop (i.j + 1) := by
      rw [List.drop_eq_getElem_cons (by simp; omega)]
      simp
    have hw : IntKind.i64.wrap ((i.j : Int) + 1) = (i.j : Int) + 1 := IntWalk.i64_in _ (by omega)
    simp [sp, hj, hb]
    refine ⟨{ i with r := movedN i.r i.bs[i.j], j := i.j + 1 }, ⟨?_, ?_, ?_⟩, ?_, ?_, ?_⟩
    · show i.j + 1 ≤ i.n; omega
    · exact h2
    · exact h3
    · show i.n - (i.j + 1) < i.n - i.j; omega
    · simp [e1, sumR]
    · simp [hw]
  · have hj : i.n ≤ i.j := by simpa using h
    have e1 : (List.take i.n i.bs).drop i.j = [] := by simp; omega
    simp [e1, sumR]
def sumC_c_V (i : SumX) : Prop :=
  same ((loopsIn (loopOf Proofs.Tryd.prog F_wire_Sum 0)).getD 0 Code.skip) ((loopsIn (loopOf Proofs.Tryd.prog F_wire_Sum 0)).getD 0 Code.skip) ∧ (0 ≤ i.n ∧ i.n ≤ i.bs.length ∧ i.n ≤ 9223372036854775807) ∧ ((nU 4294967295 = nU 4294967295 ∧ AV.sl 0 0 0 1 1 true = AV.sl 0 0 0 1 1 true ∧ nI 1 = nI 1 ∧ nI 0 = nI 0 ∧ AV.sl 1 0 0 i.n i.c i.ex = AV.sl 1 0 0 i.n i.c i.ex ∧ nI (↑i.n : Int) = nI (↑i.n : Int) ∧ nI 0 = nI 0 ∧ True) ∧ ABlk.mk i.own 1 (AC.ints IntKind.u8 i.bs) = ABlk.mk i.own 1 (AC.ints IntKind.u8 i.bs) ∧ True) ∧ ∃ (y : Unit), True ∧ [nU (bits BinOp.xor IntKind.u32 4294967295 (sumR 4294967295 (List.drop 0 (List.take i.n i.bs))))] = [nU (sumB (List.take i.n i.bs))] ∧ ABlk.mk i.own 1 (AC.ints IntKind.u8 i.bs) = ABlk.mk i.own 1 (AC.ints IntKind.u8 i.bs) ∧ True
theorem sumC_c_e (i : SumX) : some (sumC_c_V i) = (sumC.cond sp Go.Proofs.Tryd.prog (drP sp Go.Proofs.Tryd.prog) (forF F_wire_Sum ((sumL Go.Proofs.Tryd.prog).lo sp Go.Proofs.Tryd.prog (isLoop 6) ((loopsIn (loopOf Go.Proofs.Tryd.prog F_wire_Sum 0)).getD 0 .skip)) noLoops) (movedC.orc sp) 40 2 i) := by kernel_rfl
theorem sumC_ok : sumC.OK Go.Proofs.Tryd.prog := by
  refine Con.by hmix (forF_ok (Lp.lo_ok sumL_ok rfl) (noLoops_ok _)) (Con.orc_ok movedC_ok) sumC_c_V sumC_c_e (fun i hi => ?_)
  obtain ⟨h1, h2⟩ := hi
  simp [sumC_c_V, same, sumB, h1, h2]
def sumML_c_V (i : SumI) : Prop :=
  sp (decide ((↑i.j : Int) < (↑i.n : Int))) (sp (decide ((↑i.j : Int) < (↑i.n : Int)) && true) (sp (decide (0 + (↑i.j : Int).toNat + 0 < i.bs.length)) (True ∧ [] ++ [nU i.r, nB (i.bs.getD (0 + (↑i.j : Int).toNat + 0) 0)] ++ [] = [nU i.r, nB (i.bs.getD (0 + (↑i.j : Int).toNat + 0) 0)] ∧ True ∧ (∀ (y : Unit), True → ∃ (j : SumI), (j.j ≤ j.n ∧ j.n ≤ j.bs.length ∧ j.n ≤ 9223372036854775807) ∧ j.n - j.j < i.n - i.j ∧ [(true, LOut.mk (AX.exit 2) [(3, nU (sumR j.r (List.drop j.j (List.take j.n j.bs)))), (8, AV.sl 0 0 0 1 1 true), (9, nI 1), (10, nI 0)] 2 [(1, ABlk.mk j.own 1 (AC.ints IntKind.u8 j.bs))])] = [(true, LOut.mk (AX.exit 2) [(3, nU (sumR i.r (List.drop i.j (List.take i.n i.bs)))), (8, AV.sl 0 0 0 1 1 true), (9, nI 1), (10, nI 0)] 2 [(1, ABlk.mk i.own 1 (AC.ints IntKind.u8 i.bs))])] ∧ (nU (movedN i.r (i.bs.getD (0 + (↑i.j : Int).toNat + 0) 0)) = nU j.r ∧ AV.sl 0 0 0 1 1 true = AV.sl 0 0 0
  1 1 true ∧ nI 1 = nI 1 ∧ nI 0 = nI 0 ∧ AV.msl 1 0 0 i.n i.c = AV.msl 1 0 0 j.n j.c ∧ nI (↑i.n : Int) = nI (↑j.n : Int) ∧ nI (IntKind.i64.wrap ((↑i.j : Int) + 1)) = nI (↑j.j : Int) ∧ True) ∧ ABlk.mk i.own 1 (AC.ints IntKind.u8 i.bs) = ABlk.mk j.own 1 (AC.ints IntKind.u8 j.bs) ∧ True) ∧ True) False) False) ((nU i.r = nU (sumR i.r (List.drop i.j (List.take i.n i.bs))) ∧ AV.sl 0 0 0 1 1 true = AV.sl 0 0 0 1 1 true ∧ nI 1 = nI 1 ∧ nI 0 = nI 0 ∧ True) ∧ ABlk.mk i.own 1 (AC.ints IntKind.u8 i.bs) = ABlk.mk i.own 1 (AC.ints IntKind.u8 i.bs) ∧ True)
theorem sumML_c_e (i : SumI) : some (sumML_c_V i) = (some ((sumML Go.Proofs.Tryd.prog).body sp Go.Proofs.Tryd.prog (movedC.orc sp) (drP sp Go.Proofs.Tryd.prog (movedC.orc sp)) noLo 40 i)) := by kernel_rfl
theorem sumML_ok : (sumML Go.Proofs.Tryd.prog).OK Go.Proofs.Tryd.prog := by
  refine Lp.ok_of (Con.orc_ok movedC_ok) (drP_ok hmix _ (Con.orc_ok movedC_ok)) (noLo_ok _) (by decide) 40 (fun i hi => ?_)
  rw [← Option.some.inj (sumML_c_e i)]
  obtain ⟨h1, h2, h3⟩ := hi
  unfold sumML_c_V
  refine sp_iff.2 ⟨fun h => ?_, fun h => ?_⟩
  · have hj : i.j < i.n := by simpa using h
    have hb : i.j < i.bs.length := by omega
    have e1 : (List.take i.n i.bs).drop i.j = i.bs[i.j] :: (List.take i.n i.bs).drop (i.j + 1) := by
      rw [List.drop_eq_getElem_cons (by simp; omega)]
      simp
    have hw : IntKind.i64.wrap ((i.j : Int) + 1) = (i.j : Int) + 1 := IntWalk.i64_in _ (by omega)
    simp [sp, hj, hb]
    refine ⟨{ i with r := movedN i.r i.bs[i.j], j := i.j + 1 }, ⟨?_, ?_, ?_⟩, ?_, ?_, ?_⟩
    · show i.j + 1 ≤ i.n; omega
    · exact h2
    · exact h3
    · show i.n - (i.j + 1) < i.n - i.j; omega
    · simp [e1, sumR]
    · simp [hw]
  · have hj : i.n ≤ i.j := by simpa using h
    have e1 : (List.take i.n i.bs).drop i.j = [] := by simp; omega
    simp [e1, sumR]
def sumMC_c_V (i : SumX) : Prop :=
  same ((loopsIn (loopOf Proofs.Tryd.prog F_wire_Sum 0)).getD 0 Code.skip) ((loopsIn (loopOf Proofs.Tryd.prog F_wire_Sum 0)).getD 0 Code.skip) ∧ (0 ≤ i.n ∧ i.n ≤ i.bs.length ∧ i.n ≤ 9223372036854775807) ∧ ((nU 4294967295 = nU 4294967295 ∧ AV.sl 0 0 0 1 1 true = AV.sl 0 0 0 1 1 true ∧ nI 1 = nI 1 ∧ nI 0 = nI 0 ∧ AV.msl 1 0 0 i.n i.c = AV.msl 1 0 0 i.n i.c ∧ nI (↑i.n : Int) = nI (↑i.n : Int) ∧ nI 0 = nI 0 ∧ True) ∧ ABlk.mk i.own 1 (AC.ints IntKind.u8 i.bs) = ABlk.mk i.own 1 (AC.ints IntKind.u8 i.bs) ∧ True) ∧ ∃ (y : Unit), True ∧ [nU (bits BinOp.xor IntKind.u32 4294967295 (sumR 4294967295 (List.drop 0 (List.take i.n i.bs))))] = [nU (sumB (List.take i.n i.bs))] ∧ ABlk.mk i.own 1 (AC.ints IntKind.u8 i.bs) = ABlk.mk i.own 1 (AC.ints IntKind.u8 i.bs) ∧ True
theorem sumMC_c_e (i : SumX) : some (sumMC_c_V i) = (sumMC.cond sp Go.Proofs.Tryd.prog (drP sp Go.Proofs.Tryd.prog) (forF F_wire_Sum ((sumML Go.Proofs.Tryd.prog).lo sp Go.Proofs.Tryd.prog (isLoop 6) ((loopsIn (loopOf Go.Proofs.Tryd.prog F_wire_Sum 0)).getD 0 .skip)) noLoops) (movedC.orc sp) 40 2 i) := by kernel_rfl
theorem sumMC_ok : sumMC.OK Go.Proofs.Tryd.prog := by
  refine Con.by hmix (forF_ok (Lp.lo_ok sumML_ok rfl) (noLoops_ok _)) (Con.orc_ok movedC_ok) sumMC_c_V sumMC_c_e (fun i hi => ?_)
  obtain ⟨h1, h2⟩ := hi
  simp [sumMC_c_V, same, sumB, h1, h2]
def sealC_c_V (l : List Int) : Prop :=
  (l.length ≤ l.length ∧ l.length ≤ 9223372036854775807) ∧ [AV.sl 1 0 0 1 1 true] = [AV.sl 1 0 0 1 1 true] ∧ (some (bC [AV.sl 0 0 0 l.length l.length false]) = some (bC [AV.sl 0 0 0 l.length l.length false]) ∧ some (bW l) = some (bW l) ∧ True) ∧ (∀ (y : Unit), True → sp (decide (0 + l.length ≤ l.length) && (decide ((0 + l.length) * 1 ≤ 140737488355328) && decide (0 + l.length ≤ 9223372036854775807))) (sp (decide (0 + (0 + l.length) ≤ ([] ++ List.take l.length (List.drop 0 l)).length) && true && true && true && true && decide ((0 + l.length + 4) * 1 ≤ 140737488355328) && decide (0 + l.length + 4 ≤ 9223372036854775807)) (∃ (y : Unit), True ∧ [AV.sl 5 0 0 (0 + l.length + 4) (0 + l.length + 4) false] = [AV.sl 5 0 0 (sealB l).length (sealB l).length false] ∧ bW ((List.take (0 + l.length) (List.drop 0 ([] ++ List.take l.length (List.drop 0 l))) ++ List.take 4 (List.drop 0 [IntKind.u8.wrap (sumB
  (List.take l.length l)), IntKind.u8.wrap ((sumB (List.take l.length l)).fdiv 256), IntKind.u8.wrap ((sumB (List.take l.length l)).fdiv 65536), IntKind.u8.wrap ((sumB (List.take l.length l)).fdiv 16777216)]))) = bW ((sealB l)) ∧ True) False) False) ∧ True
theorem sealC_c_e (l : List Int) : some (sealC_c_V l) = (sealC.cond sp Go.Proofs.Tryd.prog (drP sp Go.Proofs.Tryd.prog) noLoops (sumC.orc sp) 40 2 l) := by kernel_rfl
theorem sealC_ok : sealC.OK Go.Proofs.Tryd.prog := by
  refine Con.by hmix (noLoops_ok _) (Con.orc_ok sumC_ok) sealC_c_V sealC_c_e (fun l hl => ?_)
  have hl : l.length ≤ 1000000000 := hl
  have h2 : l.length ≤ 140737488355324 := by omega
  have h3 : l.length ≤ 9223372036854775803 := by omega
  have h4 : l.length ≤ 140737488355328 := by omega
  have h5 : l.length ≤ 9223372036854775807 := by omega
  simp [sealC_c_V, sp, sealB, h2, h3, h4, h5]
end Go.Proofs.YtmbcpmbpkdeioaaDoor.W
/- Rows of bytes and numbers read: what is reckoned, and the loops' states. No condition. -/
namespace Go.Proofs.YtmbcpmbpkdeioaaDoor.W
open Go Go.RowKit Go.Eng
set_option maxRecDepth 100000
set_option linter.unusedVariables false
set_option linter.unusedSimpArgs false
structure Row where
  bs : List Int
  c : Nat
/-- A row of the call's, that may be nil. -/
def Row.av (b : Nat) (r : Row) : AV := .msl b 0 0 r.bs.length r.c
def Row.blk (r : Row) : ABlk := ⟨false, 1, .ints .u8 r.bs⟩
def rowB (l : List Int) : List Int := putN (l.length : Int) ++ l
def putBytesC : Con Row Unit where
  f := F_wire_PutBytes
  fit vs H := match vs with
    | [_, .msl b _ _ _ c] => match H.get b with
      | some k => match k.c with
        | .ints _ bs => some ([b], ⟨bs, c⟩)
        | _ => none
      | none => none
    | _ => none
  n0 := 1
  pre r := r.bs.length ≤ 100000000 ∧ (putN (r.bs.length : Int)).length ≤ 900
  args r := [.nils, r.av 0]
  L0 r := [(0, r.blk)]
  outs r := [(fun _ => True, fun _ => (.ret (.sl 1 0 0 (rowB r.bs).length (rowB r.bs).length false), 2, [(0, r.blk), (1, ⟨true, 1, .ints .u8 (rowB r.bs)⟩)]))]
/-! ### numbers read -/
def accN (k : Nat) (acc x : Int) : Int := bits .or .u64 acc (IntKind.wrap .u64 (IntKind.wrap .u64 (bits .and .u8 x 127) * 2 ^ min (IntKind.wrap .i64 (7 * (k : Int))).toNat 64))
/-- The number, how many bytes it has, why it is none. -/
def getG : List Int → Nat → Int → Int × Int × Int
  | [], _, _ => (0, 0, 290)
  | x :: l, k, acc => if k = 9 ∧ x > 1 then (0, 0, 291) else if x ≥ 128 then getG l (k + 1) (accN k acc x) else if x = 0 ∧ k > 0 then (0, 0, 291) else (accN k acc x, (k : Int) + 1, 0)
def getN (l : List Int) : Int × Int × Int := getG l 0 0
structure GetI where
  bs : List Int
  o : Nat
  j : Nat
  acc : Int
def Rest (bs : List Int) (o : Nat) (b : Nat) : AV := .sl b o 0 (bs.length - o) (bs.length - o) false
def getL (P : Program) : Lp GetI where
  B := 1
  n := ntmpsOf P F_wire_Get
  code := loopOf P F_wire_Get 0
  fit s H := match s.get 5, s.get 10, s.get 8 with
    | .int _ acc, .int _ j, .sl b o _ _ _ _ => match H.get b with
      | some k => match k.c with
        | .ints _ bs => some ⟨bs, o, j.toNat, acc⟩
        | _ => none
      | none => none
    | _, _, _ => none
  pre i := i.o + i.j ≤ i.bs.length ∧ i.bs.length ≤ 140737488355328
  slots i := [(5, .int .u64 i.acc), (8, Rest i.bs i.o 0), (9, .int .i64 (i.bs.length - i.o : Nat)), (10, .int .i64 i.j)]
  nx i := 1
  L i := [(0, ⟨true, 1, .ints .u8 i.bs⟩)]
  m i := i.bs.length - i.j
  outs i := [(decide ((getG ((i.bs.drop i.o).drop i.j) i.j i.acc).2.2 = 290), ⟨.exit 0, [], 1, [(0, ⟨true, 1, .ints .u8 i.bs⟩)]⟩), (true, ⟨.ret, [(2, .int .u64 (getG ((i.bs.drop i.o).drop i.j) i.j i.acc).1), (3, .int .i64 (getG ((i.bs.drop i.o).drop i.j) i.j i.acc).2.1), (4, .int .i64 (getG ((i.bs.drop i.o).drop i.j) i.j i.acc).2.2)], 1, [(0, ⟨true, 1, .ints .u8 i.bs⟩)]⟩)]
structure At where
  bs : List Int
  o : Nat
structure Got where
  n : Int
  u : Nat
def Got0 : Got := ⟨0, 0⟩
def getC : Con At Got where
  f := F_wire_Get
  fit vs H := match vs with
    | [.sl b o _ _ _ _] => match H.get b with
      | some k => match k.c with
        | .ints _ bs => some ([b], ⟨bs, o⟩)
        | _ => none
      | none => none
    | _ => none
  n0 := 1
  pre x := x.o ≤ x.bs.length ∧ x.bs.length ≤ 140737488355328
  args x := [Rest x.bs x.o 0]
  L0 x := [(0, ⟨true, 1, .ints .u8 x.bs⟩)]
  outs x := [(fun y => getN (x.bs.drop x.o) = (y.n, (y.u : Int), 0), fun y => (.ret (.tup [.int .u64 y.n, .int .i64 y.u, .int .i64 0]), 1, [(0, ⟨true, 1, .ints .u8 x.bs⟩)])),
    (fun y => getN (x.bs.drop x.o) = (0, 0, 290), fun y => (.ret (.tup [.int .u64 0, .int .i64 0, .int .i64 290]), 1, [(0, ⟨true, 1, .ints .u8 x.bs⟩)])),
    (fun y => getN (x.bs.drop x.o) = (0, 0, 291), fun y => (.ret (.tup [.int .u64 0, .int .i64 0, .int .i64 291]), 1, [(0, ⟨true, 1, .ints .u8 x.bs⟩)]))]
/-- A row read: how many bytes its length has, its length; or why there is none. -/
inductive RowR where
  | ok (u n : Nat)
  | no (e : Int)
def rowN (l : List Int) (most : Int) : RowR :=
  match getN l with
  | (n, u, e) => if e ≠ 0 then .no e else if n > IntKind.wrap .u64 (if (0 : Int) > most then 0 else most) then .no 3 else if n > IntKind.wrap .u64 (IntKind.wrap .i64 ((l.length : Int) - u)) then .no 290 else .ok u.toNat n.toNat
structure AtM where
  bs : List Int
  o : Nat
  most : Int
structure UN where
  u : Nat
  n : Nat
def getBytesC : Con AtM UN where
  f := F_wire_GetBytes
  fit vs H := match vs with
    | [.sl b o _ _ _ _, .int _ most] => match H.get b with
      | some k => match k.c with
        | .ints _ bs => some ([b], ⟨bs, o, most⟩)
        | _ => none
      | none => none
    | _ => none
  n0 := 1
  pre x := x.o ≤ x.bs.length ∧ x.bs.length ≤ 140737488355328
  args x := [Rest x.bs x.o 0, .int .i64 x.most]
  L0 x := [(0, ⟨true, 1, .ints .u8 x.bs⟩)]
  outs x := [(fun y => rowN (x.bs.drop x.o) x.most = .ok y.u y.n, fun y => (.ret (.tup [.sl 1 0 0 y.n y.n false, .int .i64 (y.u + y.n : Nat), .int .i64 0]), 2, [(0, ⟨true, 1, .ints .u8 x.bs⟩), (1, ⟨true, 1, .ints .u8 ((x.bs.drop (x.o + y.u)).take y.n)⟩)])),
    (fun y => rowN (x.bs.drop x.o) x.most = .no 290, fun y => (.ret (.tup [.nils, .int .i64 0, .int .i64 290]), 1, [(0, ⟨true, 1, .ints .u8 x.bs⟩)])),
    (fun y => rowN (x.bs.drop x.o) x.most = .no 291, fun y => (.ret (.tup [.nils, .int .i64 0, .int .i64 291]), 1, [(0, ⟨true, 1, .ints .u8 x.bs⟩)])),
    (fun y => rowN (x.bs.drop x.o) x.most = .no 3, fun y => (.ret (.tup [.nils, .int .i64 0, .int .i64 3]), 1, [(0, ⟨true, 1, .ints .u8 x.bs⟩)]))]
/-! ### Open -/
def le32 (a b c d : Int) : Int := bits .or .u32 (bits .or .u32 (bits .or .u32 (IntKind.wrap .u32 a) (IntKind.wrap .u32 (IntKind.wrap .u32 b * 256))) (IntKind.wrap .u32 (IntKind.wrap .u32 c * 65536))) (IntKind.wrap .u32 (IntKind.wrap .u32 d * 16777216))
inductive OpenR where
  | ok (l : List Int)
  | no (e : Int)
def openN (l : List Int) : OpenR :=
  if l.length < 4 then .no 290 else
  if sumB (l.take (l.length - 4)) ≠ le32 (l.getD (l.length - 4) 0) (l.getD (l.length - 4 + 1) 0) (l.getD (l.length - 4 + 2) 0) (l.getD (l.length - 4 + 3) 0) then .no 292 else .ok (l.take (l.length - 4))
structure OpenX where
  bs : List Int
  c : Nat
def openC : Con OpenX (List Int) where
  f := F_wire_Open
  fit vs H := match vs with
    | [.msl b _ _ _ c] => match H.get b with
      | some k => match k.c with
        | .ints _ bs => some ([b], ⟨bs, c⟩)
        | _ => none
      | none => none
    | _ => none
  n0 := 1
  pre x := x.bs.length ≤ 140737488355328 ∧ x.bs.length ≤ x.c
  args x := [.msl 0 0 0 x.bs.length x.c]
  L0 x := [(0, ⟨false, 1, .ints .u8 x.bs⟩)]
  outs x := [(fun y => openN x.bs = .ok y, fun y => (.ret (.tup [.sl 1 0 0 y.length y.length false, .int .i64 0]), 2, [(0, ⟨false, 1, .ints .u8 x.bs⟩), (1, ⟨true, 1, .ints .u8 y⟩)])),
    (fun y => openN x.bs = .no 290, fun y => (.ret (.tup [.nils, .int .i64 290]), 1, [(0, ⟨false, 1, .ints .u8 x.bs⟩)])),
    (fun y => openN x.bs = .no 292, fun y => (.ret (.tup [.nils, .int .i64 292]), 1, [(0, ⟨false, 1, .ints .u8 x.bs⟩)]))]
theorem spI {b : Bool} {A B : Prop} (h : b = true → A) (g : b = false → B) : sp b A B := sp_iff.2 ⟨h, g⟩
theorem getG_range : ∀ (l : List Int) (k : Nat) (acc : Int), (∃ u : Nat, (getG l k acc).2.1 = (u : Int) ∧ (getG l k acc).2.2 = 0 ∧ k < u ∧ u ≤ k + l.length ∧ 0 ≤ (getG l k acc).1) ∨ getG l k acc = (0, 0, 290) ∨ getG l k acc = (0, 0, 291)
  | [], k, acc => .inr (.inl rfl)
  | x :: l, k, acc => by
    unfold getG
    split
    · exact .inr (.inr rfl)
    · split
      · rcases getG_range l (k + 1) (accN k acc x) with ⟨u, h1, h2, h3, h4, h5⟩ | h | h
        · exact .inl ⟨u, h1, h2, by omega, by simp only [List.length_cons]; omega, h5⟩
        · exact .inr (.inl h)
        · exact .inr (.inr h)
      · split
        · exact .inr (.inr rfl)
        · exact .inl ⟨k + 1, by simp, rfl, by omega, by simp only [List.length_cons]; omega, (bits_within .or .u64 _ _).1⟩
theorem getN_range (l : List Int) : (∃ (n : Int) (u : Nat), getN l = (n, (u : Int), 0) ∧ 0 < u ∧ u ≤ l.length ∧ 0 ≤ n) ∨ getN l = (0, 0, 290) ∨ getN l = (0, 0, 291) := by
  rcases getG_range l 0 0 with ⟨u, h1, h2, h3, h4, h5⟩ | h | h
  · exact .inl ⟨(getN l).1, u, Prod.ext rfl (Prod.ext h1 h2), h3, by omega, h5⟩
  · exact .inr (.inl h)
  · exact .inr (.inr h)
end Go.Proofs.YtmbcpmbpkdeioaaDoor.W
/- Rows of bytes and numbers read: the walks. No condition. -/
namespace Go.Proofs.YtmbcpmbpkdeioaaDoor.W
open Go Go.RowKit Go.Eng
set_option maxRecDepth 100000
set_option linter.unusedVariables false
set_option linter.unusedSimpArgs false
def putBytesC_c_V (r : Row) : Prop :=
  (putN (IntKind.u64.wrap (↑r.bs.length : Int))).length.le 900 ∧ [] ++ [AV.nils, nL (IntKind.u64.wrap (↑r.bs.length : Int))] ++ [] = [AV.nils, nL (IntKind.u64.wrap (↑r.bs.length : Int))] ∧ True ∧ (∀ (y : Unit), True → sp (decide (0 + r.bs.length ≤ r.bs.length) && (decide (0 + (putN (IntKind.u64.wrap (↑r.bs.length : Int))).length ≤ (putN (IntKind.u64.wrap (↑r.bs.length : Int))).length) && true && true && true && true && decide (((putN (IntKind.u64.wrap (↑r.bs.length : Int))).length + r.bs.length) * 1 ≤ 140737488355328) && decide ((putN (IntKind.u64.wrap (↑r.bs.length : Int))).length + r.bs.length ≤ 9223372036854775807))) (∃ (y : Unit), True ∧ [AV.sl 2 0 0 ((putN (IntKind.u64.wrap (↑r.bs.length : Int))).length + r.bs.length) ((putN (IntKind.u64.wrap (↑r.bs.length : Int))).length + r.bs.length) false] = [AV.sl 2 0 0 (rowB r.bs).length (rowB r.bs).length false] ∧ bR r.bs = bR r.bs ∧ bW
  ((List.take (putN (IntKind.u64.wrap (↑r.bs.length : Int))).length (List.drop 0 (putN (IntKind.u64.wrap (↑r.bs.length : Int)))) ++ List.take r.bs.length (List.drop 0 r.bs))) = bW ((rowB r.bs)) ∧ True) False) ∧ True
theorem putBytesC_c_e (r : Row) : some (putBytesC_c_V r) = (putBytesC.cond sp Go.Proofs.Tryd.prog (drP sp Go.Proofs.Tryd.prog) noLoops (putC.orc sp) 40 2 r) := by kernel_rfl
theorem putBytesC_ok : putBytesC.OK Go.Proofs.Tryd.prog := by
  refine Con.by hmix (noLoops_ok _) (Con.orc_ok putC_ok) putBytesC_c_V putBytesC_c_e (fun r hr => ?_)
  obtain ⟨h1, h2⟩ := hr
  have hw : IntKind.wrap .u64 (r.bs.length : Int) = (r.bs.length : Int) := by rw [IntKind.wrap_u64]; omega
  have h3 : (putN (r.bs.length : Int)).length + r.bs.length ≤ 140737488355328 := by omega
  have h4 : (putN (r.bs.length : Int)).length + r.bs.length ≤ 9223372036854775807 := by omega
  simp [putBytesC_c_V, hw, h2, h3, h4, sp, rowB]
def getL_c_V (i : GetI) : Prop :=
  sp (decide ((↑i.j : Int) < (↑(i.bs.length - i.o) : Int))) (sp (decide ((↑i.j : Int) < (↑(i.bs.length - i.o) : Int)) && true) (sp (decide (i.o + (↑i.j : Int).toNat + 0 < i.bs.length)) (sp ((↑i.j : Int) == 9) (sp (bif true then decide (i.bs.getD (i.o + (↑i.j : Int).toNat + 0) 0 > 1) else false) (sp (decide ((getG (List.drop i.j (List.drop i.o i.bs)) i.j i.acc).snd.snd = 290)) False ((nL 0 = nL (getG (List.drop i.j (List.drop i.o i.bs)) i.j i.acc).fst ∧ nI 0 = nI (getG (List.drop i.j (List.drop i.o i.bs)) i.j i.acc).snd.fst ∧ nI 291 = nI (getG (List.drop i.j (List.drop i.o i.bs)) i.j i.acc).snd.snd ∧ True) ∧ bW i.bs = bW i.bs ∧ True)) (sp (decide (0 ≤ IntKind.i64.wrap (7 * (↑i.j : Int)))) (sp (decide (i.bs.getD (i.o + (↑i.j : Int).toNat + 0) 0 ≥ 128)) (∃ (j : GetI), (j.o + j.j ≤ j.bs.length ∧ j.bs.length ≤ 140737488355328) ∧ j.bs.length - j.j < i.bs.length - i.j ∧ [(decide ((getG (List.drop
  j.j (List.drop j.o j.bs)) j.j j.acc).snd.snd = 290), LOut.mk (AX.exit 0) [] 1 [(0, bW j.bs)]), (true, LOut.mk AX.ret [(2, nL (getG (List.drop j.j (List.drop j.o j.bs)) j.j j.acc).fst), (3, nI (getG (List.drop j.j (List.drop j.o j.bs)) j.j j.acc).snd.fst), (4, nI (getG (List.drop j.j (List.drop j.o j.bs)) j.j j.acc).snd.snd)] 1 [(0, bW j.bs)])] = [(decide ((getG (List.drop i.j (List.drop i.o i.bs)) i.j i.acc).snd.snd = 290), LOut.mk (AX.exit 0) [] 1 [(0, bW i.bs)]), (true, LOut.mk AX.ret [(2, nL (getG (List.drop i.j (List.drop i.o i.bs)) i.j i.acc).fst), (3, nI (getG (List.drop i.j (List.drop i.o i.bs)) i.j i.acc).snd.fst), (4, nI (getG (List.drop i.j (List.drop i.o i.bs)) i.j i.acc).snd.snd)] 1 [(0, bW i.bs)])] ∧ (nL (bits BinOp.or IntKind.u64 i.acc (IntKind.u64.wrap (IntKind.u64.wrap (bits BinOp.and IntKind.u8 (i.bs.getD (i.o + (↑i.j : Int).toNat + 0) 0) 127) * 2 ^ min (IntKind.i64.wrap
  (7 * (↑i.j : Int))).toNat 64))) = nL j.acc ∧ AV.sl 0 i.o 0 (i.bs.length - i.o) (i.bs.length - i.o) false = AV.sl 0 j.o 0 (j.bs.length - j.o) (j.bs.length - j.o) false ∧ nI (↑(i.bs.length - i.o) : Int) = nI (↑(j.bs.length - j.o) : Int) ∧ nI (IntKind.i64.wrap ((↑i.j : Int) + 1)) = nI (↑j.j : Int) ∧ True) ∧ bW i.bs = bW j.bs ∧ True) (sp (i.bs.getD (i.o + (↑i.j : Int).toNat + 0) 0 == 0) (sp (bif true then decide ((↑i.j : Int) > 0) else false) (sp (decide ((getG (List.drop i.j (List.drop i.o i.bs)) i.j i.acc).snd.snd = 290)) False ((nL 0 = nL (getG (List.drop i.j (List.drop i.o i.bs)) i.j i.acc).fst ∧ nI 0 = nI (getG (List.drop i.j (List.drop i.o i.bs)) i.j i.acc).snd.fst ∧ nI 291 = nI (getG (List.drop i.j (List.drop i.o i.bs)) i.j i.acc).snd.snd ∧ True) ∧ bW i.bs = bW i.bs ∧ True)) (sp (decide ((getG (List.drop i.j (List.drop i.o i.bs)) i.j i.acc).snd.snd = 290)) False ((nL (bits BinOp.or
  IntKind.u64 i.acc (IntKind.u64.wrap (IntKind.u64.wrap (bits BinOp.and IntKind.u8 (i.bs.getD (i.o + (↑i.j : Int).toNat + 0) 0) 127) * 2 ^ min (IntKind.i64.wrap (7 * (↑i.j : Int))).toNat 64))) = nL (getG (List.drop i.j (List.drop i.o i.bs)) i.j i.acc).fst ∧ nI (IntKind.i64.wrap ((↑i.j : Int) + 1)) = nI (getG (List.drop i.j (List.drop i.o i.bs)) i.j i.acc).snd.fst ∧ nI 0 = nI (getG (List.drop i.j (List.drop i.o i.bs)) i.j i.acc).snd.snd ∧ True) ∧ bW i.bs = bW i.bs ∧ True))) (sp (decide ((getG (List.drop i.j (List.drop i.o i.bs)) i.j i.acc).snd.snd = 290)) False ((nL (bits BinOp.or IntKind.u64 i.acc (IntKind.u64.wrap (IntKind.u64.wrap (bits BinOp.and IntKind.u8 (i.bs.getD (i.o + (↑i.j : Int).toNat + 0) 0) 127) * 2 ^ min (IntKind.i64.wrap (7 * (↑i.j : Int))).toNat 64))) = nL (getG (List.drop i.j (List.drop i.o i.bs)) i.j i.acc).fst ∧ nI (IntKind.i64.wrap ((↑i.j : Int) + 1)) = nI (getG
  (List.drop i.j (List.drop i.o i.bs)) i.j i.acc).snd.fst ∧ nI 0 = nI (getG (List.drop i.j (List.drop i.o i.bs)) i.j i.acc).snd.snd ∧ True) ∧ bW i.bs = bW i.bs ∧ True)))) False)) (sp (decide (0 ≤ IntKind.i64.wrap (7 * (↑i.j : Int)))) (sp (decide (i.bs.getD (i.o + (↑i.j : Int).toNat + 0) 0 ≥ 128)) (∃ (j : GetI), (j.o + j.j ≤ j.bs.length ∧ j.bs.length ≤ 140737488355328) ∧ j.bs.length - j.j < i.bs.length - i.j ∧ [(decide ((getG (List.drop j.j (List.drop j.o j.bs)) j.j j.acc).snd.snd = 290), LOut.mk (AX.exit 0) [] 1 [(0, bW j.bs)]), (true, LOut.mk AX.ret [(2, nL (getG (List.drop j.j (List.drop j.o j.bs)) j.j j.acc).fst), (3, nI (getG (List.drop j.j (List.drop j.o j.bs)) j.j j.acc).snd.fst), (4, nI (getG (List.drop j.j (List.drop j.o j.bs)) j.j j.acc).snd.snd)] 1 [(0, bW j.bs)])] = [(decide ((getG (List.drop i.j (List.drop i.o i.bs)) i.j i.acc).snd.snd = 290), LOut.mk (AX.exit 0) [] 1 [(0, bW
  i.bs)]), (true, LOut.mk AX.ret [(2, nL (getG (List.drop i.j (List.drop i.o i.bs)) i.j i.acc).fst), (3, nI (getG (List.drop i.j (List.drop i.o i.bs)) i.j i.acc).snd.fst), (4, nI (getG (List.drop i.j (List.drop i.o i.bs)) i.j i.acc).snd.snd)] 1 [(0, bW i.bs)])] ∧ (nL (bits BinOp.or IntKind.u64 i.acc (IntKind.u64.wrap (IntKind.u64.wrap (bits BinOp.and IntKind.u8 (i.bs.getD (i.o + (↑i.j : Int).toNat + 0) 0) 127) * 2 ^ min (IntKind.i64.wrap (7 * (↑i.j : Int))).toNat 64))) = nL j.acc ∧ AV.sl 0 i.o 0 (i.bs.length - i.o) (i.bs.length - i.o) false = AV.sl 0 j.o 0 (j.bs.length - j.o) (j.bs.length - j.o) false ∧ nI (↑(i.bs.length - i.o) : Int) = nI (↑(j.bs.length - j.o) : Int) ∧ nI (IntKind.i64.wrap ((↑i.j : Int) + 1)) = nI (↑j.j : Int) ∧ True) ∧ bW i.bs = bW j.bs ∧ True) (sp (i.bs.getD (i.o + (↑i.j : Int).toNat + 0) 0 == 0) (sp (bif true then decide ((↑i.j : Int) > 0) else false) (sp (decide ((getG
  (List.drop i.j (List.drop i.o i.bs)) i.j i.acc).snd.snd = 290)) False ((nL 0 = nL (getG (List.drop i.j (List.drop i.o i.bs)) i.j i.acc).fst ∧ nI 0 = nI (getG (List.drop i.j (List.drop i.o i.bs)) i.j i.acc).snd.fst ∧ nI 291 = nI (getG (List.drop i.j (List.drop i.o i.bs)) i.j i.acc).snd.snd ∧ True) ∧ bW i.bs = bW i.bs ∧ True)) (sp (decide ((getG (List.drop i.j (List.drop i.o i.bs)) i.j i.acc).snd.snd = 290)) False ((nL (bits BinOp.or IntKind.u64 i.acc (IntKind.u64.wrap (IntKind.u64.wrap (bits BinOp.and IntKind.u8 (i.bs.getD (i.o + (↑i.j : Int).toNat + 0) 0) 127) * 2 ^ min (IntKind.i64.wrap (7 * (↑i.j : Int))).toNat 64))) = nL (getG (List.drop i.j (List.drop i.o i.bs)) i.j i.acc).fst ∧ nI (IntKind.i64.wrap ((↑i.j : Int) + 1)) = nI (getG (List.drop i.j (List.drop i.o i.bs)) i.j i.acc).snd.fst ∧ nI 0 = nI (getG (List.drop i.j (List.drop i.o i.bs)) i.j i.acc).snd.snd ∧ True) ∧ bW i.bs = bW i.bs
  ∧ True))) (sp (decide ((getG (List.drop i.j (List.drop i.o i.bs)) i.j i.acc).snd.snd = 290)) False ((nL (bits BinOp.or IntKind.u64 i.acc (IntKind.u64.wrap (IntKind.u64.wrap (bits BinOp.and IntKind.u8 (i.bs.getD (i.o + (↑i.j : Int).toNat + 0) 0) 127) * 2 ^ min (IntKind.i64.wrap (7 * (↑i.j : Int))).toNat 64))) = nL (getG (List.drop i.j (List.drop i.o i.bs)) i.j i.acc).fst ∧ nI (IntKind.i64.wrap ((↑i.j : Int) + 1)) = nI (getG (List.drop i.j (List.drop i.o i.bs)) i.j i.acc).snd.fst ∧ nI 0 = nI (getG (List.drop i.j (List.drop i.o i.bs)) i.j i.acc).snd.snd ∧ True) ∧ bW i.bs = bW i.bs ∧ True)))) False)) False) False) (sp (decide ((getG (List.drop i.j (List.drop i.o i.bs)) i.j i.acc).snd.snd = 290)) (True ∧ bW i.bs = bW i.bs ∧ True) False)
theorem getL_c_e (i : GetI) : some (getL_c_V i) = (some ((getL Go.Proofs.Tryd.prog).body sp Go.Proofs.Tryd.prog noBaseK (drP sp Go.Proofs.Tryd.prog noBaseK) noLo 40 i)) := by kernel_rfl
theorem getL_ok : (getL Go.Proofs.Tryd.prog).OK Go.Proofs.Tryd.prog := by
  refine Lp.ok_of (noBaseK_ok _) (drP_ok hmix _ (noBaseK_ok _)) (noLo_ok _) (by decide) 40 (fun i hi => ?_)
  rw [← Option.some.inj (getL_c_e i)]
  obtain ⟨h1, h2⟩ := hi
  by_cases hj : i.o + i.j < i.bs.length
  · have e : (i.bs.drop i.o).drop i.j = i.bs.getD (i.o + i.j) 0 :: (i.bs.drop i.o).drop (i.j + 1) := by
      rw [List.drop_eq_getElem_cons (by simp; omega)]
      simp [List.getD_eq_getElem?_getD, hj]
    have hg := e ▸ getG.eq_2 i.j i.acc (i.bs.getD (i.o + i.j) 0) ((i.bs.drop i.o).drop (i.j + 1))
    have hx0 : i.o + (i.j : Int).toNat + 0 = i.o + i.j := by simp
    unfold getL_c_V
    rw [hx0]
    generalize i.bs.getD (i.o + i.j) 0 = x at hg e
    have hw : IntKind.wrap .i64 ((i.j : Int) + 1) = (i.j : Int) + 1 := IntWalk.i64_in _ (by omega)
    have hw7 : IntKind.wrap .i64 (7 * (i.j : Int)) = 7 * (i.j : Int) := IntWalk.i64_in _ (by omega)
    have cont : (if i.j = 9 ∧ x > 1 then ((0 : Int), (0 : Int), (291 : Int)) else if x ≥ 128 then getG ((i.bs.drop i.o).drop (i.j + 1)) (i.j + 1) (accN i.j i.acc x) else if x = 0 ∧ i.j > 0 then (0, 0, 291) else (accN i.j i.acc x, (i.j : Int) + 1, 0)) = getG ((i.bs.drop i.o).drop (i.j + 1)) (i.j + 1) (accN i.j i.acc x) → ∃ (j : GetI),
          (j.o + j.j ≤ j.bs.length ∧ j.bs.length ≤ 140737488355328) ∧
            j.bs.length - j.j < i.bs.length - i.j ∧
              [(decide ((getG (List.drop j.j (List.drop j.o j.bs)) j.j j.acc).snd.snd = 290), LOut.mk (AX.exit 0) [] 1 [(0, ABlk.mk true 1 (AC.ints IntKind.u8 j.bs))]),
                    (true,
                      LOut.mk AX.ret
                        [(2, AV.int IntKind.u64 (getG (List.drop j.j (List.drop j.o j.bs)) j.j j.acc).fst), (3, AV.int IntKind.i64 (getG (List.drop j.j (List.drop j.o j.bs)) j.j j.acc).snd.fst),
                          (4, AV.int IntKind.i64 (getG (List.drop j.j (List.drop j.o j.bs)) j.j j.acc).snd.snd)]
                        1 [(0, ABlk.mk true 1 (AC.ints IntKind.u8 j.bs))])] =
                  [(decide ((getG (List.drop i.j (List.drop i.o i.bs)) i.j i.acc).snd.snd = 290), LOut.mk (AX.exit 0) [] 1 [(0, ABlk.mk true 1 (AC.ints IntKind.u8 i.bs))]),
                    (true,
                      LOut.mk AX.ret
                        [(2, AV.int IntKind.u64 (getG (List.drop i.j (List.drop i.o i.bs)) i.j i.acc).fst), (3, AV.int IntKind.i64 (getG (List.drop i.j (List.drop i.o i.bs)) i.j i.acc).snd.fst),
                          (4, AV.int IntKind.i64 (getG (List.drop i.j (List.drop i.o i.bs)) i.j i.acc).snd.snd)]
                        1 [(0, ABlk.mk true 1 (AC.ints IntKind.u8 i.bs))])] ∧
                (AV.int IntKind.u64
                        (bits BinOp.or IntKind.u64 i.acc (IntKind.u64.wrap (IntKind.u64.wrap (bits BinOp.and IntKind.u8 x 127) * 2 ^ min (IntKind.i64.wrap (7 * (↑i.j : Int))).toNat 64))) =
                      AV.int IntKind.u64 j.acc ∧
                    AV.sl 0 i.o 0 (i.bs.length - i.o) (i.bs.length - i.o) false = AV.sl 0 j.o 0 (j.bs.length - j.o) (j.bs.length - j.o) false ∧
                      AV.int IntKind.i64 (↑(i.bs.length - i.o) : Int) = AV.int IntKind.i64 (↑(j.bs.length - j.o) : Int) ∧ AV.int IntKind.i64 (IntKind.i64.wrap ((↑i.j : Int) + 1)) = AV.int IntKind.i64 (↑j.j : Int) ∧ True) ∧
                  ABlk.mk true 1 (AC.ints IntKind.u8 i.bs) = ABlk.mk true 1 (AC.ints IntKind.u8 j.bs) ∧ True := by
      intro hc
      rw [hc] at hg
      refine ⟨⟨i.bs, i.o, i.j + 1, accN i.j i.acc x⟩, ⟨by show i.o + (i.j + 1) ≤ i.bs.length; omega, h2⟩, by show i.bs.length - (i.j + 1) < i.bs.length - i.j; omega, ?_, ?_⟩
      · simp only [hg]
      · simp [hw, accN]
    have hlt : (i.j : Int) < ((i.bs.length - i.o : Nat) : Int) := by omega
    have h77 : (0 : Int) ≤ 7 * (i.j : Int) := by omega
    refine spI (fun _ => spI (fun _ => spI (fun _ => spI (fun h9 => spI (fun hx => ?_) (fun hx => ?_)) (fun h9 => ?_)) (fun h => ?_)) (fun h => ?_)) (fun h => ?_)
    · have h9 : i.j = 9 := by have : (i.j : Int) = 9 := by simpa using h9
                              omega
      have hx : x > 1 := by simpa using hx
      rw [if_pos ⟨h9, hx⟩] at hg
      rw [hg]
      exact spI (fun h => by simp at h) (fun _ => ⟨⟨rfl, rfl, rfl, trivial⟩, rfl, trivial⟩)
    · have hx : ¬ x > 1 := by simpa using hx
      have hn : ¬ (i.j = 9 ∧ x > 1) := fun e => hx e.2
      refine spI (fun _ => spI (fun hg1 => ?_) (fun hg1 => spI (fun h0 => spI (fun hj0 => ?_) (fun hj0 => ?_)) (fun h0 => ?_))) (fun h => ?_)
      · have hg1 : x ≥ 128 := by simpa using hg1
        exact cont (by rw [if_neg hn, if_pos hg1])
      · have hg1 : ¬ x ≥ 128 := by simpa using hg1
        have h0 : x = 0 := by simpa using h0
        have hj0 : i.j > 0 := by have : (i.j : Int) > 0 := by simpa using hj0
                                 omega
        rw [if_neg hn, if_neg hg1, if_pos ⟨h0, hj0⟩] at hg
        rw [hg]
        exact spI (fun h => by simp at h) (fun _ => ⟨⟨rfl, rfl, rfl, trivial⟩, rfl, trivial⟩)
      · have hg1 : ¬ x ≥ 128 := by simpa using hg1
        have hj0 : ¬ i.j > 0 := by have : ¬ (i.j : Int) > 0 := by simpa using hj0
                                   omega
        rw [if_neg hn, if_neg hg1, if_neg (fun e => hj0 e.2)] at hg
        rw [hg]
        exact spI (fun h => by simp at h) (fun _ => ⟨⟨rfl, by rw [hw], rfl, trivial⟩, rfl, trivial⟩)
      · have hg1 : ¬ x ≥ 128 := by simpa using hg1
        have h0 : ¬ x = 0 := by simpa using h0
        rw [if_neg hn, if_neg hg1, if_neg (fun e => h0 e.1)] at hg
        rw [hg]
        exact spI (fun h => by simp at h) (fun _ => ⟨⟨rfl, by rw [hw], rfl, trivial⟩, rfl, trivial⟩)
      · rw [hw7] at h
        simp at h
        omega
    · have h9 : ¬ i.j = 9 := by have : ¬ (i.j : Int) = 9 := by simpa using h9
                                omega
      have hn : ¬ (i.j = 9 ∧ x > 1) := fun e => h9 e.1
      refine spI (fun _ => spI (fun hg1 => ?_) (fun hg1 => spI (fun h0 => spI (fun hj0 => ?_) (fun hj0 => ?_)) (fun h0 => ?_))) (fun h => ?_)
      · have hg1 : x ≥ 128 := by simpa using hg1
        exact cont (by rw [if_neg hn, if_pos hg1])
      · have hg1 : ¬ x ≥ 128 := by simpa using hg1
        have h0 : x = 0 := by simpa using h0
        have hj0 : i.j > 0 := by have : (i.j : Int) > 0 := by simpa using hj0
                                 omega
        rw [if_neg hn, if_neg hg1, if_pos ⟨h0, hj0⟩] at hg
        rw [hg]
        exact spI (fun h => by simp at h) (fun _ => ⟨⟨rfl, rfl, rfl, trivial⟩, rfl, trivial⟩)
      · have hg1 : ¬ x ≥ 128 := by simpa using hg1
        have hj0 : ¬ i.j > 0 := by have : ¬ (i.j : Int) > 0 := by simpa using hj0
                                   omega
        rw [if_neg hn, if_neg hg1, if_neg (fun e => hj0 e.2)] at hg
        rw [hg]
        exact spI (fun h => by simp at h) (fun _ => ⟨⟨rfl, by rw [hw], rfl, trivial⟩, rfl, trivial⟩)
      · have hg1 : ¬ x ≥ 128 := by simpa using hg1
        have h0 : ¬ x = 0 := by simpa using h0
        rw [if_neg hn, if_neg hg1, if_neg (fun e => h0 e.1)] at hg
        rw [hg]
        exact spI (fun h => by simp at h) (fun _ => ⟨⟨rfl, by rw [hw], rfl, trivial⟩, rfl, trivial⟩)
      · rw [hw7] at h
        simp at h
        omega
    · simp at h
      omega
    · simp at h
      omega
    · simp at h
      omega
  · have e : (i.bs.drop i.o).drop i.j = [] := by simp; omega
    have hlt : ¬ (i.j : Int) < ((i.bs.length - i.o : Nat) : Int) := by omega
    simp [getL_c_V, sp, hlt, e, getG]
def getC_c_V (x : At) : Prop :=
  same (loopOf Proofs.Tryd.prog F_wire_Get 0) (loopOf Proofs.Tryd.prog F_wire_Get 0) ∧ (x.o + 0 ≤ x.bs.length ∧ x.bs.length ≤ 140737488355328) ∧ ((nL 0 = nL 0 ∧ AV.sl 0 x.o 0 (x.bs.length - x.o) (x.bs.length - x.o) false = AV.sl 0 x.o 0 (x.bs.length - x.o) (x.bs.length - x.o) false ∧ nI (↑(x.bs.length - x.o) : Int) = nI (↑(x.bs.length - x.o) : Int) ∧ nI 0 = nI 0 ∧ True) ∧ bW x.bs = bW x.bs ∧ True) ∧ sp (decide ((getG (List.drop 0 (List.drop x.o x.bs)) 0 0).snd.snd = 290)) ((∃ (y : Got), getN (List.drop x.o x.bs) = (y.n, (↑y.u : Int), 0) ∧ [AV.tup [nL 0, nI 0, nI 290]] = [AV.tup [nL y.n, nI (↑y.u : Int), nI 0]] ∧ bW x.bs = bW x.bs ∧ True) ∨ (∃ (y : Got), getN (List.drop x.o x.bs) = (0, 0, 290) ∧ [AV.tup [nL 0, nI 0, nI 290]] = [AV.tup [nL 0, nI 0, nI 290]] ∧ bW x.bs = bW x.bs ∧ True) ∨ ∃ (y : Got), getN (List.drop x.o x.bs) = (0, 0, 291) ∧ [AV.tup [nL 0, nI 0, nI 290]] = [AV.tup [nL 0, nI 0,
  nI 291]] ∧ bW x.bs = bW x.bs ∧ True) ((∃ (y : Got), getN (List.drop x.o x.bs) = (y.n, (↑y.u : Int), 0) ∧ [AV.tup [nL (getG (List.drop 0 (List.drop x.o x.bs)) 0 0).fst, nI (getG (List.drop 0 (List.drop x.o x.bs)) 0 0).snd.fst, nI (getG (List.drop 0 (List.drop x.o x.bs)) 0 0).snd.snd]] = [AV.tup [nL y.n, nI (↑y.u : Int), nI 0]] ∧ bW x.bs = bW x.bs ∧ True) ∨ (∃ (y : Got), getN (List.drop x.o x.bs) = (0, 0, 290) ∧ [AV.tup [nL (getG (List.drop 0 (List.drop x.o x.bs)) 0 0).fst, nI (getG (List.drop 0 (List.drop x.o x.bs)) 0 0).snd.fst, nI (getG (List.drop 0 (List.drop x.o x.bs)) 0 0).snd.snd]] = [AV.tup [nL 0, nI 0, nI 290]] ∧ bW x.bs = bW x.bs ∧ True) ∨ ∃ (y : Got), getN (List.drop x.o x.bs) = (0, 0, 291) ∧ [AV.tup [nL (getG (List.drop 0 (List.drop x.o x.bs)) 0 0).fst, nI (getG (List.drop 0 (List.drop x.o x.bs)) 0 0).snd.fst, nI (getG (List.drop 0 (List.drop x.o x.bs)) 0 0).snd.snd]] = [AV.tup
  [nL 0, nI 0, nI 291]] ∧ bW x.bs = bW x.bs ∧ True)
theorem getC_c_e (x : At) : some (getC_c_V x) = (getC.cond sp Go.Proofs.Tryd.prog (drP sp Go.Proofs.Tryd.prog) (forF F_wire_Get ((getL Go.Proofs.Tryd.prog).lo sp Go.Proofs.Tryd.prog (isLoop 3) (loopOf Go.Proofs.Tryd.prog F_wire_Get 0)) noLoops) noBaseK 40 2 x) := by kernel_rfl
theorem getC_ok : getC.OK Go.Proofs.Tryd.prog := by
  refine Con.by hmix (forF_ok (Lp.lo_ok getL_ok rfl) (noLoops_ok _)) (noBaseK_ok _) getC_c_V getC_c_e (fun x hx => ?_)
  obtain ⟨h1, h2⟩ := hx
  have hN : getG (List.drop 0 (List.drop x.o x.bs)) 0 0 = getN (List.drop x.o x.bs) := rfl
  unfold getC_c_V
  rw [hN]
  refine ⟨rfl, ⟨by omega, h2⟩, by simp, ?_⟩
  rcases getN_range (List.drop x.o x.bs) with ⟨n, u, h, h3, h4, h5⟩ | h | h
  · rw [h]; exact .inl ⟨⟨n, u⟩, rfl, rfl, rfl, trivial⟩
  · rw [h]; exact .inr (.inl ⟨⟨0, 0⟩, rfl, rfl, rfl, trivial⟩)
  · rw [h]; exact .inr (.inr ⟨⟨0, 0⟩, rfl, rfl, rfl, trivial⟩)
def getBytesC_c_V (x : AtM) : Prop :=
  (x.o ≤ x.bs.length ∧ x.bs.length ≤ 140737488355328) ∧ [] ++ [AV.sl 0 x.o 0 (x.bs.length - x.o) (x.bs.length - x.o) false] ++ [] = [AV.sl 0 x.o 0 (x.bs.length - x.o) (x.bs.length - x.o) false] ∧ (some (bW x.bs) = some (bW x.bs) ∧ True) ∧ (∀ (y : Got), getN (List.drop x.o x.bs) = (y.n, (↑y.u : Int), 0) → sp (decide (y.n > IntKind.u64.wrap (if 0 > x.most then 0 else x.most))) ((∃ (y : UN), rowN (List.drop x.o x.bs) x.most = RowR.ok y.u y.n ∧ [AV.tup [AV.nils, nI 0, nI 3]] = [AV.tup [AV.sl 1 0 0 y.n y.n false, nI (↑(y.u + y.n) : Int), nI 0]] ∧ bW x.bs = bW x.bs ∧ False ∧ True) ∨ (∃ (y : UN), rowN (List.drop x.o x.bs) x.most = RowR.no 290 ∧ [AV.tup [AV.nils, nI 0, nI 3]] = [AV.tup [AV.nils, nI 0, nI 290]] ∧ bW x.bs = bW x.bs ∧ True) ∨ (∃ (y : UN), rowN (List.drop x.o x.bs) x.most = RowR.no 291 ∧ [AV.tup [AV.nils, nI 0, nI 3]] = [AV.tup [AV.nils, nI 0, nI 291]] ∧ bW x.bs = bW x.bs ∧ True) ∨ ∃
  (y : UN), rowN (List.drop x.o x.bs) x.most = RowR.no 3 ∧ [AV.tup [AV.nils, nI 0, nI 3]] = [AV.tup [AV.nils, nI 0, nI 3]] ∧ bW x.bs = bW x.bs ∧ True) (sp (decide (y.n > IntKind.u64.wrap (IntKind.i64.wrap ((↑(x.bs.length - x.o) : Int) - (↑y.u : Int))))) ((∃ (y : UN), rowN (List.drop x.o x.bs) x.most = RowR.ok y.u y.n ∧ [AV.tup [AV.nils, nI 0, nI 290]] = [AV.tup [AV.sl 1 0 0 y.n y.n false, nI (↑(y.u + y.n) : Int), nI 0]] ∧ bW x.bs = bW x.bs ∧ False ∧ True) ∨ (∃ (y : UN), rowN (List.drop x.o x.bs) x.most = RowR.no 290 ∧ [AV.tup [AV.nils, nI 0, nI 290]] = [AV.tup [AV.nils, nI 0, nI 290]] ∧ bW x.bs = bW x.bs ∧ True) ∨ (∃ (y : UN), rowN (List.drop x.o x.bs) x.most = RowR.no 291 ∧ [AV.tup [AV.nils, nI 0, nI 290]] = [AV.tup [AV.nils, nI 0, nI 291]] ∧ bW x.bs = bW x.bs ∧ True) ∨ ∃ (y : UN), rowN (List.drop x.o x.bs) x.most = RowR.no 3 ∧ [AV.tup [AV.nils, nI 0, nI 290]] = [AV.tup [AV.nils, nI 0, nI
  3]] ∧ bW x.bs = bW x.bs ∧ True) (sp (decide (0 ≤ IntKind.i64.wrap ((↑y.u : Int) + IntKind.i64.wrap y.n)) && true && decide ((↑y.u : Int).toNat ≤ (IntKind.i64.wrap ((↑y.u : Int) + IntKind.i64.wrap y.n)).toNat) && decide ((IntKind.i64.wrap ((↑y.u : Int) + IntKind.i64.wrap y.n)).toNat ≤ x.bs.length - x.o) && decide (x.bs.length - x.o ≤ x.bs.length - x.o) && true && true) (sp (decide (x.o + (↑y.u : Int).toNat + 0 + ((IntKind.i64.wrap ((↑y.u : Int) + IntKind.i64.wrap y.n)).toNat - (↑y.u : Int).toNat) ≤ x.bs.length) && (decide ((0 + ((IntKind.i64.wrap ((↑y.u : Int) + IntKind.i64.wrap y.n)).toNat - (↑y.u : Int).toNat)) * 1 ≤ 140737488355328) && decide (0 + ((IntKind.i64.wrap ((↑y.u : Int) + IntKind.i64.wrap y.n)).toNat - (↑y.u : Int).toNat) ≤ 9223372036854775807))) ((∃ (y_1 : UN), rowN (List.drop x.o x.bs) x.most = RowR.ok y_1.u y_1.n ∧ [AV.tup [AV.sl 2 0 0 (0 + ((IntKind.i64.wrap ((↑y.u : Int)
  + IntKind.i64.wrap y.n)).toNat - (↑y.u : Int).toNat)) (0 + ((IntKind.i64.wrap ((↑y.u : Int) + IntKind.i64.wrap y.n)).toNat - (↑y.u : Int).toNat)) false, nI (IntKind.i64.wrap ((↑y.u : Int) + IntKind.i64.wrap y.n)), nI 0]] = [AV.tup [AV.sl 2 0 0 y_1.n y_1.n false, nI (↑(y_1.u + y_1.n) : Int), nI 0]] ∧ bW x.bs = bW x.bs ∧ bW (([] ++ List.take ((IntKind.i64.wrap ((↑y.u : Int) + IntKind.i64.wrap y.n)).toNat - (↑y.u : Int).toNat) (List.drop (x.o + (↑y.u : Int).toNat + 0) x.bs))) = bW ((List.take y_1.n (List.drop (x.o + y_1.u) x.bs))) ∧ True) ∨ (∃ (y_1 : UN), rowN (List.drop x.o x.bs) x.most = RowR.no 290 ∧ [AV.tup [AV.sl 2 0 0 (0 + ((IntKind.i64.wrap ((↑y.u : Int) + IntKind.i64.wrap y.n)).toNat - (↑y.u : Int).toNat)) (0 + ((IntKind.i64.wrap ((↑y.u : Int) + IntKind.i64.wrap y.n)).toNat - (↑y.u : Int).toNat)) false, nI (IntKind.i64.wrap ((↑y.u : Int) + IntKind.i64.wrap y.n)), nI 0]] = [AV.tup
  [AV.nils, nI 0, nI 290]] ∧ bW x.bs = bW x.bs ∧ True) ∨ (∃ (y_1 : UN), rowN (List.drop x.o x.bs) x.most = RowR.no 291 ∧ [AV.tup [AV.sl 2 0 0 (0 + ((IntKind.i64.wrap ((↑y.u : Int) + IntKind.i64.wrap y.n)).toNat - (↑y.u : Int).toNat)) (0 + ((IntKind.i64.wrap ((↑y.u : Int) + IntKind.i64.wrap y.n)).toNat - (↑y.u : Int).toNat)) false, nI (IntKind.i64.wrap ((↑y.u : Int) + IntKind.i64.wrap y.n)), nI 0]] = [AV.tup [AV.nils, nI 0, nI 291]] ∧ bW x.bs = bW x.bs ∧ True) ∨ ∃ (y_1 : UN), rowN (List.drop x.o x.bs) x.most = RowR.no 3 ∧ [AV.tup [AV.sl 2 0 0 (0 + ((IntKind.i64.wrap ((↑y.u : Int) + IntKind.i64.wrap y.n)).toNat - (↑y.u : Int).toNat)) (0 + ((IntKind.i64.wrap ((↑y.u : Int) + IntKind.i64.wrap y.n)).toNat - (↑y.u : Int).toNat)) false, nI (IntKind.i64.wrap ((↑y.u : Int) + IntKind.i64.wrap y.n)), nI 0]] = [AV.tup [AV.nils, nI 0, nI 3]] ∧ bW x.bs = bW x.bs ∧ True) False) False))) ∧ (∀ (y : Got),
  getN (List.drop x.o x.bs) = (0, 0, 290) → (∃ (y : UN), rowN (List.drop x.o x.bs) x.most = RowR.ok y.u y.n ∧ [AV.tup [AV.nils, nI 0, nI 290]] = [AV.tup [AV.sl 1 0 0 y.n y.n false, nI (↑(y.u + y.n) : Int), nI 0]] ∧ bW x.bs = bW x.bs ∧ False ∧ True) ∨ (∃ (y : UN), rowN (List.drop x.o x.bs) x.most = RowR.no 290 ∧ [AV.tup [AV.nils, nI 0, nI 290]] = [AV.tup [AV.nils, nI 0, nI 290]] ∧ bW x.bs = bW x.bs ∧ True) ∨ (∃ (y : UN), rowN (List.drop x.o x.bs) x.most = RowR.no 291 ∧ [AV.tup [AV.nils, nI 0, nI 290]] = [AV.tup [AV.nils, nI 0, nI 291]] ∧ bW x.bs = bW x.bs ∧ True) ∨ ∃ (y : UN), rowN (List.drop x.o x.bs) x.most = RowR.no 3 ∧ [AV.tup [AV.nils, nI 0, nI 290]] = [AV.tup [AV.nils, nI 0, nI 3]] ∧ bW x.bs = bW x.bs ∧ True) ∧ (∀ (y : Got), getN (List.drop x.o x.bs) = (0, 0, 291) → (∃ (y : UN), rowN (List.drop x.o x.bs) x.most = RowR.ok y.u y.n ∧ [AV.tup [AV.nils, nI 0, nI 291]] = [AV.tup [AV.sl 1 0 0
  y.n y.n false, nI (↑(y.u + y.n) : Int), nI 0]] ∧ bW x.bs = bW x.bs ∧ False ∧ True) ∨ (∃ (y : UN), rowN (List.drop x.o x.bs) x.most = RowR.no 290 ∧ [AV.tup [AV.nils, nI 0, nI 291]] = [AV.tup [AV.nils, nI 0, nI 290]] ∧ bW x.bs = bW x.bs ∧ True) ∨ (∃ (y : UN), rowN (List.drop x.o x.bs) x.most = RowR.no 291 ∧ [AV.tup [AV.nils, nI 0, nI 291]] = [AV.tup [AV.nils, nI 0, nI 291]] ∧ bW x.bs = bW x.bs ∧ True) ∨ ∃ (y : UN), rowN (List.drop x.o x.bs) x.most = RowR.no 3 ∧ [AV.tup [AV.nils, nI 0, nI 291]] = [AV.tup [AV.nils, nI 0, nI 3]] ∧ bW x.bs = bW x.bs ∧ True) ∧ True
theorem getBytesC_c_e (x : AtM) : some (getBytesC_c_V x) = (getBytesC.cond sp Go.Proofs.Tryd.prog (drP sp Go.Proofs.Tryd.prog) noLoops (getC.orc sp) 40 2 x) := by kernel_rfl
theorem getBytesC_ok : getBytesC.OK Go.Proofs.Tryd.prog := by
  refine Con.by hmix (noLoops_ok _) (Con.orc_ok getC_ok) getBytesC_c_V getBytesC_c_e (fun x hx => ?_)
  obtain ⟨h1, h2⟩ := hx
  have hd : (List.drop x.o x.bs).length = x.bs.length - x.o := by simp
  have hr := getN_range (List.drop x.o x.bs)
  unfold getBytesC_c_V
  refine ⟨⟨h1, h2⟩, rfl, ⟨rfl, trivial⟩, fun ⟨n, u⟩ hy => ?_, fun y hy => ?_, fun y hy => ?_, trivial⟩
  · simp only [] at hy ⊢
    obtain ⟨q1, q2, q3⟩ : 0 < u ∧ u ≤ x.bs.length - x.o ∧ 0 ≤ n := by
      rcases hr with ⟨n', u', h, h3, h4, h5⟩ | h | h
      · rw [h] at hy
        simp only [Prod.mk.injEq] at hy
        obtain ⟨rfl, h6, _⟩ := hy
        omega
      · rw [h] at hy; simp at hy
      · rw [h] at hy; simp at hy
    have hN : rowN (List.drop x.o x.bs) x.most = if n > IntKind.wrap .u64 (if (0 : Int) > x.most then 0 else x.most) then .no 3 else if n > IntKind.wrap .u64 (IntKind.wrap .i64 (((x.bs.length - x.o : Nat) : Int) - u)) then .no 290 else .ok u n.toNat := by
      unfold rowN
      rw [hy, hd]
      simp
    have hw1 : IntKind.wrap .i64 (((x.bs.length - x.o : Nat) : Int) - u) = ((x.bs.length - x.o : Nat) : Int) - u := IntWalk.i64_in _ (by omega)
    have hw2 : IntKind.wrap .u64 (((x.bs.length - x.o : Nat) : Int) - u) = ((x.bs.length - x.o : Nat) : Int) - u := IntWalk.u64_in _ (by omega)
    rw [hw1, hw2] at hN
    rw [hw1, hw2]
    refine spI (fun h => ?_) (fun h => ?_)
    · have h : n > IntKind.wrap .u64 (if (0 : Int) > x.most then 0 else x.most) := by simpa using h
      rw [if_pos h] at hN
      exact .inr (.inr (.inr ⟨⟨0, 0⟩, hN, by simp⟩))
    · have h : ¬ n > IntKind.wrap .u64 (if (0 : Int) > x.most then 0 else x.most) := by simpa using h
      rw [if_neg h] at hN
      refine spI (fun h => ?_) (fun h => ?_)
      · have h : n > ((x.bs.length - x.o : Nat) : Int) - u := by simpa using h
        rw [if_pos h] at hN
        exact .inr (.inl ⟨⟨0, 0⟩, hN, by simp⟩)
      · have h : ¬ n > ((x.bs.length - x.o : Nat) : Int) - u := by simpa using h
        rw [if_neg h] at hN
        have hwn : IntKind.wrap .i64 n = n := IntWalk.i64_in _ (by omega)
        have hwu : IntKind.wrap .i64 ((u : Int) + n) = (u : Int) + n := IntWalk.i64_in _ (by omega)
        obtain ⟨m, rfl⟩ : ∃ m : Nat, n = (m : Int) := ⟨n.toNat, by omega⟩
        rw [hwn, hwu]
        have t1 : ((u : Int) + (m : Int)).toNat = u + m := by omega
        have t2 : u + m - u = m := by omega
        simp only [t1, Int.toNat_natCast, t2, Nat.zero_add, Nat.add_zero]
        refine spI (fun h => ?_) (fun h => ?_)
        · refine spI (fun h => ?_) (fun h => ?_)
          · refine .inl ⟨⟨u, m⟩, by simpa using hN, ?_⟩
            simp
          · clear t1 t2 hwu hwn hN hy hw1 hw2 hr
            simp at h
            omega
        · clear t1 t2 hwu hwn hN hy hw1 hw2 hr
          simp at h
          omega
  · have hN : rowN (List.drop x.o x.bs) x.most = .no 290 := by unfold rowN; rw [hy]; simp
    exact .inr (.inl ⟨⟨0, 0⟩, hN, rfl, rfl, trivial⟩)
  · have hN : rowN (List.drop x.o x.bs) x.most = .no 291 := by unfold rowN; rw [hy]; simp
    exact .inr (.inr (.inl ⟨⟨0, 0⟩, hN, rfl, rfl, trivial⟩))
def openC_c_V (x : OpenX) : Prop :=
  sp (decide ((↑x.bs.length : Int) < 4)) ((∃ (y : List Int), openN x.bs = OpenR.ok y ∧ [AV.tup [AV.nils, nI 290]] = [AV.tup [AV.sl 1 0 0 y.length y.length false, nI 0]] ∧ bR x.bs = bR x.bs ∧ False ∧ True) ∨ (∃ (y : List Int), openN x.bs = OpenR.no 290 ∧ [AV.tup [AV.nils, nI 290]] = [AV.tup [AV.nils, nI 290]] ∧ bR x.bs = bR x.bs ∧ True) ∨ ∃ (y : List Int), openN x.bs = OpenR.no 292 ∧ [AV.tup [AV.nils, nI 290]] = [AV.tup [AV.nils, nI 292]] ∧ bR x.bs = bR x.bs ∧ True) (sp (decide (0 ≤ IntKind.i64.wrap ((↑x.bs.length : Int) - 4)) && decide (IntKind.i64.wrap ((↑x.bs.length : Int) - 4) < (↑x.bs.length : Int)) && true) (sp (decide (0 + (IntKind.i64.wrap ((↑x.bs.length : Int) - 4)).toNat + 0 < x.bs.length)) (sp (decide (0 ≤ IntKind.i64.wrap (IntKind.i64.wrap ((↑x.bs.length : Int) - 4) + 1)) && decide (IntKind.i64.wrap (IntKind.i64.wrap ((↑x.bs.length : Int) - 4) + 1) < (↑x.bs.length : Int)) &&
  true) (sp (decide (0 + (IntKind.i64.wrap (IntKind.i64.wrap ((↑x.bs.length : Int) - 4) + 1)).toNat + 0 < x.bs.length)) (sp (decide (0 ≤ IntKind.i64.wrap (IntKind.i64.wrap ((↑x.bs.length : Int) - 4) + 2)) && decide (IntKind.i64.wrap (IntKind.i64.wrap ((↑x.bs.length : Int) - 4) + 2) < (↑x.bs.length : Int)) && true) (sp (decide (0 + (IntKind.i64.wrap (IntKind.i64.wrap ((↑x.bs.length : Int) - 4) + 2)).toNat + 0 < x.bs.length)) (sp (decide (0 ≤ IntKind.i64.wrap (IntKind.i64.wrap ((↑x.bs.length : Int) - 4) + 3)) && decide (IntKind.i64.wrap (IntKind.i64.wrap ((↑x.bs.length : Int) - 4) + 3) < (↑x.bs.length : Int)) && true) (sp (decide (0 + (IntKind.i64.wrap (IntKind.i64.wrap ((↑x.bs.length : Int) - 4) + 3)).toNat + 0 < x.bs.length)) (sp (decide (0 ≤ IntKind.i64.wrap ((↑x.bs.length : Int) - 4)) && true && true && decide ((IntKind.i64.wrap ((↑x.bs.length : Int) - 4)).toNat ≤ x.c) && decide (x.c ≤
  x.c) && true) (((IntKind.i64.wrap ((↑x.bs.length : Int) - 4)).toNat - 0 ≤ x.bs.length ∧ (IntKind.i64.wrap ((↑x.bs.length : Int) - 4)).toNat - 0 ≤ 9223372036854775807) ∧ [AV.sl 1 0 0 1 1 true] = [AV.sl 1 0 0 1 1 true] ∧ (some (bC [AV.msl 0 0 0 ((IntKind.i64.wrap ((↑x.bs.length : Int) - 4)).toNat - 0) (x.c - 0)]) = some (bC [AV.msl 0 0 0 ((IntKind.i64.wrap ((↑x.bs.length : Int) - 4)).toNat - 0) (x.c - 0)]) ∧ some (bR x.bs) = some (bR x.bs) ∧ True) ∧ (∀ (y : Unit), True → sp (sumB (List.take ((IntKind.i64.wrap ((↑x.bs.length : Int) - 4)).toNat - 0) x.bs) != bits BinOp.or IntKind.u32 (bits BinOp.or IntKind.u32 (bits BinOp.or IntKind.u32 (IntKind.u32.wrap (x.bs.getD (0 + (IntKind.i64.wrap ((↑x.bs.length : Int) - 4)).toNat + 0) 0)) (IntKind.u32.wrap (IntKind.u32.wrap (x.bs.getD (0 + (IntKind.i64.wrap (IntKind.i64.wrap ((↑x.bs.length : Int) - 4) + 1)).toNat + 0) 0) * 256))) (IntKind.u32.wrap
  (IntKind.u32.wrap (x.bs.getD (0 + (IntKind.i64.wrap (IntKind.i64.wrap ((↑x.bs.length : Int) - 4) + 2)).toNat + 0) 0) * 65536))) (IntKind.u32.wrap (IntKind.u32.wrap (x.bs.getD (0 + (IntKind.i64.wrap (IntKind.i64.wrap ((↑x.bs.length : Int) - 4) + 3)).toNat + 0) 0) * 16777216))) ((∃ (y : List Int), openN x.bs = OpenR.ok y ∧ [AV.tup [AV.nils, nI 292]] = [AV.tup [AV.sl 2 0 0 y.length y.length false, nI 0]] ∧ bR x.bs = bR x.bs ∧ False ∧ True) ∨ (∃ (y : List Int), openN x.bs = OpenR.no 290 ∧ [AV.tup [AV.nils, nI 292]] = [AV.tup [AV.nils, nI 290]] ∧ bR x.bs = bR x.bs ∧ True) ∨ ∃ (y : List Int), openN x.bs = OpenR.no 292 ∧ [AV.tup [AV.nils, nI 292]] = [AV.tup [AV.nils, nI 292]] ∧ bR x.bs = bR x.bs ∧ True) (sp (decide (0 ≤ IntKind.i64.wrap ((↑x.bs.length : Int) - 4)) && true && true && decide ((IntKind.i64.wrap ((↑x.bs.length : Int) - 4)).toNat ≤ x.c) && decide (x.c ≤ x.c) && true) (sp (decide (0 +
  ((IntKind.i64.wrap ((↑x.bs.length : Int) - 4)).toNat - 0) ≤ x.bs.length) && (decide ((0 + ((IntKind.i64.wrap ((↑x.bs.length : Int) - 4)).toNat - 0)) * 1 ≤ 140737488355328) && decide (0 + ((IntKind.i64.wrap ((↑x.bs.length : Int) - 4)).toNat - 0) ≤ 9223372036854775807))) ((∃ (y : List Int), openN x.bs = OpenR.ok y ∧ [AV.tup [AV.sl 3 0 0 (0 + ((IntKind.i64.wrap ((↑x.bs.length : Int) - 4)).toNat - 0)) (0 + ((IntKind.i64.wrap ((↑x.bs.length : Int) - 4)).toNat - 0)) false, nI 0]] = [AV.tup [AV.sl 3 0 0 y.length y.length false, nI 0]] ∧ bR x.bs = bR x.bs ∧ bW (([] ++ List.take ((IntKind.i64.wrap ((↑x.bs.length : Int) - 4)).toNat - 0) (List.drop 0 x.bs))) = bW y ∧ True) ∨ (∃ (y : List Int), openN x.bs = OpenR.no 290 ∧ [AV.tup [AV.sl 3 0 0 (0 + ((IntKind.i64.wrap ((↑x.bs.length : Int) - 4)).toNat - 0)) (0 + ((IntKind.i64.wrap ((↑x.bs.length : Int) - 4)).toNat - 0)) false, nI 0]] = [AV.tup
  [AV.nils, nI 290]] ∧ bR x.bs = bR x.bs ∧ True) ∨ ∃ (y : List Int), openN x.bs = OpenR.no 292 ∧ [AV.tup [AV.sl 3 0 0 (0 + ((IntKind.i64.wrap ((↑x.bs.length : Int) - 4)).toNat - 0)) (0 + ((IntKind.i64.wrap ((↑x.bs.length : Int) - 4)).toNat - 0)) false, nI 0]] = [AV.tup [AV.nils, nI 292]] ∧ bR x.bs = bR x.bs ∧ True) False) False)) ∧ True) False) False) False) False) False) False) False) False) False)
theorem openC_c_e (x : OpenX) : some (openC_c_V x) = (openC.cond sp Go.Proofs.Tryd.prog (drP sp Go.Proofs.Tryd.prog) noLoops (sumMC.orc sp) 40 2 x) := by kernel_rfl
theorem openC_ok : openC.OK Go.Proofs.Tryd.prog := by
  refine Con.by hmix (noLoops_ok _) (Con.orc_ok sumMC_ok) openC_c_V openC_c_e (fun x hx => ?_)
  have h1 : x.bs.length ≤ 140737488355328 := hx.1
  have h2 : x.bs.length ≤ x.c := hx.2
  unfold openC_c_V
  refine spI (fun h => ?_) (fun h => ?_)
  · have h : x.bs.length < 4 := by have : (x.bs.length : Int) < 4 := by simpa using h
                                   omega
    exact .inr (.inl ⟨[], by simp [openN, h], rfl, rfl, trivial⟩)
  · have h : ¬ x.bs.length < 4 := by have : ¬ (x.bs.length : Int) < 4 := by simpa using h
                                     omega
    have w0 : IntKind.wrap .i64 ((x.bs.length : Int) - 4) = ((x.bs.length - 4 : Nat) : Int) := by rw [IntWalk.i64_in _ (by omega)]; omega
    have w1 : IntKind.wrap .i64 (((x.bs.length - 4 : Nat) : Int) + 1) = ((x.bs.length - 4 + 1 : Nat) : Int) := by rw [IntWalk.i64_in _ (by omega)]; omega
    have w2 : IntKind.wrap .i64 (((x.bs.length - 4 : Nat) : Int) + 2) = ((x.bs.length - 4 + 2 : Nat) : Int) := by rw [IntWalk.i64_in _ (by omega)]; omega
    have w3 : IntKind.wrap .i64 (((x.bs.length - 4 : Nat) : Int) + 3) = ((x.bs.length - 4 + 3 : Nat) : Int) := by rw [IntWalk.i64_in _ (by omega)]; omega
    simp only [w0, w1, w2, w3, Int.toNat_natCast, Nat.add_zero, Nat.zero_add, Nat.sub_zero]
    have ho : openN x.bs = if sumB (x.bs.take (x.bs.length - 4)) ≠ le32 (x.bs.getD (x.bs.length - 4) 0) (x.bs.getD (x.bs.length - 4 + 1) 0) (x.bs.getD (x.bs.length - 4 + 2) 0) (x.bs.getD (x.bs.length - 4 + 3) 0) then .no 292 else .ok (x.bs.take (x.bs.length - 4)) := by
      unfold openN; rw [if_neg h]
    generalize x.bs.getD (x.bs.length - 4) 0 = a0 at *
    generalize x.bs.getD (x.bs.length - 4 + 1) 0 = a1 at *
    generalize x.bs.getD (x.bs.length - 4 + 2) 0 = a2 at *
    generalize x.bs.getD (x.bs.length - 4 + 3) 0 = a3 at *
    clear w0 w1 w2 w3
    have k0 : (x.bs.length : Int) = ((x.bs.length - 4 : Nat) : Int) + 4 := by omega
    have kx : x.bs.length = (x.bs.length - 4) + 4 := by omega
    refine spI (fun _ => ?_) (fun h => by simp at h; omega)
    refine spI (fun _ => ?_) (fun h => by simp at h; omega)
    refine spI (fun _ => ?_) (fun h => by simp at h; omega)
    refine spI (fun _ => ?_) (fun h => by simp at h; omega)
    refine spI (fun _ => ?_) (fun h => by simp at h; omega)
    refine spI (fun _ => ?_) (fun h => by simp at h; omega)
    refine spI (fun _ => ?_) (fun h => by simp at h; omega)
    refine spI (fun _ => ?_) (fun h => by simp at h; omega)
    refine spI (fun _ => ?_) (fun h => by simp at h; omega)
    refine ⟨⟨by omega, by omega⟩, by simp, by simp, fun y hy => ?_, trivial⟩
    refine spI (fun h => ?_) (fun h => ?_)
    · have h : sumB (x.bs.take (x.bs.length - 4)) ≠ le32 a0 a1 a2 a3 := by simpa [le32] using h
      rw [if_pos h] at ho
      exact .inr (.inr ⟨[], ho, by simp, by simp⟩)
    · have h : ¬ sumB (x.bs.take (x.bs.length - 4)) ≠ le32 a0 a1 a2 a3 := by simpa [le32] using h
      rw [if_neg h] at ho
      refine spI (fun _ => ?_) (fun h => by simp at h; omega)
      refine spI (fun _ => ?_) (fun h => by simp at h; omega)
      refine .inl ⟨_, ho, by simp, by simp⟩
end Go.Proofs.YtmbcpmbpkdeioaaDoor.W
/- A guest's fields laid: what is reckoned, and the loops' states. No condition. -/
namespace Go.Proofs.YtmbcpmbpkdeioaaDoor.W
open Go Go.RowKit Go.Eng
set_option maxRecDepth 100000
set_option linter.unusedVariables false
set_option linter.unusedSimpArgs false
theorem putN_len : ∀ (k : Nat) (n : Int), n < 128 ^ (k + 1) → (putN n).length ≤ k + 1
  | 0, n, h => by
    rw [putN, if_pos (by simpa using h)]; simp
  | k + 1, n, h => by
    rw [putN]
    split
    · simp
    · rename_i h1
      have : n.fdiv 128 < 128 ^ (k + 1) := by
        rw [Int.fdiv_eq_ediv_of_nonneg _ (by decide)]
        have e : (128 : Int) ^ (k + 1 + 1) = 128 ^ (k + 1) * 128 := by rw [Int.pow_succ]
        omega
      have := putN_len k _ this
      simp only [List.length_cons]; omega
theorem putN_w (n : Int) : (putN (IntKind.wrap .u64 n)).length ≤ 10 := putN_len 9 _ (by rw [IntKind.wrap_u64]; omega)
/-- Numbers, laid. -/
def encs : List Int → List Int
  | [] => []
  | n :: l => putN (IntKind.wrap .u64 n) ++ encs l
theorem encs_append (a b : List Int) : encs (a ++ b) = encs a ++ encs b := by
  induction a with
  | nil => rfl
  | cons n l ih => simp [encs, ih]
theorem encs_len (l : List Int) : (encs l).length ≤ 10 * l.length := by
  induction l with
  | nil => simp [encs]
  | cons n l ih => have := putN_w n; simp [encs]; omega
/-- A writer: what it has, whether its row is just that long, what is laid; how much of it is done. -/
structure WI where
  out : List Int
  ex : Bool
  l : List Int
  k : Nat
def intsFit (k t6 : Nat) (s : SL) (H : AH) : Option WI :=
  match s.get 0, s.get t6, s.get k with
  | .ptr b0 _ _, .sl b1 _ _ _ _ _, .int _ k => match H.get b0, H.get b1 with
    | some k0, some k1 => match k0.c, k1.c with
      | .cells [.sl b _ _ _ _ ex], .ints _ l => match H.get b with
        | some q => match q.c with
          | .ints _ out => some ⟨out, ex, l, k.toNat⟩
          | _ => none
        | none => none
      | _, _ => none
    | _, _ => none
  | _, _, _ => none
def intsLp (P : Program) (f : FuncId) (t : IntKind) : Lp WI where
  B := 3
  n := ntmpsOf P f
  code := loopOf P f 0
  fit := intsFit 8 6
  pre i := i.out.length + 10 * i.l.length ≤ 1000000000 + 10 * i.k ∧ i.k ≤ i.l.length ∧ i.l.length ≤ 1000000000
  slots i := [(0, .ptr 0 0 0), (6, .sl 1 0 0 i.l.length i.l.length true), (7, .int .i64 i.l.length), (8, .int .i64 i.k)]
  nx i := 4
  L i := [(0, ⟨true, 1, .cells [.sl 3 0 0 i.out.length i.out.length i.ex]⟩), (1, ⟨true, 1, .ints t i.l⟩), (3, ⟨true, 1, .ints .u8 i.out⟩)]
  m i := i.l.length - i.k
  outs i := [(true, ⟨.exit 0, [], 4, [(0, ⟨true, 1, .cells [.sl 3 0 0 (i.out ++ encs (i.l.drop i.k)).length (i.out ++ encs (i.l.drop i.k)).length (i.ex && decide (i.l.length ≤ i.k))]⟩), (3, ⟨true, 1, .ints .u8 (i.out ++ encs (i.l.drop i.k))⟩)]⟩)]
structure WX where
  out : List Int
  ex : Bool
  l : List Int
def intsC (f : FuncId) (t : IntKind) : Con WX (List Int) where
  f := f
  fit vs H := match vs with
    | [.ptr b0 _ _, .sl b1 _ _ _ _ _] => match H.get b0, H.get b1 with
      | some k0, some k1 => match k0.c, k1.c with
        | .cells [.sl b _ _ _ _ ex], .ints _ l => match H.get b with
          | some q => match q.c with
            | .ints _ out => some ([b0, b1, b], ⟨out, ex, l⟩)
            | _ => none
          | none => none
        | _, _ => none
      | _, _ => none
    | _ => none
  n0 := 3
  pre x := x.out.length + 10 * x.l.length ≤ 1000000000
  args x := [.ptr 0 0 0, .sl 1 0 0 x.l.length x.l.length true]
  L0 x := [(0, ⟨true, 1, .cells [.sl 2 0 0 x.out.length x.out.length x.ex]⟩), (1, ⟨true, 1, .ints t x.l⟩), (2, ⟨true, 1, .ints .u8 x.out⟩)]
  outs x := [(fun y => y = x.out ++ encs x.l, fun y => (.ret (.tup []), 4, [(0, ⟨true, 1, .cells [.sl 3 0 0 y.length y.length (x.ex && decide (x.l.length ≤ 0))]⟩), (3, ⟨true, 1, .ints .u8 y⟩)]))]
structure WR where
  out : List Int
  ex : Bool
  r : Row
def rowC : Con WR (List Int) where
  f := F_file_writer_row
  fit vs H := match vs with
    | [.ptr b0 _ _, .msl b1 _ _ _ c] => match H.get b0, H.get b1 with
      | some k0, some k1 => match k0.c, k1.c with
        | .cells [.sl b _ _ _ _ ex], .ints _ l => match H.get b with
          | some q => match q.c with
            | .ints _ out => some ([b0, b1, b], ⟨out, ex, ⟨l, c⟩⟩)
            | _ => none
          | none => none
        | _, _ => none
      | _, _ => none
    | _ => none
  n0 := 3
  pre x := x.out.length ≤ 1000000000 ∧ x.r.bs.length ≤ 100000000
  args x := [.ptr 0 0 0, x.r.av 1]
  L0 x := [(0, ⟨true, 1, .cells [.sl 2 0 0 x.out.length x.out.length x.ex]⟩), (1, x.r.blk), (2, ⟨true, 1, .ints .u8 x.out⟩)]
  outs x := [(fun y => y = x.out ++ rowB x.r.bs, fun y => (.ret (.tup []), 4, [(0, ⟨true, 1, .cells [.sl 3 0 0 y.length y.length false]⟩), (1, x.r.blk), (3, ⟨true, 1, .ints .u8 y⟩)]))]
structure St where
  r0 : Int
  r1 : Int
  r2 : Int
  r3 : Int
  r4 : Int
  r5 : Int
  r6 : Int
  r7 : Int
  pc : Int
  ps : Int
  c0 : Int
  c1 : Int
  c2 : Int
  c3 : Int
  c4 : Int
  c5 : Int
  c6 : Int
  c7 : Int
  h : Bool
def St.av (s : St) : List AV := [.int .u32 (s.r0), .int .u32 (s.r1), .int .u32 (s.r2), .int .u32 (s.r3), .int .u32 (s.r4), .int .u32 (s.r5), .int .u32 (s.r6), .int .u32 (s.r7), .int .u32 s.pc, .int .u32 s.ps,
  .int .u32 (s.c0), .int .u32 (s.c1), .int .u32 (s.c2), .int .u32 (s.c3), .int .u32 (s.c4), .int .u32 (s.c5), .int .u32 (s.c6), .int .u32 (s.c7), .bool s.h]
def St.nums (s : St) : List Int := [s.r0, s.r1, s.r2, s.r3, s.r4, s.r5, s.r6, s.r7, s.pc, s.ps, s.c0, s.c1, s.c2, s.c3, s.c4, s.c5, s.c6, s.c7, if s.h then 1 else 0]
structure WS where
  out : List Int
  ex : Bool
  s : St
/-- Numbers that lie in a record of cells. -/
structure W8 where
  out : List Int
  ex : Bool
  j : Bool
  s : St
def W8.l (x : W8) : List Int := bif x.j then [x.s.c0, x.s.c1, x.s.c2, x.s.c3, x.s.c4, x.s.c5, x.s.c6, x.s.c7] else [x.s.r0, x.s.r1, x.s.r2, x.s.r3, x.s.r4, x.s.r5, x.s.r6, x.s.r7]
end Go.Proofs.YtmbcpmbpkdeioaaDoor.W
/- A guest's fields laid: the walks. No condition. -/
namespace Go.Proofs.YtmbcpmbpkdeioaaDoor.W
open Go Go.RowKit Go.Eng
set_option maxRecDepth 100000
set_option linter.unusedVariables false
set_option linter.unusedSimpArgs false
def intsL_c_V (i : WI) : Prop :=
  sp (decide ((↑i.k : Int) < (↑i.l.length : Int))) (sp (decide ((↑i.k : Int) < (↑i.l.length : Int)) && true) (sp (decide (0 + (↑i.k : Int).toNat + 0 < i.l.length)) (sp (decide (IntKind.u64.wrap (i.l.getD (0 + (↑i.k : Int).toNat + 0) 0) = IntKind.u64.wrap (i.l.getD (0 + (↑i.k : Int).toNat + 0) 0))) (sp (decide (i.l.getD (0 + (↑i.k : Int).toNat + 0) 0 = i.l.getD (0 + (↑i.k : Int).toNat + 0) 0)) (sp (i.out.length.beq i.out.length && i.out.length.beq i.out.length && i.ex == i.ex) ((putN (IntKind.u64.wrap (i.l.getD (0 + (↑i.k : Int).toNat + 0) 0))).length.le 900 ∧ [] ++ [AV.nils, nL (IntKind.u64.wrap (i.l.getD (0 + (↑i.k : Int).toNat + 0) 0))] ++ [] = [AV.nils, nL (IntKind.u64.wrap (i.l.getD (0 + (↑i.k : Int).toNat + 0) 0))] ∧ True ∧ (∀ (y : Unit), True → sp (i.out.length.beq i.out.length && i.out.length.beq i.out.length && i.ex == i.ex) (sp (decide (0 + (putN (IntKind.u64.wrap (i.l.getD (0 +
  (↑i.k : Int).toNat + 0) 0))).length ≤ (putN (IntKind.u64.wrap (i.l.getD (0 + (↑i.k : Int).toNat + 0) 0))).length) && (decide (0 + i.out.length ≤ i.out.length) && true && true && true && (!i.ex || decide (i.out.length = i.out.length) || decide (0 + i.out.length ≤ i.out.length)) && decide ((i.out.length + (putN (IntKind.u64.wrap (i.l.getD (0 + (↑i.k : Int).toNat + 0) 0))).length) * 1 ≤ 140737488355328) && decide (i.out.length + (putN (IntKind.u64.wrap (i.l.getD (0 + (↑i.k : Int).toNat + 0) 0))).length ≤ 9223372036854775807))) (∃ (j : WI), (j.out.length + 10 * j.l.length ≤ 1000000000 + 10 * j.k ∧ j.k ≤ j.l.length ∧ j.l.length ≤ 1000000000) ∧ j.l.length - j.k < i.l.length - i.k ∧ [(true, LOut.mk (AX.exit 0) [] 4 [(0, bC [AV.sl 3 0 0 (j.out ++ encs (List.drop j.k j.l)).length (j.out ++ encs (List.drop j.k j.l)).length (j.ex && decide (j.l.length ≤ j.k))]), (3, bW ((j.out ++ encs (List.drop j.k
  j.l))))])] = [(true, LOut.mk (AX.exit 0) [] 4 [(0, bC [AV.sl 3 0 0 (i.out ++ encs (List.drop i.k i.l)).length (i.out ++ encs (List.drop i.k i.l)).length (i.ex && decide (i.l.length ≤ i.k))]), (3, bW ((i.out ++ encs (List.drop i.k i.l))))])] ∧ (AV.ptr 0 0 0 = AV.ptr 0 0 0 ∧ AV.sl 1 0 0 i.l.length i.l.length true = AV.sl 1 0 0 j.l.length j.l.length true ∧ nI (↑i.l.length : Int) = nI (↑j.l.length : Int) ∧ nI (IntKind.i64.wrap ((↑i.k : Int) + 1)) = nI (↑j.k : Int) ∧ True) ∧ bC (([AV.sl 3 0 0 i.out.length i.out.length i.ex].set 0 (AV.sl 5 0 0 (i.out.length + (putN (IntKind.u64.wrap (i.l.getD (0 + (↑i.k : Int).toNat + 0) 0))).length) (i.out.length + (putN (IntKind.u64.wrap (i.l.getD (0 + (↑i.k : Int).toNat + 0) 0))).length) false))) = bC [AV.sl 5 0 0 j.out.length j.out.length j.ex] ∧ ABlk.mk true 1 (AC.ints IntKind.i64 i.l) = ABlk.mk true 1 (AC.ints IntKind.i64 j.l) ∧ bW ((List.take
  i.out.length (List.drop 0 i.out) ++ List.take (putN (IntKind.u64.wrap (i.l.getD (0 + (↑i.k : Int).toNat + 0) 0))).length (List.drop 0 (putN (IntKind.u64.wrap (i.l.getD (0 + (↑i.k : Int).toNat + 0) 0)))))) = bW j.out ∧ True) False) False) ∧ True) False) False) False) False) False) (True ∧ bC [AV.sl 3 0 0 i.out.length i.out.length i.ex] = bC [AV.sl 3 0 0 (i.out ++ encs (List.drop i.k i.l)).length (i.out ++ encs (List.drop i.k i.l)).length (i.ex && decide (i.l.length ≤ i.k))] ∧ bW i.out = bW ((i.out ++ encs (List.drop i.k i.l))) ∧ True)
theorem intsL_c_e (i : WI) : some (intsL_c_V i) = (some ((intsLp Go.Proofs.Tryd.prog F_file_writer_ints .i64).body sp Go.Proofs.Tryd.prog (putC.orc sp) (drP sp Go.Proofs.Tryd.prog (putC.orc sp)) noLo 40 i)) := by kernel_rfl
theorem intsL_ok : (intsLp Go.Proofs.Tryd.prog F_file_writer_ints .i64).OK Go.Proofs.Tryd.prog := by
  refine Lp.ok_of (Con.orc_ok putC_ok) (drP_ok hmix _ (Con.orc_ok putC_ok)) (noLo_ok _) (by decide) 40 (fun i hi => ?_)
  rw [← Option.some.inj (intsL_c_e i)]
  have h1 : i.out.length + 10 * i.l.length ≤ 1000000000 + 10 * i.k := hi.1
  have h2 : i.k ≤ i.l.length := hi.2.1
  have h3 : i.l.length ≤ 1000000000 := hi.2.2
  unfold intsL_c_V
  by_cases hk : i.k < i.l.length
  · have hx0 : 0 + (i.k : Int).toNat + 0 = i.k := by simp
    rw [hx0]
    have e : i.l.drop i.k = i.l.getD i.k 0 :: i.l.drop (i.k + 1) := by
      rw [List.drop_eq_getElem_cons hk]
      simp [List.getD_eq_getElem?_getD, hk]
    generalize i.l.getD i.k 0 = n at e
    have hp := putN_w n
    generalize hq : putN (IntKind.wrap .u64 n) = q at hp
    have hw : IntKind.wrap .i64 ((i.k : Int) + 1) = (i.k : Int) + 1 := IntWalk.i64_in _ (by omega)
    have hki : (i.k : Int) < (i.l.length : Int) := by omega
    have b1 : q.length ≤ 900 := by omega
    have b2 : i.out.length + q.length ≤ 140737488355328 := by omega
    have b3 : i.out.length + q.length ≤ 9223372036854775807 := by omega
    simp only [sp, hki, hk, b1, b2, b3, decide_true, Bool.and_true, Bool.true_and, Nat.beq_refl, beq_self_eq_true, Nat.zero_add, Nat.mul_one, Nat.le_refl, Bool.or_true, true_and, and_true, List.nil_append, List.append_nil]
    refine ⟨b1, fun _ _ => ⟨⟨i.out ++ q, false, i.l, i.k + 1⟩, ⟨?_, ?_, h3⟩, ?_, ?_, ?_⟩⟩
    · simp; omega
    · show i.k + 1 ≤ i.l.length; omega
    · show i.l.length - (i.k + 1) < i.l.length - i.k; omega
    · have hd : ¬ i.l.length ≤ i.k := by omega
      simp [e, encs, hq, hd]
    · simp [hw]
  · have hk2 : i.k = i.l.length := by omega
    have hki : ¬ (i.k : Int) < (i.l.length : Int) := by omega
    simp [sp, hki, hk2, encs]
def intsC_c_V (x : WX) : Prop :=
  same (loopOf Proofs.Tryd.prog F_file_writer_ints 0) (loopOf Proofs.Tryd.prog F_file_writer_ints 0) ∧ (x.out.length + 10 * x.l.length ≤ 1000000000 ∧ 0 ≤ x.l.length ∧ x.l.length ≤ 1000000000) ∧ ((AV.ptr 0 0 0 = AV.ptr 0 0 0 ∧ AV.sl 1 0 0 x.l.length x.l.length true = AV.sl 1 0 0 x.l.length x.l.length true ∧ nI (↑x.l.length : Int) = nI (↑x.l.length : Int) ∧ nI 0 = nI 0 ∧ True) ∧ bC [AV.sl 2 0 0 x.out.length x.out.length x.ex] = bC [AV.sl 2 0 0 x.out.length x.out.length x.ex] ∧ ABlk.mk true 1 (AC.ints IntKind.i64 x.l) = ABlk.mk true 1 (AC.ints IntKind.i64 x.l) ∧ bW x.out = bW x.out ∧ True) ∧ ∃ (y : List Int), y = x.out ++ encs x.l ∧ [AV.tup []] = [AV.tup []] ∧ bC [AV.sl 3 0 0 (x.out ++ encs (List.drop 0 x.l)).length (x.out ++ encs (List.drop 0 x.l)).length (x.ex && decide (x.l.length ≤ 0))] = bC [AV.sl 3 0 0 y.length y.length (x.ex && decide (x.l.length ≤ 0))] ∧ bW ((x.out ++ encs (List.drop 0
  x.l))) = bW y ∧ True
theorem intsC_c_e (x : WX) : some (intsC_c_V x) = ((intsC F_file_writer_ints .i64).cond sp Go.Proofs.Tryd.prog (drP sp Go.Proofs.Tryd.prog) (forF F_file_writer_ints ((intsLp Go.Proofs.Tryd.prog F_file_writer_ints .i64).lo sp Go.Proofs.Tryd.prog (isLoop 1) (loopOf Go.Proofs.Tryd.prog F_file_writer_ints 0)) noLoops) (putC.orc sp) 40 2 x) := by kernel_rfl
theorem intsC_ok : (intsC F_file_writer_ints .i64).OK Go.Proofs.Tryd.prog := by
  refine Con.by hmix (forF_ok (Lp.lo_ok intsL_ok rfl) (noLoops_ok _)) (Con.orc_ok putC_ok) intsC_c_V intsC_c_e (fun x hx => ?_)
  have h1 : x.out.length + 10 * x.l.length ≤ 1000000000 := hx
  have h2 : x.l.length ≤ 1000000000 := by omega
  simp [intsC_c_V, same, h1, h2]
def numsL_c_V (i : WI) : Prop :=
  sp (decide ((↑i.k : Int) < (↑i.l.length : Int))) (sp (decide ((↑i.k : Int) < (↑i.l.length : Int)) && true) (sp (decide (0 + (↑i.k : Int).toNat + 0 < i.l.length)) (sp (decide (IntKind.u64.wrap (i.l.getD (0 + (↑i.k : Int).toNat + 0) 0) = IntKind.u64.wrap (i.l.getD (0 + (↑i.k : Int).toNat + 0) 0))) (sp (decide (i.l.getD (0 + (↑i.k : Int).toNat + 0) 0 = i.l.getD (0 + (↑i.k : Int).toNat + 0) 0)) (sp (i.out.length.beq i.out.length && i.out.length.beq i.out.length && i.ex == i.ex) ((putN (IntKind.u64.wrap (i.l.getD (0 + (↑i.k : Int).toNat + 0) 0))).length.le 900 ∧ [] ++ [AV.nils, nL (IntKind.u64.wrap (i.l.getD (0 + (↑i.k : Int).toNat + 0) 0))] ++ [] = [AV.nils, nL (IntKind.u64.wrap (i.l.getD (0 + (↑i.k : Int).toNat + 0) 0))] ∧ True ∧ (∀ (y : Unit), True → sp (i.out.length.beq i.out.length && i.out.length.beq i.out.length && i.ex == i.ex) (sp (decide (0 + (putN (IntKind.u64.wrap (i.l.getD (0 +
  (↑i.k : Int).toNat + 0) 0))).length ≤ (putN (IntKind.u64.wrap (i.l.getD (0 + (↑i.k : Int).toNat + 0) 0))).length) && (decide (0 + i.out.length ≤ i.out.length) && true && true && true && (!i.ex || decide (i.out.length = i.out.length) || decide (0 + i.out.length ≤ i.out.length)) && decide ((i.out.length + (putN (IntKind.u64.wrap (i.l.getD (0 + (↑i.k : Int).toNat + 0) 0))).length) * 1 ≤ 140737488355328) && decide (i.out.length + (putN (IntKind.u64.wrap (i.l.getD (0 + (↑i.k : Int).toNat + 0) 0))).length ≤ 9223372036854775807))) (∃ (j : WI), (j.out.length + 10 * j.l.length ≤ 1000000000 + 10 * j.k ∧ j.k ≤ j.l.length ∧ j.l.length ≤ 1000000000) ∧ j.l.length - j.k < i.l.length - i.k ∧ [(true, LOut.mk (AX.exit 0) [] 4 [(0, bC [AV.sl 3 0 0 (j.out ++ encs (List.drop j.k j.l)).length (j.out ++ encs (List.drop j.k j.l)).length (j.ex && decide (j.l.length ≤ j.k))]), (3, bW ((j.out ++ encs (List.drop j.k
  j.l))))])] = [(true, LOut.mk (AX.exit 0) [] 4 [(0, bC [AV.sl 3 0 0 (i.out ++ encs (List.drop i.k i.l)).length (i.out ++ encs (List.drop i.k i.l)).length (i.ex && decide (i.l.length ≤ i.k))]), (3, bW ((i.out ++ encs (List.drop i.k i.l))))])] ∧ (AV.ptr 0 0 0 = AV.ptr 0 0 0 ∧ AV.sl 1 0 0 i.l.length i.l.length true = AV.sl 1 0 0 j.l.length j.l.length true ∧ nI (↑i.l.length : Int) = nI (↑j.l.length : Int) ∧ nI (IntKind.i64.wrap ((↑i.k : Int) + 1)) = nI (↑j.k : Int) ∧ True) ∧ bC (([AV.sl 3 0 0 i.out.length i.out.length i.ex].set 0 (AV.sl 5 0 0 (i.out.length + (putN (IntKind.u64.wrap (i.l.getD (0 + (↑i.k : Int).toNat + 0) 0))).length) (i.out.length + (putN (IntKind.u64.wrap (i.l.getD (0 + (↑i.k : Int).toNat + 0) 0))).length) false))) = bC [AV.sl 5 0 0 j.out.length j.out.length j.ex] ∧ ABlk.mk true 1 (AC.ints IntKind.u32 i.l) = ABlk.mk true 1 (AC.ints IntKind.u32 j.l) ∧ bW ((List.take
  i.out.length (List.drop 0 i.out) ++ List.take (putN (IntKind.u64.wrap (i.l.getD (0 + (↑i.k : Int).toNat + 0) 0))).length (List.drop 0 (putN (IntKind.u64.wrap (i.l.getD (0 + (↑i.k : Int).toNat + 0) 0)))))) = bW j.out ∧ True) False) False) ∧ True) False) False) False) False) False) (True ∧ bC [AV.sl 3 0 0 i.out.length i.out.length i.ex] = bC [AV.sl 3 0 0 (i.out ++ encs (List.drop i.k i.l)).length (i.out ++ encs (List.drop i.k i.l)).length (i.ex && decide (i.l.length ≤ i.k))] ∧ bW i.out = bW ((i.out ++ encs (List.drop i.k i.l))) ∧ True)
theorem numsL_c_e (i : WI) : some (numsL_c_V i) = (some ((intsLp Go.Proofs.Tryd.prog F_file_writer_numbers .u32).body sp Go.Proofs.Tryd.prog (putC.orc sp) (drP sp Go.Proofs.Tryd.prog (putC.orc sp)) noLo 40 i)) := by kernel_rfl
theorem numsL_ok : (intsLp Go.Proofs.Tryd.prog F_file_writer_numbers .u32).OK Go.Proofs.Tryd.prog := by
  refine Lp.ok_of (Con.orc_ok putC_ok) (drP_ok hmix _ (Con.orc_ok putC_ok)) (noLo_ok _) (by decide) 40 (fun i hi => ?_)
  rw [← Option.some.inj (numsL_c_e i)]
  have h1 : i.out.length + 10 * i.l.length ≤ 1000000000 + 10 * i.k := hi.1
  have h2 : i.k ≤ i.l.length := hi.2.1
  have h3 : i.l.length ≤ 1000000000 := hi.2.2
  unfold numsL_c_V
  by_cases hk : i.k < i.l.length
  · have hx0 : 0 + (i.k : Int).toNat + 0 = i.k := by simp
    rw [hx0]
    have e : i.l.drop i.k = i.l.getD i.k 0 :: i.l.drop (i.k + 1) := by
      rw [List.drop_eq_getElem_cons hk]
      simp [List.getD_eq_getElem?_getD, hk]
    generalize i.l.getD i.k 0 = n at e
    have hp := putN_w n
    generalize hq : putN (IntKind.wrap .u64 n) = q at hp
    have hw : IntKind.wrap .i64 ((i.k : Int) + 1) = (i.k : Int) + 1 := IntWalk.i64_in _ (by omega)
    have hki : (i.k : Int) < (i.l.length : Int) := by omega
    have b1 : q.length ≤ 900 := by omega
    have b2 : i.out.length + q.length ≤ 140737488355328 := by omega
    have b3 : i.out.length + q.length ≤ 9223372036854775807 := by omega
    simp only [sp, hki, hk, b1, b2, b3, decide_true, Bool.and_true, Bool.true_and, Nat.beq_refl, beq_self_eq_true, Nat.zero_add, Nat.mul_one, Nat.le_refl, Bool.or_true, true_and, and_true, List.nil_append, List.append_nil]
    refine ⟨b1, fun _ _ => ⟨⟨i.out ++ q, false, i.l, i.k + 1⟩, ⟨?_, ?_, h3⟩, ?_, ?_, ?_⟩⟩
    · simp; omega
    · show i.k + 1 ≤ i.l.length; omega
    · show i.l.length - (i.k + 1) < i.l.length - i.k; omega
    · have hd : ¬ i.l.length ≤ i.k := by omega
      simp [e, encs, hq, hd]
    · simp [hw]
  · have hk2 : i.k = i.l.length := by omega
    have hki : ¬ (i.k : Int) < (i.l.length : Int) := by omega
    simp [sp, hki, hk2, encs]
def numsC_c_V (x : WX) : Prop :=
  same (loopOf Proofs.Tryd.prog F_file_writer_numbers 0) (loopOf Proofs.Tryd.prog F_file_writer_numbers 0) ∧ (x.out.length + 10 * x.l.length ≤ 1000000000 ∧ 0 ≤ x.l.length ∧ x.l.length ≤ 1000000000) ∧ ((AV.ptr 0 0 0 = AV.ptr 0 0 0 ∧ AV.sl 1 0 0 x.l.length x.l.length true = AV.sl 1 0 0 x.l.length x.l.length true ∧ nI (↑x.l.length : Int) = nI (↑x.l.length : Int) ∧ nI 0 = nI 0 ∧ True) ∧ bC [AV.sl 2 0 0 x.out.length x.out.length x.ex] = bC [AV.sl 2 0 0 x.out.length x.out.length x.ex] ∧ ABlk.mk true 1 (AC.ints IntKind.u32 x.l) = ABlk.mk true 1 (AC.ints IntKind.u32 x.l) ∧ bW x.out = bW x.out ∧ True) ∧ ∃ (y : List Int), y = x.out ++ encs x.l ∧ [AV.tup []] = [AV.tup []] ∧ bC [AV.sl 3 0 0 (x.out ++ encs (List.drop 0 x.l)).length (x.out ++ encs (List.drop 0 x.l)).length (x.ex && decide (x.l.length ≤ 0))] = bC [AV.sl 3 0 0 y.length y.length (x.ex && decide (x.l.length ≤ 0))] ∧ bW ((x.out ++ encs
  (List.drop 0 x.l))) = bW y ∧ True
theorem numsC_c_e (x : WX) : some (numsC_c_V x) = ((intsC F_file_writer_numbers .u32).cond sp Go.Proofs.Tryd.prog (drP sp Go.Proofs.Tryd.prog) (forF F_file_writer_numbers ((intsLp Go.Proofs.Tryd.prog F_file_writer_numbers .u32).lo sp Go.Proofs.Tryd.prog (isLoop 1) (loopOf Go.Proofs.Tryd.prog F_file_writer_numbers 0)) noLoops) (putC.orc sp) 40 2 x) := by kernel_rfl
theorem numsC_ok : (intsC F_file_writer_numbers .u32).OK Go.Proofs.Tryd.prog := by
  refine Con.by hmix (forF_ok (Lp.lo_ok numsL_ok rfl) (noLoops_ok _)) (Con.orc_ok putC_ok) numsC_c_V numsC_c_e (fun x hx => ?_)
  have h1 : x.out.length + 10 * x.l.length ≤ 1000000000 := hx
  have h2 : x.l.length ≤ 1000000000 := by omega
  simp [numsC_c_V, same, h1, h2]
def rowC_c_V (x : WR) : Prop :=
  sp (x.r.bs.length.beq x.r.bs.length && x.r.c.beq x.r.c) (sp (x.out.length.beq x.out.length && x.out.length.beq x.out.length && x.ex == x.ex) ((x.r.bs.length ≤ 100000000 ∧ (putN (↑x.r.bs.length : Int)).length ≤ 900) ∧ [] ++ [AV.nils, AV.msl 1 0 0 x.r.bs.length x.r.c] ++ [] = [AV.nils, AV.msl 1 0 0 x.r.bs.length x.r.c] ∧ (some (bR x.r.bs) = some (bR x.r.bs) ∧ True) ∧ (∀ (y : Unit), True → sp (x.out.length.beq x.out.length && x.out.length.beq x.out.length && x.ex == x.ex) (sp (decide (0 + (rowB x.r.bs).length ≤ (rowB x.r.bs).length) && (decide (0 + x.out.length ≤ x.out.length) && true && true && true && (!x.ex || decide (x.out.length = x.out.length) || decide (0 + x.out.length ≤ x.out.length)) && decide ((x.out.length + (rowB x.r.bs).length) * 1 ≤ 140737488355328) && decide (x.out.length + (rowB x.r.bs).length ≤ 9223372036854775807))) (∃ (y : List Int), y = x.out ++ rowB x.r.bs ∧ [AV.tup []]
  = [AV.tup []] ∧ bC (([AV.sl 2 0 0 x.out.length x.out.length x.ex].set 0 (AV.sl 4 0 0 (x.out.length + (rowB x.r.bs).length) (x.out.length + (rowB x.r.bs).length) false))) = bC [AV.sl 4 0 0 y.length y.length false] ∧ bR x.r.bs = bR x.r.bs ∧ bW ((List.take x.out.length (List.drop 0 x.out) ++ List.take (rowB x.r.bs).length (List.drop 0 (rowB x.r.bs)))) = bW y ∧ True) False) False) ∧ True) False) False
theorem rowC_c_e (x : WR) : some (rowC_c_V x) = (rowC.cond sp Go.Proofs.Tryd.prog (drP sp Go.Proofs.Tryd.prog) noLoops (putBytesC.orc sp) 40 2 x) := by kernel_rfl
theorem rowC_ok : rowC.OK Go.Proofs.Tryd.prog := by
  refine Con.by hmix (noLoops_ok _) (Con.orc_ok putBytesC_ok) rowC_c_V rowC_c_e (fun x hx => ?_)
  have h1 : x.out.length ≤ 1000000000 := hx.1
  have h2 : x.r.bs.length ≤ 100000000 := hx.2
  have h3 : (putN (x.r.bs.length : Int)).length ≤ 900 := by have := putN_len 9 (x.r.bs.length : Int) (by omega); omega
  have h4 : (rowB x.r.bs).length ≤ 100000900 := by simp [rowB]; omega
  have b2 : x.out.length + (rowB x.r.bs).length ≤ 140737488355328 := by omega
  have b3 : x.out.length + (rowB x.r.bs).length ≤ 9223372036854775807 := by omega
  simp [rowC_c_V, sp, h2, h3, b2, b3]
end Go.Proofs.YtmbcpmbpkdeioaaDoor.W
/- A guest's state laid: what is asked. No condition. -/
namespace Go.Proofs.YtmbcpmbpkdeioaaDoor.W
open Go Go.RowKit Go.Eng
set_option maxRecDepth 100000
set_option linter.unusedVariables false
set_option linter.unusedSimpArgs false
/-- Eight numbers that lie in a record of cells. -/
def nums8C : Con W8 (List Int) where
  f := F_file_writer_numbers
  fit vs H := match vs with
    | [.ptr b0 _ _, .sl b1 _ j _ _ _] => match H.get b0, H.get b1 with
      | some k0, some k1 => match k0.c, k1.c with
        | .cells [.sl b _ _ _ _ ex], .cells [.int _ r0, .int _ r1, .int _ r2, .int _ r3, .int _ r4, .int _ r5, .int _ r6, .int _ r7, .int _ pc, .int _ ps, .int _ c0, .int _ c1, .int _ c2, .int _ c3, .int _ c4, .int _ c5, .int _ c6, .int _ c7, .bool h] => match H.get b with
          | some q => match q.c with
            | .ints _ out => some ([b0, b1, b], ⟨out, ex, !Nat.beq j 0, ⟨r0, r1, r2, r3, r4, r5, r6, r7, pc, ps, c0, c1, c2, c3, c4, c5, c6, c7, h⟩⟩)
            | _ => none
          | none => none
        | _, _ => none
      | _, _ => none
    | _ => none
  n0 := 3
  pre x := x.out.length ≤ 900000000
  args x := [.ptr 0 0 0, .sl 1 0 (bif x.j then 10 else 0) 8 8 true]
  L0 x := [(0, ⟨true, 1, .cells [.sl 2 0 0 x.out.length x.out.length x.ex]⟩), (1, ⟨true, 19, .cells x.s.av⟩), (2, ⟨true, 1, .ints .u8 x.out⟩)]
  outs x := [(fun y => y = x.out ++ encs x.l, fun y => (.ret (.tup []), 4, [(0, ⟨true, 1, .cells [.sl 3 0 0 y.length y.length false]⟩), (1, ⟨true, 19, .cells x.s.av⟩), (3, ⟨true, 1, .ints .u8 y⟩)]))]
def fitJ (j0 : Nat) (vs : List AV) (H : AH) : Option (List Nat × W8) := match vs with
  | [_, .sl _ _ j _ _ _] => bif Nat.beq j j0 then nums8C.fit vs H else none
  | _ => none
def nums8f : Con W8 (List Int) := { nums8C with fit := fitJ 0, args := fun x => [.ptr 0 0 0, .sl 1 0 0 8 8 true], outs := fun x => [(fun y => y = x.out ++ encs [x.s.r0, x.s.r1, x.s.r2, x.s.r3, x.s.r4, x.s.r5, x.s.r6, x.s.r7], fun y => (.ret (.tup []), 4, [(0, ⟨true, 1, .cells [.sl 3 0 0 y.length y.length false]⟩), (1, ⟨true, 19, .cells x.s.av⟩), (3, ⟨true, 1, .ints .u8 y⟩)]))] }
def nums8t : Con W8 (List Int) := { nums8C with fit := fitJ 10, args := fun x => [.ptr 0 0 0, .sl 1 0 10 8 8 true], outs := fun x => [(fun y => y = x.out ++ encs [x.s.c0, x.s.c1, x.s.c2, x.s.c3, x.s.c4, x.s.c5, x.s.c6, x.s.c7], fun y => (.ret (.tup []), 4, [(0, ⟨true, 1, .cells [.sl 3 0 0 y.length y.length false]⟩), (1, ⟨true, 19, .cells x.s.av⟩), (3, ⟨true, 1, .ints .u8 y⟩)]))] }
structure W8I where
  out : List Int
  ex : Bool
  k : Nat
  s : St
def St.rl (s : St) : List Int := [s.r0, s.r1, s.r2, s.r3, s.r4, s.r5, s.r6, s.r7]
def St.cl (s : St) : List Int := [s.c0, s.c1, s.c2, s.c3, s.c4, s.c5, s.c6, s.c7]
def nums8L (P : Program) (j : Nat) (l : St → List Int) : Lp W8I where
  B := 3
  n := ntmpsOf P F_file_writer_numbers
  code := loopOf P F_file_writer_numbers 0
  fit s H := match s.get 0, s.get 6, s.get 8 with
    | .ptr b0 _ _, .sl b1 _ j' _ _ _, .int _ k => bif Nat.beq j' j then match H.get b0, H.get b1 with
      | some k0, some k1 => match k0.c, k1.c with
        | .cells [.sl b _ _ _ _ ex], .cells [.int _ r0, .int _ r1, .int _ r2, .int _ r3, .int _ r4, .int _ r5, .int _ r6, .int _ r7, .int _ pc, .int _ ps, .int _ c0, .int _ c1, .int _ c2, .int _ c3, .int _ c4, .int _ c5, .int _ c6, .int _ c7, .bool h] => match H.get b with
          | some q => match q.c with
            | .ints _ out => some ⟨out, ex, k.toNat, ⟨r0, r1, r2, r3, r4, r5, r6, r7, pc, ps, c0, c1, c2, c3, c4, c5, c6, c7, h⟩⟩
            | _ => none
          | none => none
        | _, _ => none
      | _, _ => none else none
    | _, _, _ => none
  pre i := i.out.length ≤ 900000000 + 10 * i.k ∧ i.k ≤ 8
  slots i := [(0, .ptr 0 0 0), (6, .sl 1 0 j 8 8 true), (7, .int .i64 8), (8, .int .i64 i.k)]
  nx i := 4
  L i := [(0, ⟨true, 1, .cells [.sl 3 0 0 i.out.length i.out.length i.ex]⟩), (1, ⟨true, 19, .cells i.s.av⟩), (3, ⟨true, 1, .ints .u8 i.out⟩)]
  m i := 8 - i.k
  outs i := [(true, ⟨.exit 0, [], 4, [(0, ⟨true, 1, .cells [.sl 3 0 0 (i.out ++ encs ((l i.s).drop i.k)).length (i.out ++ encs ((l i.s).drop i.k)).length (i.ex && decide (8 ≤ i.k))]⟩), (1, ⟨true, 19, .cells i.s.av⟩), (3, ⟨true, 1, .ints .u8 (i.out ++ encs ((l i.s).drop i.k))⟩)]⟩)]
def stOf : List AV → Option St
  | [.int _ r0, .int _ r1, .int _ r2, .int _ r3, .int _ r4, .int _ r5, .int _ r6, .int _ r7, .int _ pc, .int _ ps, .int _ c0, .int _ c1, .int _ c2, .int _ c3, .int _ c4, .int _ c5, .int _ c6, .int _ c7, .bool h] => some ⟨r0, r1, r2, r3, r4, r5, r6, r7, pc, ps, c0, c1, c2, c3, c4, c5, c6, c7, h⟩
  | _ => none
def stateC : Con WS (List Int) where
  f := F_file_writer_state
  fit vs H := match vs with
    | [.ptr b0 _ _, .agg cs] => match H.get b0, stOf cs with
      | some k0, some s => match k0.c with
        | .cells [.sl b _ _ _ _ ex] => match H.get b with
          | some q => match q.c with
            | .ints _ out => some ([b0, b], ⟨out, ex, s⟩)
            | _ => none
          | none => none
        | _ => none
      | _, _ => none
    | _ => none
  n0 := 2
  pre x := x.out.length ≤ 800000000
  args x := [.ptr 0 0 0, .agg x.s.av]
  L0 x := [(0, ⟨true, 1, .cells [.sl 1 0 0 x.out.length x.out.length x.ex]⟩), (1, ⟨true, 1, .ints .u8 x.out⟩)]
  outs x := [(fun y => y = x.out ++ encs x.s.nums, fun y => (.ret (.tup []), 3, [(0, ⟨true, 1, .cells [.sl 2 0 0 y.length y.length false]⟩), (2, ⟨true, 1, .ints .u8 y⟩)]))]
end Go.Proofs.YtmbcpmbpkdeioaaDoor.W
