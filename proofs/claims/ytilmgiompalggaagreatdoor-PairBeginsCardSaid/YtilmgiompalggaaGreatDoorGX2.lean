/- Several tables in one host: rows that are asked. What is reckoned. No condition. -/
import Derived.Test.YtilmgiompalggaaGreatDoorGX1
import Derived.Test.YtilmgiompalggaaGreatDoorFX
import Derived.Test.YtilmgiompalggaaGreatDoorEn35
import Derived.KernelRfl
namespace Go.Proofs.YtilmgiompalggaaGreatDoor.W
open Go Go.RowKit Go.Eng
set_option maxRecDepth 100000
set_option linter.unusedVariables false
set_option linter.unusedSimpArgs false
/-! ### the greatest of a row -/
structure MxI where
  l : List Int
  k : Nat
  v : Int
def mxL (P : Program) : LpE MxI (List Int) Int where
  B := 1
  n := ntmpsOf P F_slices_Max_int_int
  code := loopOf P F_slices_Max_int_int 0
  fit s H := match s.get 0, s.get 3 with
    | .sl b _ _ _ _ _, .int _ v => match H.get b with
      | some k => match k.c with
        | .ints _ l => some ⟨l, 1, v⟩
        | _ => none
      | none => none
    | _, _ => none
  pre i := 1 ≤ i.l.length ∧ i.l.length ≤ 64 ∧ i.k ≤ i.l.length
  slots i := [(0, .sl 0 0 0 i.l.length i.l.length false), (3, .int .i64 i.v), (4, .int .i64 i.k)]
  nx _ := 1
  L i := [(0, rowB i.l)]
  m i := i.l.length - i.k
  par i := i.l
  post _ _ := True
  out x y := ⟨.exit 0, [(3, .int .i64 y)], 1, [(0, rowB x)]⟩
def mxC : Con (List Int) Int where
  f := F_slices_Max_int_int
  fit vs H := match vs with
    | [.sl b _ _ _ _ _] => match H.get b with
      | some k => match k.c with
        | .ints _ l => some ([b], l)
        | _ => none
      | none => none
    | _ => none
  n0 := 1
  pre l := 1 ≤ l.length ∧ l.length ≤ 64
  args l := [.sl 0 0 0 l.length l.length false]
  L0 l := [(0, rowB l)]
  outs l := [(fun _ => True, fun y => (.ret (.int .i64 y), 1, [(0, rowB l)]))]
/-! ### apart -/
structure ApI where
  l : List Int
  ys : List Int
  k : Nat
def apL (P : Program) : LpM ApI (List Int) Unit where
  B := 1
  n := ntmpsOf P F_spaces_apart
  code := loopOf P F_spaces_apart 0
  fit s H := match s.get 3 with
    | .sl b _ _ _ _ _ => match H.get b, H.get 0 with
      | some k, some k0 => match k.c, k0.c with
        | .ints _ l, .ints _ l0 => some ⟨l0, l, 1⟩
        | _, _ => none
      | _, _ => none
    | _ => none
  pre i := 1 ≤ i.ys.length ∧ i.ys.length ≤ 64 ∧ i.k ≤ i.ys.length ∧ 1 ≤ i.k
  slots i := [(3, .sl 1 0 0 i.ys.length i.ys.length false), (4, .int .i64 i.k)]
  nx _ := 2
  L i := [(0, rowB i.l), (1, rowB i.ys)]
  m i := i.ys.length - i.k
  par i := i.l
  outs x := [(fun _ => True, fun _ => ⟨.exit 0, [], 2, [(0, rowB x)]⟩), (fun _ => True, fun _ => ⟨.ret, [(2, .bool false)], 2, [(0, rowB x)]⟩)]
def apC : Con (List Int) Bool where
  f := F_spaces_apart
  fit vs H := match vs with
    | [.sl b _ _ _ _ _] => match H.get b with
      | some k => match k.c with
        | .ints _ l => some ([b], l)
        | _ => none
      | none => none
    | _ => none
  n0 := 1
  pre l := 1 ≤ l.length ∧ l.length ≤ 64
  args l := [.sl 0 0 0 l.length l.length false]
  L0 l := [(0, rowB l)]
  outs l := [(fun _ => True, fun y => (.ret (.bool y), 1, [(0, rowB l)]))]
/-! ### a row of words once more -/
def clC : Con (List Int) Unit where
  f := F_slices_Clone_uint32_uint32
  fit vs H := match vs with
    | [.sl b _ _ _ _ _] => match H.get b with
      | some k => match k.c with
        | .ints _ l => some ([b], l)
        | _ => none
      | none => none
    | _ => none
  n0 := 1
  pre l := 1 ≤ l.length ∧ l.length ≤ 64
  args l := [.sl 0 0 0 l.length l.length false]
  L0 l := [(0, wordB l)]
  outs l := [(fun _ => True, fun _ => (.ret (.sl 1 0 0 l.length l.length false), 2, [(0, wordB l), (1, wordB l)]))]
end Go.Proofs.YtilmgiompalggaaGreatDoor.W
/- Several tables in one host: rows that are asked. The walks. No condition. -/
namespace Go.Proofs.YtilmgiompalggaaGreatDoor.W
open Go Go.RowKit Go.Eng
set_option maxRecDepth 100000
set_option linter.unusedVariables false
set_option linter.unusedSimpArgs false
def mxA_c_V (i : MxI) : Prop :=
  sp (decide ((↑i.k : Int) < (↑i.l.length : Int))) (sp (decide ((↑i.k : Int) < (↑i.l.length : Int)) && true) (sp (decide (0 + (↑i.k : Int).toNat + 0 < i.l.length)) (∃ (j : MxI), (1 ≤ j.l.length ∧ j.l.length ≤ 64 ∧ j.k ≤ j.l.length) ∧ j.l.length - j.k < i.l.length - i.k ∧ j.l = i.l ∧ (AV.sl 0 0 0 i.l.length i.l.length false = AV.sl 0 0 0 j.l.length j.l.length false ∧ nI (if i.l.getD (0 + (↑i.k : Int).toNat + 0) 0 > i.v then i.l.getD (0 + (↑i.k : Int).toNat + 0) 0 else i.v) = nI j.v ∧ nI (IntKind.i64.wrap ((↑i.k : Int) + 1)) = nI (↑j.k : Int) ∧ True) ∧ ABlk.mk true 1 (AC.ints IntKind.i64 i.l) = ABlk.mk true 1 (AC.ints IntKind.i64 j.l) ∧ True) False) False) (∃ (y : Int), True ∧ (nI i.v = nI y ∧ True) ∧ ABlk.mk true 1 (AC.ints IntKind.i64 i.l) = ABlk.mk true 1 (AC.ints IntKind.i64 i.l) ∧ True)
theorem mxA_c_e (i : MxI) : some (mxA_c_V i) = (some ((mxL Go.Proofs.Tryz.prog).body sp Go.Proofs.Tryz.prog noBaseK (drPL sp Go.Proofs.Tryz.prog noBaseK) noLo 40 i)) := by kernel_rfl
set_option maxRecDepth 100000 in
theorem mxA_ok (i : MxI) (hi : (mxL Go.Proofs.Tryz.prog).pre i) : mxA_c_V i := by
  obtain ⟨l, k, v⟩ := i
  obtain ⟨h1, h2, h3⟩ := hi
  have h1 : 1 ≤ l.length := h1
  have h2 : l.length ≤ 64 := h2
  have h3 : k ≤ l.length := h3
  unfold mxA_c_V
  by_cases hk : k < l.length
  · have d1 : decide ((k : Int) < (l.length : Int)) = true := decide_eq_true (by omega)
    have e2 : 0 + (k : Int).toNat = k := by omega
    have d2 : decide (k < l.length) = true := decide_eq_true hk
    have e1 : IntKind.wrap .i64 ((k : Int) + 1) = ((k + 1 : Nat) : Int) := by rw [IntWalk.i64_in _ (by omega)]; omega
    simp only [d1, d2, e1, e2, Nat.add_zero, sp, Bool.and_self]
    refine ⟨⟨l, k + 1, if l.getD k 0 > v then l.getD k 0 else v⟩, ⟨h1, h2, hk⟩, (by show l.length - (k + 1) < l.length - k; omega), ?_⟩
    repeat' (first | trivial | exact rfl | exact fun _ _ => trivial | exact fun _ _ => rfl | apply And.intro)
  · obtain rfl : k = l.length := by omega
    have d1 : decide ((l.length : Int) < (l.length : Int)) = false := decide_eq_false (by omega)
    simp only [d1, sp]
    refine ⟨v, trivial, ?_⟩
    repeat' (first | trivial | exact rfl | exact fun _ _ => trivial | exact fun _ _ => rfl | apply And.intro)
theorem mxL_ok : (mxL Go.Proofs.Tryz.prog).OK Go.Proofs.Tryz.prog := by
  refine LpE.ok_of (noBaseK_ok _) (drPL_ok hmix _ (noBaseK_ok _)) (noLo_ok _) (by decide) 40 (fun i hi => ?_)
  rw [← Option.some.inj (mxA_c_e i)]
  exact mxA_ok i hi
def mxC_c_V (l : List Int) : Prop :=
  sp (decide ((↑l.length : Int) < 1)) (∃ (y : Int), True ∧ False) (sp (decide (0 < (↑l.length : Int)) && true) (sp (decide (0 < l.length)) (same (loopOf Proofs.Tryz.prog F_slices_Max_int_int 0) (loopOf Proofs.Tryz.prog F_slices_Max_int_int 0) ∧ (1 ≤ l.length ∧ l.length ≤ 64 ∧ 1 ≤ l.length) ∧ ((AV.sl 0 0 0 l.length l.length false = AV.sl 0 0 0 l.length l.length false ∧ nI (l.getD 0 0) = nI (l.getD 0 0) ∧ nI 1 = nI 1 ∧ True) ∧ ABlk.mk true 1 (AC.ints IntKind.i64 l) = ABlk.mk true 1 (AC.ints IntKind.i64 l) ∧ True) ∧ ∀ (y : Int), True → ∃ (y_1 : Int), True ∧ [nI y] = [nI y_1] ∧ ABlk.mk true 1 (AC.ints IntKind.i64 l) = ABlk.mk true 1 (AC.ints IntKind.i64 l) ∧ True) False) False)
theorem mxC_c_e (l : List Int) : some (mxC_c_V l) = (mxC.cond sp Go.Proofs.Tryz.prog (drPL sp Go.Proofs.Tryz.prog) (forF F_slices_Max_int_int ((mxL Go.Proofs.Tryz.prog).lo sp Go.Proofs.Tryz.prog (isLoop 5) (loopOf Go.Proofs.Tryz.prog F_slices_Max_int_int 0)) noLoops) noBaseK 40 2 l) := by kernel_rfl
set_option maxRecDepth 100000 in
theorem mxC_ok : mxC.OK Go.Proofs.Tryz.prog := by
  refine Con.byL' hmix (forF_ok (LpE.lo_ok mxL_ok rfl) (noLoops_ok _)) (noBaseK_ok _) mxC_c_V mxC_c_e (fun l hx => ?_)
  obtain ⟨h1, h2⟩ := hx
  unfold mxC_c_V
  have d1 : decide ((l.length : Int) < 1) = false := decide_eq_false (by omega)
  have d2 : decide (0 < (l.length : Int)) = true := decide_eq_true (by omega)
  have d3 : decide (0 < l.length) = true := decide_eq_true (by omega)
  simp only [d1, d2, d3, sp, Bool.and_self]
  refine ⟨rfl, ⟨h1, h2, h1⟩, ?_, fun y _ => ⟨y, trivial, ?_⟩⟩
  all_goals repeat' (first | trivial | exact rfl | exact fun _ _ => trivial | exact fun _ _ => rfl | apply And.intro)
def apA_c_V (i : ApI) : Prop :=
  sp (decide ((↑i.k : Int) < (↑i.ys.length : Int))) (sp (decide (i.ys.getD (0 + (↑i.k : Int).toNat + 0) 0 < IntKind.i64.wrap (2 + i.ys.getD (0 + (IntKind.i64.wrap ((↑i.k : Int) - 1)).toNat + 0) 0))) (sp ((bif true then decide (i.ys.getD (0 + (IntKind.i64.wrap ((↑i.k : Int) - 1)).toNat + 0) 0 ≤ i.ys.getD (0 + (↑i.k : Int).toNat + 0) 0) else false) == bif true then decide (i.ys.getD (0 + (IntKind.i64.wrap ((↑i.k : Int) - 1)).toNat + 0) 0 ≤ i.ys.getD (0 + (↑i.k : Int).toNat + 0) 0) else false) (sp (decide (i.ys.getD (0 + (IntKind.i64.wrap ((↑i.k : Int) - 1)).toNat + 0) 0 ≤ i.ys.getD (0 + (↑i.k : Int).toNat + 0) 0) == decide (i.ys.getD (0 + (IntKind.i64.wrap ((↑i.k : Int) - 1)).toNat + 0) 0 ≤ i.ys.getD (0 + (↑i.k : Int).toNat + 0) 0)) (sp (decide (0 + (↑i.k : Int).toNat + 0 < i.ys.length) && decide (i.ys.getD (0 + (↑i.k : Int).toNat + 0) 0 = i.ys.getD (0 + (↑i.k : Int).toNat + 0) 0)) (sp
  (decide ((↑i.k : Int) < (↑i.ys.length : Int)) && true && ((0 + (↑i.k : Int).toNat).beq (0 + (↑i.k : Int).toNat) && true)) (sp (decide ((↑i.k : Int) = (↑i.k : Int))) (sp (i.ys.length.beq i.ys.length && i.ys.length.beq i.ys.length && true) (sp (decide (0 + (IntKind.i64.wrap ((↑i.k : Int) - 1)).toNat + 0 < i.ys.length) && decide (i.ys.getD (0 + (IntKind.i64.wrap ((↑i.k : Int) - 1)).toNat + 0) 0 = i.ys.getD (0 + (IntKind.i64.wrap ((↑i.k : Int) - 1)).toNat + 0) 0)) (sp (decide (0 ≤ IntKind.i64.wrap ((↑i.k : Int) - 1)) && decide (IntKind.i64.wrap ((↑i.k : Int) - 1) < (↑i.ys.length : Int)) && true && ((0 + (IntKind.i64.wrap ((↑i.k : Int) - 1)).toNat).beq (0 + (IntKind.i64.wrap ((↑i.k : Int) - 1)).toNat) && true)) (sp (decide (IntKind.i64.wrap ((↑i.k : Int) - 1) = IntKind.i64.wrap ((↑i.k : Int) - 1))) (sp (decide ((↑i.k : Int) = (↑i.k : Int))) (sp (i.ys.length.beq i.ys.length && i.ys.length.beq
  i.ys.length && true) (sp (decide (i.ys.getD (0 + (↑i.k : Int).toNat + 0) 0 < IntKind.i64.wrap (2 + i.ys.getD (0 + (IntKind.i64.wrap ((↑i.k : Int) - 1)).toNat + 0) 0)) == true) (sp (decide (i.ys.getD (0 + (↑i.k : Int).toNat + 0) 0 < IntKind.i64.wrap (2 + i.ys.getD (0 + (IntKind.i64.wrap ((↑i.k : Int) - 1)).toNat + 0) 0)) == decide (i.ys.getD (0 + (↑i.k : Int).toNat + 0) 0 < IntKind.i64.wrap (2 + i.ys.getD (0 + (IntKind.i64.wrap ((↑i.k : Int) - 1)).toNat + 0) 0))) (sp (decide (IntKind.i64.wrap (2 + i.ys.getD (0 + (IntKind.i64.wrap ((↑i.k : Int) - 1)).toNat + 0) 0) = IntKind.i64.wrap (2 + i.ys.getD (0 + (IntKind.i64.wrap ((↑i.k : Int) - 1)).toNat + 0) 0))) (sp (decide (0 + (IntKind.i64.wrap ((↑i.k : Int) - 1)).toNat + 0 < i.ys.length) && decide (i.ys.getD (0 + (IntKind.i64.wrap ((↑i.k : Int) - 1)).toNat + 0) 0 = i.ys.getD (0 + (IntKind.i64.wrap ((↑i.k : Int) - 1)).toNat + 0) 0)) (sp (decide
  (0 ≤ IntKind.i64.wrap ((↑i.k : Int) - 1)) && decide (IntKind.i64.wrap ((↑i.k : Int) - 1) < (↑i.ys.length : Int)) && true && ((0 + (IntKind.i64.wrap ((↑i.k : Int) - 1)).toNat).beq (0 + (IntKind.i64.wrap ((↑i.k : Int) - 1)).toNat) && true)) (sp (decide (IntKind.i64.wrap ((↑i.k : Int) - 1) = IntKind.i64.wrap ((↑i.k : Int) - 1))) (sp (decide ((↑i.k : Int) = (↑i.k : Int))) (sp (i.ys.length.beq i.ys.length && i.ys.length.beq i.ys.length && true) (sp (decide (0 + (↑i.k : Int).toNat + 0 < i.ys.length) && decide (i.ys.getD (0 + (↑i.k : Int).toNat + 0) 0 = i.ys.getD (0 + (↑i.k : Int).toNat + 0) 0)) (sp (decide ((↑i.k : Int) < (↑i.ys.length : Int)) && true && ((0 + (↑i.k : Int).toNat).beq (0 + (↑i.k : Int).toNat) && true)) (sp (decide ((↑i.k : Int) = (↑i.k : Int))) (sp (i.ys.length.beq i.ys.length && i.ys.length.beq i.ys.length && true) (sp (bif true then decide (i.ys.getD (0 + (IntKind.i64.wrap
  ((↑i.k : Int) - 1)).toNat + 0) 0 ≤ i.ys.getD (0 + (↑i.k : Int).toNat + 0) 0) else false) ((∃ (y : Unit), True ∧ False) ∨ ∃ (y : Unit), True ∧ (AV.bool false = AV.bool false ∧ True) ∧ ABlk.mk true 1 (AC.ints IntKind.i64 i.l) = ABlk.mk true 1 (AC.ints IntKind.i64 i.l) ∧ True) (∃ (j : ApI), (1 ≤ j.ys.length ∧ j.ys.length ≤ 64 ∧ j.k ≤ j.ys.length ∧ 1 ≤ j.k) ∧ j.ys.length - j.k < i.ys.length - i.k ∧ j.l = i.l ∧ (AV.sl 1 0 0 i.ys.length i.ys.length false = AV.sl 1 0 0 j.ys.length j.ys.length false ∧ nI (IntKind.i64.wrap ((↑i.k : Int) + 1)) = nI (↑j.k : Int) ∧ True) ∧ ABlk.mk true 1 (AC.ints IntKind.i64 i.l) = ABlk.mk true 1 (AC.ints IntKind.i64 j.l) ∧ ABlk.mk true 1 (AC.ints IntKind.i64 i.ys) = ABlk.mk true 1 (AC.ints IntKind.i64 j.ys) ∧ True)) False) False) False) False) False) False) False) False) False) False) False) False) False) False) False) False) False) False) False) False) False)
  False) False) (sp (decide (i.ys.getD (0 + (↑i.k : Int).toNat + 0) 0 < IntKind.i64.wrap (2 + i.ys.getD (0 + (IntKind.i64.wrap ((↑i.k : Int) - 1)).toNat + 0) 0)) == false) (sp (decide (i.ys.getD (0 + (↑i.k : Int).toNat + 0) 0 < IntKind.i64.wrap (2 + i.ys.getD (0 + (IntKind.i64.wrap ((↑i.k : Int) - 1)).toNat + 0) 0)) == decide (i.ys.getD (0 + (↑i.k : Int).toNat + 0) 0 < IntKind.i64.wrap (2 + i.ys.getD (0 + (IntKind.i64.wrap ((↑i.k : Int) - 1)).toNat + 0) 0))) (sp (decide (IntKind.i64.wrap (2 + i.ys.getD (0 + (IntKind.i64.wrap ((↑i.k : Int) - 1)).toNat + 0) 0) = IntKind.i64.wrap (2 + i.ys.getD (0 + (IntKind.i64.wrap ((↑i.k : Int) - 1)).toNat + 0) 0))) (sp (decide (0 + (IntKind.i64.wrap ((↑i.k : Int) - 1)).toNat + 0 < i.ys.length) && decide (i.ys.getD (0 + (IntKind.i64.wrap ((↑i.k : Int) - 1)).toNat + 0) 0 = i.ys.getD (0 + (IntKind.i64.wrap ((↑i.k : Int) - 1)).toNat + 0) 0)) (sp (decide (0 ≤
  IntKind.i64.wrap ((↑i.k : Int) - 1)) && decide (IntKind.i64.wrap ((↑i.k : Int) - 1) < (↑i.ys.length : Int)) && true && ((0 + (IntKind.i64.wrap ((↑i.k : Int) - 1)).toNat).beq (0 + (IntKind.i64.wrap ((↑i.k : Int) - 1)).toNat) && true)) (sp (decide (IntKind.i64.wrap ((↑i.k : Int) - 1) = IntKind.i64.wrap ((↑i.k : Int) - 1))) (sp (decide ((↑i.k : Int) = (↑i.k : Int))) (sp (i.ys.length.beq i.ys.length && i.ys.length.beq i.ys.length && true) (sp (decide (0 + (↑i.k : Int).toNat + 0 < i.ys.length) && decide (i.ys.getD (0 + (↑i.k : Int).toNat + 0) 0 = i.ys.getD (0 + (↑i.k : Int).toNat + 0) 0)) (sp (decide ((↑i.k : Int) < (↑i.ys.length : Int)) && true && ((0 + (↑i.k : Int).toNat).beq (0 + (↑i.k : Int).toNat) && true)) (sp (decide ((↑i.k : Int) = (↑i.k : Int))) (sp (i.ys.length.beq i.ys.length && i.ys.length.beq i.ys.length && true) (∃ (j : ApI), (1 ≤ j.ys.length ∧ j.ys.length ≤ 64 ∧ j.k ≤
  j.ys.length ∧ 1 ≤ j.k) ∧ j.ys.length - j.k < i.ys.length - i.k ∧ j.l = i.l ∧ (AV.sl 1 0 0 i.ys.length i.ys.length false = AV.sl 1 0 0 j.ys.length j.ys.length false ∧ nI (IntKind.i64.wrap ((↑i.k : Int) + 1)) = nI (↑j.k : Int) ∧ True) ∧ ABlk.mk true 1 (AC.ints IntKind.i64 i.l) = ABlk.mk true 1 (AC.ints IntKind.i64 j.l) ∧ ABlk.mk true 1 (AC.ints IntKind.i64 i.ys) = ABlk.mk true 1 (AC.ints IntKind.i64 j.ys) ∧ True) False) False) False) False) False) False) False) False) False) False) False) False)) ((∃ (y : Unit), True ∧ True ∧ ABlk.mk true 1 (AC.ints IntKind.i64 i.l) = ABlk.mk true 1 (AC.ints IntKind.i64 i.l) ∧ True) ∨ ∃ (y : Unit), True ∧ False)
theorem apA_c_e (i : ApI) : some (apA_c_V i) = (some ((apL Go.Proofs.Tryz.prog).body sp Go.Proofs.Tryz.prog noBaseK (drPL sp Go.Proofs.Tryz.prog noBaseK) noLo 40 i)) := by kernel_rfl
set_option maxRecDepth 100000 in
theorem apA_ok (i : ApI) (hi : (apL Go.Proofs.Tryz.prog).pre i) : apA_c_V i := by
  obtain ⟨l, ys, k⟩ := i
  obtain ⟨h1, h2, h3, h4⟩ := hi
  have h1 : 1 ≤ ys.length := h1
  have h2 : ys.length ≤ 64 := h2
  have h3 : k ≤ ys.length := h3
  have h4 : 1 ≤ k := h4
  unfold apA_c_V
  by_cases hk : k < ys.length
  · have d1 : decide ((k : Int) < (ys.length : Int)) = true := decide_eq_true (by omega)
    have e2 : 0 + (k : Int).toNat = k := by omega
    have d2 : decide (k < ys.length) = true := decide_eq_true hk
    have e1 : IntKind.wrap .i64 ((k : Int) + 1) = ((k + 1 : Nat) : Int) := by rw [IntWalk.i64_in _ (by omega)]; omega
    have e3 : IntKind.wrap .i64 ((k : Int) - 1) = ((k - 1 : Nat) : Int) := by rw [IntWalk.i64_in _ (by omega)]; omega
    have e4 : 0 + ((k - 1 : Nat) : Int).toNat = k - 1 := by omega
    have d3 : decide (k - 1 < ys.length) = true := decide_eq_true (by omega)
    have d4 : decide (0 ≤ ((k - 1 : Nat) : Int)) = true := decide_eq_true (by omega)
    have d5 : decide (((k - 1 : Nat) : Int) < (ys.length : Int)) = true := decide_eq_true (by omega)
    have b0 : ∀ a : Nat, a.beq a = true := Nat.beq_refl
    simp only [d1, d2, d3, d4, d5, e1, e2, e3, e4, b0, Nat.add_zero, decide_true, Bool.and_self, Bool.and_true, Bool.true_and, beq_self_eq_true, cond_true, cond_false, sp]
    generalize decide (ys.getD k 0 < IntKind.i64.wrap (2 + ys.getD (k - 1) 0)) = p
    generalize decide (ys.getD (k - 1) 0 ≤ ys.getD k 0) = q
    cases p <;> cases q <;> first
      | exact .inr ⟨(), trivial, ⟨trivial, trivial⟩, trivial, trivial⟩
      | (refine ⟨⟨l, ys, k + 1⟩, ⟨h1, h2, hk, (by show 1 ≤ k + 1; omega)⟩, (by show ys.length - (k + 1) < ys.length - k; omega), ?_⟩
         repeat' (first | trivial | exact rfl | exact fun _ _ => trivial | exact fun _ _ => rfl | apply And.intro))
  · obtain rfl : k = ys.length := by omega
    have d1 : decide ((ys.length : Int) < (ys.length : Int)) = false := decide_eq_false (by omega)
    simp only [d1, sp]
    exact .inl ⟨(), trivial, trivial, trivial, trivial⟩
theorem apL_ok : (apL Go.Proofs.Tryz.prog).OK Go.Proofs.Tryz.prog := by
  refine LpM.ok_of (noBaseK_ok _) (drPL_ok hmix _ (noBaseK_ok _)) (noLo_ok _) (by decide) 40 (fun i hi => ?_)
  rw [← Option.some.inj (apA_c_e i)]
  exact apA_ok i hi
def apC_c_V (l : List Int) : Prop :=
  1 ≤ l.length ∧ l.length ≤ 1048576 ∧ 0 + l.length ≤ l.length ∧ ∀ (ys : List Int), ys.length = l.length → same (loopOf Proofs.Tryz.prog F_spaces_apart 0) (loopOf Proofs.Tryz.prog F_spaces_apart 0) ∧ (1 ≤ ys.length ∧ ys.length ≤ 64 ∧ 1 ≤ ys.length ∧ 1 ≤ 1) ∧ ((AV.sl 2 0 0 l.length l.length false = AV.sl 2 0 0 ys.length ys.length false ∧ nI 1 = nI 1 ∧ True) ∧ ABlk.mk true 1 (AC.ints IntKind.i64 l) = ABlk.mk true 1 (AC.ints IntKind.i64 l) ∧ ABlk.mk true 1 (AC.ints IntKind.i64 ys) = ABlk.mk true 1 (AC.ints IntKind.i64 ys) ∧ True) ∧ (∀ (y : Unit), True → ∃ (y : Bool), True ∧ [AV.bool true] = [AV.bool y] ∧ ABlk.mk true 1 (AC.ints IntKind.i64 l) = ABlk.mk true 1 (AC.ints IntKind.i64 l) ∧ True) ∧ ∀ (y : Unit), True → ∃ (y : Bool), True ∧ [AV.bool false] = [AV.bool y] ∧ ABlk.mk true 1 (AC.ints IntKind.i64 l) = ABlk.mk true 1 (AC.ints IntKind.i64 l) ∧ True
theorem apC_c_e (l : List Int) : some (apC_c_V l) = (apC.cond sp Go.Proofs.Tryz.prog (drPL sp Go.Proofs.Tryz.prog) (forF F_spaces_apart ((apL Go.Proofs.Tryz.prog).lo sp Go.Proofs.Tryz.prog (isLoop 3) (loopOf Go.Proofs.Tryz.prog F_spaces_apart 0)) noLoops) (srtK F_slices_Sorted_int F_slices_Values_int_int_1) 40 2 l) := by kernel_rfl
set_option maxRecDepth 100000 in
theorem apC_ok : apC.OK Go.Proofs.Tryz.prog := by
  refine Con.byL' hmix (forF_ok (LpM.lo_ok apL_ok rfl) (noLoops_ok _)) srtK_ok apC_c_V apC_c_e (fun l hx => ?_)
  obtain ⟨h1, h2⟩ := hx
  unfold apC_c_V
  refine ⟨h1, by omega, by omega, fun ys hy => ⟨rfl, ⟨by omega, by omega, by omega, Nat.le_refl _⟩, ?_, fun _ _ => ⟨true, trivial, ?_⟩, fun _ _ => ⟨false, trivial, ?_⟩⟩⟩
  · rw [hy]
    repeat' (first | trivial | exact rfl | exact fun _ _ => trivial | exact fun _ _ => rfl | apply And.intro)
  all_goals repeat' (first | trivial | exact rfl | exact fun _ _ => trivial | exact fun _ _ => rfl | apply And.intro)
def clC_c_V (l : List Int) : Prop :=
  sp (decide (0 + l.length ≤ l.length) && (decide ((0 + l.length) * 4 ≤ 140737488355328) && decide (0 + l.length ≤ 9223372036854775807))) (∃ (y : Unit), True ∧ [AV.sl 2 0 0 (0 + l.length) (0 + l.length) false] = [AV.sl 2 0 0 l.length l.length false] ∧ ABlk.mk true 1 (AC.ints IntKind.u32 l) = ABlk.mk true 1 (AC.ints IntKind.u32 l) ∧ ABlk.mk true 1 (AC.ints IntKind.u32 ([] ++ List.take l.length (List.drop 0 l))) = ABlk.mk true 1 (AC.ints IntKind.u32 l) ∧ True) False
theorem clC_c_e (l : List Int) : some (clC_c_V l) = (clC.cond sp Go.Proofs.Tryz.prog (drPL sp Go.Proofs.Tryz.prog) noLoops noBaseK 40 2 l) := by kernel_rfl
set_option maxRecDepth 100000 in
theorem clC_ok : clC.OK Go.Proofs.Tryz.prog := by
  refine Con.byL' hmix (noLoops_ok _) (noBaseK_ok _) clC_c_V clC_c_e (fun l hx => ?_)
  obtain ⟨h1, h2⟩ := hx
  unfold clC_c_V
  have d1 : decide (l.length ≤ l.length) = true := decide_eq_true (by omega)
  have d2 : decide (l.length * 4 ≤ 140737488355328) = true := decide_eq_true (by omega)
  have d3 : decide (l.length ≤ 9223372036854775807) = true := decide_eq_true (by omega)
  simp only [d1, d2, d3, sp, Bool.and_self, Nat.zero_add, List.drop_zero, List.take_length, List.nil_append]
  refine ⟨(), trivial, ?_⟩
  repeat' (first | trivial | exact rfl | exact fun _ _ => trivial | exact fun _ _ => rfl | apply And.intro)
end Go.Proofs.YtilmgiompalggaaGreatDoor.W
/- Several tables in one host, made: what is reckoned. No condition. -/
namespace Go.Proofs.YtilmgiompalggaaGreatDoor.W
open Go Go.RowKit Go.Eng
set_option maxRecDepth 100000
set_option linter.unusedVariables false
set_option linter.unusedSimpArgs false
structure SpX where
  N : Nat
  xs : List Int
  l : List Int
def spP (x : SpX) : Prop := x.N ≤ 512 ∧ 1 ≤ x.xs.length ∧ x.xs.length ≤ 8 ∧ (∀ i, i < x.xs.length → 0 ≤ x.xs.getD i 0 ∧ x.xs.getD i 0 ≤ 512) ∧ 1 ≤ x.l.length ∧ x.l.length ≤ 64
structure SpI where
  x : SpX
  k : Nat
  all : List Int
def spS (x : SpX) (all : List Int) : LH := [(0, ramB 1 x.N), (1, frameB 2 x.N), (2, byteB all), (3, rowB x.xs), (5, wordB x.l)]
def spR (x : SpX) (all : List Int) : LH := [(0, ramB 1 x.N), (1, frameB 2 x.N), (2, byteB all)]
def spL1 (P : Program) : LpE SpI (SpX × List Int) Unit where
  B := 6
  n := ntmpsOf P F_spaces_New
  code := loopOf P F_spaces_New 0
  fit _ H := match H.get 0, H.get 2, H.get 3, H.get 5 with
    | some k, some k2, some k3, some k5 => match k.c, k2.c, k3.c, k5.c with
      | .cells [.sl _ _ _ N _ _], .ints _ l2, .ints _ l3, .ints _ l5 => some ⟨⟨N, l3, l5⟩, 0, l2⟩
      | _, _, _, _ => none
    | _, _, _, _ => none
  pre i := spP i.x ∧ i.all.length = 64 * i.x.N ∧ i.k ≤ i.x.xs.length
  slots i := [(0, .ptr 0 0 0), (1, .sl 3 0 0 i.x.xs.length i.x.xs.length false), (2, .ptr 4 0 0), (3, .sl 5 0 0 i.x.l.length i.x.l.length false), (37, .sl 3 0 0 i.x.xs.length i.x.xs.length false), (38, .int .i64 i.x.xs.length), (39, .int .i64 i.k)]
  nx _ := 6
  L i := spS i.x i.all
  m i := i.x.xs.length - i.k
  par i := (i.x, i.all)
  post _ _ := True
  out x _ := ⟨.exit 0, [(0, .ptr 0 0 0), (1, .sl 3 0 0 x.1.xs.length x.1.xs.length false), (2, .ptr 4 0 0), (3, .sl 5 0 0 x.1.l.length x.1.l.length false)], 6, spS x.1 x.2⟩
/-- The record, k tables made. -/
def tabA (k j : Nat) : List AV := [bif Nat.blt j k then .ptr (9 + j) 0 0 else .nilp, .bool false, .bool false, .int .u32 0, .int .u32 0]
def spB (k n : Nat) : ABlk := ⟨true, 48, .cells ([.bool true, .ptr 0 0 0, .ptr 4 0 0] ++ (tabA k 0 ++ tabA k 1 ++ tabA k 2 ++ tabA k 3 ++ tabA k 4 ++ tabA k 5 ++ tabA k 6 ++ tabA k 7) ++ [bif Nat.beq k 0 then .nils else .sl 8 0 0 k k false, .bool false, .sl 7 0 0 n n false, .int .i64 0, .int .i64 0])⟩
def ageB (k : Nat) : ABlk := rowB ((List.range k).map fun i : Nat => (i : Int))
def spL2 (P : Program) : LpM SpI SpX (List Int × Int) where
  B := 6
  n := ntmpsOf P F_spaces_New
  code := loopOf P F_spaces_New 1
  fit _ H := match H.get 0, H.get 2, H.get 3, H.get 5 with
    | some k, some k2, some k3, some k5 => match k.c, k2.c, k3.c, k5.c with
      | .cells [.sl _ _ _ N _ _], .ints _ l2, .ints _ l3, .ints _ l5 => some ⟨⟨N, l3, l5⟩, 0, l2⟩
      | _, _, _, _ => none
    | _, _, _, _ => none
  pre i := spP i.x ∧ i.all.length = 64 * i.x.N ∧ i.k ≤ i.x.xs.length
  slots i := [(0, .ptr 0 0 0), (2, .ptr 4 0 0), (12, .ptr 6 0 0), (69, .sl 3 0 0 i.x.xs.length i.x.xs.length false), (70, .int .i64 i.x.xs.length), (71, .int .i64 i.k)]
  nx i := 9 + i.k
  L i := spR i.x i.all ++ [(3, rowB i.x.xs), (6, spB i.k i.x.l.length)] ++ (bif Nat.beq i.k 0 then [] else [(8, ageB i.k)])
  m i := i.x.xs.length - i.k
  par i := i.x
  outs x := [(fun y => y.1.length = 64 * x.N, fun y => ⟨.ret, [(8, .nilp), (9, .int .i64 y.2)], 6, spR x y.1⟩), (fun y => y.1.length = 64 * x.N, fun y => ⟨.exit 2, [(12, .ptr 6 0 0)], 7, spR x y.1⟩)]
  sh i j := { j with k := i.k + 1 }
structure SpY where
  x : SpX
  all : List Int
def spC : Con SpY (List Int × Int) where
  f := F_spaces_New
  fit vs H := match vs with
    | [.ptr b _ _, .sl b3 _ _ _ _ _, .ptr b4 _ _, .sl b5 _ _ _ _ _] => match H.get b, H.get b3, H.get b5 with
      | some k, some k3, some k5 => match k.c, k3.c, k5.c with
        | .cells [.sl b1 _ _ N _ _], .ints _ l3, .ints _ l5 => match H.get b1 with
          | some k1 => match k1.c with
            | .recs _ f => match f 0 with
              | [.sl b2 _ _ _ _ _] => match H.get b2 with
                | some k2 => match k2.c with
                  | .ints _ l => some ([b, b1, b2, b3, b4, b5], ⟨⟨N, l3, l5⟩, l⟩)
                  | _ => none
                | none => none
              | _ => none
            | _ => none
          | none => none
        | _, _, _ => none
      | _, _, _ => none
    | _ => none
  n0 := 6
  pre x := spP x.x ∧ x.all.length = 64 * x.x.N
  args x := [.ptr 0 0 0, .sl 3 0 0 x.x.xs.length x.x.xs.length false, .ptr 4 0 0, .sl 5 0 0 x.x.l.length x.x.l.length false]
  L0 x := spS x.x x.all
  outs x := [(fun y => y.1.length = 64 * x.x.N, fun y => (.ret (.tup [.nilp, .int .i64 y.2]), 6, spR x.x y.1)),
    (fun y => y.1.length = 64 * x.x.N, fun y => (.ret (.tup [.ptr 6 0 0, .int .i64 0]), 7, spR x.x y.1))]
end Go.Proofs.YtilmgiompalggaaGreatDoor.W
/- Several tables in one host, made: the walks. No condition. -/
namespace Go.Proofs.YtilmgiompalggaaGreatDoor.W
open Go Go.RowKit Go.Eng
set_option maxRecDepth 100000
set_option linter.unusedVariables false
set_option linter.unusedSimpArgs false
def spA_c_V (i : SpI) : Prop :=
  sp (decide ((↑i.k : Int) < (↑i.x.xs.length : Int))) (sp (decide ((↑i.k : Int) < (↑i.x.xs.length : Int)) && true) (sp (decide (0 + (↑i.k : Int).toNat + 0 < i.x.xs.length)) (sp (decide (i.x.xs.getD (0 + (↑i.k : Int).toNat + 0) 0 < 0)) (∃ (y : Unit), True ∧ False) (sp (bif false then true else decide (i.x.xs.getD (0 + (↑i.k : Int).toNat + 0) 0 > 512)) (∃ (y : Unit), True ∧ False) (∃ (j : SpI), ((j.x.N ≤ 512 ∧ 1 ≤ j.x.xs.length ∧ j.x.xs.length ≤ 8 ∧ (∀ (i : Nat), i < j.x.xs.length → 0 ≤ j.x.xs.getD i 0 ∧ j.x.xs.getD i 0 ≤ 512) ∧ 1 ≤ j.x.l.length ∧ j.x.l.length ≤ 64) ∧ j.all.length = 64 * j.x.N ∧ j.k ≤ j.x.xs.length) ∧ j.x.xs.length - j.k < i.x.xs.length - i.k ∧ (j.x, j.all) = (i.x, i.all) ∧ (AV.ptr 0 0 0 = AV.ptr 0 0 0 ∧ AV.sl 3 0 0 i.x.xs.length i.x.xs.length false = AV.sl 3 0 0 j.x.xs.length j.x.xs.length false ∧ AV.ptr 4 0 0 = AV.ptr 4 0 0 ∧ AV.sl 5 0 0 i.x.l.length i.x.l.length false =
  AV.sl 5 0 0 j.x.l.length j.x.l.length false ∧ AV.sl 3 0 0 i.x.xs.length i.x.xs.length false = AV.sl 3 0 0 j.x.xs.length j.x.xs.length false ∧ nI (↑i.x.xs.length : Int) = nI (↑j.x.xs.length : Int) ∧ nI (IntKind.i64.wrap ((↑i.k : Int) + 1)) = nI (↑j.k : Int) ∧ True) ∧ bC [AV.sl 1 0 0 i.x.N i.x.N false] = bC [AV.sl 1 0 0 j.x.N j.x.N false] ∧ (true = true ∧ 1 = 1 ∧ i.x.N = j.x.N ∧ ∀ (i_1 : Nat), i_1 < i.x.N → [AV.sl 2 (64 * i_1) 0 64 64 true] = [AV.sl 2 (64 * i_1) 0 64 64 true]) ∧ bW i.all = bW j.all ∧ ABlk.mk true 1 (AC.ints IntKind.i64 i.x.xs) = ABlk.mk true 1 (AC.ints IntKind.i64 j.x.xs) ∧ ABlk.mk true 1 (AC.ints IntKind.u32 i.x.l) = ABlk.mk true 1 (AC.ints IntKind.u32 j.x.l) ∧ True))) False) False) (∃ (y : Unit), True ∧ (AV.ptr 0 0 0 = AV.ptr 0 0 0 ∧ AV.sl 3 0 0 i.x.xs.length i.x.xs.length false = AV.sl 3 0 0 i.x.xs.length i.x.xs.length false ∧ AV.ptr 4 0 0 = AV.ptr 4 0 0 ∧ AV.sl 5 0 0
  i.x.l.length i.x.l.length false = AV.sl 5 0 0 i.x.l.length i.x.l.length false ∧ True) ∧ bC [AV.sl 1 0 0 i.x.N i.x.N false] = bC [AV.sl 1 0 0 i.x.N i.x.N false] ∧ (true = true ∧ 1 = 1 ∧ i.x.N = i.x.N ∧ ∀ (i_1 : Nat), i_1 < i.x.N → [AV.sl 2 (64 * i_1) 0 64 64 true] = [AV.sl 2 (64 * i_1) 0 64 64 true]) ∧ bW i.all = bW i.all ∧ ABlk.mk true 1 (AC.ints IntKind.i64 i.x.xs) = ABlk.mk true 1 (AC.ints IntKind.i64 i.x.xs) ∧ ABlk.mk true 1 (AC.ints IntKind.u32 i.x.l) = ABlk.mk true 1 (AC.ints IntKind.u32 i.x.l) ∧ True)
theorem spA_c_e (i : SpI) : some (spA_c_V i) = (some ((spL1 Go.Proofs.Tryz.prog).body sp Go.Proofs.Tryz.prog noBaseK (drPL sp Go.Proofs.Tryz.prog noBaseK) noLo 40 i)) := by kernel_rfl
set_option maxRecDepth 100000 in
theorem spA_ok (i : SpI) (hi : (spL1 Go.Proofs.Tryz.prog).pre i) : spA_c_V i := by
  obtain ⟨x, k, all⟩ := i
  obtain ⟨⟨h1, h2, h3, h4, h5, h6⟩, ha, hk⟩ := hi
  have hk : k ≤ x.xs.length := hk
  have ha : all.length = 64 * x.N := ha
  unfold spA_c_V
  by_cases hk1 : k < x.xs.length
  · have e0 : 0 + (k : Int).toNat + 0 = k := by omega
    have hv : 0 ≤ x.xs.getD k 0 ∧ x.xs.getD k 0 ≤ 512 := h4 k hk1
    have e1 : IntKind.wrap .i64 ((k : Int) + 1) = ((k + 1 : Nat) : Int) := by rw [IntWalk.i64_in _ (by have : x.xs.length ≤ 8 := h3; omega)]; omega
    simp only [e0, e1]
    refine spI (fun _ => spI (fun _ => spI (fun _ => spI (fun h => ?_) (fun _ => spI (fun h => ?_) (fun _ => ⟨⟨x, k + 1, all⟩, ⟨⟨h1, h2, h3, h4, h5, h6⟩, ha, hk1⟩, (by show x.xs.length - (k + 1) < x.xs.length - k; omega), by repeat' (first | trivial | exact rfl | exact fun _ _ => trivial | exact fun _ _ => rfl | apply And.intro)⟩))) (fun h => ?_)) (fun h => ?_)) (fun h => ?_)
    · have := of_decide_eq_true h; omega
    · rw [cond_false] at h; have := of_decide_eq_true h; omega
    · have := of_decide_eq_false h; omega
    · rw [Bool.and_true] at h; have := of_decide_eq_false h; omega
    · have := of_decide_eq_false h; omega
  · refine spI (fun h => ?_) (fun _ => ⟨(), trivial, by repeat' (first | trivial | exact rfl | exact fun _ _ => trivial | exact fun _ _ => rfl | apply And.intro)⟩)
    have h : decide ((k : Int) < (x.xs.length : Int)) = true := h
    have := of_decide_eq_true h; omega
theorem spL1_ok : (spL1 Go.Proofs.Tryz.prog).OK Go.Proofs.Tryz.prog := by
  refine LpE.ok_of (noBaseK_ok _) (drPL_ok hmix _ (noBaseK_ok _)) (noLo_ok _) (by decide) 40 (fun i hi => ?_)
  rw [← Option.some.inj (spA_c_e i)]
  exact spA_ok i hi
def spk0_c_V (x : SpX) (all : List Int) : Prop :=
  sp (decide (0 < (↑x.xs.length : Int))) (sp (decide (0 < (↑x.xs.length : Int)) && true) (sp (decide (0 < x.xs.length)) ((x.N ≤ 512 ∧ all.length = 64 * x.N ∧ 0 ≤ x.xs.getD 0 0 ∧ x.xs.getD 0 0 ≤ 512) ∧ [] ++ [AV.ptr 0 0 0, nI (x.xs.getD 0 0), AV.ptr 4 0 0] ++ [] = [AV.ptr 0 0 0, nI (x.xs.getD 0 0), AV.ptr 4 0 0] ∧ (some (bC [AV.sl 1 0 0 x.N x.N false]) = some (bC [AV.sl 1 0 0 x.N x.N false]) ∧ some (ABlk.mk true 1 (AC.recs x.N fun (i : Nat) => [AV.sl 2 (64 * i) 0 64 64 true])) = some (ABlk.mk true 1 (AC.recs x.N fun (i : Nat) => [AV.sl 2 (64 * i) 0 64 64 true])) ∧ some (bW all) = some (bW all) ∧ True) ∧ (∀ (y : List Int), y.length = 64 * x.N → (∃ (y_1 : List Int × Int), y_1.fst.length = 64 * x.N ∧ (AV.nilp = AV.nilp ∧ nI 1 = nI y_1.snd ∧ True) ∧ bC [AV.sl 1 0 0 x.N x.N false] = bC [AV.sl 1 0 0 x.N x.N false] ∧ (true = true ∧ 1 = 1 ∧ x.N = x.N ∧ ∀ (i : Nat), i < x.N → [AV.sl 2 (64 * i) 0 64
  64 true] = [AV.sl 2 (64 * i) 0 64 64 true]) ∧ bW y = bW y_1.fst ∧ True) ∨ ∃ (y : List Int × Int), y.fst.length = 64 * x.N ∧ False) ∧ (∀ (y : List Int), y.length = 64 * x.N → (∃ (y_1 : List Int × Int), y_1.fst.length = 64 * x.N ∧ (AV.nilp = AV.nilp ∧ nI 2 = nI y_1.snd ∧ True) ∧ bC [AV.sl 1 0 0 x.N x.N false] = bC [AV.sl 1 0 0 x.N x.N false] ∧ (true = true ∧ 1 = 1 ∧ x.N = x.N ∧ ∀ (i : Nat), i < x.N → [AV.sl 2 (64 * i) 0 64 64 true] = [AV.sl 2 (64 * i) 0 64 64 true]) ∧ bW y = bW y_1.fst ∧ True) ∨ ∃ (y : List Int × Int), y.fst.length = 64 * x.N ∧ False) ∧ (∀ (y : List Int), y.length = 64 * x.N → ∃ (j : SpI), ((j.x.N ≤ 512 ∧ 1 ≤ j.x.xs.length ∧ j.x.xs.length ≤ 8 ∧ (∀ (i : Nat), i < j.x.xs.length → 0 ≤ j.x.xs.getD i 0 ∧ j.x.xs.getD i 0 ≤ 512) ∧ 1 ≤ j.x.l.length ∧ j.x.l.length ≤ 64) ∧ j.all.length = 64 * j.x.N ∧ 1 ≤ j.x.xs.length) ∧ j.x.xs.length - 1 < x.xs.length - 0 ∧ j.x = x ∧ (AV.ptr 0 0 0 =
  AV.ptr 0 0 0 ∧ AV.ptr 4 0 0 = AV.ptr 4 0 0 ∧ AV.ptr 6 0 0 = AV.ptr 6 0 0 ∧ AV.sl 3 0 0 x.xs.length x.xs.length false = AV.sl 3 0 0 j.x.xs.length j.x.xs.length false ∧ nI (↑x.xs.length : Int) = nI (↑j.x.xs.length : Int) ∧ nI 1 = nI 1 ∧ True) ∧ bC [AV.sl 1 0 0 x.N x.N false] = bC [AV.sl 1 0 0 j.x.N j.x.N false] ∧ (true = true ∧ 1 = 1 ∧ x.N = j.x.N ∧ ∀ (i : Nat), i < x.N → [AV.sl 2 (64 * i) 0 64 64 true] = [AV.sl 2 (64 * i) 0 64 64 true]) ∧ bW y = bW j.all ∧ ABlk.mk true 1 (AC.ints IntKind.i64 x.xs) = ABlk.mk true 1 (AC.ints IntKind.i64 j.x.xs) ∧ ABlk.mk true 48 (AC.cells ((((((([AV.bool true, AV.ptr 0 0 0, AV.ptr 4 0 0, AV.nilp, AV.bool false, AV.bool false, nU 0, nU 0, AV.nilp, AV.bool false, AV.bool false, nU 0, nU 0, AV.nilp, AV.bool false, AV.bool false, nU 0, nU 0, AV.nilp, AV.bool false, AV.bool false, nU 0, nU 0, AV.nilp, AV.bool false, AV.bool false, nU 0, nU 0, AV.nilp, AV.bool
  false, AV.bool false, nU 0, nU 0, AV.nilp, AV.bool false, AV.bool false, nU 0, nU 0, AV.nilp, AV.bool false, AV.bool false, nU 0, nU 0] ++ [AV.nils, AV.bool false, AV.sl 7 0 0 x.l.length x.l.length false, nI 0, nI 0]).set 3 (AV.ptr 9 0 0)).set 4 (AV.bool false)).set 5 (AV.bool false)).set 6 (nU 0)).set 7 (nU 0)).set 43 (AV.sl 11 0 0 1 1 false))) = ABlk.mk true 48 (AC.cells [AV.bool true, AV.ptr 0 0 0, AV.ptr 4 0 0, AV.ptr 9 0 0, AV.bool false, AV.bool false, nU 0, nU 0, AV.nilp, AV.bool false, AV.bool false, nU 0, nU 0, AV.nilp, AV.bool false, AV.bool false, nU 0, nU 0, AV.nilp, AV.bool false, AV.bool false, nU 0, nU 0, AV.nilp, AV.bool false, AV.bool false, nU 0, nU 0, AV.nilp, AV.bool false, AV.bool false, nU 0, nU 0, AV.nilp, AV.bool false, AV.bool false, nU 0, nU 0, AV.nilp, AV.bool false, AV.bool false, nU 0, nU 0, AV.sl 11 0 0 1 1 false, AV.bool false, AV.sl 7 0 0 j.x.l.length
  j.x.l.length false, nI 0, nI 0]) ∧ ABlk.mk true 1 (AC.ints IntKind.i64 [0]) = ABlk.mk true 1 (AC.ints IntKind.i64 [0]) ∧ True) ∧ True) False) False) ((∃ (y : List Int × Int), y.fst.length = 64 * x.N ∧ False) ∨ ∃ (y : List Int × Int), y.fst.length = 64 * x.N ∧ (AV.ptr 6 0 0 = AV.ptr 6 0 0 ∧ True) ∧ bC [AV.sl 1 0 0 x.N x.N false] = bC [AV.sl 1 0 0 x.N x.N false] ∧ (true = true ∧ 1 = 1 ∧ x.N = x.N ∧ ∀ (i : Nat), i < x.N → [AV.sl 2 (64 * i) 0 64 64 true] = [AV.sl 2 (64 * i) 0 64 64 true]) ∧ bW all = bW y.fst ∧ True)
theorem spk0_c_e (x : SpX) (all : List Int) : some (spk0_c_V x all) = (some ((spL2 Go.Proofs.Tryz.prog).body sp Go.Proofs.Tryz.prog (shC.orc sp) (drPL sp Go.Proofs.Tryz.prog (shC.orc sp)) noLo 40 ⟨x, 0, all⟩)) := by kernel_rfl
set_option maxRecDepth 100000 in
theorem spk0_ok (x : SpX) (all : List Int) (hp : spP x) (ha : all.length = 64 * x.N) : spk0_c_V x all := by
  have hp' := hp
  obtain ⟨h1, h2, h3, h4, h5, h6⟩ := hp
  unfold spk0_c_V
  by_cases hk : 0 < x.xs.length
  · refine spI (fun _ => spI (fun _ => spI (fun _ => ⟨⟨h1, ha, (h4 0 hk).1, (h4 0 hk).2⟩, by first | trivial | rfl, by repeat' (first | trivial | exact rfl | exact fun _ _ => trivial | exact fun _ _ => rfl | apply And.intro), fun y hy => .inl ⟨(y, 1), hy, by repeat' (first | trivial | exact rfl | exact fun _ _ => trivial | exact fun _ _ => rfl | apply And.intro)⟩, fun y hy => .inl ⟨(y, 2), hy, by repeat' (first | trivial | exact rfl | exact fun _ _ => trivial | exact fun _ _ => rfl | apply And.intro)⟩, fun y hy => ⟨⟨x, 1, y⟩, ⟨hp', hy, hk⟩, (by show x.xs.length - 1 < x.xs.length - 0; omega), by repeat' (first | trivial | exact rfl | exact fun _ _ => trivial | exact fun _ _ => rfl | apply And.intro)⟩, trivial⟩) (fun h => ?_)) (fun h => ?_)) (fun h => ?_)
    all_goals first | (have := of_decide_eq_false h; omega) | (rw [Bool.and_true] at h; have := of_decide_eq_false h; omega)
  · refine spI (fun h => ?_) (fun _ => .inr ⟨(all, 0), ha, by repeat' (first | trivial | exact rfl | exact fun _ _ => trivial | exact fun _ _ => rfl | apply And.intro)⟩)
    have := of_decide_eq_true h; omega
def spk1_c_V (x : SpX) (all : List Int) : Prop :=
  sp (decide (1 < (↑x.xs.length : Int))) (sp (decide (1 < (↑x.xs.length : Int)) && true) (sp (decide (1 < x.xs.length)) ((x.N ≤ 512 ∧ all.length = 64 * x.N ∧ 0 ≤ x.xs.getD 1 0 ∧ x.xs.getD 1 0 ≤ 512) ∧ [] ++ [AV.ptr 0 0 0, nI (x.xs.getD 1 0), AV.ptr 4 0 0] ++ [] = [AV.ptr 0 0 0, nI (x.xs.getD 1 0), AV.ptr 4 0 0] ∧ (some (bC [AV.sl 1 0 0 x.N x.N false]) = some (bC [AV.sl 1 0 0 x.N x.N false]) ∧ some (ABlk.mk true 1 (AC.recs x.N fun (i : Nat) => [AV.sl 2 (64 * i) 0 64 64 true])) = some (ABlk.mk true 1 (AC.recs x.N fun (i : Nat) => [AV.sl 2 (64 * i) 0 64 64 true])) ∧ some (bW all) = some (bW all) ∧ True) ∧ (∀ (y : List Int), y.length = 64 * x.N → (∃ (y_1 : List Int × Int), y_1.fst.length = 64 * x.N ∧ (AV.nilp = AV.nilp ∧ nI 1 = nI y_1.snd ∧ True) ∧ bC [AV.sl 1 0 0 x.N x.N false] = bC [AV.sl 1 0 0 x.N x.N false] ∧ (true = true ∧ 1 = 1 ∧ x.N = x.N ∧ ∀ (i : Nat), i < x.N → [AV.sl 2 (64 * i) 0 64
  64 true] = [AV.sl 2 (64 * i) 0 64 64 true]) ∧ bW y = bW y_1.fst ∧ True) ∨ ∃ (y : List Int × Int), y.fst.length = 64 * x.N ∧ False) ∧ (∀ (y : List Int), y.length = 64 * x.N → (∃ (y_1 : List Int × Int), y_1.fst.length = 64 * x.N ∧ (AV.nilp = AV.nilp ∧ nI 2 = nI y_1.snd ∧ True) ∧ bC [AV.sl 1 0 0 x.N x.N false] = bC [AV.sl 1 0 0 x.N x.N false] ∧ (true = true ∧ 1 = 1 ∧ x.N = x.N ∧ ∀ (i : Nat), i < x.N → [AV.sl 2 (64 * i) 0 64 64 true] = [AV.sl 2 (64 * i) 0 64 64 true]) ∧ bW y = bW y_1.fst ∧ True) ∨ ∃ (y : List Int × Int), y.fst.length = 64 * x.N ∧ False) ∧ (∀ (y : List Int), y.length = 64 * x.N → ∃ (j : SpI), ((j.x.N ≤ 512 ∧ 1 ≤ j.x.xs.length ∧ j.x.xs.length ≤ 8 ∧ (∀ (i : Nat), i < j.x.xs.length → 0 ≤ j.x.xs.getD i 0 ∧ j.x.xs.getD i 0 ≤ 512) ∧ 1 ≤ j.x.l.length ∧ j.x.l.length ≤ 64) ∧ j.all.length = 64 * j.x.N ∧ 2 ≤ j.x.xs.length) ∧ j.x.xs.length - 2 < x.xs.length - 1 ∧ j.x = x ∧ (AV.ptr 0 0 0 =
  AV.ptr 0 0 0 ∧ AV.ptr 4 0 0 = AV.ptr 4 0 0 ∧ AV.ptr 6 0 0 = AV.ptr 6 0 0 ∧ AV.sl 3 0 0 x.xs.length x.xs.length false = AV.sl 3 0 0 j.x.xs.length j.x.xs.length false ∧ nI (↑x.xs.length : Int) = nI (↑j.x.xs.length : Int) ∧ nI 2 = nI 2 ∧ True) ∧ bC [AV.sl 1 0 0 x.N x.N false] = bC [AV.sl 1 0 0 j.x.N j.x.N false] ∧ (true = true ∧ 1 = 1 ∧ x.N = j.x.N ∧ ∀ (i : Nat), i < x.N → [AV.sl 2 (64 * i) 0 64 64 true] = [AV.sl 2 (64 * i) 0 64 64 true]) ∧ bW y = bW j.all ∧ ABlk.mk true 1 (AC.ints IntKind.i64 x.xs) = ABlk.mk true 1 (AC.ints IntKind.i64 j.x.xs) ∧ ABlk.mk true 48 (AC.cells ((((((([AV.bool true, AV.ptr 0 0 0, AV.ptr 4 0 0, AV.ptr 9 0 0, AV.bool false, AV.bool false, nU 0, nU 0, AV.nilp, AV.bool false, AV.bool false, nU 0, nU 0, AV.nilp, AV.bool false, AV.bool false, nU 0, nU 0, AV.nilp, AV.bool false, AV.bool false, nU 0, nU 0, AV.nilp, AV.bool false, AV.bool false, nU 0, nU 0, AV.nilp,
  AV.bool false, AV.bool false, nU 0, nU 0, AV.nilp, AV.bool false, AV.bool false, nU 0, nU 0, AV.nilp, AV.bool false, AV.bool false, nU 0, nU 0] ++ [AV.sl 8 0 0 1 1 false, AV.bool false, AV.sl 7 0 0 x.l.length x.l.length false, nI 0, nI 0]).set 8 (AV.ptr 10 0 0)).set 9 (AV.bool false)).set 10 (AV.bool false)).set 11 (nU 0)).set 12 (nU 0)).set 43 (AV.sl 12 0 0 2 2 false))) = ABlk.mk true 48 (AC.cells [AV.bool true, AV.ptr 0 0 0, AV.ptr 4 0 0, AV.ptr 9 0 0, AV.bool false, AV.bool false, nU 0, nU 0, AV.ptr 10 0 0, AV.bool false, AV.bool false, nU 0, nU 0, AV.nilp, AV.bool false, AV.bool false, nU 0, nU 0, AV.nilp, AV.bool false, AV.bool false, nU 0, nU 0, AV.nilp, AV.bool false, AV.bool false, nU 0, nU 0, AV.nilp, AV.bool false, AV.bool false, nU 0, nU 0, AV.nilp, AV.bool false, AV.bool false, nU 0, nU 0, AV.nilp, AV.bool false, AV.bool false, nU 0, nU 0, AV.sl 12 0 0 2 2 false, AV.bool
  false, AV.sl 7 0 0 j.x.l.length j.x.l.length false, nI 0, nI 0]) ∧ ABlk.mk true 1 (AC.ints IntKind.i64 [0, 1]) = ABlk.mk true 1 (AC.ints IntKind.i64 [0, 1]) ∧ True) ∧ True) False) False) ((∃ (y : List Int × Int), y.fst.length = 64 * x.N ∧ False) ∨ ∃ (y : List Int × Int), y.fst.length = 64 * x.N ∧ (AV.ptr 6 0 0 = AV.ptr 6 0 0 ∧ True) ∧ bC [AV.sl 1 0 0 x.N x.N false] = bC [AV.sl 1 0 0 x.N x.N false] ∧ (true = true ∧ 1 = 1 ∧ x.N = x.N ∧ ∀ (i : Nat), i < x.N → [AV.sl 2 (64 * i) 0 64 64 true] = [AV.sl 2 (64 * i) 0 64 64 true]) ∧ bW all = bW y.fst ∧ True)
theorem spk1_c_e (x : SpX) (all : List Int) : some (spk1_c_V x all) = (some ((spL2 Go.Proofs.Tryz.prog).body sp Go.Proofs.Tryz.prog (shC.orc sp) (drPL sp Go.Proofs.Tryz.prog (shC.orc sp)) noLo 40 ⟨x, 1, all⟩)) := by kernel_rfl
set_option maxRecDepth 100000 in
theorem spk1_ok (x : SpX) (all : List Int) (hp : spP x) (ha : all.length = 64 * x.N) : spk1_c_V x all := by
  have hp' := hp
  obtain ⟨h1, h2, h3, h4, h5, h6⟩ := hp
  unfold spk1_c_V
  by_cases hk : 1 < x.xs.length
  · refine spI (fun _ => spI (fun _ => spI (fun _ => ⟨⟨h1, ha, (h4 1 hk).1, (h4 1 hk).2⟩, by first | trivial | rfl, by repeat' (first | trivial | exact rfl | exact fun _ _ => trivial | exact fun _ _ => rfl | apply And.intro), fun y hy => .inl ⟨(y, 1), hy, by repeat' (first | trivial | exact rfl | exact fun _ _ => trivial | exact fun _ _ => rfl | apply And.intro)⟩, fun y hy => .inl ⟨(y, 2), hy, by repeat' (first | trivial | exact rfl | exact fun _ _ => trivial | exact fun _ _ => rfl | apply And.intro)⟩, fun y hy => ⟨⟨x, 2, y⟩, ⟨hp', hy, hk⟩, (by show x.xs.length - 2 < x.xs.length - 1; omega), by repeat' (first | trivial | exact rfl | exact fun _ _ => trivial | exact fun _ _ => rfl | apply And.intro)⟩, trivial⟩) (fun h => ?_)) (fun h => ?_)) (fun h => ?_)
    all_goals first | (have := of_decide_eq_false h; omega) | (rw [Bool.and_true] at h; have := of_decide_eq_false h; omega)
  · refine spI (fun h => ?_) (fun _ => .inr ⟨(all, 0), ha, by repeat' (first | trivial | exact rfl | exact fun _ _ => trivial | exact fun _ _ => rfl | apply And.intro)⟩)
    have := of_decide_eq_true h; omega
def spk2_c_V (x : SpX) (all : List Int) : Prop :=
  sp (decide (2 < (↑x.xs.length : Int))) (sp (decide (2 < (↑x.xs.length : Int)) && true) (sp (decide (2 < x.xs.length)) ((x.N ≤ 512 ∧ all.length = 64 * x.N ∧ 0 ≤ x.xs.getD 2 0 ∧ x.xs.getD 2 0 ≤ 512) ∧ [] ++ [AV.ptr 0 0 0, nI (x.xs.getD 2 0), AV.ptr 4 0 0] ++ [] = [AV.ptr 0 0 0, nI (x.xs.getD 2 0), AV.ptr 4 0 0] ∧ (some (bC [AV.sl 1 0 0 x.N x.N false]) = some (bC [AV.sl 1 0 0 x.N x.N false]) ∧ some (ABlk.mk true 1 (AC.recs x.N fun (i : Nat) => [AV.sl 2 (64 * i) 0 64 64 true])) = some (ABlk.mk true 1 (AC.recs x.N fun (i : Nat) => [AV.sl 2 (64 * i) 0 64 64 true])) ∧ some (bW all) = some (bW all) ∧ True) ∧ (∀ (y : List Int), y.length = 64 * x.N → (∃ (y_1 : List Int × Int), y_1.fst.length = 64 * x.N ∧ (AV.nilp = AV.nilp ∧ nI 1 = nI y_1.snd ∧ True) ∧ bC [AV.sl 1 0 0 x.N x.N false] = bC [AV.sl 1 0 0 x.N x.N false] ∧ (true = true ∧ 1 = 1 ∧ x.N = x.N ∧ ∀ (i : Nat), i < x.N → [AV.sl 2 (64 * i) 0 64
  64 true] = [AV.sl 2 (64 * i) 0 64 64 true]) ∧ bW y = bW y_1.fst ∧ True) ∨ ∃ (y : List Int × Int), y.fst.length = 64 * x.N ∧ False) ∧ (∀ (y : List Int), y.length = 64 * x.N → (∃ (y_1 : List Int × Int), y_1.fst.length = 64 * x.N ∧ (AV.nilp = AV.nilp ∧ nI 2 = nI y_1.snd ∧ True) ∧ bC [AV.sl 1 0 0 x.N x.N false] = bC [AV.sl 1 0 0 x.N x.N false] ∧ (true = true ∧ 1 = 1 ∧ x.N = x.N ∧ ∀ (i : Nat), i < x.N → [AV.sl 2 (64 * i) 0 64 64 true] = [AV.sl 2 (64 * i) 0 64 64 true]) ∧ bW y = bW y_1.fst ∧ True) ∨ ∃ (y : List Int × Int), y.fst.length = 64 * x.N ∧ False) ∧ (∀ (y : List Int), y.length = 64 * x.N → ∃ (j : SpI), ((j.x.N ≤ 512 ∧ 1 ≤ j.x.xs.length ∧ j.x.xs.length ≤ 8 ∧ (∀ (i : Nat), i < j.x.xs.length → 0 ≤ j.x.xs.getD i 0 ∧ j.x.xs.getD i 0 ≤ 512) ∧ 1 ≤ j.x.l.length ∧ j.x.l.length ≤ 64) ∧ j.all.length = 64 * j.x.N ∧ 3 ≤ j.x.xs.length) ∧ j.x.xs.length - 3 < x.xs.length - 2 ∧ j.x = x ∧ (AV.ptr 0 0 0 =
  AV.ptr 0 0 0 ∧ AV.ptr 4 0 0 = AV.ptr 4 0 0 ∧ AV.ptr 6 0 0 = AV.ptr 6 0 0 ∧ AV.sl 3 0 0 x.xs.length x.xs.length false = AV.sl 3 0 0 j.x.xs.length j.x.xs.length false ∧ nI (↑x.xs.length : Int) = nI (↑j.x.xs.length : Int) ∧ nI 3 = nI 3 ∧ True) ∧ bC [AV.sl 1 0 0 x.N x.N false] = bC [AV.sl 1 0 0 j.x.N j.x.N false] ∧ (true = true ∧ 1 = 1 ∧ x.N = j.x.N ∧ ∀ (i : Nat), i < x.N → [AV.sl 2 (64 * i) 0 64 64 true] = [AV.sl 2 (64 * i) 0 64 64 true]) ∧ bW y = bW j.all ∧ ABlk.mk true 1 (AC.ints IntKind.i64 x.xs) = ABlk.mk true 1 (AC.ints IntKind.i64 j.x.xs) ∧ ABlk.mk true 48 (AC.cells ((((((([AV.bool true, AV.ptr 0 0 0, AV.ptr 4 0 0, AV.ptr 9 0 0, AV.bool false, AV.bool false, nU 0, nU 0, AV.ptr 10 0 0, AV.bool false, AV.bool false, nU 0, nU 0, AV.nilp, AV.bool false, AV.bool false, nU 0, nU 0, AV.nilp, AV.bool false, AV.bool false, nU 0, nU 0, AV.nilp, AV.bool false, AV.bool false, nU 0, nU 0, AV.nilp,
  AV.bool false, AV.bool false, nU 0, nU 0, AV.nilp, AV.bool false, AV.bool false, nU 0, nU 0, AV.nilp, AV.bool false, AV.bool false, nU 0, nU 0] ++ [AV.sl 8 0 0 2 2 false, AV.bool false, AV.sl 7 0 0 x.l.length x.l.length false, nI 0, nI 0]).set 13 (AV.ptr 11 0 0)).set 14 (AV.bool false)).set 15 (AV.bool false)).set 16 (nU 0)).set 17 (nU 0)).set 43 (AV.sl 13 0 0 3 3 false))) = ABlk.mk true 48 (AC.cells [AV.bool true, AV.ptr 0 0 0, AV.ptr 4 0 0, AV.ptr 9 0 0, AV.bool false, AV.bool false, nU 0, nU 0, AV.ptr 10 0 0, AV.bool false, AV.bool false, nU 0, nU 0, AV.ptr 11 0 0, AV.bool false, AV.bool false, nU 0, nU 0, AV.nilp, AV.bool false, AV.bool false, nU 0, nU 0, AV.nilp, AV.bool false, AV.bool false, nU 0, nU 0, AV.nilp, AV.bool false, AV.bool false, nU 0, nU 0, AV.nilp, AV.bool false, AV.bool false, nU 0, nU 0, AV.nilp, AV.bool false, AV.bool false, nU 0, nU 0, AV.sl 13 0 0 3 3 false,
  AV.bool false, AV.sl 7 0 0 j.x.l.length j.x.l.length false, nI 0, nI 0]) ∧ ABlk.mk true 1 (AC.ints IntKind.i64 [0, 1, 2]) = ABlk.mk true 1 (AC.ints IntKind.i64 [0, 1, 2]) ∧ True) ∧ True) False) False) ((∃ (y : List Int × Int), y.fst.length = 64 * x.N ∧ False) ∨ ∃ (y : List Int × Int), y.fst.length = 64 * x.N ∧ (AV.ptr 6 0 0 = AV.ptr 6 0 0 ∧ True) ∧ bC [AV.sl 1 0 0 x.N x.N false] = bC [AV.sl 1 0 0 x.N x.N false] ∧ (true = true ∧ 1 = 1 ∧ x.N = x.N ∧ ∀ (i : Nat), i < x.N → [AV.sl 2 (64 * i) 0 64 64 true] = [AV.sl 2 (64 * i) 0 64 64 true]) ∧ bW all = bW y.fst ∧ True)
theorem spk2_c_e (x : SpX) (all : List Int) : some (spk2_c_V x all) = (some ((spL2 Go.Proofs.Tryz.prog).body sp Go.Proofs.Tryz.prog (shC.orc sp) (drPL sp Go.Proofs.Tryz.prog (shC.orc sp)) noLo 40 ⟨x, 2, all⟩)) := by kernel_rfl
set_option maxRecDepth 100000 in
theorem spk2_ok (x : SpX) (all : List Int) (hp : spP x) (ha : all.length = 64 * x.N) : spk2_c_V x all := by
  have hp' := hp
  obtain ⟨h1, h2, h3, h4, h5, h6⟩ := hp
  unfold spk2_c_V
  by_cases hk : 2 < x.xs.length
  · refine spI (fun _ => spI (fun _ => spI (fun _ => ⟨⟨h1, ha, (h4 2 hk).1, (h4 2 hk).2⟩, by first | trivial | rfl, by repeat' (first | trivial | exact rfl | exact fun _ _ => trivial | exact fun _ _ => rfl | apply And.intro), fun y hy => .inl ⟨(y, 1), hy, by repeat' (first | trivial | exact rfl | exact fun _ _ => trivial | exact fun _ _ => rfl | apply And.intro)⟩, fun y hy => .inl ⟨(y, 2), hy, by repeat' (first | trivial | exact rfl | exact fun _ _ => trivial | exact fun _ _ => rfl | apply And.intro)⟩, fun y hy => ⟨⟨x, 3, y⟩, ⟨hp', hy, hk⟩, (by show x.xs.length - 3 < x.xs.length - 2; omega), by repeat' (first | trivial | exact rfl | exact fun _ _ => trivial | exact fun _ _ => rfl | apply And.intro)⟩, trivial⟩) (fun h => ?_)) (fun h => ?_)) (fun h => ?_)
    all_goals first | (have := of_decide_eq_false h; omega) | (rw [Bool.and_true] at h; have := of_decide_eq_false h; omega)
  · refine spI (fun h => ?_) (fun _ => .inr ⟨(all, 0), ha, by repeat' (first | trivial | exact rfl | exact fun _ _ => trivial | exact fun _ _ => rfl | apply And.intro)⟩)
    have := of_decide_eq_true h; omega
def spk3_c_V (x : SpX) (all : List Int) : Prop :=
  sp (decide (3 < (↑x.xs.length : Int))) (sp (decide (3 < (↑x.xs.length : Int)) && true) (sp (decide (3 < x.xs.length)) ((x.N ≤ 512 ∧ all.length = 64 * x.N ∧ 0 ≤ x.xs.getD 3 0 ∧ x.xs.getD 3 0 ≤ 512) ∧ [] ++ [AV.ptr 0 0 0, nI (x.xs.getD 3 0), AV.ptr 4 0 0] ++ [] = [AV.ptr 0 0 0, nI (x.xs.getD 3 0), AV.ptr 4 0 0] ∧ (some (bC [AV.sl 1 0 0 x.N x.N false]) = some (bC [AV.sl 1 0 0 x.N x.N false]) ∧ some (ABlk.mk true 1 (AC.recs x.N fun (i : Nat) => [AV.sl 2 (64 * i) 0 64 64 true])) = some (ABlk.mk true 1 (AC.recs x.N fun (i : Nat) => [AV.sl 2 (64 * i) 0 64 64 true])) ∧ some (bW all) = some (bW all) ∧ True) ∧ (∀ (y : List Int), y.length = 64 * x.N → (∃ (y_1 : List Int × Int), y_1.fst.length = 64 * x.N ∧ (AV.nilp = AV.nilp ∧ nI 1 = nI y_1.snd ∧ True) ∧ bC [AV.sl 1 0 0 x.N x.N false] = bC [AV.sl 1 0 0 x.N x.N false] ∧ (true = true ∧ 1 = 1 ∧ x.N = x.N ∧ ∀ (i : Nat), i < x.N → [AV.sl 2 (64 * i) 0 64
  64 true] = [AV.sl 2 (64 * i) 0 64 64 true]) ∧ bW y = bW y_1.fst ∧ True) ∨ ∃ (y : List Int × Int), y.fst.length = 64 * x.N ∧ False) ∧ (∀ (y : List Int), y.length = 64 * x.N → (∃ (y_1 : List Int × Int), y_1.fst.length = 64 * x.N ∧ (AV.nilp = AV.nilp ∧ nI 2 = nI y_1.snd ∧ True) ∧ bC [AV.sl 1 0 0 x.N x.N false] = bC [AV.sl 1 0 0 x.N x.N false] ∧ (true = true ∧ 1 = 1 ∧ x.N = x.N ∧ ∀ (i : Nat), i < x.N → [AV.sl 2 (64 * i) 0 64 64 true] = [AV.sl 2 (64 * i) 0 64 64 true]) ∧ bW y = bW y_1.fst ∧ True) ∨ ∃ (y : List Int × Int), y.fst.length = 64 * x.N ∧ False) ∧ (∀ (y : List Int), y.length = 64 * x.N → ∃ (j : SpI), ((j.x.N ≤ 512 ∧ 1 ≤ j.x.xs.length ∧ j.x.xs.length ≤ 8 ∧ (∀ (i : Nat), i < j.x.xs.length → 0 ≤ j.x.xs.getD i 0 ∧ j.x.xs.getD i 0 ≤ 512) ∧ 1 ≤ j.x.l.length ∧ j.x.l.length ≤ 64) ∧ j.all.length = 64 * j.x.N ∧ 4 ≤ j.x.xs.length) ∧ j.x.xs.length - 4 < x.xs.length - 3 ∧ j.x = x ∧ (AV.ptr 0 0 0 =
  AV.ptr 0 0 0 ∧ AV.ptr 4 0 0 = AV.ptr 4 0 0 ∧ AV.ptr 6 0 0 = AV.ptr 6 0 0 ∧ AV.sl 3 0 0 x.xs.length x.xs.length false = AV.sl 3 0 0 j.x.xs.length j.x.xs.length false ∧ nI (↑x.xs.length : Int) = nI (↑j.x.xs.length : Int) ∧ nI 4 = nI 4 ∧ True) ∧ bC [AV.sl 1 0 0 x.N x.N false] = bC [AV.sl 1 0 0 j.x.N j.x.N false] ∧ (true = true ∧ 1 = 1 ∧ x.N = j.x.N ∧ ∀ (i : Nat), i < x.N → [AV.sl 2 (64 * i) 0 64 64 true] = [AV.sl 2 (64 * i) 0 64 64 true]) ∧ bW y = bW j.all ∧ ABlk.mk true 1 (AC.ints IntKind.i64 x.xs) = ABlk.mk true 1 (AC.ints IntKind.i64 j.x.xs) ∧ ABlk.mk true 48 (AC.cells ((((((([AV.bool true, AV.ptr 0 0 0, AV.ptr 4 0 0, AV.ptr 9 0 0, AV.bool false, AV.bool false, nU 0, nU 0, AV.ptr 10 0 0, AV.bool false, AV.bool false, nU 0, nU 0, AV.ptr 11 0 0, AV.bool false, AV.bool false, nU 0, nU 0, AV.nilp, AV.bool false, AV.bool false, nU 0, nU 0, AV.nilp, AV.bool false, AV.bool false, nU 0, nU 0,
  AV.nilp, AV.bool false, AV.bool false, nU 0, nU 0, AV.nilp, AV.bool false, AV.bool false, nU 0, nU 0, AV.nilp, AV.bool false, AV.bool false, nU 0, nU 0] ++ [AV.sl 8 0 0 3 3 false, AV.bool false, AV.sl 7 0 0 x.l.length x.l.length false, nI 0, nI 0]).set 18 (AV.ptr 12 0 0)).set 19 (AV.bool false)).set 20 (AV.bool false)).set 21 (nU 0)).set 22 (nU 0)).set 43 (AV.sl 14 0 0 4 4 false))) = ABlk.mk true 48 (AC.cells [AV.bool true, AV.ptr 0 0 0, AV.ptr 4 0 0, AV.ptr 9 0 0, AV.bool false, AV.bool false, nU 0, nU 0, AV.ptr 10 0 0, AV.bool false, AV.bool false, nU 0, nU 0, AV.ptr 11 0 0, AV.bool false, AV.bool false, nU 0, nU 0, AV.ptr 12 0 0, AV.bool false, AV.bool false, nU 0, nU 0, AV.nilp, AV.bool false, AV.bool false, nU 0, nU 0, AV.nilp, AV.bool false, AV.bool false, nU 0, nU 0, AV.nilp, AV.bool false, AV.bool false, nU 0, nU 0, AV.nilp, AV.bool false, AV.bool false, nU 0, nU 0, AV.sl 14 0 0 4
  4 false, AV.bool false, AV.sl 7 0 0 j.x.l.length j.x.l.length false, nI 0, nI 0]) ∧ ABlk.mk true 1 (AC.ints IntKind.i64 [0, 1, 2, 3]) = ABlk.mk true 1 (AC.ints IntKind.i64 [0, 1, 2, 3]) ∧ True) ∧ True) False) False) ((∃ (y : List Int × Int), y.fst.length = 64 * x.N ∧ False) ∨ ∃ (y : List Int × Int), y.fst.length = 64 * x.N ∧ (AV.ptr 6 0 0 = AV.ptr 6 0 0 ∧ True) ∧ bC [AV.sl 1 0 0 x.N x.N false] = bC [AV.sl 1 0 0 x.N x.N false] ∧ (true = true ∧ 1 = 1 ∧ x.N = x.N ∧ ∀ (i : Nat), i < x.N → [AV.sl 2 (64 * i) 0 64 64 true] = [AV.sl 2 (64 * i) 0 64 64 true]) ∧ bW all = bW y.fst ∧ True)
theorem spk3_c_e (x : SpX) (all : List Int) : some (spk3_c_V x all) = (some ((spL2 Go.Proofs.Tryz.prog).body sp Go.Proofs.Tryz.prog (shC.orc sp) (drPL sp Go.Proofs.Tryz.prog (shC.orc sp)) noLo 40 ⟨x, 3, all⟩)) := by kernel_rfl
set_option maxRecDepth 100000 in
theorem spk3_ok (x : SpX) (all : List Int) (hp : spP x) (ha : all.length = 64 * x.N) : spk3_c_V x all := by
  have hp' := hp
  obtain ⟨h1, h2, h3, h4, h5, h6⟩ := hp
  unfold spk3_c_V
  by_cases hk : 3 < x.xs.length
  · refine spI (fun _ => spI (fun _ => spI (fun _ => ⟨⟨h1, ha, (h4 3 hk).1, (h4 3 hk).2⟩, by first | trivial | rfl, by repeat' (first | trivial | exact rfl | exact fun _ _ => trivial | exact fun _ _ => rfl | apply And.intro), fun y hy => .inl ⟨(y, 1), hy, by repeat' (first | trivial | exact rfl | exact fun _ _ => trivial | exact fun _ _ => rfl | apply And.intro)⟩, fun y hy => .inl ⟨(y, 2), hy, by repeat' (first | trivial | exact rfl | exact fun _ _ => trivial | exact fun _ _ => rfl | apply And.intro)⟩, fun y hy => ⟨⟨x, 4, y⟩, ⟨hp', hy, hk⟩, (by show x.xs.length - 4 < x.xs.length - 3; omega), by repeat' (first | trivial | exact rfl | exact fun _ _ => trivial | exact fun _ _ => rfl | apply And.intro)⟩, trivial⟩) (fun h => ?_)) (fun h => ?_)) (fun h => ?_)
    all_goals first | (have := of_decide_eq_false h; omega) | (rw [Bool.and_true] at h; have := of_decide_eq_false h; omega)
  · refine spI (fun h => ?_) (fun _ => .inr ⟨(all, 0), ha, by repeat' (first | trivial | exact rfl | exact fun _ _ => trivial | exact fun _ _ => rfl | apply And.intro)⟩)
    have := of_decide_eq_true h; omega
def spk4_c_V (x : SpX) (all : List Int) : Prop :=
  sp (decide (4 < (↑x.xs.length : Int))) (sp (decide (4 < (↑x.xs.length : Int)) && true) (sp (decide (4 < x.xs.length)) ((x.N ≤ 512 ∧ all.length = 64 * x.N ∧ 0 ≤ x.xs.getD 4 0 ∧ x.xs.getD 4 0 ≤ 512) ∧ [] ++ [AV.ptr 0 0 0, nI (x.xs.getD 4 0), AV.ptr 4 0 0] ++ [] = [AV.ptr 0 0 0, nI (x.xs.getD 4 0), AV.ptr 4 0 0] ∧ (some (bC [AV.sl 1 0 0 x.N x.N false]) = some (bC [AV.sl 1 0 0 x.N x.N false]) ∧ some (ABlk.mk true 1 (AC.recs x.N fun (i : Nat) => [AV.sl 2 (64 * i) 0 64 64 true])) = some (ABlk.mk true 1 (AC.recs x.N fun (i : Nat) => [AV.sl 2 (64 * i) 0 64 64 true])) ∧ some (bW all) = some (bW all) ∧ True) ∧ (∀ (y : List Int), y.length = 64 * x.N → (∃ (y_1 : List Int × Int), y_1.fst.length = 64 * x.N ∧ (AV.nilp = AV.nilp ∧ nI 1 = nI y_1.snd ∧ True) ∧ bC [AV.sl 1 0 0 x.N x.N false] = bC [AV.sl 1 0 0 x.N x.N false] ∧ (true = true ∧ 1 = 1 ∧ x.N = x.N ∧ ∀ (i : Nat), i < x.N → [AV.sl 2 (64 * i) 0 64
  64 true] = [AV.sl 2 (64 * i) 0 64 64 true]) ∧ bW y = bW y_1.fst ∧ True) ∨ ∃ (y : List Int × Int), y.fst.length = 64 * x.N ∧ False) ∧ (∀ (y : List Int), y.length = 64 * x.N → (∃ (y_1 : List Int × Int), y_1.fst.length = 64 * x.N ∧ (AV.nilp = AV.nilp ∧ nI 2 = nI y_1.snd ∧ True) ∧ bC [AV.sl 1 0 0 x.N x.N false] = bC [AV.sl 1 0 0 x.N x.N false] ∧ (true = true ∧ 1 = 1 ∧ x.N = x.N ∧ ∀ (i : Nat), i < x.N → [AV.sl 2 (64 * i) 0 64 64 true] = [AV.sl 2 (64 * i) 0 64 64 true]) ∧ bW y = bW y_1.fst ∧ True) ∨ ∃ (y : List Int × Int), y.fst.length = 64 * x.N ∧ False) ∧ (∀ (y : List Int), y.length = 64 * x.N → ∃ (j : SpI), ((j.x.N ≤ 512 ∧ 1 ≤ j.x.xs.length ∧ j.x.xs.length ≤ 8 ∧ (∀ (i : Nat), i < j.x.xs.length → 0 ≤ j.x.xs.getD i 0 ∧ j.x.xs.getD i 0 ≤ 512) ∧ 1 ≤ j.x.l.length ∧ j.x.l.length ≤ 64) ∧ j.all.length = 64 * j.x.N ∧ 5 ≤ j.x.xs.length) ∧ j.x.xs.length - 5 < x.xs.length - 4 ∧ j.x = x ∧ (AV.ptr 0 0 0 =
  AV.ptr 0 0 0 ∧ AV.ptr 4 0 0 = AV.ptr 4 0 0 ∧ AV.ptr 6 0 0 = AV.ptr 6 0 0 ∧ AV.sl 3 0 0 x.xs.length x.xs.length false = AV.sl 3 0 0 j.x.xs.length j.x.xs.length false ∧ nI (↑x.xs.length : Int) = nI (↑j.x.xs.length : Int) ∧ nI 5 = nI 5 ∧ True) ∧ bC [AV.sl 1 0 0 x.N x.N false] = bC [AV.sl 1 0 0 j.x.N j.x.N false] ∧ (true = true ∧ 1 = 1 ∧ x.N = j.x.N ∧ ∀ (i : Nat), i < x.N → [AV.sl 2 (64 * i) 0 64 64 true] = [AV.sl 2 (64 * i) 0 64 64 true]) ∧ bW y = bW j.all ∧ ABlk.mk true 1 (AC.ints IntKind.i64 x.xs) = ABlk.mk true 1 (AC.ints IntKind.i64 j.x.xs) ∧ ABlk.mk true 48 (AC.cells ((((((([AV.bool true, AV.ptr 0 0 0, AV.ptr 4 0 0, AV.ptr 9 0 0, AV.bool false, AV.bool false, nU 0, nU 0, AV.ptr 10 0 0, AV.bool false, AV.bool false, nU 0, nU 0, AV.ptr 11 0 0, AV.bool false, AV.bool false, nU 0, nU 0, AV.ptr 12 0 0, AV.bool false, AV.bool false, nU 0, nU 0, AV.nilp, AV.bool false, AV.bool false, nU 0, nU
  0, AV.nilp, AV.bool false, AV.bool false, nU 0, nU 0, AV.nilp, AV.bool false, AV.bool false, nU 0, nU 0, AV.nilp, AV.bool false, AV.bool false, nU 0, nU 0] ++ [AV.sl 8 0 0 4 4 false, AV.bool false, AV.sl 7 0 0 x.l.length x.l.length false, nI 0, nI 0]).set 23 (AV.ptr 13 0 0)).set 24 (AV.bool false)).set 25 (AV.bool false)).set 26 (nU 0)).set 27 (nU 0)).set 43 (AV.sl 15 0 0 5 5 false))) = ABlk.mk true 48 (AC.cells [AV.bool true, AV.ptr 0 0 0, AV.ptr 4 0 0, AV.ptr 9 0 0, AV.bool false, AV.bool false, nU 0, nU 0, AV.ptr 10 0 0, AV.bool false, AV.bool false, nU 0, nU 0, AV.ptr 11 0 0, AV.bool false, AV.bool false, nU 0, nU 0, AV.ptr 12 0 0, AV.bool false, AV.bool false, nU 0, nU 0, AV.ptr 13 0 0, AV.bool false, AV.bool false, nU 0, nU 0, AV.nilp, AV.bool false, AV.bool false, nU 0, nU 0, AV.nilp, AV.bool false, AV.bool false, nU 0, nU 0, AV.nilp, AV.bool false, AV.bool false, nU 0, nU 0, AV.sl
  15 0 0 5 5 false, AV.bool false, AV.sl 7 0 0 j.x.l.length j.x.l.length false, nI 0, nI 0]) ∧ ABlk.mk true 1 (AC.ints IntKind.i64 [0, 1, 2, 3, 4]) = ABlk.mk true 1 (AC.ints IntKind.i64 [0, 1, 2, 3, 4]) ∧ True) ∧ True) False) False) ((∃ (y : List Int × Int), y.fst.length = 64 * x.N ∧ False) ∨ ∃ (y : List Int × Int), y.fst.length = 64 * x.N ∧ (AV.ptr 6 0 0 = AV.ptr 6 0 0 ∧ True) ∧ bC [AV.sl 1 0 0 x.N x.N false] = bC [AV.sl 1 0 0 x.N x.N false] ∧ (true = true ∧ 1 = 1 ∧ x.N = x.N ∧ ∀ (i : Nat), i < x.N → [AV.sl 2 (64 * i) 0 64 64 true] = [AV.sl 2 (64 * i) 0 64 64 true]) ∧ bW all = bW y.fst ∧ True)
theorem spk4_c_e (x : SpX) (all : List Int) : some (spk4_c_V x all) = (some ((spL2 Go.Proofs.Tryz.prog).body sp Go.Proofs.Tryz.prog (shC.orc sp) (drPL sp Go.Proofs.Tryz.prog (shC.orc sp)) noLo 40 ⟨x, 4, all⟩)) := by kernel_rfl
set_option maxRecDepth 100000 in
theorem spk4_ok (x : SpX) (all : List Int) (hp : spP x) (ha : all.length = 64 * x.N) : spk4_c_V x all := by
  have hp' := hp
  obtain ⟨h1, h2, h3, h4, h5, h6⟩ := hp
  unfold spk4_c_V
  by_cases hk : 4 < x.xs.length
  · refine spI (fun _ => spI (fun _ => spI (fun _ => ⟨⟨h1, ha, (h4 4 hk).1, (h4 4 hk).2⟩, by first | trivial | rfl, by repeat' (first | trivial | exact rfl | exact fun _ _ => trivial | exact fun _ _ => rfl | apply And.intro), fun y hy => .inl ⟨(y, 1), hy, by repeat' (first | trivial | exact rfl | exact fun _ _ => trivial | exact fun _ _ => rfl | apply And.intro)⟩, fun y hy => .inl ⟨(y, 2), hy, by repeat' (first | trivial | exact rfl | exact fun _ _ => trivial | exact fun _ _ => rfl | apply And.intro)⟩, fun y hy => ⟨⟨x, 5, y⟩, ⟨hp', hy, hk⟩, (by show x.xs.length - 5 < x.xs.length - 4; omega), by repeat' (first | trivial | exact rfl | exact fun _ _ => trivial | exact fun _ _ => rfl | apply And.intro)⟩, trivial⟩) (fun h => ?_)) (fun h => ?_)) (fun h => ?_)
    all_goals first | (have := of_decide_eq_false h; omega) | (rw [Bool.and_true] at h; have := of_decide_eq_false h; omega)
  · refine spI (fun h => ?_) (fun _ => .inr ⟨(all, 0), ha, by repeat' (first | trivial | exact rfl | exact fun _ _ => trivial | exact fun _ _ => rfl | apply And.intro)⟩)
    have := of_decide_eq_true h; omega
def spk5_c_V (x : SpX) (all : List Int) : Prop :=
  sp (decide (5 < (↑x.xs.length : Int))) (sp (decide (5 < (↑x.xs.length : Int)) && true) (sp (decide (5 < x.xs.length)) ((x.N ≤ 512 ∧ all.length = 64 * x.N ∧ 0 ≤ x.xs.getD 5 0 ∧ x.xs.getD 5 0 ≤ 512) ∧ [] ++ [AV.ptr 0 0 0, nI (x.xs.getD 5 0), AV.ptr 4 0 0] ++ [] = [AV.ptr 0 0 0, nI (x.xs.getD 5 0), AV.ptr 4 0 0] ∧ (some (bC [AV.sl 1 0 0 x.N x.N false]) = some (bC [AV.sl 1 0 0 x.N x.N false]) ∧ some (ABlk.mk true 1 (AC.recs x.N fun (i : Nat) => [AV.sl 2 (64 * i) 0 64 64 true])) = some (ABlk.mk true 1 (AC.recs x.N fun (i : Nat) => [AV.sl 2 (64 * i) 0 64 64 true])) ∧ some (bW all) = some (bW all) ∧ True) ∧ (∀ (y : List Int), y.length = 64 * x.N → (∃ (y_1 : List Int × Int), y_1.fst.length = 64 * x.N ∧ (AV.nilp = AV.nilp ∧ nI 1 = nI y_1.snd ∧ True) ∧ bC [AV.sl 1 0 0 x.N x.N false] = bC [AV.sl 1 0 0 x.N x.N false] ∧ (true = true ∧ 1 = 1 ∧ x.N = x.N ∧ ∀ (i : Nat), i < x.N → [AV.sl 2 (64 * i) 0 64
  64 true] = [AV.sl 2 (64 * i) 0 64 64 true]) ∧ bW y = bW y_1.fst ∧ True) ∨ ∃ (y : List Int × Int), y.fst.length = 64 * x.N ∧ False) ∧ (∀ (y : List Int), y.length = 64 * x.N → (∃ (y_1 : List Int × Int), y_1.fst.length = 64 * x.N ∧ (AV.nilp = AV.nilp ∧ nI 2 = nI y_1.snd ∧ True) ∧ bC [AV.sl 1 0 0 x.N x.N false] = bC [AV.sl 1 0 0 x.N x.N false] ∧ (true = true ∧ 1 = 1 ∧ x.N = x.N ∧ ∀ (i : Nat), i < x.N → [AV.sl 2 (64 * i) 0 64 64 true] = [AV.sl 2 (64 * i) 0 64 64 true]) ∧ bW y = bW y_1.fst ∧ True) ∨ ∃ (y : List Int × Int), y.fst.length = 64 * x.N ∧ False) ∧ (∀ (y : List Int), y.length = 64 * x.N → ∃ (j : SpI), ((j.x.N ≤ 512 ∧ 1 ≤ j.x.xs.length ∧ j.x.xs.length ≤ 8 ∧ (∀ (i : Nat), i < j.x.xs.length → 0 ≤ j.x.xs.getD i 0 ∧ j.x.xs.getD i 0 ≤ 512) ∧ 1 ≤ j.x.l.length ∧ j.x.l.length ≤ 64) ∧ j.all.length = 64 * j.x.N ∧ 6 ≤ j.x.xs.length) ∧ j.x.xs.length - 6 < x.xs.length - 5 ∧ j.x = x ∧ (AV.ptr 0 0 0 =
  AV.ptr 0 0 0 ∧ AV.ptr 4 0 0 = AV.ptr 4 0 0 ∧ AV.ptr 6 0 0 = AV.ptr 6 0 0 ∧ AV.sl 3 0 0 x.xs.length x.xs.length false = AV.sl 3 0 0 j.x.xs.length j.x.xs.length false ∧ nI (↑x.xs.length : Int) = nI (↑j.x.xs.length : Int) ∧ nI 6 = nI 6 ∧ True) ∧ bC [AV.sl 1 0 0 x.N x.N false] = bC [AV.sl 1 0 0 j.x.N j.x.N false] ∧ (true = true ∧ 1 = 1 ∧ x.N = j.x.N ∧ ∀ (i : Nat), i < x.N → [AV.sl 2 (64 * i) 0 64 64 true] = [AV.sl 2 (64 * i) 0 64 64 true]) ∧ bW y = bW j.all ∧ ABlk.mk true 1 (AC.ints IntKind.i64 x.xs) = ABlk.mk true 1 (AC.ints IntKind.i64 j.x.xs) ∧ ABlk.mk true 48 (AC.cells ((((((([AV.bool true, AV.ptr 0 0 0, AV.ptr 4 0 0, AV.ptr 9 0 0, AV.bool false, AV.bool false, nU 0, nU 0, AV.ptr 10 0 0, AV.bool false, AV.bool false, nU 0, nU 0, AV.ptr 11 0 0, AV.bool false, AV.bool false, nU 0, nU 0, AV.ptr 12 0 0, AV.bool false, AV.bool false, nU 0, nU 0, AV.ptr 13 0 0, AV.bool false, AV.bool false, nU
  0, nU 0, AV.nilp, AV.bool false, AV.bool false, nU 0, nU 0, AV.nilp, AV.bool false, AV.bool false, nU 0, nU 0, AV.nilp, AV.bool false, AV.bool false, nU 0, nU 0] ++ [AV.sl 8 0 0 5 5 false, AV.bool false, AV.sl 7 0 0 x.l.length x.l.length false, nI 0, nI 0]).set 28 (AV.ptr 14 0 0)).set 29 (AV.bool false)).set 30 (AV.bool false)).set 31 (nU 0)).set 32 (nU 0)).set 43 (AV.sl 16 0 0 6 6 false))) = ABlk.mk true 48 (AC.cells [AV.bool true, AV.ptr 0 0 0, AV.ptr 4 0 0, AV.ptr 9 0 0, AV.bool false, AV.bool false, nU 0, nU 0, AV.ptr 10 0 0, AV.bool false, AV.bool false, nU 0, nU 0, AV.ptr 11 0 0, AV.bool false, AV.bool false, nU 0, nU 0, AV.ptr 12 0 0, AV.bool false, AV.bool false, nU 0, nU 0, AV.ptr 13 0 0, AV.bool false, AV.bool false, nU 0, nU 0, AV.ptr 14 0 0, AV.bool false, AV.bool false, nU 0, nU 0, AV.nilp, AV.bool false, AV.bool false, nU 0, nU 0, AV.nilp, AV.bool false, AV.bool false, nU 0,
  nU 0, AV.sl 16 0 0 6 6 false, AV.bool false, AV.sl 7 0 0 j.x.l.length j.x.l.length false, nI 0, nI 0]) ∧ ABlk.mk true 1 (AC.ints IntKind.i64 [0, 1, 2, 3, 4, 5]) = ABlk.mk true 1 (AC.ints IntKind.i64 [0, 1, 2, 3, 4, 5]) ∧ True) ∧ True) False) False) ((∃ (y : List Int × Int), y.fst.length = 64 * x.N ∧ False) ∨ ∃ (y : List Int × Int), y.fst.length = 64 * x.N ∧ (AV.ptr 6 0 0 = AV.ptr 6 0 0 ∧ True) ∧ bC [AV.sl 1 0 0 x.N x.N false] = bC [AV.sl 1 0 0 x.N x.N false] ∧ (true = true ∧ 1 = 1 ∧ x.N = x.N ∧ ∀ (i : Nat), i < x.N → [AV.sl 2 (64 * i) 0 64 64 true] = [AV.sl 2 (64 * i) 0 64 64 true]) ∧ bW all = bW y.fst ∧ True)
theorem spk5_c_e (x : SpX) (all : List Int) : some (spk5_c_V x all) = (some ((spL2 Go.Proofs.Tryz.prog).body sp Go.Proofs.Tryz.prog (shC.orc sp) (drPL sp Go.Proofs.Tryz.prog (shC.orc sp)) noLo 40 ⟨x, 5, all⟩)) := by kernel_rfl
set_option maxRecDepth 100000 in
theorem spk5_ok (x : SpX) (all : List Int) (hp : spP x) (ha : all.length = 64 * x.N) : spk5_c_V x all := by
  have hp' := hp
  obtain ⟨h1, h2, h3, h4, h5, h6⟩ := hp
  unfold spk5_c_V
  by_cases hk : 5 < x.xs.length
  · refine spI (fun _ => spI (fun _ => spI (fun _ => ⟨⟨h1, ha, (h4 5 hk).1, (h4 5 hk).2⟩, by first | trivial | rfl, by repeat' (first | trivial | exact rfl | exact fun _ _ => trivial | exact fun _ _ => rfl | apply And.intro), fun y hy => .inl ⟨(y, 1), hy, by repeat' (first | trivial | exact rfl | exact fun _ _ => trivial | exact fun _ _ => rfl | apply And.intro)⟩, fun y hy => .inl ⟨(y, 2), hy, by repeat' (first | trivial | exact rfl | exact fun _ _ => trivial | exact fun _ _ => rfl | apply And.intro)⟩, fun y hy => ⟨⟨x, 6, y⟩, ⟨hp', hy, hk⟩, (by show x.xs.length - 6 < x.xs.length - 5; omega), by repeat' (first | trivial | exact rfl | exact fun _ _ => trivial | exact fun _ _ => rfl | apply And.intro)⟩, trivial⟩) (fun h => ?_)) (fun h => ?_)) (fun h => ?_)
    all_goals first | (have := of_decide_eq_false h; omega) | (rw [Bool.and_true] at h; have := of_decide_eq_false h; omega)
  · refine spI (fun h => ?_) (fun _ => .inr ⟨(all, 0), ha, by repeat' (first | trivial | exact rfl | exact fun _ _ => trivial | exact fun _ _ => rfl | apply And.intro)⟩)
    have := of_decide_eq_true h; omega
def spk6_c_V (x : SpX) (all : List Int) : Prop :=
  sp (decide (6 < (↑x.xs.length : Int))) (sp (decide (6 < (↑x.xs.length : Int)) && true) (sp (decide (6 < x.xs.length)) ((x.N ≤ 512 ∧ all.length = 64 * x.N ∧ 0 ≤ x.xs.getD 6 0 ∧ x.xs.getD 6 0 ≤ 512) ∧ [] ++ [AV.ptr 0 0 0, nI (x.xs.getD 6 0), AV.ptr 4 0 0] ++ [] = [AV.ptr 0 0 0, nI (x.xs.getD 6 0), AV.ptr 4 0 0] ∧ (some (bC [AV.sl 1 0 0 x.N x.N false]) = some (bC [AV.sl 1 0 0 x.N x.N false]) ∧ some (ABlk.mk true 1 (AC.recs x.N fun (i : Nat) => [AV.sl 2 (64 * i) 0 64 64 true])) = some (ABlk.mk true 1 (AC.recs x.N fun (i : Nat) => [AV.sl 2 (64 * i) 0 64 64 true])) ∧ some (bW all) = some (bW all) ∧ True) ∧ (∀ (y : List Int), y.length = 64 * x.N → (∃ (y_1 : List Int × Int), y_1.fst.length = 64 * x.N ∧ (AV.nilp = AV.nilp ∧ nI 1 = nI y_1.snd ∧ True) ∧ bC [AV.sl 1 0 0 x.N x.N false] = bC [AV.sl 1 0 0 x.N x.N false] ∧ (true = true ∧ 1 = 1 ∧ x.N = x.N ∧ ∀ (i : Nat), i < x.N → [AV.sl 2 (64 * i) 0 64
  64 true] = [AV.sl 2 (64 * i) 0 64 64 true]) ∧ bW y = bW y_1.fst ∧ True) ∨ ∃ (y : List Int × Int), y.fst.length = 64 * x.N ∧ False) ∧ (∀ (y : List Int), y.length = 64 * x.N → (∃ (y_1 : List Int × Int), y_1.fst.length = 64 * x.N ∧ (AV.nilp = AV.nilp ∧ nI 2 = nI y_1.snd ∧ True) ∧ bC [AV.sl 1 0 0 x.N x.N false] = bC [AV.sl 1 0 0 x.N x.N false] ∧ (true = true ∧ 1 = 1 ∧ x.N = x.N ∧ ∀ (i : Nat), i < x.N → [AV.sl 2 (64 * i) 0 64 64 true] = [AV.sl 2 (64 * i) 0 64 64 true]) ∧ bW y = bW y_1.fst ∧ True) ∨ ∃ (y : List Int × Int), y.fst.length = 64 * x.N ∧ False) ∧ (∀ (y : List Int), y.length = 64 * x.N → ∃ (j : SpI), ((j.x.N ≤ 512 ∧ 1 ≤ j.x.xs.length ∧ j.x.xs.length ≤ 8 ∧ (∀ (i : Nat), i < j.x.xs.length → 0 ≤ j.x.xs.getD i 0 ∧ j.x.xs.getD i 0 ≤ 512) ∧ 1 ≤ j.x.l.length ∧ j.x.l.length ≤ 64) ∧ j.all.length = 64 * j.x.N ∧ 7 ≤ j.x.xs.length) ∧ j.x.xs.length - 7 < x.xs.length - 6 ∧ j.x = x ∧ (AV.ptr 0 0 0 =
  AV.ptr 0 0 0 ∧ AV.ptr 4 0 0 = AV.ptr 4 0 0 ∧ AV.ptr 6 0 0 = AV.ptr 6 0 0 ∧ AV.sl 3 0 0 x.xs.length x.xs.length false = AV.sl 3 0 0 j.x.xs.length j.x.xs.length false ∧ nI (↑x.xs.length : Int) = nI (↑j.x.xs.length : Int) ∧ nI 7 = nI 7 ∧ True) ∧ bC [AV.sl 1 0 0 x.N x.N false] = bC [AV.sl 1 0 0 j.x.N j.x.N false] ∧ (true = true ∧ 1 = 1 ∧ x.N = j.x.N ∧ ∀ (i : Nat), i < x.N → [AV.sl 2 (64 * i) 0 64 64 true] = [AV.sl 2 (64 * i) 0 64 64 true]) ∧ bW y = bW j.all ∧ ABlk.mk true 1 (AC.ints IntKind.i64 x.xs) = ABlk.mk true 1 (AC.ints IntKind.i64 j.x.xs) ∧ ABlk.mk true 48 (AC.cells ((((((([AV.bool true, AV.ptr 0 0 0, AV.ptr 4 0 0, AV.ptr 9 0 0, AV.bool false, AV.bool false, nU 0, nU 0, AV.ptr 10 0 0, AV.bool false, AV.bool false, nU 0, nU 0, AV.ptr 11 0 0, AV.bool false, AV.bool false, nU 0, nU 0, AV.ptr 12 0 0, AV.bool false, AV.bool false, nU 0, nU 0, AV.ptr 13 0 0, AV.bool false, AV.bool false, nU
  0, nU 0, AV.ptr 14 0 0, AV.bool false, AV.bool false, nU 0, nU 0, AV.nilp, AV.bool false, AV.bool false, nU 0, nU 0, AV.nilp, AV.bool false, AV.bool false, nU 0, nU 0] ++ [AV.sl 8 0 0 6 6 false, AV.bool false, AV.sl 7 0 0 x.l.length x.l.length false, nI 0, nI 0]).set 33 (AV.ptr 15 0 0)).set 34 (AV.bool false)).set 35 (AV.bool false)).set 36 (nU 0)).set 37 (nU 0)).set 43 (AV.sl 17 0 0 7 7 false))) = ABlk.mk true 48 (AC.cells [AV.bool true, AV.ptr 0 0 0, AV.ptr 4 0 0, AV.ptr 9 0 0, AV.bool false, AV.bool false, nU 0, nU 0, AV.ptr 10 0 0, AV.bool false, AV.bool false, nU 0, nU 0, AV.ptr 11 0 0, AV.bool false, AV.bool false, nU 0, nU 0, AV.ptr 12 0 0, AV.bool false, AV.bool false, nU 0, nU 0, AV.ptr 13 0 0, AV.bool false, AV.bool false, nU 0, nU 0, AV.ptr 14 0 0, AV.bool false, AV.bool false, nU 0, nU 0, AV.ptr 15 0 0, AV.bool false, AV.bool false, nU 0, nU 0, AV.nilp, AV.bool false, AV.bool
  false, nU 0, nU 0, AV.sl 17 0 0 7 7 false, AV.bool false, AV.sl 7 0 0 j.x.l.length j.x.l.length false, nI 0, nI 0]) ∧ ABlk.mk true 1 (AC.ints IntKind.i64 [0, 1, 2, 3, 4, 5, 6]) = ABlk.mk true 1 (AC.ints IntKind.i64 [0, 1, 2, 3, 4, 5, 6]) ∧ True) ∧ True) False) False) ((∃ (y : List Int × Int), y.fst.length = 64 * x.N ∧ False) ∨ ∃ (y : List Int × Int), y.fst.length = 64 * x.N ∧ (AV.ptr 6 0 0 = AV.ptr 6 0 0 ∧ True) ∧ bC [AV.sl 1 0 0 x.N x.N false] = bC [AV.sl 1 0 0 x.N x.N false] ∧ (true = true ∧ 1 = 1 ∧ x.N = x.N ∧ ∀ (i : Nat), i < x.N → [AV.sl 2 (64 * i) 0 64 64 true] = [AV.sl 2 (64 * i) 0 64 64 true]) ∧ bW all = bW y.fst ∧ True)
theorem spk6_c_e (x : SpX) (all : List Int) : some (spk6_c_V x all) = (some ((spL2 Go.Proofs.Tryz.prog).body sp Go.Proofs.Tryz.prog (shC.orc sp) (drPL sp Go.Proofs.Tryz.prog (shC.orc sp)) noLo 40 ⟨x, 6, all⟩)) := by kernel_rfl
set_option maxRecDepth 100000 in
theorem spk6_ok (x : SpX) (all : List Int) (hp : spP x) (ha : all.length = 64 * x.N) : spk6_c_V x all := by
  have hp' := hp
  obtain ⟨h1, h2, h3, h4, h5, h6⟩ := hp
  unfold spk6_c_V
  by_cases hk : 6 < x.xs.length
  · refine spI (fun _ => spI (fun _ => spI (fun _ => ⟨⟨h1, ha, (h4 6 hk).1, (h4 6 hk).2⟩, by first | trivial | rfl, by repeat' (first | trivial | exact rfl | exact fun _ _ => trivial | exact fun _ _ => rfl | apply And.intro), fun y hy => .inl ⟨(y, 1), hy, by repeat' (first | trivial | exact rfl | exact fun _ _ => trivial | exact fun _ _ => rfl | apply And.intro)⟩, fun y hy => .inl ⟨(y, 2), hy, by repeat' (first | trivial | exact rfl | exact fun _ _ => trivial | exact fun _ _ => rfl | apply And.intro)⟩, fun y hy => ⟨⟨x, 7, y⟩, ⟨hp', hy, hk⟩, (by show x.xs.length - 7 < x.xs.length - 6; omega), by repeat' (first | trivial | exact rfl | exact fun _ _ => trivial | exact fun _ _ => rfl | apply And.intro)⟩, trivial⟩) (fun h => ?_)) (fun h => ?_)) (fun h => ?_)
    all_goals first | (have := of_decide_eq_false h; omega) | (rw [Bool.and_true] at h; have := of_decide_eq_false h; omega)
  · refine spI (fun h => ?_) (fun _ => .inr ⟨(all, 0), ha, by repeat' (first | trivial | exact rfl | exact fun _ _ => trivial | exact fun _ _ => rfl | apply And.intro)⟩)
    have := of_decide_eq_true h; omega
def spk7_c_V (x : SpX) (all : List Int) : Prop :=
  sp (decide (7 < (↑x.xs.length : Int))) (sp (decide (7 < (↑x.xs.length : Int)) && true) (sp (decide (7 < x.xs.length)) ((x.N ≤ 512 ∧ all.length = 64 * x.N ∧ 0 ≤ x.xs.getD 7 0 ∧ x.xs.getD 7 0 ≤ 512) ∧ [] ++ [AV.ptr 0 0 0, nI (x.xs.getD 7 0), AV.ptr 4 0 0] ++ [] = [AV.ptr 0 0 0, nI (x.xs.getD 7 0), AV.ptr 4 0 0] ∧ (some (bC [AV.sl 1 0 0 x.N x.N false]) = some (bC [AV.sl 1 0 0 x.N x.N false]) ∧ some (ABlk.mk true 1 (AC.recs x.N fun (i : Nat) => [AV.sl 2 (64 * i) 0 64 64 true])) = some (ABlk.mk true 1 (AC.recs x.N fun (i : Nat) => [AV.sl 2 (64 * i) 0 64 64 true])) ∧ some (bW all) = some (bW all) ∧ True) ∧ (∀ (y : List Int), y.length = 64 * x.N → (∃ (y_1 : List Int × Int), y_1.fst.length = 64 * x.N ∧ (AV.nilp = AV.nilp ∧ nI 1 = nI y_1.snd ∧ True) ∧ bC [AV.sl 1 0 0 x.N x.N false] = bC [AV.sl 1 0 0 x.N x.N false] ∧ (true = true ∧ 1 = 1 ∧ x.N = x.N ∧ ∀ (i : Nat), i < x.N → [AV.sl 2 (64 * i) 0 64
  64 true] = [AV.sl 2 (64 * i) 0 64 64 true]) ∧ bW y = bW y_1.fst ∧ True) ∨ ∃ (y : List Int × Int), y.fst.length = 64 * x.N ∧ False) ∧ (∀ (y : List Int), y.length = 64 * x.N → (∃ (y_1 : List Int × Int), y_1.fst.length = 64 * x.N ∧ (AV.nilp = AV.nilp ∧ nI 2 = nI y_1.snd ∧ True) ∧ bC [AV.sl 1 0 0 x.N x.N false] = bC [AV.sl 1 0 0 x.N x.N false] ∧ (true = true ∧ 1 = 1 ∧ x.N = x.N ∧ ∀ (i : Nat), i < x.N → [AV.sl 2 (64 * i) 0 64 64 true] = [AV.sl 2 (64 * i) 0 64 64 true]) ∧ bW y = bW y_1.fst ∧ True) ∨ ∃ (y : List Int × Int), y.fst.length = 64 * x.N ∧ False) ∧ (∀ (y : List Int), y.length = 64 * x.N → ∃ (j : SpI), ((j.x.N ≤ 512 ∧ 1 ≤ j.x.xs.length ∧ j.x.xs.length ≤ 8 ∧ (∀ (i : Nat), i < j.x.xs.length → 0 ≤ j.x.xs.getD i 0 ∧ j.x.xs.getD i 0 ≤ 512) ∧ 1 ≤ j.x.l.length ∧ j.x.l.length ≤ 64) ∧ j.all.length = 64 * j.x.N ∧ 8 ≤ j.x.xs.length) ∧ j.x.xs.length - 8 < x.xs.length - 7 ∧ j.x = x ∧ (AV.ptr 0 0 0 =
  AV.ptr 0 0 0 ∧ AV.ptr 4 0 0 = AV.ptr 4 0 0 ∧ AV.ptr 6 0 0 = AV.ptr 6 0 0 ∧ AV.sl 3 0 0 x.xs.length x.xs.length false = AV.sl 3 0 0 j.x.xs.length j.x.xs.length false ∧ nI (↑x.xs.length : Int) = nI (↑j.x.xs.length : Int) ∧ nI 8 = nI 8 ∧ True) ∧ bC [AV.sl 1 0 0 x.N x.N false] = bC [AV.sl 1 0 0 j.x.N j.x.N false] ∧ (true = true ∧ 1 = 1 ∧ x.N = j.x.N ∧ ∀ (i : Nat), i < x.N → [AV.sl 2 (64 * i) 0 64 64 true] = [AV.sl 2 (64 * i) 0 64 64 true]) ∧ bW y = bW j.all ∧ ABlk.mk true 1 (AC.ints IntKind.i64 x.xs) = ABlk.mk true 1 (AC.ints IntKind.i64 j.x.xs) ∧ ABlk.mk true 48 (AC.cells ((((((([AV.bool true, AV.ptr 0 0 0, AV.ptr 4 0 0, AV.ptr 9 0 0, AV.bool false, AV.bool false, nU 0, nU 0, AV.ptr 10 0 0, AV.bool false, AV.bool false, nU 0, nU 0, AV.ptr 11 0 0, AV.bool false, AV.bool false, nU 0, nU 0, AV.ptr 12 0 0, AV.bool false, AV.bool false, nU 0, nU 0, AV.ptr 13 0 0, AV.bool false, AV.bool false, nU
  0, nU 0, AV.ptr 14 0 0, AV.bool false, AV.bool false, nU 0, nU 0, AV.ptr 15 0 0, AV.bool false, AV.bool false, nU 0, nU 0, AV.nilp, AV.bool false, AV.bool false, nU 0, nU 0] ++ [AV.sl 8 0 0 7 7 false, AV.bool false, AV.sl 7 0 0 x.l.length x.l.length false, nI 0, nI 0]).set 38 (AV.ptr 16 0 0)).set 39 (AV.bool false)).set 40 (AV.bool false)).set 41 (nU 0)).set 42 (nU 0)).set 43 (AV.sl 18 0 0 8 8 false))) = ABlk.mk true 48 (AC.cells [AV.bool true, AV.ptr 0 0 0, AV.ptr 4 0 0, AV.ptr 9 0 0, AV.bool false, AV.bool false, nU 0, nU 0, AV.ptr 10 0 0, AV.bool false, AV.bool false, nU 0, nU 0, AV.ptr 11 0 0, AV.bool false, AV.bool false, nU 0, nU 0, AV.ptr 12 0 0, AV.bool false, AV.bool false, nU 0, nU 0, AV.ptr 13 0 0, AV.bool false, AV.bool false, nU 0, nU 0, AV.ptr 14 0 0, AV.bool false, AV.bool false, nU 0, nU 0, AV.ptr 15 0 0, AV.bool false, AV.bool false, nU 0, nU 0, AV.ptr 16 0 0, AV.bool
  false, AV.bool false, nU 0, nU 0, AV.sl 18 0 0 8 8 false, AV.bool false, AV.sl 7 0 0 j.x.l.length j.x.l.length false, nI 0, nI 0]) ∧ ABlk.mk true 1 (AC.ints IntKind.i64 [0, 1, 2, 3, 4, 5, 6, 7]) = ABlk.mk true 1 (AC.ints IntKind.i64 [0, 1, 2, 3, 4, 5, 6, 7]) ∧ True) ∧ True) False) False) ((∃ (y : List Int × Int), y.fst.length = 64 * x.N ∧ False) ∨ ∃ (y : List Int × Int), y.fst.length = 64 * x.N ∧ (AV.ptr 6 0 0 = AV.ptr 6 0 0 ∧ True) ∧ bC [AV.sl 1 0 0 x.N x.N false] = bC [AV.sl 1 0 0 x.N x.N false] ∧ (true = true ∧ 1 = 1 ∧ x.N = x.N ∧ ∀ (i : Nat), i < x.N → [AV.sl 2 (64 * i) 0 64 64 true] = [AV.sl 2 (64 * i) 0 64 64 true]) ∧ bW all = bW y.fst ∧ True)
theorem spk7_c_e (x : SpX) (all : List Int) : some (spk7_c_V x all) = (some ((spL2 Go.Proofs.Tryz.prog).body sp Go.Proofs.Tryz.prog (shC.orc sp) (drPL sp Go.Proofs.Tryz.prog (shC.orc sp)) noLo 40 ⟨x, 7, all⟩)) := by kernel_rfl
set_option maxRecDepth 100000 in
theorem spk7_ok (x : SpX) (all : List Int) (hp : spP x) (ha : all.length = 64 * x.N) : spk7_c_V x all := by
  have hp' := hp
  obtain ⟨h1, h2, h3, h4, h5, h6⟩ := hp
  unfold spk7_c_V
  by_cases hk : 7 < x.xs.length
  · refine spI (fun _ => spI (fun _ => spI (fun _ => ⟨⟨h1, ha, (h4 7 hk).1, (h4 7 hk).2⟩, by first | trivial | rfl, by repeat' (first | trivial | exact rfl | exact fun _ _ => trivial | exact fun _ _ => rfl | apply And.intro), fun y hy => .inl ⟨(y, 1), hy, by repeat' (first | trivial | exact rfl | exact fun _ _ => trivial | exact fun _ _ => rfl | apply And.intro)⟩, fun y hy => .inl ⟨(y, 2), hy, by repeat' (first | trivial | exact rfl | exact fun _ _ => trivial | exact fun _ _ => rfl | apply And.intro)⟩, fun y hy => ⟨⟨x, 8, y⟩, ⟨hp', hy, hk⟩, (by show x.xs.length - 8 < x.xs.length - 7; omega), by repeat' (first | trivial | exact rfl | exact fun _ _ => trivial | exact fun _ _ => rfl | apply And.intro)⟩, trivial⟩) (fun h => ?_)) (fun h => ?_)) (fun h => ?_)
    all_goals first | (have := of_decide_eq_false h; omega) | (rw [Bool.and_true] at h; have := of_decide_eq_false h; omega)
  · refine spI (fun h => ?_) (fun _ => .inr ⟨(all, 0), ha, by repeat' (first | trivial | exact rfl | exact fun _ _ => trivial | exact fun _ _ => rfl | apply And.intro)⟩)
    have := of_decide_eq_true h; omega
def spk8_c_V (x : SpX) (all : List Int) : Prop :=
  sp (decide (8 < (↑x.xs.length : Int))) (sp (decide (8 < (↑x.xs.length : Int)) && true) (sp (decide (8 < x.xs.length)) ((x.N ≤ 512 ∧ all.length = 64 * x.N ∧ 0 ≤ x.xs.getD 8 0 ∧ x.xs.getD 8 0 ≤ 512) ∧ [] ++ [AV.ptr 0 0 0, nI (x.xs.getD 8 0), AV.ptr 4 0 0] ++ [] = [AV.ptr 0 0 0, nI (x.xs.getD 8 0), AV.ptr 4 0 0] ∧ (some (bC [AV.sl 1 0 0 x.N x.N false]) = some (bC [AV.sl 1 0 0 x.N x.N false]) ∧ some (ABlk.mk true 1 (AC.recs x.N fun (i : Nat) => [AV.sl 2 (64 * i) 0 64 64 true])) = some (ABlk.mk true 1 (AC.recs x.N fun (i : Nat) => [AV.sl 2 (64 * i) 0 64 64 true])) ∧ some (bW all) = some (bW all) ∧ True) ∧ (∀ (y : List Int), y.length = 64 * x.N → (∃ (y_1 : List Int × Int), y_1.fst.length = 64 * x.N ∧ (AV.nilp = AV.nilp ∧ nI 1 = nI y_1.snd ∧ True) ∧ bC [AV.sl 1 0 0 x.N x.N false] = bC [AV.sl 1 0 0 x.N x.N false] ∧ (true = true ∧ 1 = 1 ∧ x.N = x.N ∧ ∀ (i : Nat), i < x.N → [AV.sl 2 (64 * i) 0 64
  64 true] = [AV.sl 2 (64 * i) 0 64 64 true]) ∧ bW y = bW y_1.fst ∧ True) ∨ ∃ (y : List Int × Int), y.fst.length = 64 * x.N ∧ False) ∧ (∀ (y : List Int), y.length = 64 * x.N → (∃ (y_1 : List Int × Int), y_1.fst.length = 64 * x.N ∧ (AV.nilp = AV.nilp ∧ nI 2 = nI y_1.snd ∧ True) ∧ bC [AV.sl 1 0 0 x.N x.N false] = bC [AV.sl 1 0 0 x.N x.N false] ∧ (true = true ∧ 1 = 1 ∧ x.N = x.N ∧ ∀ (i : Nat), i < x.N → [AV.sl 2 (64 * i) 0 64 64 true] = [AV.sl 2 (64 * i) 0 64 64 true]) ∧ bW y = bW y_1.fst ∧ True) ∨ ∃ (y : List Int × Int), y.fst.length = 64 * x.N ∧ False) ∧ (∀ (y : List Int), y.length = 64 * x.N → False) ∧ True) False) False) ((∃ (y : List Int × Int), y.fst.length = 64 * x.N ∧ False) ∨ ∃ (y : List Int × Int), y.fst.length = 64 * x.N ∧ (AV.ptr 6 0 0 = AV.ptr 6 0 0 ∧ True) ∧ bC [AV.sl 1 0 0 x.N x.N false] = bC [AV.sl 1 0 0 x.N x.N false] ∧ (true = true ∧ 1 = 1 ∧ x.N = x.N ∧ ∀ (i : Nat), i < x.N →
  [AV.sl 2 (64 * i) 0 64 64 true] = [AV.sl 2 (64 * i) 0 64 64 true]) ∧ bW all = bW y.fst ∧ True)
theorem spk8_c_e (x : SpX) (all : List Int) : some (spk8_c_V x all) = (some ((spL2 Go.Proofs.Tryz.prog).body sp Go.Proofs.Tryz.prog (shC.orc sp) (drPL sp Go.Proofs.Tryz.prog (shC.orc sp)) noLo 40 ⟨x, 8, all⟩)) := by kernel_rfl
set_option maxRecDepth 100000 in
theorem spk8_ok (x : SpX) (all : List Int) (hp : spP x) (ha : all.length = 64 * x.N) : spk8_c_V x all := by
  have hp' := hp
  obtain ⟨h1, h2, h3, h4, h5, h6⟩ := hp
  unfold spk8_c_V
  refine spI (fun h => ?_) (fun _ => .inr ⟨(all, 0), ha, by repeat' (first | trivial | exact rfl | exact fun _ _ => trivial | exact fun _ _ => rfl | apply And.intro)⟩)
  have := of_decide_eq_true h; omega
theorem spL2_ok : (spL2 Go.Proofs.Tryz.prog).OK Go.Proofs.Tryz.prog := by
  refine LpM.ok_of (Con.orc_ok shC_ok) (drPL_ok hmix _ (Con.orc_ok shC_ok)) (noLo_ok _) (by decide) 40 (fun i hi => ?_)
  obtain ⟨x, k, all⟩ := i
  obtain ⟨hp, ha, hk⟩ := hi
  have hk : k ≤ x.xs.length := hk
  have h8 := hp.2.2.1
  have h8 : x.xs.length ≤ 8 := h8
  match k, (show k ≤ 8 by omega) with
  | 0, _ => rw [← Option.some.inj (spk0_c_e x all)]; exact spk0_ok x all hp ha
  | 1, _ => rw [← Option.some.inj (spk1_c_e x all)]; exact spk1_ok x all hp ha
  | 2, _ => rw [← Option.some.inj (spk2_c_e x all)]; exact spk2_ok x all hp ha
  | 3, _ => rw [← Option.some.inj (spk3_c_e x all)]; exact spk3_ok x all hp ha
  | 4, _ => rw [← Option.some.inj (spk4_c_e x all)]; exact spk4_ok x all hp ha
  | 5, _ => rw [← Option.some.inj (spk5_c_e x all)]; exact spk5_ok x all hp ha
  | 6, _ => rw [← Option.some.inj (spk6_c_e x all)]; exact spk6_ok x all hp ha
  | 7, _ => rw [← Option.some.inj (spk7_c_e x all)]; exact spk7_ok x all hp ha
  | 8, _ => rw [← Option.some.inj (spk8_c_e x all)]; exact spk8_ok x all hp ha
def spC_c_V (x : SpY) : Prop :=
  x.x.N.le 512 ∧ [AV.ptr 0 0 0] = [AV.ptr 0 0 0] ∧ (some (bC [AV.sl 1 0 0 x.x.N x.x.N false]) = some (bC [AV.sl 1 0 0 x.x.N x.x.N false]) ∧ True) ∧ (∀ (y : Unit), True → sp ((↑(64 * x.x.N) : Int) == 0) ((∃ (y : List Int × Int), y.fst.length = 64 * x.x.N ∧ [AV.tup [AV.nilp, nI 1]] = [AV.tup [AV.nilp, nI y.snd]] ∧ bC [AV.sl 1 0 0 x.x.N x.x.N false] = bC [AV.sl 1 0 0 x.x.N x.x.N false] ∧ (true = true ∧ 1 = 1 ∧ x.x.N = x.x.N ∧ ∀ (i : Nat), i < x.x.N → [AV.sl 2 (64 * i) 0 64 64 true] = [AV.sl 2 (64 * i) 0 64 64 true]) ∧ bW x.all = bW y.fst ∧ True) ∨ ∃ (y : List Int × Int), y.fst.length = 64 * x.x.N ∧ [AV.tup [AV.nilp, nI 1]] = [AV.tup [AV.ptr 6 0 0, nI 0]] ∧ bC [AV.sl 1 0 0 x.x.N x.x.N false] = bC [AV.sl 1 0 0 x.x.N x.x.N false] ∧ (true = true ∧ 1 = 1 ∧ x.x.N = x.x.N ∧ ∀ (i : Nat), i < x.x.N → [AV.sl 2 (64 * i) 0 64 64 true] = [AV.sl 2 (64 * i) 0 64 64 true]) ∧ bW x.all = bW y.fst ∧ True) (sp
  ((↑x.x.xs.length : Int) == 0) ((∃ (y : List Int × Int), y.fst.length = 64 * x.x.N ∧ [AV.tup [AV.nilp, nI 2]] = [AV.tup [AV.nilp, nI y.snd]] ∧ bC [AV.sl 1 0 0 x.x.N x.x.N false] = bC [AV.sl 1 0 0 x.x.N x.x.N false] ∧ (true = true ∧ 1 = 1 ∧ x.x.N = x.x.N ∧ ∀ (i : Nat), i < x.x.N → [AV.sl 2 (64 * i) 0 64 64 true] = [AV.sl 2 (64 * i) 0 64 64 true]) ∧ bW x.all = bW y.fst ∧ True) ∨ ∃ (y : List Int × Int), y.fst.length = 64 * x.x.N ∧ [AV.tup [AV.nilp, nI 2]] = [AV.tup [AV.ptr 6 0 0, nI 0]] ∧ bC [AV.sl 1 0 0 x.x.N x.x.N false] = bC [AV.sl 1 0 0 x.x.N x.x.N false] ∧ (true = true ∧ 1 = 1 ∧ x.x.N = x.x.N ∧ ∀ (i : Nat), i < x.x.N → [AV.sl 2 (64 * i) 0 64 64 true] = [AV.sl 2 (64 * i) 0 64 64 true]) ∧ bW x.all = bW y.fst ∧ True) (sp (bif false then true else decide ((↑x.x.xs.length : Int) > 8)) ((∃ (y : List Int × Int), y.fst.length = 64 * x.x.N ∧ [AV.tup [AV.nilp, nI 2]] = [AV.tup [AV.nilp, nI y.snd]]
  ∧ bC [AV.sl 1 0 0 x.x.N x.x.N false] = bC [AV.sl 1 0 0 x.x.N x.x.N false] ∧ (true = true ∧ 1 = 1 ∧ x.x.N = x.x.N ∧ ∀ (i : Nat), i < x.x.N → [AV.sl 2 (64 * i) 0 64 64 true] = [AV.sl 2 (64 * i) 0 64 64 true]) ∧ bW x.all = bW y.fst ∧ True) ∨ ∃ (y : List Int × Int), y.fst.length = 64 * x.x.N ∧ [AV.tup [AV.nilp, nI 2]] = [AV.tup [AV.ptr 6 0 0, nI 0]] ∧ bC [AV.sl 1 0 0 x.x.N x.x.N false] = bC [AV.sl 1 0 0 x.x.N x.x.N false] ∧ (true = true ∧ 1 = 1 ∧ x.x.N = x.x.N ∧ ∀ (i : Nat), i < x.x.N → [AV.sl 2 (64 * i) 0 64 64 true] = [AV.sl 2 (64 * i) 0 64 64 true]) ∧ bW x.all = bW y.fst ∧ True) (sp (bif false then true else decide ((↑x.x.l.length : Int) > 16)) ((∃ (y : List Int × Int), y.fst.length = 64 * x.x.N ∧ [AV.tup [AV.nilp, nI 2]] = [AV.tup [AV.nilp, nI y.snd]] ∧ bC [AV.sl 1 0 0 x.x.N x.x.N false] = bC [AV.sl 1 0 0 x.x.N x.x.N false] ∧ (true = true ∧ 1 = 1 ∧ x.x.N = x.x.N ∧ ∀ (i : Nat), i < x.x.N →
  [AV.sl 2 (64 * i) 0 64 64 true] = [AV.sl 2 (64 * i) 0 64 64 true]) ∧ bW x.all = bW y.fst ∧ True) ∨ ∃ (y : List Int × Int), y.fst.length = 64 * x.x.N ∧ [AV.tup [AV.nilp, nI 2]] = [AV.tup [AV.ptr 6 0 0, nI 0]] ∧ bC [AV.sl 1 0 0 x.x.N x.x.N false] = bC [AV.sl 1 0 0 x.x.N x.x.N false] ∧ (true = true ∧ 1 = 1 ∧ x.x.N = x.x.N ∧ ∀ (i : Nat), i < x.x.N → [AV.sl 2 (64 * i) 0 64 64 true] = [AV.sl 2 (64 * i) 0 64 64 true]) ∧ bW x.all = bW y.fst ∧ True) (same (loopOf Proofs.Tryz.prog F_spaces_New 0) (loopOf Proofs.Tryz.prog F_spaces_New 0) ∧ ((x.x.N ≤ 512 ∧ 1 ≤ x.x.xs.length ∧ x.x.xs.length ≤ 8 ∧ (∀ (i : Nat), i < x.x.xs.length → 0 ≤ x.x.xs.getD i 0 ∧ x.x.xs.getD i 0 ≤ 512) ∧ 1 ≤ x.x.l.length ∧ x.x.l.length ≤ 64) ∧ x.all.length = 64 * x.x.N ∧ 0 ≤ x.x.xs.length) ∧ ((AV.ptr 0 0 0 = AV.ptr 0 0 0 ∧ AV.sl 3 0 0 x.x.xs.length x.x.xs.length false = AV.sl 3 0 0 x.x.xs.length x.x.xs.length false ∧ AV.ptr 4 0 0
  = AV.ptr 4 0 0 ∧ AV.sl 5 0 0 x.x.l.length x.x.l.length false = AV.sl 5 0 0 x.x.l.length x.x.l.length false ∧ AV.sl 3 0 0 x.x.xs.length x.x.xs.length false = AV.sl 3 0 0 x.x.xs.length x.x.xs.length false ∧ nI (↑x.x.xs.length : Int) = nI (↑x.x.xs.length : Int) ∧ nI 0 = nI 0 ∧ True) ∧ bC [AV.sl 1 0 0 x.x.N x.x.N false] = bC [AV.sl 1 0 0 x.x.N x.x.N false] ∧ (true = true ∧ 1 = 1 ∧ x.x.N = x.x.N ∧ ∀ (i : Nat), i < x.x.N → [AV.sl 2 (64 * i) 0 64 64 true] = [AV.sl 2 (64 * i) 0 64 64 true]) ∧ bW x.all = bW x.all ∧ ABlk.mk true 1 (AC.ints IntKind.i64 x.x.xs) = ABlk.mk true 1 (AC.ints IntKind.i64 x.x.xs) ∧ ABlk.mk true 1 (AC.ints IntKind.u32 x.x.l) = ABlk.mk true 1 (AC.ints IntKind.u32 x.x.l) ∧ True) ∧ ∀ (y : Unit), True → (1 ≤ x.x.xs.length ∧ x.x.xs.length ≤ 64) ∧ [] ++ [AV.sl 3 0 0 x.x.xs.length x.x.xs.length false] ++ [] = [AV.sl 3 0 0 x.x.xs.length x.x.xs.length false] ∧ (some (ABlk.mk true 1
  (AC.ints IntKind.i64 x.x.xs)) = some (ABlk.mk true 1 (AC.ints IntKind.i64 x.x.xs)) ∧ True) ∧ (∀ (y : Bool), True → sp (!y) ((∃ (y : List Int × Int), y.fst.length = 64 * x.x.N ∧ [AV.tup [AV.nilp, nI 2]] = [AV.tup [AV.nilp, nI y.snd]] ∧ bC [AV.sl 1 0 0 x.x.N x.x.N false] = bC [AV.sl 1 0 0 x.x.N x.x.N false] ∧ (true = true ∧ 1 = 1 ∧ x.x.N = x.x.N ∧ ∀ (i : Nat), i < x.x.N → [AV.sl 2 (64 * i) 0 64 64 true] = [AV.sl 2 (64 * i) 0 64 64 true]) ∧ bW x.all = bW y.fst ∧ True) ∨ ∃ (y : List Int × Int), y.fst.length = 64 * x.x.N ∧ [AV.tup [AV.nilp, nI 2]] = [AV.tup [AV.ptr 6 0 0, nI 0]] ∧ bC [AV.sl 1 0 0 x.x.N x.x.N false] = bC [AV.sl 1 0 0 x.x.N x.x.N false] ∧ (true = true ∧ 1 = 1 ∧ x.x.N = x.x.N ∧ ∀ (i : Nat), i < x.x.N → [AV.sl 2 (64 * i) 0 64 64 true] = [AV.sl 2 (64 * i) 0 64 64 true]) ∧ bW x.all = bW y.fst ∧ True) ((1 ≤ x.x.xs.length ∧ x.x.xs.length ≤ 64) ∧ [] ++ [AV.sl 3 0 0 x.x.xs.length
  x.x.xs.length false] ++ [] = [AV.sl 3 0 0 x.x.xs.length x.x.xs.length false] ∧ (some (ABlk.mk true 1 (AC.ints IntKind.i64 x.x.xs)) = some (ABlk.mk true 1 (AC.ints IntKind.i64 x.x.xs)) ∧ True) ∧ (∀ (y : Int), True → x.x.N.le 512 ∧ [AV.ptr 0 0 0] = [AV.ptr 0 0 0] ∧ (some (bC [AV.sl 1 0 0 x.x.N x.x.N false]) = some (bC [AV.sl 1 0 0 x.x.N x.x.N false]) ∧ True) ∧ (∀ (y_1 : Unit), True → sp (bif false then true else decide (y ≥ IntKind.i64.wrap (IntKind.i64.wrap ((IntKind.i64.wrap (↑(64 * x.x.N) : Int)).tdiv 64) - 1))) ((∃ (y : List Int × Int), y.fst.length = 64 * x.x.N ∧ [AV.tup [AV.nilp, nI 2]] = [AV.tup [AV.nilp, nI y.snd]] ∧ bC [AV.sl 1 0 0 x.x.N x.x.N false] = bC [AV.sl 1 0 0 x.x.N x.x.N false] ∧ (true = true ∧ 1 = 1 ∧ x.x.N = x.x.N ∧ ∀ (i : Nat), i < x.x.N → [AV.sl 2 (64 * i) 0 64 64 true] = [AV.sl 2 (64 * i) 0 64 64 true]) ∧ bW x.all = bW y.fst ∧ True) ∨ ∃ (y : List Int × Int),
  y.fst.length = 64 * x.x.N ∧ [AV.tup [AV.nilp, nI 2]] = [AV.tup [AV.ptr 6 0 0, nI 0]] ∧ bC [AV.sl 1 0 0 x.x.N x.x.N false] = bC [AV.sl 1 0 0 x.x.N x.x.N false] ∧ (true = true ∧ 1 = 1 ∧ x.x.N = x.x.N ∧ ∀ (i : Nat), i < x.x.N → [AV.sl 2 (64 * i) 0 64 64 true] = [AV.sl 2 (64 * i) 0 64 64 true]) ∧ bW x.all = bW y.fst ∧ True) ((1 ≤ x.x.l.length ∧ x.x.l.length ≤ 64) ∧ [] ++ [AV.sl 5 0 0 x.x.l.length x.x.l.length false] ++ [] = [AV.sl 5 0 0 x.x.l.length x.x.l.length false] ∧ (some (ABlk.mk true 1 (AC.ints IntKind.u32 x.x.l)) = some (ABlk.mk true 1 (AC.ints IntKind.u32 x.x.l)) ∧ True) ∧ (∀ (y : Unit), True → same (loopOf Proofs.Tryz.prog F_spaces_New 1) (loopOf Proofs.Tryz.prog F_spaces_New 1) ∧ ((x.x.N ≤ 512 ∧ 1 ≤ x.x.xs.length ∧ x.x.xs.length ≤ 8 ∧ (∀ (i : Nat), i < x.x.xs.length → 0 ≤ x.x.xs.getD i 0 ∧ x.x.xs.getD i 0 ≤ 512) ∧ 1 ≤ x.x.l.length ∧ x.x.l.length ≤ 64) ∧ x.all.length = 64 * x.x.N ∧
  0 ≤ x.x.xs.length) ∧ ((AV.ptr 0 0 0 = AV.ptr 0 0 0 ∧ AV.ptr 4 0 0 = AV.ptr 4 0 0 ∧ AV.ptr 7 0 0 = AV.ptr 7 0 0 ∧ AV.sl 3 0 0 x.x.xs.length x.x.xs.length false = AV.sl 3 0 0 x.x.xs.length x.x.xs.length false ∧ nI (↑x.x.xs.length : Int) = nI (↑x.x.xs.length : Int) ∧ nI 0 = nI 0 ∧ True) ∧ bC [AV.sl 1 0 0 x.x.N x.x.N false] = bC [AV.sl 1 0 0 x.x.N x.x.N false] ∧ (true = true ∧ 1 = 1 ∧ x.x.N = x.x.N ∧ ∀ (i : Nat), i < x.x.N → [AV.sl 2 (64 * i) 0 64 64 true] = [AV.sl 2 (64 * i) 0 64 64 true]) ∧ bW x.all = bW x.all ∧ ABlk.mk true 1 (AC.ints IntKind.i64 x.x.xs) = ABlk.mk true 1 (AC.ints IntKind.i64 x.x.xs) ∧ ABlk.mk true [AV.bool true, AV.ptr 0 0 0, AV.ptr 4 0 0, AV.nilp, AV.bool false, AV.bool false, nU 0, nU 0, AV.nilp, AV.bool false, AV.bool false, nU 0, nU 0, AV.nilp, AV.bool false, AV.bool false, nU 0, nU 0, AV.nilp, AV.bool false, AV.bool false, nU 0, nU 0, AV.nilp, AV.bool false, AV.bool
  false, nU 0, nU 0, AV.nilp, AV.bool false, AV.bool false, nU 0, nU 0, AV.nilp, AV.bool false, AV.bool false, nU 0, nU 0, AV.nilp, AV.bool false, AV.bool false, nU 0, nU 0, AV.nils, AV.bool false, AV.sl 6 0 0 x.x.l.length x.x.l.length false, nI 0, nI 0].length (AC.cells [AV.bool true, AV.ptr 0 0 0, AV.ptr 4 0 0, AV.nilp, AV.bool false, AV.bool false, nU 0, nU 0, AV.nilp, AV.bool false, AV.bool false, nU 0, nU 0, AV.nilp, AV.bool false, AV.bool false, nU 0, nU 0, AV.nilp, AV.bool false, AV.bool false, nU 0, nU 0, AV.nilp, AV.bool false, AV.bool false, nU 0, nU 0, AV.nilp, AV.bool false, AV.bool false, nU 0, nU 0, AV.nilp, AV.bool false, AV.bool false, nU 0, nU 0, AV.nilp, AV.bool false, AV.bool false, nU 0, nU 0, AV.nils, AV.bool false, AV.sl 6 0 0 x.x.l.length x.x.l.length false, nI 0, nI 0]) = ABlk.mk true 48 (AC.cells [AV.bool true, AV.ptr 0 0 0, AV.ptr 4 0 0, AV.nilp, AV.bool false,
  AV.bool false, nU 0, nU 0, AV.nilp, AV.bool false, AV.bool false, nU 0, nU 0, AV.nilp, AV.bool false, AV.bool false, nU 0, nU 0, AV.nilp, AV.bool false, AV.bool false, nU 0, nU 0, AV.nilp, AV.bool false, AV.bool false, nU 0, nU 0, AV.nilp, AV.bool false, AV.bool false, nU 0, nU 0, AV.nilp, AV.bool false, AV.bool false, nU 0, nU 0, AV.nilp, AV.bool false, AV.bool false, nU 0, nU 0, AV.nils, AV.bool false, AV.sl 6 0 0 x.x.l.length x.x.l.length false, nI 0, nI 0]) ∧ True) ∧ (∀ (y : List Int × Int), y.fst.length = 64 * x.x.N → (∃ (y_2 : List Int × Int), y_2.fst.length = 64 * x.x.N ∧ [AV.tup [AV.nilp, nI y.snd]] = [AV.tup [AV.nilp, nI y_2.snd]] ∧ bC [AV.sl 1 0 0 x.x.N x.x.N false] = bC [AV.sl 1 0 0 x.x.N x.x.N false] ∧ (true = true ∧ 1 = 1 ∧ x.x.N = x.x.N ∧ ∀ (i : Nat), i < x.x.N → [AV.sl 2 (64 * i) 0 64 64 true] = [AV.sl 2 (64 * i) 0 64 64 true]) ∧ bW y.fst = bW y_2.fst ∧ True) ∨ ∃ (y_2 :
  List Int × Int), y_2.fst.length = 64 * x.x.N ∧ [AV.tup [AV.nilp, nI y.snd]] = [AV.tup [AV.ptr 6 0 0, nI 0]] ∧ bC [AV.sl 1 0 0 x.x.N x.x.N false] = bC [AV.sl 1 0 0 x.x.N x.x.N false] ∧ (true = true ∧ 1 = 1 ∧ x.x.N = x.x.N ∧ ∀ (i : Nat), i < x.x.N → [AV.sl 2 (64 * i) 0 64 64 true] = [AV.sl 2 (64 * i) 0 64 64 true]) ∧ bW y.fst = bW y_2.fst ∧ True) ∧ ∀ (y : List Int × Int), y.fst.length = 64 * x.x.N → (∃ (y_2 : List Int × Int), y_2.fst.length = 64 * x.x.N ∧ [AV.tup [AV.ptr 6 0 0, nI 0]] = [AV.tup [AV.nilp, nI y_2.snd]] ∧ bC [AV.sl 1 0 0 x.x.N x.x.N false] = bC [AV.sl 1 0 0 x.x.N x.x.N false] ∧ (true = true ∧ 1 = 1 ∧ x.x.N = x.x.N ∧ ∀ (i : Nat), i < x.x.N → [AV.sl 2 (64 * i) 0 64 64 true] = [AV.sl 2 (64 * i) 0 64 64 true]) ∧ bW y.fst = bW y_2.fst ∧ True) ∨ ∃ (y_2 : List Int × Int), y_2.fst.length = 64 * x.x.N ∧ [AV.tup [AV.ptr 6 0 0, nI 0]] = [AV.tup [AV.ptr 6 0 0, nI 0]] ∧ bC [AV.sl 1 0 0
  x.x.N x.x.N false] = bC [AV.sl 1 0 0 x.x.N x.x.N false] ∧ (true = true ∧ 1 = 1 ∧ x.x.N = x.x.N ∧ ∀ (i : Nat), i < x.x.N → [AV.sl 2 (64 * i) 0 64 64 true] = [AV.sl 2 (64 * i) 0 64 64 true]) ∧ bW y.fst = bW y_2.fst ∧ True) ∧ True)) ∧ True) ∧ True)) ∧ True))))) ∧ True
theorem spC_c_e (x : SpY) : some (spC_c_V x) = (spC.cond sp Go.Proofs.Tryz.prog (drPL sp Go.Proofs.Tryz.prog) (forF F_spaces_New (Go.Eng.orL ((spL1 Go.Proofs.Tryz.prog).lo sp Go.Proofs.Tryz.prog (isLoop 6) (loopOf Go.Proofs.Tryz.prog F_spaces_New 0)) ((spL2 Go.Proofs.Tryz.prog).lo sp Go.Proofs.Tryz.prog (isLoop 15) (loopOf Go.Proofs.Tryz.prog F_spaces_New 1))) noLoops) (orK (sizeC.orc sp) (orK (apC.orc sp) (orK (mxC.orc sp) (clC.orc sp)))) 60 4 x) := by kernel_rfl
set_option maxRecDepth 100000 in
theorem spC_ok : spC.OK Go.Proofs.Tryz.prog := by
  refine Con.byL' hmix (forF_ok (Go.Eng.orL_ok (LpE.lo_ok spL1_ok rfl) (LpM.lo_ok spL2_ok rfl)) (noLoops_ok _)) (orK_ok (Con.orc_ok sizeC_ok) (orK_ok (Con.orc_ok apC_ok) (orK_ok (Con.orc_ok mxC_ok) (Con.orc_ok clC_ok)))) spC_c_V spC_c_e (fun x hx => ?_)
  obtain ⟨x, all⟩ := x
  obtain ⟨⟨h1, h2, h3, h4, h5, h6⟩, ha⟩ := hx
  unfold spC_c_V
  have h2 : 1 ≤ x.xs.length := h2
  have h3 : x.xs.length ≤ 8 := h3
  have hle : x.N.le 512 := h1
  refine ⟨hle, by first | trivial | rfl, by repeat' (first | trivial | exact rfl | exact fun _ _ => trivial | exact fun _ _ => rfl | apply And.intro), fun _ _ => spI (fun _ => .inl ⟨(all, 1), ha, by repeat' (first | trivial | exact rfl | exact fun _ _ => trivial | exact fun _ _ => rfl | apply And.intro)⟩) (fun _ => spI (fun _ => .inl ⟨(all, 2), ha, by repeat' (first | trivial | exact rfl | exact fun _ _ => trivial | exact fun _ _ => rfl | apply And.intro)⟩) (fun _ => spI (fun _ => .inl ⟨(all, 2), ha, by repeat' (first | trivial | exact rfl | exact fun _ _ => trivial | exact fun _ _ => rfl | apply And.intro)⟩) (fun _ => spI (fun _ => .inl ⟨(all, 2), ha, by repeat' (first | trivial | exact rfl | exact fun _ _ => trivial | exact fun _ _ => rfl | apply And.intro)⟩) (fun _ =>
    ⟨rfl, ⟨⟨h1, h2, h3, h4, h5, h6⟩, ha, Nat.zero_le _⟩, by repeat' (first | trivial | exact rfl | exact fun _ _ => trivial | exact fun _ _ => rfl | apply And.intro), fun _ _ => ⟨⟨h2, by show x.xs.length ≤ 64; omega⟩, by first | trivial | rfl, by repeat' (first | trivial | exact rfl | exact fun _ _ => trivial | exact fun _ _ => rfl | apply And.intro), fun _ _ => spI (fun _ => .inl ⟨(all, 2), ha, by repeat' (first | trivial | exact rfl | exact fun _ _ => trivial | exact fun _ _ => rfl | apply And.intro)⟩) (fun _ =>
      ⟨⟨h2, by show x.xs.length ≤ 64; omega⟩, by first | trivial | rfl, by repeat' (first | trivial | exact rfl | exact fun _ _ => trivial | exact fun _ _ => rfl | apply And.intro), fun _ _ => ⟨hle, by first | trivial | rfl, by repeat' (first | trivial | exact rfl | exact fun _ _ => trivial | exact fun _ _ => rfl | apply And.intro), fun _ _ => spI (fun _ => .inl ⟨(all, 2), ha, by repeat' (first | trivial | exact rfl | exact fun _ _ => trivial | exact fun _ _ => rfl | apply And.intro)⟩) (fun _ =>
        ⟨⟨h5, h6⟩, by first | trivial | rfl, by repeat' (first | trivial | exact rfl | exact fun _ _ => trivial | exact fun _ _ => rfl | apply And.intro), fun _ _ => ⟨rfl, ⟨⟨h1, h2, h3, h4, h5, h6⟩, ha, Nat.zero_le _⟩, by repeat' (first | trivial | exact rfl | exact fun _ _ => trivial | exact fun _ _ => rfl | apply And.intro), fun y hy => .inl ⟨y, hy, by repeat' (first | trivial | exact rfl | exact fun _ _ => trivial | exact fun _ _ => rfl | apply And.intro)⟩, fun y hy => .inr ⟨y, hy, by repeat' (first | trivial | exact rfl | exact fun _ _ => trivial | exact fun _ _ => rfl | apply And.intro)⟩⟩, trivial⟩), trivial⟩, trivial⟩), trivial⟩⟩)))), trivial⟩
end Go.Proofs.YtilmgiompalggaaGreatDoor.W
