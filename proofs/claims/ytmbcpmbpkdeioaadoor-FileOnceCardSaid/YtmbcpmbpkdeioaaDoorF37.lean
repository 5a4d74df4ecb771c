/- Sums and seals as the document has them: the walks. No condition. -/
import Derived.Test.YtmbcpmbpkdeioaaDoorF36
import Derived.KernelRfl
import Derived.Test.YtmbcpmbpkdeioaaDoorF30
namespace Go.Proofs.YtmbcpmbpkdeioaaDoor.W
open Go Go.RowKit Go.Eng
set_option maxRecDepth 100000
set_option linter.unusedVariables false
set_option linter.unusedSimpArgs false
theorem and_one {r : Int} (h0 : 0 ≤ r) (h1 : r ≤ 4294967295) : bits .and .u32 r 1 = r % 2 := by
  rw [ba, BitVec.toNat_and, BitVec.toNat_ofInt, BitVec.toNat_ofInt]
  have e1 : ((1 : Int) % ((2 ^ 32 : Nat) : Int)).toNat = 1 := by decide
  rw [e1, Nat.and_one_is_mod]
  have : (r % ((2 ^ 32 : Nat) : Int)) = r := Int.emod_eq_of_lt h0 (by omega)
  rw [this]
  omega
theorem u32_bits (o : BinOp) (a b : Int) : 0 ≤ bits o .u32 a b ∧ bits o .u32 a b ≤ 4294967295 := by
  have := bits_within o .u32 a b
  have h1 : IntKind.u32.min = 0 := rfl
  have h2 : IntKind.u32.max = 4294967295 := rfl
  omega
theorem half {r : Int} (h0 : 0 ≤ r) (h1 : r ≤ 4294967295) : IntKind.wrap .u32 (r.tdiv 2) = r.fdiv 2 := by
  rw [Int.tdiv_eq_ediv_of_nonneg h0, Int.fdiv_eq_ediv_of_nonneg _ (by decide), IntKind.wrap_u32]
  omega
theorem movedStep_range {r : Int} (h0 : 0 ≤ r) (h1 : r ≤ 4294967295) : 0 ≤ movedStep r ∧ movedStep r ≤ 4294967295 := by
  unfold movedStep
  split
  · exact u32_bits _ _ _
  · rw [Int.fdiv_eq_ediv_of_nonneg _ (by decide)]
    omega
theorem movedSteps_range : ∀ (k : Nat) {r : Int}, 0 ≤ r → r ≤ 4294967295 → 0 ≤ movedSteps k r ∧ movedSteps k r ≤ 4294967295
  | 0, r, h0, h1 => ⟨h0, h1⟩
  | k + 1, r, h0, h1 => movedSteps_range k (movedStep_range h0 h1).1 (movedStep_range h0 h1).2
theorem sumR_range : ∀ (l : List Int) {r : Int}, 0 ≤ r → r ≤ 4294967295 → 0 ≤ sumR r l ∧ sumR r l ≤ 4294967295
  | [], r, h0, h1 => ⟨h0, h1⟩
  | x :: l, r, h0, h1 => sumR_range l (movedSteps_range 8 (u32_bits _ _ _).1 (u32_bits _ _ _).2).1 (movedSteps_range 8 (u32_bits _ _ _).1 (u32_bits _ _ _).2).2
theorem not_xor {r : Int} (h0 : 0 ≤ r) (h1 : r ≤ 4294967295) : IntKind.wrap .u32 (4294967295 - r) = bits .xor .u32 4294967295 r := by
  have e : BitVec.ofInt 32 4294967295 = BitVec.allOnes 32 := by decide
  rw [bx, e, BitVec.allOnes_xor, BitVec.toNat_not, BitVec.toNat_ofInt, IntKind.wrap_u32]
  have : (r % ((2 ^ 32 : Nat) : Int)) = r := Int.emod_eq_of_lt h0 (by omega)
  rw [this]
  omega
def ri_c_V (i : RiI) : Prop :=
  sp (decide ((↑i.i : Int) < 8)) (sp (i.r.tmod 2 == 1) (∃ (j : RiI), (j.i ≤ 8 ∧ 0 ≤ j.r ∧ j.r ≤ 4294967295) ∧ 8 - j.i < 8 - i.i ∧ [(true, LOut.mk (AX.exit 2) [(0, AV.msl 0 0 0 j.bs.length j.c), (3, nU (movedSteps (8 - j.i) j.r)), (4, nI (↑j.k : Int))] 1 [(0, bR j.bs)])] = [(true, LOut.mk (AX.exit 2) [(0, AV.msl 0 0 0 i.bs.length i.c), (3, nU (movedSteps (8 - i.i) i.r)), (4, nI (↑i.k : Int))] 1 [(0, bR i.bs)])] ∧ (AV.msl 0 0 0 i.bs.length i.c = AV.msl 0 0 0 j.bs.length j.c ∧ nU (bits BinOp.xor IntKind.u32 (IntKind.u32.wrap (i.r.tdiv 2)) 3988292384) = nU j.r ∧ nI (↑i.k : Int) = nI (↑j.k : Int) ∧ nI (IntKind.i64.wrap ((↑i.i : Int) + 1)) = nI (↑j.i : Int) ∧ True) ∧ bR i.bs = bR j.bs ∧ True) (∃ (j : RiI), (j.i ≤ 8 ∧ 0 ≤ j.r ∧ j.r ≤ 4294967295) ∧ 8 - j.i < 8 - i.i ∧ [(true, LOut.mk (AX.exit 2) [(0, AV.msl 0 0 0 j.bs.length j.c), (3, nU (movedSteps (8 - j.i) j.r)), (4, nI (↑j.k : Int))] 1 [(0, bR
  j.bs)])] = [(true, LOut.mk (AX.exit 2) [(0, AV.msl 0 0 0 i.bs.length i.c), (3, nU (movedSteps (8 - i.i) i.r)), (4, nI (↑i.k : Int))] 1 [(0, bR i.bs)])] ∧ (AV.msl 0 0 0 i.bs.length i.c = AV.msl 0 0 0 j.bs.length j.c ∧ nU (IntKind.u32.wrap (i.r.tdiv 2)) = nU j.r ∧ nI (↑i.k : Int) = nI (↑j.k : Int) ∧ nI (IntKind.i64.wrap ((↑i.i : Int) + 1)) = nI (↑j.i : Int) ∧ True) ∧ bR i.bs = bR j.bs ∧ True)) ((AV.msl 0 0 0 i.bs.length i.c = AV.msl 0 0 0 i.bs.length i.c ∧ nU i.r = nU (movedSteps (8 - i.i) i.r) ∧ nI (↑i.k : Int) = nI (↑i.k : Int) ∧ True) ∧ bR i.bs = bR i.bs ∧ True)
theorem ri_c_e (i : RiI) : some (ri_c_V i) = (some ((riL Go.Proofs.Tryd.prog).body sp Go.Proofs.Tryd.prog noBaseK (drP sp Go.Proofs.Tryd.prog noBaseK) noLo 40 i)) := by kernel_rfl
theorem ri_ok : (riL Go.Proofs.Tryd.prog).OK Go.Proofs.Tryd.prog := by
  refine Lp.ok_of (noBaseK_ok _) (drP_ok hmix _ (noBaseK_ok _)) (noLo_ok _) (by decide) 40 (fun i hi => ?_)
  rw [← Option.some.inj (ri_c_e i)]
  obtain ⟨h1, h2, h3⟩ := hi
  have hm := movedStep_range h2 h3
  unfold ri_c_V
  by_cases h : i.i < 8
  · have hw : IntKind.i64.wrap ((i.i : Int) + 1) = ((i.i + 1 : Nat) : Int) := by rw [IntWalk.i64_in _ (by omega)]; rfl
    have hs : 8 - i.i = (8 - (i.i + 1)) + 1 := by omega
    have t2 : i.r.tmod 2 = i.r % 2 := Int.tmod_eq_emod_of_nonneg h2
    refine spT (by simp; omega) (spI (fun g => ?_) (fun g => ?_))
    · have e : bits .xor .u32 (IntKind.wrap .u32 (i.r.tdiv 2)) 3988292384 = movedStep i.r := by
        unfold movedStep
        rw [if_pos (by rw [and_one h2 h3]; simpa [t2] using g), half h2 h3]
      refine ⟨⟨i.bs, i.c, i.k, movedStep i.r, i.i + 1⟩, ⟨h, hm⟩, by show 8 - (i.i + 1) < 8 - i.i; omega, ?_, ⟨rfl, by rw [e], rfl, by rw [hw], trivial⟩, rfl, trivial⟩
      rw [hs]; rfl
    · have e : IntKind.wrap .u32 (i.r.tdiv 2) = movedStep i.r := by
        unfold movedStep
        rw [if_neg (by rw [and_one h2 h3]; simpa [t2] using g), half h2 h3]
      refine ⟨⟨i.bs, i.c, i.k, movedStep i.r, i.i + 1⟩, ⟨h, hm⟩, by show 8 - (i.i + 1) < 8 - i.i; omega, ?_, ⟨rfl, by rw [e], rfl, by rw [hw], trivial⟩, rfl, trivial⟩
      rw [hs]; rfl
  · have e : 8 - i.i = 0 := by omega
    refine spF (by simp; omega) ⟨⟨rfl, ?_, rfl, trivial⟩, rfl, trivial⟩
    rw [e]; rfl
def ro_c_V (i : RoI) : Prop :=
  sp (decide ((↑i.k : Int) < (↑i.bs.length : Int))) (sp (decide ((↑i.k : Int) < (↑i.bs.length : Int)) && true) (sp (decide (0 + (↑i.k : Int).toNat + 0 < i.bs.length)) (same ((loopsIn (loopOf Proofs.Tryd.prog F_mummerref29_Sum 0)).getD 0 Code.skip) ((loopsIn (loopOf Proofs.Tryd.prog F_mummerref29_Sum 0)).getD 0 Code.skip) ∧ (0 ≤ 8 ∧ 0 ≤ bits BinOp.xor IntKind.u32 i.r (IntKind.u32.wrap (i.bs.getD (0 + (↑i.k : Int).toNat + 0) 0)) ∧ bits BinOp.xor IntKind.u32 i.r (IntKind.u32.wrap (i.bs.getD (0 + (↑i.k : Int).toNat + 0) 0)) ≤ 4294967295) ∧ ((AV.msl 0 0 0 i.bs.length i.c = AV.msl 0 0 0 i.bs.length i.c ∧ nU (bits BinOp.xor IntKind.u32 i.r (IntKind.u32.wrap (i.bs.getD (0 + (↑i.k : Int).toNat + 0) 0))) = nU (bits BinOp.xor IntKind.u32 i.r (IntKind.u32.wrap (i.bs.getD (0 + (↑i.k : Int).toNat + 0) 0))) ∧ nI (↑i.k : Int) = nI (↑(↑i.k : Int).toNat : Int) ∧ nI 0 = nI 0 ∧ True) ∧ bR i.bs = bR i.bs ∧
  True) ∧ ∃ (j : RoI), (j.k ≤ j.bs.length ∧ j.bs.length ≤ 140737488355328 ∧ 0 ≤ j.r ∧ j.r ≤ 4294967295) ∧ j.bs.length - j.k < i.bs.length - i.k ∧ [(true, LOut.mk (AX.exit 0) [(3, nU (sumR j.r (List.drop j.k j.bs)))] 1 [(0, bR j.bs)])] = [(true, LOut.mk (AX.exit 0) [(3, nU (sumR i.r (List.drop i.k i.bs)))] 1 [(0, bR i.bs)])] ∧ (AV.msl 0 0 0 i.bs.length i.c = AV.msl 0 0 0 j.bs.length j.c ∧ nU (movedSteps 8 (bits BinOp.xor IntKind.u32 i.r (IntKind.u32.wrap (i.bs.getD (0 + (↑i.k : Int).toNat + 0) 0)))) = nU j.r ∧ nI (IntKind.i64.wrap ((↑(↑i.k : Int).toNat : Int) + 1)) = nI (↑j.k : Int) ∧ True) ∧ bR i.bs = bR j.bs ∧ True) False) False) ((nU i.r = nU (sumR i.r (List.drop i.k i.bs)) ∧ True) ∧ bR i.bs = bR i.bs ∧ True)
theorem ro_c_e (i : RoI) : some (ro_c_V i) = (some ((roL Go.Proofs.Tryd.prog).body sp Go.Proofs.Tryd.prog noBaseK (drP sp Go.Proofs.Tryd.prog noBaseK) ((riL Go.Proofs.Tryd.prog).lo sp Go.Proofs.Tryd.prog (isLoop 7) ((loopsIn (loopOf Go.Proofs.Tryd.prog F_mummerref29_Sum 0)).getD 0 .skip)) 40 i)) := by kernel_rfl
theorem ro_ok : (roL Go.Proofs.Tryd.prog).OK Go.Proofs.Tryd.prog := by
  refine Lp.ok_of (noBaseK_ok _) (drP_ok hmix _ (noBaseK_ok _)) (Lp.lo_ok (id := isLoop 7) (nm := (loopsIn (loopOf Go.Proofs.Tryd.prog F_mummerref29_Sum 0)).getD 0 .skip) ri_ok rfl) (by decide) 40 (fun i hi => ?_)
  rw [← Option.some.inj (ro_c_e i)]
  obtain ⟨h1, h2, h3, h4⟩ := hi
  unfold ro_c_V
  by_cases h : i.k < i.bs.length
  · have hw : IntKind.i64.wrap ((i.k : Int) + 1) = ((i.k + 1 : Nat) : Int) := by rw [IntWalk.i64_in _ (by omega)]; rfl
    have e1 : i.bs.drop i.k = i.bs[i.k] :: i.bs.drop (i.k + 1) := List.drop_eq_getElem_cons h
    have eg : i.bs.getD (0 + (i.k : Int).toNat + 0) 0 = i.bs[i.k] := by simp [h]
    have hr := movedSteps_range 8 (u32_bits .xor i.r (IntKind.wrap .u32 i.bs[i.k])).1 (u32_bits .xor i.r (IntKind.wrap .u32 i.bs[i.k])).2
    rw [eg]
    refine spT (by simp; omega) (spT (by simp; omega) (spT (by simp; omega) ⟨rfl, ⟨by decide, u32_bits _ _ _⟩, ⟨⟨rfl, rfl, by simp, rfl, trivial⟩, rfl, trivial⟩, ⟨⟨i.bs, i.c, movedN i.r i.bs[i.k], i.k + 1⟩, ⟨h, h2, hr⟩, by show i.bs.length - (i.k + 1) < i.bs.length - i.k; omega, ?_, ⟨rfl, rfl, ?_, trivial⟩, rfl, trivial⟩⟩))
    · rw [e1]; rfl
    · rw [Int.toNat_natCast, hw]
  · have e1 : i.bs.drop i.k = [] := List.drop_eq_nil_of_le (by omega)
    refine spF (by simp; omega) ⟨⟨?_, trivial⟩, rfl, trivial⟩
    rw [e1]; rfl
def rsum_c_V (x : Row) : Prop :=
  same (loopOf Proofs.Tryd.prog F_mummerref29_Sum 0) (loopOf Proofs.Tryd.prog F_mummerref29_Sum 0) ∧ (0 ≤ x.bs.length ∧ x.bs.length ≤ 140737488355328 ∧ (0 : Int) ≤ 4294967295 ∧ (4294967295 : Int) ≤ 4294967295) ∧ ((AV.msl 0 0 0 x.bs.length x.c = AV.msl 0 0 0 x.bs.length x.c ∧ nU 4294967295 = nU 4294967295 ∧ nI 0 = nI 0 ∧ True) ∧ bR x.bs = bR x.bs ∧ True) ∧ ∃ (y : Unit), True ∧ [nU (IntKind.u32.wrap (4294967295 - sumR 4294967295 (List.drop 0 x.bs)))] = [nU (sumB x.bs)] ∧ bR x.bs = bR x.bs ∧ True
theorem rsum_c_e (x : Row) : some (rsum_c_V x) = (rsumC.cond sp Go.Proofs.Tryd.prog (drP sp Go.Proofs.Tryd.prog) (forF F_mummerref29_Sum ((roL Go.Proofs.Tryd.prog).lo sp Go.Proofs.Tryd.prog (isLoop 3) (loopOf Go.Proofs.Tryd.prog F_mummerref29_Sum 0)) noLoops) noBaseK 40 2 x) := by kernel_rfl
theorem rsum_ok : rsumC.OK Go.Proofs.Tryd.prog := by
  refine Con.by hmix (forF_ok (Lp.lo_ok ro_ok rfl) (noLoops_ok _)) (noBaseK_ok _) rsum_c_V rsum_c_e (fun x hx => ?_)
  have hr := sumR_range x.bs (r := 4294967295) (by decide) (by decide)
  unfold rsum_c_V
  refine ⟨rfl, ⟨Nat.zero_le _, hx, by decide, by decide⟩, ⟨⟨rfl, rfl, rfl, trivial⟩, rfl, trivial⟩, ⟨(), trivial, ?_, rfl, trivial⟩⟩
  rw [List.drop_zero, not_xor hr.1 hr.2]
  rfl
def seA_c_V (bs : List Int) (c : Nat) (k : Nat) : Prop :=
  sp (decide ((↑k : Int) < (↑bs.length : Int))) (sp (decide ((↑k : Int) < (↑bs.length : Int)) && true) (sp (decide (0 + (↑k : Int).toNat + 0 < bs.length)) (sp (decide (0 + k ≤ (List.take k bs).length) && true && true && true && true && decide ((k + 1) * 1 ≤ 140737488355328) && decide (k + 1 ≤ 9223372036854775807)) (∃ (j : SeI), (j.k ≤ j.bs.length ∧ j.bs.length ≤ 140737488355324 ∧ (true = true → 1 ≤ j.k) ∧ (true = false → j.k = 0)) ∧ j.bs.length - j.k < bs.length - k ∧ [(decide (j.bs.length = 0), LOut.mk (AX.exit 0) [(0, AV.msl 0 0 0 j.bs.length j.c), (3, AV.nils)] 2 [(0, bR j.bs)]), (true, LOut.mk (AX.exit 0) [(0, AV.msl 0 0 0 j.bs.length j.c), (3, AV.sl 1 0 0 j.bs.length j.bs.length false)] 2 [(0, bR j.bs), (1, bW j.bs)])] = [(decide (bs.length = 0), LOut.mk (AX.exit 0) [(0, AV.msl 0 0 0 bs.length c), (3, AV.nils)] 2 [(0, bR bs)]), (true, LOut.mk (AX.exit 0) [(0, AV.msl 0 0 0 bs.length c),
  (3, AV.sl 1 0 0 bs.length bs.length false)] 2 [(0, bR bs), (1, bW bs)])] ∧ (AV.msl 0 0 0 bs.length c = AV.msl 0 0 0 j.bs.length j.c ∧ AV.sl 3 0 0 (k + 1) (k + 1) false = AV.sl 3 0 0 j.k j.k false ∧ nI (IntKind.i64.wrap ((↑k : Int) + 1)) = nI (↑j.k : Int) ∧ True) ∧ bR bs = bR j.bs ∧ bW ((List.take k (List.drop 0 (List.take k bs)) ++ List.take 1 (List.drop 0 [bs.getD (0 + (↑k : Int).toNat + 0) 0]))) = bW ((List.take j.k j.bs)) ∧ True) False) False) False) (sp (decide (bs.length = 0)) ((AV.msl 0 0 0 bs.length c = AV.msl 0 0 0 bs.length c ∧ AV.sl 1 0 0 k k false = AV.nils ∧ True) ∧ bR bs = bR bs ∧ True) ((AV.msl 0 0 0 bs.length c = AV.msl 0 0 0 bs.length c ∧ AV.sl 1 0 0 k k false = AV.sl 1 0 0 bs.length bs.length false ∧ True) ∧ bR bs = bR bs ∧ bW ((List.take k bs)) = bW bs ∧ True))
theorem seA_c_e (bs : List Int) (c : Nat) (k : Nat) : some (seA_c_V bs c k) = (some ((seL Go.Proofs.Tryd.prog).body sp Go.Proofs.Tryd.prog noBaseK (drP sp Go.Proofs.Tryd.prog noBaseK) noLo 40 ⟨bs, c, k, true⟩)) := by kernel_rfl
def seB_c_V (bs : List Int) (c : Nat) : Prop :=
  sp (decide (0 < (↑bs.length : Int))) (sp (decide (0 < (↑bs.length : Int)) && true) (sp (decide (0 < bs.length)) (∃ (j : SeI), (j.k ≤ j.bs.length ∧ j.bs.length ≤ 140737488355324 ∧ (true = true → 1 ≤ j.k) ∧ (true = false → j.k = 0)) ∧ j.bs.length - j.k < bs.length - 0 ∧ [(decide (j.bs.length = 0), LOut.mk (AX.exit 0) [(0, AV.msl 0 0 0 j.bs.length j.c), (3, AV.nils)] 2 [(0, bR j.bs)]), (true, LOut.mk (AX.exit 0) [(0, AV.msl 0 0 0 j.bs.length j.c), (3, AV.sl 1 0 0 j.bs.length j.bs.length false)] 2 [(0, bR j.bs), (1, bW j.bs)])] = [(decide (bs.length = 0), LOut.mk (AX.exit 0) [(0, AV.msl 0 0 0 bs.length c), (3, AV.nils)] 2 [(0, bR bs)]), (true, LOut.mk (AX.exit 0) [(0, AV.msl 0 0 0 bs.length c), (3, AV.sl 1 0 0 bs.length bs.length false)] 2 [(0, bR bs), (1, bW bs)])] ∧ (AV.msl 0 0 0 bs.length c = AV.msl 0 0 0 j.bs.length j.c ∧ AV.sl 3 0 0 1 1 false = AV.sl 3 0 0 j.k j.k false ∧ nI 1 = nI (↑j.k
  : Int) ∧ True) ∧ bR bs = bR j.bs ∧ bW ((List.take 1 (List.drop 0 [bs.getD 0 0]))) = bW ((List.take j.k j.bs)) ∧ True) False) False) (sp (decide (bs.length = 0)) ((AV.msl 0 0 0 bs.length c = AV.msl 0 0 0 bs.length c ∧ AV.nils = AV.nils ∧ True) ∧ bR bs = bR bs ∧ True) ((AV.msl 0 0 0 bs.length c = AV.msl 0 0 0 bs.length c ∧ AV.nils = AV.sl 2 0 0 bs.length bs.length false ∧ True) ∧ bR bs = bR bs ∧ False ∧ True))
theorem seB_c_e (bs : List Int) (c : Nat) : some (seB_c_V bs c) = (some ((seL Go.Proofs.Tryd.prog).body sp Go.Proofs.Tryd.prog noBaseK (drP sp Go.Proofs.Tryd.prog noBaseK) noLo 40 ⟨bs, c, 0, false⟩)) := by kernel_rfl
theorem se_ok : (seL Go.Proofs.Tryd.prog).OK Go.Proofs.Tryd.prog := by
  refine Lp.ok_of (noBaseK_ok _) (drP_ok hmix _ (noBaseK_ok _)) (noLo_ok _) (by decide) 40 (fun i hi => ?_)
  obtain ⟨bs, c, k, s⟩ := i
  obtain ⟨h1, h2, h3, h4⟩ := hi
  have h1 : k ≤ bs.length := h1
  have h2 : bs.length ≤ 140737488355324 := h2
  cases s with
  | true =>
    rw [← Option.some.inj (seA_c_e bs c k)]
    have h3 : 1 ≤ k := h3 rfl
    unfold seA_c_V
    by_cases h : k < bs.length
    · have hw : IntKind.i64.wrap ((k : Int) + 1) = ((k + 1 : Nat) : Int) := by rw [IntWalk.i64_in _ (by omega)]; rfl
      refine spT (by simp; omega) (spT (by simp; omega) (spT (by simp; omega) (spT (by simp; omega) ⟨⟨bs, c, k + 1, true⟩, ⟨h, h2, (fun _ => Nat.le_add_left 1 k), fun e => (by cases e)⟩, by show bs.length - (k + 1) < bs.length - k; omega, rfl, ⟨rfl, rfl, by rw [hw], trivial⟩, rfl, ?_, trivial⟩)))
      have : List.take k (List.drop 0 (List.take k bs)) ++ List.take 1 (List.drop 0 [bs.getD (0 + (k : Int).toNat + 0) 0]) = List.take (k + 1) bs := by
        rw [List.drop_zero, List.drop_zero, List.take_take, Nat.min_self, Int.toNat_natCast, Nat.zero_add, Nat.add_zero, List.take_succ_eq_append_getElem h]
        congr 1
        simp [h]
      rw [this]
    · have e : k = bs.length := by omega
      subst e
      refine spF (by simp) (spF (by simp; intro q; rw [q] at h3; simp at h3) ⟨⟨rfl, rfl, trivial⟩, rfl, ?_, trivial⟩)
      rw [List.take_length]
  | false =>
    have h4 : k = 0 := h4 rfl
    subst h4
    rw [← Option.some.inj (seB_c_e bs c)]
    unfold seB_c_V
    cases bs with
    | nil => exact spF (by simp) (spT (by simp) ⟨⟨rfl, rfl, trivial⟩, rfl, trivial⟩)
    | cons b bs =>
      refine spT (by simp) (spT (by simp) (spT (by simp) ⟨⟨b :: bs, c, 1, true⟩, ⟨by simp, h2, (fun _ => Nat.le_refl 1), fun e => (by cases e)⟩, by show (b :: bs).length - 1 < (b :: bs).length - 0; simp, rfl, ⟨rfl, rfl, rfl, trivial⟩, rfl, ?_, trivial⟩))
      simp
def rseal_c_V (x : Row) : Prop :=
  same (loopOf Proofs.Tryd.prog F_mummerref29_Sealed 0) (loopOf Proofs.Tryd.prog F_mummerref29_Sealed 0) ∧ (0 ≤ x.bs.length ∧ x.bs.length ≤ 140737488355324 ∧ (false = true → 1 ≤ 0) ∧ (false = false → 0 = 0)) ∧ ((AV.msl 0 0 0 x.bs.length x.c = AV.msl 0 0 0 x.bs.length x.c ∧ AV.nils = AV.nils ∧ nI 0 = nI 0 ∧ True) ∧ bR x.bs = bR x.bs ∧ True) ∧ sp (decide (x.bs.length = 0)) (x.bs.length.le 140737488355328 ∧ [] ++ [AV.msl 0 0 0 x.bs.length x.c] ++ [] = [AV.msl 0 0 0 x.bs.length x.c] ∧ (some (bR x.bs) = some (bR x.bs) ∧ True) ∧ (∀ (y : Unit), True → ∃ (y : Unit), True ∧ [AV.sl 9 0 0 4 4 false] = [AV.sl 9 0 0 (sealB x.bs).length (sealB x.bs).length false] ∧ bR x.bs = bR x.bs ∧ bW ((List.take 3 (List.drop 0 (List.take 2 (List.drop 0 (List.take 1 (List.drop 0 (List.take 1 (List.drop 0 [IntKind.u8.wrap ((sumB x.bs).tmod 256)]))) ++ List.take 1 (List.drop 0 [IntKind.u8.wrap ((IntKind.u32.wrap ((sumB
  x.bs).tdiv 256)).tmod 256)]))) ++ List.take 1 (List.drop 0 [IntKind.u8.wrap ((IntKind.u32.wrap ((IntKind.u32.wrap ((sumB x.bs).tdiv 256)).tdiv 256)).tmod 256)]))) ++ List.take 1 (List.drop 0 [IntKind.u8.wrap ((IntKind.u32.wrap ((IntKind.u32.wrap ((IntKind.u32.wrap ((sumB x.bs).tdiv 256)).tdiv 256)).tdiv 256)).tmod 256)]))) = bW ((sealB x.bs)) ∧ True) ∧ True) (x.bs.length.le 140737488355328 ∧ [] ++ [AV.msl 0 0 0 x.bs.length x.c] ++ [] = [AV.msl 0 0 0 x.bs.length x.c] ∧ (some (bR x.bs) = some (bR x.bs) ∧ True) ∧ (∀ (y : Unit), True → sp (decide (0 + x.bs.length ≤ x.bs.length) && true && true && true && true && decide ((x.bs.length + 1) * 1 ≤ 140737488355328) && decide (x.bs.length + 1 ≤ 9223372036854775807)) (sp (decide (0 + (x.bs.length + 1) ≤ (List.take x.bs.length (List.drop 0 x.bs) ++ List.take 1 (List.drop 0 [IntKind.u8.wrap ((sumB x.bs).tmod 256)])).length) && true && true && true &&
  true && decide ((x.bs.length + 1 + 1) * 1 ≤ 140737488355328) && decide (x.bs.length + 1 + 1 ≤ 9223372036854775807)) (sp (decide (0 + (x.bs.length + 1 + 1) ≤ (List.take (x.bs.length + 1) (List.drop 0 (List.take x.bs.length (List.drop 0 x.bs) ++ List.take 1 (List.drop 0 [IntKind.u8.wrap ((sumB x.bs).tmod 256)]))) ++ List.take 1 (List.drop 0 [IntKind.u8.wrap ((IntKind.u32.wrap ((sumB x.bs).tdiv 256)).tmod 256)])).length) && true && true && true && true && decide ((x.bs.length + 1 + 1 + 1) * 1 ≤ 140737488355328) && decide (x.bs.length + 1 + 1 + 1 ≤ 9223372036854775807)) (sp (decide (0 + (x.bs.length + 1 + 1 + 1) ≤ (List.take (x.bs.length + 1 + 1) (List.drop 0 (List.take (x.bs.length + 1) (List.drop 0 (List.take x.bs.length (List.drop 0 x.bs) ++ List.take 1 (List.drop 0 [IntKind.u8.wrap ((sumB x.bs).tmod 256)]))) ++ List.take 1 (List.drop 0 [IntKind.u8.wrap ((IntKind.u32.wrap ((sumB x.bs).tdiv
  256)).tmod 256)]))) ++ List.take 1 (List.drop 0 [IntKind.u8.wrap ((IntKind.u32.wrap ((IntKind.u32.wrap ((sumB x.bs).tdiv 256)).tdiv 256)).tmod 256)])).length) && true && true && true && true && decide ((x.bs.length + 1 + 1 + 1 + 1) * 1 ≤ 140737488355328) && decide (x.bs.length + 1 + 1 + 1 + 1 ≤ 9223372036854775807)) (∃ (y : Unit), True ∧ [AV.sl 9 0 0 (x.bs.length + 1 + 1 + 1 + 1) (x.bs.length + 1 + 1 + 1 + 1) false] = [AV.sl 9 0 0 (sealB x.bs).length (sealB x.bs).length false] ∧ bR x.bs = bR x.bs ∧ bW ((List.take (x.bs.length + 1 + 1 + 1) (List.drop 0 (List.take (x.bs.length + 1 + 1) (List.drop 0 (List.take (x.bs.length + 1) (List.drop 0 (List.take x.bs.length (List.drop 0 x.bs) ++ List.take 1 (List.drop 0 [IntKind.u8.wrap ((sumB x.bs).tmod 256)]))) ++ List.take 1 (List.drop 0 [IntKind.u8.wrap ((IntKind.u32.wrap ((sumB x.bs).tdiv 256)).tmod 256)]))) ++ List.take 1 (List.drop 0
  [IntKind.u8.wrap ((IntKind.u32.wrap ((IntKind.u32.wrap ((sumB x.bs).tdiv 256)).tdiv 256)).tmod 256)]))) ++ List.take 1 (List.drop 0 [IntKind.u8.wrap ((IntKind.u32.wrap ((IntKind.u32.wrap ((IntKind.u32.wrap ((sumB x.bs).tdiv 256)).tdiv 256)).tdiv 256)).tmod 256)]))) = bW ((sealB x.bs)) ∧ True) False) False) False) False) ∧ True)
theorem rseal_c_e (x : Row) : some (rseal_c_V x) = (rsealC.cond sp Go.Proofs.Tryd.prog (drP sp Go.Proofs.Tryd.prog) (forF F_mummerref29_Sealed ((seL Go.Proofs.Tryd.prog).lo sp Go.Proofs.Tryd.prog (isLoop 3) (loopOf Go.Proofs.Tryd.prog F_mummerref29_Sealed 0)) noLoops) (rsumC.orc sp) 40 2 x) := by kernel_rfl
theorem rseal_ok : rsealC.OK Go.Proofs.Tryd.prog := by
  refine Con.by hmix (forF_ok (Lp.lo_ok se_ok rfl) (noLoops_ok _)) (Con.orc_ok rsum_ok) rseal_c_V rseal_c_e (fun x hx => ?_)
  have hx : x.bs.length ≤ 140737488355324 := hx
  have hle : x.bs.length.le 140737488355328 := (by omega : x.bs.length ≤ 140737488355328)
  have hs := sumB_range x.bs
  unfold rseal_c_V sealB
  generalize sumB x.bs = s at hs
  obtain ⟨h0, h1⟩ := hs
  have t1 : IntKind.wrap .u32 (s.tdiv 256) = s / 256 := by rw [Int.tdiv_eq_ediv_of_nonneg h0, IntKind.wrap_u32]; omega
  have t2 : IntKind.wrap .u32 ((s / 256).tdiv 256) = s / 65536 := by rw [Int.tdiv_eq_ediv_of_nonneg (by omega), IntKind.wrap_u32]; omega
  have t3 : IntKind.wrap .u32 ((s / 65536).tdiv 256) = s / 16777216 := by rw [Int.tdiv_eq_ediv_of_nonneg (by omega), IntKind.wrap_u32]; omega
  have m : ∀ z : Int, 0 ≤ z → IntKind.wrap .u8 (z.tmod 256) = IntKind.wrap .u8 z := fun z hz => by
    rw [Int.tmod_eq_emod_of_nonneg hz, IntKind.wrap_u8, IntKind.wrap_u8]; omega
  rw [Int.fdiv_eq_ediv_of_nonneg _ (by decide : (0 : Int) ≤ 256), Int.fdiv_eq_ediv_of_nonneg _ (by decide : (0 : Int) ≤ 65536), Int.fdiv_eq_ediv_of_nonneg _ (by decide : (0 : Int) ≤ 16777216)]
  rw [t1, t2, t3, m s h0, m (s / 256) (by omega), m (s / 65536) (by omega), m (s / 16777216) (by omega)]
  refine ⟨rfl, ⟨Nat.zero_le _, hx, (fun e => by cases e), fun _ => rfl⟩, ⟨⟨rfl, rfl, rfl, trivial⟩, rfl, trivial⟩, spI (fun h => ?_) (fun h => ?_)⟩
  · have h : x.bs.length = 0 := of_decide_eq_true h
    have hb : x.bs = [] := List.length_eq_zero_iff.1 h
    refine ⟨hle, rfl, ⟨rfl, trivial⟩, fun _ _ => ⟨(), trivial, ?_, rfl, ?_, trivial⟩, trivial⟩
    · simp [hb]
    · simp [hb]
  · have h : ¬ x.bs.length = 0 := of_decide_eq_false h
    refine ⟨hle, rfl, ⟨rfl, trivial⟩, fun _ _ => spT (by simp; omega) (spT (by simp; omega) (spT (by simp; omega) (spT (by simp; omega) ⟨(), trivial, ?_, rfl, ?_, trivial⟩))), trivial⟩
    · simp
    · simp [List.take_append, List.take_of_length_le]
end Go.Proofs.YtmbcpmbpkdeioaaDoor.W
/- The law FileOnce: what is reckoned. No condition. -/
namespace Go.Proofs.YtmbcpmbpkdeioaaDoor.W
open Go Go.RowKit Go.Eng
set_option maxRecDepth 100000
set_option linter.unusedVariables false
set_option linter.unusedSimpArgs false
/-! ### two guests of which nothing is there -/
def down12 : Nat → Nat := fun b => b - 12
def bytes0C : Con ByteArray Unit where
  f := F_judge_bytes
  fit vs H := match vs with
    | [.str nm, .nils, .nils] => some ([], nm)
    | _ => none
  n0 := 0
  pre _ := True
  args nm := [.str nm, .nils, .nils]
  L0 _ := []
  outs nm := [(fun _ => True, fun _ => (.ret (.agg [.str nm, .bool false, .fn (.func F_judge_bytes_1) [] [.ptr 3 0 0, .ptr 0 0 0, .ptr 1 0 0]]), 4, []))]
def nils2 (vs : List AV) : Option (List Nat × Unit) := match vs with
  | [.nils, .nils] => some ([], ())
  | _ => none
def notes0C : Con Unit Unit where
  f := F_judge_Notes
  fit vs _ := nils2 vs
  n0 := 0
  pre _ := True
  args _ := [.nils, .nils]
  L0 _ := []
  outs _ := [(fun _ => True, fun _ => (.ret (.int .i64 (-1)), 0, []))]
def events0C : Con Unit Unit := { notes0C with f := F_judge_Events }
def zz (vs : List AV) : Option (List Nat × Unit) := match vs with
  | [.agg _, .agg _] => some ([], ())
  | _ => none
def devices0C : Con Unit Unit where
  f := F_judge_devices
  fit vs _ := match vs with
    | [.agg _] => some ([], ())
    | _ => none
  n0 := 0
  pre _ := True
  args _ := [.agg zeroSv]
  L0 _ := []
  outs _ := [(fun _ => True, fun _ => (.ret (.agg [.int .u32 0, .int .u32 0, .int .u32 0, .int .u32 0, .int .u32 0, .int .u32 0, .int .u32 0, .int .u32 0]), 2, []))]
def part0C : Con Unit Unit where
  f := F_judge_parts
  fit vs _ := zz vs
  n0 := 0
  pre _ := True
  args _ := [.agg zeroSv, .agg zeroSv]
  L0 _ := []
  outs _ := [(fun _ => True, fun _ => (.ret (.sl 0 0 0 10 10 true), 21, [(0, ⟨true, 3, .cells (AV.rens down12 partsAV)⟩)]))]
def tell0C : Con Unit Unit where
  f := F_judge_Tell
  fit vs _ := zz vs
  n0 := 0
  pre _ := True
  args _ := [.agg zeroSv, .agg zeroSv]
  L0 _ := []
  outs _ := [(fun _ => True, fun _ => (.ret (.str ⟨#[]⟩), 0, []))]
/-! ### a row that is not there -/
def none1 (vs : List AV) : Option (List Nat × Unit) := match vs with
  | [.msl b 0 0 0 0] => some ([b], ())
  | _ => none
def rseal0C : Con Unit Unit where
  f := F_mummerref29_Sealed
  fit vs _ := none1 vs
  n0 := 1
  pre _ := True
  args _ := [.msl 0 0 0 0 0]
  L0 _ := []
  outs _ := [(fun _ => True, fun _ => (.ret (.sl 1 0 0 4 4 false), 2, [(1, ⟨true, 1, .ints .u8 (sealB [])⟩)]))]
def open0C : Con Unit Unit where
  f := F_wire_Open
  fit vs _ := none1 vs
  n0 := 1
  pre _ := True
  args _ := [.msl 0 0 0 0 0]
  L0 _ := []
  outs _ := [(fun _ => True, fun _ => (.ret (.tup [.nils, .int .i64 290]), 1, []))]
def dec0C : Con Unit Unit where
  f := F_file_Decode
  fit vs _ := none1 vs
  n0 := 1
  pre _ := True
  args _ := [.msl 0 0 0 0 0]
  L0 _ := []
  outs _ := [(fun _ => True, fun _ => (.ret (.tup [.agg zeroSv, .int .i64 290]), 1, []))]
/-! ### the law -/
structure FoX where
  bs : List Int
  c : Nat
  se : Bool
def foC : Con FoX Unit where
  f := F_mummerlaw30_FileOnce
  fit _ _ := none
  n0 := 1
  pre x := IsBytes x.bs ∧ x.bs.length ≤ 140737488351232 ∧ x.bs.length ≤ x.c
  args x := [.msl 0 0 0 x.bs.length x.c, .bool x.se]
  L0 x := [(0, ⟨false, 1, .ints .u8 x.bs⟩)]
  outs _ := [(fun _ => True, fun _ => (.ret (.bool true), 1, []))]
def fo0C : Con Bool Unit where
  f := F_mummerlaw30_FileOnce
  fit _ _ := none
  n0 := 1
  pre _ := True
  args se := [.msl 0 0 0 0 0, .bool se]
  L0 _ := []
  outs _ := [(fun _ => True, fun _ => (.ret (.bool true), 1, []))]
end Go.Proofs.YtmbcpmbpkdeioaaDoor.W
/- The law FileOnce: the walks of what is not there. No condition. -/
namespace Go.Proofs.YtmbcpmbpkdeioaaDoor.W
open Go Go.RowKit Go.Eng
set_option maxRecDepth 100000
set_option linter.unusedVariables false
set_option linter.unusedSimpArgs false
def bytes0_c_V (x : ByteArray) : Prop :=
  ∃ (y : Unit), True ∧ [AV.agg [AV.str x, AV.bool false, AV.fn (Fn.func 56) [] [AV.ptr 5 0 0, AV.ptr 0 0 0, AV.ptr 1 0 0]]] = [AV.agg [AV.str x, AV.bool false, AV.fn (Fn.func F_judge_bytes_1) [] [AV.ptr 5 0 0, AV.ptr 0 0 0, AV.ptr 1 0 0]]] ∧ True
theorem bytes0_c_e (x : ByteArray) : some (bytes0_c_V x) = (bytes0C.cond sp Go.Proofs.Tryd.prog (drP sp Go.Proofs.Tryd.prog) noLoops (vF sp Go.Proofs.Tryd.prog (drP sp Go.Proofs.Tryd.prog) noLoops noBaseK 40 3) 40 2 x) := by kernel_rfl
theorem bytes0_ok : bytes0C.OK Go.Proofs.Tryd.prog := by
  refine Con.by hmix (noLoops_ok _) (vF_ok (fun _ hk => drP_ok hmix _ hk) (noLoops_ok _) (noBaseK_ok _) 40 3) bytes0_c_V bytes0_c_e (fun _ _ => ?_)
  unfold bytes0_c_V
  exact ⟨(), trivial, rfl, trivial⟩
def notes0_c_V (x : Unit) : Prop :=
  ∃ (y : Unit), True ∧ [nI (-1)] = [nI (-1)] ∧ True
theorem notes0_c_e (x : Unit) : some (notes0_c_V x) = (notes0C.cond sp Go.Proofs.Tryd.prog (drP sp Go.Proofs.Tryd.prog) noLoops (vF sp Go.Proofs.Tryd.prog (drP sp Go.Proofs.Tryd.prog) noLoops noBaseK 40 3) 40 2 x) := by kernel_rfl
theorem notes0_ok : notes0C.OK Go.Proofs.Tryd.prog := by
  refine Con.by hmix (noLoops_ok _) (vF_ok (fun _ hk => drP_ok hmix _ hk) (noLoops_ok _) (noBaseK_ok _) 40 3) notes0_c_V notes0_c_e (fun _ _ => ?_)
  unfold notes0_c_V
  exact ⟨(), trivial, rfl, trivial⟩
def events0_c_V (x : Unit) : Prop :=
  ∃ (y : Unit), True ∧ [nI (-1)] = [nI (-1)] ∧ True
theorem events0_c_e (x : Unit) : some (events0_c_V x) = (events0C.cond sp Go.Proofs.Tryd.prog (drP sp Go.Proofs.Tryd.prog) noLoops (vF sp Go.Proofs.Tryd.prog (drP sp Go.Proofs.Tryd.prog) noLoops noBaseK 40 3) 40 2 x) := by kernel_rfl
theorem events0_ok : events0C.OK Go.Proofs.Tryd.prog := by
  refine Con.by hmix (noLoops_ok _) (vF_ok (fun _ hk => drP_ok hmix _ hk) (noLoops_ok _) (noBaseK_ok _) 40 3) events0_c_V events0_c_e (fun _ _ => ?_)
  unfold events0_c_V
  exact ⟨(), trivial, rfl, trivial⟩
def devices0_c_V (x : Unit) : Prop :=
  ∃ (y : Unit), True ∧ [AV.agg [nU 0, nU 0, nU 0, nU 0, nU 0, nU 0, nU 0, nU 0]] = [AV.agg [nU 0, nU 0, nU 0, nU 0, nU 0, nU 0, nU 0, nU 0]] ∧ True
theorem devices0_c_e (x : Unit) : some (devices0_c_V x) = (devices0C.cond sp Go.Proofs.Tryd.prog (drP sp Go.Proofs.Tryd.prog) noLoops noBaseK 40 2 x) := by kernel_rfl
theorem devices0_ok : devices0C.OK Go.Proofs.Tryd.prog := by
  refine Con.by hmix (noLoops_ok _) (noBaseK_ok _) devices0_c_V devices0_c_e (fun _ _ => ?_)
  unfold devices0_c_V
  exact ⟨(), trivial, rfl, trivial⟩
def part0_c_V (x : Unit) : Prop :=
  True ∧ [AV.str (ByteArray.mk (Array.mk [102, 114, 97, 109, 101, 115])), nI 0, nI 0] = [AV.str (ByteArray.mk (Array.mk [102, 114, 97, 109, 101, 115])), nI 0, nI 0] ∧ True ∧ (∀ (y : Unit), True → True ∧ [AV.str (ByteArray.mk (Array.mk [115, 116, 101, 112, 115])), nI 0, nI 0] = [AV.str (ByteArray.mk (Array.mk [115, 116, 101, 112, 115])), nI 0, nI 0] ∧ True ∧ (∀ (y : Unit), True → True ∧ [AV.agg [nU 0, nU 0, nU 0, nU 0, nU 0, nU 0, nU 0, nU 0, nU 0, nU 0, nU 0, nU 0, nU 0, nU 0, nU 0, nU 0, nU 0, nU 0, AV.bool false], AV.agg [nU 0, nU 0, nU 0, nU 0, nU 0, nU 0, nU 0, nU 0, nU 0, nU 0, nU 0, nU 0, nU 0, nU 0, nU 0, nU 0, nU 0, nU 0, AV.bool false]] = [AV.agg [nU 0, nU 0, nU 0, nU 0, nU 0, nU 0, nU 0, nU 0, nU 0, nU 0, nU 0, nU 0, nU 0, nU 0, nU 0, nU 0, nU 0, nU 0, AV.bool false], AV.agg [nU 0, nU 0, nU 0, nU 0, nU 0, nU 0, nU 0, nU 0, nU 0, nU 0, nU 0, nU 0, nU 0, nU 0, nU 0, nU 0, nU 0, nU
  0, AV.bool false]] ∧ True ∧ (∀ (y : Unit), True → True ∧ [AV.str (ByteArray.mk (Array.mk [109, 101, 109])), AV.nils, AV.nils] = [AV.str (ByteArray.mk (Array.mk [109, 101, 109])), AV.nils, AV.nils] ∧ True ∧ (∀ (y : Unit), True → True ∧ [AV.nils, AV.nils] = [AV.nils, AV.nils] ∧ True ∧ (∀ (y : Unit), True → True ∧ [AV.str (ByteArray.mk (Array.mk [110, 111, 116, 101, 115])), nI (-1)] = [AV.str (ByteArray.mk (Array.mk [110, 111, 116, 101, 115])), nI (-1)] ∧ True ∧ (∀ (y : Unit), True → True ∧ [AV.str (ByteArray.mk (Array.mk [111, 117, 116])), AV.nils, AV.nils] = [AV.str (ByteArray.mk (Array.mk [111, 117, 116])), AV.nils, AV.nils] ∧ True ∧ (∀ (y : Unit), True → True ∧ [AV.str (ByteArray.mk (Array.mk [100, 105, 115, 107])), AV.nils, AV.nils] = [AV.str (ByteArray.mk (Array.mk [100, 105, 115, 107])), AV.nils, AV.nils] ∧ True ∧ (∀ (y : Unit), True → True ∧ [AV.str (ByteArray.mk (Array.mk [113, 117,
  101, 117, 101])), AV.nils, AV.nils] = [AV.str (ByteArray.mk (Array.mk [113, 117, 101, 117, 101])), AV.nils, AV.nils] ∧ True ∧ (∀ (y : Unit), True → True ∧ [AV.nils, AV.nils] = [AV.nils, AV.nils] ∧ True ∧ (∀ (y : Unit), True → True ∧ [AV.str (ByteArray.mk (Array.mk [115, 99, 114, 105, 112, 116])), nI (-1)] = [AV.str (ByteArray.mk (Array.mk [115, 99, 114, 105, 112, 116])), nI (-1)] ∧ True ∧ (∀ (y : Unit), True → True ∧ [AV.agg [nI 0, AV.nils, nU 0, nU 0, nU 0, nU 0, nU 0, nU 0, nU 0, nU 0, nU 0, nU 0, nU 0, nU 0, nU 0, nU 0, nU 0, nU 0, nU 0, nU 0, AV.bool false, nI 0, AV.nils, AV.nils, AV.nils, AV.nils, AV.nils, nU 0, nU 0, nU 0, nU 0, nU 0, nU 0, nU 0, nU 0]] = [AV.agg [nI 0, AV.nils, nU 0, nU 0, nU 0, nU 0, nU 0, nU 0, nU 0, nU 0, nU 0, nU 0, nU 0, nU 0, nU 0, nU 0, nU 0, nU 0, nU 0, nU 0, AV.bool false, nI 0, AV.nils, AV.nils, AV.nils, AV.nils, AV.nils, nU 0, nU 0, nU 0, nU 0, nU 0, nU
  0, nU 0, nU 0]] ∧ True ∧ (∀ (y : Unit), True → True ∧ [AV.agg [nI 0, AV.nils, nU 0, nU 0, nU 0, nU 0, nU 0, nU 0, nU 0, nU 0, nU 0, nU 0, nU 0, nU 0, nU 0, nU 0, nU 0, nU 0, nU 0, nU 0, AV.bool false, nI 0, AV.nils, AV.nils, AV.nils, AV.nils, AV.nils, nU 0, nU 0, nU 0, nU 0, nU 0, nU 0, nU 0, nU 0]] = [AV.agg [nI 0, AV.nils, nU 0, nU 0, nU 0, nU 0, nU 0, nU 0, nU 0, nU 0, nU 0, nU 0, nU 0, nU 0, nU 0, nU 0, nU 0, nU 0, nU 0, nU 0, AV.bool false, nI 0, AV.nils, AV.nils, AV.nils, AV.nils, AV.nils, nU 0, nU 0, nU 0, nU 0, nU 0, nU 0, nU 0, nU 0]] ∧ True ∧ (∀ (y : Unit), True → ∃ (y : Unit), True ∧ [AV.sl 39 0 0 10 10 true] = [AV.sl 39 0 0 10 10 true] ∧ ABlk.mk true 3 (AC.cells [AV.str (ByteArray.mk (Array.mk [102, 114, 97, 109, 101, 115])), AV.bool false, AV.fn (Fn.func F_judge_numbers_1) [] [AV.ptr 2 0 0, AV.ptr 3 0 0], AV.str (ByteArray.mk (Array.mk [115, 116, 101, 112, 115])), AV.bool
  false, AV.fn (Fn.func F_judge_numbers_1) [] [AV.ptr 5 0 0, AV.ptr 6 0 0], AV.str stateS, AV.bool false, AV.fn (Fn.func F_judge_states_1) [] [AV.ptr 13 0 0, AV.ptr 14 0 0], AV.str (ByteArray.mk (Array.mk [109, 101, 109])), AV.bool false, AV.fn (Fn.func F_judge_bytes_1) [] [AV.ptr 18 0 0, AV.ptr 15 0 0, AV.ptr 16 0 0], AV.str (ByteArray.mk (Array.mk [110, 111, 116, 101, 115])), AV.bool false, AV.fn (Fn.func F_judge_list_1) [] [AV.ptr 19 0 0], AV.str (ByteArray.mk (Array.mk [111, 117, 116])), AV.bool false, AV.fn (Fn.func F_judge_bytes_1) [] [AV.ptr 24 0 0, AV.ptr 21 0 0, AV.ptr 22 0 0], AV.str (ByteArray.mk (Array.mk [100, 105, 115, 107])), AV.bool false, AV.fn (Fn.func F_judge_bytes_1) [] [AV.ptr 28 0 0, AV.ptr 25 0 0, AV.ptr 26 0 0], AV.str (ByteArray.mk (Array.mk [113, 117, 101, 117, 101])), AV.bool false, AV.fn (Fn.func F_judge_bytes_1) [] [AV.ptr 32 0 0, AV.ptr 29 0 0, AV.ptr 30 0 0],
  AV.str (ByteArray.mk (Array.mk [115, 99, 114, 105, 112, 116])), AV.bool false, AV.fn (Fn.func F_judge_list_1) [] [AV.ptr 33 0 0], AV.str (ByteArray.mk (Array.mk [100, 101, 118, 105, 99, 101, 115])), AV.bool false, AV.fn (Fn.func 40) [] []]) = ABlk.mk true 3 (AC.cells [AV.str (ByteArray.mk (Array.mk [102, 114, 97, 109, 101, 115])), AV.bool false, AV.fn (Fn.func F_judge_numbers_1) [] [AV.ptr 2 0 0, AV.ptr 3 0 0], AV.str (ByteArray.mk (Array.mk [115, 116, 101, 112, 115])), AV.bool false, AV.fn (Fn.func F_judge_numbers_1) [] [AV.ptr 5 0 0, AV.ptr 6 0 0], AV.str (ByteArray.mk (Array.mk [115, 116, 97, 116, 101])), AV.bool false, AV.fn (Fn.func F_judge_states_1) [] [AV.ptr 13 0 0, AV.ptr 14 0 0], AV.str (ByteArray.mk (Array.mk [109, 101, 109])), AV.bool false, AV.fn (Fn.func F_judge_bytes_1) [] [AV.ptr 18 0 0, AV.ptr 15 0 0, AV.ptr 16 0 0], AV.str (ByteArray.mk (Array.mk [110, 111, 116, 101,
  115])), AV.bool false, AV.fn (Fn.func F_judge_list_1) [] [AV.ptr 19 0 0], AV.str (ByteArray.mk (Array.mk [111, 117, 116])), AV.bool false, AV.fn (Fn.func F_judge_bytes_1) [] [AV.ptr 24 0 0, AV.ptr 21 0 0, AV.ptr 22 0 0], AV.str (ByteArray.mk (Array.mk [100, 105, 115, 107])), AV.bool false, AV.fn (Fn.func F_judge_bytes_1) [] [AV.ptr 28 0 0, AV.ptr 25 0 0, AV.ptr 26 0 0], AV.str (ByteArray.mk (Array.mk [113, 117, 101, 117, 101])), AV.bool false, AV.fn (Fn.func F_judge_bytes_1) [] [AV.ptr 32 0 0, AV.ptr 29 0 0, AV.ptr 30 0 0], AV.str (ByteArray.mk (Array.mk [115, 99, 114, 105, 112, 116])), AV.bool false, AV.fn (Fn.func F_judge_list_1) [] [AV.ptr 33 0 0], AV.str (ByteArray.mk (Array.mk [100, 101, 118, 105, 99, 101, 115])), AV.bool false, AV.fn (Fn.func F_judge_parts_1) [] []]) ∧ True) ∧ True) ∧ True) ∧ True) ∧ True) ∧ True) ∧ True) ∧ True) ∧ True) ∧ True) ∧ True) ∧ True) ∧ True) ∧ True
theorem part0_c_e (x : Unit) : some (part0_c_V x) = (part0C.cond sp Go.Proofs.Tryd.prog (drP sp Go.Proofs.Tryd.prog) noLoops (orK (numbersC.orc sp) (orK (listC.orc sp) (orK (bytes0C.orc sp) (orK (statesC.orc sp) (orK (devices0C.orc sp) (orK (notes0C.orc sp) (events0C.orc sp))))))) 40 2 x) := by kernel_rfl
theorem part0_ok : part0C.OK Go.Proofs.Tryd.prog := by
  refine Con.by hmix (noLoops_ok _) (orK_ok (Con.orc_ok numbersC_ok) (orK_ok (Con.orc_ok listC_ok) (orK_ok (Con.orc_ok bytes0_ok) (orK_ok (Con.orc_ok statesC_ok) (orK_ok (Con.orc_ok devices0_ok) (orK_ok (Con.orc_ok notes0_ok) (Con.orc_ok events0_ok))))))) part0_c_V part0_c_e (fun _ _ => ?_)
  unfold part0_c_V
  exact ⟨trivial, rfl, trivial, fun _ _ => ⟨trivial, rfl, trivial, fun _ _ => ⟨trivial, rfl, trivial, fun _ _ => ⟨trivial, rfl, trivial, fun _ _ => ⟨trivial, rfl, trivial, fun _ _ => ⟨trivial, rfl, trivial, fun _ _ => ⟨trivial, rfl, trivial, fun _ _ => ⟨trivial, rfl, trivial, fun _ _ => ⟨trivial, rfl, trivial, fun _ _ => ⟨trivial, rfl, trivial, fun _ _ => ⟨trivial, rfl, trivial, fun _ _ => ⟨trivial, rfl, trivial, fun _ _ => ⟨trivial, rfl, trivial, fun _ _ => ⟨(), trivial, rfl, rfl, trivial⟩, trivial⟩, trivial⟩, trivial⟩, trivial⟩, trivial⟩, trivial⟩, trivial⟩, trivial⟩, trivial⟩, trivial⟩, trivial⟩, trivial⟩, trivial⟩
def tell0_c_V (x : Unit) : Prop :=
  True ∧ [AV.agg [nI 0, AV.nils, nU 0, nU 0, nU 0, nU 0, nU 0, nU 0, nU 0, nU 0, nU 0, nU 0, nU 0, nU 0, nU 0, nU 0, nU 0, nU 0, nU 0, nU 0, AV.bool false, nI 0, AV.nils, AV.nils, AV.nils, AV.nils, AV.nils, nU 0, nU 0, nU 0, nU 0, nU 0, nU 0, nU 0, nU 0], AV.agg [nI 0, AV.nils, nU 0, nU 0, nU 0, nU 0, nU 0, nU 0, nU 0, nU 0, nU 0, nU 0, nU 0, nU 0, nU 0, nU 0, nU 0, nU 0, nU 0, nU 0, AV.bool false, nI 0, AV.nils, AV.nils, AV.nils, AV.nils, AV.nils, nU 0, nU 0, nU 0, nU 0, nU 0, nU 0, nU 0, nU 0]] = [AV.agg [nI 0, AV.nils, nU 0, nU 0, nU 0, nU 0, nU 0, nU 0, nU 0, nU 0, nU 0, nU 0, nU 0, nU 0, nU 0, nU 0, nU 0, nU 0, nU 0, nU 0, AV.bool false, nI 0, AV.nils, AV.nils, AV.nils, AV.nils, AV.nils, nU 0, nU 0, nU 0, nU 0, nU 0, nU 0, nU 0, nU 0], AV.agg [nI 0, AV.nils, nU 0, nU 0, nU 0, nU 0, nU 0, nU 0, nU 0, nU 0, nU 0, nU 0, nU 0, nU 0, nU 0, nU 0, nU 0, nU 0, nU 0, nU 0, AV.bool false, nI 0,
  AV.nils, AV.nils, AV.nils, AV.nils, AV.nils, nU 0, nU 0, nU 0, nU 0, nU 0, nU 0, nU 0, nU 0]] ∧ True ∧ (∀ (y : Unit), True → ∃ (y : Unit), True ∧ [AV.str (ByteArray.mk (Array.mk []))] = [AV.str (ByteArray.mk (Array.mk []))] ∧ True) ∧ True
theorem tell0_c_e (x : Unit) : some (tell0_c_V x) = (tell0C.cond sp Go.Proofs.Tryd.prog (drP sp Go.Proofs.Tryd.prog) noLoops (orK (part0C.orc sp) (noK tellNo)) 40 2 x) := by kernel_rfl
theorem tell0_ok : tell0C.OK Go.Proofs.Tryd.prog := by
  refine Con.by hmix (noLoops_ok _) (orK_ok (Con.orc_ok part0_ok) (noK_ok _ _)) tell0_c_V tell0_c_e (fun _ _ => ?_)
  unfold tell0_c_V
  exact ⟨trivial, rfl, trivial, fun _ _ => ⟨(), trivial, rfl, trivial⟩, trivial⟩
def rseal0_c_V (x : Unit) : Prop :=
  ∃ (y : Unit), True ∧ [AV.sl 8 0 0 4 4 false] = [AV.sl 8 0 0 4 4 false] ∧ bW [0, 0, 0, 0] = bW ((sealB [])) ∧ True
theorem rseal0_c_e (x : Unit) : some (rseal0_c_V x) = (rseal0C.cond sp Go.Proofs.Tryd.prog (drP sp Go.Proofs.Tryd.prog) noLoops (vF sp Go.Proofs.Tryd.prog (drP sp Go.Proofs.Tryd.prog) noLoops noBaseK 40 2) 40 2 x) := by kernel_rfl
theorem rseal0_ok : rseal0C.OK Go.Proofs.Tryd.prog := by
  refine Con.by hmix (noLoops_ok _) (vF_ok (fun _ hk => drP_ok hmix _ hk) (noLoops_ok _) (noBaseK_ok _) 40 2) rseal0_c_V rseal0_c_e (fun _ _ => ?_)
  unfold rseal0_c_V
  exact ⟨(), trivial, rfl, rfl, trivial⟩
def open0_c_V (x : Unit) : Prop :=
  ∃ (y : Unit), True ∧ [AV.tup [AV.nils, nI 290]] = [AV.tup [AV.nils, nI 290]] ∧ True
theorem open0_c_e (x : Unit) : some (open0_c_V x) = (open0C.cond sp Go.Proofs.Tryd.prog (drP sp Go.Proofs.Tryd.prog) noLoops noBaseK 40 2 x) := by kernel_rfl
theorem open0_ok : open0C.OK Go.Proofs.Tryd.prog := by
  refine Con.by hmix (noLoops_ok _) (noBaseK_ok _) open0_c_V open0_c_e (fun _ _ => ?_)
  unfold open0_c_V
  exact ⟨(), trivial, rfl, trivial⟩
def dec0_c_V (x : Unit) : Prop :=
  True ∧ [AV.msl 0 0 0 0 0] = [AV.msl 0 0 0 0 0] ∧ True ∧ (∀ (y : Unit), True → ∃ (y : Unit), True ∧ [AV.tup [AV.agg [nI 0, AV.nils, nU 0, nU 0, nU 0, nU 0, nU 0, nU 0, nU 0, nU 0, nU 0, nU 0, nU 0, nU 0, nU 0, nU 0, nU 0, nU 0, nU 0, nU 0, AV.bool false, nI 0, AV.nils, AV.nils, AV.nils, AV.nils, AV.nils, nU 0, nU 0, nU 0, nU 0, nU 0, nU 0, nU 0, nU 0], nI 290]] = [AV.tup [AV.agg [nI 0, AV.nils, nU 0, nU 0, nU 0, nU 0, nU 0, nU 0, nU 0, nU 0, nU 0, nU 0, nU 0, nU 0, nU 0, nU 0, nU 0, nU 0, nU 0, nU 0, AV.bool false, nI 0, AV.nils, AV.nils, AV.nils, AV.nils, AV.nils, nU 0, nU 0, nU 0, nU 0, nU 0, nU 0, nU 0, nU 0], nI 290]] ∧ True) ∧ True
theorem dec0_c_e (x : Unit) : some (dec0_c_V x) = (dec0C.condD sp Go.Proofs.Tryd.prog (drP sp Go.Proofs.Tryd.prog) noLoops (vF sp Go.Proofs.Tryd.prog (drP sp Go.Proofs.Tryd.prog) noLoops (open0C.orc sp) 40 3) (vRD sp Go.Proofs.Tryd.prog noBaseK (drP sp Go.Proofs.Tryd.prog noBaseK) noLoops 40) 2 60 x) := by kernel_rfl
theorem dec0_ok : dec0C.OK Go.Proofs.Tryd.prog := by
  refine Con.byD hmix (noLoops_ok _) (vF_ok (fun c hc => drP_ok hmix c hc) (noLoops_ok _) (Con.orc_ok open0_ok) 40 3) (vRD_ok (noBaseK_ok _) (drP_ok hmix _ (noBaseK_ok _)) (noLoops_ok _) 40) dec0_c_V dec0_c_e (fun _ _ => ?_)
  unfold dec0_c_V
  exact ⟨trivial, rfl, trivial, fun _ _ => ⟨(), trivial, rfl, trivial⟩, trivial⟩
end Go.Proofs.YtmbcpmbpkdeioaaDoor.W
/- The law FileOnce, for bytes that are sealed first and for those that are not: what is reckoned. No condition. -/
namespace Go.Proofs.YtmbcpmbpkdeioaaDoor.W
open Go Go.RowKit Go.Eng
set_option maxRecDepth 100000
set_option linter.unusedVariables false
set_option linter.unusedSimpArgs false
def onceC (se : Bool) : Con Row Unit where
  f := F_mummerlaw30_FileOnce
  fit _ _ := none
  n0 := 1
  pre x := IsBytes x.bs ∧ x.bs.length ≤ 140737488351232 ∧ x.bs.length ≤ x.c
  args x := [.msl 0 0 0 x.bs.length x.c, .bool se]
  L0 x := [(0, ⟨false, 1, .ints .u8 x.bs⟩)]
  outs _ := [(fun _ => True, fun _ => (.ret (.bool true), 1, []))]
def once0C (se : Bool) : Con Unit Unit where
  f := F_mummerlaw30_FileOnce
  fit _ _ := none
  n0 := 1
  pre _ := True
  args _ := [.msl 0 0 0 0 0, .bool se]
  L0 _ := []
  outs _ := [(fun _ => True, fun _ => (.ret (.bool true), 1, []))]
end Go.Proofs.YtmbcpmbpkdeioaaDoor.W
/- The law FileOnce: the walks. No condition. -/
namespace Go.Proofs.YtmbcpmbpkdeioaaDoor.W
open Go Go.RowKit Go.Eng
set_option maxRecDepth 100000
set_option linter.unusedVariables false
set_option linter.unusedSimpArgs false
theorem ba_refl (a : ByteArray) : (a == a) = true := by
  cases a
  exact beq_self_eq_true (α := Array UInt8) _
def on1_c_V (x : Row) : Prop :=
  x.bs.length.le 140737488355324 ∧ [] ++ [AV.msl 0 0 0 x.bs.length x.c] ++ [] = [AV.msl 0 0 0 x.bs.length x.c] ∧ (some (bR x.bs) = some (bR x.bs) ∧ True) ∧ (∀ (y : Unit), True → ((sealB x.bs).length ≤ 140737488355328 ∧ (sealB x.bs).length ≤ (sealB x.bs).length) ∧ [AV.msl 1 0 0 (sealB x.bs).length (sealB x.bs).length] = [AV.msl 1 0 0 (sealB x.bs).length (sealB x.bs).length] ∧ (some (bR ((sealB x.bs))) = some (bR ((sealB x.bs))) ∧ True) ∧ (∀ (y : DecE), decP (sealB x.bs) = DecR.ok y.d → ((y.d.mem.length ≤ 140737488351232 ∧ y.d.mem.length ≤ y.d.mem.length) ∧ (y.d.notes.length ≤ 5864062014634 ∧ y.d.notes.length ≤ y.d.notes.length) ∧ (y.d.out.length ≤ 140737488351232 ∧ y.d.out.length ≤ y.d.out.length) ∧ (y.d.disk.length ≤ 140737488351232 ∧ y.d.disk.length ≤ y.d.disk.length) ∧ (y.d.queue.length ≤ 140737488351232 ∧ y.d.queue.length ≤ y.d.queue.length) ∧ y.d.script.length ≤ 140737488351232 ∧
  y.d.script.length ≤ y.d.script.length) ∧ [] ++ [AV.agg [nI y.d.fr, AV.msl 2 0 0 y.d.mem.length y.d.mem.length, nU y.d.s.r0, nU y.d.s.r1, nU y.d.s.r2, nU y.d.s.r3, nU y.d.s.r4, nU y.d.s.r5, nU y.d.s.r6, nU y.d.s.r7, nU y.d.s.pc, nU y.d.s.ps, nU y.d.s.c0, nU y.d.s.c1, nU y.d.s.c2, nU y.d.s.c3, nU y.d.s.c4, nU y.d.s.c5, nU y.d.s.c6, nU y.d.s.c7, AV.bool y.d.s.h, nI y.d.steps, AV.msl 3 0 0 y.d.notes.length y.d.notes.length, AV.msl 4 0 0 y.d.out.length y.d.out.length, AV.msl 5 0 0 y.d.disk.length y.d.disk.length, AV.msl 6 0 0 y.d.queue.length y.d.queue.length, AV.msl 7 0 0 y.d.script.length y.d.script.length, nU (y.d.bl.getD 0 0), nU (y.d.bl.getD 1 0), nU (y.d.bl.getD 2 0), nU (y.d.bl.getD 3 0), nU (y.d.bl.getD 4 0), nU (y.d.bl.getD 5 0), nU (y.d.bl.getD 6 0), nU (y.d.bl.getD 7 0)]] ++ [] = [AV.agg [nI y.d.fr, AV.msl 2 0 0 y.d.mem.length y.d.mem.length, nU y.d.s.r0, nU y.d.s.r1, nU y.d.s.r2,
  nU y.d.s.r3, nU y.d.s.r4, nU y.d.s.r5, nU y.d.s.r6, nU y.d.s.r7, nU y.d.s.pc, nU y.d.s.ps, nU y.d.s.c0, nU y.d.s.c1, nU y.d.s.c2, nU y.d.s.c3, nU y.d.s.c4, nU y.d.s.c5, nU y.d.s.c6, nU y.d.s.c7, AV.bool y.d.s.h, nI y.d.steps, AV.msl 3 0 0 y.d.notes.length y.d.notes.length, AV.msl 4 0 0 y.d.out.length y.d.out.length, AV.msl 5 0 0 y.d.disk.length y.d.disk.length, AV.msl 6 0 0 y.d.queue.length y.d.queue.length, AV.msl 7 0 0 y.d.script.length y.d.script.length, nU (y.d.bl.getD 0 0), nU (y.d.bl.getD 1 0), nU (y.d.bl.getD 2 0), nU (y.d.bl.getD 3 0), nU (y.d.bl.getD 4 0), nU (y.d.bl.getD 5 0), nU (y.d.bl.getD 6 0), nU (y.d.bl.getD 7 0)]] ∧ (some (bR y.d.mem) = some (bR y.d.mem) ∧ some (ABlk.mk false 4 (AC.recs y.d.notes.length fun (i : Nat) => [nI (y.d.notes.getD i instInhabitedN4.default).a, nI (y.d.notes.getD i instInhabitedN4.default).c, nU (y.d.notes.getD i instInhabitedN4.default).b, nU
  (y.d.notes.getD i instInhabitedN4.default).d])) = some (ABlk.mk false 4 (AC.recs y.d.notes.length fun (i : Nat) => [nI (y.d.notes.getD i instInhabitedN4.default).a, nI (y.d.notes.getD i instInhabitedN4.default).c, nU (y.d.notes.getD i instInhabitedN4.default).b, nU (y.d.notes.getD i instInhabitedN4.default).d])) ∧ some (bR y.d.out) = some (bR y.d.out) ∧ some (bR y.d.disk) = some (bR y.d.disk) ∧ some (bR y.d.queue) = some (bR y.d.queue) ∧ some (ABlk.mk false 3 (AC.recs y.d.script.length fun (i : Nat) => [nI (y.d.script.getD i instInhabitedE3.default).a, nI (y.d.script.getD i instInhabitedE3.default).k, nB (y.d.script.getD i instInhabitedE3.default).x])) = some (ABlk.mk false 3 (AC.recs y.d.script.length fun (i : Nat) => [nI (y.d.script.getD i instInhabitedE3.default).a, nI (y.d.script.getD i instInhabitedE3.default).k, nB (y.d.script.getD i instInhabitedE3.default).x])) ∧ True) ∧ (∀ (y_1 :
  List Int), keepN (Sv.mk y.d.fr (Row.mk y.d.mem y.d.mem.length) (St.mk y.d.s.r0 y.d.s.r1 y.d.s.r2 y.d.s.r3 y.d.s.r4 y.d.s.r5 y.d.s.r6 y.d.s.r7 y.d.s.pc y.d.s.ps y.d.s.c0 y.d.s.c1 y.d.s.c2 y.d.s.c3 y.d.s.c4 y.d.s.c5 y.d.s.c6 y.d.s.c7 y.d.s.h) y.d.steps (NRow.mk y.d.notes.length y.d.notes.length (fun (i : Nat) => numAt ((fun (i : Nat) => [nI (y.d.notes.getD i instInhabitedN4.default).a, nI (y.d.notes.getD i instInhabitedN4.default).c, nU (y.d.notes.getD i instInhabitedN4.default).b, nU (y.d.notes.getD i instInhabitedN4.default).d]) i) 0) (fun (i : Nat) => numAt ((fun (i : Nat) => [nI (y.d.notes.getD i instInhabitedN4.default).a, nI (y.d.notes.getD i instInhabitedN4.default).c, nU (y.d.notes.getD i instInhabitedN4.default).b, nU (y.d.notes.getD i instInhabitedN4.default).d]) i) 1) (fun (i : Nat) => numAt ((fun (i : Nat) => [nI (y.d.notes.getD i instInhabitedN4.default).a, nI (y.d.notes.getD i
  instInhabitedN4.default).c, nU (y.d.notes.getD i instInhabitedN4.default).b, nU (y.d.notes.getD i instInhabitedN4.default).d]) i) 2) fun (i : Nat) => numAt ((fun (i : Nat) => [nI (y.d.notes.getD i instInhabitedN4.default).a, nI (y.d.notes.getD i instInhabitedN4.default).c, nU (y.d.notes.getD i instInhabitedN4.default).b, nU (y.d.notes.getD i instInhabitedN4.default).d]) i) 3) (Row.mk y.d.out y.d.out.length) (Row.mk y.d.disk y.d.disk.length) (Row.mk y.d.queue y.d.queue.length) (ERow.mk y.d.script.length y.d.script.length (fun (i : Nat) => numAt ((fun (i : Nat) => [nI (y.d.script.getD i instInhabitedE3.default).a, nI (y.d.script.getD i instInhabitedE3.default).k, nB (y.d.script.getD i instInhabitedE3.default).x]) i) 0) (fun (i : Nat) => numAt ((fun (i : Nat) => [nI (y.d.script.getD i instInhabitedE3.default).a, nI (y.d.script.getD i instInhabitedE3.default).k, nB (y.d.script.getD i
  instInhabitedE3.default).x]) i) 1) fun (i : Nat) => numAt ((fun (i : Nat) => [nI (y.d.script.getD i instInhabitedE3.default).a, nI (y.d.script.getD i instInhabitedE3.default).k, nB (y.d.script.getD i instInhabitedE3.default).x]) i) 2) (y.d.bl.getD 0 0) (y.d.bl.getD 1 0) (y.d.bl.getD 2 0) (y.d.bl.getD 3 0) (y.d.bl.getD 4 0) (y.d.bl.getD 5 0) (y.d.bl.getD 6 0) (y.d.bl.getD 7 0)) = 3 → ∃ (y : Unit), True ∧ [AV.bool false] = [AV.bool true] ∧ True) ∧ (∀ (y_1 : List Int), keepN (Sv.mk y.d.fr (Row.mk y.d.mem y.d.mem.length) (St.mk y.d.s.r0 y.d.s.r1 y.d.s.r2 y.d.s.r3 y.d.s.r4 y.d.s.r5 y.d.s.r6 y.d.s.r7 y.d.s.pc y.d.s.ps y.d.s.c0 y.d.s.c1 y.d.s.c2 y.d.s.c3 y.d.s.c4 y.d.s.c5 y.d.s.c6 y.d.s.c7 y.d.s.h) y.d.steps (NRow.mk y.d.notes.length y.d.notes.length (fun (i : Nat) => numAt ((fun (i : Nat) => [nI (y.d.notes.getD i instInhabitedN4.default).a, nI (y.d.notes.getD i instInhabitedN4.default).c, nU
  (y.d.notes.getD i instInhabitedN4.default).b, nU (y.d.notes.getD i instInhabitedN4.default).d]) i) 0) (fun (i : Nat) => numAt ((fun (i : Nat) => [nI (y.d.notes.getD i instInhabitedN4.default).a, nI (y.d.notes.getD i instInhabitedN4.default).c, nU (y.d.notes.getD i instInhabitedN4.default).b, nU (y.d.notes.getD i instInhabitedN4.default).d]) i) 1) (fun (i : Nat) => numAt ((fun (i : Nat) => [nI (y.d.notes.getD i instInhabitedN4.default).a, nI (y.d.notes.getD i instInhabitedN4.default).c, nU (y.d.notes.getD i instInhabitedN4.default).b, nU (y.d.notes.getD i instInhabitedN4.default).d]) i) 2) fun (i : Nat) => numAt ((fun (i : Nat) => [nI (y.d.notes.getD i instInhabitedN4.default).a, nI (y.d.notes.getD i instInhabitedN4.default).c, nU (y.d.notes.getD i instInhabitedN4.default).b, nU (y.d.notes.getD i instInhabitedN4.default).d]) i) 3) (Row.mk y.d.out y.d.out.length) (Row.mk y.d.disk
  y.d.disk.length) (Row.mk y.d.queue y.d.queue.length) (ERow.mk y.d.script.length y.d.script.length (fun (i : Nat) => numAt ((fun (i : Nat) => [nI (y.d.script.getD i instInhabitedE3.default).a, nI (y.d.script.getD i instInhabitedE3.default).k, nB (y.d.script.getD i instInhabitedE3.default).x]) i) 0) (fun (i : Nat) => numAt ((fun (i : Nat) => [nI (y.d.script.getD i instInhabitedE3.default).a, nI (y.d.script.getD i instInhabitedE3.default).k, nB (y.d.script.getD i instInhabitedE3.default).x]) i) 1) fun (i : Nat) => numAt ((fun (i : Nat) => [nI (y.d.script.getD i instInhabitedE3.default).a, nI (y.d.script.getD i instInhabitedE3.default).k, nB (y.d.script.getD i instInhabitedE3.default).x]) i) 2) (y.d.bl.getD 0 0) (y.d.bl.getD 1 0) (y.d.bl.getD 2 0) (y.d.bl.getD 3 0) (y.d.bl.getD 4 0) (y.d.bl.getD 5 0) (y.d.bl.getD 6 0) (y.d.bl.getD 7 0)) = 2 → ∃ (y : Unit), True ∧ [AV.bool false] = [AV.bool
  true] ∧ True) ∧ (∀ (y_1 : List Int), keepN (Sv.mk y.d.fr (Row.mk y.d.mem y.d.mem.length) (St.mk y.d.s.r0 y.d.s.r1 y.d.s.r2 y.d.s.r3 y.d.s.r4 y.d.s.r5 y.d.s.r6 y.d.s.r7 y.d.s.pc y.d.s.ps y.d.s.c0 y.d.s.c1 y.d.s.c2 y.d.s.c3 y.d.s.c4 y.d.s.c5 y.d.s.c6 y.d.s.c7 y.d.s.h) y.d.steps (NRow.mk y.d.notes.length y.d.notes.length (fun (i : Nat) => numAt ((fun (i : Nat) => [nI (y.d.notes.getD i instInhabitedN4.default).a, nI (y.d.notes.getD i instInhabitedN4.default).c, nU (y.d.notes.getD i instInhabitedN4.default).b, nU (y.d.notes.getD i instInhabitedN4.default).d]) i) 0) (fun (i : Nat) => numAt ((fun (i : Nat) => [nI (y.d.notes.getD i instInhabitedN4.default).a, nI (y.d.notes.getD i instInhabitedN4.default).c, nU (y.d.notes.getD i instInhabitedN4.default).b, nU (y.d.notes.getD i instInhabitedN4.default).d]) i) 1) (fun (i : Nat) => numAt ((fun (i : Nat) => [nI (y.d.notes.getD i
  instInhabitedN4.default).a, nI (y.d.notes.getD i instInhabitedN4.default).c, nU (y.d.notes.getD i instInhabitedN4.default).b, nU (y.d.notes.getD i instInhabitedN4.default).d]) i) 2) fun (i : Nat) => numAt ((fun (i : Nat) => [nI (y.d.notes.getD i instInhabitedN4.default).a, nI (y.d.notes.getD i instInhabitedN4.default).c, nU (y.d.notes.getD i instInhabitedN4.default).b, nU (y.d.notes.getD i instInhabitedN4.default).d]) i) 3) (Row.mk y.d.out y.d.out.length) (Row.mk y.d.disk y.d.disk.length) (Row.mk y.d.queue y.d.queue.length) (ERow.mk y.d.script.length y.d.script.length (fun (i : Nat) => numAt ((fun (i : Nat) => [nI (y.d.script.getD i instInhabitedE3.default).a, nI (y.d.script.getD i instInhabitedE3.default).k, nB (y.d.script.getD i instInhabitedE3.default).x]) i) 0) (fun (i : Nat) => numAt ((fun (i : Nat) => [nI (y.d.script.getD i instInhabitedE3.default).a, nI (y.d.script.getD i
  instInhabitedE3.default).k, nB (y.d.script.getD i instInhabitedE3.default).x]) i) 1) fun (i : Nat) => numAt ((fun (i : Nat) => [nI (y.d.script.getD i instInhabitedE3.default).a, nI (y.d.script.getD i instInhabitedE3.default).k, nB (y.d.script.getD i instInhabitedE3.default).x]) i) 2) (y.d.bl.getD 0 0) (y.d.bl.getD 1 0) (y.d.bl.getD 2 0) (y.d.bl.getD 3 0) (y.d.bl.getD 4 0) (y.d.bl.getD 5 0) (y.d.bl.getD 6 0) (y.d.bl.getD 7 0)) = 0 ∧ y_1 = sealB (encL (Sv.mk y.d.fr (Row.mk y.d.mem y.d.mem.length) (St.mk y.d.s.r0 y.d.s.r1 y.d.s.r2 y.d.s.r3 y.d.s.r4 y.d.s.r5 y.d.s.r6 y.d.s.r7 y.d.s.pc y.d.s.ps y.d.s.c0 y.d.s.c1 y.d.s.c2 y.d.s.c3 y.d.s.c4 y.d.s.c5 y.d.s.c6 y.d.s.c7 y.d.s.h) y.d.steps (NRow.mk y.d.notes.length y.d.notes.length (fun (i : Nat) => numAt ((fun (i : Nat) => [nI (y.d.notes.getD i instInhabitedN4.default).a, nI (y.d.notes.getD i instInhabitedN4.default).c, nU (y.d.notes.getD i
  instInhabitedN4.default).b, nU (y.d.notes.getD i instInhabitedN4.default).d]) i) 0) (fun (i : Nat) => numAt ((fun (i : Nat) => [nI (y.d.notes.getD i instInhabitedN4.default).a, nI (y.d.notes.getD i instInhabitedN4.default).c, nU (y.d.notes.getD i instInhabitedN4.default).b, nU (y.d.notes.getD i instInhabitedN4.default).d]) i) 1) (fun (i : Nat) => numAt ((fun (i : Nat) => [nI (y.d.notes.getD i instInhabitedN4.default).a, nI (y.d.notes.getD i instInhabitedN4.default).c, nU (y.d.notes.getD i instInhabitedN4.default).b, nU (y.d.notes.getD i instInhabitedN4.default).d]) i) 2) fun (i : Nat) => numAt ((fun (i : Nat) => [nI (y.d.notes.getD i instInhabitedN4.default).a, nI (y.d.notes.getD i instInhabitedN4.default).c, nU (y.d.notes.getD i instInhabitedN4.default).b, nU (y.d.notes.getD i instInhabitedN4.default).d]) i) 3) (Row.mk y.d.out y.d.out.length) (Row.mk y.d.disk y.d.disk.length) (Row.mk
  y.d.queue y.d.queue.length) (ERow.mk y.d.script.length y.d.script.length (fun (i : Nat) => numAt ((fun (i : Nat) => [nI (y.d.script.getD i instInhabitedE3.default).a, nI (y.d.script.getD i instInhabitedE3.default).k, nB (y.d.script.getD i instInhabitedE3.default).x]) i) 0) (fun (i : Nat) => numAt ((fun (i : Nat) => [nI (y.d.script.getD i instInhabitedE3.default).a, nI (y.d.script.getD i instInhabitedE3.default).k, nB (y.d.script.getD i instInhabitedE3.default).x]) i) 1) fun (i : Nat) => numAt ((fun (i : Nat) => [nI (y.d.script.getD i instInhabitedE3.default).a, nI (y.d.script.getD i instInhabitedE3.default).k, nB (y.d.script.getD i instInhabitedE3.default).x]) i) 2) (y.d.bl.getD 0 0) (y.d.bl.getD 1 0) (y.d.bl.getD 2 0) (y.d.bl.getD 3 0) (y.d.bl.getD 4 0) (y.d.bl.getD 5 0) (y.d.bl.getD 6 0) (y.d.bl.getD 7 0))) → sp (decide (0 + y_1.length ≤ y_1.length)) (sp (decide (0 + (sealB x.bs).length
  ≤ (sealB x.bs).length)) (sp (bif true then bif false then !ByteArray.mk (Array.mk (List.map (fun (n : Int) => UInt8.ofNat n.toNat) (List.take y_1.length (List.drop 0 y_1)))) == ByteArray.mk (Array.mk (List.map (fun (n : Int) => UInt8.ofNat n.toNat) (List.take (sealB x.bs).length (List.drop 0 (sealB x.bs))))) else ByteArray.mk (Array.mk (List.map (fun (n : Int) => UInt8.ofNat n.toNat) (List.take y_1.length (List.drop 0 y_1)))) == ByteArray.mk (Array.mk (List.map (fun (n : Int) => UInt8.ofNat n.toNat) (List.take (sealB x.bs).length (List.drop 0 (sealB x.bs))))) else false) (True ∧ ([] : List AV) = [] ∧ True ∧ (∀ (y : Unit), True → ∃ (y : Unit), True ∧ [AV.bool true] = [AV.bool true] ∧ True) ∧ True) (∃ (y : Unit), True ∧ [AV.bool false] = [AV.bool true] ∧ True)) False) False) ∧ True) ∧ (∀ (y : DecE), decP (sealB x.bs) = DecR.no y.e → sp (y.e != 0) (True ∧ [AV.agg [nI 0, AV.nils, nU 0, nU 0,
  nU 0, nU 0, nU 0, nU 0, nU 0, nU 0, nU 0, nU 0, nU 0, nU 0, nU 0, nU 0, nU 0, nU 0, nU 0, nU 0, AV.bool false, nI 0, AV.nils, AV.nils, AV.nils, AV.nils, AV.nils, nU 0, nU 0, nU 0, nU 0, nU 0, nU 0, nU 0, nU 0], AV.agg [nI 0, AV.nils, nU 0, nU 0, nU 0, nU 0, nU 0, nU 0, nU 0, nU 0, nU 0, nU 0, nU 0, nU 0, nU 0, nU 0, nU 0, nU 0, nU 0, nU 0, AV.bool false, nI 0, AV.nils, AV.nils, AV.nils, AV.nils, AV.nils, nU 0, nU 0, nU 0, nU 0, nU 0, nU 0, nU 0, nU 0]] = [AV.agg [nI 0, AV.nils, nU 0, nU 0, nU 0, nU 0, nU 0, nU 0, nU 0, nU 0, nU 0, nU 0, nU 0, nU 0, nU 0, nU 0, nU 0, nU 0, nU 0, nU 0, AV.bool false, nI 0, AV.nils, AV.nils, AV.nils, AV.nils, AV.nils, nU 0, nU 0, nU 0, nU 0, nU 0, nU 0, nU 0, nU 0], AV.agg [nI 0, AV.nils, nU 0, nU 0, nU 0, nU 0, nU 0, nU 0, nU 0, nU 0, nU 0, nU 0, nU 0, nU 0, nU 0, nU 0, nU 0, nU 0, nU 0, nU 0, AV.bool false, nI 0, AV.nils, AV.nils, AV.nils, AV.nils,
  AV.nils, nU 0, nU 0, nU 0, nU 0, nU 0, nU 0, nU 0, nU 0]] ∧ True ∧ (∀ (y : Unit), True → True ∧ ([] : List AV) = [] ∧ True ∧ (∀ (y : Unit), True → ∃ (y : Unit), True ∧ [AV.bool true] = [AV.bool true] ∧ True) ∧ True) ∧ True) False) ∧ True) ∧ True
theorem on1_c_e (x : Row) : some (on1_c_V x) = ((onceC true).cond sp Go.Proofs.Tryd.prog (drP sp Go.Proofs.Tryd.prog) noLoops (orK (rsealC.orc sp) (orK (looseK F_file_Decode 0 [] (decC.orc sp)) (orK (tell0C.orc sp) (orK (encC.orc sp) (worksC.orc sp))))) 40 2 x) := by kernel_rfl
set_option maxRecDepth 100000 in
set_option maxHeartbeats 4000000 in
theorem on1_ok : (onceC true).OK Go.Proofs.Tryd.prog := by
  refine Con.by hmix (noLoops_ok _) (orK_ok (Con.orc_ok rseal_ok) (orK_ok (looseK_ok (Con.orc_ok decC_ok)) (orK_ok (Con.orc_ok tell0_ok) (orK_ok (Con.orc_ok encC_ok) (Con.orc_ok works_ok))))) on1_c_V on1_c_e (fun x hx => ?_)
  obtain ⟨hb, hl, hc⟩ := hx
  have hs : (sealB x.bs).length = x.bs.length + 4 := by simp [sealB]
  have hle : x.bs.length.le 140737488355324 := (by omega : x.bs.length ≤ 140737488355324)
  have hB : IsBytes (sealB x.bs) := sealB_bytes hb
  have hL : (sealB x.bs).length ≤ 140737488355328 := by omega
  unfold on1_c_V
  refine ⟨hle, rfl, ⟨rfl, trivial⟩, (fun _ _ => ⟨⟨hL, Nat.le_refl _⟩, rfl, ⟨rfl, trivial⟩, (fun d hd => ?_), (fun d hd => ?_), trivial⟩), trivial⟩
  · obtain ⟨d, e⟩ := d
    have hd : decP (sealB x.bs) = .ok d := hd
    obtain ⟨f1, f2, f3⟩ := once hB hL hd
    refine ⟨f1, rfl, ⟨rfl, rfl, rfl, rfl, rfl, rfl, trivial⟩, (fun y h => ?_), (fun y h => ?_), (fun y h => ?_), trivial⟩
    · have h : keepN d.sv = 3 := h
      omega
    · have h : keepN d.sv = 2 := h
      omega
    · have h : y = sealB (encL d.sv) := h.2
      have h : y = (sealB x.bs) := h.trans f3.symm
      rw [h]
      exact spT (by simp) (spT (by simp) (spT (by simp [ba_refl]) ⟨trivial, rfl, trivial, (fun _ _ => ⟨(), trivial, rfl, trivial⟩), trivial⟩))
  · have hd : decP (sealB x.bs) = .no d.e := hd
    have he := decP_nz hd
    exact spT (by simpa using he) ⟨trivial, rfl, trivial, (fun _ _ => ⟨trivial, rfl, trivial, (fun _ _ => ⟨(), trivial, rfl, trivial⟩), trivial⟩), trivial⟩
def on2_c_V (x : Row) : Prop :=
  (x.bs.length ≤ 140737488355328 ∧ x.bs.length ≤ x.c) ∧ [] ++ [AV.msl 0 0 0 x.bs.length x.c] ++ [] = [AV.msl 0 0 0 x.bs.length x.c] ∧ (some (bR x.bs) = some (bR x.bs) ∧ True) ∧ (∀ (y : DecE), decP x.bs = DecR.ok y.d → ((y.d.mem.length ≤ 140737488351232 ∧ y.d.mem.length ≤ y.d.mem.length) ∧ (y.d.notes.length ≤ 5864062014634 ∧ y.d.notes.length ≤ y.d.notes.length) ∧ (y.d.out.length ≤ 140737488351232 ∧ y.d.out.length ≤ y.d.out.length) ∧ (y.d.disk.length ≤ 140737488351232 ∧ y.d.disk.length ≤ y.d.disk.length) ∧ (y.d.queue.length ≤ 140737488351232 ∧ y.d.queue.length ≤ y.d.queue.length) ∧ y.d.script.length ≤ 140737488351232 ∧ y.d.script.length ≤ y.d.script.length) ∧ [] ++ [AV.agg [nI y.d.fr, AV.msl 1 0 0 y.d.mem.length y.d.mem.length, nU y.d.s.r0, nU y.d.s.r1, nU y.d.s.r2, nU y.d.s.r3, nU y.d.s.r4, nU y.d.s.r5, nU y.d.s.r6, nU y.d.s.r7, nU y.d.s.pc, nU y.d.s.ps, nU y.d.s.c0, nU y.d.s.c1, nU
  y.d.s.c2, nU y.d.s.c3, nU y.d.s.c4, nU y.d.s.c5, nU y.d.s.c6, nU y.d.s.c7, AV.bool y.d.s.h, nI y.d.steps, AV.msl 2 0 0 y.d.notes.length y.d.notes.length, AV.msl 3 0 0 y.d.out.length y.d.out.length, AV.msl 4 0 0 y.d.disk.length y.d.disk.length, AV.msl 5 0 0 y.d.queue.length y.d.queue.length, AV.msl 6 0 0 y.d.script.length y.d.script.length, nU (y.d.bl.getD 0 0), nU (y.d.bl.getD 1 0), nU (y.d.bl.getD 2 0), nU (y.d.bl.getD 3 0), nU (y.d.bl.getD 4 0), nU (y.d.bl.getD 5 0), nU (y.d.bl.getD 6 0), nU (y.d.bl.getD 7 0)]] ++ [] = [AV.agg [nI y.d.fr, AV.msl 1 0 0 y.d.mem.length y.d.mem.length, nU y.d.s.r0, nU y.d.s.r1, nU y.d.s.r2, nU y.d.s.r3, nU y.d.s.r4, nU y.d.s.r5, nU y.d.s.r6, nU y.d.s.r7, nU y.d.s.pc, nU y.d.s.ps, nU y.d.s.c0, nU y.d.s.c1, nU y.d.s.c2, nU y.d.s.c3, nU y.d.s.c4, nU y.d.s.c5, nU y.d.s.c6, nU y.d.s.c7, AV.bool y.d.s.h, nI y.d.steps, AV.msl 2 0 0 y.d.notes.length
  y.d.notes.length, AV.msl 3 0 0 y.d.out.length y.d.out.length, AV.msl 4 0 0 y.d.disk.length y.d.disk.length, AV.msl 5 0 0 y.d.queue.length y.d.queue.length, AV.msl 6 0 0 y.d.script.length y.d.script.length, nU (y.d.bl.getD 0 0), nU (y.d.bl.getD 1 0), nU (y.d.bl.getD 2 0), nU (y.d.bl.getD 3 0), nU (y.d.bl.getD 4 0), nU (y.d.bl.getD 5 0), nU (y.d.bl.getD 6 0), nU (y.d.bl.getD 7 0)]] ∧ (some (bR y.d.mem) = some (bR y.d.mem) ∧ some (ABlk.mk false 4 (AC.recs y.d.notes.length fun (i : Nat) => [nI (y.d.notes.getD i instInhabitedN4.default).a, nI (y.d.notes.getD i instInhabitedN4.default).c, nU (y.d.notes.getD i instInhabitedN4.default).b, nU (y.d.notes.getD i instInhabitedN4.default).d])) = some (ABlk.mk false 4 (AC.recs y.d.notes.length fun (i : Nat) => [nI (y.d.notes.getD i instInhabitedN4.default).a, nI (y.d.notes.getD i instInhabitedN4.default).c, nU (y.d.notes.getD i
  instInhabitedN4.default).b, nU (y.d.notes.getD i instInhabitedN4.default).d])) ∧ some (bR y.d.out) = some (bR y.d.out) ∧ some (bR y.d.disk) = some (bR y.d.disk) ∧ some (bR y.d.queue) = some (bR y.d.queue) ∧ some (ABlk.mk false 3 (AC.recs y.d.script.length fun (i : Nat) => [nI (y.d.script.getD i instInhabitedE3.default).a, nI (y.d.script.getD i instInhabitedE3.default).k, nB (y.d.script.getD i instInhabitedE3.default).x])) = some (ABlk.mk false 3 (AC.recs y.d.script.length fun (i : Nat) => [nI (y.d.script.getD i instInhabitedE3.default).a, nI (y.d.script.getD i instInhabitedE3.default).k, nB (y.d.script.getD i instInhabitedE3.default).x])) ∧ True) ∧ (∀ (y_1 : List Int), keepN (Sv.mk y.d.fr (Row.mk y.d.mem y.d.mem.length) (St.mk y.d.s.r0 y.d.s.r1 y.d.s.r2 y.d.s.r3 y.d.s.r4 y.d.s.r5 y.d.s.r6 y.d.s.r7 y.d.s.pc y.d.s.ps y.d.s.c0 y.d.s.c1 y.d.s.c2 y.d.s.c3 y.d.s.c4 y.d.s.c5 y.d.s.c6 y.d.s.c7
  y.d.s.h) y.d.steps (NRow.mk y.d.notes.length y.d.notes.length (fun (i : Nat) => numAt ((fun (i : Nat) => [nI (y.d.notes.getD i instInhabitedN4.default).a, nI (y.d.notes.getD i instInhabitedN4.default).c, nU (y.d.notes.getD i instInhabitedN4.default).b, nU (y.d.notes.getD i instInhabitedN4.default).d]) i) 0) (fun (i : Nat) => numAt ((fun (i : Nat) => [nI (y.d.notes.getD i instInhabitedN4.default).a, nI (y.d.notes.getD i instInhabitedN4.default).c, nU (y.d.notes.getD i instInhabitedN4.default).b, nU (y.d.notes.getD i instInhabitedN4.default).d]) i) 1) (fun (i : Nat) => numAt ((fun (i : Nat) => [nI (y.d.notes.getD i instInhabitedN4.default).a, nI (y.d.notes.getD i instInhabitedN4.default).c, nU (y.d.notes.getD i instInhabitedN4.default).b, nU (y.d.notes.getD i instInhabitedN4.default).d]) i) 2) fun (i : Nat) => numAt ((fun (i : Nat) => [nI (y.d.notes.getD i instInhabitedN4.default).a, nI
  (y.d.notes.getD i instInhabitedN4.default).c, nU (y.d.notes.getD i instInhabitedN4.default).b, nU (y.d.notes.getD i instInhabitedN4.default).d]) i) 3) (Row.mk y.d.out y.d.out.length) (Row.mk y.d.disk y.d.disk.length) (Row.mk y.d.queue y.d.queue.length) (ERow.mk y.d.script.length y.d.script.length (fun (i : Nat) => numAt ((fun (i : Nat) => [nI (y.d.script.getD i instInhabitedE3.default).a, nI (y.d.script.getD i instInhabitedE3.default).k, nB (y.d.script.getD i instInhabitedE3.default).x]) i) 0) (fun (i : Nat) => numAt ((fun (i : Nat) => [nI (y.d.script.getD i instInhabitedE3.default).a, nI (y.d.script.getD i instInhabitedE3.default).k, nB (y.d.script.getD i instInhabitedE3.default).x]) i) 1) fun (i : Nat) => numAt ((fun (i : Nat) => [nI (y.d.script.getD i instInhabitedE3.default).a, nI (y.d.script.getD i instInhabitedE3.default).k, nB (y.d.script.getD i instInhabitedE3.default).x]) i) 2)
  (y.d.bl.getD 0 0) (y.d.bl.getD 1 0) (y.d.bl.getD 2 0) (y.d.bl.getD 3 0) (y.d.bl.getD 4 0) (y.d.bl.getD 5 0) (y.d.bl.getD 6 0) (y.d.bl.getD 7 0)) = 3 → ∃ (y : Unit), True ∧ [AV.bool false] = [AV.bool true] ∧ True) ∧ (∀ (y_1 : List Int), keepN (Sv.mk y.d.fr (Row.mk y.d.mem y.d.mem.length) (St.mk y.d.s.r0 y.d.s.r1 y.d.s.r2 y.d.s.r3 y.d.s.r4 y.d.s.r5 y.d.s.r6 y.d.s.r7 y.d.s.pc y.d.s.ps y.d.s.c0 y.d.s.c1 y.d.s.c2 y.d.s.c3 y.d.s.c4 y.d.s.c5 y.d.s.c6 y.d.s.c7 y.d.s.h) y.d.steps (NRow.mk y.d.notes.length y.d.notes.length (fun (i : Nat) => numAt ((fun (i : Nat) => [nI (y.d.notes.getD i instInhabitedN4.default).a, nI (y.d.notes.getD i instInhabitedN4.default).c, nU (y.d.notes.getD i instInhabitedN4.default).b, nU (y.d.notes.getD i instInhabitedN4.default).d]) i) 0) (fun (i : Nat) => numAt ((fun (i : Nat) => [nI (y.d.notes.getD i instInhabitedN4.default).a, nI (y.d.notes.getD i
  instInhabitedN4.default).c, nU (y.d.notes.getD i instInhabitedN4.default).b, nU (y.d.notes.getD i instInhabitedN4.default).d]) i) 1) (fun (i : Nat) => numAt ((fun (i : Nat) => [nI (y.d.notes.getD i instInhabitedN4.default).a, nI (y.d.notes.getD i instInhabitedN4.default).c, nU (y.d.notes.getD i instInhabitedN4.default).b, nU (y.d.notes.getD i instInhabitedN4.default).d]) i) 2) fun (i : Nat) => numAt ((fun (i : Nat) => [nI (y.d.notes.getD i instInhabitedN4.default).a, nI (y.d.notes.getD i instInhabitedN4.default).c, nU (y.d.notes.getD i instInhabitedN4.default).b, nU (y.d.notes.getD i instInhabitedN4.default).d]) i) 3) (Row.mk y.d.out y.d.out.length) (Row.mk y.d.disk y.d.disk.length) (Row.mk y.d.queue y.d.queue.length) (ERow.mk y.d.script.length y.d.script.length (fun (i : Nat) => numAt ((fun (i : Nat) => [nI (y.d.script.getD i instInhabitedE3.default).a, nI (y.d.script.getD i
  instInhabitedE3.default).k, nB (y.d.script.getD i instInhabitedE3.default).x]) i) 0) (fun (i : Nat) => numAt ((fun (i : Nat) => [nI (y.d.script.getD i instInhabitedE3.default).a, nI (y.d.script.getD i instInhabitedE3.default).k, nB (y.d.script.getD i instInhabitedE3.default).x]) i) 1) fun (i : Nat) => numAt ((fun (i : Nat) => [nI (y.d.script.getD i instInhabitedE3.default).a, nI (y.d.script.getD i instInhabitedE3.default).k, nB (y.d.script.getD i instInhabitedE3.default).x]) i) 2) (y.d.bl.getD 0 0) (y.d.bl.getD 1 0) (y.d.bl.getD 2 0) (y.d.bl.getD 3 0) (y.d.bl.getD 4 0) (y.d.bl.getD 5 0) (y.d.bl.getD 6 0) (y.d.bl.getD 7 0)) = 2 → ∃ (y : Unit), True ∧ [AV.bool false] = [AV.bool true] ∧ True) ∧ (∀ (y_1 : List Int), keepN (Sv.mk y.d.fr (Row.mk y.d.mem y.d.mem.length) (St.mk y.d.s.r0 y.d.s.r1 y.d.s.r2 y.d.s.r3 y.d.s.r4 y.d.s.r5 y.d.s.r6 y.d.s.r7 y.d.s.pc y.d.s.ps y.d.s.c0 y.d.s.c1 y.d.s.c2
  y.d.s.c3 y.d.s.c4 y.d.s.c5 y.d.s.c6 y.d.s.c7 y.d.s.h) y.d.steps (NRow.mk y.d.notes.length y.d.notes.length (fun (i : Nat) => numAt ((fun (i : Nat) => [nI (y.d.notes.getD i instInhabitedN4.default).a, nI (y.d.notes.getD i instInhabitedN4.default).c, nU (y.d.notes.getD i instInhabitedN4.default).b, nU (y.d.notes.getD i instInhabitedN4.default).d]) i) 0) (fun (i : Nat) => numAt ((fun (i : Nat) => [nI (y.d.notes.getD i instInhabitedN4.default).a, nI (y.d.notes.getD i instInhabitedN4.default).c, nU (y.d.notes.getD i instInhabitedN4.default).b, nU (y.d.notes.getD i instInhabitedN4.default).d]) i) 1) (fun (i : Nat) => numAt ((fun (i : Nat) => [nI (y.d.notes.getD i instInhabitedN4.default).a, nI (y.d.notes.getD i instInhabitedN4.default).c, nU (y.d.notes.getD i instInhabitedN4.default).b, nU (y.d.notes.getD i instInhabitedN4.default).d]) i) 2) fun (i : Nat) => numAt ((fun (i : Nat) => [nI
  (y.d.notes.getD i instInhabitedN4.default).a, nI (y.d.notes.getD i instInhabitedN4.default).c, nU (y.d.notes.getD i instInhabitedN4.default).b, nU (y.d.notes.getD i instInhabitedN4.default).d]) i) 3) (Row.mk y.d.out y.d.out.length) (Row.mk y.d.disk y.d.disk.length) (Row.mk y.d.queue y.d.queue.length) (ERow.mk y.d.script.length y.d.script.length (fun (i : Nat) => numAt ((fun (i : Nat) => [nI (y.d.script.getD i instInhabitedE3.default).a, nI (y.d.script.getD i instInhabitedE3.default).k, nB (y.d.script.getD i instInhabitedE3.default).x]) i) 0) (fun (i : Nat) => numAt ((fun (i : Nat) => [nI (y.d.script.getD i instInhabitedE3.default).a, nI (y.d.script.getD i instInhabitedE3.default).k, nB (y.d.script.getD i instInhabitedE3.default).x]) i) 1) fun (i : Nat) => numAt ((fun (i : Nat) => [nI (y.d.script.getD i instInhabitedE3.default).a, nI (y.d.script.getD i instInhabitedE3.default).k, nB
  (y.d.script.getD i instInhabitedE3.default).x]) i) 2) (y.d.bl.getD 0 0) (y.d.bl.getD 1 0) (y.d.bl.getD 2 0) (y.d.bl.getD 3 0) (y.d.bl.getD 4 0) (y.d.bl.getD 5 0) (y.d.bl.getD 6 0) (y.d.bl.getD 7 0)) = 0 ∧ y_1 = sealB (encL (Sv.mk y.d.fr (Row.mk y.d.mem y.d.mem.length) (St.mk y.d.s.r0 y.d.s.r1 y.d.s.r2 y.d.s.r3 y.d.s.r4 y.d.s.r5 y.d.s.r6 y.d.s.r7 y.d.s.pc y.d.s.ps y.d.s.c0 y.d.s.c1 y.d.s.c2 y.d.s.c3 y.d.s.c4 y.d.s.c5 y.d.s.c6 y.d.s.c7 y.d.s.h) y.d.steps (NRow.mk y.d.notes.length y.d.notes.length (fun (i : Nat) => numAt ((fun (i : Nat) => [nI (y.d.notes.getD i instInhabitedN4.default).a, nI (y.d.notes.getD i instInhabitedN4.default).c, nU (y.d.notes.getD i instInhabitedN4.default).b, nU (y.d.notes.getD i instInhabitedN4.default).d]) i) 0) (fun (i : Nat) => numAt ((fun (i : Nat) => [nI (y.d.notes.getD i instInhabitedN4.default).a, nI (y.d.notes.getD i instInhabitedN4.default).c, nU
  (y.d.notes.getD i instInhabitedN4.default).b, nU (y.d.notes.getD i instInhabitedN4.default).d]) i) 1) (fun (i : Nat) => numAt ((fun (i : Nat) => [nI (y.d.notes.getD i instInhabitedN4.default).a, nI (y.d.notes.getD i instInhabitedN4.default).c, nU (y.d.notes.getD i instInhabitedN4.default).b, nU (y.d.notes.getD i instInhabitedN4.default).d]) i) 2) fun (i : Nat) => numAt ((fun (i : Nat) => [nI (y.d.notes.getD i instInhabitedN4.default).a, nI (y.d.notes.getD i instInhabitedN4.default).c, nU (y.d.notes.getD i instInhabitedN4.default).b, nU (y.d.notes.getD i instInhabitedN4.default).d]) i) 3) (Row.mk y.d.out y.d.out.length) (Row.mk y.d.disk y.d.disk.length) (Row.mk y.d.queue y.d.queue.length) (ERow.mk y.d.script.length y.d.script.length (fun (i : Nat) => numAt ((fun (i : Nat) => [nI (y.d.script.getD i instInhabitedE3.default).a, nI (y.d.script.getD i instInhabitedE3.default).k, nB
  (y.d.script.getD i instInhabitedE3.default).x]) i) 0) (fun (i : Nat) => numAt ((fun (i : Nat) => [nI (y.d.script.getD i instInhabitedE3.default).a, nI (y.d.script.getD i instInhabitedE3.default).k, nB (y.d.script.getD i instInhabitedE3.default).x]) i) 1) fun (i : Nat) => numAt ((fun (i : Nat) => [nI (y.d.script.getD i instInhabitedE3.default).a, nI (y.d.script.getD i instInhabitedE3.default).k, nB (y.d.script.getD i instInhabitedE3.default).x]) i) 2) (y.d.bl.getD 0 0) (y.d.bl.getD 1 0) (y.d.bl.getD 2 0) (y.d.bl.getD 3 0) (y.d.bl.getD 4 0) (y.d.bl.getD 5 0) (y.d.bl.getD 6 0) (y.d.bl.getD 7 0))) → sp (decide (0 + y_1.length ≤ y_1.length)) (sp (decide (0 + x.bs.length ≤ x.bs.length)) (sp (bif true then bif false then !ByteArray.mk (Array.mk (List.map (fun (n : Int) => UInt8.ofNat n.toNat) (List.take y_1.length (List.drop 0 y_1)))) == ByteArray.mk (Array.mk (List.map (fun (n : Int) =>
  UInt8.ofNat n.toNat) (List.take x.bs.length (List.drop 0 x.bs)))) else ByteArray.mk (Array.mk (List.map (fun (n : Int) => UInt8.ofNat n.toNat) (List.take y_1.length (List.drop 0 y_1)))) == ByteArray.mk (Array.mk (List.map (fun (n : Int) => UInt8.ofNat n.toNat) (List.take x.bs.length (List.drop 0 x.bs)))) else false) (True ∧ ([] : List AV) = [] ∧ True ∧ (∀ (y : Unit), True → ∃ (y : Unit), True ∧ [AV.bool true] = [AV.bool true] ∧ True) ∧ True) (∃ (y : Unit), True ∧ [AV.bool false] = [AV.bool true] ∧ True)) False) False) ∧ True) ∧ (∀ (y : DecE), decP x.bs = DecR.no y.e → sp (y.e != 0) (True ∧ [AV.agg [nI 0, AV.nils, nU 0, nU 0, nU 0, nU 0, nU 0, nU 0, nU 0, nU 0, nU 0, nU 0, nU 0, nU 0, nU 0, nU 0, nU 0, nU 0, nU 0, nU 0, AV.bool false, nI 0, AV.nils, AV.nils, AV.nils, AV.nils, AV.nils, nU 0, nU 0, nU 0, nU 0, nU 0, nU 0, nU 0, nU 0], AV.agg [nI 0, AV.nils, nU 0, nU 0, nU 0, nU 0, nU 0, nU
  0, nU 0, nU 0, nU 0, nU 0, nU 0, nU 0, nU 0, nU 0, nU 0, nU 0, nU 0, nU 0, AV.bool false, nI 0, AV.nils, AV.nils, AV.nils, AV.nils, AV.nils, nU 0, nU 0, nU 0, nU 0, nU 0, nU 0, nU 0, nU 0]] = [AV.agg [nI 0, AV.nils, nU 0, nU 0, nU 0, nU 0, nU 0, nU 0, nU 0, nU 0, nU 0, nU 0, nU 0, nU 0, nU 0, nU 0, nU 0, nU 0, nU 0, nU 0, AV.bool false, nI 0, AV.nils, AV.nils, AV.nils, AV.nils, AV.nils, nU 0, nU 0, nU 0, nU 0, nU 0, nU 0, nU 0, nU 0], AV.agg [nI 0, AV.nils, nU 0, nU 0, nU 0, nU 0, nU 0, nU 0, nU 0, nU 0, nU 0, nU 0, nU 0, nU 0, nU 0, nU 0, nU 0, nU 0, nU 0, nU 0, AV.bool false, nI 0, AV.nils, AV.nils, AV.nils, AV.nils, AV.nils, nU 0, nU 0, nU 0, nU 0, nU 0, nU 0, nU 0, nU 0]] ∧ True ∧ (∀ (y : Unit), True → True ∧ ([] : List AV) = [] ∧ True ∧ (∀ (y : Unit), True → ∃ (y : Unit), True ∧ [AV.bool true] = [AV.bool true] ∧ True) ∧ True) ∧ True) False) ∧ True
theorem on2_c_e (x : Row) : some (on2_c_V x) = ((onceC false).cond sp Go.Proofs.Tryd.prog (drP sp Go.Proofs.Tryd.prog) noLoops (orK (decC.orc sp) (orK (tell0C.orc sp) (orK (encC.orc sp) (worksC.orc sp)))) 40 2 x) := by kernel_rfl
set_option maxRecDepth 100000 in
set_option maxHeartbeats 4000000 in
theorem on2_ok : (onceC false).OK Go.Proofs.Tryd.prog := by
  refine Con.by hmix (noLoops_ok _) (orK_ok (Con.orc_ok decC_ok) (orK_ok (Con.orc_ok tell0_ok) (orK_ok (Con.orc_ok encC_ok) (Con.orc_ok works_ok)))) on2_c_V on2_c_e (fun x hx => ?_)
  obtain ⟨hb, hl, hc⟩ := hx
  have hL : x.bs.length ≤ 140737488355328 := by omega
  unfold on2_c_V
  refine ⟨⟨hL, hc⟩, rfl, ⟨rfl, trivial⟩, (fun d hd => ?_), (fun d hd => ?_), trivial⟩
  · obtain ⟨d, e⟩ := d
    have hd : decP x.bs = .ok d := hd
    obtain ⟨f1, f2, f3⟩ := once hb hL hd
    refine ⟨f1, rfl, ⟨rfl, rfl, rfl, rfl, rfl, rfl, trivial⟩, (fun y h => ?_), (fun y h => ?_), (fun y h => ?_), trivial⟩
    · have h : keepN d.sv = 3 := h
      omega
    · have h : keepN d.sv = 2 := h
      omega
    · have h : y = sealB (encL d.sv) := h.2
      have h : y = x.bs := h.trans f3.symm
      rw [h]
      exact spT (by simp) (spT (by simp) (spT (by simp [ba_refl]) ⟨trivial, rfl, trivial, (fun _ _ => ⟨(), trivial, rfl, trivial⟩), trivial⟩))
  · have hd : decP x.bs = .no d.e := hd
    have he := decP_nz hd
    exact spT (by simpa using he) ⟨trivial, rfl, trivial, (fun _ _ => ⟨trivial, rfl, trivial, (fun _ _ => ⟨(), trivial, rfl, trivial⟩), trivial⟩), trivial⟩
def on3_c_V (x : Unit) : Prop :=
  True ∧ [AV.msl 0 0 0 0 0] = [AV.msl 0 0 0 0 0] ∧ True ∧ (∀ (y : Unit), True → (4 ≤ 140737488355328 ∧ 4 ≤ 4) ∧ [AV.msl 1 0 0 4 4] = [AV.msl 1 0 0 4 4] ∧ (some (bR ((sealB []))) = some (bR ((sealB []))) ∧ True) ∧ (∀ (y : DecE), DecR.no 291 = DecR.ok y.d → ((y.d.mem.length ≤ 140737488351232 ∧ y.d.mem.length ≤ y.d.mem.length) ∧ (y.d.notes.length ≤ 5864062014634 ∧ y.d.notes.length ≤ y.d.notes.length) ∧ (y.d.out.length ≤ 140737488351232 ∧ y.d.out.length ≤ y.d.out.length) ∧ (y.d.disk.length ≤ 140737488351232 ∧ y.d.disk.length ≤ y.d.disk.length) ∧ (y.d.queue.length ≤ 140737488351232 ∧ y.d.queue.length ≤ y.d.queue.length) ∧ y.d.script.length ≤ 140737488351232 ∧ y.d.script.length ≤ y.d.script.length) ∧ [] ++ [AV.agg [nI y.d.fr, AV.msl 2 0 0 y.d.mem.length y.d.mem.length, nU y.d.s.r0, nU y.d.s.r1, nU y.d.s.r2, nU y.d.s.r3, nU y.d.s.r4, nU y.d.s.r5, nU y.d.s.r6, nU y.d.s.r7, nU y.d.s.pc, nU y.d.s.ps,
  nU y.d.s.c0, nU y.d.s.c1, nU y.d.s.c2, nU y.d.s.c3, nU y.d.s.c4, nU y.d.s.c5, nU y.d.s.c6, nU y.d.s.c7, AV.bool y.d.s.h, nI y.d.steps, AV.msl 3 0 0 y.d.notes.length y.d.notes.length, AV.msl 4 0 0 y.d.out.length y.d.out.length, AV.msl 5 0 0 y.d.disk.length y.d.disk.length, AV.msl 6 0 0 y.d.queue.length y.d.queue.length, AV.msl 7 0 0 y.d.script.length y.d.script.length, nU (y.d.bl.getD 0 0), nU (y.d.bl.getD 1 0), nU (y.d.bl.getD 2 0), nU (y.d.bl.getD 3 0), nU (y.d.bl.getD 4 0), nU (y.d.bl.getD 5 0), nU (y.d.bl.getD 6 0), nU (y.d.bl.getD 7 0)]] ++ [] = [AV.agg [nI y.d.fr, AV.msl 2 0 0 y.d.mem.length y.d.mem.length, nU y.d.s.r0, nU y.d.s.r1, nU y.d.s.r2, nU y.d.s.r3, nU y.d.s.r4, nU y.d.s.r5, nU y.d.s.r6, nU y.d.s.r7, nU y.d.s.pc, nU y.d.s.ps, nU y.d.s.c0, nU y.d.s.c1, nU y.d.s.c2, nU y.d.s.c3, nU y.d.s.c4, nU y.d.s.c5, nU y.d.s.c6, nU y.d.s.c7, AV.bool y.d.s.h, nI y.d.steps, AV.msl 3 0 0
  y.d.notes.length y.d.notes.length, AV.msl 4 0 0 y.d.out.length y.d.out.length, AV.msl 5 0 0 y.d.disk.length y.d.disk.length, AV.msl 6 0 0 y.d.queue.length y.d.queue.length, AV.msl 7 0 0 y.d.script.length y.d.script.length, nU (y.d.bl.getD 0 0), nU (y.d.bl.getD 1 0), nU (y.d.bl.getD 2 0), nU (y.d.bl.getD 3 0), nU (y.d.bl.getD 4 0), nU (y.d.bl.getD 5 0), nU (y.d.bl.getD 6 0), nU (y.d.bl.getD 7 0)]] ∧ (some (bR y.d.mem) = some (bR y.d.mem) ∧ some (ABlk.mk false 4 (AC.recs y.d.notes.length fun (i : Nat) => [nI (y.d.notes.getD i instInhabitedN4.default).a, nI (y.d.notes.getD i instInhabitedN4.default).c, nU (y.d.notes.getD i instInhabitedN4.default).b, nU (y.d.notes.getD i instInhabitedN4.default).d])) = some (ABlk.mk false 4 (AC.recs y.d.notes.length fun (i : Nat) => [nI (y.d.notes.getD i instInhabitedN4.default).a, nI (y.d.notes.getD i instInhabitedN4.default).c, nU (y.d.notes.getD i
  instInhabitedN4.default).b, nU (y.d.notes.getD i instInhabitedN4.default).d])) ∧ some (bR y.d.out) = some (bR y.d.out) ∧ some (bR y.d.disk) = some (bR y.d.disk) ∧ some (bR y.d.queue) = some (bR y.d.queue) ∧ some (ABlk.mk false 3 (AC.recs y.d.script.length fun (i : Nat) => [nI (y.d.script.getD i instInhabitedE3.default).a, nI (y.d.script.getD i instInhabitedE3.default).k, nB (y.d.script.getD i instInhabitedE3.default).x])) = some (ABlk.mk false 3 (AC.recs y.d.script.length fun (i : Nat) => [nI (y.d.script.getD i instInhabitedE3.default).a, nI (y.d.script.getD i instInhabitedE3.default).k, nB (y.d.script.getD i instInhabitedE3.default).x])) ∧ True) ∧ (∀ (y_1 : List Int), keepN (Sv.mk y.d.fr (Row.mk y.d.mem y.d.mem.length) (St.mk y.d.s.r0 y.d.s.r1 y.d.s.r2 y.d.s.r3 y.d.s.r4 y.d.s.r5 y.d.s.r6 y.d.s.r7 y.d.s.pc y.d.s.ps y.d.s.c0 y.d.s.c1 y.d.s.c2 y.d.s.c3 y.d.s.c4 y.d.s.c5 y.d.s.c6 y.d.s.c7
  y.d.s.h) y.d.steps (NRow.mk y.d.notes.length y.d.notes.length (fun (i : Nat) => numAt ((fun (i : Nat) => [nI (y.d.notes.getD i instInhabitedN4.default).a, nI (y.d.notes.getD i instInhabitedN4.default).c, nU (y.d.notes.getD i instInhabitedN4.default).b, nU (y.d.notes.getD i instInhabitedN4.default).d]) i) 0) (fun (i : Nat) => numAt ((fun (i : Nat) => [nI (y.d.notes.getD i instInhabitedN4.default).a, nI (y.d.notes.getD i instInhabitedN4.default).c, nU (y.d.notes.getD i instInhabitedN4.default).b, nU (y.d.notes.getD i instInhabitedN4.default).d]) i) 1) (fun (i : Nat) => numAt ((fun (i : Nat) => [nI (y.d.notes.getD i instInhabitedN4.default).a, nI (y.d.notes.getD i instInhabitedN4.default).c, nU (y.d.notes.getD i instInhabitedN4.default).b, nU (y.d.notes.getD i instInhabitedN4.default).d]) i) 2) fun (i : Nat) => numAt ((fun (i : Nat) => [nI (y.d.notes.getD i instInhabitedN4.default).a, nI
  (y.d.notes.getD i instInhabitedN4.default).c, nU (y.d.notes.getD i instInhabitedN4.default).b, nU (y.d.notes.getD i instInhabitedN4.default).d]) i) 3) (Row.mk y.d.out y.d.out.length) (Row.mk y.d.disk y.d.disk.length) (Row.mk y.d.queue y.d.queue.length) (ERow.mk y.d.script.length y.d.script.length (fun (i : Nat) => numAt ((fun (i : Nat) => [nI (y.d.script.getD i instInhabitedE3.default).a, nI (y.d.script.getD i instInhabitedE3.default).k, nB (y.d.script.getD i instInhabitedE3.default).x]) i) 0) (fun (i : Nat) => numAt ((fun (i : Nat) => [nI (y.d.script.getD i instInhabitedE3.default).a, nI (y.d.script.getD i instInhabitedE3.default).k, nB (y.d.script.getD i instInhabitedE3.default).x]) i) 1) fun (i : Nat) => numAt ((fun (i : Nat) => [nI (y.d.script.getD i instInhabitedE3.default).a, nI (y.d.script.getD i instInhabitedE3.default).k, nB (y.d.script.getD i instInhabitedE3.default).x]) i) 2)
  (y.d.bl.getD 0 0) (y.d.bl.getD 1 0) (y.d.bl.getD 2 0) (y.d.bl.getD 3 0) (y.d.bl.getD 4 0) (y.d.bl.getD 5 0) (y.d.bl.getD 6 0) (y.d.bl.getD 7 0)) = 3 → ∃ (y : Unit), True ∧ [AV.bool false] = [AV.bool true] ∧ True) ∧ (∀ (y_1 : List Int), keepN (Sv.mk y.d.fr (Row.mk y.d.mem y.d.mem.length) (St.mk y.d.s.r0 y.d.s.r1 y.d.s.r2 y.d.s.r3 y.d.s.r4 y.d.s.r5 y.d.s.r6 y.d.s.r7 y.d.s.pc y.d.s.ps y.d.s.c0 y.d.s.c1 y.d.s.c2 y.d.s.c3 y.d.s.c4 y.d.s.c5 y.d.s.c6 y.d.s.c7 y.d.s.h) y.d.steps (NRow.mk y.d.notes.length y.d.notes.length (fun (i : Nat) => numAt ((fun (i : Nat) => [nI (y.d.notes.getD i instInhabitedN4.default).a, nI (y.d.notes.getD i instInhabitedN4.default).c, nU (y.d.notes.getD i instInhabitedN4.default).b, nU (y.d.notes.getD i instInhabitedN4.default).d]) i) 0) (fun (i : Nat) => numAt ((fun (i : Nat) => [nI (y.d.notes.getD i instInhabitedN4.default).a, nI (y.d.notes.getD i
  instInhabitedN4.default).c, nU (y.d.notes.getD i instInhabitedN4.default).b, nU (y.d.notes.getD i instInhabitedN4.default).d]) i) 1) (fun (i : Nat) => numAt ((fun (i : Nat) => [nI (y.d.notes.getD i instInhabitedN4.default).a, nI (y.d.notes.getD i instInhabitedN4.default).c, nU (y.d.notes.getD i instInhabitedN4.default).b, nU (y.d.notes.getD i instInhabitedN4.default).d]) i) 2) fun (i : Nat) => numAt ((fun (i : Nat) => [nI (y.d.notes.getD i instInhabitedN4.default).a, nI (y.d.notes.getD i instInhabitedN4.default).c, nU (y.d.notes.getD i instInhabitedN4.default).b, nU (y.d.notes.getD i instInhabitedN4.default).d]) i) 3) (Row.mk y.d.out y.d.out.length) (Row.mk y.d.disk y.d.disk.length) (Row.mk y.d.queue y.d.queue.length) (ERow.mk y.d.script.length y.d.script.length (fun (i : Nat) => numAt ((fun (i : Nat) => [nI (y.d.script.getD i instInhabitedE3.default).a, nI (y.d.script.getD i
  instInhabitedE3.default).k, nB (y.d.script.getD i instInhabitedE3.default).x]) i) 0) (fun (i : Nat) => numAt ((fun (i : Nat) => [nI (y.d.script.getD i instInhabitedE3.default).a, nI (y.d.script.getD i instInhabitedE3.default).k, nB (y.d.script.getD i instInhabitedE3.default).x]) i) 1) fun (i : Nat) => numAt ((fun (i : Nat) => [nI (y.d.script.getD i instInhabitedE3.default).a, nI (y.d.script.getD i instInhabitedE3.default).k, nB (y.d.script.getD i instInhabitedE3.default).x]) i) 2) (y.d.bl.getD 0 0) (y.d.bl.getD 1 0) (y.d.bl.getD 2 0) (y.d.bl.getD 3 0) (y.d.bl.getD 4 0) (y.d.bl.getD 5 0) (y.d.bl.getD 6 0) (y.d.bl.getD 7 0)) = 2 → ∃ (y : Unit), True ∧ [AV.bool false] = [AV.bool true] ∧ True) ∧ (∀ (y_1 : List Int), keepN (Sv.mk y.d.fr (Row.mk y.d.mem y.d.mem.length) (St.mk y.d.s.r0 y.d.s.r1 y.d.s.r2 y.d.s.r3 y.d.s.r4 y.d.s.r5 y.d.s.r6 y.d.s.r7 y.d.s.pc y.d.s.ps y.d.s.c0 y.d.s.c1 y.d.s.c2
  y.d.s.c3 y.d.s.c4 y.d.s.c5 y.d.s.c6 y.d.s.c7 y.d.s.h) y.d.steps (NRow.mk y.d.notes.length y.d.notes.length (fun (i : Nat) => numAt ((fun (i : Nat) => [nI (y.d.notes.getD i instInhabitedN4.default).a, nI (y.d.notes.getD i instInhabitedN4.default).c, nU (y.d.notes.getD i instInhabitedN4.default).b, nU (y.d.notes.getD i instInhabitedN4.default).d]) i) 0) (fun (i : Nat) => numAt ((fun (i : Nat) => [nI (y.d.notes.getD i instInhabitedN4.default).a, nI (y.d.notes.getD i instInhabitedN4.default).c, nU (y.d.notes.getD i instInhabitedN4.default).b, nU (y.d.notes.getD i instInhabitedN4.default).d]) i) 1) (fun (i : Nat) => numAt ((fun (i : Nat) => [nI (y.d.notes.getD i instInhabitedN4.default).a, nI (y.d.notes.getD i instInhabitedN4.default).c, nU (y.d.notes.getD i instInhabitedN4.default).b, nU (y.d.notes.getD i instInhabitedN4.default).d]) i) 2) fun (i : Nat) => numAt ((fun (i : Nat) => [nI
  (y.d.notes.getD i instInhabitedN4.default).a, nI (y.d.notes.getD i instInhabitedN4.default).c, nU (y.d.notes.getD i instInhabitedN4.default).b, nU (y.d.notes.getD i instInhabitedN4.default).d]) i) 3) (Row.mk y.d.out y.d.out.length) (Row.mk y.d.disk y.d.disk.length) (Row.mk y.d.queue y.d.queue.length) (ERow.mk y.d.script.length y.d.script.length (fun (i : Nat) => numAt ((fun (i : Nat) => [nI (y.d.script.getD i instInhabitedE3.default).a, nI (y.d.script.getD i instInhabitedE3.default).k, nB (y.d.script.getD i instInhabitedE3.default).x]) i) 0) (fun (i : Nat) => numAt ((fun (i : Nat) => [nI (y.d.script.getD i instInhabitedE3.default).a, nI (y.d.script.getD i instInhabitedE3.default).k, nB (y.d.script.getD i instInhabitedE3.default).x]) i) 1) fun (i : Nat) => numAt ((fun (i : Nat) => [nI (y.d.script.getD i instInhabitedE3.default).a, nI (y.d.script.getD i instInhabitedE3.default).k, nB
  (y.d.script.getD i instInhabitedE3.default).x]) i) 2) (y.d.bl.getD 0 0) (y.d.bl.getD 1 0) (y.d.bl.getD 2 0) (y.d.bl.getD 3 0) (y.d.bl.getD 4 0) (y.d.bl.getD 5 0) (y.d.bl.getD 6 0) (y.d.bl.getD 7 0)) = 0 ∧ y_1 = sealB (encL (Sv.mk y.d.fr (Row.mk y.d.mem y.d.mem.length) (St.mk y.d.s.r0 y.d.s.r1 y.d.s.r2 y.d.s.r3 y.d.s.r4 y.d.s.r5 y.d.s.r6 y.d.s.r7 y.d.s.pc y.d.s.ps y.d.s.c0 y.d.s.c1 y.d.s.c2 y.d.s.c3 y.d.s.c4 y.d.s.c5 y.d.s.c6 y.d.s.c7 y.d.s.h) y.d.steps (NRow.mk y.d.notes.length y.d.notes.length (fun (i : Nat) => numAt ((fun (i : Nat) => [nI (y.d.notes.getD i instInhabitedN4.default).a, nI (y.d.notes.getD i instInhabitedN4.default).c, nU (y.d.notes.getD i instInhabitedN4.default).b, nU (y.d.notes.getD i instInhabitedN4.default).d]) i) 0) (fun (i : Nat) => numAt ((fun (i : Nat) => [nI (y.d.notes.getD i instInhabitedN4.default).a, nI (y.d.notes.getD i instInhabitedN4.default).c, nU
  (y.d.notes.getD i instInhabitedN4.default).b, nU (y.d.notes.getD i instInhabitedN4.default).d]) i) 1) (fun (i : Nat) => numAt ((fun (i : Nat) => [nI (y.d.notes.getD i instInhabitedN4.default).a, nI (y.d.notes.getD i instInhabitedN4.default).c, nU (y.d.notes.getD i instInhabitedN4.default).b, nU (y.d.notes.getD i instInhabitedN4.default).d]) i) 2) fun (i : Nat) => numAt ((fun (i : Nat) => [nI (y.d.notes.getD i instInhabitedN4.default).a, nI (y.d.notes.getD i instInhabitedN4.default).c, nU (y.d.notes.getD i instInhabitedN4.default).b, nU (y.d.notes.getD i instInhabitedN4.default).d]) i) 3) (Row.mk y.d.out y.d.out.length) (Row.mk y.d.disk y.d.disk.length) (Row.mk y.d.queue y.d.queue.length) (ERow.mk y.d.script.length y.d.script.length (fun (i : Nat) => numAt ((fun (i : Nat) => [nI (y.d.script.getD i instInhabitedE3.default).a, nI (y.d.script.getD i instInhabitedE3.default).k, nB
  (y.d.script.getD i instInhabitedE3.default).x]) i) 0) (fun (i : Nat) => numAt ((fun (i : Nat) => [nI (y.d.script.getD i instInhabitedE3.default).a, nI (y.d.script.getD i instInhabitedE3.default).k, nB (y.d.script.getD i instInhabitedE3.default).x]) i) 1) fun (i : Nat) => numAt ((fun (i : Nat) => [nI (y.d.script.getD i instInhabitedE3.default).a, nI (y.d.script.getD i instInhabitedE3.default).k, nB (y.d.script.getD i instInhabitedE3.default).x]) i) 2) (y.d.bl.getD 0 0) (y.d.bl.getD 1 0) (y.d.bl.getD 2 0) (y.d.bl.getD 3 0) (y.d.bl.getD 4 0) (y.d.bl.getD 5 0) (y.d.bl.getD 6 0) (y.d.bl.getD 7 0))) → sp (decide (0 + y_1.length ≤ y_1.length)) (sp (bif true then bif false then !ByteArray.mk (Array.mk (List.map (fun (n : Int) => UInt8.ofNat n.toNat) (List.take y_1.length (List.drop 0 y_1)))) == ByteArray.mk (Array.mk [UInt8.ofBitVec (BitVec.ofFin (Fin.mk 0 (Nat.mod_lt (IntKind.u8.wrap (sumB
  [])).toNat (BitVec.ofNat._proof_1 8)))), UInt8.ofBitVec (BitVec.ofFin (Fin.mk 0 (Nat.mod_lt (IntKind.u8.wrap ((sumB []).fdiv 256)).toNat (BitVec.ofNat._proof_1 8)))), UInt8.ofBitVec (BitVec.ofFin (Fin.mk 0 (Nat.mod_lt (IntKind.u8.wrap ((sumB []).fdiv 65536)).toNat (BitVec.ofNat._proof_1 8)))), UInt8.ofBitVec (BitVec.ofFin (Fin.mk 0 (Nat.mod_lt (IntKind.u8.wrap ((sumB []).fdiv 16777216)).toNat (BitVec.ofNat._proof_1 8))))]) else ByteArray.mk (Array.mk (List.map (fun (n : Int) => UInt8.ofNat n.toNat) (List.take y_1.length (List.drop 0 y_1)))) == ByteArray.mk (Array.mk [UInt8.ofBitVec (BitVec.ofFin (Fin.mk 0 (Nat.mod_lt (IntKind.u8.wrap (sumB [])).toNat (BitVec.ofNat._proof_1 8)))), UInt8.ofBitVec (BitVec.ofFin (Fin.mk 0 (Nat.mod_lt (IntKind.u8.wrap ((sumB []).fdiv 256)).toNat (BitVec.ofNat._proof_1 8)))), UInt8.ofBitVec (BitVec.ofFin (Fin.mk 0 (Nat.mod_lt (IntKind.u8.wrap ((sumB []).fdiv
  65536)).toNat (BitVec.ofNat._proof_1 8)))), UInt8.ofBitVec (BitVec.ofFin (Fin.mk 0 (Nat.mod_lt (IntKind.u8.wrap ((sumB []).fdiv 16777216)).toNat (BitVec.ofNat._proof_1 8))))]) else false) (True ∧ ([] : List AV) = [] ∧ True ∧ (∀ (y : Unit), True → ∃ (y : Unit), True ∧ [AV.bool true] = [AV.bool true] ∧ True) ∧ True) (∃ (y : Unit), True ∧ [AV.bool false] = [AV.bool true] ∧ True)) False) ∧ True) ∧ (∀ (y : DecE), DecR.no 291 = DecR.no y.e → sp (y.e != 0) (True ∧ [AV.agg [nI 0, AV.nils, nU 0, nU 0, nU 0, nU 0, nU 0, nU 0, nU 0, nU 0, nU 0, nU 0, nU 0, nU 0, nU 0, nU 0, nU 0, nU 0, nU 0, nU 0, AV.bool false, nI 0, AV.nils, AV.nils, AV.nils, AV.nils, AV.nils, nU 0, nU 0, nU 0, nU 0, nU 0, nU 0, nU 0, nU 0], AV.agg [nI 0, AV.nils, nU 0, nU 0, nU 0, nU 0, nU 0, nU 0, nU 0, nU 0, nU 0, nU 0, nU 0, nU 0, nU 0, nU 0, nU 0, nU 0, nU 0, nU 0, AV.bool false, nI 0, AV.nils, AV.nils, AV.nils, AV.nils,
  AV.nils, nU 0, nU 0, nU 0, nU 0, nU 0, nU 0, nU 0, nU 0]] = [AV.agg [nI 0, AV.nils, nU 0, nU 0, nU 0, nU 0, nU 0, nU 0, nU 0, nU 0, nU 0, nU 0, nU 0, nU 0, nU 0, nU 0, nU 0, nU 0, nU 0, nU 0, AV.bool false, nI 0, AV.nils, AV.nils, AV.nils, AV.nils, AV.nils, nU 0, nU 0, nU 0, nU 0, nU 0, nU 0, nU 0, nU 0], AV.agg [nI 0, AV.nils, nU 0, nU 0, nU 0, nU 0, nU 0, nU 0, nU 0, nU 0, nU 0, nU 0, nU 0, nU 0, nU 0, nU 0, nU 0, nU 0, nU 0, nU 0, AV.bool false, nI 0, AV.nils, AV.nils, AV.nils, AV.nils, AV.nils, nU 0, nU 0, nU 0, nU 0, nU 0, nU 0, nU 0, nU 0]] ∧ True ∧ (∀ (y : Unit), True → True ∧ ([] : List AV) = [] ∧ True ∧ (∀ (y : Unit), True → ∃ (y : Unit), True ∧ [AV.bool true] = [AV.bool true] ∧ True) ∧ True) ∧ True) False) ∧ True) ∧ True
theorem on3_c_e (x : Unit) : some (on3_c_V x) = ((once0C true).cond sp Go.Proofs.Tryd.prog (drP sp Go.Proofs.Tryd.prog) noLoops (orK (rseal0C.orc sp) (orK (looseK F_file_Decode 0 [] (decC.orc sp)) (orK (tell0C.orc sp) (orK (encC.orc sp) (worksC.orc sp))))) 40 2 x) := by kernel_rfl
set_option maxRecDepth 100000 in
set_option maxHeartbeats 4000000 in
theorem on3_ok : (once0C true).OK Go.Proofs.Tryd.prog := by
  refine Con.by hmix (noLoops_ok _) (orK_ok (Con.orc_ok rseal0_ok) (orK_ok (looseK_ok (Con.orc_ok decC_ok)) (orK_ok (Con.orc_ok tell0_ok) (orK_ok (Con.orc_ok encC_ok) (Con.orc_ok works_ok))))) on3_c_V on3_c_e (fun x hx => ?_)
  have hB : IsBytes (sealB []) := sealB_bytes (fun _ h => by cases h)
  have hL : (sealB []).length ≤ 140737488355328 := by decide
  unfold on3_c_V
  refine ⟨trivial, rfl, trivial, (fun _ _ => ⟨⟨hL, (by decide)⟩, rfl, ⟨rfl, trivial⟩, (fun d hd => ?_), (fun d hd => ?_), trivial⟩), trivial⟩
  · have hd : DecR.no 291 = .ok d.d := hd
    cases hd
  · have hd : decP (sealB []) = .no d.e := hd
    have he := decP_nz hd
    exact spT (by simpa using he) ⟨trivial, rfl, trivial, (fun _ _ => ⟨trivial, rfl, trivial, (fun _ _ => ⟨(), trivial, rfl, trivial⟩), trivial⟩), trivial⟩
def on4_c_V (x : Unit) : Prop :=
  True ∧ [AV.msl 0 0 0 0 0] = [AV.msl 0 0 0 0 0] ∧ True ∧ (∀ (y : Unit), True → True ∧ [AV.agg [nI 0, AV.nils, nU 0, nU 0, nU 0, nU 0, nU 0, nU 0, nU 0, nU 0, nU 0, nU 0, nU 0, nU 0, nU 0, nU 0, nU 0, nU 0, nU 0, nU 0, AV.bool false, nI 0, AV.nils, AV.nils, AV.nils, AV.nils, AV.nils, nU 0, nU 0, nU 0, nU 0, nU 0, nU 0, nU 0, nU 0], AV.agg [nI 0, AV.nils, nU 0, nU 0, nU 0, nU 0, nU 0, nU 0, nU 0, nU 0, nU 0, nU 0, nU 0, nU 0, nU 0, nU 0, nU 0, nU 0, nU 0, nU 0, AV.bool false, nI 0, AV.nils, AV.nils, AV.nils, AV.nils, AV.nils, nU 0, nU 0, nU 0, nU 0, nU 0, nU 0, nU 0, nU 0]] = [AV.agg [nI 0, AV.nils, nU 0, nU 0, nU 0, nU 0, nU 0, nU 0, nU 0, nU 0, nU 0, nU 0, nU 0, nU 0, nU 0, nU 0, nU 0, nU 0, nU 0, nU 0, AV.bool false, nI 0, AV.nils, AV.nils, AV.nils, AV.nils, AV.nils, nU 0, nU 0, nU 0, nU 0, nU 0, nU 0, nU 0, nU 0], AV.agg [nI 0, AV.nils, nU 0, nU 0, nU 0, nU 0, nU 0, nU 0, nU 0, nU 0, nU
  0, nU 0, nU 0, nU 0, nU 0, nU 0, nU 0, nU 0, nU 0, nU 0, AV.bool false, nI 0, AV.nils, AV.nils, AV.nils, AV.nils, AV.nils, nU 0, nU 0, nU 0, nU 0, nU 0, nU 0, nU 0, nU 0]] ∧ True ∧ (∀ (y : Unit), True → True ∧ ([] : List AV) = [] ∧ True ∧ (∀ (y : Unit), True → ∃ (y : Unit), True ∧ [AV.bool true] = [AV.bool true] ∧ True) ∧ True) ∧ True) ∧ True
theorem on4_c_e (x : Unit) : some (on4_c_V x) = ((once0C false).cond sp Go.Proofs.Tryd.prog (drP sp Go.Proofs.Tryd.prog) noLoops (orK (dec0C.orc sp) (orK (tell0C.orc sp) (orK (encC.orc sp) (worksC.orc sp)))) 40 2 x) := by kernel_rfl
theorem on4_ok : (once0C false).OK Go.Proofs.Tryd.prog := by
  refine Con.by hmix (noLoops_ok _) (orK_ok (Con.orc_ok dec0_ok) (orK_ok (Con.orc_ok tell0_ok) (orK_ok (Con.orc_ok encC_ok) (Con.orc_ok works_ok)))) on4_c_V on4_c_e (fun x hx => ?_)
  unfold on4_c_V
  exact ⟨trivial, rfl, trivial, (fun _ _ => ⟨trivial, rfl, trivial, (fun _ _ => ⟨trivial, rfl, trivial, (fun _ _ => ⟨(), trivial, rfl, trivial⟩), trivial⟩), trivial⟩), trivial⟩
end Go.Proofs.YtmbcpmbpkdeioaaDoor.W
/- A guest that came in by value: what is known of it. No condition. -/
namespace Go.Proofs.YtmbcpmbpkdeioaaDoor.W
open Go Go.RowKit Go.Eng
set_option maxRecDepth 100000
set_option linter.unusedVariables false
set_option linter.unusedSimpArgs false
def svLeaves : List LT := [.i .i64, .sl T_sl_uint8, .i .u32, .i .u32, .i .u32, .i .u32, .i .u32, .i .u32, .i .u32, .i .u32, .i .u32, .i .u32, .i .u32, .i .u32, .i .u32, .i .u32, .i .u32, .i .u32, .i .u32, .i .u32, .b, .i .i64, .sl T_sl_api_Note, .sl T_sl_uint8, .sl T_sl_uint8, .sl T_sl_uint8, .sl T_sl_api_Event, .i .u32, .i .u32, .i .u32, .i .u32, .i .u32, .i .u32, .i .u32, .i .u32]
theorem svLeaves_eq : leaves Go.Proofs.Tryd.prog 8 T_api_Saved = some svLeaves := by kernel_rfl
theorem u32_range {n : Int} (h : IntKind.u32.min ≤ n ∧ n ≤ IntKind.u32.max) : 0 ≤ n ∧ n ≤ 4294967295 := h
theorem u8_range {n : Int} (h : IntKind.u8.min ≤ n ∧ n ≤ IntKind.u8.max) : 0 ≤ n ∧ n < 256 := by
  have h1 : IntKind.u8.min = 0 := rfl
  have h2 : IntKind.u8.max = 255 := rfl
  omega
section
variable {H : Type} {enc : TypeId × Value → H} {W : World}
/-- A row of bytes that came in. -/
theorem bytes_in {t e : TypeId} {c : Value} (hu : (Go.Proofs.Tryd.prog).underlying t = some (.slice e)) (he : (Go.Proofs.Tryd.prog).underlying e = some (.int .u8)) (hc : (Go.Proofs.Tryd.prog).cellsOf e = 1) (hb : (Go.Proofs.Tryd.prog).bytesOf e = 1) (h : LTyped enc Go.Proofs.Tryd.prog W 0 (fun _ => true) true (.sl t) c) : ∃ r : Row, SlIn W 1 c r.bs.length r.c (.ints .u8 r.bs) ∧ r.bs.length ≤ r.c ∧ r.c ≤ 140737488351232 ∧ IsBytes r.bs := by
  obtain ⟨l, cap, h1, h2, h3, h4⟩ := slIn_ints h hu he hc
  rw [hb] at h3
  exact ⟨⟨l, cap⟩, h1, h2, by simpa [reachBytes] using h3, fun x hx => u8_range (h4 x hx)⟩
theorem notes_in {c : Value} (h : LTyped enc Go.Proofs.Tryd.prog W 0 (fun _ => true) true (.sl T_sl_api_Note) c) : ∃ r : NRow, SlIn W 4 c r.n r.c (.recs r.n r.f) ∧ r.n ≤ r.c ∧ r.c ≤ 5864062014634 ∧ ∀ i, i < r.n → (0 ≤ r.back i ∧ r.back i ≤ 4294967295) ∧ 0 ≤ r.addr i ∧ r.addr i ≤ 4294967295 := by
  obtain ⟨n, cap, f, ty, si, hn, hb⟩ := slIn_recs (t := T_sl_api_Note) (e := T_api_Note) (d := 4) (es := 4) (ks := [.i .i64, .i .i64, .i .u32, .i .u32]) h (by kernel_rfl) (by kernel_rfl) rfl (by kernel_rfl) rfl (by omega)
  have e24 : (Go.Proofs.Tryd.prog).bytesOf T_api_Note = 24 := by kernel_rfl
  rw [e24] at hb
  have hb : cap * 24 ≤ 140737488351232 := hb
  have val : ∀ i, i < n → ∃ a b c d, f i = [.int .i64 a, .int .i64 b, .int .u32 c, .int .u32 d] ∧ (0 ≤ c ∧ c ≤ 4294967295) ∧ 0 ≤ d ∧ d ≤ 4294967295 := by
    intro i hi
    obtain ⟨x1, r1, q1, ⟨a, rfl, _⟩, t1⟩ := (ty i hi).cons
    obtain ⟨x2, r2, q2, ⟨b, rfl, _⟩, t2⟩ := t1.cons
    obtain ⟨x3, r3, q3, ⟨c, rfl, g3⟩, t3⟩ := t2.cons
    obtain ⟨x4, r4, q4, ⟨d, rfl, g4⟩, t4⟩ := t3.cons
    have q5 := t4.nil
    subst q5 q4 q3 q2
    exact ⟨a, b, c, d, q1, u32_range g3, u32_range g4⟩
  refine ⟨⟨n, cap, fun i => intOfV ((f i).getD 0 undef), fun i => intOfV ((f i).getD 1 undef), fun i => intOfV ((f i).getD 2 undef), fun i => intOfV ((f i).getD 3 undef)⟩, ?_, hn, (by show cap ≤ 5864062014634; omega), fun i hi => ?_⟩
  · refine si.congr (fun h => h) (fun _ es e => by cases e) (fun i j hij => ⟨hij, ?_⟩)
    have hi : i < n := by simp [AC.inb] at hij; exact hij.1
    obtain ⟨a, b, c, d, q, _⟩ := val i hi
    simp only [AC.val, NRow.f, q]
    rfl
  · obtain ⟨a, b, c, d, q, g1, g2⟩ := val i hi
    simp only [q]
    exact ⟨g1, g2⟩
theorem evs_in {c : Value} (h : LTyped enc Go.Proofs.Tryd.prog W 0 (fun _ => true) true (.sl T_sl_api_Event) c) : ∃ r : ERow, SlIn W 3 c r.n r.c (.recs r.n r.f) ∧ r.n ≤ r.c ∧ r.c ≤ 140737488351232 ∧ ∀ i, i < r.n → 0 ≤ r.byte i ∧ r.byte i ≤ 255 := by
  obtain ⟨n, cap, f, ty, si, hn, hb⟩ := slIn_recs (t := T_sl_api_Event) (e := T_api_Event) (d := 4) (es := 3) (ks := [.i .i64, .i .i64, .i .u8]) h (by kernel_rfl) (by kernel_rfl) rfl (by kernel_rfl) rfl (by omega)
  have e24 : (Go.Proofs.Tryd.prog).bytesOf T_api_Event = 24 := by kernel_rfl
  rw [e24] at hb
  have hb : cap * 24 ≤ 140737488351232 := hb
  have val : ∀ i, i < n → ∃ a b c, f i = [.int .i64 a, .int .i64 b, .int .u8 c] ∧ (0 ≤ c ∧ c < 256) := by
    intro i hi
    obtain ⟨x1, r1, q1, ⟨a, rfl, _⟩, t1⟩ := (ty i hi).cons
    obtain ⟨x2, r2, q2, ⟨b, rfl, _⟩, t2⟩ := t1.cons
    obtain ⟨x3, r3, q3, ⟨c, rfl, g3⟩, t3⟩ := t2.cons
    have q5 := t3.nil
    subst q5 q3 q2
    exact ⟨a, b, c, q1, u8_range g3⟩
  refine ⟨⟨n, cap, fun i => intOfV ((f i).getD 0 undef), fun i => intOfV ((f i).getD 1 undef), fun i => intOfV ((f i).getD 2 undef)⟩, ?_, hn, (by show cap ≤ 140737488351232; omega), fun i hi => ?_⟩
  · refine si.congr (fun h => h) (fun _ es e => by cases e) (fun i j hij => ⟨hij, ?_⟩)
    have hi : i < n := by simp [AC.inb] at hij; exact hij.1
    obtain ⟨a, b, c, q, _⟩ := val i hi
    simp only [AC.val, ERow.f, q]
    rfl
  · obtain ⟨a, b, c, q, g1⟩ := val i hi
    simp only [q]
    exact ⟨g1.1, by have := g1.2; simp [intOfV]; omega⟩
/-- A guest that came in: it is one of the engine's, its rows lie in blocks, or none of them has a cell. -/
theorem sv_in {cs : Array Value} (hT : LTypeds enc Go.Proofs.Tryd.prog W 0 (fun _ => true) true svLeaves cs.toList) :
    (∃ x : Sv, x.fine ∧ x.wf ∧ x.rows ∧ ∃ ls : List Eng.Loc, ls.length = 6 ∧ Sat (fun b => ls[b]?) (AH.of 6 x.L) W ∧ VRel (fun b => ls[b]?) (.agg x.av) (.agg cs)) ∨
    (∃ x : E0, ∀ μ : Mu, (∀ b, b < 6 → ∃ l, μ b = some l) → VRel μ (.agg x.sv.av) (.agg cs)) := by
  unfold svLeaves at hT
  obtain ⟨x_fr, rr0, q0, ⟨v_fr, rfl, g_fr⟩, t0⟩ := hT.cons
  obtain ⟨x_mem, rr1, q1, s_mem, t1⟩ := t0.cons
  obtain ⟨x_r0, rr2, q2, ⟨v_r0, rfl, g_r0⟩, t2⟩ := t1.cons
  obtain ⟨x_r1, rr3, q3, ⟨v_r1, rfl, g_r1⟩, t3⟩ := t2.cons
  obtain ⟨x_r2, rr4, q4, ⟨v_r2, rfl, g_r2⟩, t4⟩ := t3.cons
  obtain ⟨x_r3, rr5, q5, ⟨v_r3, rfl, g_r3⟩, t5⟩ := t4.cons
  obtain ⟨x_r4, rr6, q6, ⟨v_r4, rfl, g_r4⟩, t6⟩ := t5.cons
  obtain ⟨x_r5, rr7, q7, ⟨v_r5, rfl, g_r5⟩, t7⟩ := t6.cons
  obtain ⟨x_r6, rr8, q8, ⟨v_r6, rfl, g_r6⟩, t8⟩ := t7.cons
  obtain ⟨x_r7, rr9, q9, ⟨v_r7, rfl, g_r7⟩, t9⟩ := t8.cons
  obtain ⟨x_pc, rr10, q10, ⟨v_pc, rfl, g_pc⟩, t10⟩ := t9.cons
  obtain ⟨x_ps, rr11, q11, ⟨v_ps, rfl, g_ps⟩, t11⟩ := t10.cons
  obtain ⟨x_c0, rr12, q12, ⟨v_c0, rfl, g_c0⟩, t12⟩ := t11.cons
  obtain ⟨x_c1, rr13, q13, ⟨v_c1, rfl, g_c1⟩, t13⟩ := t12.cons
  obtain ⟨x_c2, rr14, q14, ⟨v_c2, rfl, g_c2⟩, t14⟩ := t13.cons
  obtain ⟨x_c3, rr15, q15, ⟨v_c3, rfl, g_c3⟩, t15⟩ := t14.cons
  obtain ⟨x_c4, rr16, q16, ⟨v_c4, rfl, g_c4⟩, t16⟩ := t15.cons
  obtain ⟨x_c5, rr17, q17, ⟨v_c5, rfl, g_c5⟩, t17⟩ := t16.cons
  obtain ⟨x_c6, rr18, q18, ⟨v_c6, rfl, g_c6⟩, t18⟩ := t17.cons
  obtain ⟨x_c7, rr19, q19, ⟨v_c7, rfl, g_c7⟩, t19⟩ := t18.cons
  obtain ⟨x_h, rr20, q20, ⟨v_h, rfl⟩, t20⟩ := t19.cons
  obtain ⟨x_steps, rr21, q21, ⟨v_steps, rfl, g_steps⟩, t21⟩ := t20.cons
  obtain ⟨x_notes, rr22, q22, s_notes, t22⟩ := t21.cons
  obtain ⟨x_out, rr23, q23, s_out, t23⟩ := t22.cons
  obtain ⟨x_disk, rr24, q24, s_disk, t24⟩ := t23.cons
  obtain ⟨x_queue, rr25, q25, s_queue, t25⟩ := t24.cons
  obtain ⟨x_script, rr26, q26, s_script, t26⟩ := t25.cons
  obtain ⟨x_b1, rr27, q27, ⟨v_b1, rfl, g_b1⟩, t27⟩ := t26.cons
  obtain ⟨x_b2, rr28, q28, ⟨v_b2, rfl, g_b2⟩, t28⟩ := t27.cons
  obtain ⟨x_b3, rr29, q29, ⟨v_b3, rfl, g_b3⟩, t29⟩ := t28.cons
  obtain ⟨x_b4, rr30, q30, ⟨v_b4, rfl, g_b4⟩, t30⟩ := t29.cons
  obtain ⟨x_b5, rr31, q31, ⟨v_b5, rfl, g_b5⟩, t31⟩ := t30.cons
  obtain ⟨x_b6, rr32, q32, ⟨v_b6, rfl, g_b6⟩, t32⟩ := t31.cons
  obtain ⟨x_b7, rr33, q33, ⟨v_b7, rfl, g_b7⟩, t33⟩ := t32.cons
  obtain ⟨x_b8, rr34, q34, ⟨v_b8, rfl, g_b8⟩, t34⟩ := t33.cons
  have qe := t34.nil
  subst qe
  subst q34
  subst q33
  subst q32
  subst q31
  subst q30
  subst q29
  subst q28
  subst q27
  subst q26
  subst q25
  subst q24
  subst q23
  subst q22
  subst q21
  subst q20
  subst q19
  subst q18
  subst q17
  subst q16
  subst q15
  subst q14
  subst q13
  subst q12
  subst q11
  subst q10
  subst q9
  subst q8
  subst q7
  subst q6
  subst q5
  subst q4
  subst q3
  subst q2
  subst q1
  obtain ⟨r_mem, a_mem, l_mem, m_mem, y_mem⟩ := bytes_in (t := T_sl_uint8) (e := T_sl_b_uint8) (by kernel_rfl) (by kernel_rfl) (by kernel_rfl) (by kernel_rfl) s_mem
  obtain ⟨r_out, a_out, l_out, m_out, y_out⟩ := bytes_in (t := T_sl_uint8) (e := T_sl_b_uint8) (by kernel_rfl) (by kernel_rfl) (by kernel_rfl) (by kernel_rfl) s_out
  obtain ⟨r_disk, a_disk, l_disk, m_disk, y_disk⟩ := bytes_in (t := T_sl_uint8) (e := T_sl_b_uint8) (by kernel_rfl) (by kernel_rfl) (by kernel_rfl) (by kernel_rfl) s_disk
  obtain ⟨r_queue, a_queue, l_queue, m_queue, y_queue⟩ := bytes_in (t := T_sl_uint8) (e := T_sl_b_uint8) (by kernel_rfl) (by kernel_rfl) (by kernel_rfl) (by kernel_rfl) s_queue
  obtain ⟨r_notes, a_notes, l_notes, m_notes, y_notes⟩ := notes_in s_notes
  obtain ⟨r_script, a_script, l_script, m_script, y_script⟩ := evs_in s_script
  have w1 : ∀ n ∈ St.nums ⟨v_r0, v_r1, v_r2, v_r3, v_r4, v_r5, v_r6, v_r7, v_pc, v_ps, v_c0, v_c1, v_c2, v_c3, v_c4, v_c5, v_c6, v_c7, v_h⟩, 0 ≤ n ∧ n ≤ 4294967295 := by
    intro n hn
    simp only [St.nums, List.mem_cons, List.not_mem_nil, or_false] at hn
    rcases hn with rfl | rfl | rfl | rfl | rfl | rfl | rfl | rfl | rfl | rfl | rfl | rfl | rfl | rfl | rfl | rfl | rfl | rfl | rfl
    all_goals first
      | exact u32_range (by assumption)
      | (split <;> omega)
  have w2 : ∀ n ∈ [v_b1, v_b2, v_b3, v_b4, v_b5, v_b6, v_b7, v_b8], 0 ≤ n ∧ n ≤ 4294967295 := by
    intro n hn
    simp only [List.mem_cons, List.not_mem_nil, or_false] at hn
    rcases hn with rfl | rfl | rfl | rfl | rfl | rfl | rfl | rfl <;> exact u32_range (by assumption)
  have ea : cs = (#[.int .i64 v_fr, x_mem, .int .u32 v_r0, .int .u32 v_r1, .int .u32 v_r2, .int .u32 v_r3, .int .u32 v_r4, .int .u32 v_r5, .int .u32 v_r6, .int .u32 v_r7, .int .u32 v_pc, .int .u32 v_ps, .int .u32 v_c0, .int .u32 v_c1, .int .u32 v_c2, .int .u32 v_c3, .int .u32 v_c4, .int .u32 v_c5, .int .u32 v_c6, .int .u32 v_c7, .bool v_h, .int .i64 v_steps, x_notes, x_out, x_disk, x_queue, x_script, .int .u32 v_b1, .int .u32 v_b2, .int .u32 v_b3, .int .u32 v_b4, .int .u32 v_b5, .int .u32 v_b6, .int .u32 v_b7, .int .u32 v_b8] : Array Value) := Array.toList_inj.1 q0
  by_cases hz : r_mem.c = 0 ∧ r_notes.c = 0 ∧ r_out.c = 0 ∧ r_disk.c = 0 ∧ r_queue.c = 0 ∧ r_script.c = 0
  · obtain ⟨z_mem, z_notes, z_out, z_disk, z_queue, z_script⟩ := hz
    right
    refine ⟨⟨v_fr, ⟨v_r0, v_r1, v_r2, v_r3, v_r4, v_r5, v_r6, v_r7, v_pc, v_ps, v_c0, v_c1, v_c2, v_c3, v_c4, v_c5, v_c6, v_c7, v_h⟩, v_steps, v_b1, v_b2, v_b3, v_b4, v_b5, v_b6, v_b7, v_b8⟩, fun μ hμ => ?_⟩
    obtain ⟨p0, hp0⟩ := hμ 0 (by omega)
    obtain ⟨p1, hp1⟩ := hμ 1 (by omega)
    obtain ⟨p2, hp2⟩ := hμ 2 (by omega)
    obtain ⟨p3, hp3⟩ := hμ 3 (by omega)
    obtain ⟨p4, hp4⟩ := hμ 4 (by omega)
    obtain ⟨p5, hp5⟩ := hμ 5 (by omega)
    subst ea
    exact ⟨_, rfl, rfl, (a_mem.empty z_mem).2 μ 0 p0 hp0, rfl, rfl, rfl, rfl, rfl, rfl, rfl, rfl, rfl, rfl, rfl, rfl, rfl, rfl, rfl, rfl, rfl, rfl, rfl, rfl, (a_notes.empty z_notes).2 μ 1 p1 hp1, (a_out.empty z_out).2 μ 2 p2 hp2, (a_disk.empty z_disk).2 μ 3 p3 hp3, (a_queue.empty z_queue).2 μ 4 p4 hp4, (a_script.empty z_script).2 μ 5 p5 hp5, rfl, rfl, rfl, rfl, rfl, rfl, rfl, rfl, trivial⟩
  · left
    have blk : ∃ (B : Nat) (C : Array Value) (t : TypeId) (fz : Nat × Nat), W.heap[B]? = some (.cells C t fz) := by
      by_cases z_mem : r_mem.c = 0
      rotate_left
      · exact a_mem.block z_mem
      by_cases z_notes : r_notes.c = 0
      rotate_left
      · exact a_notes.block z_notes
      by_cases z_out : r_out.c = 0
      rotate_left
      · exact a_out.block z_out
      by_cases z_disk : r_disk.c = 0
      rotate_left
      · exact a_disk.block z_disk
      by_cases z_queue : r_queue.c = 0
      rotate_left
      · exact a_queue.block z_queue
      by_cases z_script : r_script.c = 0
      rotate_left
      · exact a_script.block z_script
      exact absurd ⟨z_mem, z_notes, z_out, z_disk, z_queue, z_script⟩ hz
    obtain ⟨B, C, t, fz, hB⟩ := blk
    obtain ⟨p_mem, i_mem, j_mem⟩ := a_mem.loc hB
    obtain ⟨p_notes, i_notes, j_notes⟩ := a_notes.loc hB
    obtain ⟨p_out, i_out, j_out⟩ := a_out.loc hB
    obtain ⟨p_disk, i_disk, j_disk⟩ := a_disk.loc hB
    obtain ⟨p_queue, i_queue, j_queue⟩ := a_queue.loc hB
    obtain ⟨p_script, i_script, j_script⟩ := a_script.loc hB
    refine ⟨⟨v_fr, r_mem, ⟨v_r0, v_r1, v_r2, v_r3, v_r4, v_r5, v_r6, v_r7, v_pc, v_ps, v_c0, v_c1, v_c2, v_c3, v_c4, v_c5, v_c6, v_c7, v_h⟩, v_steps, r_notes, r_out, r_disk, r_queue, r_script, v_b1, v_b2, v_b3, v_b4, v_b5, v_b6, v_b7, v_b8⟩, ⟨⟨Nat.le_trans l_mem m_mem, l_mem⟩, ⟨Nat.le_trans l_notes m_notes, l_notes⟩, ⟨Nat.le_trans l_out m_out, l_out⟩, ⟨Nat.le_trans l_disk m_disk, l_disk⟩, ⟨Nat.le_trans l_queue m_queue, l_queue⟩, ⟨Nat.le_trans l_script m_script, l_script⟩⟩, ⟨w1, y_notes, y_script, w2⟩, ⟨y_mem, y_out, y_disk, y_queue⟩, [p_mem, p_notes, p_out, p_disk, p_queue, p_script], rfl, sat_ro rfl (fun p hp => ?_), ?_⟩
    · simp only [Sv.L, List.mem_cons, List.not_mem_nil, or_false] at hp
      rcases hp with rfl | rfl | rfl | rfl | rfl | rfl
      · exact ⟨rfl, p_mem, rfl, i_mem⟩
      · exact ⟨rfl, p_notes, rfl, i_notes⟩
      · exact ⟨rfl, p_out, rfl, i_out⟩
      · exact ⟨rfl, p_disk, rfl, i_disk⟩
      · exact ⟨rfl, p_queue, rfl, i_queue⟩
      · exact ⟨rfl, p_script, rfl, i_script⟩
    · subst ea
      exact ⟨_, rfl, rfl, j_mem _ 0 rfl, rfl, rfl, rfl, rfl, rfl, rfl, rfl, rfl, rfl, rfl, rfl, rfl, rfl, rfl, rfl, rfl, rfl, rfl, rfl, rfl, j_notes _ 1 rfl, j_out _ 2 rfl, j_disk _ 3 rfl, j_queue _ 4 rfl, j_script _ 5 rfl, rfl, rfl, rfl, rfl, rfl, rfl, rfl, rfl, trivial⟩
end
end Go.Proofs.YtmbcpmbpkdeioaaDoor.W
