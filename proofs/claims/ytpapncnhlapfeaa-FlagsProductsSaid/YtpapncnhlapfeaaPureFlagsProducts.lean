/- FlagsProducts: the products and quotients of the program, and their flags, are those of the reference, for any two numbers of 32 bits. -/
import Derived.Test.YtpapncnhlapfeaaPFlagsProductsx1
import Derived.Test.YtpapncnhlapfeaaBits
namespace Go.Proofs.Ytpapncnhlapfeaa.Pure
open Go Go.RowKit Go.Proofs.Ytpapncnhlapfeaa.PFlagsProducts Go.Proofs.Ytpapncnhlapfeaa.FlagBits Go.Proofs.YtpapncnhlapfeaaW.PrintWords Go.Proofs.YtpapncnhlapfeaaW.PrintLast Go.Proofs.YtpapncnhlapfeaaW.PrintMore

theorem w1 : wrap64 1 = 1 := by unfold wrap64; omega
theorem w2 : wrap64 2 = 2 := by unfold wrap64; omega
theorem sh0 : shl .u32 64 0 = 64 := by decide
theorem sh1 : shl .u32 64 1 = 128 := by decide
theorem ors : bits .or .u32 16 64 = 80 ∧ bits .or .u32 16 128 = 144 ∧ bits .or .u32 80 128 = 208 ∧ bits .or .u32 0 64 = 64 ∧ bits .or .u32 0 128 = 128 ∧ bits .or .u32 64 128 = 192 ∧
    bits .or .u32 0 32 = 32 ∧ bits .or .u32 32 64 = 96 ∧ bits .or .u32 32 128 = 160 ∧ bits .or .u32 96 128 = 224 := by decide
theorem loop1 (k : Nat) (r f : Int) (c : Bool) : flags_put.l0 (k+2) r f [c] 1 0 = some (r, (if c then bits .or .u32 f 64 else f)) := by
  cases c <;> simp [flags_put.l0, rdOf, w1, sh0]
theorem put1 (k : Nat) (r : Int) (c : Bool) (h0 : 0 ≤ r) (h1 : r < 4294967296) : flags_put.f (k+4) r [c] = some (r, fl r c false) := by
  have e1 : (([c] : List Bool).length : Int) = 1 := rfl
  unfold flags_put.f fl
  simp only [flags_put.j0, flags_put.j1, e1, loop1]
  by_cases hz : r = 0
  · subst hz; cases c <;> decide
  · by_cases hn : r / 2147483648 = 1
    · have : 2147483648 ≤ r := by omega
      simp only [if_neg hz, if_pos hn, if_pos this]
      cases c <;> simp [ors]
    · have : ¬ 2147483648 ≤ r := by omega
      simp only [if_neg hz, if_neg hn, if_neg this]
      cases c <;> simp [ors]
theorem put0 (k : Nat) (r : Int) (h0 : 0 ≤ r) (h1 : r < 4294967296) : flags_put.f (k+3) r [] = some (r, fl r false false) := by
  have e1 : (([] : List Bool).length : Int) = 0 := rfl
  unfold flags_put.f fl
  simp only [flags_put.j0, flags_put.j1, e1, flags_put.l0, Int.lt_irrefl, if_false]
  by_cases hz : r = 0
  · subst hz; decide
  · by_cases hn : r / 2147483648 = 1
    · have : 2147483648 ≤ r := by omega
      simp only [if_neg hz, if_pos hn, if_pos this]
      simp [ors]
    · have : ¬ 2147483648 ≤ r := by omega
      simp only [if_neg hz, if_neg hn, if_neg this]
      simp
/-- A number of 32 bits, signed. -/
def sg (a : Int) : Int := if a ≥ 2147483648 then a - 4294967296 else a
theorem signed_is (a : Int) (h0 : 0 ≤ a) (h1 : a < 4294967296) : mummerref01_Signed.f a = some (sg a) := by
  unfold mummerref01_Signed.f sg
  have e : wrap64 a = a := by unfold wrap64; omega
  have e' : wrap64 (a - 4294967296) = a - 4294967296 := by unfold wrap64; omega
  rw [e, e']; split <;> rfl
theorem of_is (k : Nat) (r : Int) (c v : Bool) (h0 : 0 ≤ r) (h1 : r < 4294967296) : mummerref01_of.f (k+2) r c v = some (fl r c v) := by
  unfold mummerref01_of.f fl
  simp only [mummerref01_of.j0, mummerref01_of.j1, signed_is r h0 h1, Option.bind_some]
  unfold sg
  by_cases hn : 2147483648 ≤ r
  · have hz : ¬ r = 0 := by omega
    have hs : r - 4294967296 < 0 := by omega
    simp only [if_neg hz, if_pos hn, ge_iff_le, if_pos hs]
    cases c <;> cases v <;> simp
  · have hs : ¬ r < 0 := by omega
    simp only [if_neg hn, ge_iff_le, if_neg hs]
    by_cases hz : r = 0 <;> cases c <;> cases v <;> simp [hz]
theorem u64_id (a : Int) (h0 : 0 ≤ a) (h1 : a < 18446744073709551616) : IntKind.u64.wrap a = a := by rw [IntKind.wrap_u64]; omega
theorem mul_lt (a b : Int) (ha0 : 0 ≤ a) (ha : a < 4294967296) (hb0 : 0 ≤ b) (hb : b < 4294967296) : 0 ≤ a * b ∧ a * b < 18446744073709551616 := by
  refine ⟨Int.mul_nonneg ha0 hb0, ?_⟩
  have h1 : a * b ≤ 4294967295 * b := Int.mul_le_mul_of_nonneg_right (by omega) hb0
  omega
theorem prod_is (a b : Int) (ha0 : 0 ≤ a) (ha : a < 4294967296) (hb0 : 0 ≤ b) (hb : b < 4294967296) : IntKind.u64.wrap (IntKind.u64.wrap a * IntKind.u64.wrap b) = a * b := by
  have h := mul_lt a b ha0 ha hb0 hb
  rw [u64_id a ha0 (by omega), u64_id b hb0 (by omega), u64_id _ h.1 h.2]
theorem mul_is (k : Nat) (a b : Int) (ha0 : 0 ≤ a) (ha : a < 4294967296) (hb0 : 0 ≤ b) (hb : b < 4294967296) :
    flags_Mul.f (k+4) a b = some (a * b % 4294967296, fl (a * b % 4294967296) (decide (a * b ≥ 4294967296)) false) := by
  have h := mul_lt a b ha0 ha hb0 hb
  unfold flags_Mul.f
  rw [prod_is a b ha0 ha hb0 hb, put1 k _ _ (by omega) (by omega)]
  have e : (a * b / 4294967296 != 0) = decide (a * b ≥ 4294967296) := by rw [Bool.eq_iff_iff]; simp only [bne_iff_ne, decide_eq_true_eq]; omega
  rw [e]; rfl
theorem quot_is (a b : Int) (ha0 : 0 ≤ a) (ha : a < 4294967296) (hb0 : 0 ≤ b) : Int.tdiv a b % 4294967296 = a / b ∧ 0 ≤ a / b ∧ a / b < 4294967296 := by
  have e : Int.tdiv a b = a / b := Int.tdiv_eq_ediv_of_nonneg ha0
  have h0 : 0 ≤ a / b := Int.ediv_nonneg ha0 hb0
  have h1 : a / b ≤ a := Int.ediv_le_self b ha0
  rw [e]; omega
theorem div_is (k : Nat) (a b : Int) (ha0 : 0 ≤ a) (ha : a < 4294967296) (hb0 : 0 < b) :
    flags_Div.f (k+3) a b = some (a / b, fl (a / b) false false, true) := by
  have h := quot_is a b ha0 ha (by omega)
  unfold flags_Div.f
  rw [if_neg (by omega), h.1, put0 k _ h.2.1 h.2.2]; rfl

theorem ref_mul (k : Nat) (a b : Int) (ha0 : 0 ≤ a) (ha : a < 4294967296) (hb0 : 0 ≤ b) (hb : b < 4294967296) :
    mummerref01_Mul.f (k+2) a b = some (a * b % 4294967296, fl (a * b % 4294967296) (decide (a * b ≥ 4294967296)) false) := by
  have h := mul_lt a b ha0 ha hb0 hb
  unfold mummerref01_Mul.f
  have e2 : Int.tmod (a * b) 4294967296 % 4294967296 = (a * b) % 4294967296 := by rw [Int.tmod_eq_emod_of_nonneg h.1]; omega
  rw [prod_is a b ha0 ha hb0 hb, e2, of_is k _ _ _ (by omega) (by omega)]; rfl

theorem FlagsProducts : mummerlaw01_FlagsProducts.Pure := by
  intro a b ha hb
  obtain ⟨ha0, ha⟩ := u32_bd ha
  obtain ⟨hb0, hb⟩ := u32_bd hb
  refine ⟨5, ?_⟩
  unfold mummerlaw01_FlagsProducts.f
  rw [mul_is 1 a b ha0 ha hb0 hb, ref_mul 3 a b ha0 ha hb0 hb]
  by_cases hz : b = 0
  · subst hz
    have e1 : flags_Div.f 5 a 0 = some (0, 0, false) := by unfold flags_Div.f; rw [if_pos rfl]
    have e2 : mummerref01_Div.f 5 a 0 = some (0, 0, false) := by unfold mummerref01_Div.f; rw [if_pos rfl]
    rw [e1, e2]; simp
  · have q := quot_is a b ha0 ha hb0
    have e2 : mummerref01_Div.f 5 a b = some (a / b, fl (a / b) false false, true) := by
      unfold mummerref01_Div.f; rw [if_neg hz, q.1, of_is 3 _ _ _ q.2.1 q.2.2]; rfl
    rw [div_is 2 a b ha0 ha (by omega), e2]; simp

end Go.Proofs.Ytpapncnhlapfeaa.Pure
