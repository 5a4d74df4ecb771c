/- FlagsRests: the upper halves and rests of the program, and their flags, are those of the reference, for any two numbers of 32 bits. -/
import Derived.Test.YtpapncnhlapfeaaPFlagsRestsx1
import Derived.Test.YtpapncnhlapfeaaBits
namespace Go.Proofs.Ytpapncnhlapfeaa.Pure
open Go Go.RowKit Go.Proofs.Ytpapncnhlapfeaa.PFlagsRests Go.Proofs.Ytpapncnhlapfeaa.FlagBits Go.Proofs.YtpapncnhlapfeaaW.PrintWords Go.Proofs.YtpapncnhlapfeaaW.PrintLast Go.Proofs.YtpapncnhlapfeaaW.PrintMore

theorem w1 : wrap64 1 = 1 := by unfold wrap64; omega
theorem w2 : wrap64 2 = 2 := by unfold wrap64; omega
theorem sh0 : shl .u32 64 0 = 64 := by decide
theorem sh1 : shl .u32 64 1 = 128 := by decide
theorem ors : bits .or .u32 16 64 = 80 ∧ bits .or .u32 16 128 = 144 ∧ bits .or .u32 80 128 = 208 ∧ bits .or .u32 0 64 = 64 ∧ bits .or .u32 0 128 = 128 ∧ bits .or .u32 64 128 = 192 ∧
    bits .or .u32 0 32 = 32 ∧ bits .or .u32 32 64 = 96 ∧ bits .or .u32 32 128 = 160 ∧ bits .or .u32 96 128 = 224 := by decide
theorem loop2 (k : Nat) (r f : Int) (c v : Bool) : flags_put.l0 (k+3) r f [c, v] 2 0 = some (r, (if v then bits .or .u32 (if c then bits .or .u32 f 64 else f) 128 else (if c then bits .or .u32 f 64 else f))) := by
  cases c <;> cases v <;> simp [flags_put.l0, rdOf, w1, w2, sh0, sh1]
theorem put2 (k : Nat) (r : Int) (c v : Bool) (h0 : 0 ≤ r) (h1 : r < 4294967296) : flags_put.f (k+5) r [c, v] = some (r, fl r c v) := by
  have e1 : (([c, v] : List Bool).length : Int) = 2 := rfl
  unfold flags_put.f fl
  simp only [flags_put.j0, flags_put.j1, e1, loop2]
  by_cases hz : r = 0
  · subst hz; cases c <;> cases v <;> decide
  · by_cases hn : r / 2147483648 = 1
    · have : 2147483648 ≤ r := by omega
      simp only [if_neg hz, if_pos hn, if_pos this]
      cases c <;> cases v <;> simp [ors]
    · have : ¬ 2147483648 ≤ r := by omega
      simp only [if_neg hz, if_neg hn, if_neg this]
      cases c <;> cases v <;> simp [ors]
theorem put0 (k : Nat) (r : Int) (h0 : 0 ≤ r) (h1 : r < 4294967296) : flags_put.f (k+3) r [] = some (r, fl r false false) := by
  have e1 : (([] : List Bool).length : Int) = 0 := rfl
  unfold flags_put.f fl
  simp only [flags_put.j0, flags_put.j1, e1, flags_put.l0, Int.lt_irrefl, if_false]
  by_cases hz : r = 0
  · subst hz; decide
  · by_cases hn : r / 2147483648 = 1
    · have : 2147483648 ≤ r := by omega
      simp only [if_neg hz, if_pos hn, if_pos this]
      simp [ors]
    · have : ¬ 2147483648 ≤ r := by omega
      simp only [if_neg hz, if_neg hn, if_neg this]
      simp
/-- A number of 32 bits, signed. -/
def sg (a : Int) : Int := if a ≥ 2147483648 then a - 4294967296 else a
theorem signed_is (a : Int) (h0 : 0 ≤ a) (h1 : a < 4294967296) : mummerref01_Signed.f a = some (sg a) := by
  unfold mummerref01_Signed.f sg
  have e : wrap64 a = a := by unfold wrap64; omega
  have e' : wrap64 (a - 4294967296) = a - 4294967296 := by unfold wrap64; omega
  rw [e, e']; split <;> rfl
theorem of_is (k : Nat) (r : Int) (c v : Bool) (h0 : 0 ≤ r) (h1 : r < 4294967296) : mummerref01_of.f (k+2) r c v = some (fl r c v) := by
  unfold mummerref01_of.f fl
  simp only [mummerref01_of.j0, mummerref01_of.j1, signed_is r h0 h1, Option.bind_some]
  unfold sg
  by_cases hn : 2147483648 ≤ r
  · have hz : ¬ r = 0 := by omega
    have hs : r - 4294967296 < 0 := by omega
    simp only [if_neg hz, if_pos hn, ge_iff_le, if_pos hs]
    cases c <;> cases v <;> simp
  · have hs : ¬ r < 0 := by omega
    simp only [if_neg hn, ge_iff_le, if_neg hs]
    by_cases hz : r = 0 <;> cases c <;> cases v <;> simp [hz]
theorem lost_add (a b : Int) (ha0 : 0 ≤ a) (ha : a < 4294967296) (hb0 : 0 ≤ b) (hb : b < 4294967296) :
    ((bits .and .u32 (bits .xor .u32 a ((a + b) % 4294967296)) (bits .xor .u32 b ((a + b) % 4294967296)) / 2147483648) == 1) = (wrap64 (sg a + sg b) != sg ((a + b) % 4294967296)) := by
  rw [top_and_xor a _ b _ ha0 ha (by omega) (by omega) hb0 hb (by omega) (by omega), Bool.eq_iff_iff]
  have e : wrap64 (sg a + sg b) = sg a + sg b := by unfold wrap64 sg; split <;> split <;> omega
  rw [e]; unfold sg
  simp only [beq_iff_eq, bne_iff_ne]
  split <;> split <;> split <;> split <;> omega
theorem add_is (k : Nat) (a b : Int) (ha0 : 0 ≤ a) (ha : a < 4294967296) (hb0 : 0 ≤ b) (hb : b < 4294967296) :
    flags_Add.f (k+5) a b = some ((a + b) % 4294967296, fl ((a + b) % 4294967296) (decide (a + b ≥ 4294967296)) (wrap64 (sg a + sg b) != sg ((a + b) % 4294967296))) := by
  unfold flags_Add.f
  rw [lost_add a b ha0 ha hb0 hb, put2 k _ _ _ (by omega) (by omega)]
  have e : decide ((a + b) % 4294967296 < a) = decide (a + b ≥ 4294967296) := decide_eq_decide.mpr (by omega)
  rw [e]; rfl
theorem u64_id (a : Int) (h0 : 0 ≤ a) (h1 : a < 18446744073709551616) : IntKind.u64.wrap a = a := by rw [IntKind.wrap_u64]; omega
theorem mul_lt (a b : Int) (ha0 : 0 ≤ a) (ha : a < 4294967296) (hb0 : 0 ≤ b) (hb : b < 4294967296) : 0 ≤ a * b ∧ a * b < 18446744073709551616 := by
  refine ⟨Int.mul_nonneg ha0 hb0, ?_⟩
  have h1 : a * b ≤ 4294967295 * b := Int.mul_le_mul_of_nonneg_right (by omega) hb0
  omega
theorem prod_is (a b : Int) (ha0 : 0 ≤ a) (ha : a < 4294967296) (hb0 : 0 ≤ b) (hb : b < 4294967296) : IntKind.u64.wrap (IntKind.u64.wrap a * IntKind.u64.wrap b) = a * b := by
  have h := mul_lt a b ha0 ha hb0 hb
  rw [u64_id a ha0 (by omega), u64_id b hb0 (by omega), u64_id _ h.1 h.2]

theorem FlagsRests : mummerlaw01_FlagsRests.Pure := by
  intro a b ha hb
  obtain ⟨ha0, ha⟩ := u32_bd ha
  obtain ⟨hb0, hb⟩ := u32_bd hb
  have hm := mul_lt a b ha0 ha hb0 hb
  refine ⟨5, ?_⟩
  unfold mummerlaw01_FlagsRests.f
  have e1 : flags_Mulh.f 5 a b = some (a * b / 4294967296, fl (a * b / 4294967296) false false) := by
    unfold flags_Mulh.f
    have e : a * b / 4294967296 % 4294967296 = a * b / 4294967296 := by omega
    rw [prod_is a b ha0 ha hb0 hb, e, put0 2 _ (by omega) (by omega)]; rfl
  have e2 : mummerref01_Mulh.f 5 a b = some (a * b / 4294967296, fl (a * b / 4294967296) false false) := by
    unfold mummerref01_Mulh.f
    have e : IntKind.u64.wrap (Int.tdiv (a * b) 4294967296) % 4294967296 = a * b / 4294967296 := by
      rw [Int.tdiv_eq_ediv_of_nonneg hm.1, u64_id _ (by omega) (by omega)]; omega
    rw [prod_is a b ha0 ha hb0 hb, e, of_is 3 _ _ _ (by omega) (by omega)]; rfl
  rw [e1, e2, add_is 0 a 1 ha0 ha (by omega) (by omega)]
  by_cases hz : b = 0
  · subst hz
    have e3 : flags_Rem.f 5 a 0 = some (0, 0, false) := by unfold flags_Rem.f; rw [if_pos rfl]
    have e4 : mummerref01_Rem.f 5 a 0 = some (0, 0, false) := by unfold mummerref01_Rem.f; rw [if_pos rfl]
    rw [e3, e4]; simp
  · have m0 : 0 ≤ a % b := Int.emod_nonneg a hz
    have m1 : a % b < b := Int.emod_lt_of_pos a (by omega)
    have e3 : flags_Rem.f 5 a b = some (a % b, fl (a % b) false false, true) := by
      unfold flags_Rem.f
      rw [if_neg hz, Int.tmod_eq_emod_of_nonneg ha0, put0 2 _ m0 (by omega)]; rfl
    have e4 : mummerref01_Rem.f 5 a b = some (a % b, fl (a % b) false false, true) := by
      unfold mummerref01_Rem.f
      have d0 : 0 ≤ a / b := Int.ediv_nonneg ha0 hb0
      have d1 : a / b ≤ a := Int.ediv_le_self b ha0
      have d2 : b * (a / b) + a % b = a := Int.mul_ediv_add_emod a b
      have d3 : a / b * b = a - a % b := by rw [Int.mul_comm]; omega
      have e : (a - Int.tdiv a b % 4294967296 * b % 4294967296) % 4294967296 = a % b := by
        rw [Int.tdiv_eq_ediv_of_nonneg ha0, Int.emod_eq_of_lt d0 (by omega), d3]
        have l : a % b ≤ a := by have := Int.mul_nonneg hb0 d0; omega
        omega
      rw [if_neg hz, e, of_is 3 _ _ _ m0 (by omega)]; rfl
    rw [e3, e4]; simp

end Go.Proofs.Ytpapncnhlapfeaa.Pure
