/- FlagsSums: the sums and differences of the program, and their flags, are those of the reference, for any two numbers of 32 bits. -/
import Derived.Test.YtpapncnhlapfeaaPFlagsSumsx1
import Derived.Test.YtpapncnhlapfeaaBits
namespace Go.Proofs.Ytpapncnhlapfeaa.Pure
open Go Go.RowKit Go.Proofs.Ytpapncnhlapfeaa.PFlagsSums Go.Proofs.Ytpapncnhlapfeaa.FlagBits Go.Proofs.YtpapncnhlapfeaaW.PrintWords Go.Proofs.YtpapncnhlapfeaaW.PrintLast Go.Proofs.YtpapncnhlapfeaaW.PrintMore

theorem w1 : wrap64 1 = 1 := by unfold wrap64; omega
theorem w2 : wrap64 2 = 2 := by unfold wrap64; omega
theorem sh0 : shl .u32 64 0 = 64 := by decide
theorem sh1 : shl .u32 64 1 = 128 := by decide
theorem ors : bits .or .u32 16 64 = 80 ∧ bits .or .u32 16 128 = 144 ∧ bits .or .u32 80 128 = 208 ∧ bits .or .u32 0 64 = 64 ∧ bits .or .u32 0 128 = 128 ∧ bits .or .u32 64 128 = 192 ∧
    bits .or .u32 0 32 = 32 ∧ bits .or .u32 32 64 = 96 ∧ bits .or .u32 32 128 = 160 ∧ bits .or .u32 96 128 = 224 := by decide
theorem loop2 (k : Nat) (r f : Int) (c v : Bool) : flags_put.l0 (k+3) r f [c, v] 2 0 = some (r, (if v then bits .or .u32 (if c then bits .or .u32 f 64 else f) 128 else (if c then bits .or .u32 f 64 else f))) := by
  cases c <;> cases v <;> simp [flags_put.l0, rdOf, w1, w2, sh0, sh1]
theorem put2 (k : Nat) (r : Int) (c v : Bool) (h0 : 0 ≤ r) (h1 : r < 4294967296) : flags_put.f (k+5) r [c, v] = some (r, fl r c v) := by
  have e1 : (([c, v] : List Bool).length : Int) = 2 := rfl
  unfold flags_put.f fl
  simp only [flags_put.j0, flags_put.j1, e1, loop2]
  by_cases hz : r = 0
  · subst hz; cases c <;> cases v <;> decide
  · by_cases hn : r / 2147483648 = 1
    · have : 2147483648 ≤ r := by omega
      simp only [if_neg hz, if_pos hn, if_pos this]
      cases c <;> cases v <;> simp [ors]
    · have : ¬ 2147483648 ≤ r := by omega
      simp only [if_neg hz, if_neg hn, if_neg this]
      cases c <;> cases v <;> simp [ors]
/-- A number of 32 bits, signed. -/
def sg (a : Int) : Int := if a ≥ 2147483648 then a - 4294967296 else a
theorem signed_is (a : Int) (h0 : 0 ≤ a) (h1 : a < 4294967296) : mummerref01_Signed.f a = some (sg a) := by
  unfold mummerref01_Signed.f sg
  have e : wrap64 a = a := by unfold wrap64; omega
  have e' : wrap64 (a - 4294967296) = a - 4294967296 := by unfold wrap64; omega
  rw [e, e']; split <;> rfl
theorem of_is (k : Nat) (r : Int) (c v : Bool) (h0 : 0 ≤ r) (h1 : r < 4294967296) : mummerref01_of.f (k+2) r c v = some (fl r c v) := by
  unfold mummerref01_of.f fl
  simp only [mummerref01_of.j0, mummerref01_of.j1, signed_is r h0 h1, Option.bind_some]
  unfold sg
  by_cases hn : 2147483648 ≤ r
  · have hz : ¬ r = 0 := by omega
    have hs : r - 4294967296 < 0 := by omega
    simp only [if_neg hz, if_pos hn, ge_iff_le, if_pos hs]
    cases c <;> cases v <;> simp
  · have hs : ¬ r < 0 := by omega
    simp only [if_neg hn, ge_iff_le, if_neg hs]
    by_cases hz : r = 0 <;> cases c <;> cases v <;> simp [hz]
theorem lost_add (a b : Int) (ha0 : 0 ≤ a) (ha : a < 4294967296) (hb0 : 0 ≤ b) (hb : b < 4294967296) :
    ((bits .and .u32 (bits .xor .u32 a ((a + b) % 4294967296)) (bits .xor .u32 b ((a + b) % 4294967296)) / 2147483648) == 1) = (wrap64 (sg a + sg b) != sg ((a + b) % 4294967296)) := by
  rw [top_and_xor a _ b _ ha0 ha (by omega) (by omega) hb0 hb (by omega) (by omega), Bool.eq_iff_iff]
  have e : wrap64 (sg a + sg b) = sg a + sg b := by unfold wrap64 sg; split <;> split <;> omega
  rw [e]; unfold sg
  simp only [beq_iff_eq, bne_iff_ne]
  split <;> split <;> split <;> split <;> omega
theorem add_is (k : Nat) (a b : Int) (ha0 : 0 ≤ a) (ha : a < 4294967296) (hb0 : 0 ≤ b) (hb : b < 4294967296) :
    flags_Add.f (k+5) a b = some ((a + b) % 4294967296, fl ((a + b) % 4294967296) (decide (a + b ≥ 4294967296)) (wrap64 (sg a + sg b) != sg ((a + b) % 4294967296))) := by
  unfold flags_Add.f
  rw [lost_add a b ha0 ha hb0 hb, put2 k _ _ _ (by omega) (by omega)]
  have e : decide ((a + b) % 4294967296 < a) = decide (a + b ≥ 4294967296) := decide_eq_decide.mpr (by omega)
  rw [e]; rfl
theorem lost_sub (a b : Int) (ha0 : 0 ≤ a) (ha : a < 4294967296) (hb0 : 0 ≤ b) (hb : b < 4294967296) :
    ((bits .and .u32 (bits .xor .u32 a b) (bits .xor .u32 a ((a - b) % 4294967296)) / 2147483648) == 1) = (wrap64 (sg a - sg b) != sg ((a - b) % 4294967296)) := by
  rw [top_and_xor a _ a _ ha0 ha (by omega) (by omega) ha0 ha (by omega) (by omega), Bool.eq_iff_iff]
  have e : wrap64 (sg a - sg b) = sg a - sg b := by unfold wrap64 sg; split <;> split <;> omega
  rw [e]; unfold sg
  simp only [beq_iff_eq, bne_iff_ne]
  split <;> split <;> split <;> split <;> omega
theorem sub_is (k : Nat) (a b : Int) (ha0 : 0 ≤ a) (ha : a < 4294967296) (hb0 : 0 ≤ b) (hb : b < 4294967296) :
    flags_Sub.f (k+5) a b = some ((a - b) % 4294967296, fl ((a - b) % 4294967296) (decide (a < b)) (wrap64 (sg a - sg b) != sg ((a - b) % 4294967296))) := by
  unfold flags_Sub.f
  rw [lost_sub a b ha0 ha hb0 hb, put2 k _ _ _ (by omega) (by omega)]
  rfl

theorem ref_add (k : Nat) (a b : Int) (ha0 : 0 ≤ a) (ha : a < 4294967296) (hb0 : 0 ≤ b) (hb : b < 4294967296) :
    mummerref01_Add.f (k+2) a b = some ((a + b) % 4294967296, fl ((a + b) % 4294967296) (decide (a + b ≥ 4294967296)) (wrap64 (sg a + sg b) != sg ((a + b) % 4294967296))) := by
  unfold mummerref01_Add.f
  have e1 : wrap64 (wrap64 a + wrap64 b) = a + b := by unfold wrap64; omega
  have e2 : Int.tmod (a + b) 4294967296 % 4294967296 = (a + b) % 4294967296 := by rw [Int.tmod_eq_emod_of_nonneg (by omega)]; omega
  rw [e1, e2, signed_is a ha0 ha, signed_is b hb0 hb, signed_is _ (by omega) (by omega)]
  simp only [Option.bind_some]
  rw [of_is k _ _ _ (by omega) (by omega)]; rfl
theorem ref_sub (k : Nat) (a b : Int) (ha0 : 0 ≤ a) (ha : a < 4294967296) (hb0 : 0 ≤ b) (hb : b < 4294967296) :
    mummerref01_Sub.f (k+3) a b = some ((a - b) % 4294967296, fl ((a - b) % 4294967296) (decide (a < b)) (wrap64 (sg a - sg b) != sg ((a - b) % 4294967296))) := by
  unfold mummerref01_Sub.f
  have e1 : wrap64 (wrap64 a - wrap64 b) = a - b := by unfold wrap64; omega
  have e3 : wrap64 (a - b + 4294967296) = a - b + 4294967296 := by unfold wrap64; omega
  have e4 : (a - b + 4294967296) % 4294967296 = (a - b) % 4294967296 := by omega
  simp only [e1, e3, mummerref01_Sub.j0, e4, signed_is a ha0 ha, signed_is b hb0 hb, signed_is ((a - b) % 4294967296) (by omega) (by omega), Option.bind_some, of_is k ((a - b) % 4294967296) _ _ (by omega) (by omega)]
  split <;> rfl

theorem FlagsSums : mummerlaw01_FlagsSums.Pure := by
  intro a b ha hb
  obtain ⟨ha0, ha⟩ := u32_bd ha
  obtain ⟨hb0, hb⟩ := u32_bd hb
  refine ⟨5, ?_⟩
  unfold mummerlaw01_FlagsSums.f
  rw [add_is 0 a b ha0 ha hb0 hb, sub_is 0 a b ha0 ha hb0 hb, ref_add 3 a b ha0 ha hb0 hb, ref_sub 2 a b ha0 ha hb0 hb]
  simp

end Go.Proofs.Ytpapncnhlapfeaa.Pure
