/- A number's lower and upper bits, moved apart and back, are the number. -/
import Derived.Test.YtpapncnhlapfeaaMovesVals
import Derived.Test.YtpapncnhlapfeaaPFlagsPartsx1
namespace Go.Proofs.Ytpapncnhlapfeaa.PartsVals
open Go Go.RowKit Go.Proofs.Ytpapncnhlapfeaa.FlagBits Go.Proofs.Ytpapncnhlapfeaa.Arith Go.Proofs.YtpapncnhlapfeaaW.PrintWords Go.Proofs.YtpapncnhlapfeaaW.PrintLast Go.Proofs.YtpapncnhlapfeaaW.PrintMore Go.Proofs.Ytpapncnhlapfeaa.Moves Go.Proofs.Ytpapncnhlapfeaa.MovesVals Go.Proofs.Ytpapncnhlapfeaa.PFlagsParts
theorem w1 : wrap64 1 = 1 := by unfold wrap64; omega
theorem w2 : wrap64 2 = 2 := by unfold wrap64; omega
theorem sh0 : shl .u32 64 0 = 64 := by decide
theorem sh1 : shl .u32 64 1 = 128 := by decide
theorem ors : bits .or .u32 16 64 = 80 ∧ bits .or .u32 16 128 = 144 ∧ bits .or .u32 80 128 = 208 ∧ bits .or .u32 0 64 = 64 ∧ bits .or .u32 0 128 = 128 ∧ bits .or .u32 64 128 = 192 ∧
    bits .or .u32 0 32 = 32 ∧ bits .or .u32 32 64 = 96 ∧ bits .or .u32 32 128 = 160 ∧ bits .or .u32 96 128 = 224 := by decide
theorem loop2 (k : Nat) (r f : Int) (c v : Bool) : flags_put.l0 (k+3) r f [c, v] 2 0 = some (r, (if v then bits .or .u32 (if c then bits .or .u32 f 64 else f) 128 else (if c then bits .or .u32 f 64 else f))) := by
  cases c <;> cases v <;> simp [flags_put.l0, rdOf, w1, w2, sh0, sh1]
theorem put2 (k : Nat) (r : Int) (c v : Bool) (h0 : 0 ≤ r) (h1 : r < 4294967296) : flags_put.f (k+5) r [c, v] = some (r, fl r c v) := by
  have e1 : (([c, v] : List Bool).length : Int) = 2 := rfl
  unfold flags_put.f fl
  simp only [flags_put.j0, flags_put.j1, e1, loop2]
  by_cases hz : r = 0
  · subst hz; cases c <;> cases v <;> decide
  · by_cases hn : r / 2147483648 = 1
    · have : 2147483648 ≤ r := by omega
      simp only [if_neg hz, if_pos hn, if_pos this]
      cases c <;> cases v <;> simp [ors]
    · have : ¬ 2147483648 ≤ r := by omega
      simp only [if_neg hz, if_neg hn, if_neg this]
      cases c <;> cases v <;> simp [ors]
theorem put0 (k : Nat) (r : Int) (h0 : 0 ≤ r) (h1 : r < 4294967296) : flags_put.f (k+3) r [] = some (r, fl r false false) := by
  have e1 : (([] : List Bool).length : Int) = 0 := rfl
  unfold flags_put.f fl
  simp only [flags_put.j0, flags_put.j1, e1, flags_put.l0, Int.lt_irrefl, if_false]
  by_cases hz : r = 0
  · subst hz; decide
  · by_cases hn : r / 2147483648 = 1
    · have : 2147483648 ≤ r := by omega
      simp only [if_neg hz, if_pos hn, if_pos this]
      simp [ors]
    · have : ¬ 2147483648 ≤ r := by omega
      simp only [if_neg hz, if_neg hn, if_neg this]
      simp
theorem holds0 (k : Nat) (p : Int) : flags_Holds.f k 0 p = some true := by unfold flags_Holds.f; rw [if_pos rfl]

theorem add_some (a b : Int) : ∃ f, flags_Add.f 5 a b = some ((a + b) % 4294967296, f) := by
  unfold flags_Add.f
  rw [put2 0 _ _ _ (by omega) (by omega)]
  exact ⟨_, rfl⟩
theorem or_some (a b : Nat) (ha : a < 4294967296) (hb : b < 4294967296) : ∃ f, flags_Or.f 3 a b = some (((a ||| b : Nat) : Int), f) := by
  unfold flags_Or.f
  have l1 : a ||| b < 4294967296 := Nat.or_lt_two_pow (n := 32) ha hb
  rw [u32_or_nat a b ha hb, put0 0 _ (by omega) (by omega)]
  exact ⟨_, rfl⟩
theorem and_zero (a : Nat) (ha : a < 4294967296) : ∃ f, flags_And.f 3 a 0 = some (0, f) := by
  unfold flags_And.f
  have e : bits .and .u32 (a : Int) 0 = 0 := by
    rw [show (0 : Int) = ((0 : Nat) : Int) from rfl, u32_and_nat a 0 ha (by omega), Nat.and_zero]
  rw [e, put0 0 _ (by omega) (by omega)]
  exact ⟨_, rfl⟩
/-- Where nothing is moved. -/
theorem same (x : Nat) (n : Int) (hz : n % 32 = 0) : downV x (n % 32) = x ∧ upV x (n % 32) = x := by
  unfold downV upV
  rw [if_pos (by omega), if_pos (by omega)]; exact ⟨rfl, rfl⟩
theorem apart (x : Nat) (n : Int) (hx : x < 4294967296) (hz : 0 < n % 32) :
    ∃ u b l s : Nat, downV x (n % 32) = u ∧ upV u (n % 32) = b ∧ upV x (32 - n % 32) = l ∧ downV l (32 - n % 32) = s ∧ u < 4294967296 ∧ b < 4294967296 ∧ l < 4294967296 ∧ s < 4294967296 ∧ b ||| s = x ∧ b + s = x := by
  obtain ⟨m, hm⟩ : ∃ m : Nat, n % 32 = m := ⟨(n % 32).toNat, by omega⟩
  obtain ⟨P, e1, e2, e3, e4⟩ := pow_split m (by omega)
  have hp : 0 < 2 ^ m := Nat.pow_pos (by omega)
  have hp2 : 0 < 2 ^ (32 - m) := Nat.pow_pos (by omega)
  have d := Nat.div_add_mod x (2 ^ m)
  have md := Nat.mod_lt x hp
  have lu : x / 2 ^ m ≤ x := Nat.div_le_self ..
  have bk : x / 2 ^ m * 2 ^ m % 4294967296 = x / 2 ^ m * 2 ^ m := Nat.mod_eq_of_lt (by rw [Nat.mul_comm]; omega)
  have rm := rot_mod x m (by omega)
  have lw : x % 2 ^ m * 2 ^ (32 - m) / 2 ^ (32 - m) = x % 2 ^ m := Nat.mul_div_cancel _ hp2
  have ll : x % 2 ^ m * 2 ^ (32 - m) < 4294967296 := by rw [← rm]; omega
  have f1 := (down_vals x (n % 32) m hx (by omega) (by omega)).1
  have f2 := (up_vals (x / 2 ^ m) (n % 32) m (by omega) (by omega) (by omega)).1
  have f3 := (up_vals x (32 - n % 32) (32 - m) hx (by omega) (by omega)).1
  have f4 := (down_vals (x % 2 ^ m * 2 ^ (32 - m)) (32 - n % 32) (32 - m) ll (by omega) (by omega)).1
  rw [bk] at f2
  rw [rm] at f3
  rw [lw] at f4
  refine ⟨x / 2 ^ m, x / 2 ^ m * 2 ^ m, x % 2 ^ m * 2 ^ (32 - m), x % 2 ^ m, f1, f2, f3, f4, by omega, by rw [Nat.mul_comm]; omega, ll, by omega, ?_, ?_⟩
  · rw [nat_join m _ _ (by simp) md, Nat.mul_comm]; omega
  · rw [Nat.mul_comm]; omega

end Go.Proofs.Ytpapncnhlapfeaa.PartsVals
