/- What the four moves answer, as numbers. -/
import Derived.Test.YtpapncnhlapfeaaMoves
import Derived.Test.YtpapncnhlapfeaaArith
namespace Go.Proofs.Ytpapncnhlapfeaa.MovesVals
open Go Go.RowKit Go.Proofs.Ytpapncnhlapfeaa.FlagBits Go.Proofs.Ytpapncnhlapfeaa.Arith Go.Proofs.YtpapncnhlapfeaaW.PrintWords Go.Proofs.YtpapncnhlapfeaaW.PrintLast Go.Proofs.YtpapncnhlapfeaaW.PrintMore Go.Proofs.Ytpapncnhlapfeaa.Moves
theorem and1 (v : Nat) (h : v < 4294967296) : (bits .and .u32 (v : Int) 1 == 1) = (v % 2 == 1) := by
  rw [show (1 : Int) = ((1 : Nat) : Int) from rfl, u32_and_nat v 1 h (by omega), nat_mask1, Bool.eq_iff_iff]
  simp only [beq_iff_eq]; omega

theorem up_vals (x : Nat) (n : Int) (m : Nat) (hx : x < 4294967296) (_hn : 0 ≤ n) (hm : n % 32 = m) :
    upV x n = ((x * 2 ^ m % 4294967296 : Nat) : Int) ∧ upF x n = fl ((x * 2 ^ m % 4294967296 : Nat) : Int) (decide (0 < m) && (x / 2 ^ (32 - m) % 2 == 1)) false := by
  unfold upV upF
  by_cases h : m = 0
  · subst h
    rw [if_pos (by omega), if_pos (by omega), Nat.pow_zero, Nat.mul_one, Nat.mod_eq_of_lt hx]; exact ⟨rfl, rfl⟩
  · rw [if_neg (by omega), if_neg (by omega), hm]
    have ev : upR x (m : Int) = ((x * 2 ^ m % 4294967296 : Nat) : Int) := by unfold upR; simp
    have ec : upC x (m : Int) = (decide (0 < m) && (x / 2 ^ (32 - m) % 2 == 1)) := by
      unfold upC
      have t : (32 - (m : Int)).toNat = 32 - m := by omega
      have c : (x : Int) / 2 ^ (32 - m) = ((x / 2 ^ (32 - m) : Nat) : Int) := by simp
      have l : x / 2 ^ (32 - m) ≤ x := Nat.div_le_self ..
      rw [t, c, and1 _ (by omega), decide_eq_true (by omega), Bool.true_and]
    rw [ev, ec]; exact ⟨rfl, rfl⟩

theorem down_vals (x : Nat) (n : Int) (m : Nat) (hx : x < 4294967296) (_hn : 0 ≤ n) (hm : n % 32 = m) :
    downV x n = ((x / 2 ^ m : Nat) : Int) ∧ downF x n = fl ((x / 2 ^ m : Nat) : Int) (decide (0 < m) && (x / 2 ^ (m - 1) % 2 == 1)) false := by
  unfold downV downF
  by_cases h : m = 0
  · subst h
    rw [if_pos (by omega), if_pos (by omega), Nat.pow_zero, Nat.div_one]; exact ⟨rfl, rfl⟩
  · rw [if_neg (by omega), if_neg (by omega), hm]
    have ev : downR x (m : Int) = ((x / 2 ^ m : Nat) : Int) := by unfold downR; simp
    have ec : downC x (m : Int) = (decide (0 < m) && (x / 2 ^ (m - 1) % 2 == 1)) := by
      unfold downC
      have t : (m : Int).toNat = m := by omega
      have c : (x : Int) / 2 ^ (m - 1) = ((x / 2 ^ (m - 1) : Nat) : Int) := by simp
      have l : x / 2 ^ (m - 1) ≤ x := Nat.div_le_self ..
      rw [t, c, and1 _ (by omega), decide_eq_true (by omega), Bool.true_and]
    rw [ev, ec]; exact ⟨rfl, rfl⟩

theorem round_vals (x : Nat) (n : Int) (m : Nat) (hx : x < 4294967296) (_hn : 0 ≤ n) (hm : n % 32 = m) :
    roundV x n = ((rot x m : Nat) : Int) ∧ roundF x n = fl ((rot x m : Nat) : Int) (decide (0 < m) && (x / 2 ^ (m - 1) % 2 == 1)) false := by
  unfold roundV roundF
  by_cases h : m = 0
  · subst h
    have e : rot x 0 = x := by unfold rot; simp [Nat.mod_one]
    rw [if_pos (by omega), if_pos (by omega), e]; exact ⟨rfl, rfl⟩
  · rw [if_neg (by omega), if_neg (by omega), hm]
    have ev : roundR x (m : Int) = ((rot x m : Nat) : Int) := by
      unfold roundR rot
      have t : (m : Int).toNat = m := by omega
      have t2 : (32 - (m : Int)).toNat = 32 - m := by omega
      have c : (x : Int) / 2 ^ m = ((x / 2 ^ m : Nat) : Int) := by simp
      have c2 : (x : Int) * 2 ^ (32 - m) % 4294967296 = ((x * 2 ^ (32 - m) % 4294967296 : Nat) : Int) := by simp
      have l : x / 2 ^ m ≤ x := Nat.div_le_self ..
      have l2 := (rot_lt x m (by omega) hx).1
      rw [t, t2, c, c2, u32_or_nat _ _ (by omega) (by omega), rot_mod x m (by omega), Nat.or_comm, nat_join (32 - m) _ _ (by simp) l2, Nat.add_comm]
    have ec : (roundR x (m : Int) / 2147483648 == 1) = (decide (0 < m) && (x / 2 ^ (m - 1) % 2 == 1)) := by
      rw [ev]
      obtain ⟨j, rfl⟩ : ∃ j, m = j + 1 := ⟨m - 1, by omega⟩
      have s := rot_step x j (by omega)
      have l := (rot_lt x j (by omega) hx).2
      rw [Nat.add_sub_cancel, Bool.eq_iff_iff, s.1]
      simp only [beq_iff_eq, Bool.and_eq_true, decide_eq_true_eq]; omega
    have ec' : roundC x (m : Int) = (decide (0 < m) && (x / 2 ^ (m - 1) % 2 == 1)) := ec
    rw [ec', ev]; exact ⟨rfl, rfl⟩

theorem signed_vals (x : Nat) (n : Int) (m : Nat) (hx : x < 4294967296) (_hn : 0 ≤ n) (hm : n % 32 = m) :
    signedV x n = wrap32 (x : Int) / 2 ^ m % 4294967296 ∧ signedF x n = fl (wrap32 (x : Int) / 2 ^ m % 4294967296) (decide (0 < m) && (x / 2 ^ (m - 1) % 2 == 1)) false := by
  unfold signedV signedF
  by_cases h : m = 0
  · subst h
    have e : wrap32 (x : Int) / 2 ^ 0 % 4294967296 = x := by rw [Int.pow_zero, Int.ediv_one]; unfold wrap32; omega
    rw [if_pos (by omega), if_pos (by omega), e]; exact ⟨rfl, rfl⟩
  · rw [if_neg (by omega), if_neg (by omega), hm]
    have t : (m : Int).toNat = m := by omega
    have ec : signedC x (m : Int) = (decide (0 < m) && (x / 2 ^ (m - 1) % 2 == 1)) := by
      unfold signedC
      have c : (x : Int) / 2 ^ (m - 1) = ((x / 2 ^ (m - 1) : Nat) : Int) := by simp
      have l : x / 2 ^ (m - 1) ≤ x := Nat.div_le_self ..
      rw [t, c, and1 _ (by omega), decide_eq_true (by omega), Bool.true_and]
    have ev : signedR x (m : Int) = wrap32 (x : Int) / 2 ^ m % 4294967296 := by unfold signedR; rw [t]
    rw [ev, ec]; exact ⟨rfl, rfl⟩

end Go.Proofs.Ytpapncnhlapfeaa.MovesVals
