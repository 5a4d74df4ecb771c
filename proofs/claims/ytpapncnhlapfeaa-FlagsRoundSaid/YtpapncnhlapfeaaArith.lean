/- Plain arithmetic of a number of 32 bits that is moved up, down, round, and down with its sign, place by place. No condition beyond the ranges that each states. -/
import Derived.Test.YtpapncnhlapfeaaBits

namespace Go.Proofs.Ytpapncnhlapfeaa.Arith
open Go Go.RowKit

theorem pow_split (i : Nat) (h : i ≤ 31) : ∃ P : Nat, 2 ^ (31 - i) = P ∧ 2 ^ (32 - i) = 2 * P ∧ 2 ^ i * P = 2147483648 ∧ 0 < P := by
  refine ⟨2 ^ (31 - i), rfl, ?_, ?_, Nat.pow_pos (by omega)⟩
  · rw [show 32 - i = (31 - i) + 1 from by omega, Nat.pow_succ]; omega
  · rw [← Nat.pow_add]; rw [show i + (31 - i) = 31 from by omega]

theorem up_step (x i : Nat) : ((x * 2 ^ i) % 4294967296 + (x * 2 ^ i) % 4294967296) % 4294967296 = (x * 2 ^ (i + 1)) % 4294967296 := by
  have : x * 2 ^ (i + 1) = 2 * (x * 2 ^ i) := by rw [Nat.pow_succ]; simp [Nat.mul_comm, Nat.mul_left_comm]
  omega
theorem up_bit (x i : Nat) (h : i ≤ 31) : (x * 2 ^ i) % 4294967296 / 2147483648 % 2 = x / 2 ^ (31 - i) % 2 := by
  obtain ⟨P, e1, e2, e3, e4⟩ := pow_split i h
  rw [e1]
  have hp : 0 < 2 ^ i := Nat.pow_pos (by omega)
  have d : x * 2 ^ i / 2147483648 = x / P := by
    rw [← e3, Nat.mul_comm (2 ^ i) P, Nat.mul_div_mul_right _ _ hp]
  omega
theorem down_step (x i : Nat) : x / 2 ^ i / 2 = x / 2 ^ (i + 1) := by rw [Nat.pow_succ, Nat.div_div_eq_div_mul]

/-- What is turned round by i places. -/
def rot (x i : Nat) : Nat := x / 2 ^ i + x % 2 ^ i * 2 ^ (32 - i)
theorem rot_mod (x i : Nat) (h : i ≤ 32) : (x * 2 ^ (32 - i)) % 4294967296 = x % 2 ^ i * 2 ^ (32 - i) := by
  have e : 4294967296 = 2 ^ i * 2 ^ (32 - i) := by rw [← Nat.pow_add, show i + (32 - i) = 32 from by omega]
  rw [e, Nat.mul_mod_mul_right]
theorem rot_lt (x i : Nat) (h : i ≤ 31) (hx : x < 4294967296) : x / 2 ^ i < 2 ^ (32 - i) ∧ rot x i < 4294967296 := by
  obtain ⟨P, e1, e2, e3, e4⟩ := pow_split i h
  have hp : 0 < 2 ^ i := Nat.pow_pos (by omega)
  have d : x / 2 ^ i < 2 * P := by
    rw [Nat.div_lt_iff_lt_mul hp, Nat.mul_assoc, Nat.mul_comm P, e3]; omega
  have m : x % 2 ^ i < 2 ^ i := Nat.mod_lt _ hp
  unfold rot; rw [e2]
  refine ⟨d, ?_⟩
  have : x % 2 ^ i * (2 * P) + 2 * P ≤ 2 ^ i * (2 * P) := by
    have := Nat.mul_le_mul_right (2 * P) (show x % 2 ^ i + 1 ≤ 2 ^ i from m)
    rwa [Nat.add_mul, Nat.one_mul] at this
  have e5 : 2 ^ i * (2 * P) = 4294967296 := by rw [Nat.mul_left_comm, e3]
  omega
theorem rot_step (x i : Nat) (h : i ≤ 30) : rot x (i + 1) = rot x i / 2 + x / 2 ^ i % 2 * 2147483648 ∧ rot x i % 2 = x / 2 ^ i % 2 := by
  obtain ⟨P, e1, e2, e3, e4⟩ := pow_split i (by omega)
  have e6 : 2 ^ (32 - (i + 1)) = P := by rw [show 32 - (i + 1) = 31 - i from by omega, e1]
  unfold rot
  rw [e2, e6, ← down_step, Nat.pow_succ, Nat.mod_mul]
  have a1 : x % 2 ^ i * (2 * P) = 2 * (x % 2 ^ i * P) := Nat.mul_left_comm ..
  have a2 : (x % 2 ^ i + 2 ^ i * (x / 2 ^ i % 2)) * P = x % 2 ^ i * P + x / 2 ^ i % 2 * 2147483648 := by
    rw [Nat.add_mul, Nat.mul_right_comm, e3, Nat.mul_comm 2147483648]
  rw [a1, a2]
  omega

theorem sar_step (s : Int) (h1 : -2147483648 ≤ s) (h2 : s < 2147483648) :
    (s / 2) % 4294967296 = (s % 4294967296) / 2 + (s % 4294967296) / 2147483648 * 2147483648 := by omega
theorem sar_bd (s : Int) (i : Nat) (h1 : -2147483648 ≤ s) (h2 : s < 2147483648) : -2147483648 ≤ s / 2 ^ i ∧ s / 2 ^ i < 2147483648 := by
  have hp : (0 : Int) < 2 ^ i := Int.pow_pos (by omega)
  have hp1 : (1 : Int) ≤ 2 ^ i := by omega
  constructor
  · have : -2147483648 * (2 : Int) ^ i ≤ s := by
      have := Int.mul_le_mul_of_nonneg_left hp1 (show (0 : Int) ≤ 2147483648 by omega)
      omega
    exact (Int.le_ediv_iff_mul_le hp).mpr this
  · have : s < 2147483648 * (2 : Int) ^ i := by
      have := Int.mul_le_mul_of_nonneg_left hp1 (show (0 : Int) ≤ 2147483648 by omega)
      omega
    exact (Int.ediv_lt_iff_lt_mul hp).mpr this
theorem sar_bit (x i : Nat) (h : i ≤ 31) (_hx : x < 4294967296) : (wrap32 (x : Int) / 2 ^ i) % 2 = ((x / 2 ^ i % 2 : Nat) : Int) := by
  have hp : (0 : Int) < 2 ^ i := Int.pow_pos (by omega)
  have c : ((x / 2 ^ i : Nat) : Int) = (x : Int) / 2 ^ i := by simp
  by_cases hs : x < 2147483648
  · have e : wrap32 (x : Int) = x := by unfold wrap32; omega
    rw [e, ← c]; omega
  · obtain ⟨P, e1, e2, e3, e4⟩ := pow_split i h
    have e5 : ((2 ^ i : Nat) : Int) * (P : Int) = 2147483648 := by
      have : ((2 ^ i * P : Nat) : Int) = 2147483648 := by rw [e3]; rfl
      rwa [Int.natCast_mul] at this
    have e6 : (2 : Int) ^ i * (P : Int) = 2147483648 := by simpa using e5
    have e : wrap32 (x : Int) = x + (-(2 * (P : Int))) * (2 : Int) ^ i := by
      have : (-(2 * (P : Int))) * (2 : Int) ^ i = -(2 * ((2 : Int) ^ i * (P : Int))) := by
        rw [Int.neg_mul, Int.mul_assoc, Int.mul_comm (P : Int)]
      rw [this, e6]; unfold wrap32; omega
    rw [e, Int.add_mul_ediv_right _ _ (by omega), ← c]; omega

end Go.Proofs.Ytpapncnhlapfeaa.Arith
