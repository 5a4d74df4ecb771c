/- The reference's shifts, as numbers. -/
import Derived.Test.YtpapncnhlapfeaaMovesVals
namespace Go.Proofs.Ytpapncnhlapfeaa.ShiftRef
open Go Go.RowKit Go.Proofs.Ytpapncnhlapfeaa.FlagBits Go.Proofs.Ytpapncnhlapfeaa.Arith Go.Proofs.YtpapncnhlapfeaaW.PrintWords Go.Proofs.YtpapncnhlapfeaaW.PrintLast Go.Proofs.YtpapncnhlapfeaaW.PrintMore Go.Proofs.Ytpapncnhlapfeaa.Moves Go.Proofs.Ytpapncnhlapfeaa.MovesVals Go.Proofs.Ytpapncnhlapfeaa.PFlagsShifts
/-- A number of 32 bits, signed. -/
def sg (a : Int) : Int := if a ≥ 2147483648 then a - 4294967296 else a
theorem signed_is (a : Int) (h0 : 0 ≤ a) (h1 : a < 4294967296) : mummerref01_Signed.f a = some (sg a) := by
  unfold mummerref01_Signed.f sg
  have e : wrap64 a = a := by unfold wrap64; omega
  have e' : wrap64 (a - 4294967296) = a - 4294967296 := by unfold wrap64; omega
  rw [e, e']; split <;> rfl
theorem of_is (k : Nat) (r : Int) (c v : Bool) (h0 : 0 ≤ r) (h1 : r < 4294967296) : mummerref01_of.f (k+2) r c v = some (fl r c v) := by
  unfold mummerref01_of.f fl
  simp only [mummerref01_of.j0, mummerref01_of.j1, signed_is r h0 h1, Option.bind_some]
  unfold sg
  by_cases hn : 2147483648 ≤ r
  · have hz : ¬ r = 0 := by omega
    have hs : r - 4294967296 < 0 := by omega
    simp only [if_neg hz, if_pos hn, ge_iff_le, if_pos hs]
    cases c <;> cases v <;> simp
  · have hs : ¬ r < 0 := by omega
    simp only [if_neg hn, ge_iff_le, if_neg hs]
    by_cases hz : r = 0 <;> cases c <;> cases v <;> simp [hz]
theorem pow_lt (i : Nat) (h : i ≤ 31) : (2 : Int) ^ i < 4294967296 ∧ 0 < (2 : Int) ^ i := by
  have h1 : (2 : Nat) ^ i < 2 ^ 32 := Nat.pow_lt_pow_right (by omega) (by omega)
  have h2 : ((2 ^ i : Nat) : Int) = (2 : Int) ^ i := by simp
  have h3 : 0 < (2 : Nat) ^ i := Nat.pow_pos (by omega)
  rw [← h2]; omega
theorem power_l (n : Nat) (hn : n ≤ 31) (d : Nat) : ∀ (k i : Nat), i + d = n → d < k → mummerref01_power.l0 k (n : Int) ((2 : Int) ^ i) (i : Int) = some ((2 : Int) ^ n) := by
  induction d with
  | zero =>
    intro k i hi hk
    obtain ⟨k, rfl⟩ : ∃ m, k = m + 1 := ⟨k - 1, by omega⟩
    have e : i = n := by omega
    subst e
    simp [mummerref01_power.l0]
  | succ d ih =>
    intro k i hi hk
    obtain ⟨k, rfl⟩ : ∃ m, k = m + 1 := ⟨k - 1, by omega⟩
    have p := pow_lt (i + 1) (by omega)
    have e : (2 : Int) ^ i * 2 % 4294967296 = (2 : Int) ^ (i + 1) := by rw [Int.pow_succ] at p ⊢; omega
    have e2 : wrap64 ((i : Int) + 1) = ((i + 1 : Nat) : Int) := by unfold wrap64; omega
    simp only [mummerref01_power.l0]
    rw [if_pos (by omega), if_pos (by omega), e, e2]
    exact ih k (i + 1) (by omega) (by omega)
theorem power_is (k n : Nat) (hn : n ≤ 31) (hk : n < k) : mummerref01_power.f k (n : Int) = some ((2 : Int) ^ n) := power_l n hn n k 0 (by omega) hk
theorem bit_is (k n : Nat) (a : Int) (h0 : 0 ≤ a) (h1 : a < 4294967296) (hn : n ≤ 31) (hk : n < k) : mummerref01_bit.f k a (n : Int) = some (a / (2 : Int) ^ n % 2 == 1) := by
  have p := pow_lt n hn
  have d0 : 0 ≤ a / (2 : Int) ^ n := Int.ediv_nonneg h0 (by omega)
  have d1 : a / (2 : Int) ^ n ≤ a := Int.ediv_le_self _ h0
  unfold mummerref01_bit.f
  rw [power_is k n hn hk]
  simp only [Option.bind_some]
  rw [if_neg (by omega), Int.tdiv_eq_ediv_of_nonneg h0, Int.emod_eq_of_lt d0 (by omega)]

theorem bit_tb (k n : Nat) (x : Nat) (h1 : x < 4294967296) (hn : n ≤ 31) (hk : n < k) : mummerref01_bit.f k (x : Int) (n : Int) = some (x / 2 ^ n % 2 == 1) := by
  rw [bit_is k n x (by omega) (by omega) hn hk]
  have h : ((x : Int) / (2 : Int) ^ n % 2) = ((x / 2 ^ n % 2 : Nat) : Int) := by simp
  rw [h]
  have : (((x / 2 ^ n % 2 : Nat) : Int) == 1) = (x / 2 ^ n % 2 == 1) := by rw [Bool.eq_iff_iff]; simp only [beq_iff_eq]; omega
  rw [this]
theorem and1 (v : Nat) (h : v < 4294967296) : (bits .and .u32 (v : Int) 1 == 1) = (v % 2 == 1) := by
  rw [show (1 : Int) = ((1 : Nat) : Int) from rfl, u32_and_nat v 1 h (by omega), nat_mask1, Bool.eq_iff_iff]
  simp only [beq_iff_eq]; omega
theorem bit31 (k x : Nat) (h1 : x < 4294967296) (hk : 31 < k) : mummerref01_bit.f k (x : Int) 31 = some (x / 2147483648 % 2 == 1) := bit_tb k 31 x h1 (by omega) hk
theorem bit0 (k x : Nat) (h1 : x < 4294967296) (hk : 0 < k) : mummerref01_bit.f k (x : Int) 0 = some (x % 2 == 1) := by
  have := bit_tb k 0 x h1 (by omega) hk
  rw [Nat.pow_zero, Nat.div_one] at this; exact this

theorem tm (n : Int) (h : 0 ≤ n) : Int.tmod n 32 = n % 32 := Int.tmod_eq_emod_of_nonneg h
theorem td (x : Nat) (h : x < 4294967296) : Int.tdiv (x : Int) 2 % 4294967296 = ((x / 2 : Nat) : Int) := by
  rw [Int.tdiv_eq_ediv_of_nonneg (by omega)]; omega
theorem shift_up (x : Nat) (n : Int) (m : Nat) (_hx : x < 4294967296) (hn : 0 ≤ n) (hm : n % 32 = m) (d : Nat) : ∀ (k i : Nat), i + d = m → d + 40 < k →
    mummerref01_Shift.l0 k true ((x * 2 ^ i % 4294967296 : Nat) : Int) n (decide (0 < i) && (x / 2 ^ (32 - i) % 2 == 1)) (i : Int) = some (((x * 2 ^ m % 4294967296 : Nat) : Int), fl ((x * 2 ^ m % 4294967296 : Nat) : Int) (decide (0 < m) && (x / 2 ^ (32 - m) % 2 == 1)) false) := by
  induction d with
  | zero =>
    intro k i hi hk
    obtain ⟨k, rfl⟩ : ∃ m, k = m + 3 := ⟨k - 3, by omega⟩
    obtain rfl : i = m := by omega
    simp only [mummerref01_Shift.l0, tm n hn, hm]
    rw [if_neg (by omega), of_is k _ _ _ (by omega) (by omega)]; rfl
  | succ d ih =>
    intro k i hi hk
    obtain ⟨k, rfl⟩ : ∃ m, k = m + 1 := ⟨k - 1, by omega⟩
    have next := ih k (i + 1) (by omega) (by omega)
    have e1 : (((x * 2 ^ i % 4294967296 : Nat) : Int) + ((x * 2 ^ i % 4294967296 : Nat) : Int)) % 4294967296 = ((x * 2 ^ (i + 1) % 4294967296 : Nat) : Int) := by rw [← up_step]; omega
    have e2 : ((i : Int) + 1) % 4294967296 = ((i + 1 : Nat) : Int) := by omega
    have e3 : (x * 2 ^ i % 4294967296) / 2147483648 % 2 = x / 2 ^ (32 - (i + 1)) % 2 := by rw [up_bit x i (by omega), show 32 - (i + 1) = 31 - i from by omega]
    simp only [mummerref01_Shift.l0, tm n hn, hm]
    rw [if_pos (by omega), if_pos trivial, bit31 k _ (by omega) (by omega), e1, e2, e3]
    simpa using next
theorem shift_down (x : Nat) (n : Int) (m : Nat) (hx : x < 4294967296) (hn : 0 ≤ n) (hm : n % 32 = m) (d : Nat) : ∀ (k i : Nat), i + d = m → d + 40 < k →
    mummerref01_Shift.l0 k false ((x / 2 ^ i : Nat) : Int) n (decide (0 < i) && (x / 2 ^ (i - 1) % 2 == 1)) (i : Int) = some (((x / 2 ^ m : Nat) : Int), fl ((x / 2 ^ m : Nat) : Int) (decide (0 < m) && (x / 2 ^ (m - 1) % 2 == 1)) false) := by
  induction d with
  | zero =>
    intro k i hi hk
    obtain ⟨k, rfl⟩ : ∃ m, k = m + 3 := ⟨k - 3, by omega⟩
    obtain rfl : i = m := by omega
    have l : x / 2 ^ i ≤ x := Nat.div_le_self ..
    generalize x / 2 ^ i = v at l ⊢
    simp only [mummerref01_Shift.l0, tm n hn, hm]
    rw [if_neg (by omega), of_is k _ _ _ (by omega) (by omega)]; rfl
  | succ d ih =>
    intro k i hi hk
    obtain ⟨k, rfl⟩ : ∃ m, k = m + 1 := ⟨k - 1, by omega⟩
    have next := ih k (i + 1) (by omega) (by omega)
    have l : x / 2 ^ i ≤ x := Nat.div_le_self ..
    have e1 : Int.tdiv ((x / 2 ^ i : Nat) : Int) 2 % 4294967296 = ((x / 2 ^ (i + 1) : Nat) : Int) := by rw [td _ (by omega), down_step]
    have e2 : ((i : Int) + 1) % 4294967296 = ((i + 1 : Nat) : Int) := by omega
    simp only [mummerref01_Shift.l0, tm n hn, hm]
    rw [if_pos (by omega), if_neg (by simp), bit0 k _ (by omega) (by omega), e1, e2]
    simpa using next

theorem ref_up (x : Nat) (n : Int) (hx : x < 4294967296) (hn : 0 ≤ n) : mummerref01_Shift.f 100 true x n = some (upV x n, upF x n) := by
  obtain ⟨m, hm⟩ : ∃ m : Nat, n % 32 = m := ⟨(n % 32).toNat, by omega⟩
  have up := up_vals x n m hx hn hm
  have := shift_up x n m hx hn hm m 100 0 (by omega) (by omega)
  rw [Nat.pow_zero, Nat.mul_one, Nat.mod_eq_of_lt hx] at this
  rw [up.1, up.2]; exact this
theorem ref_down (x : Nat) (n : Int) (hx : x < 4294967296) (hn : 0 ≤ n) : mummerref01_Shift.f 100 false x n = some (downV x n, downF x n) := by
  obtain ⟨m, hm⟩ : ∃ m : Nat, n % 32 = m := ⟨(n % 32).toNat, by omega⟩
  have dn := down_vals x n m hx hn hm
  have := shift_down x n m hx hn hm m 100 0 (by omega) (by omega)
  rw [Nat.pow_zero, Nat.div_one] at this
  rw [dn.1, dn.2]; exact this

end Go.Proofs.Ytpapncnhlapfeaa.ShiftRef
