/- Plain facts on numbers of 32 bits: single bits, the top bit of a sum's overflow, and the value of a status of four flags. No condition beyond the ranges that each states. -/
import Derived.Laws.BitsAllLaws
import Derived.Laws.Bits64
import Derived.RowKit
namespace Go.Proofs.Ytpapncnhlapfeaa.FlagBits
open Go

theorem and_pow (a : Int) (i : Nat) (hi : i < 32) (h0 : 0 ≤ a) (h1 : a < 4294967296) : bits .and .u32 a (2 ^ i : Int) = a / 2 ^ i % 2 * 2 ^ i := by
  have hp : (2 ^ i : Int) < 4294967296 := by
    have : (2:Nat) ^ i < 2 ^ 32 := Nat.pow_lt_pow_right (by omega) hi
    have h2 : ((2 ^ i : Nat) : Int) < 4294967296 := by omega
    simpa using h2
  have hq : (0 : Int) ≤ 2 ^ i := Int.le_of_lt (Int.pow_pos (by omega))
  rw [Go.u32_and a _ h0 h1 hq hp]
  obtain ⟨n, rfl⟩ := Int.eq_ofNat_of_zero_le h0
  have e : ((2 ^ i : Int)).toNat = 2 ^ i := by
    have : (2 ^ i : Int) = ((2 ^ i : Nat) : Int) := by simp
    rw [this]; rfl
  rw [e]
  simp only [Int.toNat_natCast]
  rw [Go.nat_bit]
  simp

theorem and16 (a : Int) (h0 : 0 ≤ a) (h1 : a < 4294967296) : bits .and .u32 a 16 = a / 16 % 2 * 16 := and_pow a 4 (by omega) h0 h1
theorem and32 (a : Int) (h0 : 0 ≤ a) (h1 : a < 4294967296) : bits .and .u32 a 32 = a / 32 % 2 * 32 := and_pow a 5 (by omega) h0 h1
theorem and64 (a : Int) (h0 : 0 ≤ a) (h1 : a < 4294967296) : bits .and .u32 a 64 = a / 64 % 2 * 64 := and_pow a 6 (by omega) h0 h1
theorem and128 (a : Int) (h0 : 0 ≤ a) (h1 : a < 4294967296) : bits .and .u32 a 128 = a / 128 % 2 * 128 := and_pow a 7 (by omega) h0 h1

theorem bit01 (x : Nat) (h : x < 4294967296) : x / 2147483648 = 0 ∨ x / 2147483648 = 1 := by omega

theorem top_and_xor (a b c d : Int) (ha0 : 0 ≤ a) (ha : a < 4294967296) (hb0 : 0 ≤ b) (hb : b < 4294967296) (hc0 : 0 ≤ c) (hc : c < 4294967296) (hd0 : 0 ≤ d) (hd : d < 4294967296) :
    bits .and .u32 (bits .xor .u32 a b) (bits .xor .u32 c d) / 2147483648 = if a / 2147483648 ≠ b / 2147483648 ∧ c / 2147483648 ≠ d / 2147483648 then 1 else 0 := by
  obtain ⟨a, rfl⟩ := Int.eq_ofNat_of_zero_le ha0
  obtain ⟨b, rfl⟩ := Int.eq_ofNat_of_zero_le hb0
  obtain ⟨c, rfl⟩ := Int.eq_ofNat_of_zero_le hc0
  obtain ⟨d, rfl⟩ := Int.eq_ofNat_of_zero_le hd0
  have ha' : a < 4294967296 := by omega
  have hb' : b < 4294967296 := by omega
  have hc' : c < 4294967296 := by omega
  have hd' : d < 4294967296 := by omega
  have l1 : a ^^^ b < 4294967296 := Nat.xor_lt_two_pow (n := 32) ha' hb'
  have l2 : c ^^^ d < 4294967296 := Nat.xor_lt_two_pow (n := 32) hc' hd'
  rw [Go.u32_xor_nat a b ha' hb', Go.u32_xor_nat c d hc' hd', Go.u32_and_nat _ _ l1 l2]
  have e : ((a ^^^ b) &&& (c ^^^ d)) / 2147483648 = (a / 2147483648 ^^^ b / 2147483648) &&& (c / 2147483648 ^^^ d / 2147483648) := by
    have := fun x : Nat => (Nat.shiftRight_eq_div_pow x 31)
    simp only [show (2147483648 : Nat) = 2 ^ 31 from rfl, ← this, Nat.shiftRight_and_distrib, Nat.shiftRight_xor_distrib]
  have e2 : ((((a ^^^ b) &&& (c ^^^ d)) : Nat) : Int) / 2147483648 = (((((a ^^^ b) &&& (c ^^^ d)) / 2147483648 : Nat)) : Int) := by omega
  rw [e2, e]
  have ia : (a : Int) / 2147483648 = ((a / 2147483648 : Nat) : Int) := by omega
  have ib : (b : Int) / 2147483648 = ((b / 2147483648 : Nat) : Int) := by omega
  have ic : (c : Int) / 2147483648 = ((c / 2147483648 : Nat) : Int) := by omega
  have id : (d : Int) / 2147483648 = ((d / 2147483648 : Nat) : Int) := by omega
  rw [ia, ib, ic, id]
  rcases bit01 a ha' with h | h <;> rcases bit01 b hb' with h' | h' <;> rcases bit01 c hc' with g | g <;> rcases bit01 d hd' with g' | g' <;> rw [h, h', g, g'] <;> decide

/-- A status: zero, negative, carry, lost sign. -/
def fl (r : Int) (c v : Bool) : Int := (if r = 0 then 16 else 0) + (if 2147483648 ≤ r then 32 else 0) + (if c then 64 else 0) + (if v then 128 else 0)

theorem fl_bound (r : Int) (c v : Bool) : 0 ≤ fl r c v ∧ fl r c v < 256 := by
  unfold fl; cases c <;> cases v <;> simp <;> split <;> split <;> omega

theorem fl16 (r : Int) (c v : Bool) : bits .and .u32 (fl r c v) 16 = if r = 0 then 16 else 0 := by
  have h := fl_bound r c v
  rw [and16 _ h.1 (by omega)]; unfold fl; cases c <;> cases v <;> simp <;> split <;> split <;> omega
theorem fl32 (r : Int) (c v : Bool) : bits .and .u32 (fl r c v) 32 = if 2147483648 ≤ r then 32 else 0 := by
  have h := fl_bound r c v
  rw [and32 _ h.1 (by omega)]; unfold fl; cases c <;> cases v <;> simp <;> split <;> split <;> omega
theorem fl64 (r : Int) (c v : Bool) : bits .and .u32 (fl r c v) 64 = if c then 64 else 0 := by
  have h := fl_bound r c v
  rw [and64 _ h.1 (by omega)]; unfold fl; cases c <;> cases v <;> simp <;> split <;> split <;> omega
theorem fl128 (r : Int) (c v : Bool) : bits .and .u32 (fl r c v) 128 = if v then 128 else 0 := by
  have h := fl_bound r c v
  rw [and128 _ h.1 (by omega)]; unfold fl; cases c <;> cases v <;> simp <;> split <;> split <;> omega

/-- From a wf number of 32 bits to its bounds. -/
theorem u32_bd {a : Int} (h : (Lit.int .u32 a).wf = true) : 0 ≤ a ∧ a < 4294967296 := by
  simp [Lit.wf, IntKind.min, IntKind.max, IntKind.bits, IntKind.signed] at h; omega

end Go.Proofs.Ytpapncnhlapfeaa.FlagBits
