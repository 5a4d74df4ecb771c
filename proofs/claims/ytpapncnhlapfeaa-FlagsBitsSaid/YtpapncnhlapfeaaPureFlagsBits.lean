/- FlagsBits: bit by bit, any two numbers of 32 bits come to the reference's, with its flags. -/
import Derived.Test.YtpapncnhlapfeaaPFlagsBitsx2
import Derived.Test.YtpapncnhlapfeaaBits
namespace Go.Proofs.Ytpapncnhlapfeaa.Pure
open Go Go.RowKit Go.Proofs.Ytpapncnhlapfeaa.PFlagsBits Go.Proofs.Ytpapncnhlapfeaa.FlagBits Go.Proofs.YtpapncnhlapfeaaW.PrintWords Go.Proofs.YtpapncnhlapfeaaW.PrintLast Go.Proofs.YtpapncnhlapfeaaW.PrintMore

theorem w1 : wrap64 1 = 1 := by unfold wrap64; omega
theorem w2 : wrap64 2 = 2 := by unfold wrap64; omega
theorem sh0 : shl .u32 64 0 = 64 := by decide
theorem sh1 : shl .u32 64 1 = 128 := by decide
theorem ors : bits .or .u32 16 64 = 80 ∧ bits .or .u32 16 128 = 144 ∧ bits .or .u32 80 128 = 208 ∧ bits .or .u32 0 64 = 64 ∧ bits .or .u32 0 128 = 128 ∧ bits .or .u32 64 128 = 192 ∧
    bits .or .u32 0 32 = 32 ∧ bits .or .u32 32 64 = 96 ∧ bits .or .u32 32 128 = 160 ∧ bits .or .u32 96 128 = 224 := by decide
theorem put0 (k : Nat) (r : Int) (h0 : 0 ≤ r) (h1 : r < 4294967296) : flags_put.f (k+3) r [] = some (r, fl r false false) := by
  have e1 : (([] : List Bool).length : Int) = 0 := rfl
  unfold flags_put.f fl
  simp only [flags_put.j0, flags_put.j1, e1, flags_put.l0, Int.lt_irrefl, if_false]
  by_cases hz : r = 0
  · subst hz; decide
  · by_cases hn : r / 2147483648 = 1
    · have : 2147483648 ≤ r := by omega
      simp only [if_neg hz, if_pos hn, if_pos this]
      simp [ors]
    · have : ¬ 2147483648 ≤ r := by omega
      simp only [if_neg hz, if_neg hn, if_neg this]
      simp
/-- A number of 32 bits, signed. -/
def sg (a : Int) : Int := if a ≥ 2147483648 then a - 4294967296 else a
theorem signed_is (a : Int) (h0 : 0 ≤ a) (h1 : a < 4294967296) : mummerref01_Signed.f a = some (sg a) := by
  unfold mummerref01_Signed.f sg
  have e : wrap64 a = a := by unfold wrap64; omega
  have e' : wrap64 (a - 4294967296) = a - 4294967296 := by unfold wrap64; omega
  rw [e, e']; split <;> rfl
theorem of_is (k : Nat) (r : Int) (c v : Bool) (h0 : 0 ≤ r) (h1 : r < 4294967296) : mummerref01_of.f (k+2) r c v = some (fl r c v) := by
  unfold mummerref01_of.f fl
  simp only [mummerref01_of.j0, mummerref01_of.j1, signed_is r h0 h1, Option.bind_some]
  unfold sg
  by_cases hn : 2147483648 ≤ r
  · have hz : ¬ r = 0 := by omega
    have hs : r - 4294967296 < 0 := by omega
    simp only [if_neg hz, if_pos hn, ge_iff_le, if_pos hs]
    cases c <;> cases v <;> simp
  · have hs : ¬ r < 0 := by omega
    simp only [if_neg hn, ge_iff_le, if_neg hs]
    by_cases hz : r = 0 <;> cases c <;> cases v <;> simp [hz]
theorem pow_lt (i : Nat) (h : i ≤ 31) : (2 : Int) ^ i < 4294967296 ∧ 0 < (2 : Int) ^ i := by
  have h1 : (2 : Nat) ^ i < 2 ^ 32 := Nat.pow_lt_pow_right (by omega) (by omega)
  have h2 : ((2 ^ i : Nat) : Int) = (2 : Int) ^ i := by simp
  have h3 : 0 < (2 : Nat) ^ i := Nat.pow_pos (by omega)
  rw [← h2]; omega
theorem power_l (n : Nat) (hn : n ≤ 31) (d : Nat) : ∀ (k i : Nat), i + d = n → d < k → mummerref01_power.l0 k (n : Int) ((2 : Int) ^ i) (i : Int) = some ((2 : Int) ^ n) := by
  induction d with
  | zero =>
    intro k i hi hk
    obtain ⟨k, rfl⟩ : ∃ m, k = m + 1 := ⟨k - 1, by omega⟩
    have e : i = n := by omega
    subst e
    simp [mummerref01_power.l0]
  | succ d ih =>
    intro k i hi hk
    obtain ⟨k, rfl⟩ : ∃ m, k = m + 1 := ⟨k - 1, by omega⟩
    have p := pow_lt (i + 1) (by omega)
    have e : (2 : Int) ^ i * 2 % 4294967296 = (2 : Int) ^ (i + 1) := by rw [Int.pow_succ] at p ⊢; omega
    have e2 : wrap64 ((i : Int) + 1) = ((i + 1 : Nat) : Int) := by unfold wrap64; omega
    simp only [mummerref01_power.l0]
    rw [if_pos (by omega), if_pos (by omega), e, e2]
    exact ih k (i + 1) (by omega) (by omega)
theorem power_is (k n : Nat) (hn : n ≤ 31) (hk : n < k) : mummerref01_power.f k (n : Int) = some ((2 : Int) ^ n) := power_l n hn n k 0 (by omega) hk
theorem bit_is (k n : Nat) (a : Int) (h0 : 0 ≤ a) (h1 : a < 4294967296) (hn : n ≤ 31) (hk : n < k) : mummerref01_bit.f k a (n : Int) = some (a / (2 : Int) ^ n % 2 == 1) := by
  have p := pow_lt n hn
  have d0 : 0 ≤ a / (2 : Int) ^ n := Int.ediv_nonneg h0 (by omega)
  have d1 : a / (2 : Int) ^ n ≤ a := Int.ediv_le_self _ h0
  unfold mummerref01_bit.f
  rw [power_is k n hn hk]
  simp only [Option.bind_some]
  rw [if_neg (by omega), Int.tdiv_eq_ediv_of_nonneg h0, Int.emod_eq_of_lt d0 (by omega)]

/-- The bits of two numbers, joined in one of three ways. -/
def op (w : Int) (x y : Bool) : Bool := if w = 2 then x != y else if w = 1 then x || y else x && y
theorem loop_is (w a b : Int) (c : Nat) (hw : w = 0 ∨ w = 1 ∨ w = 2) (ha0 : 0 ≤ a) (ha : a < 4294967296) (hb0 : 0 ≤ b) (hb : b < 4294967296) (hc : c < 4294967296)
    (hop : ∀ i : Nat, i < 32 → (c / 2 ^ i % 2 == 1) = op w (a / (2 : Int) ^ i % 2 == 1) (b / (2 : Int) ^ i % 2 == 1)) (d : Nat) :
    ∀ (k i : Nat), i + d = 32 → 3 * d + 40 < k → mummerref01_Logic.l0 k w a b ((c % 2 ^ i : Nat) : Int) (i : Int) = some ((c : Int), fl (c : Int) false false) := by
  induction d with
  | zero =>
    intro k i hi hk
    obtain ⟨k, rfl⟩ : ∃ m, k = m + 3 := ⟨k - 3, by omega⟩
    obtain rfl : i = 32 := by omega
    have e : c % 2 ^ 32 = c := Nat.mod_eq_of_lt hc
    simp only [mummerref01_Logic.l0, e]
    rw [if_neg (by omega), of_is k _ _ _ (by omega) (by omega)]; rfl
  | succ d ih =>
    intro k i hi hk
    obtain ⟨k, rfl⟩ : ∃ m, k = m + 3 := ⟨k - 3, by omega⟩
    have next := ih k (i + 1) (by omega) (by omega)
    have e2 : wrap64 ((i : Int) + 1) = ((i + 1 : Nat) : Int) := by unfold wrap64; omega
    have p := pow_lt i (by omega)
    have hs : c % 2 ^ (i + 1) = c % 2 ^ i + 2 ^ i * (c / 2 ^ i % 2) := by rw [Nat.pow_succ]; exact Nat.mod_mul
    have hm : c % 2 ^ i < 2 ^ i := Nat.mod_lt _ (Nat.pow_pos (by omega))
    have hpc : ((2 ^ i : Nat) : Int) = (2 : Int) ^ i := by simp
    have hq : 2 ^ i ≤ 2147483648 := Nat.pow_le_pow_right (n := 2) (by omega) (show i ≤ 31 by omega)
    have h01 : c / 2 ^ i % 2 = 0 ∨ c / 2 ^ i % 2 = 1 := by omega
    have ho := hop i (by omega)
    have stay : op w (a / (2 : Int) ^ i % 2 == 1) (b / (2 : Int) ^ i % 2 == 1) = false → mummerref01_Logic.l0 k w a b ((c % 2 ^ i : Nat) : Int) (wrap64 ((i : Int) + 1)) = some ((c : Int), fl (c : Int) false false) := by
      intro hf
      rw [hf] at ho
      have z : c / 2 ^ i % 2 = 0 := by rcases h01 with h | h <;> simp_all
      rw [z, Nat.mul_zero] at hs
      have hs' : c % 2 ^ (i + 1) = c % 2 ^ i := hs
      rw [e2, ← hs']; exact next
    have grow : op w (a / (2 : Int) ^ i % 2 == 1) (b / (2 : Int) ^ i % 2 == 1) = true → mummerref01_Logic.l0 k w a b ((((c % 2 ^ i : Nat) : Int) + (2 : Int) ^ i) % 4294967296) (wrap64 ((i : Int) + 1)) = some ((c : Int), fl (c : Int) false false) := by
      intro hf
      rw [hf] at ho
      have z : c / 2 ^ i % 2 = 1 := by simpa using ho
      rw [z, Nat.mul_one] at hs
      have e : (((c % 2 ^ i : Nat) : Int) + (2 : Int) ^ i) % 4294967296 = ((c % 2 ^ (i + 1) : Nat) : Int) := by rw [hs, ← hpc]; omega
      rw [e, e2]; exact next
    have q1 := bit_is (k + 2) i a ha0 ha (by omega) (by omega)
    have q2 := bit_is (k + 2) i b hb0 hb (by omega) (by omega)
    have q3 := power_is k i (by omega) (by omega)
    simp only [mummerref01_Logic.l0, mummerref01_Logic.j1, mummerref01_Logic.j2]
    rw [if_pos (by omega), q1, q2]
    simp only [Option.bind_some]
    generalize (a / (2 : Int) ^ i % 2 == 1) = x at *
    generalize (b / (2 : Int) ^ i % 2 == 1) = y at *
    rw [q3]
    simp only [Option.bind_some]
    rcases hw with rfl | rfl | rfl <;> cases x <;> cases y <;> simp [op] at stay grow ⊢ <;> first | exact stay | exact grow

theorem bit_cast (a i : Nat) : ((a : Int) / (2 : Int) ^ i % 2 == 1) = a.testBit i := by
  have h : ((a : Int) / (2 : Int) ^ i % 2) = ((a / 2 ^ i % 2 : Nat) : Int) := by simp
  rw [h, Nat.testBit_eq_decide_div_mod_eq, Bool.eq_iff_iff]
  simp only [beq_iff_eq, decide_eq_true_eq]; omega
theorem bit_nat (a i : Nat) : (a / 2 ^ i % 2 == 1) = a.testBit i := by rw [Nat.testBit_eq_decide_div_mod_eq]; rfl

theorem FlagsBits : mummerlaw01_FlagsBits.Pure := by
  intro a b ha hb
  obtain ⟨ha0, ha⟩ := u32_bd ha
  obtain ⟨hb0, hb⟩ := u32_bd hb
  obtain ⟨a, rfl⟩ := Int.eq_ofNat_of_zero_le ha0
  obtain ⟨b, rfl⟩ := Int.eq_ofNat_of_zero_le hb0
  have a' : a < 4294967296 := by omega
  have b' : b < 4294967296 := by omega
  have l0 : a &&& b < 4294967296 := Nat.and_lt_two_pow (n := 32) a b'
  have l1 : a ||| b < 4294967296 := Nat.or_lt_two_pow (n := 32) a' b'
  have l2 : a ^^^ b < 4294967296 := Nat.xor_lt_two_pow (n := 32) a' b'
  have z : ∀ c : Nat, ((c % 2 ^ 0 : Nat) : Int) = 0 := fun c => by simp [Nat.mod_one]
  have r0 := loop_is 0 a b (a &&& b) (by omega) ha0 ha hb0 hb l0 (fun i _ => by rw [bit_cast, bit_cast, bit_nat]; simp [op]) 32 200 0 (by omega) (by omega)
  have r1 := loop_is 1 a b (a ||| b) (by omega) ha0 ha hb0 hb l1 (fun i _ => by rw [bit_cast, bit_cast, bit_nat]; simp [op]) 32 200 0 (by omega) (by omega)
  have r2 := loop_is 2 a b (a ^^^ b) (by omega) ha0 ha hb0 hb l2 (fun i _ => by rw [bit_cast, bit_cast, bit_nat]; simp [op]) 32 200 0 (by omega) (by omega)
  rw [z] at r0 r1 r2
  refine ⟨200, ?_⟩
  unfold mummerlaw01_FlagsBits.f flags_And.f flags_Or.f flags_Xor.f mummerref01_Logic.f
  rw [u32_and_nat a b a' b', u32_or_nat a b a' b', u32_xor_nat a b a' b', put0 197 _ (by omega) (by omega), put0 197 _ (by omega) (by omega), put0 197 _ (by omega) (by omega)]
  have zz : ((0 : Nat) : Int) = 0 := rfl
  rw [zz] at r0 r1 r2
  rw [r0, r1, r2]
  simp

end Go.Proofs.Ytpapncnhlapfeaa.Pure
