/- The reference's moves down (round, and with the sign), as numbers. -/
import Derived.Test.YtpapncnhlapfeaaMovesVals
import Derived.Test.YtpapncnhlapfeaaPFlagsTurnsx1
namespace Go.Proofs.Ytpapncnhlapfeaa.DownRef
open Go Go.RowKit Go.Proofs.Ytpapncnhlapfeaa.FlagBits Go.Proofs.Ytpapncnhlapfeaa.Arith Go.Proofs.YtpapncnhlapfeaaW.PrintWords Go.Proofs.YtpapncnhlapfeaaW.PrintLast Go.Proofs.YtpapncnhlapfeaaW.PrintMore Go.Proofs.Ytpapncnhlapfeaa.Moves Go.Proofs.Ytpapncnhlapfeaa.MovesVals Go.Proofs.Ytpapncnhlapfeaa.PFlagsTurns
/-- A number of 32 bits, signed. -/
def sg (a : Int) : Int := if a ≥ 2147483648 then a - 4294967296 else a
theorem signed_is (a : Int) (h0 : 0 ≤ a) (h1 : a < 4294967296) : mummerref01_Signed.f a = some (sg a) := by
  unfold mummerref01_Signed.f sg
  have e : wrap64 a = a := by unfold wrap64; omega
  have e' : wrap64 (a - 4294967296) = a - 4294967296 := by unfold wrap64; omega
  rw [e, e']; split <;> rfl
theorem of_is (k : Nat) (r : Int) (c v : Bool) (h0 : 0 ≤ r) (h1 : r < 4294967296) : mummerref01_of.f (k+2) r c v = some (fl r c v) := by
  unfold mummerref01_of.f fl
  simp only [mummerref01_of.j0, mummerref01_of.j1, signed_is r h0 h1, Option.bind_some]
  unfold sg
  by_cases hn : 2147483648 ≤ r
  · have hz : ¬ r = 0 := by omega
    have hs : r - 4294967296 < 0 := by omega
    simp only [if_neg hz, if_pos hn, ge_iff_le, if_pos hs]
    cases c <;> cases v <;> simp
  · have hs : ¬ r < 0 := by omega
    simp only [if_neg hn, ge_iff_le, if_neg hs]
    by_cases hz : r = 0 <;> cases c <;> cases v <;> simp [hz]
theorem pow_lt (i : Nat) (h : i ≤ 31) : (2 : Int) ^ i < 4294967296 ∧ 0 < (2 : Int) ^ i := by
  have h1 : (2 : Nat) ^ i < 2 ^ 32 := Nat.pow_lt_pow_right (by omega) (by omega)
  have h2 : ((2 ^ i : Nat) : Int) = (2 : Int) ^ i := by simp
  have h3 : 0 < (2 : Nat) ^ i := Nat.pow_pos (by omega)
  rw [← h2]; omega
theorem power_l (n : Nat) (hn : n ≤ 31) (d : Nat) : ∀ (k i : Nat), i + d = n → d < k → mummerref01_power.l0 k (n : Int) ((2 : Int) ^ i) (i : Int) = some ((2 : Int) ^ n) := by
  induction d with
  | zero =>
    intro k i hi hk
    obtain ⟨k, rfl⟩ : ∃ m, k = m + 1 := ⟨k - 1, by omega⟩
    have e : i = n := by omega
    subst e
    simp [mummerref01_power.l0]
  | succ d ih =>
    intro k i hi hk
    obtain ⟨k, rfl⟩ : ∃ m, k = m + 1 := ⟨k - 1, by omega⟩
    have p := pow_lt (i + 1) (by omega)
    have e : (2 : Int) ^ i * 2 % 4294967296 = (2 : Int) ^ (i + 1) := by rw [Int.pow_succ] at p ⊢; omega
    have e2 : wrap64 ((i : Int) + 1) = ((i + 1 : Nat) : Int) := by unfold wrap64; omega
    simp only [mummerref01_power.l0]
    rw [if_pos (by omega), if_pos (by omega), e, e2]
    exact ih k (i + 1) (by omega) (by omega)
theorem power_is (k n : Nat) (hn : n ≤ 31) (hk : n < k) : mummerref01_power.f k (n : Int) = some ((2 : Int) ^ n) := power_l n hn n k 0 (by omega) hk
theorem bit_is (k n : Nat) (a : Int) (h0 : 0 ≤ a) (h1 : a < 4294967296) (hn : n ≤ 31) (hk : n < k) : mummerref01_bit.f k a (n : Int) = some (a / (2 : Int) ^ n % 2 == 1) := by
  have p := pow_lt n hn
  have d0 : 0 ≤ a / (2 : Int) ^ n := Int.ediv_nonneg h0 (by omega)
  have d1 : a / (2 : Int) ^ n ≤ a := Int.ediv_le_self _ h0
  unfold mummerref01_bit.f
  rw [power_is k n hn hk]
  simp only [Option.bind_some]
  rw [if_neg (by omega), Int.tdiv_eq_ediv_of_nonneg h0, Int.emod_eq_of_lt d0 (by omega)]

theorem bit_tb (k n : Nat) (x : Nat) (h1 : x < 4294967296) (hn : n ≤ 31) (hk : n < k) : mummerref01_bit.f k (x : Int) (n : Int) = some (x / 2 ^ n % 2 == 1) := by
  rw [bit_is k n x (by omega) (by omega) hn hk]
  have h : ((x : Int) / (2 : Int) ^ n % 2) = ((x / 2 ^ n % 2 : Nat) : Int) := by simp
  rw [h]
  have : (((x / 2 ^ n % 2 : Nat) : Int) == 1) = (x / 2 ^ n % 2 == 1) := by rw [Bool.eq_iff_iff]; simp only [beq_iff_eq]; omega
  rw [this]
theorem and1 (v : Nat) (h : v < 4294967296) : (bits .and .u32 (v : Int) 1 == 1) = (v % 2 == 1) := by
  rw [show (1 : Int) = ((1 : Nat) : Int) from rfl, u32_and_nat v 1 h (by omega), nat_mask1, Bool.eq_iff_iff]
  simp only [beq_iff_eq]; omega
theorem bit31 (k x : Nat) (h1 : x < 4294967296) (hk : 31 < k) : mummerref01_bit.f k (x : Int) 31 = some (x / 2147483648 % 2 == 1) := bit_tb k 31 x h1 (by omega) hk
theorem bit0 (k x : Nat) (h1 : x < 4294967296) (hk : 0 < k) : mummerref01_bit.f k (x : Int) 0 = some (x % 2 == 1) := by
  have := bit_tb k 0 x h1 (by omega) hk
  rw [Nat.pow_zero, Nat.div_one] at this; exact this

theorem tm (n : Int) (h : 0 ≤ n) : Int.tmod n 32 = n % 32 := Int.tmod_eq_emod_of_nonneg h
theorem td (x : Nat) (h : x < 4294967296) : Int.tdiv (x : Int) 2 % 4294967296 = ((x / 2 : Nat) : Int) := by
  rw [Int.tdiv_eq_ediv_of_nonneg (by omega)]; omega
/-- One round, of whatever row of values: the next value is half, with the bit on top. -/
theorem down_any (r : Bool) (v : Nat → Nat) (c : Nat → Bool) (n : Int) (m : Nat) (hn : 0 ≤ n) (hm : n % 32 = m) (hv : ∀ i, i ≤ m → v i < 4294967296)
    (hc : ∀ i, i < m → c (i + 1) = (v i % 2 == 1)) (hs : ∀ i, i < m → v (i + 1) = v i / 2 + (if (if r then v i % 2 == 1 else v i / 2147483648 % 2 == 1) then 2147483648 else 0)) (d : Nat) : ∀ (k i : Nat), i + d = m → d + 40 < k →
    mummerref01_Down.l0 k r ((v i : Nat) : Int) n (c i) (i : Int) = some (((v m : Nat) : Int), fl ((v m : Nat) : Int) (c m) false) := by
  induction d with
  | zero =>
    intro k i hi hk
    obtain ⟨k, rfl⟩ : ∃ m, k = m + 3 := ⟨k - 3, by omega⟩
    obtain rfl : i = m := by omega
    have l := hv i (by omega)
    simp only [mummerref01_Down.l0, tm n hn, hm]
    rw [if_neg (by omega), of_is k _ _ _ (by omega) (by omega)]; rfl
  | succ d ih =>
    intro k i hi hk
    obtain ⟨k, rfl⟩ : ∃ m, k = m + 1 := ⟨k - 1, by omega⟩
    have next := ih k (i + 1) (by omega) (by omega)
    have l := hv i (by omega)
    have l1 := hv (i + 1) (by omega)
    have s := hs i (by omega)
    have e2 : ((i : Int) + 1) % 4294967296 = ((i + 1 : Nat) : Int) := by omega
    rw [hc i (by omega)] at next
    simp only [mummerref01_Down.l0, tm n hn, hm]
    rw [if_pos (by omega), bit0 k _ l (by omega), bit31 k _ l (by omega), td _ l, e2]
    simp only [Option.bind_some]
    obtain ⟨t, ht⟩ : ∃ t : Bool, t = (if r then v i % 2 == 1 else v i / 2147483648 % 2 == 1) := ⟨_, rfl⟩
    rw [← ht] at s
    have up : t = true → (((v i / 2 : Nat) : Int) + 2147483648) % 4294967296 = ((v (i + 1) : Nat) : Int) := by
      intro h; rw [h, if_pos rfl] at s; omega
    have dn : t = false → ((v i / 2 : Nat) : Int) = ((v (i + 1) : Nat) : Int) := by
      intro h; rw [h, if_neg (by simp)] at s; omega
    cases r
    · rw [if_neg (by simp)] at ht ⊢
      by_cases h : (v i / 2147483648 % 2 == 1) = true
      · rw [if_pos h, up (by rw [ht]; exact h)]; exact next
      · rw [if_neg h, dn (by rw [ht]; simpa using h)]; exact next
    · rw [if_pos rfl] at ht ⊢
      by_cases h : (v i % 2 == 1) = true
      · rw [if_pos h, up (by rw [ht]; exact h)]; exact next
      · rw [if_neg h, dn (by rw [ht]; simpa using h)]; exact next
theorem ref_round (x : Nat) (n : Int) (hx : x < 4294967296) (hn : 0 ≤ n) : mummerref01_Down.f 100 true x n = some (roundV x n, roundF x n) := by
  obtain ⟨m, hm⟩ : ∃ m : Nat, n % 32 = m := ⟨(n % 32).toNat, by omega⟩
  have rv := round_vals x n m hx hn hm
  have e : rot x 0 = x := by unfold rot; simp [Nat.mod_one]
  have := down_any true (rot x) (fun i => decide (0 < i) && (x / 2 ^ (i - 1) % 2 == 1)) n m hn hm (fun i hi => (rot_lt x i (by omega) hx).2)
    (fun i hi => by simp [(rot_step x i (by omega)).2]) (fun i hi => by
      have s := rot_step x i (by omega)
      have h01 : x / 2 ^ i % 2 = 0 ∨ x / 2 ^ i % 2 = 1 := by omega
      rw [s.1, s.2]
      rcases h01 with h | h <;> rw [h] <;> simp) m 100 0 (by omega) (by omega)
  rw [e] at this
  rw [rv.1, rv.2]; exact this
theorem small (s : Int) : (s % 4294967296).toNat < 4294967296 := by omega
theorem low_bit (s : Int) (t : Nat) (h : s % 2 = ((t % 2 : Nat) : Int)) : (s % 4294967296).toNat % 2 = t % 2 := by omega
theorem sar_nat (s t : Int) (e : t = s / 2) (h1 : -2147483648 ≤ s) (h2 : s < 2147483648) :
    (t % 4294967296).toNat = (s % 4294967296).toNat / 2 + (if (s % 4294967296).toNat / 2147483648 % 2 == 1 then 2147483648 else 0) := by
  have st := sar_step s h1 h2
  subst e
  by_cases h : (s % 4294967296).toNat / 2147483648 % 2 = 1
  · rw [if_pos (by simpa using h)]; omega
  · rw [if_neg (by simpa using h)]; omega
/-- The value behind i places, as a natural number. -/
def sv (x i : Nat) : Nat := (wrap32 (x : Int) / 2 ^ i % 4294967296).toNat
theorem sv_int (x i : Nat) : ((sv x i : Nat) : Int) = wrap32 (x : Int) / 2 ^ i % 4294967296 := by unfold sv; omega
theorem sv_zero (x : Nat) (h : x < 4294967296) : sv x 0 = x := by unfold sv; rw [Int.pow_zero, Int.ediv_one]; unfold wrap32; omega
theorem sv_lt (x i : Nat) : sv x i < 4294967296 := by unfold sv; exact small _
theorem sv_bit (x i : Nat) (hi : i ≤ 31) (h : x < 4294967296) : sv x i % 2 = x / 2 ^ i % 2 := low_bit _ _ (sar_bit x i hi h)
theorem sv_next (x i : Nat) : sv x (i + 1) = sv x i / 2 + (if sv x i / 2147483648 % 2 == 1 then 2147483648 else 0) := by
  have wb : -2147483648 ≤ wrap32 (x : Int) ∧ wrap32 (x : Int) < 2147483648 := by unfold wrap32; omega
  have b := sar_bd (wrap32 (x : Int)) i wb.1 wb.2
  have hd : wrap32 (x : Int) / 2 ^ (i + 1) = wrap32 (x : Int) / 2 ^ i / 2 := by
    rw [Int.pow_succ, Int.ediv_ediv_of_nonneg (Int.le_of_lt (Int.pow_pos (by omega)))]
  exact sar_nat _ _ hd b.1 b.2
theorem ref_signed (x : Nat) (n : Int) (hx : x < 4294967296) (hn : 0 ≤ n) : mummerref01_Down.f 100 false x n = some (signedV x n, signedF x n) := by
  obtain ⟨m, hm⟩ : ∃ m : Nat, n % 32 = m := ⟨(n % 32).toNat, by omega⟩
  have rv := signed_vals x n m hx hn hm
  have := down_any false (sv x) (fun i => decide (0 < i) && (x / 2 ^ (i - 1) % 2 == 1)) n m hn hm (fun i _ => sv_lt x i)
    (fun i hi => by simp [sv_bit x i (by omega) hx])
    (fun i _ => by simp only [Bool.false_eq_true, if_false]; exact sv_next x i) m 100 0 (by omega) (by omega)
  rw [sv_zero x hx, sv_int] at this
  rw [rv.1, rv.2]; exact this
theorem w1 : wrap64 1 = 1 := by unfold wrap64; omega
theorem w2 : wrap64 2 = 2 := by unfold wrap64; omega
theorem sh0 : shl .u32 64 0 = 64 := by decide
theorem sh1 : shl .u32 64 1 = 128 := by decide
theorem ors : bits .or .u32 16 64 = 80 ∧ bits .or .u32 16 128 = 144 ∧ bits .or .u32 80 128 = 208 ∧ bits .or .u32 0 64 = 64 ∧ bits .or .u32 0 128 = 128 ∧ bits .or .u32 64 128 = 192 ∧
    bits .or .u32 0 32 = 32 ∧ bits .or .u32 32 64 = 96 ∧ bits .or .u32 32 128 = 160 ∧ bits .or .u32 96 128 = 224 := by decide
theorem loop2 (k : Nat) (r f : Int) (c v : Bool) : flags_put.l0 (k+3) r f [c, v] 2 0 = some (r, (if v then bits .or .u32 (if c then bits .or .u32 f 64 else f) 128 else (if c then bits .or .u32 f 64 else f))) := by
  cases c <;> cases v <;> simp [flags_put.l0, rdOf, w1, w2, sh0, sh1]
theorem put2 (k : Nat) (r : Int) (c v : Bool) (h0 : 0 ≤ r) (h1 : r < 4294967296) : flags_put.f (k+5) r [c, v] = some (r, fl r c v) := by
  have e1 : (([c, v] : List Bool).length : Int) = 2 := rfl
  unfold flags_put.f fl
  simp only [flags_put.j0, flags_put.j1, e1, loop2]
  by_cases hz : r = 0
  · subst hz; cases c <;> cases v <;> decide
  · by_cases hn : r / 2147483648 = 1
    · have : 2147483648 ≤ r := by omega
      simp only [if_neg hz, if_pos hn, if_pos this]
      cases c <;> cases v <;> simp [ors]
    · have : ¬ 2147483648 ≤ r := by omega
      simp only [if_neg hz, if_neg hn, if_neg this]
      cases c <;> cases v <;> simp [ors]

theorem add_some (a b : Int) : ∃ f, flags_Add.f 5 a b = some ((a + b) % 4294967296, f) := by
  unfold flags_Add.f
  rw [put2 0 _ _ _ (by omega) (by omega)]
  exact ⟨_, rfl⟩

end Go.Proofs.Ytpapncnhlapfeaa.DownRef
