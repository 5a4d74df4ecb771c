/- What is turned round by some places, and by the others, is as it was; what was moved down with its sign has that sign. -/
import Derived.Test.YtpapncnhlapfeaaMovesVals
import Derived.Test.YtpapncnhlapfeaaPFlagsRoundx1
namespace Go.Proofs.Ytpapncnhlapfeaa.RoundVals
open Go Go.RowKit Go.Proofs.Ytpapncnhlapfeaa.FlagBits Go.Proofs.Ytpapncnhlapfeaa.Arith Go.Proofs.YtpapncnhlapfeaaW.PrintWords Go.Proofs.YtpapncnhlapfeaaW.PrintLast Go.Proofs.YtpapncnhlapfeaaW.PrintMore Go.Proofs.Ytpapncnhlapfeaa.Moves Go.Proofs.Ytpapncnhlapfeaa.MovesVals Go.Proofs.Ytpapncnhlapfeaa.PFlagsRound
theorem holds0 (k : Nat) (p : Int) : flags_Holds.f k 0 p = some true := by unfold flags_Holds.f; rw [if_pos rfl]
theorem holds1 (k : Nat) (r : Int) (c v : Bool) : flags_Holds.f (k+3) 1 (fl r c v) = some (decide (r = 0)) := by
  unfold flags_Holds.f; simp only [flags_Holds.j0, fl16]
  by_cases h : r = 0 <;> simp [h]

theorem rot_back (x m : Nat) (h0 : 1 ≤ m) (h : m ≤ 31) (hx : x < 4294967296) : rot (rot x m) (32 - m) = x := by
  have l := (rot_lt x m h hx).1
  have hp : 0 < 2 ^ (32 - m) := Nat.pow_pos (by omega)
  have e : 32 - (32 - m) = m := by omega
  unfold rot
  rw [e, Nat.add_mul_div_right _ _ hp, Nat.add_mul_mod_self_right, Nat.div_eq_of_lt l, Nat.mod_eq_of_lt l, Nat.zero_add, Nat.mul_comm]
  have := Nat.div_add_mod x (2 ^ m)
  omega
theorem round_back (x : Nat) (n : Int) (hx : x < 4294967296) (_hn : 0 ≤ n) : roundV (roundV x (n % 32)) (32 - n % 32) = x := by
  obtain ⟨m, hm⟩ : ∃ m : Nat, n % 32 = m := ⟨(n % 32).toNat, by omega⟩
  have a := (round_vals x (n % 32) m hx (by omega) (by omega)).1
  have l := (rot_lt x m (by omega) hx).2
  rw [a, hm]
  by_cases h : m = 0
  · subst h
    have e : rot x 0 = x := by unfold rot; simp [Nat.mod_one]
    have b := (round_vals (rot x 0) (32 - ((0 : Nat) : Int)) 0 l (by omega) (by omega)).1
    rw [b, e, e]
  · have b := (round_vals (rot x m) (32 - (m : Int)) (32 - m) l (by omega) (by omega)).1
    rw [b, rot_back x m (by omega) (by omega) hx]
theorem sign_of (s : Int) (h1 : -2147483648 ≤ s) (h2 : s < 2147483648) : wrap32 (s % 4294967296) = s := by unfold wrap32; omega
theorem neg_div (s : Int) (i : Nat) : s / 2 ^ i < 0 ↔ s < 0 := by
  have hp : (0 : Int) < 2 ^ i := Int.pow_pos (by omega)
  constructor
  · intro h
    refine Int.lt_of_not_ge fun g => ?_
    have := Int.ediv_nonneg g (Int.le_of_lt hp); omega
  · intro h; exact Int.ediv_neg_of_neg_of_pos h hp
theorem signed_sign (x : Nat) (n : Int) (hx : x < 4294967296) (hn : 0 ≤ n) : decide (wrap32 (signedV x n) < 0) = decide (wrap32 (x : Int) < 0) := by
  obtain ⟨m, hm⟩ : ∃ m : Nat, n % 32 = m := ⟨(n % 32).toNat, by omega⟩
  have wb : -2147483648 ≤ wrap32 (x : Int) ∧ wrap32 (x : Int) < 2147483648 := by unfold wrap32; omega
  have b := sar_bd (wrap32 (x : Int)) m wb.1 wb.2
  rw [(signed_vals x n m hx hn hm).1, sign_of _ b.1 b.2]
  exact decide_eq_decide.mpr (neg_div _ _)
theorem zero_holds (x : Nat) (n : Int) (hx : x < 4294967296) (hn : 0 ≤ n) : flags_Holds.f 3 1 (signedF x n) = some (signedV x n == 0) := by
  obtain ⟨m, hm⟩ : ∃ m : Nat, n % 32 = m := ⟨(n % 32).toNat, by omega⟩
  have v := signed_vals x n m hx hn hm
  rw [v.2, v.1, holds1 0]; rfl

end Go.Proofs.Ytpapncnhlapfeaa.RoundVals
