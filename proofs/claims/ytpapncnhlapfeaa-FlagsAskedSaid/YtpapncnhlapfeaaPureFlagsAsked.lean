/- FlagsAsked: any condition of any status holds as the reference says, for any number of a condition and any status of 32 bits. -/
import Derived.Test.YtpapncnhlapfeaaPFlagsAskedx1
import Derived.Test.YtpapncnhlapfeaaBits
namespace Go.Proofs.Ytpapncnhlapfeaa.Pure
open Go Go.RowKit Go.Proofs.Ytpapncnhlapfeaa.PFlagsAsked Go.Proofs.Ytpapncnhlapfeaa.FlagBits Go.Proofs.YtpapncnhlapfeaaW.PrintWords Go.Proofs.YtpapncnhlapfeaaW.PrintLast Go.Proofs.YtpapncnhlapfeaaW.PrintMore

theorem holds0 (k : Nat) (p : Int) : flags_Holds.f k 0 p = some true := by unfold flags_Holds.f; rw [if_pos rfl]

theorem tst (p m : Int) : (p / m % 2 * m != 0) = ((p / m % 2) == 1 && m != 0) := by
  rw [Bool.eq_iff_iff]
  have : p / m % 2 = 0 ∨ p / m % 2 = 1 := by omega
  rcases this with h | h <;> rw [h] <;> simp
theorem FlagsAsked : mummerlaw01_FlagsAsked.Pure := by
  intro c p _ hp
  obtain ⟨h0, h1⟩ := u32_bd hp
  refine ⟨3, ?_⟩
  unfold mummerlaw01_FlagsAsked.f
  rw [holds0]
  have t : ∀ m : Int, 0 < m → Int.tdiv p m % 4294967296 = p / m := by
    intro m hm
    have e0 : 0 ≤ p / m := Int.ediv_nonneg h0 (by omega)
    have e1 : p / m ≤ p := Int.ediv_le_self m h0
    rw [Int.tdiv_eq_ediv_of_nonneg h0]; omega
  have e : flags_Holds.f 3 c p = mummerref01_Holds.f c p := by
    unfold flags_Holds.f mummerref01_Holds.f
    simp only [flags_Holds.j0, flags_Holds.j1, flags_Holds.j2, and16 p h0 h1, and32 p h0 h1, and64 p h0 h1, and128 p h0 h1, t 16 (by omega), t 32 (by omega), t 64 (by omega), t 128 (by omega), tst]
    by_cases c0 : c = 0
    · simp [c0]
    by_cases c1 : c = 1
    · simp [c1]
    by_cases c2 : c = 2
    · simp [c2]
    by_cases c3 : c = 3
    · simp [c3]
    by_cases c4 : c = 4
    · subst c4; simp
      cases (p / 32 % 2 == 1) <;> cases (p / 128 % 2 == 1) <;> rfl
    by_cases c5 : c = 5
    · simp [c5]
    by_cases c6 : c = 6
    · subst c6; simp
    by_cases c7 : c = 7
    · subst c7; simp
    simp [c0, c1, c2, c3, c4, c5, c6, c7]
  have hs : ∃ b, mummerref01_Holds.f c p = some b := by
    unfold mummerref01_Holds.f; repeat' split
    all_goals exact ⟨_, rfl⟩
  obtain ⟨b, hb⟩ := hs
  rw [e, hb]; simp

end Go.Proofs.Ytpapncnhlapfeaa.Pure
