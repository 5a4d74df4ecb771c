/- The engine, thirty-third part: results of which some slices are told more loosely, others are told so already. -/
import Derived.Test.YtmbcpmbpkdeioaaGreatDoorEn32
namespace Go.Eng
open Go Go.RowKit
set_option linter.unusedVariables false
set_option linter.unusedSimpArgs false
/-- A result that is a row by value: its slices at those places; a nil one as a row without cells where the slice at place `at_` lies. -/
def looseMsl (at_ : Nat) (spec : List (Nat × Nat × AC)) : AOut → AH → AOut × AH
  | .ret (.agg cs), H => match cs.getD at_ .any with
    | .msl b _ _ _ _ => match looseCs b spec cs H with
      | (cs', H') => (.ret (.agg cs'), H')
    | _ => (.ret (.agg cs), H)
  | out, H => (out, H)
theorem looseMsl_ok (at_ : Nat) (spec : List (Nat × Nat × AC)) : FixOK (looseMsl at_ spec) := by
  intro out H μ w e ho s
  unfold looseMsl
  split
  · rename_i cs H
    split
    · obtain ⟨x, rfl, cs', rfl, h1⟩ := ho
      obtain ⟨μ1, q1, q2, q3⟩ := looseCs_ok (fk := _) spec h1 s
      exact ⟨μ1, ⟨_, rfl, cs', rfl, q1⟩, q2, q3⟩
    · exact ⟨μ, ho, s, Fr.refl _ _ _⟩
  · exact ⟨μ, ho, s, Fr.refl _ _ _⟩
end Go.Eng
