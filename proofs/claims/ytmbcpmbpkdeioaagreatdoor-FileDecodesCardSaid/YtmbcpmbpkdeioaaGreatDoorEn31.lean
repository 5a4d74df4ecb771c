/- The engine, thirty-first part: arguments by value, of which some slices are parts of rows that are only read. -/
import Derived.Test.YtmbcpmbpkdeioaaGreatDoorEn30
namespace Go.Eng
open Go Go.RowKit
set_option linter.unusedVariables false
set_option linter.unusedSimpArgs false
theorem vset_same {xs : List Value} {i : Nat} {x : Value} (hx : xs[i]? = some x) : xs.set i x = xs := by
  refine List.ext_getElem? fun j => ?_
  rw [List.getElem?_set]
  split
  · rename_i e
    subst e
    rw [hx]
    split
    · rfl
    · rename_i hlt
      rw [List.getElem?_eq_none (by omega)] at hx
      cases hx
  · rfl
def viewCs : List Nat → List AV → AH → List AV × AH
  | [], cs, H => (cs, H)
  | i :: l, cs, H => match viewOne (cs.getD i .any) H with
    | (v, H') => viewCs l (cs.set i v) H'
theorem viewCs_ok {w : World} {xs : List Value} : ∀ (l : List Nat) {μ : Mu} {H : AH} {cs : List AV}, VRels μ cs xs → Sat μ H w → ∃ μ', VRels μ' (viewCs l cs H).1 xs ∧ Sat μ' (viewCs l cs H).2 w ∧ Fr μ H μ' (viewCs l cs H).2 w w
  | [], μ, H, cs, hv, s => ⟨μ, hv, s, Fr.refl _ _ _⟩
  | i :: l, μ, H, cs, hv, s => by
    rcases hx : xs[i]? with _ | x
    · have hc : cs[i]? = none := by rw [List.getElem?_eq_none_iff] at *; rw [hv.len]; exact hx
      have e1 : cs.getD i .any = .any := by rw [List.getD_eq_getElem?_getD, hc]; rfl
      have e2 : ∀ v, cs.set i v = cs := fun v => List.set_eq_of_length_le (by rw [List.getElem?_eq_none_iff] at hc; exact hc)
      have e3 : viewOne (cs.getD i .any) H = (.any, H) := by rw [e1]; rfl
      simp only [viewCs, e3, e2]
      exact viewCs_ok l hv s
    · have h1 := hv.get i x hx
      obtain ⟨μ1, q1, q2, q3⟩ := viewOne_ok h1 s
      have hv1 : VRels μ1 (cs.set i (viewOne (cs.getD i .any) H).1) xs := by
        have := (VRels.ext (q3.ext s) _ _ hv).set i q1
        rwa [vset_same hx] at this
      obtain ⟨μ2, g1, g2, g3⟩ := viewCs_ok l (cs := cs.set i (viewOne (cs.getD i .any) H).1) hv1 q2
      exact ⟨μ2, g1, g2, q3.trans g3⟩
end Go.Eng
