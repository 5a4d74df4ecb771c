/- What is typed of a text, and what is wanted of it, as plain lists: the program's and the reference's loops both come to them. -/
import Derived.Test.YtpapncnhlapfeabPKernelWantsx1
namespace Go.Proofs.Ytpapncnhlapfeab.KernelPure
open Go Go.RowKit Go.Proofs.Ytpapncnhlapfeab.PKernelWants Go.Proofs.YtpapncnhlapfeabW.PrintWords Go.Proofs.YtpapncnhlapfeabW.PrintLast Go.Proofs.YtpapncnhlapfeabW.PrintMore
/-- What is typed: all but 4, at most twenty of them. -/
def typ (l : List Int) : List Int := (l.filter (· != 4)).take 20
def low (c : Int) : Int := if 97 ≤ c ∧ c ≤ 122 then c - 32 else c
theorem rd_nat (l : List Int) (i : Nat) : rd l (i : Int) = l.getD i 0 := rfl
theorem drop_cons (l : List Int) (i : Nat) (h : i < l.length) : l.drop i = rd l (i : Int) :: l.drop (i + 1) := by
  rw [List.drop_eq_getElem_cons h, rd_nat, List.getD_eq_getElem?_getD, List.getElem?_eq_getElem h]; rfl
theorem wrap_nat (i : Nat) (h : i < 140737488355328) : wrap64 ((i : Int) + 1) = ((i + 1 : Nat) : Int) := by unfold wrap64; omega
theorem typed_l (l : List Int) (hl : l.length < 140737488355328) (d : Nat) : ∀ (k i : Nat) (acc : List Int), i + d = l.length → d < k → acc.length ≤ 20 →
    kernel_typed.l0 k acc l (l.length : Int) (i : Int) = some (acc ++ ((l.drop i).filter (· != 4)).take (20 - acc.length)) := by
  induction d with
  | zero =>
    intro k i acc hi hk _
    obtain ⟨k, rfl⟩ : ∃ m, k = m + 1 := ⟨k - 1, by omega⟩
    simp only [kernel_typed.l0]
    rw [if_neg (by omega), List.drop_of_length_le (by omega)]; simp
  | succ d ih =>
    intro k i acc hi hk ha
    obtain ⟨k, rfl⟩ : ∃ m, k = m + 1 := ⟨k - 1, by omega⟩
    simp only [kernel_typed.l0]
    rw [if_pos (by omega), if_pos (by omega), if_pos (by omega), wrap_nat i (by omega), drop_cons l i (by omega)]
    by_cases h4 : rd l (i : Int) = 4
    · rw [if_pos h4, ih k (i + 1) acc (by omega) (by omega) ha]
      simp [h4]
    · rw [if_neg h4]
      by_cases h20 : acc.length < 20
      · rw [if_pos (by omega), if_pos (by omega), ih k (i + 1) _ (by omega) (by omega) (by simp; omega)]
        simp only [List.filter_cons, bne_iff_ne, ne_eq, h4, not_false_eq_true, if_true, List.length_append, List.length_singleton, List.append_assoc]
        rw [show 20 - acc.length = (20 - (acc.length + 1)) + 1 by omega, List.take_succ_cons]; rfl
      · rw [if_neg (by omega), ih k (i + 1) acc (by omega) (by omega) ha]
        rw [show 20 - acc.length = 0 by omega]; simp
theorem typed_is (l : List Int) (hl : l.length < 140737488355328) : kernel_typed.f (l.length + 1) l = some (typ l) := by
  have := typed_l l hl l.length (l.length + 1) 0 [] (by omega) (by omega) (by simp)
  simpa [kernel_typed.f, typ] using this
theorem ref_l (l : List Int) (hl : l.length < 140737488355328) (d : Nat) : ∀ (k i : Nat) (acc : List Int), i + d = l.length → 2 * d + 2 < k → acc.length ≤ 20 →
    mummerref35_Typed.l0 k l acc (i : Int) = some (acc ++ ((l.drop i).filter (· != 4)).take (20 - acc.length)) := by
  induction d with
  | zero =>
    intro k i acc hi hk _
    obtain ⟨k, rfl⟩ : ∃ m, k = m + 2 := ⟨k - 2, by omega⟩
    simp only [mummerref35_Typed.l0, mummerref35_Typed.j1]
    rw [if_neg (by omega), if_neg (by simp), List.drop_of_length_le (by omega)]; simp
  | succ d ih =>
    intro k i acc hi hk ha
    obtain ⟨k, rfl⟩ : ∃ m, k = m + 2 := ⟨k - 2, by omega⟩
    simp only [mummerref35_Typed.l0, mummerref35_Typed.j1]
    rw [if_pos (by omega)]
    by_cases h20 : acc.length < 20
    · rw [if_pos (by simp; omega), if_pos (by omega), if_pos (by omega), wrap_nat i (by omega), drop_cons l i (by omega)]
      by_cases h4 : rd l (i : Int) = 4
      · rw [if_pos h4, ih k (i + 1) acc (by omega) (by omega) ha]
        simp [h4]
      · rw [if_neg h4, if_pos (by omega), ih k (i + 1) _ (by omega) (by omega) (by simp; omega)]
        simp only [List.filter_cons, bne_iff_ne, ne_eq, h4, not_false_eq_true, if_true, List.length_append, List.length_singleton, List.append_assoc]
        rw [show 20 - acc.length = (20 - (acc.length + 1)) + 1 by omega, List.take_succ_cons]; rfl
    · rw [if_neg (by simp; omega), show 20 - acc.length = 0 by omega]; simp
theorem ref_is (l : List Int) (hl : l.length < 140737488355328) : mummerref35_Typed.f (2 * l.length + 3) l = some (typ l) := by
  have := ref_l l hl l.length (2 * l.length + 3) 0 [] (by omega) (by omega) (by simp)
  simpa [mummerref35_Typed.f, typ] using this
theorem typ_len (l : List Int) : (typ l).length ≤ 20 := by unfold typ; simp; omega
end Go.Proofs.Ytpapncnhlapfeab.KernelPure
