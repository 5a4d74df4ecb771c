/- The strewn places are all the places, each once: plain lists. -/
import Derived.Test.YtpapncnhlapfeabRefOrder
namespace Go.Proofs.Ytpapncnhlapfeab.Perm
open Go Go.RowKit Go.Proofs.Ytpapncnhlapfeab.Order Go.Proofs.Ytpapncnhlapfeab.RefOrder Go.Proofs.YtpapncnhlapfeabW.PrintWords Go.Proofs.YtpapncnhlapfeabW.PrintLast Go.Proofs.YtpapncnhlapfeabW.PrintMore
/-- Two rows' reads: every place holds one of the n numbers, and no two places the same. -/
def Good (n : Nat) (l : List Int) : Prop := l.length = n ∧ (∀ i : Nat, i < n → 0 ≤ rd l (i : Int) ∧ rd l (i : Int) < n) ∧ ∀ i j : Nat, i < n → j < n → rd l (i : Int) = rd l (j : Int) → i = j
theorem rd_nat (l : List Int) (i : Nat) : rd l (i : Int) = l.getD i 0 := rfl
theorem rd_set (l : List Int) (a i : Nat) (y : Int) (ha : a < l.length) : rd (l.set a y) (i : Int) = if i = a then y else rd l (i : Int) := by
  rw [rd_nat, rd_nat, List.getD_eq_getElem?_getD, List.getD_eq_getElem?_getD, List.getElem?_set]
  by_cases h : i = a
  · subst h; simp [ha]
  · rw [if_neg (fun e => h e.symm), if_neg h]
theorem good_swap (n : Nat) (l : List Int) (a b : Nat) (ha : a < n) (hb : b < n) (h : Good n l) : Good n ((l.set a (rd l (b : Int))).set b (rd l (a : Int))) := by
  obtain ⟨hl, hr, hi⟩ := h
  have e : ∀ i : Nat, rd ((l.set a (rd l (b : Int))).set b (rd l (a : Int))) (i : Int) = rd l ((if i = b then a else if i = a then b else i : Nat) : Int) := by
    intro i
    rw [rd_set _ _ _ _ (by simp [hl]; omega), rd_set _ _ _ _ (by omega)]
    split
    · rfl
    · split <;> rfl
  have s : ∀ i : Nat, i < n → (if i = b then a else if i = a then b else i) < n := by intro i hi; (repeat' split) <;> assumption
  refine ⟨by simp [hl], fun i hin => ?_, fun i j hin hjn hij => ?_⟩
  · rw [e]; exact hr _ (s i hin)
  · rw [e, e] at hij
    have := hi _ _ (s i hin) (s j hjn) hij
    split at this <;> split at this <;> (try split at this) <;> (try split at this) <;> omega
theorem good_swaps (n i : Nat) : ∀ (x : Int) (l : List Int), i < n → Good n l → Good n (swaps i x l) := by
  induction i with
  | zero => intro x l _ h; exact h
  | succ i ih =>
    intro x l hi h
    obtain ⟨j, hj⟩ : ∃ j : Nat, nx x / 256 % ((i : Int) + 1 + 1) = j := ⟨(nx x / 256 % ((i : Int) + 1 + 1)).toNat, (Int.toNat_of_nonneg (Int.emod_nonneg _ (by omega))).symm⟩
    have jlt : j < i + 2 := by have := Int.emod_lt_of_pos (nx x / 256) (show 0 < (i : Int) + 1 + 1 by omega); omega
    rw [swaps_succ i j x l hj]
    exact ih _ _ (by omega) (good_swap n l (i + 1) j (by omega) (by omega) h)
theorem good_fill (n : Nat) : Good n (fill n n) := by
  have e : ∀ i : Nat, i < n → rd (fill n n) (i : Int) = i := by
    intro i hi
    rw [rd_nat, fill_all, List.getD_eq_getElem?_getD, List.getElem?_map, List.getElem?_range hi]; rfl
  refine ⟨fill_len n n, fun i hi => ?_, fun i j hi hj h => ?_⟩
  · rw [e i hi]; omega
  · rw [e i hi, e j hj] at h; omega
theorem good_ord (n : Nat) (key : Int) (h : 1 ≤ n) : Good n (ord n key) := good_swaps n (n - 1) key _ (by omega) (good_fill n)

end Go.Proofs.Ytpapncnhlapfeab.Perm
