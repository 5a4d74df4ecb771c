/- What is typed of a text, with gaps, as a plain list of events: the program's and the reference's loops both come to it. -/
import Derived.Test.YtpapncnhlapfeabPKernelScriptsx2
namespace Go.Proofs.Ytpapncnhlapfeab.ScriptPure
open Go Go.RowKit Go.Proofs.Ytpapncnhlapfeab.PKernelScripts Go.Proofs.YtpapncnhlapfeabW.PrintWords Go.Proofs.YtpapncnhlapfeabW.PrintLast Go.Proofs.YtpapncnhlapfeabW.PrintMore
/-- What is typed: all but 4, at most twenty of them. -/
def typ (l : List Int) : List Int := (l.filter (· != 4)).take 20
def low (c : Int) : Int := if 97 ≤ c ∧ c ≤ 122 then c - 32 else c
theorem rd_nat (l : List Int) (i : Nat) : rd l (i : Int) = l.getD i 0 := rfl
theorem drop_cons (l : List Int) (i : Nat) (h : i < l.length) : l.drop i = rd l (i : Int) :: l.drop (i + 1) := by
  rw [List.drop_eq_getElem_cons h, rd_nat, List.getD_eq_getElem?_getD, List.getElem?_eq_getElem h]; rfl
theorem wrap_nat (i : Nat) (h : i < 140737488355328) : wrap64 ((i : Int) + 1) = ((i + 1 : Nat) : Int) := by unfold wrap64; omega
theorem typed_l (l : List Int) (hl : l.length < 140737488355328) (d : Nat) : ∀ (k i : Nat) (acc : List Int), i + d = l.length → d < k → acc.length ≤ 20 →
    kernel_typed.l0 k acc l (l.length : Int) (i : Int) = some (acc ++ ((l.drop i).filter (· != 4)).take (20 - acc.length)) := by
  induction d with
  | zero =>
    intro k i acc hi hk _
    obtain ⟨k, rfl⟩ : ∃ m, k = m + 1 := ⟨k - 1, by omega⟩
    simp only [kernel_typed.l0]
    rw [if_neg (by omega), List.drop_of_length_le (by omega)]; simp
  | succ d ih =>
    intro k i acc hi hk ha
    obtain ⟨k, rfl⟩ : ∃ m, k = m + 1 := ⟨k - 1, by omega⟩
    simp only [kernel_typed.l0]
    rw [if_pos (by omega), if_pos (by omega), if_pos (by omega), wrap_nat i (by omega), drop_cons l i (by omega)]
    by_cases h4 : rd l (i : Int) = 4
    · rw [if_pos h4, ih k (i + 1) acc (by omega) (by omega) ha]
      simp [h4]
    · rw [if_neg h4]
      by_cases h20 : acc.length < 20
      · rw [if_pos (by omega), if_pos (by omega), ih k (i + 1) _ (by omega) (by omega) (by simp; omega)]
        simp only [List.filter_cons, bne_iff_ne, ne_eq, h4, not_false_eq_true, if_true, List.length_append, List.length_singleton, List.append_assoc]
        rw [show 20 - acc.length = (20 - (acc.length + 1)) + 1 by omega, List.take_succ_cons]; rfl
      · rw [if_neg (by omega), ih k (i + 1) acc (by omega) (by omega) ha]
        rw [show 20 - acc.length = 0 by omega]; simp
theorem typed_is (l : List Int) (hl : l.length < 140737488355328) : kernel_typed.f (l.length + 1) l = some (typ l) := by
  have := typed_l l hl l.length (l.length + 1) 0 [] (by omega) (by omega) (by simp)
  simpa [kernel_typed.f, typ] using this
theorem ref_l (l : List Int) (hl : l.length < 140737488355328) (d : Nat) : ∀ (k i : Nat) (acc : List Int), i + d = l.length → 2 * d + 2 < k → acc.length ≤ 20 →
    mummerref35_Typed.l0 k l acc (i : Int) = some (acc ++ ((l.drop i).filter (· != 4)).take (20 - acc.length)) := by
  induction d with
  | zero =>
    intro k i acc hi hk _
    obtain ⟨k, rfl⟩ : ∃ m, k = m + 2 := ⟨k - 2, by omega⟩
    simp only [mummerref35_Typed.l0, mummerref35_Typed.j1]
    rw [if_neg (by omega), if_neg (by simp), List.drop_of_length_le (by omega)]; simp
  | succ d ih =>
    intro k i acc hi hk ha
    obtain ⟨k, rfl⟩ : ∃ m, k = m + 2 := ⟨k - 2, by omega⟩
    simp only [mummerref35_Typed.l0, mummerref35_Typed.j1]
    rw [if_pos (by omega)]
    by_cases h20 : acc.length < 20
    · rw [if_pos (by simp; omega), if_pos (by omega), if_pos (by omega), wrap_nat i (by omega), drop_cons l i (by omega)]
      by_cases h4 : rd l (i : Int) = 4
      · rw [if_pos h4, ih k (i + 1) acc (by omega) (by omega) ha]
        simp [h4]
      · rw [if_neg h4, if_pos (by omega), ih k (i + 1) _ (by omega) (by omega) (by simp; omega)]
        simp only [List.filter_cons, bne_iff_ne, ne_eq, h4, not_false_eq_true, if_true, List.length_append, List.length_singleton, List.append_assoc]
        rw [show 20 - acc.length = (20 - (acc.length + 1)) + 1 by omega, List.take_succ_cons]; rfl
    · rw [if_neg (by simp; omega), show 20 - acc.length = 0 by omega]; simp
theorem ref_is (l : List Int) (hl : l.length < 140737488355328) : mummerref35_Typed.f (2 * l.length + 3) l = some (typ l) := by
  have := ref_l l hl l.length (2 * l.length + 3) 0 [] (by omega) (by omega) (by simp)
  simpa [mummerref35_Typed.f, typ] using this
theorem typ_len (l : List Int) : (typ l).length ≤ 20 := by unfold typ; simp; omega
/-- The k-th gap. -/
def gapv (gs : List Int) (i : Nat) : Int := if (i : Int) ≥ gs.length then 0 else if Int.tmod (rd gs (i : Int)) 400 < 0 then -Int.tmod (rd gs (i : Int)) 400 else Int.tmod (rd gs (i : Int)) 400
theorem tmod_bd (a : Int) : -400 < Int.tmod a 400 ∧ Int.tmod a 400 < 400 := by
  have h1 := Int.tmod_lt_of_pos a (show (0 : Int) < 400 by omega)
  have h2 : -400 < Int.tmod a 400 := by
    have := Int.lt_tmod_of_pos a (show (0 : Int) < 400 by omega)
    omega
  exact ⟨h2, h1⟩
theorem gapv_in (gs : List Int) (i : Nat) (h : (i : Int) < gs.length) : gapv gs i = if Int.tmod (rd gs (i : Int)) 400 < 0 then -Int.tmod (rd gs (i : Int)) 400 else Int.tmod (rd gs (i : Int)) 400 := by
  unfold gapv; rw [if_neg (by omega)]
theorem gapv_out (gs : List Int) (i : Nat) (h : ¬ (i : Int) < gs.length) : gapv gs i = 0 := by
  unfold gapv; rw [if_pos (by omega)]
theorem gapv_bd (gs : List Int) (i : Nat) : 0 ≤ gapv gs i ∧ gapv gs i < 400 := by
  have := tmod_bd (rd gs (i : Int))
  unfold gapv
  split
  · omega
  · split <;> omega
theorem gap_is (gs : List Int) (i : Nat) : kernel_gap.f gs (i : Int) = some (gapv gs i) := by
  have := tmod_bd (rd gs (i : Int))
  unfold kernel_gap.f gapv
  by_cases h : (i : Int) ≥ gs.length
  · rw [if_pos h, if_pos h]
  · rw [if_neg h, if_neg h, if_pos (by omega), if_pos (by omega)]
    split
    · rw [show wrap64 (-Int.tmod (rd gs (i : Int)) 400) = -Int.tmod (rd gs (i : Int)) 400 by unfold wrap64; omega]
    · rfl
/-- The events from the i-th byte on. -/
def evs (gs t : List Int) : Nat → Int → Nat → List S44
  | 0, _, _ => []
  | d + 1, a, i => (if Int.tmod (gapv gs i) 2 = 1 then [(⟨a + gapv gs i + 1, 0, 0⟩ : S44)] else []) ++ (⟨a + gapv gs i + 1, 1, rd t (i : Int)⟩ : S44) :: evs gs t d (a + gapv gs i + 1) (i + 1)
theorem prog_l (gs t : List Int) (ht : t.length ≤ 21) (d : Nat) : ∀ (k i : Nat) (a : Int) (acc : List S44), i + d = t.length → d < k → 0 ≤ a → a ≤ 400 * i → acc.length ≤ 2 * i →
    kernel_Script.l0 k gs a acc t (t.length : Int) (i : Int) = some (acc ++ evs gs t d a i) := by
  induction d with
  | zero =>
    intro k i a acc hi hk _ _ _
    obtain ⟨k, rfl⟩ : ∃ m, k = m + 1 := ⟨k - 1, by omega⟩
    simp only [kernel_Script.l0, evs]
    rw [if_neg (by omega)]; simp
  | succ d ih =>
    intro k i a acc hi hk h0 h1 ha
    obtain ⟨k, rfl⟩ : ∃ m, k = m + 1 := ⟨k - 1, by omega⟩
    have g := gapv_bd gs i
    have w1 : wrap64 (a + wrap64 (gapv gs i + 1)) = a + gapv gs i + 1 := by unfold wrap64; omega
    simp only [kernel_Script.l0, evs, gap_is, Option.bind_some, w1]
    rw [if_pos (by omega), if_pos (by omega), if_pos (by omega), wrap_nat i (by omega)]
    by_cases h2 : Int.tmod (gapv gs i) 2 = 1
    · rw [if_pos h2, if_pos (by omega), if_pos (by simp; omega), ih k (i + 1) _ _ (by omega) (by omega) (by omega) (by omega) (by simp; omega), if_pos h2]
      simp
    · rw [if_neg h2, if_pos (by omega), ih k (i + 1) _ _ (by omega) (by omega) (by omega) (by omega) (by simp; omega), if_neg h2]
      simp
theorem ref_s (gs t : List Int) (ht : t.length ≤ 21) (d : Nat) : ∀ (k i : Nat) (a : Int) (acc : List S44), i + d = t.length → 2 * d < k → 0 ≤ a → a ≤ 400 * i → acc.length ≤ 2 * i →
    mummerref35_Script.l0 k gs t acc a (i : Int) = some (acc ++ evs gs t d a i) := by
  induction d with
  | zero =>
    intro k i a acc hi hk _ _ _
    obtain ⟨k, rfl⟩ : ∃ m, k = m + 1 := ⟨k - 1, by omega⟩
    simp only [mummerref35_Script.l0, evs]
    rw [if_neg (by omega)]; simp
  | succ d ih =>
    intro k i a acc hi hk h0 h1 ha
    obtain ⟨k, rfl⟩ : ∃ m, k = m + 2 := ⟨k - 2, by omega⟩
    have g := gapv_bd gs i
    -- the inner part, of the number as it came
    have inner : ∀ n : Int, -400 < n → n < 400 → (if n < 0 then -n else n) = gapv gs i → mummerref35_Script.j1 (k + 1) gs t acc a (i : Int) n = some (acc ++ evs gs t (d + 1) a i) := by
      intro n n0 n1 hn
      have next := ih k (i + 1) (a + gapv gs i + 1)
      simp only [mummerref35_Script.j1, evs, Option.bind_some]
      by_cases hneg : n < 0
      · rw [if_pos hneg] at hn
        have w0 : wrap64 (-n) = gapv gs i := by rw [← hn]; unfold wrap64; omega
        have w1 : wrap64 (wrap64 (a + gapv gs i) + 1) = a + gapv gs i + 1 := by unfold wrap64; omega
        rw [if_pos hneg, w0, w1, wrap_nat i (by omega)]
        by_cases h2 : Int.tmod (gapv gs i) 2 = 1
        · rw [if_pos h2, if_pos (by omega), if_pos (by omega), if_pos (by omega), if_pos (by simp; omega), next _ (by omega) (by omega) (by omega) (by omega) (by simp; omega), if_pos h2]
          simp
        · rw [if_neg h2, if_pos (by omega), if_pos (by omega), if_pos (by omega), next _ (by omega) (by omega) (by omega) (by omega) (by simp; omega), if_neg h2]
          simp
      · rw [if_neg hneg] at hn
        subst hn
        have w1 : wrap64 (wrap64 (a + gapv gs i) + 1) = a + gapv gs i + 1 := by unfold wrap64; omega
        rw [if_neg hneg, w1, wrap_nat i (by omega)]
        by_cases h2 : Int.tmod (gapv gs i) 2 = 1
        · rw [if_pos h2, if_pos (by omega), if_pos (by omega), if_pos (by omega), if_pos (by simp; omega), next _ (by omega) (by omega) (by omega) (by omega) (by simp; omega), if_pos h2]
          simp
        · rw [if_neg h2, if_pos (by omega), if_pos (by omega), if_pos (by omega), next _ (by omega) (by omega) (by omega) (by omega) (by simp; omega), if_neg h2]
          simp
    have tb := tmod_bd (rd gs (i : Int))
    simp only [mummerref35_Script.l0]
    rw [if_pos (by omega)]
    by_cases hg : (i : Int) < gs.length
    · rw [if_pos hg, if_pos (by omega)]
      exact inner _ tb.1 tb.2 (gapv_in gs i hg).symm
    · rw [if_neg hg]
      exact inner 0 (by omega) (by omega) (by rw [gapv_out gs i hg]; rfl)
/-- What is typed of a text, with gaps. -/
def scr (l gs : List Int) : List S44 := evs gs (typ l ++ [4]) (typ l ++ [4]).length 0 0
theorem typ4_len (l : List Int) : (typ l ++ [4]).length ≤ 21 := by have := typ_len l; simp; omega
theorem prog_is (l gs : List Int) (hl : l.length < 140737488355328) : kernel_Script.f (l.length + 30) l gs = some (scr l gs) := by
  have h1 : kernel_typed.f (l.length + 30) l = some (typ l) := by
    have := typed_l l hl l.length (l.length + 30) 0 [] (by omega) (by omega) (by simp)
    simpa [kernel_typed.f, typ] using this
  have ht := typ4_len l
  unfold kernel_Script.f
  rw [h1]
  simp only [Option.bind_some]
  rw [if_pos (by have := typ_len l; omega)]
  have := prog_l gs (typ l ++ [4]) ht (typ l ++ [4]).length (l.length + 30) 0 0 [] (by omega) (by omega) (by omega) (by omega) (by simp)
  simpa [scr] using this
theorem refs_is (l gs : List Int) (hl : l.length < 140737488355328) : mummerref35_Script.f (2 * l.length + 60) l gs = some (scr l gs) := by
  have h1 : mummerref35_Typed.f (2 * l.length + 60) l = some (typ l) := by
    have := ref_l l hl l.length (2 * l.length + 60) 0 [] (by omega) (by omega) (by simp)
    simpa [mummerref35_Typed.f, typ] using this
  have ht := typ4_len l
  unfold mummerref35_Script.f
  rw [h1]
  simp only [Option.bind_some]
  rw [if_pos (by have := typ_len l; omega)]
  have := ref_s gs (typ l ++ [4]) ht (typ l ++ [4]).length (2 * l.length + 60) 0 0 [] (by omega) (by omega) (by omega) (by omega) (by simp)
  simpa [scr] using this
theorem evs_len (gs t : List Int) (d : Nat) : ∀ (a : Int) (i : Nat), (evs gs t d a i).length ≤ 2 * d := by
  induction d with
  | zero => intro a i; simp [evs]
  | succ d ih =>
    intro a i
    have := ih (a + gapv gs i + 1) (i + 1)
    simp only [evs, List.length_append, List.length_cons]
    split <;> simp <;> omega
theorem scr_len (l gs : List Int) : (scr l gs).length ≤ 42 := by
  have := evs_len gs (typ l ++ [4]) (typ l ++ [4]).length 0 0
  have ht := typ4_len l
  unfold scr; omega
end Go.Proofs.Ytpapncnhlapfeab.ScriptPure
