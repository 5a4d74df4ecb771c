/- The engine, ninth part: append. -/
import Derived.Test.YtilmgiompalggaaGreatDoorEn05
import Derived.Deep.Upon
namespace Go.Eng
open Go Go.RowKit
set_option linter.unusedVariables false
set_option linter.unusedSimpArgs false
theorem blt_true {i n : Nat} (h : i < n) : Nat.blt i n = true := Nat.ble_eq_true_of_le h
theorem blt_false {i n : Nat} (h : ¬ i < n) : Nat.blt i n = false := by
  rcases hq : Nat.blt i n with _ | _
  · rfl
  · exact absurd (Nat.le_of_ble_eq_true hq) h
def AC.size (es : Nat) : AC → Nat
  | .ints _ xs => xs.length
  | .cells l => l.length
  | .recs n _ => n * es
  | .map _ => 0
  | .tr n _ => n
/-- Just n elements of es cells. -/
structure Full (c : AC) (es n : Nat) : Prop where
  size : c.size es = n * es
  ints : ∀ q xs, c = .ints q xs → es = 1
  nomap : ∀ l, c ≠ .map l
theorem Full.inb {c : AC} {es n : Nat} (h : Full c es n) {i j : Nat} (hi : i < n) (hj : j < es) : c.inb es i j = true := by
  have hlt : i * es + j < n * es := by
    have : (i + 1) * es ≤ n * es := Nat.mul_le_mul_right _ hi
    rw [Nat.succ_mul] at this
    omega
  have hs := h.size
  cases c with
  | cells l => simp only [AC.size] at hs; simp only [AC.inb, decide_eq_true_eq]; omega
  | ints q xs =>
    obtain rfl := h.ints q xs rfl
    simp only [AC.size] at hs
    simp only [AC.inb, Bool.and_eq_true, decide_eq_true_eq]
    exact ⟨rfl, by omega⟩
  | recs m f =>
    simp only [AC.size] at hs
    have : m = n := Nat.eq_of_mul_eq_mul_right (by omega) hs
    simp only [AC.inb, Bool.and_eq_true, decide_eq_true_eq]
    omega
  | map l => exact absurd rfl (h.nomap l)
  | tr m t => simp only [AC.size] at hs; simp only [AC.inb, decide_eq_true_eq]; omega
theorem VT.list_length (t : VT) (o n : Nat) : (t.list o n).length = n := by simp [VT.list]
theorem VT.list_getD (t : VT) (o n i : Nat) (h : i < n) : (t.list o n).getD i .any = t.at (o + i) := by
  rw [List.getD_eq_getElem?_getD]
  simp [VT.list, h]
theorem seg_spec {μ : Mu} {wh : Bool} {st es k j n off : Nat} {c A : AC} {C : Array Value} (h : AC.seg wh st es k j n c = some (A, true)) (hq : Holds μ c st off C) : Holds μ A es (off + k * st + j) C ∧ Full A es n := by
  cases c with
  | ints q xs =>
    cases wh with
    | true =>
      simp only [AC.seg, cond_true, Option.some.injEq, Prod.mk.injEq, Bool.and_eq_true, decide_eq_true_eq] at h
      obtain ⟨rfl, ⟨⟨rfl, rfl⟩, hk⟩, rfl⟩ := h
      obtain ⟨rfl, rfl⟩ : k = 0 ∧ j = 0 := by omega
      exact ⟨by simpa using hq, by simp [AC.size], fun _ _ _ => rfl, (fun _ e => by cases e)⟩
    | false =>
      simp only [AC.seg, cond_false, Option.some.injEq, Prod.mk.injEq, Bool.and_eq_true, decide_eq_true_eq] at h
      obtain ⟨rfl, ⟨rfl, rfl⟩, hk⟩ := h
      refine ⟨⟨(fun _ e => by cases e), fun i j' hi => ?_⟩, by simp [AC.size]; omega, fun _ _ _ => rfl, (fun _ e => by cases e)⟩
      simp only [AC.inb, Bool.and_eq_true, decide_eq_true_eq, List.length_take, List.length_drop] at hi
      obtain ⟨x, h1, h2, h3⟩ := hq.cell (k := k + j + i + j') (j := 0) (by simp only [AC.inb, Bool.and_eq_true, decide_eq_true_eq]; exact ⟨rfl, by omega⟩)
      refine ⟨x, by rw [← h1]; congr 1; omega, ?_, h3⟩
      simp only [AC.val] at h2 ⊢
      rw [List.getD_eq_getElem?_getD, List.getElem?_take, if_pos (by omega), List.getElem?_drop, ← List.getD_eq_getElem?_getD]
      rwa [show k + j + (i + j') = k + j + i + j' + 0 by omega]
  | cells l =>
    cases wh with
    | true =>
      simp only [AC.seg, cond_true, Option.some.injEq, Prod.mk.injEq, Bool.and_eq_true, decide_eq_true_eq] at h
      obtain ⟨rfl, hk, hn⟩ := h
      refine ⟨⟨(fun _ e => by cases e), fun i j' hi => ?_⟩, by simp [AC.size, hn], (fun _ _ e => by cases e), (fun _ e => by cases e)⟩
      simp only [AC.inb, decide_eq_true_eq] at hi
      obtain ⟨x, h1, h2, h3⟩ := hq.cell (k := 0) (j := i * es + j') (by simp only [AC.inb, decide_eq_true_eq]; omega)
      refine ⟨x, by rw [← h1]; congr 1; omega, ?_, h3⟩
      simp only [AC.val] at h2 ⊢
      rwa [show 0 * st + (i * es + j') = i * es + j' by omega] at h2
    | false =>
      simp only [AC.seg, cond_false, Option.some.injEq, Prod.mk.injEq, decide_eq_true_eq] at h
      obtain ⟨rfl, hk⟩ := h
      refine ⟨⟨(fun _ e => by cases e), fun i j' hi => ?_⟩, by simp [AC.size]; omega, (fun _ _ e => by cases e), (fun _ e => by cases e)⟩
      simp only [AC.inb, decide_eq_true_eq, List.length_take, List.length_drop] at hi
      obtain ⟨x, h1, h2, h3⟩ := hq.cell (k := 0) (j := k * st + j + (i * es + j')) (by simp only [AC.inb, decide_eq_true_eq]; omega)
      refine ⟨x, by rw [← h1]; congr 1; omega, ?_, h3⟩
      simp only [AC.val] at h2 ⊢
      rw [List.getD_eq_getElem?_getD, List.getElem?_take, if_pos (by omega), List.getElem?_drop, ← List.getD_eq_getElem?_getD]
      rwa [show 0 * st + (k * st + j + (i * es + j')) = k * st + j + (i * es + j') by omega] at h2
  | recs m f =>
    cases wh with
    | true =>
      simp only [AC.seg, cond_true, Option.some.injEq, Prod.mk.injEq, Bool.and_eq_true, decide_eq_true_eq] at h
      obtain ⟨rfl, ⟨⟨rfl, rfl⟩, rfl⟩, rfl⟩ := h
      exact ⟨by simpa using hq, by simp [AC.size], (fun _ _ e => by cases e), (fun _ e => by cases e)⟩
    | false =>
      simp only [AC.seg, cond_false, Option.some.injEq, Prod.mk.injEq, Bool.and_eq_true, decide_eq_true_eq] at h
      obtain ⟨rfl, ⟨rfl, rfl⟩, hk⟩ := h
      refine ⟨⟨(fun _ e => by cases e), fun i j' hi => ?_⟩, by simp [AC.size], (fun _ _ e => by cases e), (fun _ e => by cases e)⟩
      simp only [AC.inb, Bool.and_eq_true, decide_eq_true_eq] at hi
      obtain ⟨x, h1, h2, h3⟩ := hq.cell (k := k + i) (j := j') (by simp only [AC.inb, Bool.and_eq_true, decide_eq_true_eq]; omega)
      exact ⟨x, by rw [← h1]; congr 1; rw [Nat.add_mul]; omega, h2, h3⟩
  | map l => simp [AC.seg] at h
  | tr m t =>
    simp only [AC.seg, Option.some.injEq, Prod.mk.injEq, decide_eq_true_eq] at h
    obtain ⟨rfl, hk⟩ := h
    refine ⟨⟨(fun _ e => by cases e), fun i j' hi => ?_⟩, by simp [AC.size, VT.list_length], (fun _ _ e => by cases e), (fun _ e => by cases e)⟩
    simp only [AC.inb, decide_eq_true_eq, VT.list_length] at hi
    obtain ⟨x, h1, h2, h3⟩ := hq.cell (k := 0) (j := k * st + j + (i * es + j')) (by simp only [AC.inb, decide_eq_true_eq]; omega)
    refine ⟨x, by rw [← h1]; congr 1; omega, ?_, h3⟩
    simp only [AC.val] at h2 ⊢
    rw [VT.list_getD _ _ _ _ hi]
    rwa [show 0 * st + (k * st + j + (i * es + j')) = k * st + j + (i * es + j') by omega] at h2
/-- The values that stand there. -/
theorem Full.list {μ : Mu} {A : AC} {es n o : Nat} {C : Array Value} (h : Full A es n) (h0 : 0 < es) (hq : Holds μ A es o C) :
    ∃ vs : List Value, vs.length = n * es ∧ (∀ p v, vs[p]? = some v → C[o + p]? = some v) ∧ (∀ v ∈ vs, v.oneCell' = true) ∧ Holds μ A es 0 vs.toArray := by
  have key : ∀ p, p < n * es → ∃ x, C[o + p]? = some x ∧ x.oneCell' = true := by
    intro p hp
    have h1 : p / es < n := Nat.div_lt_of_lt_mul (by rwa [Nat.mul_comm] at hp)
    obtain ⟨x, g1, _, g3⟩ := hq.cell (h.inb h1 (Nat.mod_lt p h0))
    refine ⟨x, by rw [← g1]; congr 1; have := Nat.div_add_mod p es; rw [Nat.mul_comm] at this; omega, g3⟩
  have hsz : n * es = 0 ∨ o + n * es ≤ C.size := by
    rcases Nat.eq_zero_or_pos (n * es) with e | e
    · exact .inl e
    · obtain ⟨x, g1, _⟩ := key (n * es - 1) (by omega)
      have := (Array.getElem?_eq_some_iff.1 g1).1
      exact .inr (by omega)
  have hlen : ((C.toList.drop o).take (n * es)).length = n * es := by simp; omega
  have hget : ∀ p, p < n * es → ((C.toList.drop o).take (n * es))[p]? = C[o + p]? := by
    intro p hp
    rw [List.getElem?_take, if_pos hp, List.getElem?_drop, Array.getElem?_toList]
  refine ⟨(C.toList.drop o).take (n * es), hlen, fun p v hv => ?_, fun v hv => ?_, hq.1, fun i j hi => ?_⟩
  · have hp : p < n * es := by have := (List.getElem?_eq_some_iff.1 hv).1; omega
    rw [← hget p hp]; exact hv
  · obtain ⟨p, hp, hv'⟩ := List.getElem_of_mem hv
    rw [hlen] at hp
    obtain ⟨x, g1, g2⟩ := key p hp
    have := hget p hp
    rw [g1, List.getElem?_eq_getElem (by omega), hv'] at this
    cases this
    exact g2
  · obtain ⟨x, g1, g2, g3⟩ := hq.cell hi
    refine ⟨x, ?_, g2, g3⟩
    have hp : i * es + j < n * es := by
      have hs := h.size
      cases A with
      | cells l => simp only [AC.inb, decide_eq_true_eq] at hi; simp only [AC.size] at hs; omega
      | ints q xs =>
        obtain rfl := h.ints q xs rfl
        simp only [AC.inb, Bool.and_eq_true, decide_eq_true_eq] at hi
        simp only [AC.size] at hs; omega
      | recs m f =>
        simp only [AC.inb, Bool.and_eq_true, decide_eq_true_eq] at hi
        simp only [AC.size] at hs
        have : (i + 1) * es ≤ m * es := Nat.mul_le_mul_right _ hi.1
        rw [Nat.succ_mul] at this
        omega
      | map l => exact absurd rfl (h.nomap l)
      | tr m t => simp only [AC.inb, decide_eq_true_eq] at hi; simp only [AC.size] at hs; omega
    rw [List.getElem?_toArray, Nat.zero_add, hget _ hp, ← g1]
    congr 1
    omega
theorem cat_spec {μ : Mu} {A B D : AC} {es n m o : Nat} {E : Array Value} (h : AC.cat es n A B = some D) (h0 : 0 < es) (fa : Full A es n) (fb : Full B es m) (ha : Holds μ A es o E) (hb : Holds μ B es (o + n * es) E) : Holds μ D es o E ∧ Full D es (n + m) := by
  have hsa := fa.size
  have hsb := fb.size
  have ints_case : ∀ q xs ys, A = .ints q xs → Holds μ (.ints q ys) es (o + n * es) E → ys.length = m * es → D = .ints q (xs ++ ys) → Holds μ D es o E ∧ Full D es (n + m) := by
    rintro q xs ys rfl hb hl rfl
    obtain rfl := fa.ints q xs rfl
    simp only [AC.size, Nat.mul_one] at hsa hl
    refine ⟨⟨(fun _ e => by cases e), fun i j hi => ?_⟩, by simp [AC.size]; omega, fun _ _ _ => rfl, (fun _ e => by cases e)⟩
    simp only [AC.inb, Bool.and_eq_true, decide_eq_true_eq, List.length_append] at hi
    by_cases hlt : i + j < xs.length
    · obtain ⟨x, h1, h2, h3⟩ := ha.cell (k := i) (j := j) (by simp only [AC.inb, Bool.and_eq_true, decide_eq_true_eq]; exact ⟨rfl, hlt⟩)
      refine ⟨x, h1, ?_, h3⟩
      simp only [AC.val] at h2 ⊢
      rwa [List.getD_eq_getElem?_getD, List.getElem?_append_left hlt, ← List.getD_eq_getElem?_getD]
    · obtain ⟨x, h1, h2, h3⟩ := hb.cell (k := i + j - n) (j := 0) (by simp only [AC.inb, Bool.and_eq_true, decide_eq_true_eq]; exact ⟨rfl, by omega⟩)
      refine ⟨x, by rw [← h1]; congr 1; omega, ?_, h3⟩
      simp only [AC.val] at h2 ⊢
      rw [List.getD_eq_getElem?_getD, List.getElem?_append_right (by omega), ← List.getD_eq_getElem?_getD]
      rwa [show i + j - xs.length = i + j - n + 0 by omega]
  cases A with
  | ints q xs =>
    cases B with
    | ints q' ys =>
      simp only [AC.cat] at h
      by_cases e : q = q'
      · subst e
        simp only [decide_true, cond_true, Option.some.injEq] at h
        exact ints_case q xs ys rfl hb (by simpa [AC.size] using hsb) h.symm
      · simp [e] at h
    | cells l =>
      simp only [AC.cat] at h
      split at h
      · rename_i ys hys
        cases h
        have e := toInts_spec hys
        subst e
        obtain rfl := fa.ints q xs rfl
        refine ints_case q xs ys rfl ⟨(fun _ e => by cases e), fun i j hi => ?_⟩ (by simpa [AC.size] using hsb) rfl
        simp only [AC.inb, Bool.and_eq_true, decide_eq_true_eq] at hi
        obtain ⟨x, h1, h2, h3⟩ := hb.cell (k := i) (j := j) (by simp only [AC.inb, decide_eq_true_eq, List.length_map]; omega)
        refine ⟨x, h1, ?_, h3⟩
        simp only [AC.val] at h2 ⊢
        rw [Nat.mul_one, List.getD_eq_getElem?_getD, List.getElem?_map, List.getElem?_eq_getElem hi.2] at h2
        rw [List.getD_eq_getElem?_getD, List.getElem?_eq_getElem hi.2]
        exact h2
      · cases h
    | recs _ _ => simp [AC.cat] at h
    | map _ => simp [AC.cat] at h
    | tr _ _ => simp [AC.cat] at h
  | tr _ _ => simp [AC.cat] at h
  | cells l =>
    have cells_case : ∀ l' : List AV, l'.length = m * es → Holds μ (.cells l') es (o + n * es) E → D = .cells (l ++ l') → Holds μ D es o E ∧ Full D es (n + m) := by
      rintro l' hsb hb rfl
      simp only [AC.size] at hsa
      refine ⟨⟨(fun _ e => by cases e), fun i j hi => ?_⟩, by simp [AC.size, Nat.add_mul]; omega, (fun _ _ e => by cases e), (fun _ e => by cases e)⟩
      simp only [AC.inb, decide_eq_true_eq, List.length_append] at hi
      by_cases hlt : i * es + j < l.length
      · obtain ⟨x, h1, h2, h3⟩ := ha.cell (k := i) (j := j) (by simp only [AC.inb, decide_eq_true_eq]; exact hlt)
        refine ⟨x, h1, ?_, h3⟩
        simp only [AC.val] at h2 ⊢
        rwa [List.getD_eq_getElem?_getD, List.getElem?_append_left hlt, ← List.getD_eq_getElem?_getD]
      · obtain ⟨x, h1, h2, h3⟩ := hb.cell (k := 0) (j := i * es + j - l.length) (by simp only [AC.inb, decide_eq_true_eq]; omega)
        refine ⟨x, by rw [← h1]; congr 1; omega, ?_, h3⟩
        simp only [AC.val] at h2 ⊢
        rw [List.getD_eq_getElem?_getD, List.getElem?_append_right (by omega), ← List.getD_eq_getElem?_getD]
        rwa [show 0 * es + (i * es + j - l.length) = i * es + j - l.length by omega] at h2
    have empty_case : l = [] → D = B → Holds μ D es o E ∧ Full D es (n + m) := by
      rintro rfl rfl
      simp only [AC.size, List.length_nil] at hsa
      have hn : n = 0 := by
        rcases Nat.eq_zero_or_pos n with e | e
        · exact e
        · exact absurd hsa.symm (Nat.ne_of_gt (Nat.mul_pos e h0))
      subst hn
      simp only [Nat.zero_mul, Nat.add_zero, Nat.zero_add] at hb ⊢
      exact ⟨hb, fb⟩
    cases B with
    | cells l' => simp only [AC.cat, Option.some.injEq] at h; exact cells_case l' (by simpa [AC.size] using hsb) hb h.symm
    | ints q ys =>
      cases l with
      | nil => simp only [AC.cat, Option.some.injEq] at h; exact empty_case rfl h.symm
      | cons v0 l0 =>
        simp only [AC.cat, Option.some.injEq] at h
        obtain rfl := fb.ints q ys rfl
        refine cells_case (ys.map (AV.int q)) (by simpa [AC.size] using hsb) ⟨(fun _ e => by cases e), fun i j hi => ?_⟩ h.symm
        simp only [AC.inb, decide_eq_true_eq, List.length_map] at hi
        obtain ⟨x, h1, h2, h3⟩ := hb.cell (k := i) (j := j) (by simp only [AC.inb, Bool.and_eq_true, decide_eq_true_eq]; exact ⟨rfl, by omega⟩)
        refine ⟨x, h1, ?_, h3⟩
        simp only [AC.val] at h2 ⊢
        rw [List.getD_eq_getElem?_getD, List.getElem?_eq_getElem (by omega)] at h2
        rw [List.getD_eq_getElem?_getD, List.getElem?_map, List.getElem?_eq_getElem (by omega)]
        simpa using h2
    | tr q ys =>
      cases l with
      | nil => simp only [AC.cat, Option.some.injEq] at h; exact empty_case rfl h.symm
      | cons _ _ => simp [AC.cat] at h
    | recs q ys =>
      cases l with
      | nil => simp only [AC.cat, Option.some.injEq] at h; exact empty_case rfl h.symm
      | cons _ _ => simp [AC.cat] at h
    | map _ => cases l <;> simp [AC.cat] at h
  | recs n' f =>
    have hn : n' = n := Nat.eq_of_mul_eq_mul_right h0 (by simpa [AC.size] using hsa)
    subst hn
    cases B with
    | ints q ys => simp [AC.cat] at h
    | cells l =>
      simp only [AC.cat, Option.some.injEq] at h
      subst h
      simp only [AC.size] at hsb
      have hd : l.length / es = m := by rw [hsb]; exact Nat.mul_div_cancel _ h0
      refine ⟨⟨(fun _ e => by cases e), fun i j hi => ?_⟩, by simp [AC.size, hd], (fun _ _ e => by cases e), (fun _ e => by cases e)⟩
      simp only [AC.inb, Bool.and_eq_true, decide_eq_true_eq, hd] at hi
      simp only [AC.val]
      by_cases hlt : i < n'
      · obtain ⟨x, h1, h2, h3⟩ := ha.cell (k := i) (j := j) (by simp only [AC.inb, Bool.and_eq_true, decide_eq_true_eq]; exact ⟨hlt, hi.2⟩)
        refine ⟨x, h1, ?_, h3⟩
        rw [blt_true hlt]
        exact h2
      · have := blt_false hlt
        have hin : (i - n') * es + j < l.length := by
          have : (i - n' + 1) * es ≤ m * es := Nat.mul_le_mul_right _ (by omega)
          rw [Nat.succ_mul] at this
          omega
        obtain ⟨x, h1, h2, h3⟩ := hb.cell (k := i - n') (j := j) (by simp only [AC.inb, decide_eq_true_eq]; exact hin)
        refine ⟨x, by rw [← h1]; congr 1; have : i * es = n' * es + (i - n') * es := by rw [← Nat.add_mul]; congr 1; omega
                      omega, ?_, h3⟩
        simp only [this, cond_false]
        simp only [AC.val] at h2
        rwa [List.getD_eq_getElem?_getD, List.getElem?_take, if_pos hi.2, List.getElem?_drop, ← List.getD_eq_getElem?_getD]
    | recs m' g =>
      simp only [AC.cat, Option.some.injEq] at h
      subst h
      have hm : m' = m := Nat.eq_of_mul_eq_mul_right h0 (by simpa [AC.size] using hsb)
      subst hm
      refine ⟨⟨(fun _ e => by cases e), fun i j hi => ?_⟩, by simp [AC.size], (fun _ _ e => by cases e), (fun _ e => by cases e)⟩
      simp only [AC.inb, Bool.and_eq_true, decide_eq_true_eq] at hi
      simp only [AC.val]
      by_cases hlt : i < n'
      · obtain ⟨x, h1, h2, h3⟩ := ha.cell (k := i) (j := j) (by simp only [AC.inb, Bool.and_eq_true, decide_eq_true_eq]; exact ⟨hlt, hi.2⟩)
        refine ⟨x, h1, ?_, h3⟩
        rw [blt_true hlt]
        exact h2
      · have := blt_false hlt
        obtain ⟨x, h1, h2, h3⟩ := hb.cell (k := i - n') (j := j) (by simp only [AC.inb, Bool.and_eq_true, decide_eq_true_eq]; omega)
        refine ⟨x, by rw [← h1]; congr 1; have : i * es = n' * es + (i - n') * es := by rw [← Nat.add_mul]; congr 1; omega
                      omega, ?_, h3⟩
        simp only [this, cond_false]
        exact h2
    | map _ => simp [AC.cat] at h
    | tr _ _ => simp [AC.cat] at h
  | map l => exact absurd rfl (fa.nomap l)
end Go.Eng
