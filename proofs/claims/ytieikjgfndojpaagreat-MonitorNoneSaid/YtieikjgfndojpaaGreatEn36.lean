/- The engine, thirty-eighth part, beside: what an operation waits for, as bits of a number. -/
import Derived.Test.YtieikjgfndojpaaGreatEn35
namespace Go.Eng
open Go Go.RowKit
set_option linter.unusedVariables false
set_option linter.unusedSimpArgs false
noncomputable section
/-- A bit. -/
def tb (m i : Nat) : Bool := Nat.beq (Nat.land (Nat.shiftRight m i) 1) 1
theorem tb_eq (m i : Nat) : tb m i = Nat.testBit m i := by
  unfold tb Nat.testBit
  have e : Nat.land (Nat.shiftRight m i) 1 = (m >>> i) &&& 1 := rfl
  rw [e, Nat.and_comm]
  have h : 1 &&& (m >>> i) = (m >>> i) % 2 := by rw [Nat.and_comm]; exact Nat.and_one_is_mod _
  rw [h]
  rcases Nat.mod_two_eq_zero_or_one (m >>> i) with q | q <;> rw [q] <;> rfl
theorem tb_lor (a b i : Nat) : tb (Nat.lor a b) i = (tb a i || tb b i) := by
  rw [tb_eq, tb_eq, tb_eq]
  exact Nat.testBit_or a b i
theorem tb_zero (i : Nat) : tb 0 i = false := by rw [tb_eq]; exact Nat.zero_testBit i
theorem tb_one (d i : Nat) : tb (Nat.shiftLeft 1 d) i = Nat.beq d i := by
  rw [tb_eq]
  show Nat.testBit (1 <<< d) i = _
  rw [Nat.shiftLeft_eq, Nat.one_mul, Nat.testBit_two_pow]
  by_cases h : d = i
  · subst h; simp
  · rw [decide_eq_false h]
    symm
    rcases hb : Nat.beq d i with _ | _
    · rfl
    · exact absurd (Nat.eq_of_beq_eq_true hb) h
/-- What a row of edges stands for; g: what those wait for. -/
def orE (g : Nat → Nat) (l : List Edge) : Nat := @List.rec Edge (fun _ => Nat) 0 (fun e _ m => bif Region.binds .any e then Nat.lor (Nat.lor (Nat.shiftLeft 1 e.on) (g e.on)) m else m) l
theorem tb_orE {g : Nat → Nat} {i : Nat} : ∀ {l : List Edge}, tb (orE g l) i = l.any (fun e => Region.binds .any e && (Nat.beq e.on i || tb (g e.on) i))
  | [] => tb_zero i
  | e :: l => by
    have ih := tb_orE (g := g) (i := i) (l := l)
    show tb (bif Region.binds .any e then Nat.lor (Nat.lor (Nat.shiftLeft 1 e.on) (g e.on)) (orE g l) else orE g l) i = _
    rw [List.any_cons, ← ih]
    cases Region.binds .any e
    · rfl
    · simp only [cond_true, tb_lor, tb_one, Bool.true_and]
def wget (W tab j : Nat) : Nat := Nat.land (Nat.shiftRight tab (Nat.mul W j)) (Nat.sub (Nat.pow 2 W) 1)
def nil0 : Nat → Nat := fun _ => 0
/-- Tables: what each waits for; what stands right ahead of each. -/
def wtab (W : Nat) (l : List Oper) : Nat → Nat → Nat := @List.rec Oper (fun _ => Nat → Nat → Nat) (fun _ tab => tab) (fun o _ ih j tab => ih (Nat.succ j) (Nat.lor tab (Nat.shiftLeft (orE (wget W tab) o.after.toList) (Nat.mul W j)))) l
def dtab (W : Nat) (l : List Oper) : Nat → Nat → Nat := @List.rec Oper (fun _ => Nat → Nat → Nat) (fun _ tab => tab) (fun o _ ih j tab => ih (Nat.succ j) (Nat.lor tab (Nat.shiftLeft (orE nil0 o.after.toList) (Nat.mul W j)))) l
/-- Are the tables right? -/
def tabOK (W : Nat) (t d : Nat) (l : List Oper) : Nat → Bool := @List.rec Oper (fun _ => Nat → Bool) (fun _ => true) (fun o _ ih j => (Nat.beq (wget W t j) (orE (wget W t) o.after.toList) && Nat.beq (wget W d j) (orE nil0 o.after.toList)) && ih (Nat.succ j)) l
structure TabOK (ops : Array Oper) (t d : Nat) : Prop where
  bk : backB ops = true
  w : ∀ j o, ops[j]? = some o → wget ops.size t j = orE (wget ops.size t) o.after.toList
  d : ∀ j o, ops[j]? = some o → wget ops.size d j = orE nil0 o.after.toList
theorem tabOK_of {W t d : Nat} : ∀ {l : List Oper} {j : Nat}, tabOK W t d l j = true → ∀ i o, l[i]? = some o → wget W t (j + i) = orE (wget W t) o.after.toList ∧ wget W d (j + i) = orE nil0 o.after.toList
  | [], j, _, i, o, h => by simp at h
  | x :: l, j, hh, i, o, h => by
    have hh : ((Nat.beq (wget W t j) (orE (wget W t) x.after.toList) && Nat.beq (wget W d j) (orE nil0 x.after.toList)) && tabOK W t d l (Nat.succ j)) = true := hh
    simp only [Bool.and_eq_true] at hh
    cases i with
    | zero =>
      simp only [List.getElem?_cons_zero, Option.some.injEq] at h
      subst h
      exact ⟨Nat.eq_of_beq_eq_true hh.1.1, Nat.eq_of_beq_eq_true hh.1.2⟩
    | succ i =>
      have := tabOK_of (l := l) hh.2 i o (by simpa using h)
      rw [show j + (i + 1) = Nat.succ j + i by omega]
      exact this
theorem TabOK.of {ops : Array Oper} {t d : Nat} (hb : backB ops = true) (h : tabOK ops.size t d ops.toList 0 = true) : TabOK ops t d := by
  refine ⟨hb, fun j o ho => ?_, fun j o ho => ?_⟩ <;> have := tabOK_of h j o (by rw [Array.getElem?_toList]; exact ho)
  · rw [Nat.zero_add] at this; exact this.1
  · rw [Nat.zero_add] at this; exact this.2
section
variable {ops : Array Oper} {t d : Nat}
theorem TabOK.waits (T : TabOK ops t d) : ∀ (f j : Nat), j < f → j < ops.size → ∀ i, tb (wget ops.size t j) i = (waitsFor ops f j).contains i
  | 0, j, h, _, i => by omega
  | f + 1, j, h, hj, i => by
    obtain ⟨o, ho⟩ : ∃ o, ops[j]? = some o := ⟨ops[j], Array.getElem?_eq_getElem hj⟩
    rw [T.w j o ho, tb_orE]
    simp only [waitsFor, ho]
    have key : ∀ e ∈ o.after.toList, Region.binds .any e = true → tb (wget ops.size t e.on) i = (waitsFor ops f e.on).contains i := fun e he hb => by
      have := backB_spec T.bk ho (by simpa using he) hb
      exact TabOK.waits T f e.on (by omega) (by omega) i
    generalize o.after.toList = l at key
    induction l with
    | nil => rfl
    | cons e l ih =>
      have ih := ih (fun x hx => key x (List.mem_cons_of_mem _ hx))
      rw [List.any_cons, ih, List.filter_cons]
      rcases hb : Region.binds .any e with _ | _
      · simp
      · simp only [hb, Bool.true_and, if_true, List.flatMap_cons, key e List.mem_cons_self hb]
        rw [List.cons_append, List.contains_cons]
        have hc : (i == e.on) = Nat.beq e.on i := by
          rcases hq : Nat.beq e.on i with _ | _
          · exact beq_eq_false_iff_ne.2 (fun q => by subst q; rw [Nat.beq_refl] at hq; cases hq)
          · rw [Nat.eq_of_beq_eq_true hq]; exact beq_self_eq_true i
        rw [hc]
        have ha : ∀ (a b : List Nat), (a ++ b).contains i = (a.contains i || b.contains i) := fun a b => by
          rcases h1 : (a ++ b).contains i with _ | _
          · symm
            rw [Bool.or_eq_false_iff]
            constructor
            · rcases h2 : a.contains i with _ | _
              · rfl
              · rw [List.contains_iff_mem.2 (List.mem_append_left _ (List.contains_iff_mem.1 h2))] at h1; cases h1
            · rcases h2 : b.contains i with _ | _
              · rfl
              · rw [List.contains_iff_mem.2 (List.mem_append_right _ (List.contains_iff_mem.1 h2))] at h1; cases h1
          · symm
            rcases List.mem_append.1 (List.contains_iff_mem.1 h1) with q | q
            · rw [List.contains_iff_mem.2 q]; rfl
            · rw [List.contains_iff_mem.2 q, Bool.or_true]
        rw [ha, Bool.or_assoc]
/-- Those that do not stand ahead of j. -/
def besT (W t : Nat) (M : List Nat) (j : Nat) : List Nat := bif Nat.blt j W then M.filter (fun i => !tb (wget W t j) i) else M
theorem besT_eq (T : TabOK ops t d) (M : List Nat) (j : Nat) : besT ops.size t M j = besides ops M j := by
  unfold besT besides
  rcases hb : Nat.blt j ops.size with _ | _
  · have : ops.size ≤ j := by
      rcases Nat.lt_or_ge j ops.size with q | q
      · rw [show Nat.blt j ops.size = true from Nat.ble_eq_true_of_le q] at hb; cases hb
      · exact q
    have e : waitsFor ops ops.size j = [] := by
      have hn : ops[j]? = none := Array.getElem?_eq_none this
      cases hs : ops.size with
      | zero => rfl
      | succ n => simp [waitsFor, hn]
    rw [e]
    exact (List.filter_eq_self.2 (fun _ _ => rfl)).symm
  · have hj : j < ops.size := Nat.le_of_ble_eq_true hb
    simp only [cond_true]
    congr 1
    funext i
    rw [T.waits ops.size j hj hj]
def waitT (W t a i : Nat) : Bool := bif Nat.blt a W then tb (wget W t a) i else false
theorem waitT_eq (T : TabOK ops t d) (a i : Nat) : waitT ops.size t a i = (waitsFor ops ops.size a).contains i := by
  unfold waitT
  rcases hb : Nat.blt a ops.size with _ | _
  · have : ops.size ≤ a := by
      rcases Nat.lt_or_ge a ops.size with q | q
      · rw [show Nat.blt a ops.size = true from Nat.ble_eq_true_of_le q] at hb; cases hb
      · exact q
    have hn : ops[a]? = none := Array.getElem?_eq_none this
    cases hs : ops.size with
    | zero => rfl
    | succ n => simp [waitsFor, hn]
  · have hj : a < ops.size := Nat.le_of_ble_eq_true hb
    exact T.waits ops.size a hj hj i
/-- A row as bits. -/
def maskL (l : List Nat) : Nat := @List.rec Nat (fun _ => Nat) 0 (fun i _ m => Nat.lor (Nat.shiftLeft 1 i) m) l
theorem tb_mask (i : Nat) : ∀ (l : List Nat), tb (maskL l) i = l.contains i
  | [] => tb_zero i
  | x :: l => by
    show tb (Nat.lor (Nat.shiftLeft 1 x) (maskL l)) i = _
    rw [tb_lor, tb_one, tb_mask i l, List.contains_cons]
    congr 1
    rcases hq : Nat.beq x i with _ | _
    · exact (beq_eq_false_iff_ne.2 (fun q => by subst q; rw [Nat.beq_refl] at hq; cases hq)).symm
    · rw [Nat.eq_of_beq_eq_true hq]; exact (beq_self_eq_true i).symm
theorem sub_mask {a m : Nat} : Nat.beq (Nat.land a m) a = true ↔ ∀ i, tb a i = true → tb m i = true := by
  constructor
  · intro h i hi
    have h := Nat.eq_of_beq_eq_true h
    rw [tb_eq] at hi ⊢
    rw [← h] at hi
    have : (a &&& m).testBit i = true := hi
    rw [Nat.testBit_and, Bool.and_eq_true] at this
    exact this.2
  · intro h
    have e : Nat.land a m = a := by
      show a &&& m = a
      refine Nat.eq_of_testBit_eq (fun i => ?_)
      rw [Nat.testBit_and]
      rcases hq : a.testBit i with _ | _
      · rfl
      · have := h i (by rw [tb_eq]; exact hq)
        rw [tb_eq] at this
        rw [this]; rfl
    rw [e]; exact Nat.beq_refl a
/-- What may come next. -/
def readyT (W d : Nat) (L : List Nat) : List Nat := (fun m => (List.range W).filter fun j => !tb m j && Nat.beq (Nat.land (wget W d j) m) (wget W d j)) (maskL L)
theorem readyT_eq (T : TabOK ops t d) (L : List Nat) : readyT ops.size d L = readyAbs ops L := by
  unfold readyT readyAbs
  refine List.filter_congr (fun j hj => ?_)
  rw [List.mem_range] at hj
  obtain ⟨o, ho⟩ : ∃ o, ops[j]? = some o := ⟨ops[j], Array.getElem?_eq_getElem hj⟩
  rw [ho, tb_mask, T.d j o ho]
  congr 1
  simp only []
  have h1 : (∀ i, tb (orE nil0 o.after.toList) i = true → tb (maskL L) i = true) ↔ (o.after.toList.all fun e => !Region.binds .any e || L.contains e.on) = true := by
    rw [List.all_eq_true]
    constructor
    · intro h e he
      rcases hb : Region.binds .any e with _ | _
      · rfl
      · have := h e.on (by
          rw [tb_orE, List.any_eq_true]
          exact ⟨e, he, by rw [hb, Nat.beq_refl]; rfl⟩)
        rw [tb_mask] at this
        rw [this]; rfl
    · intro h i hi
      rw [tb_orE, List.any_eq_true] at hi
      obtain ⟨e, he, hq⟩ := hi
      rw [Bool.and_eq_true] at hq
      obtain ⟨q1, q2⟩ := hq
      rw [show tb (nil0 e.on) i = false from tb_zero i, Bool.or_false] at q2
      have := h e he
      rw [q1] at this
      rw [tb_mask, ← Nat.eq_of_beq_eq_true q2]
      simpa using this
  rcases h2 : (o.after.toList.all fun e => !Region.binds .any e || L.contains e.on) with _ | _
  · rcases h3 : Nat.beq (Nat.land (orE nil0 o.after.toList) (maskL L)) (orE nil0 o.after.toList) with _ | _
    · rfl
    · rw [h1.1 (sub_mask.1 h3)] at h2; cases h2
  · exact sub_mask.2 (h1.2 h2)
end
end
end Go.Eng
