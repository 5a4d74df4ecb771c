/- The engine, sixteenth part: regions that draw their order. -/
import Derived.Test.YtilmgiompalggaaGreatDoorEn12
namespace Go.Eng
open Go Go.RowKit
set_option linter.unusedVariables false
set_option linter.unusedSimpArgs false
noncomputable section
abbrev lst (Lc : Array Bool) (j : Nat) : Prop := Lc.getD j false = true
/-- What an operation waits for, and so on. -/
def waitsFor (ops : Array Oper) : Nat → Nat → List Nat
  | 0, _ => []
  | f + 1, j => match ops[j]? with
    | some o => (o.after.toList.filter (fun e => Region.binds .any e)).flatMap fun e => e.on :: waitsFor ops f e.on
    | none => []
def Closed (ops : Array Oper) (Lc : Array Bool) : Prop := ∀ j o, ops[j]? = some o → lst Lc j → ∀ e ∈ o.after, Region.binds .any e = true → lst Lc e.on
/-- What stands ahead of a listed or a ready operation is listed. -/
theorem waits_listed {ops : Array Oper} {Lc : Array Bool} (hc : Closed ops Lc) : ∀ (f j : Nat), (∀ o, ops[j]? = some o → ∀ e ∈ o.after, Region.binds .any e = true → lst Lc e.on) → ∀ i ∈ waitsFor ops f j, lst Lc i
  | 0, _, _, i, h => by simp [waitsFor] at h
  | f + 1, j, hj, i, h => by
    simp only [waitsFor] at h
    split at h
    · rename_i o ho
      obtain ⟨e, he, hi⟩ := List.mem_flatMap.1 h
      obtain ⟨he1, he2⟩ := List.mem_filter.1 he
      have h1 := hj o ho e (by simpa using he1) he2
      rcases List.mem_cons.1 hi with rfl | hi
      · exact h1
      · exact waits_listed hc f e.on (fun o' ho' e' he' hb' => hc e.on o' ho' h1 e' he' hb') i hi
    · cases h
def dstOf (ops : Array Oper) (j : Nat) : Option Nat :=
  match ops[j]? with
  | some o => o.dst
  | none => none
/-- Slots of which nothing is said. -/
def scrub (ops : Array Oper) : List Nat → List AV → List AV
  | [], ts => ts
  | j :: js, ts => putT (scrub ops js ts) (dstOf ops j) .any
/-- Those that do not stand ahead of j. -/
def besides (ops : Array Oper) (M : List Nat) (j : Nat) : List Nat := M.filter fun i => !(waitsFor ops ops.size j).contains i
/-- What holds while some of what is reckoned already (M) may still be to come. -/
structure DSt (B : Nat) (ops : Array Oper) (M L : List Nat) (ts : List AV) (H : AH) (Lc : Array Bool) (μ : Mu) (w : World) (a : Act) : Prop where
  size : Lc.size = ops.size
  closed : Closed ops Lc
  sub : ∀ j, lst Lc j → j ∈ L
  pend : ∀ j, j ∈ L → ¬ lst Lc j → j ∈ M
  len : ts.length = a.tmps.size
  rel : ∀ t, (∀ j ∈ M, ¬ lst Lc j → dstOf ops j ≠ some t) → VRel μ (ts.getD t .any) (a.tmps.getD t undef)
  sat : Sat μ H w
  nx : B ≤ H.next
def left (Lc : Array Bool) : Nat := (Lc.toList.filter fun b => !b).length
/-- From such a state, in whatever order the rest comes. -/
def DA (P : Program) (B : Nat) (ops : Array Oper) (M L : List Nat) (ts : List AV) (H : AH) (Q : Post) : Prop :=
  ∀ n Lc μ w a, left Lc ≤ n → DSt B ops M L ts H Lc μ w a → wpAny P .any ops (Lift B Q μ H w a.defers) n Lc a w
theorem putT_len (ts : List AV) (d : Option Nat) (v : AV) : (putT ts d v).length = ts.length := by cases d <;> simp [putT]
theorem scrub_len (ops : Array Oper) : ∀ (js : List Nat) (ts : List AV), (scrub ops js ts).length = ts.length
  | [], _ => rfl
  | j :: js, ts => by rw [scrub, putT_len, scrub_len ops js]
theorem putT_get (ts : List AV) (d : Option Nat) (v : AV) (t : Nat) : (putT ts d v).getD t .any = if d = some t ∧ t < ts.length then v else ts.getD t .any := by
  cases d with
  | none => simp [putT]
  | some d =>
    simp only [putT, getD_set_av]
    by_cases e : t = d
    · subst e
      by_cases h : t < ts.length <;> simp [h]
    · rw [if_neg (fun h => e h.1), if_neg (fun h => e (Option.some.inj h.1).symm)]
theorem scrub_get (ops : Array Oper) : ∀ (js : List Nat) (ts : List AV) (t : Nat), (scrub ops js ts).getD t .any = ts.getD t .any ∨ ((scrub ops js ts).getD t .any = .any)
  | [], _, _ => .inl rfl
  | j :: js, ts, t => by
    rw [scrub, putT_get]
    split
    · exact .inr rfl
    · exact scrub_get ops js ts t
theorem scrub_any (ops : Array Oper) : ∀ (js : List Nat) (ts : List AV) (t : Nat), (∃ j ∈ js, dstOf ops j = some t) → (scrub ops js ts).getD t .any = .any
  | [], _, _, h => by obtain ⟨j, hj, _⟩ := h; cases hj
  | j :: js, ts, t, h => by
    rw [scrub, putT_get]
    by_cases e : dstOf ops j = some t
    · by_cases hl : t < (scrub ops js ts).length
      · rw [if_pos ⟨e, hl⟩]
      · rw [if_neg (fun h => hl h.2), List.getD_eq_getElem?_getD, List.getElem?_eq_none (by omega)]; rfl
    · rw [if_neg (fun h => e h.1)]
      obtain ⟨i, hi, he⟩ := h
      rcases List.mem_cons.1 hi with rfl | hi
      · exact absurd he e
      · exact scrub_any ops js ts t ⟨i, hi, he⟩
theorem Rel.of_get {μ : Mu} {ts : List AV} {tmps : Array Value} (hl : ts.length = tmps.size) (h : ∀ t, VRel μ (ts.getD t .any) (tmps.getD t undef)) : Rel μ ts tmps := by
  refine VRels.of_get (by simpa using hl) (fun i x hx => ?_)
  have := h i
  rw [Array.getElem?_toList] at hx
  rwa [Array.getD_eq_getD_getElem?, hx] at this
/-- An operation that may come now sees all that it needs. -/
theorem DSt.seen {B : Nat} {ops : Array Oper} {M L : List Nat} {ts : List AV} {H : AH} {Lc : Array Bool} {μ : Mu} {w : World} {a : Act} (d : DSt B ops M L ts H Lc μ w a) {j : Nat} (hr : j ∈ Region.ready .any ops Lc) : Rel μ (scrub ops (besides ops M j) ts) a.tmps := by
  obtain ⟨_, o, ho, hall⟩ := mem_ready.1 hr
  refine Rel.of_get (by rw [scrub_len]; exact d.len) (fun t => ?_)
  by_cases h : ∃ i ∈ besides ops M j, dstOf ops i = some t
  · rw [scrub_any ops _ ts t h]; simp [VRel]
  · rcases scrub_get ops (besides ops M j) ts t with e | e
    · rw [e]
      refine d.rel t (fun i hi hn he => h ⟨i, ?_, he⟩)
      refine List.mem_filter.2 ⟨hi, ?_⟩
      rcases hq : (waitsFor ops ops.size j).contains i with _ | _
      · rfl
      · exfalso
        exact hn (waits_listed d.closed ops.size j (fun o' ho' e' he' hb' => by rw [ho] at ho'; cases ho'; exact hall e' he' hb') i (List.contains_iff_mem.1 hq))
    · rw [e]; simp [VRel]
/-- One operation that calls nothing: its value. -/
def stepV (P : Program) (ops : Array Oper) (hint : Nat) (o : Oper) (ts : List AV) (H : AH) : Option (AV × AH × Bool) :=
  match guardOf ops o with
  | none => none
  | some g => match goesOn ts g with
    | none => none
    | some false => some (.tup [], H, true)
    | some true => match comp P o with
      | none => none
      | some c => cstep (CX.ev ts) H (c.hint hint)
def valAt (ts : List AV) : Option Nat → AV
  | some d => ts.getD d .any
  | none => .any
/-- What is reckoned already would come to just that here. -/
def ValidOne (P : Program) (ops : Array Oper) (M : List Nat) (ts : List AV) (H : AH) (k : Nat) : Prop :=
  match ops[k]? with
  | some o => stepV P ops 0 o (scrub ops (besides ops M k) ts) H = some (valAt ts o.dst, H, true)
  | none => True
def ValidL (P : Program) (ops : Array Oper) (M : List Nat) (ts : List AV) (H : AH) : List Nat → Prop
  | [] => True
  | k :: ks => ValidOne P ops M ts H k ∧ ValidL P ops M ts H ks
theorem ValidL.mem {P : Program} {ops : Array Oper} {M : List Nat} {ts : List AV} {H : AH} : ∀ {l : List Nat}, ValidL P ops M ts H l → ∀ k ∈ l, ValidOne P ops M ts H k
  | [], _, k, hk => by cases hk
  | i :: l, h, k, hk => by
    rcases List.mem_cons.1 hk with rfl | hk
    · exact h.1
    · exact ValidL.mem h.2 k hk
/-- The model does one operation: to values and heaps of the engine's. -/
def OpJ (P : Program) (B : Nat) (ops : Array Oper) (Q : Post) (j : Nat) (tss : List AV) (H : AH) (K : AV → AH → Prop) : Prop :=
  ∀ μ w a (Kc : Act → World → Prop) (Qc : Exit → Act → World → Prop), Rel μ tss a.tmps → Sat μ H w → B ≤ H.next →
    (∀ v H' x w' μ', Q (.panic v) tss H' → VRel μ' v x → Sat μ' H' w' → MuLe μ μ' → Fr μ H μ' H' w w' → Qc (.panic [{ v := x, recovered := false }]) a w') →
    (∀ v H' x w' μ', K v H' → VRel μ' v x → Sat μ' H' w' → MuLe μ μ' → Fr μ H μ' H' w w' → Kc (a.put (dstOf ops j) x) w') → wpOp P ops Qc j Kc a w
theorem OpJ.step {P : Program} {B : Nat} {ops : Array Oper} {Q : Post} {j : Nat} {o : Oper} {tss : List AV} {H H' : AH} {K : AV → AH → Prop} {v : AV} (hint : Nat) (ho : ops[j]? = some o) (h : stepV P ops hint o tss H = some (v, H', true)) (hk : K v H') : OpJ P B ops Q j tss H K := by
  intro μ w a Kc Qc r s hB _ hK
  have hd : dstOf ops j = o.dst := by simp [dstOf, ho]
  unfold wpOp
  rw [ho]
  simp only []
  unfold stepV at h
  split at h
  · cases h
  · rename_i g hg
    split at h
    · cases h
    · rename_i hb
      simp only [Option.some.injEq, Prod.mk.injEq] at h
      obtain ⟨rfl, rfl, _⟩ := h
      rw [guard_ok r hg hb]
      simp only [Bool.false_eq_true, if_false]
      rw [← hd]
      exact hK (.tup []) H undef w μ hk ⟨#[], rfl, trivial⟩ s (fun _ _ h => h) (Fr.refl _ _ _)
    · rename_i hb
      split at h
      · cases h
      · rename_i c hc
        rw [guard_ok r hg hb]
        simp only [if_true]
        left
        obtain ⟨rn, x, w', μ', k1, k2, k3, k4, k5⟩ := cstep_ok hc (fun y cy hy => opd_rel hy r) s hint h
        have goal : Kc (a.put o.dst x) w' := by
          rw [← hd]
          exact hK v H' x w' μ' hk k3 k4 (k5.ext s) k5
        unfold Oper.wp
        rw [k1]
        rcases k2 with rfl | ⟨rfl, rfl⟩
        · exact goal
        · exact goal
theorem filt_set : ∀ (l : List Bool) (j : Nat), l[j]? = some false → ((l.set j true).filter fun b => !b).length + 1 = (l.filter fun b => !b).length
  | [], j, h => by simp at h
  | b :: l, 0, h => by simp at h; subst h; simp
  | b :: l, j + 1, h => by
    have := filt_set l j (by simpa using h)
    cases b <;> simp [this]
theorem not_lst {Lc : Array Bool} {j : Nat} (hs : j < Lc.size) (h : ¬ lst Lc j) : Lc.toList[j]? = some false := by
  rw [Array.getElem?_toList, Array.getElem?_eq_getElem hs]
  rcases hq : Lc[j] with _ | _
  · rfl
  · exact absurd (by simp [lst, hs, hq]) h
theorem left_set {Lc : Array Bool} {j : Nat} (hs : j < Lc.size) (h : ¬ lst Lc j) : left (Lc.setIfInBounds j true) + 1 = left Lc := by
  unfold left
  rw [Array.toList_setIfInBounds]
  exact filt_set _ _ (not_lst hs h)
theorem left_pos {Lc : Array Bool} {j : Nat} (hs : j < Lc.size) (h : ¬ lst Lc j) : 0 < left Lc := by
  have := left_set hs h
  omega
theorem lst_set {Lc : Array Bool} {j i : Nat} (hs : j < Lc.size) : lst (Lc.setIfInBounds j true) i ↔ i = j ∨ lst Lc i := by
  by_cases e : j = i
  · subst e
    simp [lst, hs]
  · rw [lst, getD_set_ne false e]
    constructor
    · exact .inr
    · rintro (rfl | h)
      · exact absurd rfl e
      · exact h
/-- Edges go back. -/
def backB (ops : Array Oper) : Bool := (List.range ops.size).all fun j => match ops[j]? with
  | some o => o.after.toList.all fun e => !Region.binds .any e || Nat.blt e.on j
  | none => true
theorem backB_spec {ops : Array Oper} (h : backB ops = true) {j : Nat} {o : Oper} (ho : ops[j]? = some o) {e : Edge} (he : e ∈ o.after) (hb : Region.binds .any e = true) : e.on < j := by
  have hlt := (Array.getElem?_eq_some_iff.1 ho).1
  have := List.all_eq_true.1 h j (List.mem_range.2 hlt)
  rw [ho] at this
  have := List.all_eq_true.1 this e (by simpa using he)
  rw [hb] at this
  simp only [Bool.not_true, Bool.false_or] at this
  exact Nat.le_of_ble_eq_true this
/-- Where something is not listed, something may come. -/
theorem some_ready {ops : Array Oper} (hb : backB ops = true) {Lc : Array Bool} (hs : Lc.size = ops.size) {j : Nat} (hj : j < ops.size) (hn : ¬ lst Lc j) : ∃ i, i ≤ j ∧ i ∈ Region.ready .any ops Lc ∧ ¬ lst Lc i := by
  induction j using Nat.strongRecOn with
  | _ j ih =>
    obtain ⟨o, ho⟩ : ∃ o, ops[j]? = some o := ⟨ops[j], Array.getElem?_eq_getElem hj⟩
    by_cases h : ∀ e ∈ o.after, Region.binds .any e = true → lst Lc e.on
    · refine ⟨j, Nat.le_refl _, mem_ready.2 ⟨?_, o, ho, h⟩, hn⟩
      have := not_lst (by omega) hn
      rw [Array.getElem?_toList] at this
      simp [this]
    · have : ∃ e ∈ o.after, Region.binds .any e = true ∧ ¬ lst Lc e.on := by
        apply Classical.byContradiction
        intro hc
        exact h (fun e he hb' => Classical.byContradiction fun hq => hc ⟨e, he, hb', hq⟩)
      obtain ⟨e, he, hb', hq⟩ := this
      have hlt := backB_spec hb ho he hb'
      obtain ⟨i, h1, h2, h3⟩ := ih e.on hlt (by omega) hq
      exact ⟨i, by omega, h2, h3⟩
theorem DSt.execP {P : Program} {B : Nat} {ops : Array Oper} {M L : List Nat} {ts : List AV} {H : AH} {Lc : Array Bool} {μ : Mu} {w : World} {a : Act} {Qc : Exit → Act → World → Prop} {Kc : Act → World → Prop} (d : DSt B ops M L ts H Lc μ w a) (hv : ValidL P ops M ts H M) {k : Nat} (hr : k ∈ Region.ready .any ops Lc) (hk : k ∈ M) (hkL : k ∈ L)
    (hK : ∀ a' w' μ', DSt B ops M L ts H (Lc.setIfInBounds k true) μ' w' a' → Fr μ H μ' H w w' → a'.defers = a.defers → Kc a' w') : wpOp P ops Qc k Kc a w := by
  obtain ⟨hun, o, ho, hall⟩ := mem_ready.1 hr
  have hlt : k < ops.size := (Array.getElem?_eq_some_iff.1 ho).1
  have hvk := hv.mem k hk
  unfold ValidOne at hvk
  rw [ho] at hvk
  have hd : dstOf ops k = o.dst := by simp [dstOf, ho]
  refine OpJ.step (B := B) (Q := fun _ _ _ => False) (K := fun v H' => v = valAt ts o.dst ∧ H' = H) 0 ho hvk ⟨rfl, rfl⟩ μ w a Kc Qc (d.seen hr) d.sat d.nx ?_ ?_
  · intro v H' x w' μ' hf; exact hf.elim
  · rintro v H' x w' μ' ⟨rfl, rfl⟩ hx s' hle fr
    have hdef : (a.put (dstOf ops k) x).defers = a.defers := by cases dstOf ops k <;> rfl
    refine hK _ _ μ' ⟨by simpa using d.size, ?_, ?_, ?_, ?_, ?_, s', d.nx⟩ fr hdef
    · intro j o' ho' hj e he hb
      rw [lst_set (by rw [d.size]; exact hlt)] at hj ⊢
      rcases hj with rfl | hj
      · rw [ho] at ho'; cases ho'
        exact .inr (hall e he hb)
      · exact .inr (d.closed j o' ho' hj e he hb)
    · intro j hj
      rw [lst_set (by rw [d.size]; exact hlt)] at hj
      rcases hj with rfl | hj
      · exact hkL
      · exact d.sub j hj
    · intro j hj hn
      exact d.pend j hj (fun h => hn ((lst_set (by rw [d.size]; exact hlt)).2 (.inr h)))
    · rw [d.len]
      cases dstOf ops k <;> simp [Act.put]
    · intro t ht
      by_cases e : dstOf ops k = some t
      · rw [hd] at e
        rw [hd, e]
        simp only [Act.put]
        by_cases hsz : t < a.tmps.size
        · rw [Array.getD_eq_getD_getElem?, Array.getElem?_setIfInBounds_self]
          simp only [hsz, if_true, Option.getD_some]
          rw [e] at hx
          exact hx
        · rw [Array.getD_eq_getD_getElem?, Array.getElem?_eq_none (by simpa using hsz), List.getD_eq_getElem?_getD, List.getElem?_eq_none (by rw [d.len]; omega)]
          simp [VRel]
      · have : VRel μ (ts.getD t .any) (a.tmps.getD t undef) := by
          refine d.rel t (fun j hj hn he => ?_)
          by_cases ejk : j = k
          · subst ejk; exact e he
          · exact ht j hj (fun h => by
              rw [lst_set (by rw [d.size]; exact hlt)] at h
              rcases h with h | h
              · exact ejk h
              · exact hn h) he
        have h2 : (a.put (dstOf ops k) x).tmps.getD t undef = a.tmps.getD t undef := by
          cases hq : dstOf ops k with
          | none => rfl
          | some d' =>
            have : d' ≠ t := fun h => e (by rw [hq, h])
            simp only [Act.put, Array.getD_eq_getD_getElem?]
            rw [Array.getElem?_setIfInBounds_ne this]
        rw [h2]
        exact VRel.ext hle _ _ this
theorem wpOp_monoQ {P : Program} {ops : Array Oper} {Q Q' : Exit → Act → World → Prop} {K K' : Act → World → Prop} (h : ∀ e a w, Q e a w → Q' e a w) (hk : ∀ a w, K a w → K' a w) {i : Nat} {a : Act} {w : World} (q : wpOp P ops Q i K a w) : wpOp P ops Q' i K' a w := by
  unfold wpOp at q ⊢
  split at q
  · exact hk _ _ q
  · rename_i o ho
    split at q
    · rename_i hw
      rw [if_pos hw]
      rcases q with q | ⟨q1, a0, w0, q2⟩
      · left
        unfold Oper.wp at q ⊢
        generalize (execOp a.eval o).run P w = r at *
        cases r with
        | ok n w' =>
          cases n <;> simp only [Oper.upon] at q ⊢ <;>
            first
              | exact hk _ _ q
              | exact Calls.mono q (fun e w'' he => by cases e <;> first | exact hk _ _ he | exact h _ _ _ he | (obtain ⟨a0, w0, q0⟩ := he; exact ⟨a0, w0, h _ _ _ q0⟩))
              | exact Rows.mono q (fun _ _ he => hk _ _ he)
        | halt x w' => cases x <;> simp only [Oper.upon] at q ⊢ <;> exact h _ _ _ q
      · exact .inr ⟨q1, a0, w0, h _ _ _ q2⟩
    · rename_i hw
      rw [if_neg hw]
      exact hk _ _ q
theorem wpAny_mono {P : Program} {ops : Array Oper} {Q Q' : Exit → Act → World → Prop} (h : ∀ e a w, Q e a w → Q' e a w) : ∀ (n : Nat) (Lc : Array Bool) (a : Act) (w : World), wpAny P .any ops Q n Lc a w → wpAny P .any ops Q' n Lc a w
  | 0, _, _, _, q => ⟨q.1, h _ _ _ q.2⟩
  | n + 1, _, _, _, q => ⟨fun hr => h _ _ _ (q.1 hr), fun i hi => wpOp_monoQ h (fun a w => wpAny_mono h n _ a w) (q.2 i hi)⟩
theorem DA.take {P : Program} {B : Nat} {ops : Array Oper} {M L : List Nat} {ts : List AV} {H : AH} {Q : Post} (i : Nat) (v : AV) (hi : L.contains i = false) (h : DA P B ops (i :: M) (i :: L) (putT ts (dstOf ops i) v) H Q) : DA P B ops M L ts H Q := fun n Lc μ w a hn d => by
  have hiL : i ∉ L := fun hm => by rw [List.contains_iff_mem.2 hm] at hi; cases hi
  have hni : ¬ lst Lc i := fun hl => hiL (d.sub i hl)
  refine h n Lc μ w a hn ⟨d.size, d.closed, fun j hj => List.mem_cons_of_mem _ (d.sub j hj), fun j hj hl => ?_, by rw [putT_len]; exact d.len, fun t ht => ?_, d.sat, d.nx⟩
  · rcases List.mem_cons.1 hj with rfl | hj
    · exact List.mem_cons_self
    · exact List.mem_cons_of_mem _ (d.pend j hj hl)
  · have hne := ht i List.mem_cons_self hni
    rw [putT_get, if_neg (fun h => hne h.1)]
    exact d.rel t (fun j hj hl => ht j (List.mem_cons_of_mem _ hj) hl)
/-- What may come next, when all of L is reckoned. -/
def readyAbs (ops : Array Oper) (L : List Nat) : List Nat := (List.range ops.size).filter fun j => !L.contains j && match ops[j]? with
  | some o => o.after.toList.all fun e => !Region.binds .any e || L.contains e.on
  | none => false
def Branches (P : Program) (B : Nat) (ops : Array Oper) (Q : Post) (M L : List Nat) (ts : List AV) (H : AH) : List Nat → Prop
  | [] => True
  | j :: js => OpJ P B ops Q j (scrub ops (besides ops M j) ts) H (fun v H' => DA P B ops (besides ops M j) (j :: L) (putT ts (dstOf ops j) v) H' Q) ∧ Branches P B ops Q M L ts H js
theorem Branches.mem {P : Program} {B : Nat} {ops : Array Oper} {Q : Post} {M L : List Nat} {ts : List AV} {H : AH} : ∀ {F : List Nat}, Branches P B ops Q M L ts H F → ∀ j ∈ F, OpJ P B ops Q j (scrub ops (besides ops M j) ts) H (fun v H' => DA P B ops (besides ops M j) (j :: L) (putT ts (dstOf ops j) v) H' Q)
  | [], _, j, hj => by cases hj
  | i :: F, h, j, hj => by
    rcases List.mem_cons.1 hj with rfl | hj
    · exact h.1
    · exact Branches.mem h.2 j hj
theorem DA.exec {P : Program} {B : Nat} {ops : Array Oper} {M L : List Nat} {ts : List AV} {H : AH} {Q : Post} (F : List Nat) (hc : readyAbs ops L = F ∧ F.isEmpty = false ∧ backB ops = true) (hv : ValidL P ops M ts H M) (hb : Branches P B ops Q M L ts H F) : DA P B ops M L ts H Q := by
  obtain ⟨hF, hne, hbk⟩ := hc
  obtain ⟨j0, hj0⟩ : ∃ j, j ∈ F := by
    cases F with
    | nil => cases hne
    | cons j _ => exact ⟨j, List.mem_cons_self⟩
  have hj0' : j0 < ops.size ∧ j0 ∉ L := by
    rw [← hF] at hj0
    obtain ⟨h1, h2⟩ := List.mem_filter.1 hj0
    simp only [Bool.and_eq_true, Bool.not_eq_true'] at h2
    exact ⟨List.mem_range.1 h1, fun hm => by rw [List.contains_iff_mem.2 hm] at h2; exact absurd h2.1 (by simp)⟩
  intro n
  induction n with
  | zero =>
    intro Lc μ w a hn d
    have := left_pos (Lc := Lc) (j := j0) (by rw [d.size]; exact hj0'.1) (fun hl => hj0'.2 (d.sub j0 hl))
    omega
  | succ n ih =>
    intro Lc μ w a hn d
    refine ⟨fun hr => ?_, fun i hi => ?_⟩
    · obtain ⟨i, _, h2, _⟩ := some_ready hbk d.size hj0'.1 (fun hl => hj0'.2 (d.sub j0 hl))
      rw [hr] at h2; cases h2
    · obtain ⟨hun, o, ho, hall⟩ := mem_ready.1 hi
      have hlt : i < ops.size := (Array.getElem?_eq_some_iff.1 ho).1
      have hlt' : i < Lc.size := by rw [d.size]; exact hlt
      have hnl : ¬ lst Lc i := by
        intro hl
        unfold lst at hl
        simp [Array.getD_eq_getD_getElem?, Array.getElem?_eq_getElem hlt'] at hun hl
        rw [hun] at hl; cases hl
      have hleft : left (Lc.setIfInBounds i true) ≤ n := by have := left_set hlt' hnl; omega
      by_cases hiL : i ∈ L
      · refine d.execP (P := P) hv hi (d.pend i hiL hnl) hiL (fun a' w' μ' d' fr hdf => ?_)
        have := ih (Lc.setIfInBounds i true) μ' w' a' hleft d'
        rw [hdf] at this
        exact wpAny_mono (fun e a1 w1 hq => Lift.trans (fr.fw d.nx) hq) _ _ _ _ this
      · have hiF : i ∈ F := by
          rw [← hF]
          refine List.mem_filter.2 ⟨List.mem_range.2 hlt, ?_⟩
          simp only [Bool.and_eq_true, Bool.not_eq_true', ho]
          refine ⟨?_, ?_⟩
          · rcases hq : L.contains i with _ | _
            · rfl
            · exact absurd (List.contains_iff_mem.1 hq) hiL
          · rw [List.all_eq_true]
            intro e he
            rcases hq : Region.binds .any e with _ | _
            · rfl
            · simp only [Bool.not_true, Bool.false_or]
              exact List.contains_iff_mem.2 (d.sub _ (hall e (by simpa using he) hq))
        refine hb.mem i hiF μ w a _ _ (d.seen hi) d.sat d.nx ?_ ?_
        · intro v H' x w' μ' hq hx s' hle fr
          exact ⟨.panic v, _, H', μ', hq, ⟨x, rfl, hx⟩, (d.seen hi).ext hle, s', fr.fw d.nx, rfl⟩
        · intro v H' x w' μ' hK hx s' hle fr
          have hdef : (a.put (dstOf ops i) x).defers = a.defers := by cases dstOf ops i <;> rfl
          have d' : DSt B ops (besides ops M i) (i :: L) (putT ts (dstOf ops i) v) H' (Lc.setIfInBounds i true) μ' w' (a.put (dstOf ops i) x) := by
            refine ⟨by simpa using d.size, ?_, ?_, ?_, ?_, ?_, s', Nat.le_trans d.nx fr.nx⟩
            · intro j o' ho' hj e he hb'
              rw [lst_set hlt'] at hj ⊢
              rcases hj with rfl | hj
              · rw [ho] at ho'; cases ho'
                exact .inr (hall e he hb')
              · exact .inr (d.closed j o' ho' hj e he hb')
            · intro j hj
              rw [lst_set hlt'] at hj
              rcases hj with rfl | hj
              · exact List.mem_cons_self
              · exact List.mem_cons_of_mem _ (d.sub j hj)
            · intro j hj hl
              rcases List.mem_cons.1 hj with rfl | hj
              · exact absurd ((lst_set hlt').2 (.inl rfl)) hl
              · have hnj : ¬ lst Lc j := fun h => hl ((lst_set hlt').2 (.inr h))
                refine List.mem_filter.2 ⟨d.pend j hj hnj, ?_⟩
                rcases hq : (waitsFor ops ops.size i).contains j with _ | _
                · rfl
                · exfalso
                  exact hnj (waits_listed d.closed ops.size i (fun o' ho' e' he' hb' => by rw [ho] at ho'; cases ho'; exact hall e' he' hb') j (List.contains_iff_mem.1 hq))
            · rw [putT_len, d.len]
              cases dstOf ops i <;> simp [Act.put]
            · intro t ht
              rw [putT_get]
              by_cases e : dstOf ops i = some t
              · by_cases hsz : t < ts.length
                · rw [if_pos ⟨e, hsz⟩, e]
                  simp only [Act.put]
                  rw [d.len] at hsz
                  rw [Array.getD_eq_getD_getElem?, Array.getElem?_setIfInBounds_self]
                  simpa [hsz] using hx
                · rw [if_neg (fun h => hsz h.2), List.getD_eq_getElem?_getD, List.getElem?_eq_none (by omega)]
                  simp [VRel]
              · rw [if_neg (fun h => e h.1)]
                have h2 : (a.put (dstOf ops i) x).tmps.getD t undef = a.tmps.getD t undef := by
                  cases hq : dstOf ops i with
                  | none => rfl
                  | some d' =>
                    have : d' ≠ t := fun h => e (by rw [hq, h])
                    simp only [Act.put, Array.getD_eq_getD_getElem?]
                    rw [Array.getElem?_setIfInBounds_ne this]
                rw [h2]
                refine VRel.ext hle _ _ (d.rel t (fun j hj hnj he => ?_))
                by_cases eji : j = i
                · subst eji; exact e he
                · refine ht j (List.mem_filter.2 ⟨hj, ?_⟩) (fun h => ?_) he
                  · rcases hq : (waitsFor ops ops.size i).contains j with _ | _
                    · rfl
                    · exfalso
                      exact hnj (waits_listed d.closed ops.size i (fun o' ho' e' he' hb' => by rw [ho] at ho'; cases ho'; exact hall e' he' hb') j (List.contains_iff_mem.1 hq))
                  · rw [lst_set hlt'] at h
                    rcases h with h | h
                    · exact eji h
                    · exact hnj h
          have := hK n (Lc.setIfInBounds i true) μ' w' (a.put (dstOf ops i) x) hleft d'
          rw [hdef] at this
          exact wpAny_mono (fun e a1 w1 hq => Lift.trans (fr.fw d.nx) hq) _ _ _ _ this
theorem DA.fin {P : Program} {B : Nat} {ops : Array Oper} {M L : List Nat} {ts : List AV} {H : AH} {Q : Post} (hc : (List.range ops.size).all (fun j => L.contains j) = true ∧ backB ops = true) (hv : ValidL P ops M ts H M) (hq : Q .normal ts H) : DA P B ops M L ts H Q := by
  obtain ⟨hall, hbk⟩ := hc
  have inL : ∀ j, j < ops.size → j ∈ L := fun j hj => List.contains_iff_mem.1 (List.all_eq_true.1 hall j (List.mem_range.2 hj))
  have done : ∀ Lc μ w a, DSt B ops M L ts H Lc μ w a → (∀ j, j < ops.size → lst Lc j) → Lift B Q μ H w a.defers .normal a w := by
    intro Lc μ w a d hl
    refine ⟨.normal, ts, H, μ, hq, rfl, Rel.of_get d.len (fun t => d.rel t (fun j hj hn he => ?_)), d.sat, Fw.refl _ _ d.nx, rfl⟩
    by_cases h : j < ops.size
    · exact hn (hl j h)
    · simp [dstOf, Array.getElem?_eq_none (by omega : ops.size ≤ j)] at he
  intro n
  induction n with
  | zero =>
    intro Lc μ w a hn d
    have hl : ∀ j, j < ops.size → lst Lc j := fun j hj => Classical.byContradiction fun h => by
      have := left_pos (Lc := Lc) (j := j) (by rw [d.size]; exact hj) h
      omega
    refine ⟨?_, done Lc μ w a d hl⟩
    rcases hr : Region.ready .any ops Lc with _ | ⟨i, l⟩
    · rfl
    · exfalso
      have hi : i ∈ Region.ready .any ops Lc := by rw [hr]; exact List.mem_cons_self
      obtain ⟨hun, o, ho, _⟩ := mem_ready.1 hi
      have hlt : i < ops.size := (Array.getElem?_eq_some_iff.1 ho).1
      have := hl i hlt
      unfold lst at this
      simp [Array.getD_eq_getD_getElem?, Array.getElem?_eq_getElem (by rw [d.size]; exact hlt : i < Lc.size)] at hun this
      rw [hun] at this; cases this
  | succ n ih =>
    intro Lc μ w a hn d
    refine ⟨fun hr => done Lc μ w a d (fun j hj => Classical.byContradiction fun h => ?_), fun i hi => ?_⟩
    · obtain ⟨i, _, h2, _⟩ := some_ready hbk d.size hj h
      rw [hr] at h2; cases h2
    · obtain ⟨hun, o, ho, _⟩ := mem_ready.1 hi
      have hlt : i < ops.size := (Array.getElem?_eq_some_iff.1 ho).1
      have hlt' : i < Lc.size := by rw [d.size]; exact hlt
      have hnl : ¬ lst Lc i := by
        intro hl
        unfold lst at hl
        simp [Array.getD_eq_getD_getElem?, Array.getElem?_eq_getElem hlt'] at hun hl
        rw [hun] at hl; cases hl
      refine d.execP (P := P) hv hi (d.pend i (inL i hlt) hnl) (inL i hlt) (fun a' w' μ' d' fr hdf => ?_)
      have := ih (Lc.setIfInBounds i true) μ' w' a' (by have := left_set hlt' hnl; omega) d'
      rw [hdf] at this
      exact wpAny_mono (fun e a1 w1 hq => Lift.trans (fr.fw d.nx) hq) _ _ _ _ this
theorem Tri.drawn {P : Program} {B : Nat} {id : Nat} {ops : Array Oper} {ts : List AV} {H : AH} {Q : Post} (hm : P.follows .mixedOrders = true) (h : DA P B ops [] [] ts H Q) : Tri P B (.region id ops true) ts H Q := fun μ w a r s hB => by
  refine wp_region_any hm ?_
  have hw : ({ w with drawn := w.drawn + 1 } : World) = w.drew := rfl
  rw [hw]
  have hleft : left (Array.replicate ops.size false) ≤ ops.size := by
    unfold left
    exact Nat.le_trans (List.length_filter_le _ _) (by simp)
  have none_ : ∀ j, ¬ lst (Array.replicate ops.size false) j := by
    intro j hj
    unfold lst at hj
    rw [Array.getD_eq_getD_getElem?, Array.getElem?_replicate] at hj
    split at hj <;> simp at hj
  have d : DSt B ops [] [] ts H (Array.replicate ops.size false) μ w.drew a :=
    ⟨by simp, fun j o _ hj => absurd hj (none_ j), fun j hj => absurd hj (none_ j), (fun j hj => by cases hj), by have := r.len; simpa using this, fun t _ => r.get t, s.heap rfl, hB⟩
  exact wpAny_mono (fun e a1 w1 hq => Lift.trans ((Fr.drew μ H w).fw hB) hq) _ _ _ _ (h ops.size _ μ w.drew a hleft d)
theorem OpJ.call {P : Program} {B : Nat} {ops : Array Oper} {Q : Post} {j : Nat} {o : Oper} {tss : List AV} {H H0 H0' H1 : AH} {K : AV → AH → Prop} {f : FuncId} {as args0 : List AV} {out : AOut} (σ : Nat → Nat) {g : Option (Nat × Bool)} (ho : ops[j]? = some o) (hgd : guardOf ops o = some g) (hgo : goesOn tss g = some true)
    (hc : callOf tss o = some (f, as)) (hf : isGo P f = true) (run : Runs P f args0 H0 out H0') (ha : AV.rens σ args0 = as) (em : Emb σ H0 H) (af : After σ H0 H H0' H1)
    (hk : match out with
      | .ret v => K (v.ren (tau σ H0 H)) H1
      | .panic v => Q (.panic (v.ren (tau σ H0 H))) tss H1) : OpJ P B ops Q j tss H K := by
  intro μ w a Kc Qc r s hB hQ hK
  have hd : dstOf ops j = o.dst := by simp [dstOf, ho]
  unfold wpOp
  rw [ho]
  simp only []
  rw [guard_ok r hgd hgo]
  simp only [if_true]
  left
  obtain ⟨vs, h1, h2⟩ := call_run r hc hf w
  unfold Oper.wp
  rw [h2, Oper.upon_enter]
  subst ha
  refine Calls.mono (run (fun b => μ (σ b)) w vs (VRels.unren (fun _ _ h => h) _ _ h1) (em.sat s)) (fun e w' hq => ?_)
  obtain ⟨μ0', k1, k2, k3⟩ := hq
  obtain ⟨μ1, q1, q2, q3, q4⟩ := call_frame em af s k2 k3
  cases out with
  | ret v =>
    obtain ⟨x, rfl, hx⟩ := k1
    simp only [] at hk ⊢
    rw [← hd]
    exact hK _ H1 x w' μ1 hk (q2 v x hx) q3 q1 q4
  | panic v =>
    obtain ⟨x, rfl, hx⟩ := k1
    simp only [] at hk ⊢
    exact hQ _ H1 x w' μ1 hk (q2 v x hx) q3 q1 q4
theorem OpJ.calls {P : Program} {B : Nat} {ops : Array Oper} {Q : Post} {j : Nat} {o : Oper} {tss : List AV} {H H1 : AH} {K : AV → AH → Prop} {f : FuncId} {args0 as : List AV} {n0 n0' : Nat} {L0 L0' : LH} {v0 v : AV} (run : Runs P f args0 (AH.of n0 L0) (.ret v0) (AH.of n0' L0')) (σ : List Nat) (ho : ops[j]? = some o)
    (hc : (match guardOf ops o with | some g => goesOn tss g | none => none) = some true ∧ callOf tss o = some (f, as) ∧ isGo P f = true ∧ Nat.ble σ.length n0 = true ∧ noDup (L0.map (fun p => sig σ H.next p.1)) = true ∧ noDup (L0.map (·.1)) = true ∧ noDup (L0'.map (·.1)) = true)
    (ha : AV.rens (sig σ H.next) args0 = as) (hb : BlkOK (sig σ H.next) H L0) (hr : callRes (sig σ H.next) n0 L0 H n0' L0' = H1) (hv : v0.ren (fun b => bif Nat.blt b n0 then sig σ H.next b else H.next + (b - n0)) = v)
    (hk : K v H1) : OpJ P B ops Q j tss H K := by
  obtain ⟨h1, h2, h3, h4, h5, h6, h7⟩ := hc
  subst hr hv
  split at h1
  · rename_i g hg
    have ht : (fun b => bif Nat.blt b n0 then sig σ H.next b else H.next + (b - n0)) = tau (sig σ H.next) (AH.of n0 L0) H := by
      funext b
      unfold tau
      rw [AH.of_next]
      by_cases h : b < n0
      · rw [blt_true h, if_pos h]; rfl
      · rw [blt_false h, if_neg h]; rfl
    rw [ht] at hk
    exact OpJ.call (sig σ H.next) ho hg h1 h2 h3 run ha (emb_of (Nat.le_of_ble_eq_true h4) hb h5) (after_of h6 h7) hk
  · cases h1
theorem OpJ.callp {P : Program} {B : Nat} {ops : Array Oper} {Q : Post} {j : Nat} {o : Oper} {tss : List AV} {H H1 : AH} {K : AV → AH → Prop} {f : FuncId} {args0 as : List AV} {n0 n0' : Nat} {L0 L0' : LH} {v0 v : AV} (run : Runs P f args0 (AH.of n0 L0) (.panic v0) (AH.of n0' L0')) (σ : List Nat) (ho : ops[j]? = some o)
    (hc : (match guardOf ops o with | some g => goesOn tss g | none => none) = some true ∧ callOf tss o = some (f, as) ∧ isGo P f = true ∧ Nat.ble σ.length n0 = true ∧ noDup (L0.map (fun p => sig σ H.next p.1)) = true ∧ noDup (L0.map (·.1)) = true ∧ noDup (L0'.map (·.1)) = true)
    (ha : AV.rens (sig σ H.next) args0 = as) (hb : BlkOK (sig σ H.next) H L0) (hr : callRes (sig σ H.next) n0 L0 H n0' L0' = H1) (hv : v0.ren (fun b => bif Nat.blt b n0 then sig σ H.next b else H.next + (b - n0)) = v)
    (hk : Q (.panic v) tss H1) : OpJ P B ops Q j tss H K := by
  obtain ⟨h1, h2, h3, h4, h5, h6, h7⟩ := hc
  subst hr hv
  split at h1
  · rename_i g hg
    have ht : (fun b => bif Nat.blt b n0 then sig σ H.next b else H.next + (b - n0)) = tau (sig σ H.next) (AH.of n0 L0) H := by
      funext b
      unfold tau
      rw [AH.of_next]
      by_cases h : b < n0
      · rw [blt_true h, if_pos h]; rfl
      · rw [blt_false h, if_neg h]; rfl
    rw [ht] at hk
    exact OpJ.call (sig σ H.next) ho hg h1 h2 h3 run ha (emb_of (Nat.le_of_ble_eq_true h4) hb h5) (after_of h6 h7) hk
  · cases h1
end
end Go.Eng
