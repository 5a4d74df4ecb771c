/- The engine, twelfth part: regions in the text's order, and code. -/
import Derived.Test.YtilmgiompalggaaGreatDoorEn10
import Derived.Scope
import Derived.LoopN
namespace Go.Eng
open Go Go.RowKit
set_option linter.unusedVariables false
set_option linter.unusedSimpArgs false
noncomputable section
/-- How a piece of code is left. -/
inductive AX where
  | normal
  | exit (id : Nat)
  | goto (l : Nat)
  | ret
  | panic (v : AV)
def XRel (μ : Mu) : AX → Exit → Prop
  | .normal, e => e = .normal
  | .exit id, e => e = .exit id
  | .goto l, e => e = .goto l
  | .ret, e => e = .ret
  | .panic v, e => ∃ x, e = .panic [{ v := x, recovered := false }] ∧ VRel μ v x
abbrev Post := AX → List AV → AH → Prop
/-- What a step leaves as it was, seen from outside: of the blocks' numbers those below B. -/
structure Fw (B : Nat) (μ : Mu) (H : AH) (μ' : Mu) (H' : AH) (w w' : World) : Prop where
  le : ∀ b, b < B → μ' b = μ b
  nx : B ≤ H'.next
  os : w'.os = w.os
  tape : w'.tape = w.tape
  output : w'.output = w.output
  size : w.heap.size ≤ w'.heap.size
  same : ∀ k, k < w.heap.size → (∀ b x l, H.get b = some x → x.own = true → μ b = some l → l.blk ≠ k) → w'.heap[k]? = w.heap[k]?
  from_ : ∀ b x l, H'.get b = some x → μ' b = some l → w.heap.size ≤ l.blk ∨ ∃ b0 x0 l0, H.get b0 = some x0 ∧ μ b0 = some l0 ∧ l0.blk = l.blk ∧ (x.own = true → x0.own = true)
theorem Fr.fw {B : Nat} {μ μ' : Mu} {H H' : AH} {w w' : World} (f : Fr μ H μ' H' w w') (h : B ≤ H.next) : Fw B μ H μ' H' w w' :=
  ⟨fun b hb => f.le b (Nat.lt_of_lt_of_le hb h), Nat.le_trans h f.nx, f.os, f.tape, f.output, f.size, f.same, f.from_⟩
theorem Fw.trans {B : Nat} {μ μ1 μ2 : Mu} {H H1 H2 : AH} {w w1 w2 : World} (f : Fw B μ H μ1 H1 w w1) (g : Fw B μ1 H1 μ2 H2 w1 w2) : Fw B μ H μ2 H2 w w2 where
  le b hb := (g.le b hb).trans (f.le b hb)
  nx := g.nx
  os := g.os.trans f.os
  tape := g.tape.trans f.tape
  output := g.output.trans f.output
  size := Nat.le_trans f.size g.size
  same k hk hn := (g.same k (Nat.lt_of_lt_of_le hk f.size) (fun b x l h1 h2 h3 he => by
    rcases f.from_ b x l h1 h3 with h | ⟨b0, x0, l0, g1, g2, g3, g4⟩
    · omega
    · exact hn b0 x0 l0 g1 (g4 h2) g2 (g3.trans he))).trans (f.same k hk hn)
  from_ b x l h1 h2 := by
    rcases g.from_ b x l h1 h2 with h | ⟨b0, x0, l0, g1, g2, g3, g4⟩
    · exact .inl (Nat.le_trans f.size h)
    · rcases f.from_ b0 x0 l0 g1 g2 with h | ⟨b1, x1, l1, e1, e2, e3, e4⟩
      · exact .inl (by omega)
      · exact .inr ⟨b1, x1, l1, e1, e2, e3.trans g3, fun ho => e4 (g4 ho)⟩
theorem Fw.refl {B : Nat} {H : AH} (μ : Mu) (w : World) (h : B ≤ H.next) : Fw B μ H μ H w w := (Fr.refl μ H w).fw h
/-- A post of the engine's, as one of the model's. -/
def Lift (B : Nat) (Q : Post) (μ0 : Mu) (H0 : AH) (w0 : World) (ds : List Deferred) : Exit → Act → World → Prop := fun e a w =>
  ∃ x ts H μ, Q x ts H ∧ XRel μ x e ∧ Rel μ ts a.tmps ∧ Sat μ H w ∧ Fw B μ0 H0 μ H w0 w ∧ a.defers = ds
theorem Lift.trans {B : Nat} {Q : Post} {μ0 μ1 : Mu} {H0 H1 : AH} {w0 w1 : World} {ds : List Deferred} {e : Exit} {a : Act} {w : World} (f : Fw B μ0 H0 μ1 H1 w0 w1) (h : Lift B Q μ1 H1 w1 ds e a w) : Lift B Q μ0 H0 w0 ds e a w := by
  obtain ⟨x, ts, H, μ, h1, h2, h3, h4, h5, h6⟩ := h
  exact ⟨x, ts, H, μ, h1, h2, h3, h4, f.trans h5, h6⟩
/-- From such a frame and heap the code comes to the post. -/
def Tri (P : Program) (B : Nat) (c : Code) (ts : List AV) (H : AH) (Q : Post) : Prop :=
  ∀ μ w a, Rel μ ts a.tmps → Sat μ H w → B ≤ H.next → c.wp P (Lift B Q μ H w a.defers) a w
def thenX (K : List AV → AH → Prop) (Q : Post) : Post
  | .normal, ts, H => K ts H
  | x, ts, H => Q x ts H
theorem Tri.mono {P : Program} {B : Nat} {c : Code} {ts : List AV} {H : AH} {Q Q' : Post} (h : Tri P B c ts H Q) (hq : ∀ x ts H, Q x ts H → Q' x ts H) : Tri P B c ts H Q' := fun μ w a r s hB =>
  wp_mono (h μ w a r s hB) (fun e a w ⟨x, ts, H, μ, h1, h2⟩ => ⟨x, ts, H, μ, hq _ _ _ h1, h2⟩)
theorem Tri.seq {P : Program} {B : Nat} {c d : Code} {ts : List AV} {H : AH} {Q : Post} (h : Tri P B c ts H (thenX (fun ts H => Tri P B d ts H Q) Q)) : Tri P B (.seq c d) ts H Q := fun μ w a r s hB => by
  refine wp_seq (wp_mono (h μ w a r s hB) (fun e a1 w1 hq => ?_))
  obtain ⟨x, ts1, H1, μ1, h1, h2, h3, h4, h5, h6⟩ := hq
  cases x with
  | normal =>
    simp only [XRel] at h2
    subst h2
    have := h1 μ1 w1 a1 h3 h4 h5.nx
    rw [h6] at this
    exact wp_mono this (fun e a w hl => Lift.trans h5 hl)
  | exit id => simp only [XRel] at h2; subst h2; exact ⟨.exit id, ts1, H1, μ1, h1, rfl, h3, h4, h5, h6⟩
  | goto l => simp only [XRel] at h2; subst h2; exact ⟨.goto l, ts1, H1, μ1, h1, rfl, h3, h4, h5, h6⟩
  | ret => simp only [XRel] at h2; subst h2; exact ⟨.ret, ts1, H1, μ1, h1, rfl, h3, h4, h5, h6⟩
  | panic v => obtain ⟨xv, rfl, hv⟩ := h2; exact ⟨.panic v, ts1, H1, μ1, h1, ⟨xv, rfl, hv⟩, h3, h4, h5, h6⟩
theorem Tri.skip {P : Program} {B : Nat} {ts : List AV} {H : AH} {Q : Post} (h : Q .normal ts H) : Tri P B .skip ts H Q := fun μ w a r s hB => wp_skip ⟨.normal, ts, H, μ, h, rfl, r, s, Fw.refl _ _ hB, rfl⟩
theorem Tri.label {P : Program} {B : Nat} {l : Nat} {ts : List AV} {H : AH} {Q : Post} (h : Q .normal ts H) : Tri P B (.label l) ts H Q := fun μ w a r s hB => wp_label ⟨.normal, ts, H, μ, h, rfl, r, s, Fw.refl _ _ hB, rfl⟩
theorem Tri.ret {P : Program} {B : Nat} {ts : List AV} {H : AH} {Q : Post} (h : Q .ret ts H) : Tri P B .ret ts H Q := fun μ w a r s hB => wp_ret ⟨.ret, ts, H, μ, h, rfl, r, s, Fw.refl _ _ hB, rfl⟩
theorem Tri.exit {P : Program} {B : Nat} {id : Nat} {ts : List AV} {H : AH} {Q : Post} (h : Q (.exit id) ts H) : Tri P B (.exit id) ts H Q := fun μ w a r s hB => wp_exit ⟨.exit id, ts, H, μ, h, rfl, r, s, Fw.refl _ _ hB, rfl⟩
theorem Tri.goto {P : Program} {B : Nat} {l : Nat} {ts : List AV} {H : AH} {Q : Post} (h : Q (.goto l) ts H) : Tri P B (.goto l) ts H Q := fun μ w a r s hB => wp_goto ⟨.goto l, ts, H, μ, h, rfl, r, s, Fw.refl _ _ hB, rfl⟩
/-- An operand's truth. -/
def boolAt (ts : List AV) : Operand → Option Bool
  | .tmp t => match ts.getD t .any with
    | .bool b => some b
    | _ => none
  | .const (.bool b) => some b
  | _ => none
theorem boolAt_rel {μ : Mu} {ts : List AV} {a : Act} (r : Rel μ ts a.tmps) {c : Operand} {b : Bool} (h : boolAt ts c = some b) : a.eval c = .bool b := by
  unfold boolAt at h
  split at h
  · rename_i t
    split at h
    · rename_i b' hb
      cases h
      have := r.get t
      rw [hb] at this
      exact this
    · cases h
  · cases h; rfl
  · cases h
theorem Tri.cond {P : Program} {B : Nat} {c : Operand} {x y : Code} {ts : List AV} {H : AH} {Q : Post} (b : Bool) (hb : boolAt ts c = some b) (h1 : b = true → Tri P B x ts H Q) (h2 : b = false → Tri P B y ts H Q) : Tri P B (.cond c x y) ts H Q := fun μ w a r s hB => by
  refine wp_cond (boolAt_rel r hb) ?_
  cases b
  · exact h2 rfl μ w a r s hB
  · exact h1 rfl μ w a r s hB
def blockX (id : Nat) (Q : Post) : Post
  | .exit id', ts, H => if id' = id then Q .normal ts H else Q (.exit id') ts H
  | x, ts, H => Q x ts H
theorem Tri.block {P : Program} {B : Nat} {id : Nat} {c : Code} {ts : List AV} {H : AH} {Q : Post} (h : Tri P B c ts H (blockX id Q)) : Tri P B (.block id c) ts H Q := fun μ w a r s hB => by
  refine wp_block (wp_mono (h μ w a r s hB) (fun e a1 w1 hq => ?_))
  obtain ⟨x, ts1, H1, μ1, h1, h2, h3⟩ := hq
  cases x with
  | normal => simp only [XRel] at h2; subst h2; exact ⟨.normal, ts1, H1, μ1, h1, rfl, h3⟩
  | exit id' =>
    simp only [XRel] at h2
    subst h2
    simp only [Exit.inBlock]
    simp only [blockX] at h1
    split
    · rename_i e
      rw [if_pos e] at h1
      exact ⟨.normal, ts1, H1, μ1, h1, rfl, h3⟩
    · rename_i e
      rw [if_neg e] at h1
      exact ⟨.exit id', ts1, H1, μ1, h1, rfl, h3⟩
  | goto l => simp only [XRel] at h2; subst h2; exact ⟨.goto l, ts1, H1, μ1, h1, rfl, h3⟩
  | ret => simp only [XRel] at h2; subst h2; exact ⟨.ret, ts1, H1, μ1, h1, rfl, h3⟩
  | panic v => obtain ⟨xv, rfl, hv⟩ := h2; exact ⟨.panic v, ts1, H1, μ1, h1, ⟨xv, rfl, hv⟩, h3⟩
def noGotoX (Q : Post) : Post
  | .goto _, _, _ => False
  | x, ts, H => Q x ts H
theorem Tri.scope {P : Program} {B : Nat} {c : Code} {ts : List AV} {H : AH} {Q : Post} (h : Tri P B c ts H (noGotoX Q)) : Tri P B (.scope c) ts H Q := fun μ w a r s hB => by
  refine wp_scope_straight (wp_mono (h μ w a r s hB) (fun e a1 w1 hq => ?_))
  obtain ⟨x, ts1, H1, μ1, h1, h2, h3⟩ := hq
  cases x with
  | normal => simp only [XRel] at h2; subst h2; exact ⟨.normal, ts1, H1, μ1, h1, rfl, h3⟩
  | exit id' => simp only [XRel] at h2; subst h2; exact ⟨.exit id', ts1, H1, μ1, h1, rfl, h3⟩
  | goto l => exact h1.elim
  | ret => simp only [XRel] at h2; subst h2; exact ⟨.ret, ts1, H1, μ1, h1, rfl, h3⟩
  | panic v => obtain ⟨xv, rfl, hv⟩ := h2; exact ⟨.panic v, ts1, H1, μ1, h1, ⟨xv, rfl, hv⟩, h3⟩
/-- A state by other words: fewer blocks, other numbers from B on. -/
def Weak (B : Nat) (ts : List AV) (H : AH) (ts' : List AV) (H' : AH) : Prop :=
  ∀ μ w tmps, Rel μ ts tmps → Sat μ H w → B ≤ H.next → ∃ μ', Rel μ' ts' tmps ∧ Sat μ' H' w ∧ Fw B μ H μ' H' w w
theorem Weak.refl (B : Nat) (ts : List AV) (H : AH) : Weak B ts H ts H := fun μ w tmps r s hB => ⟨μ, r, s, Fw.refl _ _ hB⟩
theorem Tri.weak {P : Program} {B : Nat} {c : Code} {ts ts' : List AV} {H H' : AH} {Q : Post} (hw : Weak B ts H ts' H') (h : Tri P B c ts' H' Q) : Tri P B c ts H Q := fun μ w a r s hB => by
  obtain ⟨μ', r', s', f⟩ := hw μ w a.tmps r s hB
  exact wp_mono (h μ' w a r' s' f.nx) (fun e a1 w1 hq => Lift.trans f hq)
/-- A loop: a state for each i; a round leads to one of lesser measure, or out. -/
theorem Tri.loop {P : Program} {B : Nat} {c : Code} {ι : Type} (T : ι → List AV) (G : ι → AH) (m : ι → Nat) {Q : Post}
    (round : ∀ i, Tri P B c (T i) (G i) (thenX (fun ts H => ∃ j, m j < m i ∧ Weak B ts H (T j) (G j)) Q)) (i : ι) : Tri P B (.loop c) (T i) (G i) Q := fun μ w a r s hB => by
  refine wp_loop_rounds (m i + 1) ?_
  have key : ∀ n j μ1 a1 w1, m j < n → Rel μ1 (T j) a1.tmps → Sat μ1 (G j) w1 → Fw B μ (G i) μ1 (G j) w w1 → a1.defers = a.defers → Code.rounds P c (Lift B Q μ (G i) w a.defers) n a1 w1 := by
    intro n
    induction n with
    | zero => intro j μ1 a1 w1 h; omega
    | succ n ih =>
      intro j μ1 a1 w1 hlt r1 s1 f1 d1
      rw [rounds_succ]
      refine wp_mono (round j μ1 w1 a1 r1 s1 f1.nx) (fun e a2 w2 hq => ?_)
      obtain ⟨x, ts2, H2, μ2, h1, h2, h3, h4, h5, h6⟩ := hq
      cases x with
      | normal =>
        simp only [XRel] at h2
        subst h2
        obtain ⟨k, hk, hw⟩ := h1
        obtain ⟨μ3, r3, s3, f3⟩ := hw μ2 w2 a2.tmps h3 h4 h5.nx
        exact ih k μ3 a2 w2 (by omega) r3 s3 ((f1.trans h5).trans f3) (h6.trans d1)
      | exit id => simp only [XRel] at h2; subst h2; exact ⟨.exit id, ts2, H2, μ2, h1, rfl, h3, h4, f1.trans h5, h6.trans d1⟩
      | goto l => simp only [XRel] at h2; subst h2; exact ⟨.goto l, ts2, H2, μ2, h1, rfl, h3, h4, f1.trans h5, h6.trans d1⟩
      | ret => simp only [XRel] at h2; subst h2; exact ⟨.ret, ts2, H2, μ2, h1, rfl, h3, h4, f1.trans h5, h6.trans d1⟩
      | panic v => obtain ⟨xv, rfl, hv⟩ := h2; exact ⟨.panic v, ts2, H2, μ2, h1, ⟨xv, rfl, hv⟩, h3, h4, f1.trans h5, h6.trans d1⟩
  exact key _ i μ a w (Nat.lt_succ_self _) r s (Fw.refl _ _ hB) rfl
/-! ### a region in the text's order -/
def guardOf (ops : Array Oper) (o : Oper) : Option (Option (Nat × Bool)) :=
  match o.guard with
  | none => some none
  | some (j, want) => match ops[j]? with
    | some q => match q.dst with
      | some d => some (some (d, want))
      | none => none
    | none => none
def goesOn (ts : List AV) : Option (Nat × Bool) → Option Bool
  | none => some true
  | some (d, want) => match ts.getD d .any with
    | .bool true => some want
    | .bool false => some (!want)
    | .tup _ => some false
    | _ => none
def putT (ts : List AV) (d : Option Nat) (v : AV) : List AV :=
  match d with
  | some d => ts.set d v
  | none => ts
theorem Rel.put {μ : Mu} {ts : List AV} {a : Act} (h : Rel μ ts a.tmps) (d : Option Nat) {v : AV} {x : Value} (hv : VRel μ v x) : Rel μ (putT ts d v) (a.put d x).tmps := by
  cases d with
  | none => exact h
  | some d => exact h.set d hv
theorem guard_ok {μ : Mu} {ts : List AV} {a : Act} (r : Rel μ ts a.tmps) {ops : Array Oper} {o : Oper} {g : Option (Nat × Bool)} (hg : guardOf ops o = some g) {b : Bool} (hb : goesOn ts g = some b) : Region.wanted o (yielded ops a.tmps) = b := by
  unfold guardOf at hg
  unfold Region.wanted
  split at hg
  · rename_i e
    cases hg
    simp only [goesOn, Option.some.injEq] at hb
    rw [e]; exact hb
  · rename_i j want e
    rw [e]
    simp only []
    split at hg
    · rename_i q hq
      split at hg
      · rename_i d hd
        cases hg
        have hr := r.get d
        simp only [goesOn] at hb
        have key : ∀ c : Bool, ts.getD d .any = .bool c → yielded ops a.tmps j = some c := by
          intro c hc
          rw [hc] at hr
          simp only [VRel] at hr
          have hlt : d < a.tmps.size := by
            rcases Nat.lt_or_ge d a.tmps.size with h | h
            · exact h
            · rw [Array.getD_eq_getD_getElem?, Array.getElem?_eq_none h] at hr
              simp [undef] at hr
          have : a.tmps[d]? = some (.bool c) := by
            rw [Array.getD_eq_getD_getElem?, Array.getElem?_eq_getElem hlt] at hr
            rw [Array.getElem?_eq_getElem hlt]
            simpa using hr
          simp [yielded, hq, hd, this]
        split at hb
        · rename_i e1
          rw [key true e1]
          cases hb
          cases b <;> rfl
        · rename_i e1
          rw [key false e1]
          cases hb
          cases want <;> rfl
        · rename_i cs e1
          cases hb
          rw [e1] at hr
          obtain ⟨cs', hx, _⟩ := hr
          have : yielded ops a.tmps j = none := by
            simp only [yielded, hq, hd, Option.bind_some]
            rcases ho : a.tmps[d]? with _ | y
            · rfl
            · rw [Array.getD_eq_getD_getElem?, ho] at hx
              simp only [Option.getD_some] at hx
              subst hx
              rfl
          rw [this]
          rfl
        · cases hb
      · cases hg
    · cases hg
/-- One operation that calls nothing. -/
def stepO (P : Program) (ops : Array Oper) (hint : Nat) (o : Oper) (ts : List AV) (H : AH) : Option (List AV × AH × Bool) :=
  match guardOf ops o with
  | none => none
  | some g => match goesOn ts g with
    | none => none
    | some false => some (putT ts o.dst (.tup []), H, true)
    | some true => match comp P o with
      | none => none
      | some c => match cstep (CX.ev ts) H (c.hint hint) with
        | some (v, H', ok) => some (putT ts o.dst v, H', ok)
        | none => none
def batch (P : Program) (ops : Array Oper) : List Nat → List Oper → List AV → AH → Option (List AV × AH × Bool)
  | _, [], ts, H => some (ts, H, true)
  | hs, o :: os, ts, H => match stepO P ops (hs.headD 0) o ts H with
    | some (ts1, H1, ok1) => match batch P ops hs.tail os ts1 H1 with
      | some (ts2, H2, ok2) => some (ts2, H2, ok1 && ok2)
      | none => none
    | none => none
/-- The rest of a region, in the text's order. -/
def Seg (P : Program) (B : Nat) (ops : Array Oper) (rest : List Oper) (ts : List AV) (H : AH) (Q : Post) : Prop :=
  ∀ μ w a, Rel μ ts a.tmps → Sat μ H w → B ≤ H.next → wpList P ops (Lift B Q μ H w a.defers) rest a w
theorem wpList_mono {P : Program} {ops : Array Oper} {Q Q' : Exit → Act → World → Prop} (h : ∀ e a w, Q e a w → Q' e a w) : ∀ (l : List Oper) (a : Act) (w : World), wpList P ops Q l a w → wpList P ops Q' l a w
  | [], a, w, q => h _ _ _ q
  | o :: l, a, w, q => by
    unfold wpList at q ⊢
    split at q
    · rename_i hw
      rw [if_pos hw]
      rcases q with q | ⟨q1, a0, w0, q2⟩
      · left
        unfold Oper.wp at q ⊢
        generalize (execOp a.eval o).run P w = r at *
        cases r with
        | ok n w' =>
          cases n <;> simp only [Oper.upon] at q ⊢ <;>
            first
              | exact wpList_mono h l _ _ q
              | exact Calls.mono q (fun e w'' he => by cases e <;> first | exact wpList_mono h l _ _ he | exact h _ _ _ he | (obtain ⟨a0, w0, q0⟩ := he; exact ⟨a0, w0, h _ _ _ q0⟩))
              | exact Rows.mono q (fun _ _ he => wpList_mono h l _ _ he)
        | halt x w' => cases x <;> simp only [Oper.upon] at q ⊢ <;> exact h _ _ _ q
      · exact .inr ⟨q1, a0, w0, h _ _ _ q2⟩
    · rename_i hw
      rw [if_neg hw]
      exact wpList_mono h l _ _ q
theorem Seg.nil {P : Program} {B : Nat} {ops : Array Oper} {ts : List AV} {H : AH} {Q : Post} (h : Q .normal ts H) : Seg P B ops [] ts H Q := fun μ w a r s hB => ⟨.normal, ts, H, μ, h, rfl, r, s, Fw.refl _ _ hB, rfl⟩
theorem Seg.weak {P : Program} {B : Nat} {ops : Array Oper} {l : List Oper} {ts ts' : List AV} {H H' : AH} {Q : Post} (hw : Weak B ts H ts' H') (h : Seg P B ops l ts' H' Q) : Seg P B ops l ts H Q := fun μ w a r s hB => by
  obtain ⟨μ', r', s', f⟩ := hw μ w a.tmps r s hB
  exact wpList_mono (fun e a1 w1 hq => Lift.trans f hq) l a w (h μ' w a r' s' f.nx)
theorem Seg.step {P : Program} {B : Nat} {ops : Array Oper} {o : Oper} {l : List Oper} {ts ts' : List AV} {H H' : AH} {Q : Post} (hint : Nat) (h : stepO P ops hint o ts H = some (ts', H', true)) (hn : Seg P B ops l ts' H' Q) : Seg P B ops (o :: l) ts H Q := fun μ w a r s hB => by
  unfold stepO at h
  split at h
  · cases h
  · rename_i g hg
    split at h
    · cases h
    · rename_i hb
      cases h
      refine wpList_step fun K hK => ?_
      rw [guard_ok r hg hb]
      simp only [Bool.false_eq_true, if_false]
      refine hK _ _ ?_
      have := hn μ w (a.put o.dst undef) (r.put o.dst (v := .tup []) ⟨#[], rfl, trivial⟩) s hB
      have hd : (a.put o.dst undef).defers = a.defers := by cases o.dst <;> rfl
      rwa [hd] at this
    · rename_i hb
      split at h
      · cases h
      · rename_i c hc
        split at h
        · rename_i v H1 ok hs
          cases h
          refine wpList_step fun K hK => ?_
          rw [guard_ok r hg hb]
          simp only [if_true]
          obtain ⟨rn, x, w', μ', h1, h2, h3, h4, h5⟩ := cstep_ok hc (fun y cy hy => opd_rel hy r) s hint hs
          have goal : K (a.put o.dst x) w' := by
            refine hK _ _ ?_
            have hd : (a.put o.dst x).defers = a.defers := by cases o.dst <;> rfl
            have f := h5.fw hB
            have := hn μ' w' (a.put o.dst x) ((r.ext (h5.ext s)).put o.dst h3) h4 f.nx
            rw [hd] at this
            exact wpList_mono (fun e a1 w1 hq => Lift.trans f hq) l _ _ this
          unfold Oper.wp
          rw [h1]
          rcases h2 with rfl | ⟨rfl, rfl⟩
          · exact goal
          · exact goal
        · cases h
theorem Seg.batch {P : Program} {B : Nat} {ops : Array Oper} {Q : Post} : ∀ (hs : List Nat) (l1 : List Oper) {l2 : List Oper} {ts ts' : List AV} {H H' : AH}, Go.Eng.batch P ops hs l1 ts H = some (ts', H', true) → Seg P B ops l2 ts' H' Q → Seg P B ops (l1 ++ l2) ts H Q
  | hs, [], l2, ts, ts', H, H', h, hn => by
    simp only [Go.Eng.batch, Option.some.injEq, Prod.mk.injEq] at h
    obtain ⟨rfl, rfl, _⟩ := h
    exact hn
  | hs, o :: l1, l2, ts, ts', H, H', h, hn => by
    simp only [Go.Eng.batch] at h
    split at h
    · rename_i ts1 H1 ok1 h1
      split at h
      · rename_i ts2 H2 ok2 h2
        simp only [Option.some.injEq, Prod.mk.injEq, Bool.and_eq_true] at h
        obtain ⟨rfl, rfl, rfl, rfl⟩ := h
        exact Seg.step (hs.headD 0) h1 (Seg.batch hs.tail l1 h2 hn)
      · cases h
    · cases h
theorem Tri.region {P : Program} {B : Nat} {id : Nat} {ops : Array Oper} {ts : List AV} {H : AH} {Q : Post} (h : Seg P B ops ops.toList ts H Q) : Tri P B (.region id ops false) ts H Q := fun μ w a r s hB => wp_region_list (h μ w a r s hB)
/-- A region that calls nothing. -/
theorem Tri.calm {P : Program} {B : Nat} {id : Nat} {ops : Array Oper} {ts ts' : List AV} {H H' : AH} {Q : Post} (hs : List Nat) (h : Go.Eng.batch P ops hs ops.toList ts H = some (ts', H', true)) (hq : Q .normal ts' H') : Tri P B (.region id ops false) ts H Q := by
  refine Tri.region ?_
  have := Seg.batch (P := P) (B := B) (ops := ops) (Q := Q) hs ops.toList (l2 := []) h (Seg.nil hq)
  rwa [List.append_nil] at this
end
end Go.Eng
