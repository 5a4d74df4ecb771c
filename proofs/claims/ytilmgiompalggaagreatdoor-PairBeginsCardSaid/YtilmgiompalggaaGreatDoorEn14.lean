/- The engine, seventeenth part: a run that the kernel reckons: regions in the text's order, code, functions. -/
import Derived.Test.YtilmgiompalggaaGreatDoorEn13
namespace Go.Eng
open Go Go.RowKit
set_option linter.unusedVariables false
set_option linter.unusedSimpArgs false
noncomputable section
/-- What calls come to. -/
abbrev Orc := FuncId → List AV → AH → Option (AOut × AH)
def OrcOK (P : Program) (c : Orc) : Prop := ∀ f as H out H', c f as H = some (out, H') → Runs P f as H out H'
abbrev Res := Option (AX × List AV × AH)
def only (x : AX) (ts : List AV) (H : AH) : Post := fun x1 t1 h1 => x1 = x ∧ t1 = ts ∧ h1 = H
/-- At most n rounds of a loop. -/
def TriL (P : Program) (B : Nat) (c : Code) (n : Nat) (ts : List AV) (H : AH) (Q : Post) : Prop :=
  ∀ μ w a, Rel μ ts a.tmps → Sat μ H w → B ≤ H.next → Code.rounds P c (Lift B Q μ H w a.defers) n a w
theorem rounds_mono {P : Program} {c : Code} {Q Q' : Exit → Act → World → Prop} (h : ∀ e a w, Q e a w → Q' e a w) : ∀ (n : Nat) {a : Act} {w : World}, Code.rounds P c Q n a w → Code.rounds P c Q' n a w
  | 0, _, _, q => q.elim
  | n + 1, a, w, q => by
    rw [rounds_succ] at q ⊢
    refine wp_mono q (fun e a1 w1 hq => ?_)
    cases e <;> first | exact rounds_mono h n hq | exact h _ _ _ hq
theorem TriL.loop {P : Program} {B : Nat} {c : Code} {n : Nat} {ts : List AV} {H : AH} {Q : Post} (h : TriL P B c n ts H Q) : Tri P B (.loop c) ts H Q := fun μ w a r s hB => wp_loop_rounds n (h μ w a r s hB)
theorem TriL.round {P : Program} {B : Nat} {c : Code} {n : Nat} {ts : List AV} {H : AH} {Q : Post} (h : Tri P B c ts H (thenX (fun ts H => TriL P B c n ts H Q) Q)) : TriL P B c (n + 1) ts H Q := fun μ w a r s hB => by
  rw [rounds_succ]
  refine wp_mono (h μ w a r s hB) (fun e a1 w1 hq => ?_)
  obtain ⟨x, ts1, H1, μ1, g1, g2, g3, g4, g5, g6⟩ := hq
  cases x with
  | normal =>
    simp only [XRel] at g2
    subst g2
    have h2 := g1 μ1 w1 a1 g3 g4 g5.nx
    rw [g6] at h2
    exact rounds_mono (fun e a w hl => Lift.trans g5 hl) n h2
  | exit id => simp only [XRel] at g2; subst g2; exact ⟨.exit id, ts1, H1, μ1, g1, rfl, g3, g4, g5, g6⟩
  | goto l => simp only [XRel] at g2; subst g2; exact ⟨.goto l, ts1, H1, μ1, g1, rfl, g3, g4, g5, g6⟩
  | ret => simp only [XRel] at g2; subst g2; exact ⟨.ret, ts1, H1, μ1, g1, rfl, g3, g4, g5, g6⟩
  | panic v => obtain ⟨xv, rfl, hv⟩ := g2; exact ⟨.panic v, ts1, H1, μ1, g1, ⟨xv, rfl, hv⟩, g3, g4, g5, g6⟩
/-- A call in this very heap. -/
theorem Seg.run {P : Program} {B : Nat} {ops : Array Oper} {o : Oper} {l : List Oper} {ts : List AV} {H H1 : AH} {Q : Post} {f : FuncId} {as : List AV} {out : AOut} {g : Option (Nat × Bool)} (hgd : guardOf ops o = some g) (hgo : goesOn ts g = some true)
    (hc : callOf ts o = some (f, as)) (hf : isGo P f = true) (run : Runs P f as H out H1)
    (hn : match out with
      | .ret v => Seg P B ops l (putT ts o.dst v) H1 Q
      | .panic v => Q (.panic v) ts H1) : Seg P B ops (o :: l) ts H Q := fun μ w a r s hB => by
  refine wpList_step fun K hK => ?_
  rw [guard_ok r hgd hgo]
  simp only [if_true]
  obtain ⟨vs, h1, h2⟩ := call_run r hc hf w
  unfold Oper.wp
  rw [h2, Oper.upon_enter]
  refine Calls.mono (run μ w vs h1 s) (fun e w' hq => ?_)
  obtain ⟨μ1, k1, q3, f0⟩ := hq
  have f1 : Fw B μ H μ1 H1 w w' := { f0 with le := fun b hb => f0.le b (Nat.lt_of_lt_of_le hb hB), nx := Nat.le_trans hB f0.nx }
  have q1 : ∀ b l, μ b = some l → μ1 b = some l := fun b l hb => by
    have : b < H.next := by
      rcases Nat.lt_or_ge b H.next with h | h
      · exact h
      · rw [s.fresh b h] at hb; cases hb
    rw [f0.le b this]; exact hb
  cases out with
  | ret v =>
    obtain ⟨x, rfl, hx⟩ := k1
    simp only [] at hn ⊢
    refine hK _ _ ?_
    have hd : (a.put o.dst x).defers = a.defers := by cases o.dst <;> rfl
    have := hn μ1 w' (a.put o.dst x) ((r.ext q1).put o.dst hx) q3 f1.nx
    rw [hd] at this
    exact wpList_mono (fun e a1 w1 hq => Lift.trans f1 hq) l _ _ this
  | panic v =>
    obtain ⟨x, rfl, hx⟩ := k1
    simp only [] at hn ⊢
    exact ⟨.panic _, ts, H1, μ1, hn, ⟨x, rfl, hx⟩, r.ext q1, q3, f1, rfl⟩
/-- A region in the text's order. -/
def evOps (P : Program) (call : Orc) (ops : Array Oper) : List Oper → List AV → AH → Res
  | [], ts, H => some (.normal, ts, H)
  | o :: l, ts, H => match guardOf ops o with
    | none => none
    | some g => match goesOn ts g with
      | none => none
      | some false => evOps P call ops l (putT ts o.dst (.tup [])) H
      | some true => match comp P o with
        | some c => match cstep (CX.ev ts) H c with
          | some (v, H', true) => evOps P call ops l (putT ts o.dst v) H'
          | _ => none
        | none => match callOf ts o with
          | some (f, as) => bif isGo P f then match call f as H with
            | some (.ret v, H') => evOps P call ops l (putT ts o.dst v) H'
            | some (.panic v, H') => some (.panic v, ts, H')
            | none => none else none
          | none => none
theorem COp.hint0 : ∀ c : COp, ∃ n, c.hint n = c
  | .app n .. => ⟨n, rfl⟩
  | .cop n .. => ⟨n, rfl⟩
  | .mv _ | .pick .. | .box _ | .alloc _ | .build .. | .buildS .. | .load .. | .store .. | .nilc _ | .bin .. | .eq .. | .un .. | .conv .. | .s2a .. | .mki .. | .mkf .. | .mks .. | .sli .. | .sla .. | .fa .. | .fld .. | .ias .. | .iaa .. | .ixa .. | .ixs .. | .ext .. | .lens _ | .lenb _ | .lenn _ | .mm .. | .pl _ | .mo _ | .xo _ => ⟨0, rfl⟩
theorem evOps_ok {P : Program} {call : Orc} (hc : OrcOK P call) {B : Nat} {ops : Array Oper} {Q : Post} : ∀ (l : List Oper) {ts ts' : List AV} {H H' : AH} {x : AX}, evOps P call ops l ts H = some (x, ts', H') → Q x ts' H' → Seg P B ops l ts H Q
  | [], ts, ts', H, H', x, h, q => by
    simp only [evOps, Option.some.injEq, Prod.mk.injEq] at h
    obtain ⟨rfl, rfl, rfl⟩ := h
    exact Seg.nil q
  | o :: l, ts, ts', H, H', x, h, q => by
    unfold evOps at h
    split at h
    · cases h
    · rename_i g hg
      split at h
      · cases h
      · rename_i hb
        refine Seg.step (hint := 0) (ts' := putT ts o.dst (.tup [])) (H' := H) ?_ (evOps_ok hc l h q)
        simp [stepO, hg, hb]
      · rename_i hb
        split at h
        · rename_i c hcm
          split at h
          · rename_i v H1 hs
            obtain ⟨n, hn⟩ := COp.hint0 c
            refine Seg.step (hint := n) (ts' := putT ts o.dst v) (H' := H1) ?_ (evOps_ok hc l h q)
            simp [stepO, hg, hb, hcm, hn, hs]
          · cases h
        · split at h
          · rename_i f as hf
            rcases hgo : isGo P f with _ | _
            · rw [hgo] at h; cases h
            · rw [hgo] at h
              simp only [cond_true] at h
              split at h
              · rename_i v H1 hr
                exact Seg.run hg hb hf hgo (hc f as H _ _ hr) (evOps_ok hc l h q)
              · rename_i v H1 hr
                simp only [Option.some.injEq, Prod.mk.injEq] at h
                obtain ⟨rfl, rfl, rfl⟩ := h
                exact Seg.run hg hb hf hgo (hc f as H _ _ hr) q
              · cases h
          · cases h
/-- Code, at most so many levels. -/
def evC (P : Program) (call : Orc) : Nat → Code → List AV → AH → Res
  | 0, _, _, _ => none
  | n + 1, c, ts, H => match c with
    | .skip | .label _ => some (.normal, ts, H)
    | .ret => some (.ret, ts, H)
    | .exit id => some (.exit id, ts, H)
    | .goto l => some (.goto l, ts, H)
    | .seq a b => match evC P call n a ts H with
      | some (.normal, ts', H') => evC P call n b ts' H'
      | r => r
    | .cond c a b => match boolAt ts c with
      | some true => evC P call n a ts H
      | some false => evC P call n b ts H
      | none => none
    | .block id c => match evC P call n c ts H with
      | some (.exit id', ts', H') => bif Nat.beq id' id then some (.normal, ts', H') else some (.exit id', ts', H')
      | r => r
    | .scope c => match evC P call n c ts H with
      | some (.goto _, _, _) => none
      | r => r
    | .loop c => match evC P call n c ts H with
      | some (.normal, ts', H') => evC P call n (.loop c) ts' H'
      | r => r
    | .region _ ops false => evOps P call ops ops.toList ts H
    | _ => none
theorem evC_ok {P : Program} {call : Orc} (hc : OrcOK P call) {B : Nat} : ∀ (n : Nat), (∀ (c : Code) {Q : Post} {ts ts' : List AV} {H H' : AH} {x : AX}, evC P call n c ts H = some (x, ts', H') → Q x ts' H' → Tri P B c ts H Q) ∧
    (∀ (c : Code) {Q : Post} {ts ts' : List AV} {H H' : AH} {x : AX}, evC P call n (.loop c) ts H = some (x, ts', H') → Q x ts' H' → TriL P B c n ts H Q)
  | 0 => ⟨fun c Q ts ts' H H' x h q => by simp [evC] at h, fun c Q ts ts' H H' x h q => by simp [evC] at h⟩
  | n + 1 => by
    obtain ⟨ih, il⟩ := evC_ok hc (B := B) n
    have lp : ∀ (c : Code) {Q : Post} {ts ts' : List AV} {H H' : AH} {x : AX}, evC P call (n + 1) (.loop c) ts H = some (x, ts', H') → Q x ts' H' → TriL P B c (n + 1) ts H Q := by
      intro c Q ts ts' H H' x h q
      simp only [evC] at h
      refine TriL.round ?_
      split at h
      · rename_i ts1 H1 h1
        exact ih c h1 (il c h q)
      · rename_i hne
        refine ih c h ?_
        cases x with
        | normal => exact (hne _ _ h).elim
        | _ => exact q
    refine ⟨?_, lp⟩
    intro c Q ts ts' H H' x h q
    cases c with
    | skip => simp only [evC, Option.some.injEq, Prod.mk.injEq] at h; obtain ⟨rfl, rfl, rfl⟩ := h; exact Tri.skip q
    | label l => simp only [evC, Option.some.injEq, Prod.mk.injEq] at h; obtain ⟨rfl, rfl, rfl⟩ := h; exact Tri.label q
    | ret => simp only [evC, Option.some.injEq, Prod.mk.injEq] at h; obtain ⟨rfl, rfl, rfl⟩ := h; exact Tri.ret q
    | exit id => simp only [evC, Option.some.injEq, Prod.mk.injEq] at h; obtain ⟨rfl, rfl, rfl⟩ := h; exact Tri.exit q
    | goto l => simp only [evC, Option.some.injEq, Prod.mk.injEq] at h; obtain ⟨rfl, rfl, rfl⟩ := h; exact Tri.goto q
    | seq a b =>
      simp only [evC] at h
      refine Tri.seq ?_
      split at h
      · rename_i ts1 H1 h1
        exact ih a h1 (ih b h q)
      · rename_i hne
        refine ih a h ?_
        cases x with
        | normal => exact (hne _ _ h).elim
        | _ => exact q
    | cond o a b =>
      simp only [evC] at h
      split at h
      · rename_i hb
        exact Tri.cond true hb (fun _ => ih a h q) (fun e => by cases e)
      · rename_i hb
        exact Tri.cond false hb (fun e => by cases e) (fun _ => ih b h q)
      · cases h
    | block id c =>
      simp only [evC] at h
      refine Tri.block ?_
      split at h
      · rename_i id' ts1 H1 h1
        refine ih c h1 ?_
        rcases hb : Nat.beq id' id with _ | _
        · rw [hb] at h
          simp only [cond_false, Option.some.injEq, Prod.mk.injEq] at h
          obtain ⟨rfl, rfl, rfl⟩ := h
          simp only [blockX]
          rw [if_neg (fun e => by rw [e] at hb; simp at hb)]
          exact q
        · rw [hb] at h
          simp only [cond_true, Option.some.injEq, Prod.mk.injEq] at h
          obtain ⟨rfl, rfl, rfl⟩ := h
          simp only [blockX]
          rw [if_pos (Nat.eq_of_beq_eq_true hb)]
          exact q
      · rename_i hne
        refine ih c h ?_
        cases x with
        | exit i => exact (hne _ _ _ h).elim
        | _ => exact q
    | scope c =>
      simp only [evC] at h
      refine Tri.scope ?_
      split at h
      · cases h
      · rename_i hne
        refine ih c h ?_
        cases x with
        | goto i => exact (hne _ _ _ h).elim
        | _ => exact q
    | loop c => exact TriL.loop (lp c h q)
    | region id ops d =>
      cases d with
      | false =>
        simp only [evC] at h
        exact Tri.region (evOps_ok hc _ h q)
      | true => simp [evC] at h
    | _ => simp [evC] at h
/-- A function's call; m levels of code, n levels of calls. -/
def evF (P : Program) (m : Nat) : Nat → Orc
  | 0, _, _, _ => none
  | n + 1, f, as, H => match P.funcs[f]? with
    | none => none
    | some fn => match fn.body with
      | none => none
      | some c => match evC P (evF P m n) m c (as ++ List.replicate (fn.ntmps - as.length) .any) H with
        | some (.normal, ts, H') | some (.ret, ts, H') => match resOf P fn ts H' with
          | some (v, true) => some (.ret v, H')
          | _ => none
        | some (.panic v, _, H') => some (.panic v, H')
        | _ => none
theorem evF_ok (P : Program) (m : Nat) : ∀ n, OrcOK P (evF P m n)
  | 0, f, as, H, out, H', h => by simp [evF] at h
  | n + 1, f, as, H, out, H', h => by
    simp only [evF] at h
    split at h
    · cases h
    · rename_i fn hf
      split at h
      · cases h
      · rename_i c hb
        refine Runs.body hf hb ?_
        split at h
        · rename_i ts H1 h1
          split at h
          · rename_i v hv
            simp only [Option.some.injEq, Prod.mk.injEq] at h
            obtain ⟨rfl, rfl⟩ := h
            exact (evC_ok (evF_ok P m n) m).1 c h1 ⟨v, v, hv, rfl, Weak.refl _ _ _⟩
          · cases h
        · rename_i ts H1 h1
          split at h
          · rename_i v hv
            simp only [Option.some.injEq, Prod.mk.injEq] at h
            obtain ⟨rfl, rfl⟩ := h
            exact (evC_ok (evF_ok P m n) m).1 c h1 ⟨v, v, hv, rfl, Weak.refl _ _ _⟩
          · cases h
        · rename_i v ts H1 h1
          simp only [Option.some.injEq, Prod.mk.injEq] at h
          obtain ⟨rfl, rfl⟩ := h
          exact (evC_ok (evF_ok P m n) m).1 c h1 ⟨v, rfl, Weak.refl _ _ _⟩
        · cases h
theorem runs_by {P : Program} (m n : Nat) {f : FuncId} {as : List AV} {H H' : AH} {out : AOut} (h : evF P m n f as H = some (out, H')) : Runs P f as H out H' := evF_ok P m n f as H out H' h
end
end Go.Eng
