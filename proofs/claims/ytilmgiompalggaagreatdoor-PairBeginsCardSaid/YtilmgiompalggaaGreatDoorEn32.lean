/- The engine, fortieth part: functions that defer calls, in the quick evaluator. -/
import Derived.Test.YtilmgiompalggaaGreatDoorEn31
import Derived.Test.YtilmgiompalggaaGreatDoorEn20
namespace Go.Eng
open Go Go.RowKit
set_option linter.unusedVariables false
set_option linter.unusedSimpArgs false
noncomputable section
/-- One operation, then the rest. -/
theorem wpList_head {P : Program} {ops : Array Oper} {Q1 Q : Exit → Act → World → Prop} {o : Oper} {l : List Oper} {a : Act} {w : World} (h : wpList P ops Q1 [o] a w) (h1 : ∀ a w, Q1 .normal a w → wpList P ops Q l a w) (h2 : ∀ e a w, e ≠ .normal → Q1 e a w → Q e a w) : wpList P ops Q (o :: l) a w := by
  unfold wpList at h ⊢
  split at h
  · rename_i hw
    rw [if_pos hw]
    rcases h with h | ⟨q1, a0, w0, q2⟩
    · left
      unfold Oper.wp at h ⊢
      generalize (execOp a.eval o).run P w = r at *
      cases r with
      | ok n w' =>
        cases n <;> simp only [Oper.upon] at h ⊢ <;>
          first
            | exact h1 _ _ h
            | exact Calls.mono h (fun e w'' he => by cases e <;> first | exact h1 _ _ he | exact h2 _ _ _ (by simp) he | (obtain ⟨a0, w0, q0⟩ := he; exact ⟨a0, w0, h2 _ _ _ (by simp) q0⟩))
            | exact Rows.mono h (fun _ _ he => h1 _ _ he)
      | halt x w' => cases x <;> simp only [Oper.upon] at h ⊢ <;> first | exact h2 _ _ _ (by simp) h | exact h
    · exact .inr ⟨q1, a0, w0, h2 _ _ _ (by simp) q2⟩
  · rename_i hw
    rw [if_neg hw]
    exact h1 _ _ h
def headQ (P : Program) (B : Nat) (ops : Array Oper) (l : List Oper) (ds : List DC) (QD : PostD) : Post
  | .normal, ts, H => SegD P B ops l ts H ds QD
  | x, ts, H => QD x ts H ds
theorem SegD.head {P : Program} {B : Nat} {ops : Array Oper} {o : Oper} {l : List Oper} {ts : List AV} {H : AH} {ds : List DC} {QD : PostD} (h : Seg P H.next ops [o] ts H (headQ P B ops l ds QD)) : SegD P B ops (o :: l) ts H ds QD := fun μ w a r s hB hd => by
  refine wpList_head (h μ w a r s (Nat.le_refl _)) (fun a1 w1 hq => ?_) (fun e a1 w1 hne hq => ?_)
  · obtain ⟨x, ts1, H1, μ1, q, xr, r1, s1, f1, hdef⟩ := hq
    have hx : x = .normal := by
      cases x with
      | normal => rfl
      | panic v => obtain ⟨xv, hxv, _⟩ := xr; cases hxv
      | exit id => cases xr
      | goto id => cases xr
      | ret => cases xr
    subst hx
    have hd1 : DRel μ1 ds a1.defers := by rw [hdef]; exact hd.ext (VRel.keep s f1)
    exact wpList_mono (fun e a w hl => LiftD.trans (f1.low hB) hl) l a1 w1 (q μ1 w1 a1 r1 s1 (Nat.le_trans hB f1.nx) hd1)
  · obtain ⟨x, ts1, H1, μ1, q, xr, r1, s1, f1, hdef⟩ := hq
    have hd1 : DRel μ1 ds a1.defers := by rw [hdef]; exact hd.ext (VRel.keep s f1)
    refine ⟨x, ts1, H1, ds, μ1, ?_, xr, r1, s1, f1.low hB, hd1⟩
    cases x with
    | normal => simp only [XRel] at xr; exact absurd xr hne
    | _ => exact q
def nextD (P : Program) (B : Nat) (d : Code) (Q : PostD) : PostD
  | .normal, ts, H, ds => TriD P B d ts H ds Q
  | x, ts, H, ds => Q x ts H ds
theorem TriD.seq' {P : Program} {B : Nat} {c d : Code} {ts : List AV} {H : AH} {ds : List DC} {Q : PostD} (h : TriD P B c ts H ds (nextD P B d Q)) : TriD P B (.seq c d) ts H ds Q := fun μ w a r s hB hd => by
  refine wp_seq (wp_mono (h μ w a r s hB hd) (fun e a1 w1 hq => ?_))
  obtain ⟨x, ts1, H1, ds1, μ1, h1, h2, h3, h4, h5, h6⟩ := hq
  cases x with
  | normal =>
    simp only [XRel] at h2
    subst h2
    have := h1 μ1 w1 a1 h3 h4 h5.nx h6
    exact wp_mono this (fun e a w hl => LiftD.trans h5 hl)
  | exit id => simp only [XRel] at h2; subst h2; exact ⟨.exit id, ts1, H1, ds1, μ1, h1, rfl, h3, h4, h5, h6⟩
  | goto l => simp only [XRel] at h2; subst h2; exact ⟨.goto l, ts1, H1, ds1, μ1, h1, rfl, h3, h4, h5, h6⟩
  | ret => simp only [XRel] at h2; subst h2; exact ⟨.ret, ts1, H1, ds1, μ1, h1, rfl, h3, h4, h5, h6⟩
  | panic v => obtain ⟨xv, rfl, hv⟩ := h2; exact ⟨.panic v, ts1, H1, ds1, μ1, h1, ⟨xv, rfl, hv⟩, h3, h4, h5, h6⟩
theorem TriD.cond {P : Program} {B : Nat} {c : Operand} {x y : Code} {ts : List AV} {H : AH} {ds : List DC} {Q : PostD} (b : Bool) (hb : boolAt ts c = some b) (h1 : b = true → TriD P B x ts H ds Q) (h2 : b = false → TriD P B y ts H ds Q) : TriD P B (.cond c x y) ts H ds Q := fun μ w a r s hB hd => by
  refine wp_cond (boolAt_rel r hb) ?_
  cases b
  · exact h2 rfl μ w a r s hB hd
  · exact h1 rfl μ w a r s hB hd
def blockD (id : Nat) (Q : PostD) : PostD
  | .exit id', ts, H, ds => if id' = id then Q .normal ts H ds else Q (.exit id') ts H ds
  | x, ts, H, ds => Q x ts H ds
theorem TriD.block {P : Program} {B : Nat} {id : Nat} {c : Code} {ts : List AV} {H : AH} {ds : List DC} {Q : PostD} (h : TriD P B c ts H ds (blockD id Q)) : TriD P B (.block id c) ts H ds Q := fun μ w a r s hB hd => by
  refine wp_block (wp_mono (h μ w a r s hB hd) (fun e a1 w1 hq => ?_))
  obtain ⟨x, ts1, H1, ds1, μ1, h1, h2, h3⟩ := hq
  cases x with
  | normal => simp only [XRel] at h2; subst h2; exact ⟨.normal, ts1, H1, ds1, μ1, h1, rfl, h3⟩
  | exit id' =>
    simp only [XRel] at h2
    subst h2
    simp only [Exit.inBlock]
    simp only [blockD] at h1
    split
    · rename_i e
      rw [if_pos e] at h1
      exact ⟨.normal, ts1, H1, ds1, μ1, h1, rfl, h3⟩
    · rename_i e
      rw [if_neg e] at h1
      exact ⟨.exit id', ts1, H1, ds1, μ1, h1, rfl, h3⟩
  | goto l => simp only [XRel] at h2; subst h2; exact ⟨.goto l, ts1, H1, ds1, μ1, h1, rfl, h3⟩
  | ret => simp only [XRel] at h2; subst h2; exact ⟨.ret, ts1, H1, ds1, μ1, h1, rfl, h3⟩
  | panic v => obtain ⟨xv, rfl, hv⟩ := h2; exact ⟨.panic v, ts1, H1, ds1, μ1, h1, ⟨xv, rfl, hv⟩, h3⟩
def scopeD (Q : PostD) : PostD
  | .goto _, _, _, _ => False
  | x, ts, H, ds => Q x ts H ds
theorem TriD.scope {P : Program} {B : Nat} {c : Code} {ts : List AV} {H : AH} {ds : List DC} {Q : PostD} (h : TriD P B c ts H ds (scopeD Q)) : TriD P B (.scope c) ts H ds Q := fun μ w a r s hB hd => by
  refine wp_scope_straight (wp_mono (h μ w a r s hB hd) (fun e a1 w1 hq => ?_))
  obtain ⟨x, ts1, H1, ds1, μ1, h1, h2, h3⟩ := hq
  cases x with
  | normal => simp only [XRel] at h2; subst h2; exact ⟨.normal, ts1, H1, ds1, μ1, h1, rfl, h3⟩
  | exit id' => simp only [XRel] at h2; subst h2; exact ⟨.exit id', ts1, H1, ds1, μ1, h1, rfl, h3⟩
  | goto l => exact h1.elim
  | ret => simp only [XRel] at h2; subst h2; exact ⟨.ret, ts1, H1, ds1, μ1, h1, rfl, h3⟩
  | panic v => obtain ⟨xv, rfl, hv⟩ := h2; exact ⟨.panic v, ts1, H1, ds1, μ1, h1, ⟨xv, rfl, hv⟩, h3⟩
/-! ### the evaluator -/
abbrev KVD := AX → VT → AH → List DC → Prop
inductive CBD where
  | mk (e : CallQ → VT → AH → List DC → KVD → Prop)
def CBD.go (b : CBD) (call : CallQ) (s : VT) (H : AH) (ds : List DC) (Q : KVD) : Prop := @CBD.rec (fun _ => Prop) (fun e => e call s H ds Q) b
def plainD (b : CB) : CBD := ⟨fun call s H ds Q => b.go call s H fun x s H => Q x s H ds⟩
def noCBD : CBD := ⟨fun _ _ _ _ _ => False⟩
def isDefer (o : Oper) : Bool := match o.op with
  | .defer _ => true
  | _ => false
def panK (Q : KVD) (ds : List DC) : KV := fun x s H => @AX.casesOn (fun _ => Prop) x False (fun _ => False) (fun _ => False) False (fun v => Q (.panic v) s H ds)
def xOpD1 (P : Program) (n : Nat) (ops : Array Oper) (o : Oper) (ih : CBD) : CBD :=
  bif isDefer o then (match guardOf ops o with
    | some none => ⟨fun call s H ds Q => match deferOf (evG s.at) o with
      | some d => (putQ n o.dst).go (.tup []) s fun s => ih.go call s H (d :: ds) Q
      | none => False⟩
    | _ => noCBD) else ⟨fun call s H ds Q => (xOp P n ops o).go call s H (panK Q ds) fun s H => ih.go call s H ds Q⟩
def xOpsD (P : Program) (n : Nat) (ops : Array Oper) (l : List Oper) : CBD := @List.rec Oper (fun _ => CBD) ⟨fun _ s H ds Q => Q .normal s H ds⟩ (fun o _ ih => xOpD1 P n ops o ih) l
theorem xOpsD_ok {P : Program} {n : Nat} {ops : Array Oper} {B : Nat} {call : CallQ} (hc : CallQOK P call) {K : KVD} {Q : PostD} (hK : ∀ x ts' s' H' ds', SRV n ts' s' → K x s' H' ds' → Q x ts' H' ds') : ∀ (l : List Oper) {ts : List AV} {s : VT} {H : AH} {ds : List DC}, SRV n ts s → (xOpsD P n ops l).go call s H ds K → SegD P B ops l ts H ds Q
  | [], ts, s, H, ds, hs, h => SegD.nil (hK _ _ _ _ _ hs h)
  | o :: l, ts, s, H, ds, hs, h => by
    have h : (xOpD1 P n ops o (xOpsD P n ops l)).go call s H ds K := h
    unfold xOpD1 at h
    rcases hb : isDefer o with _ | _
    · rw [hb] at h
      obtain ⟨e, he, h1⟩ := OB.go_mk (show (xOp P n ops o).go call s H (panK K ds) fun s H => (xOpsD P n ops l).go call s H ds K from h)
      refine SegD.head (xOp_ok e he H.next [] call s H (panK K ds) _ _ ts hc hs h1 (fun x ts' s' H' q1 q2 => ?_) (fun ts' s' H' q1 q2 => Seg.nil ?_))
      · cases x with
        | panic v => exact hK _ _ _ _ _ q1 q2
        | _ => exact q2.elim
      · exact xOpsD_ok hc hK l q1 q2
    · rw [hb] at h
      simp only [cond_true] at h
      split at h
      · rename_i hg
        have h : (match deferOf (evG s.at) o with
          | some d => (putQ n o.dst).go (.tup []) s fun s => (xOpsD P n ops l).go call s H (d :: ds) K
          | none => False) := h
        split at h
        · rename_i d hd
          rw [← hs.ev] at hd
          obtain ⟨s', q1, q2⟩ := putQ_of hs h
          exact SegD.defer hg hd (xOpsD_ok hc hK l q1 q2)
        · exact h.elim
      · exact h.elim
def seqKD (b : CBD) (call : CallQ) (Q : KVD) : KVD := fun x s H ds => @AX.casesOn (fun _ => Prop) x (b.go call s H ds Q) (fun id => Q (.exit id) s H ds) (fun l => Q (.goto l) s H ds) (Q .ret s H ds) (fun v => Q (.panic v) s H ds)
def blkKD (id : Nat) (Q : KVD) : KVD := fun x s H ds => @AX.casesOn (fun _ => Prop) x (Q .normal s H ds) (fun i => @Bool.rec (fun _ => Prop) (Q (.exit i) s H ds) (Q .normal s H ds) (Nat.beq i id)) (fun l => Q (.goto l) s H ds) (Q .ret s H ds) (fun v => Q (.panic v) s H ds)
def scpKD (Q : KVD) : KVD := fun x s H ds => @AX.casesOn (fun _ => Prop) x (Q .normal s H ds) (fun i => Q (.exit i) s H ds) (fun l => False) (Q .ret s H ds) (fun v => Q (.panic v) s H ds)
def condQD (c : Operand) (a b : CBD) : CBD :=
  match c with
  | .tmp d => ⟨fun call s H ds Q => VT.getC (pathOf d) s fun v => asB v fun q => @Bool.rec (fun _ => Prop) (b.go call s H ds Q) (a.go call s H ds Q) q⟩
  | .const (.bool true) => a
  | .const (.bool false) => b
  | _ => noCBD
def xCD (P : Program) (n m : Nat) (c : Code) : CBD := @Code.rec (fun _ => CBD)
  (plainD (xC P n m .skip))
  (fun id ops d => bif ops.toList.any isDefer then @Bool.rec (fun _ => CBD) (xOpsD P n ops ops.toList) noCBD d else plainD (xC P n m (.region id ops d)))
  (fun _ _ a b => ⟨fun call s H ds Q => a.go call s H ds (seqKD b call Q)⟩)
  (fun o _ _ a b => condQD o a b)
  (fun id _ a => ⟨fun call s H ds Q => a.go call s H ds (blkKD id Q)⟩)
  (fun a _ => plainD (xC P n m (.loop a)))
  (fun _ _ _ _ _ _ => noCBD)
  (fun id => plainD (xC P n m (.exit id)))
  (fun _ a => ⟨fun call s H ds Q => a.go call s H ds (scpKD Q)⟩)
  (fun l => plainD (xC P n m (.label l)))
  (fun l => plainD (xC P n m (.goto l)))
  (plainD (xC P n m .ret))
  (fun _ => noCBD) c
theorem plainD_ok {P : Program} (hm : P.follows .mixedOrders = true) {n m B : Nat} {call : CallQ} (hc : CallQOK P call) (c : Code) {Q : PostD} {K : KVD} {ts : List AV} {s : VT} {H : AH} {ds : List DC} (hs : SRV n ts s) (h : (plainD (xC P n m c)).go call s H ds K) (hK : ∀ x ts' s' H' ds', SRV n ts' s' → K x s' H' ds' → Q x ts' H' ds') : TriD P B c ts H ds Q :=
  TriD.of (xC_ok hm hc c hs (show (xC P n m c).go call s H fun x s H => K x s H ds from h) (fun x ts' s' H' q1 q2 => hK _ _ _ _ _ q1 q2))
theorem xCD_ok {P : Program} (hm : P.follows .mixedOrders = true) {n m B : Nat} {call : CallQ} (hc : CallQOK P call) (c : Code) : ∀ {Q : PostD} {K : KVD} {ts : List AV} {s : VT} {H : AH} {ds : List DC}, SRV n ts s → (xCD P n m c).go call s H ds K → (∀ x ts' s' H' ds', SRV n ts' s' → K x s' H' ds' → Q x ts' H' ds') → TriD P B c ts H ds Q := by
  induction c with
  | skip => intro Q K ts s H ds hs h q; exact plainD_ok hm hc _ hs h q
  | label l => intro Q K ts s H ds hs h q; exact plainD_ok hm hc _ hs h q
  | ret => intro Q K ts s H ds hs h q; exact plainD_ok hm hc _ hs h q
  | exit id => intro Q K ts s H ds hs h q; exact plainD_ok hm hc _ hs h q
  | goto l => intro Q K ts s H ds hs h q; exact plainD_ok hm hc _ hs h q
  | loop a _ => intro Q K ts s H ds hs h q; exact plainD_ok hm hc _ hs h q
  | refuse w => intro Q K ts s H ds hs h q; exact h.elim
  | rangeFunc f ps a b _ _ => intro Q K ts s H ds hs h q; exact h.elim
  | region id ops d =>
    intro Q K ts s H ds hs h q
    have h : (bif ops.toList.any isDefer then @Bool.rec (fun _ => CBD) (xOpsD P n ops ops.toList) noCBD d else plainD (xC P n m (.region id ops d))).go call s H ds K := h
    rcases hb : ops.toList.any isDefer with _ | _
    · rw [hb] at h
      exact plainD_ok hm hc _ hs h q
    · rw [hb] at h
      cases d with
      | false => exact TriD.region (xOpsD_ok hc q _ hs h)
      | true => exact h.elim
  | seq a b iha ihb =>
    intro Q K ts s H ds hs h q
    have h1 : (xCD P n m a).go call s H ds (seqKD (xCD P n m b) call K) := h
    refine TriD.seq' (iha hs h1 (fun x ts1 s1 H1 ds1 hs1 h2 => ?_))
    cases x with
    | normal => exact ihb hs1 h2 q
    | _ => exact q _ _ _ _ _ hs1 h2
  | cond o a b iha ihb =>
    intro Q K ts s H ds hs h q
    have h : (condQD o (xCD P n m a) (xCD P n m b)).go call s H ds K := h
    cases o with
    | tmp d =>
      have h1 := VT.getC_of (p := pathOf d) (t := s) h
      obtain ⟨b0, e1, h2⟩ := asB_of h1
      have e1 : s.at d = .bool b0 := e1
      have hbt : boolAt ts (.tmp d) = some b0 := by
        rw [boolAtG_eq, hs.get]
        simp [boolAtG, e1]
      refine TriD.cond b0 hbt (fun e => ?_) (fun e => ?_)
      · subst e; exact iha hs h2 q
      · subst e; exact ihb hs h2 q
    | const v =>
      cases v with
      | bool b0 =>
        have hbt : boolAt ts (.const (.bool b0)) = some b0 := rfl
        refine TriD.cond b0 hbt (fun e => ?_) (fun e => ?_)
        · subst e; exact iha hs h q
        · subst e; exact ihb hs h q
      | _ => exact h.elim
    | _ => exact h.elim
  | block id a ih =>
    intro Q K ts s H ds hs h q
    have h1 : (xCD P n m a).go call s H ds (blkKD id K) := h
    refine TriD.block (ih hs h1 (fun x ts1 s1 H1 ds1 hs1 h2 => ?_))
    cases x with
    | exit i =>
      simp only [blockD]
      have h2 : @Bool.rec (fun _ => Prop) (K (.exit i) s1 H1 ds1) (K .normal s1 H1 ds1) (Nat.beq i id) := h2
      rcases hb : Nat.beq i id with _ | _
      · rw [hb] at h2
        rw [if_neg (fun e => by rw [e] at hb; simp at hb)]
        exact q _ _ _ _ _ hs1 h2
      · rw [hb] at h2
        rw [if_pos (Nat.eq_of_beq_eq_true hb)]
        exact q _ _ _ _ _ hs1 h2
    | _ => exact q _ _ _ _ _ hs1 h2
  | scope a ih =>
    intro Q K ts s H ds hs h q
    have h1 : (xCD P n m a).go call s H ds (scpKD K) := h
    refine TriD.scope (ih hs h1 (fun x ts1 s1 H1 ds1 hs1 h2 => ?_))
    cases x with
    | goto i => exact h2.elim
    | _ => exact q _ _ _ _ _ hs1 h2
end
end Go.Eng
/- The engine, forty-first part: functions that defer calls, as boxes. -/
namespace Go.Eng
open Go Go.RowKit
set_option linter.unusedVariables false
set_option linter.unusedSimpArgs false
noncomputable section
/-- A body's walk. -/
theorem body_wp {P : Program} {fn : Func} {c : Code} {args : List AV} {H : AH} {K : AOut → AH → Prop} (h : Tri P H.next c (args ++ List.replicate (fn.ntmps - args.length) .any) H (bodyK P fn K)) {μ : Mu} {w : World} {vs : Array Value} (hv : VRels μ args vs.toList) (s : Sat μ H w) :
    c.wp P (bodyPost P fn (fun e w' => ∃ out H' μ', K out H' ∧ OutRel μ' out e ∧ Sat μ' H' w' ∧ Fw H.next μ H μ' H' w w')) { tmps := vs ++ Array.replicate (fn.ntmps - vs.size) undef, defers := [] } w := by
  have hl : args.length = vs.size := by simpa using hv.len
  have hrel : Rel μ (args ++ List.replicate (fn.ntmps - args.length) .any) (vs ++ Array.replicate (fn.ntmps - vs.size) undef) := by
    unfold Rel
    rw [Array.toList_append, Array.toList_replicate, hl]
    exact hv.append (VRels.replicate (v := .any) (x := undef) (by simp [VRel]) _)
  refine wp_mono (h μ w { tmps := vs ++ Array.replicate (fn.ntmps - vs.size) undef, defers := [] } hrel s (Nat.le_refl _)) (fun e a1 w1 hq => ?_)
  obtain ⟨x, ts, H1, μ1, h1, h2, h3, h4, h5, h6⟩ := hq
  have fin : ∀ v, resOf P fn ts H1 = some (v, true) → K (.ret v) H1 → ∃ x, (results fn a1.tmps).run P w1 = .ok x w1 ∧ ∃ out H' μ', K out H' ∧ OutRel μ' out (.returned x) ∧ Sat μ' H' w1 ∧ Fw H.next μ H μ' H' w w1 := by
    intro v e1 e2
    obtain ⟨x, r1, r2⟩ := resOf_ok e1 h3 h4
    exact ⟨x, r1, _, _, μ1, e2, ⟨x, rfl, r2⟩, h4, h5⟩
  cases x with
  | normal =>
    simp only [XRel] at h2
    subst h2
    obtain ⟨v, e1, e2⟩ := h1
    obtain ⟨x, r1, r2⟩ := fin v e1 e2
    exact ⟨h6, x, r1, r2⟩
  | ret =>
    simp only [XRel] at h2
    subst h2
    obtain ⟨v, e1, e2⟩ := h1
    obtain ⟨x, r1, r2⟩ := fin v e1 e2
    exact ⟨h6, x, r1, r2⟩
  | panic v =>
    obtain ⟨xv, rfl, hv'⟩ := h2
    exact ⟨h6, _, _, μ1, h1, ⟨xv, rfl, hv'⟩, h4, h5⟩
  | exit id => exact h1.elim
  | goto l => exact h1.elim
/-- A plain function's body. -/
def plainB (P : Program) (m : Nat) (f : FuncId) : FB :=
  match P.funcs[f]? with
  | none => ⟨fun _ _ _ _ => False⟩
  | some fn => match fn.body with
    | none => ⟨fun _ _ _ _ => False⟩
    | some c => ⟨fun call as H K => chk (Nat.ble (lenC as) fn.ntmps) (fillC as 0 .e fun s => (xC P fn.ntmps m c).go call s H (finQ P fn.results.toList K))⟩
def callO (call : CallQ) : OrcK := fun f as H K => some (call f as H K)
theorem callO_ok {P : Program} {call : CallQ} (hc : CallQOK P call) : OrcKOK P (callO call) := fun f as H K p e q => by cases e; exact hc f as H K q
theorem plainB_ok {P : Program} (hm : P.follows .mixedOrders = true) {m : Nat} {f : FuncId} {call : CallQ} (hc : CallQOK P call) {as : List AV} {u : UM} {H : AH} {K : UM → AH → Prop} (h : (plainB P m f).go call as H (fun out H' => outC out (fun _ => K u H') (fun _ => False))) : RunsD P f as u H K := by
  unfold plainB at h
  split at h
  · exact h.elim
  · rename_i fn hf
    split at h
    · exact h.elim
    · rename_i c hb
      obtain ⟨h1, h2⟩ := chk_of h
      rw [lenC_eq] at h1
      obtain ⟨s, h3, h4⟩ := fillC_of (f := fun s => (xC P fn.ntmps m c).go call s H (finQ P fn.results.toList (fun out H' => outC out (fun _ => K u H') (fun _ => False)))) h2
      intro μ w vs md hv sa hu
      have tri := xC_ok hm hc (B := H.next) c (SRV.start (Nat.le_of_ble_eq_true h1) h4) h3 (finQ_ok (fn := fn))
      refine CallsD.mono (callsD_of_wp (u := md) hf hb (body_wp tri hv sa)) (fun e m' w' hq => ?_)
      obtain ⟨rfl, out, H', μ', k1, k2, k3, k4⟩ := hq
      cases out with
      | ret v =>
        obtain ⟨x, rfl, hx⟩ := k2
        exact ⟨⟨x, rfl⟩, u, H', μ', k1, hu.ext (VRel.keep sa k4), k3, k4⟩
      | panic v => exact k1.elim
/-- A deferred function: one that recovers in its first region, or a plain one. -/
def dkQ (P : Program) (m : Nat) (call : CallQ) : OrcD := fun f as u H K =>
  match vRD sp P (callO call) (drP sp P (callO call)) (fun _ => noLo) m f as u H K with
  | some p => some p
  | none => bif isGo P f then some ((plainB P m f).go call as H (fun out H' => outC out (fun _ => K u H') (fun _ => False))) else none
theorem dkQ_ok {P : Program} (hm : P.follows .mixedOrders = true) {m : Nat} {call : CallQ} (hc : CallQOK P call) : OrcDOK P (dkQ P m call) := by
  intro f as u H K p h hp
  unfold dkQ at h
  split at h
  · rename_i q hq
    cases h
    exact vRD_ok (callO_ok hc) (drP_ok hm _ (callO_ok hc)) (fun _ => noLo_ok P) m f as u H K _ hq hp
  · rcases hg : isGo P f with _ | _
    · rw [hg] at h; cases h
    · rw [hg] at h
      cases h
      exact ⟨rfl, plainB_ok hm hc hp⟩
def frOut (K : AOut → AH → Prop) : AOut → AH → Prop := fun out H => outC out (fun v => frV v fun v => frH H fun H => K (.ret v) H) (fun v => frH H fun H => K (.panic v) H)
theorem frOut_of {K : AOut → AH → Prop} {out : AOut} {H : AH} (h : frOut K out H) : K out H := by
  cases out with
  | ret v => exact frH_of (f := fun H => K (.ret v) H) (frV_of (f := fun v => frH H fun H => K (.ret v) H) h)
  | panic v => exact frH_of (f := fun H => K (.panic v) H) h
def slotsL (n : Nat) (s : VT) : SL := SL.lay ((List.range n).map s.at) 0 (SL.mk 10)
theorem slotsL_ok {n : Nat} {ts : List AV} {s : VT} (hs : SRV n ts s) (hn : n < 1023) : SR n ts (slotsL n s) := by
  unfold slotsL
  rw [hs.list]
  have := SR.start (as := ts) (n := n) (by rw [hs.len]; exact Nat.le_refl _) hn
  rwa [show n - ts.length = 0 by rw [hs.len]; omega, List.replicate_zero, List.append_nil] at this
/-- How a function that defers calls ends. -/
def finKD (P : Program) (m : Nat) (call : CallQ) (fn : Func) (K : AOut → AH → Prop) : KVD := fun x s H ds => @AX.casesOn (fun _ => Prop) x (finD sp P fn (dkQ P m call) (frOut K) ds .ret (slotsL fn.ntmps s) H) (fun _ => False) (fun _ => False) (finD sp P fn (dkQ P m call) (frOut K) ds .ret (slotsL fn.ntmps s) H) (fun v => finD sp P fn (dkQ P m call) (frOut K) ds (.pan v false) (slotsL fn.ntmps s) H)
/-- A function that defers calls. -/
def defB (P : Program) (m : Nat) (f : FuncId) : FB :=
  match P.funcs[f]? with
  | none => ⟨fun _ _ _ _ => False⟩
  | some fn => match fn.body with
    | none => ⟨fun _ _ _ _ => False⟩
    | some c => bif Nat.blt fn.ntmps 1023 then ⟨fun call as H K => chk (Nat.ble (lenC as) fn.ntmps) (fillC as 0 .e fun s => (xCD P fn.ntmps m c).go call s H [] (finKD P m call fn K))⟩ else ⟨fun _ _ _ _ => False⟩
theorem defB_ok {P : Program} (hm : P.follows .mixedOrders = true) (m : Nat) (f : FuncId) : FBOK P f (defB P m f) := by
  intro call as H K hc h
  unfold defB at h
  split at h
  · exact h.elim
  · rename_i fn hf
    split at h
    · exact h.elim
    · rename_i c hb
      rcases hlt : Nat.blt fn.ntmps 1023 with _ | _
      · rw [hlt] at h; exact h.elim
      · rw [hlt] at h
        have hn : fn.ntmps < 1023 := Nat.le_of_ble_eq_true hlt
        obtain ⟨h1, h2⟩ := chk_of h
        rw [lenC_eq] at h1
        obtain ⟨s, h3, h4⟩ := fillC_of (f := fun s => (xCD P fn.ntmps m c).go call s H [] (finKD P m call fn K)) h2
        have key := xCD_ok hm hc (B := H.next) c (SRV.start (Nat.le_of_ble_eq_true h1) h4) h3 (Q := fun x ts H' ds => ∃ s, SRV fn.ntmps ts s ∧ finKD P m call fn K x s H' ds) (fun x ts' s' H' ds' q1 q2 => ⟨s', q1, q2⟩)
        intro μ w vs hv s
        have hl : as.length = vs.size := by simpa using hv.len
        refine calls_of_wp_defers hf hb ?_
        have hrel : Rel μ (as ++ List.replicate (fn.ntmps - as.length) .any) (vs ++ Array.replicate (fn.ntmps - vs.size) undef) := by
          unfold Rel
          rw [Array.toList_append, Array.toList_replicate, hl]
          exact hv.append (VRels.replicate (v := .any) (x := undef) (by simp [VRel]) _)
        refine wp_mono (key μ w { tmps := vs ++ Array.replicate (fn.ntmps - vs.size) undef, defers := [] } hrel s (Nat.le_refl _) trivial) (fun e a1 w1 hq => ?_)
        obtain ⟨x, ts, H1, ds, μ1, ⟨s1, hs1, h1⟩, h2, h3, h4, h5, h6⟩ := hq
        have mono : ∀ (xs : List Deferred) (m : FrameMode) (w2 : World) {R R' : Ending → World → Prop}, (∀ e w, R e w → R' e w) → Leaves P fn a1.tmps R xs m w2 → Leaves P fn a1.tmps R' xs m w2 := by
          intro xs
          induction xs with
          | nil =>
            intro m w2 R R' hr hl
            cases m with
            | run => exact hl
            | returning => obtain ⟨v, q1, q2⟩ := hl; exact ⟨v, q1, hr _ _ q2⟩
            | panicking c => exact hr _ _ hl
          | cons x xs ih =>
            intro m w2 R R' hr hl
            obtain ⟨q1, fv, cap, f, args, q2, q3, q4⟩ := hl
            refine ⟨q1, fv, cap, f, args, q2, q3, CallsD.mono q4 (fun e u w he => ?_)⟩
            cases e with
            | returned v => exact ih _ _ hr he
            | panicked c => exact ih _ _ hr he
            | outgrown => exact hr _ _ he
        have fin : ∀ u md, URel μ1 u md → finD sp P fn (dkQ P m call) (frOut K) ds u (slotsL fn.ntmps s1) H1 → Leaves P fn a1.tmps (fun e w' => ∃ out H' μ', K out H' ∧ OutRel μ' out e ∧ Sat μ' H' w' ∧ Fw H.next μ H μ' H' w w') a1.defers md w1 := by
          intro u md hu hq
          refine mono _ _ _ (fun e w2 hq => ?_) (finD_ok (dkQ_ok hm hc) ds (slotsL_ok hs1 hn) h3 h4 hu h6 hq)
          obtain ⟨out, H2, μ2, j1, j2, j3, j4⟩ := hq
          exact ⟨out, H2, μ2, frOut_of j1, j2, j3, h5.trans (j4.low h5.nx)⟩
        cases x with
        | normal => simp only [XRel] at h2; subst h2; exact fin .ret .returning rfl h1
        | ret => simp only [XRel] at h2; subst h2; exact fin .ret .returning rfl h1
        | panic v => obtain ⟨xv, rfl, hv'⟩ := h2; exact fin (.pan v false) _ ⟨xv, rfl, hv'⟩ h1
        | exit id => exact h1.elim
        | goto l => exact h1.elim
end
end Go.Eng
