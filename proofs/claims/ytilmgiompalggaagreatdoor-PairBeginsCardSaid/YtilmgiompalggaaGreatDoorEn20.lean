/- The engine, twenty-sixth part: deferred calls, and recover. -/
import Derived.Test.YtilmgiompalggaaGreatDoorEn19
import Derived.Recover
namespace Go.Eng
open Go Go.RowKit
set_option linter.unusedVariables false
set_option linter.unusedSimpArgs false
noncomputable section
/-- A deferred call: the function, its arguments and what it captured. -/
abbrev DC := FuncId × List AV
def DRel1 (μ : Mu) (d : DC) (x : Deferred) : Prop := ∃ cap args, x = ⟨.fn (.func d.1) cap, args⟩ ∧ VRels μ d.2 (args ++ cap).toList
def DRel (μ : Mu) : List DC → List Deferred → Prop
  | [], [] => True
  | d :: ds, x :: xs => DRel1 μ d x ∧ DRel μ ds xs
  | _, _ => False
theorem VRel.keep {μ μ' : Mu} {H : AH} {w w' : World} {H' : AH} (s : Sat μ H w) (f : Fw H.next μ H μ' H' w w') : MuLe μ μ' := fun b l h => by rw [f.le b (s.lt h)]; exact h
theorem DRel.ext {μ μ' : Mu} (h : MuLe μ μ') : ∀ {ds : List DC} {xs : List Deferred}, DRel μ ds xs → DRel μ' ds xs
  | [], [], q => q
  | d :: ds, x :: xs, q => ⟨by obtain ⟨⟨cap, args, e, hv⟩, _⟩ := q; exact ⟨cap, args, e, VRels.ext h _ _ hv⟩, DRel.ext h q.2⟩
  | [], _ :: _, q => q.elim
  | _ :: _, [], q => q.elim
abbrev PostD := AX → List AV → AH → List DC → Prop
def LiftD (B : Nat) (Q : PostD) (μ0 : Mu) (H0 : AH) (w0 : World) : Exit → Act → World → Prop := fun e a w =>
  ∃ x ts H ds μ, Q x ts H ds ∧ XRel μ x e ∧ Rel μ ts a.tmps ∧ Sat μ H w ∧ Fw B μ0 H0 μ H w0 w ∧ DRel μ ds a.defers
theorem LiftD.trans {B : Nat} {Q : PostD} {μ0 μ1 : Mu} {H0 H1 : AH} {w0 w1 : World} {e : Exit} {a : Act} {w : World} (f : Fw B μ0 H0 μ1 H1 w0 w1) (h : LiftD B Q μ1 H1 w1 e a w) : LiftD B Q μ0 H0 w0 e a w := by
  obtain ⟨x, ts, H, ds, μ, h1, h2, h3, h4, h5, h6⟩ := h
  exact ⟨x, ts, H, ds, μ, h1, h2, h3, h4, f.trans h5, h6⟩
/-- Code that may defer calls. -/
def TriD (P : Program) (B : Nat) (c : Code) (ts : List AV) (H : AH) (ds : List DC) (Q : PostD) : Prop :=
  ∀ μ w a, Rel μ ts a.tmps → Sat μ H w → B ≤ H.next → DRel μ ds a.defers → c.wp P (LiftD B Q μ H w) a w
def SegD (P : Program) (B : Nat) (ops : Array Oper) (rest : List Oper) (ts : List AV) (H : AH) (ds : List DC) (Q : PostD) : Prop :=
  ∀ μ w a, Rel μ ts a.tmps → Sat μ H w → B ≤ H.next → DRel μ ds a.defers → wpList P ops (LiftD B Q μ H w) rest a w
theorem Fw.low {B B' : Nat} {μ μ' : Mu} {H H' : AH} {w w' : World} (h : B ≤ B') (f : Fw B' μ H μ' H' w w') : Fw B μ H μ' H' w w' :=
  ⟨fun b hb => f.le b (Nat.lt_of_lt_of_le hb h), Nat.le_trans h f.nx, f.os, f.tape, f.output, f.size, f.same, f.from_⟩
/-- The rest, that defers nothing. -/
theorem TriD.of {P : Program} {B : Nat} {c : Code} {ts : List AV} {H : AH} {ds : List DC} {Q : PostD} (h : Tri P H.next c ts H (fun x ts H' => Q x ts H' ds)) : TriD P B c ts H ds Q := fun μ w a r s hB hd => by
  refine wp_mono (h μ w a r s (Nat.le_refl _)) (fun e a1 w1 hq => ?_)
  obtain ⟨x, ts1, H1, μ1, h1, h2, h3, h4, h5, h6⟩ := hq
  refine ⟨x, ts1, H1, ds, μ1, h1, h2, h3, h4, h5.low hB, ?_⟩
  rw [h6]
  exact hd.ext (VRel.keep s h5)
theorem TriD.seq {P : Program} {B : Nat} {c d : Code} {ts : List AV} {H : AH} {ds : List DC} {Q : PostD} (h : TriD P B c ts H ds (fun x ts H ds => match x with
    | .normal => TriD P B d ts H ds Q
    | _ => False)) : TriD P B (.seq c d) ts H ds Q := fun μ w a r s hB hd => by
  refine wp_seq (wp_mono (h μ w a r s hB hd) (fun e a1 w1 hq => ?_))
  obtain ⟨x, ts1, H1, ds1, μ1, h1, h2, h3, h4, h5, h6⟩ := hq
  cases x with
  | normal =>
    simp only [XRel] at h2
    subst h2
    have := h1 μ1 w1 a1 h3 h4 h5.nx h6
    exact wp_mono this (fun e a w hl => LiftD.trans h5 hl)
  | _ => exact h1.elim
theorem TriD.region {P : Program} {B : Nat} {id : Nat} {ops : Array Oper} {ts : List AV} {H : AH} {ds : List DC} {Q : PostD} (h : SegD P B ops ops.toList ts H ds Q) : TriD P B (.region id ops false) ts H ds Q := fun μ w a r s hB hd => wp_region_list (h μ w a r s hB hd)
theorem SegD.nil {P : Program} {B : Nat} {ops : Array Oper} {ts : List AV} {H : AH} {ds : List DC} {Q : PostD} (h : Q .normal ts H ds) : SegD P B ops [] ts H ds Q := fun μ w a r s hB hd => ⟨.normal, ts, H, ds, μ, h, rfl, r, s, Fw.refl _ _ hB, hd⟩
theorem SegD.step {P : Program} {B : Nat} {ops : Array Oper} {o : Oper} {l : List Oper} {ts : List AV} {H H' : AH} {ds : List DC} {Q : PostD} {c : COp} {v : AV} (hint : Nat) (hg : guardOf ops o = some none) (hc : comp P o = some c) (hs : cstep (CX.ev ts) H (c.hint hint) = some (v, H', true)) (hn : SegD P B ops l (putT ts o.dst v) H' ds Q) : SegD P B ops (o :: l) ts H ds Q := fun μ w a r s hB hd => by
  refine wpList_step fun K hK => ?_
  rw [guard_ok r hg (rfl : goesOn ts none = some true)]
  simp only [if_true]
  obtain ⟨rn, x, w', μ', h1, h2, h3, h4, h5⟩ := cstep_ok hc (fun y cy hy => opd_rel hy r) s hint hs
  have goal : K (a.put o.dst x) w' := by
    refine hK _ _ ?_
    have f := h5.fw hB
    have e : (a.put o.dst x).defers = a.defers := by cases o.dst <;> rfl
    have := hn μ' w' (a.put o.dst x) ((r.ext (h5.ext s)).put o.dst h3) h4 f.nx (by rw [e]; exact hd.ext (h5.ext s))
    exact wpList_mono (fun e a1 w1 hq => LiftD.trans f hq) l _ _ this
  unfold Oper.wp
  rw [h1]
  rcases h2 with rfl | ⟨rfl, rfl⟩
  · exact goal
  · exact goal
def deferOf (ev : CX → AV) (o : Oper) : Option DC :=
  match o.op with
  | .defer c => match c.callee, opds c.args.toList with
    | .value x, some cs => match opd x with
      | some cx => match ev cx with
        | .fn (.func f) first cap => some (f, first ++ cs.map ev ++ cap)
        | _ => none
      | none => none
    | _, _ => none
  | _ => none
theorem defer_run {P : Program} {o : Oper} {a : Act} {ts : List AV} {μ : Mu} {d : DC} (r : Rel μ ts a.tmps) (h : deferOf (CX.ev ts) o = some d) (w : World) : ∃ x, DRel1 μ d x ∧ (execOp a.eval o).run P w = .ok (.defer x) w := by
  unfold deferOf at h
  split at h
  · rename_i c ho
    split at h
    · rename_i x cs e1 e2
      split at h
      · rename_i cx e3
        split at h
        · rename_i f' first cap e4
          cases h
          have hx := opd_rel e3 r
          rw [e4] at hx
          obtain ⟨a', c', g1, g2, g3⟩ := hx
          have hargs := opds_rel r e2
          refine ⟨⟨.fn (.func f') c', a' ++ c.args.map a.eval⟩, ⟨c', a' ++ c.args.map a.eval, rfl, ?_⟩, ?_⟩
          · simp only [Array.toList_append, Array.toList_map]
            exact (g2.append hargs).append g3
          · simp [execOp, ho, resolve, e1, Deferred.ofValue, g1]
        · cases h
      · cases h
    · cases h
  · cases h
theorem SegD.defer {P : Program} {B : Nat} {ops : Array Oper} {o : Oper} {l : List Oper} {ts : List AV} {H : AH} {ds : List DC} {Q : PostD} {d : DC} (hg : guardOf ops o = some none) (h : deferOf (CX.ev ts) o = some d) (hn : SegD P B ops l (putT ts o.dst (.tup [])) H (d :: ds) Q) : SegD P B ops (o :: l) ts H ds Q := fun μ w a r s hB hd => by
  refine wpList_step fun K hK => ?_
  rw [guard_ok r hg (rfl : goesOn ts none = some true)]
  simp only [if_true]
  obtain ⟨x, h1, h2⟩ := defer_run (P := P) r h w
  unfold Oper.wp
  rw [h2]
  refine hK _ _ ?_
  have e1 : ({ a with defers := x :: a.defers }.put o.dst undef).defers = x :: a.defers := by cases o.dst <;> rfl
  have r' : Rel μ (putT ts o.dst (.tup [])) ({ a with defers := x :: a.defers }.put o.dst undef).tmps := Rel.put (a := { a with defers := x :: a.defers }) r o.dst ⟨#[], rfl, trivial⟩
  exact hn μ w _ r' s hB (by rw [e1]; exact ⟨h1, hd⟩)
/-! ### what they come to -/
/-- How a frame leaves: by a return; by a panic, that is recovered or not. -/
inductive UM where
  | ret
  | pan (v : AV) (b : Bool)
def URel (μ : Mu) : UM → FrameMode → Prop
  | .ret, u => u = .returning
  | .pan v b, u => ∃ x, u = .panicking [{ v := x, recovered := b }] ∧ VRel μ v x
theorem URel.ext {μ μ' : Mu} (h : MuLe μ μ') {u : UM} {m : FrameMode} (q : URel μ u m) : URel μ' u m := by
  cases u with
  | ret => exact q
  | pan v b => obtain ⟨x, h1, h2⟩ := q; exact ⟨x, h1, VRel.ext h _ _ h2⟩
def UM.settle : UM → UM
  | .pan _ true => .ret
  | u => u
theorem URel.settle {μ : Mu} {u : UM} {m : FrameMode} (q : URel μ u m) : URel μ u.settle (Go.settle m) := by
  cases u with
  | ret => simp only [URel] at q; subst q; rfl
  | pan v b =>
    obtain ⟨x, rfl, h2⟩ := q
    cases b with
    | true => rfl
    | false => exact ⟨x, rfl, h2⟩
theorem URel.run {μ : Mu} {u : UM} {m : FrameMode} (q : URel μ u m) : m ≠ .run := by
  cases u with
  | ret => simp only [URel] at q; subst q; simp
  | pan v b => obtain ⟨x, rfl, _⟩ := q; simp
/-- A deferred call returns, and comes to one of those that K knows. -/
def RunsD (P : Program) (f : FuncId) (args : List AV) (u : UM) (H : AH) (K : UM → AH → Prop) : Prop :=
  ∀ μ w (vs : Array Value) m, VRels μ args vs.toList → Sat μ H w → URel μ u m → CallsD P f vs m w (fun e m' w' => (∃ v, e = .returned v) ∧ ∃ u' H' μ', K u' H' ∧ URel μ' u' m' ∧ Sat μ' H' w' ∧ Fw H.next μ H μ' H' w w')
abbrev OrcD := FuncId → List AV → UM → AH → (UM → AH → Prop) → Option Prop
def OrcDOK (P : Program) (dk : OrcD) : Prop := ∀ f as u H K p, dk f as u H K = some p → p → isGo P f = true ∧ RunsD P f as u H K
def finD (S : SPf) (P : Program) (fn : Func) (dk : OrcD) (K : AOut → AH → Prop) : List DC → UM → SL → AH → Prop
  | [], .ret, s, H => match resOfG P fn s.get H with
    | some (v, ok) => S ok (K (.ret v) H) False
    | none => False
  | [], .pan v false, _, H => K (.panic v) H
  | [], .pan _ true, _, _ => False
  | d :: ds, u, s, H => match dk d.1 d.2 u H (fun u' H' => finD S P fn dk K ds u'.settle s H') with
    | some p => p
    | none => False
theorem run_callFunc {P : Program} {f : FuncId} {vs : Array Value} (hg : isGo P f = true) (w : World) : (callFunc f vs).run P w = .ok (.enter f vs) w := by
  unfold isGo at hg
  split at hg
  · rename_i fn hfn
    simp only [Bool.and_eq_true, Bool.not_eq_true'] at hg
    have hb : fn.body.isNone = false := by
      rcases hq : fn.body with _ | q
      · rw [hq] at hg; simp at hg
      · rfl
    simp only [callFunc, Sem.run_bind, run_program, Result.andThen_ok, hfn, hg.2, hb]
    simp
  · cases hg
theorem finD_ok {P : Program} {fn : Func} {dk : OrcD} (hdk : OrcDOK P dk) {K : AOut → AH → Prop} {n : Nat} : ∀ (ds : List DC) {u : UM} {m : FrameMode} {ts : List AV} {s : SL} {H : AH} {μ : Mu} {w : World} {tmps : Array Value} {xs : List Deferred}, SR n ts s → Rel μ ts tmps → Sat μ H w → URel μ u m → DRel μ ds xs → finD sp P fn dk K ds u s H →
    Leaves P fn tmps (fun e w' => ∃ out H' μ', K out H' ∧ OutRel μ' out e ∧ Sat μ' H' w' ∧ Fw H.next μ H μ' H' w w') xs m w
  | [], u, m, ts, s, H, μ, w, tmps, xs, hs, r, sa, hu, hd, h => by
    cases xs with
    | cons x xs => exact hd.elim
    | nil =>
      cases u with
      | ret =>
        simp only [URel] at hu
        subst hu
        simp only [finD] at h
        split at h
        · rename_i v ok hv
          obtain ⟨h1, h2⟩ := sp_iff.1 h
          have hok : ok = true := by
            cases ok
            · exact (h2 rfl).elim
            · rfl
          subst hok
          obtain ⟨x, r1, r2⟩ := resOf_ok (fn := fn) (by rw [resOfG_eq, hs.get]; exact hv) r sa
          exact ⟨x, r1, .ret v, H, μ, h1 rfl, ⟨x, rfl, r2⟩, sa, Fw.refl _ _ (Nat.le_refl _)⟩
        · exact h.elim
      | pan v b =>
        obtain ⟨x, rfl, hv⟩ := hu
        cases b with
        | true => exact h.elim
        | false => exact ⟨.panic v, H, μ, h, ⟨x, rfl, hv⟩, sa, Fw.refl _ _ (Nat.le_refl _)⟩
  | d :: ds, u, m, ts, s, H, μ, w, tmps, xs, hs, r, sa, hu, hd, h => by
    cases xs with
    | nil => exact hd.elim
    | cons x xs =>
      obtain ⟨⟨cap, args, rfl, hv⟩, hd⟩ := hd
      simp only [finD] at h
      split at h
      · rename_i p hp
        obtain ⟨g1, g2⟩ := hdk _ _ _ _ _ _ hp h
        refine leaves_cons (f := d.1) (args := args ++ cap) hu.run (by simp only [invoke]; exact run_callFunc g1 w) ?_
        refine CallsD.mono (g2 μ w (args ++ cap) m hv sa hu) (fun e m' w' hq => ?_)
        obtain ⟨⟨v, rfl⟩, u', H', μ', k1, k2, k3, k4⟩ := hq
        have le := VRel.keep sa k4
        have := finD_ok hdk ds hs (Rel.ext le r) k3 k2.settle (hd.ext le) k1
        simp only []
        generalize Go.settle m' = m2 at this ⊢
        revert this
        generalize hR : (fun e w'_1 => ∃ out H'_1 μ'_1, K out H'_1 ∧ OutRel μ'_1 out e ∧ Sat μ'_1 H'_1 w'_1 ∧ Fw H'.next μ' H' μ'_1 H'_1 w' w'_1) = R1
        intro this
        have mono : ∀ (xs : List Deferred) (m : FrameMode) (w2 : World) {R R' : Ending → World → Prop}, (∀ e w, R e w → R' e w) → Leaves P fn tmps R xs m w2 → Leaves P fn tmps R' xs m w2 := by
          intro xs
          induction xs with
          | nil =>
            intro m w2 R R' hr hl
            cases m with
            | run => exact hl
            | returning => obtain ⟨v, q1, q2⟩ := hl; exact ⟨v, q1, hr _ _ q2⟩
            | panicking c => exact hr _ _ hl
          | cons x xs ih =>
            intro m w2 R R' hr hl
            obtain ⟨q1, fv, cap, f, args, q2, q3, q4⟩ := hl
            refine ⟨q1, fv, cap, f, args, q2, q3, CallsD.mono q4 (fun e u w he => ?_)⟩
            cases e with
            | returned v => exact ih _ _ hr he
            | panicked c => exact ih _ _ hr he
            | outgrown => exact hr _ _ he
        refine mono _ _ _ (fun e w2 hq => ?_) this
        rw [← hR] at hq
        obtain ⟨out, H2, μ2, j1, j2, j3, j4⟩ := hq
        exact ⟨out, H2, μ2, j1, j2, j3, k4.trans (j4.low k4.nx)⟩
      · exact h.elim
def vDOps (S : SPf) (P : Program) (n : Nat) (ops : Array Oper) (Q : SL → AH → List DC → Prop) : List Oper → SL → AH → List DC → Prop
  | [], s, H, ds => Q s H ds
  | o :: l, s, H, ds => match guardOf ops o with
    | some none => match deferOf (evG s.get) o with
      | some d => vDOps S P n ops Q l (putS n s o.dst (.tup [])) H (d :: ds)
      | none => match comp P o with
        | some c => match cstep (evG s.get) H (c.hint 1) with
          | some (v, H', ok) => S ok (vDOps S P n ops Q l (putS n s o.dst v) H' ds) False
          | none => False
        | none => False
    | _ => False
theorem vDOps_ok {P : Program} {B n : Nat} {ops : Array Oper} {Q : SL → AH → List DC → Prop} {QD : PostD} (hQ : ∀ ts s H ds, SR n ts s → Q s H ds → QD .normal ts H ds) : ∀ (l : List Oper) {ts : List AV} {s : SL} {H : AH} {ds : List DC}, SR n ts s → vDOps sp P n ops Q l s H ds → SegD P B ops l ts H ds QD
  | [], ts, s, H, ds, hs, h => SegD.nil (hQ _ _ _ _ hs h)
  | o :: l, ts, s, H, ds, hs, h => by
    unfold vDOps at h
    rw [← hs.get, ← evG_eq] at h
    split at h
    · rename_i hg
      split at h
      · rename_i d hd
        exact SegD.defer hg hd (vDOps_ok hQ l (hs.put _ _) h)
      · split at h
        · rename_i c hc
          split at h
          · rename_i v H1 ok hst
            obtain ⟨h1, h2⟩ := sp_iff.1 h
            have hok : ok = true := by
              cases ok
              · exact (h2 rfl).elim
              · rfl
            subst hok
            exact SegD.step 1 hg hc hst (vDOps_ok hQ l (hs.put _ _) (h1 rfl))
          · exact h.elim
        · exact h.elim
    · exact h.elim
/-- k regions at the start that may defer calls; then the rest. -/
def vDC (S : SPf) (P : Program) (call : OrcK) (dr : DroK) (lo : LoK) (n m : Nat) (Q : AX → SL → AH → List DC → Prop) : Nat → Code → SL → AH → List DC → Prop
  | 0, c, s, H, ds => vC S P call dr lo H.next n m false c s H (fun x s H => Q x s H ds)
  | k + 1, .seq (.region _ ops false) c, s, H, ds => vDOps S P n ops (fun s H ds => vDC S P call dr lo n m Q k c s H ds) ops.toList s H ds
  | _, _, _, _, _ => False
theorem vDC_ok {P : Program} {call : OrcK} (hc : OrcKOK P call) {dr : DroK} (hd : DroKOK P dr) {lo : LoK} (hl : LoKOK P lo) {B n m : Nat} {Q : AX → SL → AH → List DC → Prop} {QD : PostD} (hQ : ∀ x ts s H ds, SR n ts s → Q x s H ds → QD x ts H ds) : ∀ (k : Nat) {c : Code} {ts : List AV} {s : SL} {H : AH} {ds : List DC}, SR n ts s → vDC sp P call dr lo n m Q k c s H ds → TriD P B c ts H ds QD
  | 0, c, ts, s, H, ds, hs, h => TriD.of ((vC_ok hc hd hl (B := H.next) (k := n) m).1 c hs h (fun x ts1 s1 H1 hs1 h1 => hQ _ _ _ _ _ hs1 h1))
  | k + 1, c, ts, s, H, ds, hs, h => by
    unfold vDC at h
    split at h
    · rename_i heq
      cases heq
    · rename_i id ops c heq
      cases heq
      exact TriD.seq (TriD.region (vDOps_ok (fun ts1 s1 H1 ds1 hs1 h1 => vDC_ok hc hd hl hQ k hs1 h1) _ hs h))
    · exact h.elim
/-- A function that defers calls in its first k regions. -/
def vFD (S : SPf) (P : Program) (dr : OrcK → DroK) (lo : FuncId → LoK) (base : OrcK) (dk : OrcD) (k m : Nat) : OrcK := fun f as H K =>
  match P.funcs[f]? with
  | none => none
  | some fn => match fn.body with
    | none => none
    | some c => bif Nat.ble as.length fn.ntmps && Nat.blt fn.ntmps 1023 then
      some (vDC S P base (dr base) (lo f) fn.ntmps m (fun x s H' ds => match x with
        | .normal | .ret => finD S P fn dk K ds .ret s H'
        | .panic v => finD S P fn dk K ds (.pan v false) s H'
        | _ => False) k c (SL.lay as 0 (SL.mk 10)) H []) else none
theorem vFD_ok {P : Program} {dr : OrcK → DroK} (hd : ∀ c, OrcKOK P c → DroKOK P (dr c)) {lo : FuncId → LoK} (hl : ∀ f, LoKOK P (lo f)) {base : OrcK} (hb0 : OrcKOK P base) {dk : OrcD} (hdk : OrcDOK P dk) (k m : Nat) : OrcKOK P (vFD sp P dr lo base dk k m) := by
  intro f as H K p h hp
  unfold vFD at h
  split at h
  · cases h
  · rename_i fn hf
    split at h
    · cases h
    · rename_i c hb
      rcases hlt : (Nat.ble as.length fn.ntmps && Nat.blt fn.ntmps 1023) with _ | _
      · rw [hlt] at h; cases h
      · rw [hlt] at h
        simp only [cond_true, Option.some.injEq] at h
        subst h
        simp only [Bool.and_eq_true] at hlt
        have st := SR.start (Nat.le_of_ble_eq_true hlt.1) (Nat.le_of_ble_eq_true hlt.2 : fn.ntmps < 1023)
        have key := vDC_ok (B := H.next) (QD := fun x ts H' ds => ∃ s, SR fn.ntmps ts s ∧ match x with
          | .normal | .ret => finD sp P fn dk K ds .ret s H'
          | .panic v => finD sp P fn dk K ds (.pan v false) s H'
          | _ => False) hb0 (hd _ hb0) (hl f) (fun x ts s H ds q1 q2 => ⟨s, q1, q2⟩) k st hp
        intro μ w vs hv s
        have hl : as.length = vs.size := by simpa using hv.len
        refine calls_of_wp_defers hf hb ?_
        have hrel : Rel μ (as ++ List.replicate (fn.ntmps - as.length) .any) (vs ++ Array.replicate (fn.ntmps - vs.size) undef) := by
          unfold Rel
          rw [Array.toList_append, Array.toList_replicate, hl]
          exact hv.append (VRels.replicate (v := .any) (x := undef) (by simp [VRel]) _)
        refine wp_mono (key μ w { tmps := vs ++ Array.replicate (fn.ntmps - vs.size) undef, defers := [] } hrel s (Nat.le_refl _) trivial) (fun e a1 w1 hq => ?_)
        obtain ⟨x, ts, H1, ds, μ1, ⟨s1, hs1, h1⟩, h2, h3, h4, h5, h6⟩ := hq
        have mono : ∀ (xs : List Deferred) (m : FrameMode) (w2 : World) {R R' : Ending → World → Prop}, (∀ e w, R e w → R' e w) → Leaves P fn a1.tmps R xs m w2 → Leaves P fn a1.tmps R' xs m w2 := by
          intro xs
          induction xs with
          | nil =>
            intro m w2 R R' hr hl
            cases m with
            | run => exact hl
            | returning => obtain ⟨v, q1, q2⟩ := hl; exact ⟨v, q1, hr _ _ q2⟩
            | panicking c => exact hr _ _ hl
          | cons x xs ih =>
            intro m w2 R R' hr hl
            obtain ⟨q1, fv, cap, f, args, q2, q3, q4⟩ := hl
            refine ⟨q1, fv, cap, f, args, q2, q3, CallsD.mono q4 (fun e u w he => ?_)⟩
            cases e with
            | returned v => exact ih _ _ hr he
            | panicked c => exact ih _ _ hr he
            | outgrown => exact hr _ _ he
        have fin : ∀ u m, URel μ1 u m → finD sp P fn dk K ds u s1 H1 → Leaves P fn a1.tmps (fun e w' => ∃ out H' μ', K out H' ∧ OutRel μ' out e ∧ Sat μ' H' w' ∧ Fw H.next μ H μ' H' w w') a1.defers m w1 := by
          intro u m hu hq
          refine mono _ _ _ (fun e w2 hq => ?_) (finD_ok hdk ds hs1 h3 h4 hu h6 hq)
          obtain ⟨out, H2, μ2, j1, j2, j3, j4⟩ := hq
          exact ⟨out, H2, μ2, j1, j2, j3, h5.trans (j4.low h5.nx)⟩
        cases x with
        | normal => simp only [XRel] at h2; subst h2; exact fin .ret .returning rfl h1
        | ret => simp only [XRel] at h2; subst h2; exact fin .ret .returning rfl h1
        | panic v => obtain ⟨xv, rfl, hv'⟩ := h2; exact fin (.pan v false) _ ⟨xv, rfl, hv'⟩ h1
        | exit id => exact h1.elim
        | goto l => exact h1.elim
/-! ### a deferred function that recovers in its first region -/
def isRec (o : Oper) : Bool :=
  match o.op with
  | .call c => match c.callee with
    | .builtin .recover => c.args.isEmpty
    | _ => false
  | _ => false
def UM.taken : UM → AV × UM
  | .ret => (.nili, .ret)
  | .pan v false => (v, .pan v true)
  | .pan v true => (.nili, .pan v true)
/-- The rest of its region: operations alone. -/
def vROps (S : SPf) (P : Program) (n : Nat) (ops : Array Oper) (Q : SL → AH → Prop) : List Oper → SL → AH → Prop
  | [], s, H => Q s H
  | o :: l, s, H => match guardOf ops o with
    | some none => match comp P o with
      | some c => match cstep (evG s.get) H (c.hint 1) with
        | some (v, H', ok) => S ok (vROps S P n ops Q l (putS n s o.dst v) H') False
        | none => False
      | none => False
    | _ => False
def vRD (S : SPf) (P : Program) (call : OrcK) (dr : DroK) (lo : FuncId → LoK) (m : Nat) : OrcD := fun f as u H K =>
  match P.funcs[f]? with
  | none => none
  | some fn => match fn.body with
    | some (.seq (.region _ ops false) c) => match ops.toList with
      | o :: l => bif isRec o && o.guard.isNone && Nat.ble as.length fn.ntmps && Nat.blt fn.ntmps 1023 && isGo P f then
        some (vROps S P fn.ntmps ops (fun s H' => vC S P call dr (lo f) H.next fn.ntmps m false c s H' (fun x s H' => match x with
          | .normal | .ret => match resOfG P fn s.get H' with
            | some (_, ok) => S ok (K u.taken.2 H') False
            | none => False
          | _ => False)) l (putS fn.ntmps (SL.lay as 0 (SL.mk 10)) o.dst u.taken.1) H) else none
      | [] => none
    | _ => none
theorem vROps_ok {P : Program} {n : Nat} {ops : Array Oper} {Q : SL → AH → Prop} {QS : Exit → Act → List Frame → World → Prop} {cs : List Frame} {B : Nat} : ∀ (l : List Oper) (k : Nat), (∀ j, l[j]? = ops[k + j]?) → ∀ {ts : List AV} {s : SL} {H : AH} {μ : Mu} {w : World} {a : Act}, SR n ts s → vROps sp P n ops Q l s H → Rel μ ts a.tmps → Sat μ H w → B ≤ H.next →
    (∀ ts' s' H' μ' w' a', SR n ts' s' → Q s' H' → Rel μ' ts' a'.tmps → Sat μ' H' w' → Fw B μ H μ' H' w w' → a'.defers = a.defers → QS .normal a' cs w') → wpOpsS P ops QS (List.range' k l.length) a cs w
  | [], k, hk, ts, s, H, μ, w, a, hs, h, r, sa, hB, hQ => hQ ts s H μ w a hs h r sa (Fw.refl _ _ hB) rfl
  | o :: l, k, hk, ts, s, H, μ, w, a, hs, h, r, sa, hB, hQ => by
    have h0 : ops[k]? = some o := by simpa using (hk 0).symm
    have hk' : ∀ j, l[j]? = ops[k + 1 + j]? := fun j => by have := hk (j + 1); simpa [Nat.add_assoc, Nat.add_comm 1 j] using this
    unfold vROps at h
    rw [← hs.get, ← evG_eq] at h
    split at h
    · rename_i hg
      split at h
      · rename_i c hc
        split at h
        · rename_i v H1 ok hst
          obtain ⟨h1, h2⟩ := sp_iff.1 h
          have hok : ok = true := by
            cases ok
            · exact (h2 rfl).elim
            · rfl
          subst hok
          obtain ⟨rn, x, w', μ', q1, q2, q3, q4, q5⟩ := cstep_ok hc (fun y cy hy => opd_rel hy r) sa 1 hst
          simp only [List.length_cons, List.range'_succ, wpOpsS, h0]
          rw [guard_ok r hg (rfl : goesOn ts none = some true)]
          simp only [if_true]
          have f := q5.fw hB
          have e : (a.put o.dst x).defers = a.defers := by cases o.dst <;> rfl
          have goal : wpOpsS P ops QS (List.range' (k + 1) l.length) (a.put o.dst x) cs w' :=
            vROps_ok l (k + 1) hk' (hs.put _ _) (h1 rfl) ((r.ext (q5.ext sa)).put o.dst q3) q4 f.nx (fun ts2 s2 H2 μ2 w2 a2 g1 g2 g3 g4 g5 g6 => hQ ts2 s2 H2 μ2 w2 a2 g1 g2 g3 g4 (f.trans g5) (g6.trans e))
          rw [q1]
          rcases q2 with rfl | ⟨rfl, rfl⟩
          · exact goal
          · exact goal
        · exact h.elim
      · exact h.elim
    · exact h.elim
theorem rec_run {P : Program} {o : Oper} {a : Act} (h : isRec o = true) (w : World) : (execOp a.eval o).run P w = .ok .recover w := by
  unfold isRec at h
  split at h
  · rename_i c ho
    split at h
    · rename_i hc
      have : c.args = #[] := by
        cases c
        rename_i cl args ats
        cases args
        rename_i l
        cases l
        · rfl
        · simp at h
      simp [execOp, ho, resolve, hc, invoke, builtin, this]
    · cases h
  · cases h
theorem vRD_ok {P : Program} {call : OrcK} (hc : OrcKOK P call) {dr : DroK} (hd : DroKOK P dr) {lo : FuncId → LoK} (hl : ∀ f, LoKOK P (lo f)) (m : Nat) : OrcDOK P (vRD sp P call dr lo m) := by
  intro f as u H K p h hp
  unfold vRD at h
  split at h
  · cases h
  · rename_i fn hf
    split at h
    · rename_i id ops c hb
      split at h
      · rename_i o l hops
        rcases hlt : (isRec o && o.guard.isNone && Nat.ble as.length fn.ntmps && Nat.blt fn.ntmps 1023 && isGo P f) with _ | _
        · rw [hlt] at h; cases h
        · rw [hlt] at h
          simp only [cond_true, Option.some.injEq] at h
          subst h
          simp only [Bool.and_eq_true] at hlt
          obtain ⟨⟨⟨⟨l1, l2⟩, l3⟩, l4⟩, l5⟩ := hlt
          refine ⟨l5, fun μ w vs um hv sa hu => ?_⟩
          have st := SR.start (Nat.le_of_ble_eq_true l3) (Nat.le_of_ble_eq_true l4 : fn.ntmps < 1023)
          have hlen : as.length = vs.size := by simpa using hv.len
          have hrel : Rel μ (as ++ List.replicate (fn.ntmps - as.length) .any) (vs ++ Array.replicate (fn.ntmps - vs.size) undef) := by
            unfold Rel
            rw [Array.toList_append, Array.toList_replicate, hlen]
            exact hv.append (VRels.replicate (v := .any) (x := undef) (by simp [VRel]) _)
          refine callsD_of_wpS hf hb fun c₀ cs hm => ?_
          apply wpS_seq
          apply wpS_region
          have e0 : ops[0]? = some o := by rw [← Array.getElem?_toList, hops]; rfl
          have esz : ops.size = l.length + 1 := by rw [← Array.length_toList, hops]; rfl
          have hl0 : ∀ j, l[j]? = ops[1 + j]? := fun j => by
            rw [← Array.getElem?_toList, hops, Nat.add_comm 1 j]; rfl
          have er : List.range ops.size = 0 :: List.range' 1 l.length := by
            rw [esz, List.range_eq_range', List.range'_succ]
          rw [er]
          simp only [wpOpsS, e0]
          have hwant : ∀ y, Region.wanted o y = true := fun y => by
            unfold Region.wanted
            rcases hq : o.guard with _ | q
            · rfl
            · rw [hq] at l2; simp at l2
          rw [hwant]
          simp only [if_true]
          rw [rec_run l1]
          -- the rest, behind what was recovered
          have rest : ∀ (x : Value) (m' : FrameMode), VRel μ u.taken.1 x → URel μ u.taken.2 m' → wpOpsS P ops (Exit.thenS (c.wpS P (bodyPostS P fn c₀ cs (fun e m' w' => (∃ v, e = .returned v) ∧ ∃ u' H' μ', K u' H' ∧ URel μ' u' m' ∧ Sat μ' H' w' ∧ Fw H.next μ H μ' H' w w'))) (bodyPostS P fn c₀ cs (fun e m' w' => (∃ v, e = .returned v) ∧ ∃ u' H' μ', K u' H' ∧ URel μ' u' m' ∧ Sat μ' H' w' ∧ Fw H.next μ H μ' H' w w'))) (List.range' 1 l.length)
              (Act.put { tmps := vs ++ Array.replicate (fn.ntmps - vs.size) undef, defers := [] } o.dst x) ({ c₀ with mode := m' } :: cs) w := by
            intro x m' hx hm'
            refine vROps_ok (B := H.next) l 1 hl0 (st.put _ _) hp (hrel.put o.dst hx) sa (Nat.le_refl _) (fun ts1 s1 H1 μ1 w1 a1 g1 g2 g3 g4 g5 g6 => ?_)
            have hd1 : a1.defers = [] := by rw [g6]; cases o.dst <;> rfl
            refine wpS_of_wp ?_
            have tri := (vC_ok hc hd (hl f) (B := H.next) (k := fn.ntmps) m).1 c (Q := fun x ts H' => ∃ s, SR fn.ntmps ts s ∧ (match x with
              | .normal | .ret => match resOfG P fn s.get H' with
                | some (_, ok) => sp ok (K u.taken.2 H') False
                | none => False
              | _ => False)) g1 g2 (fun x ts s H q1 q2 => ⟨s, q1, q2⟩)
            refine wp_mono (tri μ1 w1 a1 g3 g4 g5.nx) (fun e a2 w2 hq => ?_)
            obtain ⟨x2, ts2, H2, μ2, ⟨s2, hs2, k1⟩, k2, k3, k4, k5, k6⟩ := hq
            have fin : (match resOfG P fn s2.get H2 with
                | some (_, ok) => sp ok (K u.taken.2 H2) False
                | none => False) → a2.defers = [] ∧ ∃ u', ({ c₀ with mode := m' } :: cs : List Frame) = { c₀ with mode := u' } :: cs ∧ ∃ v, (results fn a2.tmps).run P w2 = .ok v w2 ∧ ((∃ v', Ending.returned v = .returned v') ∧ ∃ u'' H' μ', K u'' H' ∧ URel μ' u'' u' ∧ Sat μ' H' w2 ∧ Fw H.next μ H μ' H' w w2) := by
              intro q
              split at q
              · rename_i v ok hv
                obtain ⟨q1, q2⟩ := sp_iff.1 q
                have hok : ok = true := by
                  cases ok
                  · exact (q2 rfl).elim
                  · rfl
                subst hok
                obtain ⟨y, r1, r2⟩ := resOf_ok (fn := fn) (by rw [resOfG_eq, hs2.get]; exact hv) k3 k4
                have ff := g5.trans k5
                exact ⟨k6.trans hd1, m', rfl, y, r1, ⟨_, rfl⟩, _, H2, μ2, q1 rfl, hm'.ext (VRel.keep sa ff), k4, ff⟩
              · exact q.elim
            cases x2 with
            | normal => simp only [XRel] at k2; subst k2; exact fin k1
            | ret => simp only [XRel] at k2; subst k2; exact fin k1
            | panic v => exact k1.elim
            | exit id => exact k1.elim
            | goto l => exact k1.elim
          cases u with
          | ret =>
            simp only [URel] at hu
            have hr : recoverD (c₀ :: cs) = none := by simp [recoverD, hm, hu]
            simp only [hr]
            have := rest .nilIface um rfl hu
            rwa [← hm] at this
          | pan v b =>
            obtain ⟨x, hx, hv⟩ := hu
            cases b with
            | false =>
              have hr : recoverD (c₀ :: cs) = some (x, { c₀ with mode := .panicking ({ v := x, recovered := true } :: []) } :: cs) := by simp [recoverD, hm, hx]
              simp only [hr]
              exact rest x _ hv ⟨x, rfl, hv⟩
            | true =>
              have hr : recoverD (c₀ :: cs) = none := by simp [recoverD, hm, hx]
              simp only [hr]
              have := rest .nilIface um rfl ⟨x, hx, hv⟩
              rwa [← hm] at this
      · cases h
    · cases h
/-- A contract, of a function that defers calls. -/
def Con.condD {X Y : Type} (S : SPf) (P : Program) (dr : OrcK → DroK) (lo : FuncId → LoK) (base : OrcK) (dk : OrcD) (k m : Nat) (c : Con X Y) (x : X) : Option Prop := vFD S P dr lo base dk k m c.f (c.args x) (AH.of c.n0 (c.L0 x)) (c.K S x)
theorem Con.byD {X Y : Type} {P : Program} (hm : P.follows .mixedOrders = true) {lo : FuncId → LoK} (hl : ∀ f, LoKOK P (lo f)) {base : OrcK} (hb : OrcKOK P base) {dk : OrcD} (hdk : OrcDOK P dk) {k m : Nat} {c : Con X Y} (p : X → Prop) (h : ∀ x, some (p x) = c.condD sp P (drP sp P) lo base dk k m x) (hp : ∀ x, c.pre x → p x) : c.OK P :=
  Con.ok_of (fun x hx => vFD_ok (fun c hc => drP_ok hm c hc) hl hb hdk k m c.f _ _ _ _ (h x).symm (hp x hx))
end
end Go.Eng
