/- The engine, thirty-eighth part: a quick evaluator for known values: regions, code, functions. -/
import Derived.Test.YtilmgiompalggaaGreatDoorEn25
namespace Go.Eng
open Go Go.RowKit
set_option linter.unusedVariables false
set_option linter.unusedSimpArgs false
noncomputable section
/-- A list of slots, as a tree; n of them. -/
structure SRV (n : Nat) (ts : List AV) (s : VT) : Prop where
  len : ts.length = n
  get : (fun i => ts.getD i .any) = s.at
theorem SRV.ev {n : Nat} {ts : List AV} {s : VT} (h : SRV n ts s) : CX.ev ts = evG s.at := by rw [evG_eq, h.get]
/-- A slot written. -/
inductive PB where
  | mk (e : AV → VT → (VT → Prop) → Prop)
def putQ (n : Nat) (d : Option Nat) : PB :=
  match d with
  | none => ⟨fun _ s f => f s⟩
  | some d => bif Nat.blt d n then ⟨fun v s f => VT.putC (pathOf d) v s f⟩ else ⟨fun _ s f => f s⟩
def PB.go (b : PB) (v : AV) (s : VT) (f : VT → Prop) : Prop := @PB.rec (fun _ => Prop) (fun e => e v s f) b
theorem putQ_of {n : Nat} {d : Option Nat} {v : AV} {s : VT} {f : VT → Prop} {ts : List AV} (hs : SRV n ts s) (h : (putQ n d).go v s f) : ∃ s', SRV n (putT ts d v) s' ∧ f s' := by
  cases d with
  | none => exact ⟨s, hs, h⟩
  | some d =>
    unfold putQ at h
    simp only [] at h
    rcases hb : Nat.blt d n with _ | _
    · rw [hb] at h
      have hge : n ≤ d := by
        rcases Nat.lt_or_ge d n with h' | h'
        · rw [show Nat.blt d n = true from Nat.ble_eq_true_of_le h'] at hb; cases hb
        · exact h'
      refine ⟨s, ?_, h⟩
      have hl := hs.len
      simp only [putT]
      rw [List.set_eq_of_length_le (by omega)]
      exact hs
    · rw [hb] at h
      have hlt : d < n := Nat.le_of_ble_eq_true hb
      have h1 : f (s.putAt d v) := VT.putC_of (p := pathOf d) (v := v) (t := s) h
      refine ⟨_, ⟨by simpa [putT] using hs.len, ?_⟩, h1⟩
      funext i
      rw [VT.at_put, ← hs.get]
      simp only [putT, List.getD_eq_getElem?_getD, List.getElem?_set]
      by_cases e : d = i
      · subst e
        simp [hs.len, hlt]
      · rw [if_neg e, if_neg (fun q => e q.symm)]
abbrev CallQ := FuncId → List AV → AH → (AOut → AH → Prop) → Prop
def CallQOK (P : Program) (c : CallQ) : Prop := ∀ f as H K, c f as H K → RunsK P f as H K
abbrev KV := AX → VT → AH → Prop
abbrev XO1 := CallQ → VT → AH → KV → (VT → AH → Prop) → Prop
inductive OB where
  | mk (e : XO1)
def OSpec (P : Program) (n : Nat) (ops : Array Oper) (o : Oper) (b : OB) : Prop := ∀ e, b = ⟨e⟩ → ∀ (B : Nat) (l : List Oper) (call : CallQ) (s : VT) (H : AH) (K : KV) (next : VT → AH → Prop) (Q : Post) (ts : List AV), CallQOK P call → SRV n ts s → e call s H K next →
  (∀ x ts' s' H', SRV n ts' s' → K x s' H' → Q x ts' H') → (∀ ts' s' H', SRV n ts' s' → next s' H' → Seg P B ops l ts' H' Q) → Seg P B ops (o :: l) ts H Q
def noOB : OB := ⟨fun _ _ _ _ _ => False⟩
theorem noOB_ok {P : Program} {n : Nat} {ops : Array Oper} {o : Oper} : OSpec P n ops o noOB := fun e he B l call s H K next Q ts hc hs h => by cases he; exact h.elim
/-- Arguments. -/
def argsC (as : List CX) : VT → (List AV → Prop) → Prop := @List.rec CX (fun _ => VT → (List AV → Prop) → Prop) (fun _ f => f []) (fun c _ ih s f => rdK c s fun v => ih s fun r => f (v :: r)) as
theorem argsC_of : ∀ {as : List CX} {s : VT} {f : List AV → Prop}, argsC as s f → f (as.map (evG s.at))
  | [], s, f, h => h
  | c :: as, s, f, h => argsC_of (as := as) (f := fun r => f (evG s.at c :: r)) (rdK_of (f := fun v => argsC as s fun r => f (v :: r)) h)
def apC (l m : List AV) (f : List AV → Prop) : Prop := @List.rec AV (fun _ => (List AV → Prop) → Prop) (fun f => f m) (fun v _ ih f => ih fun r => f (v :: r)) l f
theorem apC_of : ∀ {l m : List AV} {f : List AV → Prop}, apC l m f → f (l ++ m)
  | [], _, _, h => h
  | v :: l, m, f, h => apC_of (l := l) (m := m) (f := fun r => f (v :: r)) h
def asF (v : AV) (f : FuncId → List AV → List AV → Prop) : Prop := match v with
  | .fn (.func g) a c => f g a c
  | _ => False
theorem asF_of {v : AV} {f : FuncId → List AV → List AV → Prop} (h : asF v f) : ∃ g a c, v = .fn (.func g) a c ∧ f g a c := by
  unfold asF at h
  split at h
  · exact ⟨_, _, _, rfl, h⟩
  · exact h.elim
/-- A call's function and arguments, compiled. -/
def callC (o : Oper) : Option (CX × List CX) :=
  match o.op with
  | .call c => match c.callee, opds c.args.toList with
    | .value x, some cs => match opd x with
      | some cx => some (cx, cs)
      | none => none
    | _, _ => none
  | _ => none
theorem callC_of {o : Oper} {cx : CX} {cs : List CX} (h : callC o = some (cx, cs)) {ev : CX → AV} {g : FuncId} {a c : List AV} (hv : ev cx = .fn (.func g) a c) : callOfG ev o = some (g, a ++ cs.map ev ++ c) := by
  unfold callC at h
  unfold callOfG
  split at h
  · rename_i c0 e0
    simp only [e0]
    split at h
    · rename_i x cs' e1 e2
      simp only [e1, e2]
      split at h
      · rename_i cx' e3
        cases h
        simp only [e3, hv]
      · cases h
    · cases h
  · cases h
/-- The method of an interface's value, where it is plain. -/
def methC (P : Program) (t : TypeId) (name : String) : Option FuncId :=
  match P.info? t with
  | some i => match i.methods.find? (·.name == name) with
    | some m => match m.path.toList, m.func, P.underlying t with
      | [], some (f, true), some (.pointer _) => some f
      | _, _, _ => none
    | none => none
  | none => none
def callI (o : Oper) : Option (CX × String × List CX) :=
  match o.op with
  | .call c => match c.callee, opds c.args.toList with
    | .invoke x name, some cs => match opd x with
      | some cx => some (cx, name, cs)
      | none => none
    | _, _ => none
  | _ => none
theorem invoke_run {P : Program} {o : Oper} {a : Act} {ts : List AV} {μ : Mu} {cx : CX} {name : String} {cs : List CX} {t : TypeId} {v : AV} {f : FuncId} (r : Rel μ ts a.tmps) (h : callI o = some (cx, name, cs)) (hv : cx.ev ts = .ifc t v) (hm : methC P t name = some f) (hg : isGo P f = true) (w : World) : ∃ vs : Array Value, VRels μ (v :: cs.map (CX.ev ts)) vs.toList ∧ (execOp a.eval o).run P w = .ok (.enter f vs) w := by
  unfold callI at h
  split at h
  · rename_i c ho
    split at h
    · rename_i x nm cs' e1 e2
      split at h
      · rename_i cx' e3
        simp only [Option.some.injEq, Prod.mk.injEq] at h
        obtain ⟨rfl, rfl, rfl⟩ := h
        have hx := opd_rel e3 r
        rw [hv] at hx
        obtain ⟨x', g1, g2⟩ := hx
        have hargs := opds_rel r e2
        unfold methC at hm
        split at hm
        · rename_i i hi
          split at hm
          · rename_i m hf
            split at hm
            · rename_i f' el hp hfn hu
              cases hm
              unfold isGo at hg
              split at hg
              · rename_i fn hfn'
                simp only [Bool.and_eq_true, Bool.not_eq_true'] at hg
                refine ⟨#[x'] ++ c.args.map a.eval, by rw [show (#[x'] ++ c.args.map a.eval).toList = x' :: c.args.toList.map a.eval by simp]; exact ⟨g2, hargs⟩, ?_⟩
                have hb : fn.body.isNone = false := by
                  rcases hq : fn.body with _ | q
                  · rw [hq] at hg; simp at hg
                  · rfl
                have hi' : ∀ w, (typeInfo t).run P w = .ok i w := fun w => by simp [typeInfo, run_program, hi]
                have hu' : ∀ w, (underlying t).run P w = .ok (.pointer el) w := fun w => by simp [underlying, run_program, hu]
                have hmt : ∀ k w, (method (k + 1) t x' nm).run P w = .ok (f, x') w := fun k w => by
                  simp [method, hi', hf, hp, follow, hfn, receiverAt, hu', Place.get]
                obtain ⟨k, hk⟩ : ∃ k, P.types.size + Made.depth = k + 1 := ⟨P.types.size + Made.depth - 1, (Nat.succ_pred_eq_of_pos (Nat.lt_of_lt_of_le (show 0 < Made.depth by decide) (Nat.le_add_left _ _))).symm⟩
                have h0 : (#[Value.iface t x'] ++ Array.map a.eval c.args)[0]? = some (Value.iface t x') := by simp [Array.getElem?_append]
                have h1 : (#[Value.iface t x'] ++ Array.map a.eval c.args).extract 1 (#[Value.iface t x'] ++ Array.map a.eval c.args).size = Array.map a.eval c.args := by
                  apply Array.ext'
                  simp
                  exact List.take_of_length_le (by simp)
                unfold execOp
                rw [ho]
                simp only [resolve, e1, Sem.run_bind, g1, Sem.run_pure, Result.andThen_ok, invoke]
                rw [h0]
                simp only [h1]
                have hn : ¬ fn.name = "runtime.NumGoroutine" := by simpa using hg.2
                have hb' : ¬ fn.body = none := by intro e; rw [e] at hb; cases hb
                simp [callMethod, callFunc, run_program, hfn', hn, hb', hk, hmt]
              · cases hg
            · cases hm
          · cases hm
        · cases hm
      · cases h
    · cases h
  · cases h
def asX (v : AV) (f : TypeId → AV → Prop) : Prop := match v with
  | .ifc t x => f t x
  | _ => False
theorem asX_of {v : AV} {f : TypeId → AV → Prop} (h : asX v f) : ∃ t x, v = .ifc t x ∧ f t x := by
  unfold asX at h
  split at h
  · exact ⟨_, _, rfl, h⟩
  · exact h.elim
/-- The method, named, goes on. -/
def metC (P : Program) (t : TypeId) (name : String) (f : FuncId → Prop) : Prop := match methC P t name with
  | some g => f g
  | none => False
theorem metC_of {P : Program} {t : TypeId} {name : String} {f : FuncId → Prop} (h : metC P t name f) : ∃ g, methC P t name = some g ∧ f g := by
  unfold metC at h
  split at h
  · rename_i g hg
    exact ⟨g, hg, h⟩
  · exact h.elim
def outC (o : AOut) (f g : AV → Prop) : Prop := @AOut.casesOn (fun _ => Prop) o f g
/-- What an operation does, its guard aside. -/
def xBody (P : Program) (n : Nat) (o : Oper) : OB :=
  match (compB P).go o with
  | some c => ⟨fun _ s H _ next => @OX.rec (fun _ => Prop) (fun e => e s H fun v H => (putQ n o.dst).go v s fun s => next s H) (qx c)⟩
  | none => match callC o with
    | some (cx, cs) => ⟨fun call s H Q next => rdK cx s fun v => asF v fun g a c => chk (isGo P g) (argsC cs s fun m => apC m c fun m => apC a m fun m => call g m H fun out H => outC out (fun v => (putQ n o.dst).go v s fun s => next s H) (fun v => Q (.panic v) s H))⟩
    | none => match callI o with
      | some (cx, name, cs) => ⟨fun call s H Q next => rdK cx s fun v => asX v fun t x => metC P t name fun g => chk (isGo P g) (argsC cs s fun m => call g (x :: m) H fun out H => outC out (fun v => (putQ n o.dst).go v s fun s => next s H) (fun v => Q (.panic v) s H))⟩
      | none => ⟨fun _ s H Q _ => match panicOf (evG s.at) o with
        | some v => Q (.panic v) s H
        | none => False⟩
theorem xBody_step {P : Program} {n : Nat} {ops : Array Oper} {o : Oper} {g : Option (Nat × Bool)} (hg : guardOf ops o = some g) {e : XO1} (he : xBody P n o = ⟨e⟩) {B : Nat} {l : List Oper} {call : CallQ} {s : VT} {H : AH} {K : KV} {next : VT → AH → Prop} {Q : Post} {ts : List AV} (hc : CallQOK P call) (hs : SRV n ts s) (hb : goesOn ts g = some true) (h : e call s H K next)
    (hK : ∀ x ts' s' H', SRV n ts' s' → K x s' H' → Q x ts' H') (hn : ∀ ts' s' H', SRV n ts' s' → next s' H' → Seg P B ops l ts' H' Q) : Seg P B ops (o :: l) ts H Q := by
  unfold xBody at he
  split at he
  · rename_i c hcm
    cases he
    cases hq : qx c with
    | mk e =>
    rw [hq] at h
    obtain ⟨m, v, H1, H2, h1, h2, h3⟩ := qx_ok hq s H _ h
    obtain ⟨s', h4, h5⟩ := putQ_of hs h3
    rw [← hs.ev] at h1
    rw [compB_eq] at hcm
    refine Seg.step (hint := m) (ts' := putT ts o.dst v) (H' := H1) ?_ (Seg.weak (h2 B _) (hn _ _ _ h4 h5))
    simp [stepO, hg, hb, hcm, h1]
  · rename_i hcm
    split at he
    · rename_i cx cs hcc
      cases he
      have h0 := rdK_of h
      obtain ⟨f, a, c, e1, h1⟩ := asF_of h0
      obtain ⟨h2, h3⟩ := chk_of h1
      have h4 := argsC_of h3
      have h5 := apC_of h4
      have h6 := apC_of h5
      have hco : callOf ts o = some (f, a ++ cs.map (CX.ev ts) ++ c) := by
        rw [callOfG_eq]
        refine callC_of hcc ?_
        rw [hs.ev]; exact e1
      rw [hs.ev, List.append_assoc] at hco
      refine Seg.runK hg hb hco h2 (hc f _ H _ h6) (fun out H1 hk => ?_)
      cases out with
      | ret v =>
        obtain ⟨s', q1, q2⟩ := putQ_of hs (hk : (putQ n o.dst).go v s fun s => next s H1)
        exact hn _ _ _ q1 q2
      | panic v => exact hK _ _ _ _ hs hk
    · split at he
      · rename_i cx name cs hci
        cases he
        have h0 := rdK_of h
        obtain ⟨t, x, e1, h1⟩ := asX_of h0
        obtain ⟨f, e2, h1⟩ := metC_of h1
        obtain ⟨h2, h3⟩ := chk_of h1
        have h4 := argsC_of h3
        rw [← hs.ev] at e1 h4
        refine Seg.runR hg hb (fun r w => invoke_run r hci e1 e2 h2 w) (hc f _ H _ h4) (fun out H1 hk => ?_)
        cases out with
        | ret v =>
          obtain ⟨s', q1, q2⟩ := putQ_of hs (hk : (putQ n o.dst).go v s fun s => next s H1)
          exact hn _ _ _ q1 q2
        | panic v => exact hK _ _ _ _ hs hk
      · cases he
        split at h
        · rename_i v hp
          rw [← hs.ev] at hp
          exact Seg.panics hg hb hp (hK _ _ _ _ hs h)
        · exact h.elim
/-- A guard's value: true, false, or the one it guards was left out. -/
def gdC (v : AV) (f : Bool → Prop) (g : Prop) : Prop := @AV.casesOn (fun _ => Prop) v False (fun _ _ => False) f (fun _ => False) (fun _ _ _ => False) False (fun _ _ _ _ _ _ => False) False (fun _ _ _ _ _ => False) (fun _ => False) False (fun _ _ _ => False) False (fun _ _ => False) False (fun _ => False) (fun _ => g)
theorem gdC_of {v : AV} {f : Bool → Prop} {g : Prop} (h : gdC v f g) : (∃ b, v = .bool b ∧ f b) ∨ (∃ l, v = .tup l) ∧ g := by
  cases v <;> first | exact .inl ⟨_, rfl, h⟩ | exact .inr ⟨⟨_, rfl⟩, h⟩ | exact h.elim
def OB.go (b : OB) : XO1 := fun call s H Q next => @OB.rec (fun _ => Prop) (fun e => e call s H Q next) b
def xOp (P : Program) (n : Nat) (ops : Array Oper) (o : Oper) : OB :=
  match guardOf ops o with
  | none => noOB
  | some none => xBody P n o
  | some (some (d, want)) => ⟨fun call s H Q next => VT.getC (pathOf d) s fun v => gdC v
      (fun b => @Bool.rec (fun _ => Prop) ((putQ n o.dst).go (.tup []) s fun s => next s H) ((xBody P n o).go call s H Q next) (@Bool.rec (fun _ => Bool) (Bool.not want) want b))
      ((putQ n o.dst).go (.tup []) s fun s => next s H)⟩
theorem OB.go_mk {b : OB} {call : CallQ} {s : VT} {H : AH} {K : KV} {next : VT → AH → Prop} (h : b.go call s H K next) : ∃ e, b = ⟨e⟩ ∧ e call s H K next := by
  cases b with
  | mk e => exact ⟨e, rfl, h⟩
theorem xOp_ok {P : Program} {n : Nat} {ops : Array Oper} {o : Oper} : OSpec P n ops o (xOp P n ops o) := by
  intro e he B l call s H K next Q ts hc hs h hK hn
  unfold xOp at he
  split at he
  · exact noOB_ok e he B l call s H K next Q ts hc hs h hK hn
  · rename_i hg
    exact xBody_step hg he hc hs rfl h hK hn
  · rename_i d want hg
    cases he
    have skip : goesOn ts (some (d, want)) = some false → ((putQ n o.dst).go (.tup []) s fun s => next s H) → Seg P B ops (o :: l) ts H Q := by
      intro hb h1
      obtain ⟨s', q1, q2⟩ := putQ_of hs h1
      refine Seg.step (hint := 0) (ts' := putT ts o.dst (.tup [])) (H' := H) ?_ (hn _ _ _ q1 q2)
      simp [stepO, hg, hb]
    have h1 := VT.getC_of (p := pathOf d) (t := s) h
    have hd : VT.get (pathOf d) s = ts.getD d .any := by
      have := congrFun hs.get d
      exact this.symm
    rw [hd] at h1
    rcases gdC_of h1 with ⟨b, e1, h2⟩ | ⟨⟨vs, e1⟩, h2⟩
    · have hb : goesOn ts (some (d, want)) = some (@Bool.rec (fun _ => Bool) (Bool.not want) want b) := by
        simp only [goesOn, e1]
        cases b <;> rfl
      cases hw : @Bool.rec (fun _ => Bool) (Bool.not want) want b with
      | false =>
        rw [hw] at h2 hb
        exact skip hb h2
      | true =>
        rw [hw] at h2 hb
        obtain ⟨e, he, h3⟩ := OB.go_mk h2
        exact xBody_step hg he hc hs hb h3 hK hn
    · refine skip ?_ h2
      simp only [goesOn, e1]
abbrev XC1 := CallQ → VT → AH → KV → Prop
inductive CB where
  | mk (e : XC1)
def CB.go (b : CB) : XC1 := fun call s H Q => @CB.rec (fun _ => Prop) (fun e => e call s H Q) b
theorem CB.go_mk {b : CB} {call : CallQ} {s : VT} {H : AH} {K : KV} (h : b.go call s H K) : ∃ e, b = ⟨e⟩ ∧ e call s H K := by
  cases b with
  | mk e => exact ⟨e, rfl, h⟩
def xOps (P : Program) (n : Nat) (ops : Array Oper) (l : List Oper) : CB := @List.rec Oper (fun _ => CB) ⟨fun _ s H Q => Q .normal s H⟩ (fun o _ ih => ⟨fun call s H Q => (xOp P n ops o).go call s H Q fun s H => ih.go call s H Q⟩) l
theorem xOps_ok {P : Program} {n : Nat} {ops : Array Oper} {B : Nat} {call : CallQ} (hc : CallQOK P call) {K : KV} {Q : Post} (hK : ∀ x ts' s' H', SRV n ts' s' → K x s' H' → Q x ts' H') : ∀ (l : List Oper) {ts : List AV} {s : VT} {H : AH}, SRV n ts s → (xOps P n ops l).go call s H K → Seg P B ops l ts H Q
  | [], ts, s, H, hs, h => Seg.nil (hK _ _ _ _ hs h)
  | o :: l, ts, s, H, hs, h => by
    obtain ⟨e, he, h1⟩ := OB.go_mk (show (xOp P n ops o).go call s H K fun s H => (xOps P n ops l).go call s H K from h)
    exact xOp_ok e he B l call s H K _ Q ts hc hs h1 hK (fun ts' s' H' q1 q2 => xOps_ok hc hK l q1 q2)
/-! ### regions that draw -/
def seqQ (P : Program) (n : Nat) (l : List Oper) : CB := @List.rec Oper (fun _ => CB) ⟨fun _ s H Q => Q .normal s H⟩ (fun o _ ih => match (compB P).go o with
  | some c => match qp c with
    | some ⟨e⟩ => ⟨fun call s H Q => e s H fun v => (putQ n o.dst).go v s fun s => ih.go call s H Q⟩
    | none => ⟨fun call s H Q => match cstep (evG s.at) H (c.hint 0) with
      | some (v, _, ok) => chk ok (frV v fun v => (putQ n o.dst).go v s fun s => ih.go call s H Q)
      | none => False⟩
  | none => ⟨fun _ _ _ _ => False⟩) l
theorem qp_hint {c : COp} {x : OXp} (h : qp c = some x) (m : Nat) : c.hint m = c := by
  unfold qp at h
  split at h <;> first | rfl | (cases h; done)
theorem seqQ_ok {P : Program} {n : Nat} {call : CallQ} {H : AH} {K : KV} : ∀ (l : List Oper) {ts : List AV} {s : VT} {sl : SL}, SRV n ts s → SR n ts sl → (seqQ P n l).go call s H K → seqS sp P n H (fun sl' => ∃ ts' s', SRV n ts' s' ∧ SR n ts' sl' ∧ K .normal s' H) l sl
  | [], ts, s, sl, hs, hl, h => ⟨ts, s, hs, hl, h⟩
  | o :: l, ts, s, sl, hs, hl, h => by
    have hh : (match comp P o with
      | some c => match qp c with
        | some ⟨e⟩ => (⟨fun call s H Q => e s H fun v => (putQ n o.dst).go v s fun s => (seqQ P n l).go call s H Q⟩ : CB)
        | none => ⟨fun call s H Q => match cstep (evG s.at) H (c.hint 0) with
          | some (v, _, ok) => chk ok (frV v fun v => (putQ n o.dst).go v s fun s => (seqQ P n l).go call s H Q)
          | none => False⟩
      | none => ⟨fun _ _ _ _ => False⟩).go call s H K := h
    clear h
    have he : evG s.at = evG sl.get := by rw [← hs.get, hl.get]
    unfold seqS
    split
    · rename_i c hc
      simp only [hc] at hh
      have fin : ∀ v H', cstep (evG s.at) H (c.hint 0) = some (v, H', true) → ((putQ n o.dst).go v s fun s => (seqQ P n l).go call s H K) → (match cstep (evG sl.get) H (c.hint 0) with
          | some (v, _, ok) => sp ok (seqS sp P n H (fun sl' => ∃ ts' s', SRV n ts' s' ∧ SR n ts' sl' ∧ K .normal s' H) l (putS n sl o.dst v)) False
          | none => False) := by
        intro v H' h1 h2
        rw [he] at h1
        rw [h1]
        obtain ⟨s', q1, q2⟩ := putQ_of hs h2
        exact sp_iff.2 ⟨fun _ => seqQ_ok l q1 (hl.put o.dst v) q2, fun e => by cases e⟩
      split at hh
      · rename_i e hq
        obtain ⟨v, h1, h2⟩ := qp_ok hq s H _ hh
        exact fin v H (by rw [qp_hint hq]; exact h1) h2
      · have hh : (match cstep (evG s.at) H (c.hint 0) with
          | some (v, _, ok) => chk ok (frV v fun v => (putQ n o.dst).go v s fun s => (seqQ P n l).go call s H K)
          | none => False) := hh
        split at hh
        · rename_i v H' ok hst
          obtain ⟨h1, h2⟩ := chk_of hh
          subst h1
          exact fin v H' hst (frV_of (f := fun v => (putQ n o.dst).go v s fun s => (seqQ P n l).go call s H K) h2)
        · exact hh.elim
    · rename_i hc
      simp only [hc] at hh
      exact hh
theorem SRV.list {n : Nat} {ts : List AV} {s : VT} (h : SRV n ts s) : (List.range n).map s.at = ts := by
  rw [← h.get]
  refine List.ext_getElem? fun i => ?_
  rw [List.getElem?_map]
  by_cases e : i < n
  · rw [List.getElem?_range e]
    simp only [Option.map_some, List.getD_eq_getElem?_getD]
    rw [List.getElem?_eq_getElem (by rw [h.len]; exact e)]
    rfl
  · rw [List.getElem?_eq_none (by simp; omega), List.getElem?_eq_none (by rw [h.len]; omega)]
    rfl
theorem VT.at_e (i : Nat) : VT.at .e i = .any := VT.get_e _
/-! ### a schedule for a region that draws -/
def readsG (P : Program) (ops : Array Oper) (o : Oper) : List Nat := (match guardOf ops o with
  | some (some (d, _)) => [d]
  | _ => []) ++ (match (compB P).go o with
  | some c => ((c.hint 0).cxs.map CX.tmps).flatten
  | none => [])
def isDst (ops : Array Oper) (t k : Nat) : Bool := match dstOf ops k with
  | some e => Nat.beq e t
  | none => false
theorem isDst_no {ops : Array Oper} {t k : Nat} (h : isDst ops t k = false) : dstOf ops k ≠ some t := fun e => by simp [isDst, e] at h
/-- May it be reckoned early, beside those of M? -/
def takeOK (P : Program) (n : Nat) (ops : Array Oper) (M : List Nat) (i : Nat) : Bool := match ops[i]? with
  | some o => (match (compB P).go o with
    | some c => isPure (c.hint 0)
    | none => false) && (match o.dst with
    | some d => Nat.blt d n && !(readsG P ops o).contains d && M.all fun k => !isDst ops d k && (match ops[k]? with
      | some q => !(readsG P ops q).contains d
      | none => true)
    | none => false) && (readsG P ops o).all fun t => (besides ops (i :: M) i).all fun k => !isDst ops t k
  | none => false
def PureAt (P : Program) (ops : Array Oper) (k : Nat) : Prop := ∀ o, ops[k]? = some o → ∃ c, comp P o = some c ∧ isPure (c.hint 0) = true
theorem stepV_congrG {P : Program} {ops : Array Oper} {o : Oper} {ts us : List AV} {H : AH} {c : COp} (hc : comp P o = some c) (hp : isPure (c.hint 0) = true) (h : ∀ t ∈ readsG P ops o, ts.getD t .any = us.getD t .any) : stepV P ops 0 o ts H = stepV P ops 0 o us H := by
  have hr : ∀ t ∈ ((c.hint 0).cxs.map CX.tmps).flatten, ts.getD t .any = us.getD t .any := fun t ht => h t (by
    unfold readsG
    rw [compB_eq, hc]
    exact List.mem_append_right _ ht)
  unfold stepV
  cases hg : guardOf ops o with
  | none => rfl
  | some g =>
    have e : goesOn ts g = goesOn us g := by
      cases g with
      | none => rfl
      | some q =>
        obtain ⟨d, want⟩ := q
        have := h d (by unfold readsG; rw [hg]; exact List.mem_append_left _ (List.mem_singleton.2 rfl))
        unfold goesOn
        simp only []
        rw [this]
    simp only [e, hc, cstep_congr hp (ev_congr hr)]
theorem scrub_eq {ops : Array Oper} {js : List Nat} {ts us : List AV} {t : Nat} (h : ts.getD t .any = us.getD t .any) : (scrub ops js ts).getD t .any = (scrub ops js us).getD t .any := by
  by_cases e : ∃ j ∈ js, dstOf ops j = some t
  · rw [scrub_any _ _ _ _ e, scrub_any _ _ _ _ e]
  · have e' : ∀ j ∈ js, dstOf ops j ≠ some t := fun j hj hd => e ⟨j, hj, hd⟩
    rw [scrub_same _ _ _ _ e', scrub_same _ _ _ _ e']
    exact h
theorem contains_no {l : List Nat} {d : Nat} (h : l.contains d = false) : ∀ t ∈ l, t ≠ d := fun t ht e => by
  subst e
  rw [List.contains_iff_mem.2 ht] at h
  cases h
theorem take_valid {P : Program} {n : Nat} {ops : Array Oper} {M : List Nat} {i : Nat} {ts : List AV} {H : AH} {o : Oper} {v : AV} (hn : ts.length = n) (ho : ops[i]? = some o) (ht : takeOK P n ops M i = true) (hM : ∀ k ∈ M, PureAt P ops k) (hv : ValidL P ops M ts H M) (hs : stepV P ops 0 o ts H = some (v, H, true)) :
    ValidL P ops (i :: M) (putT ts (dstOf ops i) v) H (i :: M) ∧ PureAt P ops i := by
  have hdo : dstOf ops i = o.dst := by simp [dstOf, ho]
  unfold takeOK at ht
  simp only [ho, Bool.and_eq_true] at ht
  obtain ⟨⟨t1, t2⟩, t3⟩ := ht
  have hpa : ∃ c, comp P o = some c ∧ isPure (c.hint 0) = true := by
    split at t1
    · rename_i c hc
      rw [compB_eq] at hc
      exact ⟨c, hc, t1⟩
    · cases t1
  obtain ⟨c, hc, hp⟩ := hpa
  split at t2
  rotate_left
  · cases t2
  rename_i d hd
  simp only [Bool.and_eq_true, Bool.not_eq_true'] at t2
  obtain ⟨⟨d1, d2⟩, d3⟩ := t2
  have hdn : d < n := Nat.le_of_ble_eq_true d1
  have rd := contains_no d2
  rw [hdo, hd]
  have same : ∀ t, t ≠ d → (putT ts (some d) v).getD t .any = ts.getD t .any := by
    intro t ht
    rw [putT_get, if_neg]
    rintro ⟨e, _⟩
    cases e
    exact ht rfl
  refine ⟨⟨?_, ?_⟩, fun o' ho' => by rw [ho] at ho'; cases ho'; exact ⟨c, hc, hp⟩⟩
  · unfold ValidOne
    simp only [ho]
    rw [stepV_congrG hc hp (us := ts) (fun t ht => ?_), hs, hd]
    · simp only [valAt]
      rw [putT_get, if_pos ⟨rfl, by rw [hn]; exact hdn⟩]
    · rw [scrub_same _ _ _ _ (fun k hk => isDst_no (by
        have := List.all_eq_true.1 (List.all_eq_true.1 t3 t ht) k hk
        simpa using this)), same t (rd t ht)]
  · suffices ∀ l, (∀ k ∈ l, k ∈ M) → ValidL P ops (i :: M) (putT ts (some d) v) H l from this M (fun k hk => hk)
    intro l
    induction l with
    | nil => intro _; trivial
    | cons k l ih =>
      intro hl
      refine ⟨?_, ih (fun q hq => hl q (List.mem_cons_of_mem _ hq))⟩
      have hkM := hl k List.mem_cons_self
      have hvk := hv.mem k hkM
      unfold ValidOne at hvk ⊢
      have dk := List.all_eq_true.1 d3 k hkM
      cases hok : ops[k]? with
      | none => trivial
      | some q =>
        simp only [hok, Bool.and_eq_true, Bool.not_eq_true'] at hvk dk
        obtain ⟨ck, hck, hpk⟩ := hM k hkM q hok
        have hdk : dstOf ops k = q.dst := by simp [dstOf, hok]
        have rk := contains_no dk.2
        have hvv : valAt (putT ts (some d) v) q.dst = valAt ts q.dst := by
          cases hq : q.dst with
          | none => rfl
          | some dq =>
            simp only [valAt]
            refine same dq (fun e => isDst_no dk.1 ?_)
            rw [hdk, hq, e]
        simp only []
        rw [hvv, ← hvk]
        refine stepV_congrG hck hpk (fun t ht => ?_)
        have htd := rk t ht
        have e1 : (scrub ops (besides ops M k) (putT ts (some d) v)).getD t .any = (scrub ops (besides ops M k) ts).getD t .any := scrub_eq (same t htd)
        have hb : besides ops (i :: M) k = besides ops M k ∨ besides ops (i :: M) k = i :: besides ops M k := by
          unfold besides
          rw [List.filter_cons]
          split
          · exact .inr rfl
          · exact .inl rfl
        rcases hb with hb | hb
        · rw [hb]; exact e1
        · rw [hb]
          simp only [scrub]
          rw [putT_get, if_neg, e1]
          rintro ⟨e, _⟩
          rw [hdo, hd] at e
          cases e
          exact htd rfl
/-- An operation that reads alone, its guard too. -/
def pureB (P : Program) (ops : Array Oper) (o : Oper) : OXp :=
  match (compB P).go o with
  | none => ⟨fun _ _ _ => False⟩
  | some c =>
    match guardOf ops o, qp c with
    | none, _ => ⟨fun _ _ _ => False⟩
    | some none, some ⟨e⟩ => ⟨e⟩
    | some none, none => ⟨qG c⟩
    | some (some (d, want)), some ⟨e⟩ => ⟨fun s H f => VT.getC (pathOf d) s fun v => gdC v (fun b => @Bool.rec (fun _ => Prop) (f (.tup [])) (e s H f) (@Bool.rec (fun _ => Bool) (Bool.not want) want b)) (f (.tup []))⟩
    | some (some (d, want)), none => ⟨fun s H f => VT.getC (pathOf d) s fun v => gdC v (fun b => @Bool.rec (fun _ => Prop) (f (.tup [])) (qG c s H f) (@Bool.rec (fun _ => Bool) (Bool.not want) want b)) (f (.tup []))⟩
where qG (c : COp) : EXp := fun s H f => match cstep (evG s.at) H (c.hint 0) with
  | some (v, _, ok) => chk ok (frV v f)
  | none => False
theorem pureB_ok {P : Program} {n : Nat} {ops : Array Oper} {o : Oper} (hp : ∃ c, comp P o = some c ∧ isPure (c.hint 0) = true) {e : EXp} (he : pureB P ops o = ⟨e⟩) {ts : List AV} {s : VT} {H : AH} {f : AV → Prop} (hs : SRV n ts s) (h : e s H f) : ∃ v, stepV P ops 0 o ts H = some (v, H, true) ∧ f v := by
  obtain ⟨c, hc, hp⟩ := hp
  have gen : ∀ f, pureB.qG c s H f → ∃ v, cstep (CX.ev ts) H (c.hint 0) = some (v, H, true) ∧ f v := by
    intro f h
    unfold pureB.qG at h
    split at h
    · rename_i v H1 ok hst
      obtain ⟨h1, h2⟩ := chk_of h
      subst h1
      have := pure_heap hp hst
      subst this
      rw [hs.ev]
      exact ⟨v, hst, frV_of h2⟩
    · exact h.elim
  have qk : ∀ e1, qp c = some ⟨e1⟩ → ∀ f, e1 s H f → ∃ v, cstep (CX.ev ts) H (c.hint 0) = some (v, H, true) ∧ f v := by
    intro e1 hq f h
    obtain ⟨v, h1, h2⟩ := qp_ok hq s H f h
    rw [hs.ev, qp_hint hq]
    exact ⟨v, h1, h2⟩
  have grd : ∀ d want (g : (AV → Prop) → Prop), guardOf ops o = some (some (d, want)) → (∀ f, g f → ∃ v, cstep (CX.ev ts) H (c.hint 0) = some (v, H, true) ∧ f v) → (VT.getC (pathOf d) s fun v => gdC v (fun b => @Bool.rec (fun _ => Prop) (f (.tup [])) (g f) (@Bool.rec (fun _ => Bool) (Bool.not want) want b)) (f (.tup []))) → ∃ v, stepV P ops 0 o ts H = some (v, H, true) ∧ f v := by
    intro d want g hg hgf h
    have h1 := VT.getC_of (p := pathOf d) (t := s) h
    have hd : VT.get (pathOf d) s = ts.getD d .any := (congrFun hs.get d).symm
    rw [hd] at h1
    rcases gdC_of h1 with ⟨b, e1, h2⟩ | ⟨⟨vs, e1⟩, h2⟩
    · have hb : goesOn ts (some (d, want)) = some (@Bool.rec (fun _ => Bool) (Bool.not want) want b) := by
        simp only [goesOn, e1]
        cases b <;> rfl
      cases hw : @Bool.rec (fun _ => Bool) (Bool.not want) want b with
      | false =>
        rw [hw] at h2 hb
        exact ⟨_, by simp only [stepV, hg, hb], h2⟩
      | true =>
        rw [hw] at h2 hb
        obtain ⟨v, q1, q2⟩ := hgf f h2
        exact ⟨v, by simp only [stepV, hg, hb, hc]; exact q1, q2⟩
    · have hb : goesOn ts (some (d, want)) = some false := by simp only [goesOn, e1]
      exact ⟨_, by simp only [stepV, hg, hb], h2⟩
  unfold pureB at he
  rw [compB_eq, hc] at he
  simp only [] at he
  split at he
  · cases he; exact h.elim
  · rename_i hg hq
    cases he
    obtain ⟨v, q1, q2⟩ := qk _ hq f h
    exact ⟨v, by simp only [stepV, hg, goesOn, hc]; exact q1, q2⟩
  · rename_i hg hq
    cases he
    obtain ⟨v, q1, q2⟩ := gen f h
    exact ⟨v, by simp only [stepV, hg, goesOn, hc]; exact q1, q2⟩
  · rename_i d want e1 hg hq
    cases he
    exact grd d want (fun f => e1 s H f) hg (qk _ hq) h
  · rename_i d want hg hq
    cases he
    exact grd d want (fun f => pureB.qG c s H f) hg gen h
inductive EB where
  | mk (e : CallQ → VT → AH → KV → (AV → AH → Prop) → Prop)
def EB.go (b : EB) (call : CallQ) (s : VT) (H : AH) (K : KV) (f : AV → AH → Prop) : Prop := @EB.rec (fun _ => Prop) (fun e => e call s H K f) b
def effBody (P : Program) (o : Oper) : EB :=
  match (compB P).go o with
  | some c => ⟨fun _ s H _ f => @OX.rec (fun _ => Prop) (fun e => e s H f) (qy c)⟩
  | none => match callC o with
    | some (cx, cs) => ⟨fun call s H Q f => rdK cx s fun v => asF v fun g a c => chk (isGo P g) (argsC cs s fun m => apC m c fun m => apC a m fun m => call g m H fun out H => outC out (fun v => f v H) (fun v => Q (.panic v) s H))⟩
    | none => match callI o with
      | some (cx, name, cs) => ⟨fun call s H Q f => rdK cx s fun v => asX v fun t x => metC P t name fun g => chk (isGo P g) (argsC cs s fun m => call g (x :: m) H fun out H => outC out (fun v => f v H) (fun v => Q (.panic v) s H))⟩
      | none => ⟨fun _ _ _ _ _ => False⟩
def effB (P : Program) (ops : Array Oper) (o : Oper) : EB :=
  match guardOf ops o with
  | none => ⟨fun _ _ _ _ _ => False⟩
  | some none => effBody P o
  | some (some (d, want)) => ⟨fun call s H Q f => VT.getC (pathOf d) s fun v => gdC v (fun b => @Bool.rec (fun _ => Prop) (f (.tup []) H) ((effBody P o).go call s H Q f) (@Bool.rec (fun _ => Bool) (Bool.not want) want b)) (f (.tup []) H)⟩
def postV (n : Nat) (K : KV) : Post := fun x ts' H' => ∃ s', SRV n ts' s' ∧ K x s' H'
theorem effBody_ok {P : Program} {n B : Nat} {ops : Array Oper} {o : Oper} {j : Nat} (ho : ops[j]? = some o) {g : Option (Nat × Bool)} (hg : guardOf ops o = some g) {call : CallQ} (hc : CallQOK P call) {ts : List AV} {s : VT} {H : AH} {K : KV} {f : AV → AH → Prop} (hs : SRV n ts s) (hb : goesOn ts g = some true) (h : (effBody P o).go call s H K f) : OpJ P B ops (postV n K) j ts H f := by
  unfold effBody at h
  split at h
  · rename_i c hcm
    rw [compB_eq] at hcm
    have h : @OX.rec (fun _ => Prop) (fun e => e s H f) (qy c) := h
    cases hq : qy c with
    | mk e =>
    rw [hq] at h
    obtain ⟨m, v, H1, h1, h2⟩ := qy_ok hq s H f h
    rw [← hs.ev] at h1
    exact OpJ.step m ho (by simp only [stepV, hg, hb, hcm]; exact h1) h2
  · split at h
    · rename_i cx cs hcc
      have h0 := rdK_of (s := s) (c := cx) h
      obtain ⟨q, a, c, e1, h1⟩ := asF_of h0
      obtain ⟨h2, h3⟩ := chk_of h1
      have h4 := argsC_of h3
      have h5 := apC_of h4
      have h6 := apC_of h5
      have hco : callOf ts o = some (q, a ++ cs.map (CX.ev ts) ++ c) := by
        rw [callOfG_eq]
        refine callC_of hcc ?_
        rw [hs.ev]; exact e1
      rw [hs.ev, List.append_assoc] at hco
      refine OpJ.runK ho hg hb hco h2 (hc q _ H _ h6) (fun out H1 hk => ?_)
      cases out with
      | ret v => exact hk
      | panic v => exact ⟨s, hs, hk⟩
    · split at h
      · rename_i cx name cs hci
        have h0 := rdK_of (s := s) (c := cx) h
        obtain ⟨t, x, e1, h1⟩ := asX_of h0
        obtain ⟨q, e2, h1⟩ := metC_of h1
        obtain ⟨h2, h3⟩ := chk_of h1
        have h4 := argsC_of h3
        rw [← hs.ev] at e1 h4
        refine OpJ.runR ho hg hb (fun r w => invoke_run r hci e1 e2 h2 w) (hc q _ H _ h4) (fun out H1 hk => ?_)
        cases out with
        | ret v => exact hk
        | panic v => exact ⟨s, hs, hk⟩
      · exact h.elim
theorem effB_ok {P : Program} {n B : Nat} {ops : Array Oper} {o : Oper} {j : Nat} (ho : ops[j]? = some o) {call : CallQ} (hc : CallQOK P call) {ts : List AV} {s : VT} {H : AH} {K : KV} {f : AV → AH → Prop} (hs : SRV n ts s) (h : (effB P ops o).go call s H K f) : OpJ P B ops (postV n K) j ts H f := by
  unfold effB at h
  split at h
  · exact h.elim
  · rename_i hg
    exact effBody_ok ho hg hc hs rfl h
  · rename_i d want hg
    have h1 := VT.getC_of (p := pathOf d) (t := s) h
    have hd : VT.get (pathOf d) s = ts.getD d .any := (congrFun hs.get d).symm
    rw [hd] at h1
    rcases gdC_of h1 with ⟨b, e1, h2⟩ | ⟨⟨vs, e1⟩, h2⟩
    · have hb : goesOn ts (some (d, want)) = some (@Bool.rec (fun _ => Bool) (Bool.not want) want b) := by
        simp only [goesOn, e1]
        cases b <;> rfl
      cases hw : @Bool.rec (fun _ => Bool) (Bool.not want) want b with
      | false =>
        rw [hw] at h2 hb
        exact OpJ.step 0 ho (by simp only [stepV, hg, hb]) h2
      | true =>
        rw [hw] at h2 hb
        exact effBody_ok ho hg hc hs hb h2
    · have hb : goesOn ts (some (d, want)) = some false := by simp only [goesOn, e1]
      exact OpJ.step 0 ho (by simp only [stepV, hg, hb]) h2
def scrubC (n : Nat) (ops : Array Oper) (js : List Nat) : VT → (VT → Prop) → Prop := @List.rec Nat (fun _ => VT → (VT → Prop) → Prop) (fun s f => f s) (fun j _ ih s f => ih s fun s => (putQ n (dstOf ops j)).go .any s f) js
theorem scrubC_of {n : Nat} {ops : Array Oper} : ∀ {js : List Nat} {ts : List AV} {s : VT} {f : VT → Prop}, SRV n ts s → scrubC n ops js s f → ∃ s', SRV n (scrub ops js ts) s' ∧ f s'
  | [], ts, s, f, hs, h => ⟨s, hs, h⟩
  | j :: js, ts, s, f, hs, h => by
    obtain ⟨s1, h1, h2⟩ := scrubC_of (js := js) (f := fun s => (putQ n (dstOf ops j)).go .any s f) hs h
    obtain ⟨s2, h3, h4⟩ := putQ_of h1 h2
    exact ⟨s2, h3, h4⟩
def drsB (P : Program) (n : Nat) (ops : Array Oper) (f : Nat) (M L : List Nat) : CB := ⟨fun call s H Q => drS sp P (fun f as H K => some (call f as H K)) ops (fun x ts' H' => bif Nat.beq ts'.length n then fillC ts' 0 .e fun s => Q x s H' else False) f M L ((List.range n).map s.at) H⟩
def takeB (P : Program) (n : Nat) (ops : Array Oper) (i : Nat) (r : CB) : CB :=
  match ops[i]? with
  | some o => ⟨fun call s H Q => @OXp.rec (fun _ => Prop) (fun e => e s H fun v => (putQ n o.dst).go v s fun s => r.go call s H Q) (pureB P ops o)⟩
  | none => ⟨fun _ _ _ _ => False⟩
def execB (P : Program) (n : Nat) (ops : Array Oper) (M : List Nat) (j : Nat) (r : CB) : CB :=
  match ops[j]? with
  | some o => match besides ops M j with
    | [] => ⟨fun call s H Q => (effB P ops o).go call s H Q fun v H => (putQ n o.dst).go v s fun s => r.go call s H Q⟩
    | k :: ks => ⟨fun call s H Q => scrubC n ops (k :: ks) s fun s1 => (effB P ops o).go call s1 H Q fun v H => (putQ n o.dst).go v s fun s => validS sp P ops (k :: ks) ((List.range n).map s.at) H (r.go call s H Q) (k :: ks)⟩
  | none => ⟨fun _ _ _ _ => False⟩
end
end Go.Eng
