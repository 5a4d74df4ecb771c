/- The engine, forty-second part: a range over a function that gives nothing. -/
import Derived.Test.YtilmgiompalggaaGreatDoorEn32
import Derived.RangeFuncLeaves
import Derived.RangeFuncRecord
import Derived.ControlIn
namespace Go.Eng
open Go Go.RowKit
set_option linter.unusedVariables false
set_option linter.unusedSimpArgs false
noncomputable section
/-- What a range over a function leaves among the deferred calls: nothing, or one mark. -/
def MB (N : Nat) : Bool → World → List Deferred → Prop
  | false, w, ds => ds = [] ∧ N ≤ w.heap.size
  | true, w, ds => ∃ r, ds = [{ target := .collected r, args := #[] }] ∧ w.heap[r]? = some (.deferred (some [])) ∧ N ≤ r
theorem not_blk {μ : Mu} {H : AH} {w : World} (s : Sat μ H w) {r : Nat} {o : Obj} (hr : w.heap[r]? = some o) (h1 : ∀ C t fz, o ≠ .cells C t fz) (h2 : ∀ en ck, o ≠ .map en ck) {b : Nat} {x : ABlk} {l : Loc} (hb : H.get b = some x) (hl : μ b = some l) : l.blk ≠ r := by
  intro e
  obtain ⟨l', g1, g2⟩ := s.blk b x hb
  rw [hl] at g1
  cases g1
  unfold BSat at g2
  split at g2
  · obtain ⟨en, ck, q, _⟩ := g2
    rw [e, hr] at q
    cases q
    exact h2 _ _ rfl
  · obtain ⟨_, C, t, fz, q, _⟩ := g2
    rw [e, hr] at q
    cases q
    exact h1 _ _ _ rfl
theorem MB.keep {B N : Nat} {μ μ' : Mu} {H H' : AH} {w w' : World} (s : Sat μ H w) (f : Fw B μ H μ' H' w w') : ∀ {fl : Bool} {ds : List Deferred}, MB N fl w ds → MB N fl w' ds
  | false, _, h => ⟨h.1, Nat.le_trans h.2 f.size⟩
  | true, _, ⟨r, h1, h2, h3⟩ => ⟨r, h1, by
    rw [f.same r ((Array.getElem?_eq_some_iff.1 h2).1) (fun b x l q1 _ q3 => not_blk s h2 (fun _ _ _ e => by cases e) (fun _ _ e => by cases e) q1 q3)]
    exact h2, h3⟩
abbrev PostM := AX → List AV → AH → Bool → Prop
def LiftM (B N : Nat) (Q : PostM) (μ0 : Mu) (H0 : AH) (w0 : World) : Exit → Act → World → Prop := fun e a w =>
  ∃ x ts H fl μ, Q x ts H fl ∧ XRel μ x e ∧ Rel μ ts a.tmps ∧ Sat μ H w ∧ Fw B μ0 H0 μ H w0 w ∧ MB N fl w a.defers
theorem LiftM.trans {B N : Nat} {Q : PostM} {μ0 μ1 : Mu} {H0 H1 : AH} {w0 w1 : World} {e : Exit} {a : Act} {w : World} (f : Fw B μ0 H0 μ1 H1 w0 w1) (h : LiftM B N Q μ1 H1 w1 e a w) : LiftM B N Q μ0 H0 w0 e a w := by
  obtain ⟨x, ts, H, fl, μ, h1, h2, h3, h4, h5, h6⟩ := h
  exact ⟨x, ts, H, fl, μ, h1, h2, h3, h4, f.trans h5, h6⟩
def TriM (P : Program) (B N : Nat) (c : Code) (ts : List AV) (H : AH) (fl : Bool) (Q : PostM) : Prop :=
  ∀ μ w a, Rel μ ts a.tmps → Sat μ H w → B ≤ H.next → MB N fl w a.defers → c.wp P (LiftM B N Q μ H w) a w
theorem TriM.of {P : Program} {B N : Nat} {c : Code} {ts : List AV} {H : AH} {fl : Bool} {Q : PostM} (h : Tri P B c ts H (fun x ts H' => Q x ts H' fl)) : TriM P B N c ts H fl Q := fun μ w a r s hB hd => by
  refine wp_mono (h μ w a r s hB) (fun e a1 w1 hq => ?_)
  obtain ⟨x, ts1, H1, μ1, h1, h2, h3, h4, h5, h6⟩ := hq
  refine ⟨x, ts1, H1, fl, μ1, h1, h2, h3, h4, h5, ?_⟩
  rw [h6]
  exact MB.keep s h5 hd
def nextM (P : Program) (B N : Nat) (d : Code) (Q : PostM) : PostM
  | .normal, ts, H, fl => TriM P B N d ts H fl Q
  | x, ts, H, fl => Q x ts H fl
theorem TriM.seq' {P : Program} {B N : Nat} {c d : Code} {ts : List AV} {H : AH} {fl : Bool} {Q : PostM} (h : TriM P B N c ts H fl (nextM P B N d Q)) : TriM P B N (.seq c d) ts H fl Q := fun μ w a r s hB hd => by
  refine wp_seq (wp_mono (h μ w a r s hB hd) (fun e a1 w1 hq => ?_))
  obtain ⟨x, ts1, H1, fl1, μ1, h1, h2, h3, h4, h5, h6⟩ := hq
  cases x with
  | normal =>
    simp only [XRel] at h2
    subst h2
    have := h1 μ1 w1 a1 h3 h4 h5.nx h6
    exact wp_mono this (fun e a w hl => LiftM.trans h5 hl)
  | exit id => simp only [XRel] at h2; subst h2; exact ⟨.exit id, ts1, H1, fl1, μ1, h1, rfl, h3, h4, h5, h6⟩
  | goto l => simp only [XRel] at h2; subst h2; exact ⟨.goto l, ts1, H1, fl1, μ1, h1, rfl, h3, h4, h5, h6⟩
  | ret => simp only [XRel] at h2; subst h2; exact ⟨.ret, ts1, H1, fl1, μ1, h1, rfl, h3, h4, h5, h6⟩
  | panic v => obtain ⟨xv, rfl, hv⟩ := h2; exact ⟨.panic v, ts1, H1, fl1, μ1, h1, ⟨xv, rfl, hv⟩, h3, h4, h5, h6⟩
theorem TriM.cond {P : Program} {B N : Nat} {c : Operand} {x y : Code} {ts : List AV} {H : AH} {fl : Bool} {Q : PostM} (b : Bool) (hb : boolAt ts c = some b) (h1 : b = true → TriM P B N x ts H fl Q) (h2 : b = false → TriM P B N y ts H fl Q) : TriM P B N (.cond c x y) ts H fl Q := fun μ w a r s hB hd => by
  refine wp_cond (boolAt_rel r hb) ?_
  cases b
  · exact h2 rfl μ w a r s hB hd
  · exact h1 rfl μ w a r s hB hd
def blockM (id : Nat) (Q : PostM) : PostM
  | .exit id', ts, H, fl => if id' = id then Q .normal ts H fl else Q (.exit id') ts H fl
  | x, ts, H, fl => Q x ts H fl
theorem TriM.block {P : Program} {B N : Nat} {id : Nat} {c : Code} {ts : List AV} {H : AH} {fl : Bool} {Q : PostM} (h : TriM P B N c ts H fl (blockM id Q)) : TriM P B N (.block id c) ts H fl Q := fun μ w a r s hB hd => by
  refine wp_block (wp_mono (h μ w a r s hB hd) (fun e a1 w1 hq => ?_))
  obtain ⟨x, ts1, H1, fl1, μ1, h1, h2, h3⟩ := hq
  cases x with
  | normal => simp only [XRel] at h2; subst h2; exact ⟨.normal, ts1, H1, fl1, μ1, h1, rfl, h3⟩
  | exit id' =>
    simp only [XRel] at h2
    subst h2
    simp only [Exit.inBlock]
    simp only [blockM] at h1
    split
    · rename_i e
      rw [if_pos e] at h1
      exact ⟨.normal, ts1, H1, fl1, μ1, h1, rfl, h3⟩
    · rename_i e
      rw [if_neg e] at h1
      exact ⟨.exit id', ts1, H1, fl1, μ1, h1, rfl, h3⟩
  | goto l => simp only [XRel] at h2; subst h2; exact ⟨.goto l, ts1, H1, fl1, μ1, h1, rfl, h3⟩
  | ret => simp only [XRel] at h2; subst h2; exact ⟨.ret, ts1, H1, fl1, μ1, h1, rfl, h3⟩
  | panic v => obtain ⟨xv, rfl, hv⟩ := h2; exact ⟨.panic v, ts1, H1, fl1, μ1, h1, ⟨xv, rfl, hv⟩, h3⟩
def scopeM (Q : PostM) : PostM
  | .goto _, _, _, _ => False
  | x, ts, H, fl => Q x ts H fl
theorem TriM.scope {P : Program} {B N : Nat} {c : Code} {ts : List AV} {H : AH} {fl : Bool} {Q : PostM} (h : TriM P B N c ts H fl (scopeM Q)) : TriM P B N (.scope c) ts H fl Q := fun μ w a r s hB hd => by
  refine wp_scope_straight (wp_mono (h μ w a r s hB hd) (fun e a1 w1 hq => ?_))
  obtain ⟨x, ts1, H1, fl1, μ1, h1, h2, h3⟩ := hq
  cases x with
  | normal => simp only [XRel] at h2; subst h2; exact ⟨.normal, ts1, H1, fl1, μ1, h1, rfl, h3⟩
  | exit id' => simp only [XRel] at h2; subst h2; exact ⟨.exit id', ts1, H1, fl1, μ1, h1, rfl, h3⟩
  | goto l => exact h1.elim
  | ret => simp only [XRel] at h2; subst h2; exact ⟨.ret, ts1, H1, fl1, μ1, h1, rfl, h3⟩
  | panic v => obtain ⟨xv, rfl, hv⟩ := h2; exact ⟨.panic v, ts1, H1, fl1, μ1, h1, ⟨xv, rfl, hv⟩, h3⟩
/-- What lies elsewhere turns nothing. -/
theorem Sat.besides {μ : Mu} {H : AH} {w w' : World} (s : Sat μ H w) (h : ∀ b x l, H.get b = some x → μ b = some l → w'.heap[l.blk]? = w.heap[l.blk]?) : Sat μ H w' :=
  ⟨s.fresh, fun b x hx => by
    obtain ⟨l, g1, g2⟩ := s.blk b x hx
    exact ⟨l, g1, g2.move (fun _ _ q => q) (h b x l hx g1)⟩, s.sep⟩
theorem TriM.range {P : Program} {B N : Nat} {g : Operand} {ps : Array Tmp} {assign body : Code} {ts : List AV} {H : AH} {Q : PostM} {cx : CX} {f : FuncId} {a0 c0 : List AV} {K : AOut → AH → Prop} (hg : opd g = some cx) (he : CX.ev ts cx = .fn (.func f) a0 c0) (hgo : isGo P f = true)
    (hr : RunsK P f (a0 ++ (.any :: c0)) H (fun out H' => outC out (fun v => K (.ret v) H') (fun _ => False))) (hn : ∀ v H', K (.ret v) H' → Q .normal ts H' true) : TriM P B N (.rangeFunc g ps assign body) ts H false Q := fun μ w a r s hB hd => by
  obtain ⟨hd, hN⟩ := hd
  refine wpIn_wide (n := 0).1 (wpIn_rangeFunc (fun fn _ => ?_))
  have hx := opd_rel hg r
  rw [he] at hx
  obtain ⟨a', c', g1, g2, g3⟩ := hx
  let w1 : World := (w.alloc (.deferred (some []))).alloc (.loop { state := .ready, pending := none, fn := fn, tmps := a.tmps, params := ps, assign := assign, body := body, defers := w.heap.size })
  have hsz : w1.heap.size = w.heap.size + 2 := by
    show ((w.heap.push _).push _).size = _
    simp
  have old : ∀ k, k < w.heap.size → w1.heap[k]? = w.heap[k]? := fun k hk => by
    show ((w.heap.push _).push _)[k]? = _
    rw [Array.getElem?_push_lt (by simp; omega), ← Array.getElem?_eq_getElem (by simp; omega)]
    rw [Array.getElem?_push_lt hk, ← Array.getElem?_eq_getElem hk]
  have hdf : w1.heap[w.heap.size]? = some (.deferred (some [])) := by
    show ((w.heap.push _).push _)[w.heap.size]? = _
    rw [Array.getElem?_push_lt (by simp), ← Array.getElem?_eq_getElem (by simp)]
    simp
  have hlp : ∃ lp : Loop, w1.heap[w.heap.size + 1]? = some (.loop lp) ∧ lp.state = .ready ∧ lp.pending = none := by
    refine ⟨{ state := .ready, pending := none, fn := fn, tmps := a.tmps, params := ps, assign := assign, body := body, defers := w.heap.size }, ?_, rfl, rfl⟩
    show ((w.heap.push _).push _)[w.heap.size + 1]? = _
    have : w.heap.size + 1 = (w.heap.push (Obj.deferred (some []))).size := by simp
    rw [this, Array.getElem?_push_size]
  obtain ⟨lp, hlp, hst, hpn⟩ := hlp
  have s1 : Sat μ H w1 := s.besides (fun b x l hb hl => by
    obtain ⟨l', q1, q2⟩ := s.blk b x hb
    rw [hl] at q1
    cases q1
    exact old _ q2.blk_lt)
  have y : VRels μ (a0 ++ (.any :: c0)) (a' ++ #[Value.func (.yield (w.heap.size + 1)) #[] #[]] ++ c').toList := by
    simp only [Array.toList_append, List.append_assoc]
    exact g2.append (VRels.append (vs := [.any]) (xs := [_]) ⟨trivial, trivial⟩ g3)
  refine ⟨w.heap.size + 1, _, w1, ⟨.fn (.func f) c', a' ++ #[Value.func (.yield (w.heap.size + 1)) #[] #[]]⟩, w1, f, a' ++ #[Value.func (.yield (w.heap.size + 1)) #[] #[]] ++ c', w1, run_enterLoop_outer fn a.tmps ps assign body, ?_, fun _ _ => trivial, ?_, fun e => by simp [Fence.wide] at e, ?_⟩
  · have ec : a.eval (.const (Value.func (.yield (w.heap.size + 1)) #[] #[])) = Value.func (.yield (w.heap.size + 1)) #[] #[] := rfl
    simp [resolve, rangeCall, g1, Deferred.ofValue, ec]
  · have := run_callFunc (P := P) (vs := a' ++ #[Value.func (.yield (w.heap.size + 1)) #[] #[]] ++ c') hgo w1
    simpa [invoke] using this
  · refine callsIn_wide.2 (Calls.mono (hr μ w1 _ y s1) (fun e w3 hq => ?_))
    obtain ⟨out, H3, μ3, k1, k2, k3, k4⟩ := hq
    cases out with
    | panic v => exact k1.elim
    | ret v =>
      obtain ⟨x, rfl, hx⟩ := k2
      have keep : ∀ k o, w1.heap[k]? = some o → (∀ C t fz, o ≠ Obj.cells C t fz) → (∀ en ck, o ≠ Obj.map en ck) → w3.heap[k]? = some o := fun k o hk h1 h2 => by
        rw [k4.same k ((Array.getElem?_eq_some_iff.1 hk).1) (fun b x l q1 _ q3 => not_blk s1 hk h1 h2 q1 q3)]
        exact hk
      have hl3 := keep _ _ hlp (fun _ _ _ e => by cases e) (fun _ _ e => by cases e)
      have hd3 := keep _ _ hdf (fun _ _ _ e => by cases e) (fun _ _ e => by cases e)
      refine ⟨lp.pending, w3.putObj (w.heap.size + 1) (.loop { lp with state := .exhausted }), ?_, ?_⟩
      · exact run_endLoop (P := P) hl3 (by rw [hst]; simp)
      · have s4 : Sat μ3 H3 (w3.putObj (w.heap.size + 1) (.loop { lp with state := .exhausted })) := k3.besides (fun b x l hb hl => World.putObj_heap_other (not_blk k3 hl3 (fun _ _ _ e => by cases e) (fun _ _ e => by cases e) hb hl))
        have mle : MuLe μ μ3 := VRel.keep s1 k4
        have fin : LiftM B N Q μ H w .normal { a with defers := [{ target := .collected w.heap.size, args := #[] }] ++ a.defers } (w3.putObj (w.heap.size + 1) (.loop { lp with state := .exhausted })) := by
         refine ⟨.normal, ts, H3, true, μ3, hn v H3 k1, rfl, r.ext mle, s4, ⟨fun b hb => k4.le b (Nat.lt_of_lt_of_le hb hB), Nat.le_trans hB k4.nx, k4.os, k4.tape, k4.output, ?_, fun k hk hno => ?_, fun b x l q1 q2 => ?_⟩, w.heap.size, ?_, ?_, hN⟩
         · rw [World.putObj_size]
           have := k4.size
           omega
         · rw [World.putObj_heap_other (by omega), k4.same k (by omega) hno]
           exact old k hk
         · rcases k4.from_ b x l q1 q2 with h | h
           · exact .inl (by omega)
           · exact .inr h
         · simp [hd]
         · rw [World.putObj_heap_other (by omega)]
           exact hd3
        revert fin
        generalize w3.putObj (w.heap.size + 1) (.loop { lp with state := .exhausted }) = w4
        intro fin
        rw [hpn]
        exact fin
/-! ### the evaluator -/
abbrev KVM := AX → VT → AH → Bool → Prop
inductive CBM where
  | mk (e : CallQ → VT → AH → Bool → KVM → Prop)
def CBM.go (b : CBM) (call : CallQ) (s : VT) (H : AH) (fl : Bool) (Q : KVM) : Prop := @CBM.rec (fun _ => Prop) (fun e => e call s H fl Q) b
def plainM (b : CB) : CBM := ⟨fun call s H fl Q => b.go call s H fun x s H => Q x s H fl⟩
def noCBM : CBM := ⟨fun _ _ _ _ _ => False⟩
def seqKM (b : CBM) (call : CallQ) (Q : KVM) : KVM := fun x s H fl => @AX.casesOn (fun _ => Prop) x (b.go call s H fl Q) (fun id => Q (.exit id) s H fl) (fun l => Q (.goto l) s H fl) (Q .ret s H fl) (fun v => Q (.panic v) s H fl)
def blkKM (id : Nat) (Q : KVM) : KVM := fun x s H fl => @AX.casesOn (fun _ => Prop) x (Q .normal s H fl) (fun i => @Bool.rec (fun _ => Prop) (Q (.exit i) s H fl) (Q .normal s H fl) (Nat.beq i id)) (fun l => Q (.goto l) s H fl) (Q .ret s H fl) (fun v => Q (.panic v) s H fl)
def scpKM (Q : KVM) : KVM := fun x s H fl => @AX.casesOn (fun _ => Prop) x (Q .normal s H fl) (fun i => Q (.exit i) s H fl) (fun l => False) (Q .ret s H fl) (fun v => Q (.panic v) s H fl)
def condQM (c : Operand) (a b : CBM) : CBM :=
  match c with
  | .tmp d => ⟨fun call s H fl Q => VT.getC (pathOf d) s fun v => asB v fun q => @Bool.rec (fun _ => Prop) (b.go call s H fl Q) (a.go call s H fl Q) q⟩
  | .const (.bool true) => a
  | .const (.bool false) => b
  | _ => noCBM
def rangeM (P : Program) (g : Operand) : CBM :=
  match opd g with
  | some cx => ⟨fun call s H fl Q => rdK cx s fun v => asF v fun f a c => chk (isGo P f) (chk (Bool.not fl) (apC a (.any :: c) fun m => call f m H fun out H' => outC out (fun _ => Q .normal s H' true) (fun _ => False)))⟩
  | none => noCBM
def xCM (P : Program) (n m : Nat) (c : Code) : CBM := @Code.rec (fun _ => CBM)
  (plainM (xC P n m .skip))
  (fun id ops d => plainM (xC P n m (.region id ops d)))
  (fun _ _ a b => ⟨fun call s H fl Q => a.go call s H fl (seqKM b call Q)⟩)
  (fun o _ _ a b => condQM o a b)
  (fun id _ a => ⟨fun call s H fl Q => a.go call s H fl (blkKM id Q)⟩)
  (fun a _ => plainM (xC P n m (.loop a)))
  (fun g _ _ _ _ _ => rangeM P g)
  (fun id => plainM (xC P n m (.exit id)))
  (fun _ a => ⟨fun call s H fl Q => a.go call s H fl (scpKM Q)⟩)
  (fun l => plainM (xC P n m (.label l)))
  (fun l => plainM (xC P n m (.goto l)))
  (plainM (xC P n m .ret))
  (fun _ => noCBM) c
theorem plainM_ok {P : Program} (hm : P.follows .mixedOrders = true) {n m B N : Nat} {call : CallQ} (hc : CallQOK P call) (c : Code) {Q : PostM} {K : KVM} {ts : List AV} {s : VT} {H : AH} {fl : Bool} (hs : SRV n ts s) (h : (plainM (xC P n m c)).go call s H fl K) (hK : ∀ x ts' s' H' fl', SRV n ts' s' → K x s' H' fl' → Q x ts' H' fl') : TriM P B N c ts H fl Q :=
  TriM.of (xC_ok hm hc c hs (show (xC P n m c).go call s H fun x s H => K x s H fl from h) (fun x ts' s' H' q1 q2 => hK _ _ _ _ _ q1 q2))
theorem xCM_ok {P : Program} (hm : P.follows .mixedOrders = true) {n m B N : Nat} {call : CallQ} (hc : CallQOK P call) (c : Code) : ∀ {Q : PostM} {K : KVM} {ts : List AV} {s : VT} {H : AH} {fl : Bool}, SRV n ts s → (xCM P n m c).go call s H fl K → (∀ x ts' s' H' fl', SRV n ts' s' → K x s' H' fl' → Q x ts' H' fl') → TriM P B N c ts H fl Q := by
  induction c with
  | skip => intro Q K ts s H fl hs h q; exact plainM_ok hm hc _ hs h q
  | label l => intro Q K ts s H fl hs h q; exact plainM_ok hm hc _ hs h q
  | ret => intro Q K ts s H fl hs h q; exact plainM_ok hm hc _ hs h q
  | exit id => intro Q K ts s H fl hs h q; exact plainM_ok hm hc _ hs h q
  | goto l => intro Q K ts s H fl hs h q; exact plainM_ok hm hc _ hs h q
  | loop a _ => intro Q K ts s H fl hs h q; exact plainM_ok hm hc _ hs h q
  | refuse w => intro Q K ts s H fl hs h q; exact h.elim
  | rangeFunc g ps a b _ _ =>
    intro Q K ts s H fl hs h q
    have h : (rangeM P g).go call s H fl K := h
    unfold rangeM at h
    split at h
    · rename_i cx hcx
      have h0 := rdK_of (c := cx) (s := s) h
      obtain ⟨f, a0, c0, e1, h1⟩ := asF_of h0
      obtain ⟨h2, h3⟩ := chk_of h1
      obtain ⟨h4, h5⟩ := chk_of h3
      have h6 := apC_of h5
      rw [← hs.ev] at e1
      have hfl : fl = false := by cases fl <;> first | rfl | (exact absurd h4 (by decide))
      subst hfl
      exact TriM.range (K := fun _ H' => K .normal s H' true) hcx e1 h2 (hc f _ H _ h6) (fun v H' hk => q _ _ _ _ _ hs hk)
    · exact h.elim
  | region id ops d => intro Q K ts s H fl hs h q; exact plainM_ok hm hc _ hs h q
  | seq a b iha ihb =>
    intro Q K ts s H fl hs h q
    have h1 : (xCM P n m a).go call s H fl (seqKM (xCM P n m b) call K) := h
    refine TriM.seq' (iha hs h1 (fun x ts1 s1 H1 fl1 hs1 h2 => ?_))
    cases x with
    | normal => exact ihb hs1 h2 q
    | _ => exact q _ _ _ _ _ hs1 h2
  | cond o a b iha ihb =>
    intro Q K ts s H fl hs h q
    have h : (condQM o (xCM P n m a) (xCM P n m b)).go call s H fl K := h
    cases o with
    | tmp d =>
      have h1 := VT.getC_of (p := pathOf d) (t := s) h
      obtain ⟨b0, e1, h2⟩ := asB_of h1
      have e1 : s.at d = .bool b0 := e1
      have hbt : boolAt ts (.tmp d) = some b0 := by
        rw [boolAtG_eq, hs.get]
        simp [boolAtG, e1]
      refine TriM.cond b0 hbt (fun e => ?_) (fun e => ?_)
      · subst e; exact iha hs h2 q
      · subst e; exact ihb hs h2 q
    | const v =>
      cases v with
      | bool b0 =>
        have hbt : boolAt ts (.const (.bool b0)) = some b0 := rfl
        refine TriM.cond b0 hbt (fun e => ?_) (fun e => ?_)
        · subst e; exact iha hs h q
        · subst e; exact ihb hs h q
      | _ => exact h.elim
    | _ => exact h.elim
  | block id a ih =>
    intro Q K ts s H fl hs h q
    have h1 : (xCM P n m a).go call s H fl (blkKM id K) := h
    refine TriM.block (ih hs h1 (fun x ts1 s1 H1 fl1 hs1 h2 => ?_))
    cases x with
    | exit i =>
      simp only [blockM]
      have h2 : @Bool.rec (fun _ => Prop) (K (.exit i) s1 H1 fl1) (K .normal s1 H1 fl1) (Nat.beq i id) := h2
      rcases hb : Nat.beq i id with _ | _
      · rw [hb] at h2
        rw [if_neg (fun e => by rw [e] at hb; simp at hb)]
        exact q _ _ _ _ _ hs1 h2
      · rw [hb] at h2
        rw [if_pos (Nat.eq_of_beq_eq_true hb)]
        exact q _ _ _ _ _ hs1 h2
    | _ => exact q _ _ _ _ _ hs1 h2
  | scope a ih =>
    intro Q K ts s H fl hs h q
    have h1 : (xCM P n m a).go call s H fl (scpKM K) := h
    refine TriM.scope (ih hs h1 (fun x ts1 s1 H1 fl1 hs1 h2 => ?_))
    cases x with
    | goto i => exact h2.elim
    | _ => exact q _ _ _ _ _ hs1 h2
end
end Go.Eng
/- The engine, forty-third part: functions with a range over a function that gives nothing, as boxes. -/
namespace Go.Eng
open Go Go.RowKit
set_option linter.unusedVariables false
set_option linter.unusedSimpArgs false
noncomputable section
/-- A function that ranges over a function that gives nothing. -/
def rangeB (P : Program) (m : Nat) (f : FuncId) : FB :=
  match P.funcs[f]? with
  | none => ⟨fun _ _ _ _ => False⟩
  | some fn => match fn.body with
    | none => ⟨fun _ _ _ _ => False⟩
    | some c => ⟨fun call as H K => chk (Nat.ble (lenC as) fn.ntmps) (fillC as 0 .e fun s => (xCM P fn.ntmps m c).go call s H false (fun x s H _ => finQ P fn.results.toList K x s H))⟩
theorem rangeB_ok {P : Program} (hm : P.follows .mixedOrders = true) (m : Nat) (f : FuncId) : FBOK P f (rangeB P m f) := by
  intro call as H K hc h
  unfold rangeB at h
  split at h
  · exact h.elim
  · rename_i fn hf
    split at h
    · exact h.elim
    · rename_i c hb
      obtain ⟨h1, h2⟩ := chk_of h
      rw [lenC_eq] at h1
      obtain ⟨s, h3, h4⟩ := fillC_of (f := fun s => (xCM P fn.ntmps m c).go call s H false (fun x s H _ => finQ P fn.results.toList K x s H)) h2
      intro μ w vs hv sa
      have key := xCM_ok hm hc (B := H.next) (N := w.heap.size) c (SRV.start (Nat.le_of_ble_eq_true h1) h4) h3 (Q := fun x ts H' _ => bodyK P fn K x ts H') (fun x ts' s' H' fl' q1 q2 => finQ_ok x ts' s' H' q1 q2)
      have hl : as.length = vs.size := by simpa using hv.len
      have hrel : Rel μ (as ++ List.replicate (fn.ntmps - as.length) .any) (vs ++ Array.replicate (fn.ntmps - vs.size) undef) := by
        unfold Rel
        rw [Array.toList_append, Array.toList_replicate, hl]
        exact hv.append (VRels.replicate (v := .any) (x := undef) (by simp [VRel]) _)
      refine (callsIn_wide (n := 0)).1 (callsIn_of_wp_marks hf hb trivial (wpIn_wide.2 ?_))
      refine wp_mono (key μ w { tmps := vs ++ Array.replicate (fn.ntmps - vs.size) undef, defers := [] } hrel sa (Nat.le_refl _) ⟨rfl, Nat.le_refl _⟩) (fun e a1 w1 hq => ?_)
      obtain ⟨x, ts, H1, fl, μ1, h1, h2, h3, h4, h5, h6⟩ := hq
      -- the mark, if there is one, is come to
      have leave : ∀ (u : FrameMode), u ≠ .run → (∀ w2, Sat μ1 H1 w2 → Fw H.next μ H μ1 H1 w w2 → LeavesIn Fence.wide 0 P fn a1.tmps (fun e w' => ∃ out H' μ', K out H' ∧ OutRel μ' out e ∧ Sat μ' H' w' ∧ Fw H.next μ H μ' H' w w') [] u w2) →
          LeavesInM Fence.wide 0 P fn a1.tmps (fun e w' => ∃ out H' μ', K out H' ∧ OutRel μ' out e ∧ Sat μ' H' w' ∧ Fw H.next μ H μ' H' w w') a1.defers u w1 := by
        intro u hu hq
        cases fl with
        | false =>
          rw [h6.1]
          exact hq w1 h4 h5
        | true =>
          obtain ⟨r, hr1, hr2, hr3⟩ := h6
          rw [hr1]
          refine ⟨hu, .inl ⟨r, w1.putObj r (.deferred none), rfl, run_takeDeferred hr2, hq _ ?_ ?_⟩⟩
          · exact h4.besides (fun b x l hb hl => World.putObj_heap_other (not_blk h4 hr2 (fun _ _ _ e => by cases e) (fun _ _ e => by cases e) hb hl))
          · refine ⟨h5.le, h5.nx, h5.os, h5.tape, h5.output, by rw [World.putObj_size]; exact h5.size, fun k hk hno => ?_, h5.from_⟩
            rw [World.putObj_heap_other (by omega)]
            exact h5.same k hk hno
      have fin : ∀ w2, Sat μ1 H1 w2 → Fw H.next μ H μ1 H1 w w2 → (∃ v, resOf P fn ts H1 = some (v, true) ∧ K (.ret v) H1) → ∃ x, (results fn a1.tmps).run P w2 = .ok x w2 ∧ ∃ out H' μ', K out H' ∧ OutRel μ' out (.returned x) ∧ Sat μ' H' w2 ∧ Fw H.next μ H μ' H' w w2 := by
        rintro w2 s2 f2 ⟨v, e1, e2⟩
        obtain ⟨x, r1, r2⟩ := resOf_ok e1 h3 s2
        exact ⟨x, r1, _, _, μ1, e2, ⟨x, rfl, r2⟩, s2, f2⟩
      cases x with
      | normal =>
        simp only [XRel] at h2
        subst h2
        exact leave .returning (by simp) (fun w2 s2 f2 => fin w2 s2 f2 h1)
      | ret =>
        simp only [XRel] at h2
        subst h2
        exact leave .returning (by simp) (fun w2 s2 f2 => fin w2 s2 f2 h1)
      | panic v =>
        obtain ⟨xv, rfl, hv'⟩ := h2
        exact leave (.panicking _) (by simp) (fun w2 s2 f2 => ⟨_, _, μ1, h1, ⟨xv, rfl, hv'⟩, s2, f2⟩)
      | exit id => exact h1.elim
      | goto l => exact h1.elim
end
end Go.Eng
