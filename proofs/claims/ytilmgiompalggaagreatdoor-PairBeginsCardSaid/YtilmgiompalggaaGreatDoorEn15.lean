/- The engine, eighteenth part: a run that the kernel reckons, the slots in a tree. -/
import Derived.Test.YtilmgiompalggaaGreatDoorEn14
namespace Go.Eng
open Go Go.RowKit
set_option linter.unusedVariables false
set_option linter.unusedSimpArgs false
noncomputable section
/-- Slots. -/
inductive SL where
  | e
  | n (l : SL) (x : AV) (r : SL)
  deriving Inhabited
def SL.get : SL → Nat → AV
  | .e, _ => .any
  | .n l x r, b => match b with
    | 0 => x
    | b + 1 => bif Nat.beq (b % 2) 0 then l.get (b / 2) else r.get (b / 2)
def SL.put (x : AV) : SL → Nat → SL
  | .e, _ => .e
  | .n l y r, b => match b with
    | 0 => .n l x r
    | b + 1 => bif Nat.beq (b % 2) 0 then .n (SL.put x l (b / 2)) y r else .n l y (SL.put x r (b / 2))
def SL.mk : Nat → SL
  | 0 => .e
  | m + 1 => .n (SL.mk m) .any (SL.mk m)
def SL.full : Nat → SL → Prop
  | 0, _ => True
  | _ + 1, .e => False
  | k + 1, .n l _ r => SL.full k l ∧ SL.full k r
theorem SL.mk_full : ∀ k, SL.full k (SL.mk k)
  | 0 => trivial
  | k + 1 => ⟨SL.mk_full k, SL.mk_full k⟩
theorem SL.mk_get : ∀ k i, (SL.mk k).get i = .any
  | 0, _ => rfl
  | k + 1, 0 => rfl
  | k + 1, i + 1 => by
    simp only [SL.mk, SL.get, SL.mk_get k]
    cases Nat.beq (i % 2) 0 <;> rfl
theorem SL.put_full (x : AV) : ∀ k (s : SL) (b : Nat), SL.full k s → SL.full k (s.put x b)
  | 0, _, _, _ => trivial
  | k + 1, .e, b, h => h.elim
  | k + 1, .n l y r, 0, h => h
  | k + 1, .n l y r, b + 1, h => by
    simp only [SL.put]
    cases Nat.beq (b % 2) 0
    · exact ⟨h.1, SL.put_full x k r _ h.2⟩
    · exact ⟨SL.put_full x k l _ h.1, h.2⟩
theorem SL.get_put (x : AV) : ∀ k (s : SL) (b : Nat), SL.full k s → b + 1 < 2 ^ k → ∀ c, (s.put x b).get c = if c = b then x else s.get c
  | 0, _, _, _, h, _ => by simp at h
  | k + 1, .e, b, h, _, _ => h.elim
  | k + 1, .n l y r, 0, h, hb, c => by
    cases c with
    | zero => simp [SL.put, SL.get]
    | succ c => simp [SL.put, SL.get]
  | k + 1, .n l y r, b + 1, h, hb, c => by
    have q : ∀ m : Nat, Nat.beq (m % 2) 0 = decide (m % 2 = 0) := fun m => by
      rcases Nat.mod_two_eq_zero_or_one m with h | h <;> rw [h] <;> rfl
    have hp : 2 ^ (k + 1) = 2 * 2 ^ k := by rw [Nat.pow_succ]; omega
    have hl := SL.get_put x k l (b / 2) h.1
    have hr := SL.get_put x k r (b / 2) h.2
    by_cases hm : b % 2 = 0
    · have hl := hl (by omega)
      have qb : Nat.beq (b % 2) 0 = true := by rw [q]; exact decide_eq_true hm
      simp only [SL.put, qb, cond_true]
      cases c with
      | zero => simp [SL.get]
      | succ c =>
        by_cases hc : c % 2 = 0
        · have qc : Nat.beq (c % 2) 0 = true := by rw [q]; exact decide_eq_true hc
          simp only [SL.get, qc, cond_true, hl]
          by_cases e : c / 2 = b / 2
          · rw [if_pos e, if_pos (by omega)]
          · rw [if_neg e, if_neg (by omega)]
        · have qc : Nat.beq (c % 2) 0 = false := by rw [q]; exact decide_eq_false hc
          simp only [SL.get, qc, cond_false]
          rw [if_neg (by omega)]
    · have hr := hr (by omega)
      have qb : Nat.beq (b % 2) 0 = false := by rw [q]; exact decide_eq_false hm
      simp only [SL.put, qb, cond_false]
      cases c with
      | zero => simp [SL.get]
      | succ c =>
        by_cases hc : c % 2 = 0
        · have qc : Nat.beq (c % 2) 0 = true := by rw [q]; exact decide_eq_true hc
          simp only [SL.get, qc, cond_true]
          rw [if_neg (by omega)]
        · have qc : Nat.beq (c % 2) 0 = false := by rw [q]; exact decide_eq_false hc
          simp only [SL.get, qc, cond_false, hr]
          by_cases e : c / 2 = b / 2
          · rw [if_pos e, if_pos (by omega)]
          · rw [if_neg e, if_neg (by omega)]
/-- A list of slots, as a tree; n of them. -/
structure SR (n : Nat) (ts : List AV) (s : SL) : Prop where
  len : ts.length = n
  small : n < 1023
  full : SL.full 10 s
  get : (fun i => ts.getD i .any) = s.get
def putS (n : Nat) (s : SL) (d : Option Nat) (v : AV) : SL :=
  match d with
  | some d => bif Nat.blt d n then s.put v d else s
  | none => s
theorem SR.put {n : Nat} {ts : List AV} {s : SL} (h : SR n ts s) (d : Option Nat) (v : AV) : SR n (putT ts d v) (putS n s d v) := by
  cases d with
  | none => exact h
  | some d =>
    simp only [putT, putS]
    rcases hb : Nat.blt d n with _ | _
    · have hge : n ≤ d := by
        rcases Nat.lt_or_ge d n with h' | h'
        · rw [show Nat.blt d n = true from Nat.ble_eq_true_of_le h'] at hb; cases hb
        · exact h'
      have hl := h.len
      rw [List.set_eq_of_length_le (by omega)]
      exact h
    · have hlt : d < n := Nat.le_of_ble_eq_true hb
      refine ⟨by simpa using h.len, h.small, SL.put_full v 10 s d h.full, ?_⟩
      funext i
      have hs := h.small
      simp only [cond_true]
      rw [SL.get_put v 10 s d h.full (by omega), ← h.get]
      simp only [List.getD_eq_getElem?_getD, List.getElem?_set]
      by_cases e : d = i
      · subst e
        simp [h.len, hlt]
      · rw [if_neg e, if_neg (fun q => e q.symm)]
def goesOnG (get : Nat → AV) : Option (Nat × Bool) → Option Bool
  | none => some true
  | some (d, want) => match get d with
    | .bool true => some want
    | .bool false => some (!want)
    | .tup _ => some false
    | _ => none
theorem goesOnG_eq (ts : List AV) (g : Option (Nat × Bool)) : goesOn ts g = goesOnG (fun i => ts.getD i .any) g := rfl
def evG (get : Nat → AV) : CX → AV
  | .t i => get i
  | .v a => a
theorem evG_eq (ts : List AV) : CX.ev ts = evG (fun i => ts.getD i .any) := by
  funext c
  cases c <;> rfl
def callOfG (ev : CX → AV) (o : Oper) : Option (FuncId × List AV) :=
  match o.op with
  | .call c => match c.callee, opds c.args.toList with
    | .value x, some cs => match opd x with
      | some cx => match ev cx with
        | .fn (.func f) first cap => some (f, first ++ cs.map ev ++ cap)
        | _ => none
      | none => none
    | _, _ => none
  | _ => none
theorem callOfG_eq (ts : List AV) (o : Oper) : callOf ts o = callOfG (CX.ev ts) o := rfl
/-- With what an operation panics: with a value that an interface holds. -/
def panicOf (ev : CX → AV) (o : Oper) : Option AV :=
  match o.op with
  | .panic x => match opd x with
    | some c => match ev c with
      | .ifc t v => some (.ifc t v)
      | _ => none
    | none => none
  | _ => none
theorem panic_run {P : Program} {o : Oper} {a : Act} {ts : List AV} {μ : Mu} {v : AV} (r : Rel μ ts a.tmps) (h : panicOf (CX.ev ts) o = some v) (w : World) : ∃ x, VRel μ v x ∧ (execOp a.eval o).run P w = .halt (.panic x) w := by
  unfold panicOf at h
  split at h
  · rename_i x ho
    split at h
    · rename_i c hc
      split at h
      · rename_i t u e
        cases h
        have hx := opd_rel hc r
        rw [e] at hx
        obtain ⟨x', g1, g2⟩ := hx
        refine ⟨.iface t x', ⟨x', rfl, g2⟩, ?_⟩
        simp [execOp, ho, g1, Instr.panic, goPanic]
      · cases h
    · cases h
  · cases h
theorem Seg.panics {P : Program} {B : Nat} {ops : Array Oper} {o : Oper} {l : List Oper} {ts : List AV} {H : AH} {Q : Post} {v : AV} {g : Option (Nat × Bool)} (hgd : guardOf ops o = some g) (hgo : goesOn ts g = some true) (h : panicOf (CX.ev ts) o = some v) (hq : Q (.panic v) ts H) : Seg P B ops (o :: l) ts H Q := fun μ w a r s hB => by
  refine wpList_step fun K hK => ?_
  rw [guard_ok r hgd hgo]
  simp only [if_true]
  obtain ⟨x, h1, h2⟩ := panic_run (P := P) r h w
  unfold Oper.wp
  rw [h2, Oper.upon_panic]
  exact ⟨.panic v, ts, H, μ, hq, ⟨x, rfl, h1⟩, r, s, Fw.refl _ _ hB, rfl⟩
def boolAtG (get : Nat → AV) : Operand → Option Bool
  | .tmp t => match get t with
    | .bool b => some b
    | _ => none
  | .const (.bool b) => some b
  | _ => none
theorem boolAtG_eq (ts : List AV) (o : Operand) : boolAt ts o = boolAtG (fun i => ts.getD i .any) o := rfl
def resOneG (P : Program) (get : Nat → AV) (H : AH) : ResultVar → Option (AV × Bool)
  | .tmp t => some (get t, true)
  | .cell t ty => match get t with
    | .ptr b k j => match H.get b, aggSz P ty with
      | some y, some none => some (y.c.val y.st k j, y.c.inb y.st k j)
      | some y, some (some n) => some (.agg (y.c.vals y.st k j n), y.c.inbs y.st k j n)
      | _, _ => none
    | _ => none
def resListG (P : Program) (get : Nat → AV) (H : AH) : List ResultVar → Option (List AV × Bool)
  | [] => some ([], true)
  | r :: rs => match resOneG P get H r, resListG P get H rs with
    | some (v, a), some (vs, b) => some (v :: vs, a && b)
    | _, _ => none
def resOfG (P : Program) (fn : Func) (get : Nat → AV) (H : AH) : Option (AV × Bool) :=
  match resListG P get H fn.results.toList with
  | some (vs, b) => some (oneOf vs, b)
  | none => none
theorem resOneG_eq (P : Program) (ts : List AV) (H : AH) (r : ResultVar) : resOne P ts H r = resOneG P (fun i => ts.getD i .any) H r := by cases r <;> rfl
theorem resListG_eq (P : Program) (ts : List AV) (H : AH) : ∀ rs, resList P ts H rs = resListG P (fun i => ts.getD i .any) H rs
  | [] => rfl
  | r :: rs => by
    rw [resList, resListG, resOneG_eq, resListG_eq P ts H rs]
    rfl
theorem resOfG_eq (P : Program) (fn : Func) (ts : List AV) (H : AH) : resOf P fn ts H = resOfG P fn (fun i => ts.getD i .any) H := by
  rw [resOf, resOfG, resListG_eq]
  rfl
abbrev ResT := Option (AX × SL × AH)
/-- What regions that draw come to. -/
abbrev Dro := Nat → Array Oper → SL → AH → ResT
def DroOK (P : Program) (dr : Dro) : Prop := ∀ B id n ops ts s H x s' H' (Q : Post), SR n ts s → dr n ops s H = some (x, s', H') → (∀ ts', SR n ts' s' → Q x ts' H') → Tri P B (.region id ops true) ts H Q
def tOps (P : Program) (call : Orc) (n : Nat) (ops : Array Oper) : List Oper → SL → AH → ResT
  | [], s, H => some (.normal, s, H)
  | o :: l, s, H => match guardOf ops o with
    | none => none
    | some g => match goesOnG s.get g with
      | none => none
      | some false => tOps P call n ops l (putS n s o.dst (.tup [])) H
      | some true => match comp P o with
        | some c => match cstep (evG s.get) H c with
          | some (v, H', true) => tOps P call n ops l (putS n s o.dst v) H'
          | _ => none
        | none => match callOfG (evG s.get) o with
          | some (f, as) => bif isGo P f then match call f as H with
            | some (.ret v, H') => tOps P call n ops l (putS n s o.dst v) H'
            | some (.panic v, H') => some (.panic v, s, H')
            | none => none else none
          | none => match panicOf (evG s.get) o with
            | some v => some (.panic v, s, H)
            | none => none
theorem tOps_ok {P : Program} {call : Orc} (hc : OrcOK P call) {B n : Nat} {ops : Array Oper} {Q : Post} : ∀ (l : List Oper) {ts : List AV} {s s' : SL} {H H' : AH} {x : AX}, SR n ts s → tOps P call n ops l s H = some (x, s', H') → (∀ ts', SR n ts' s' → Q x ts' H') → Seg P B ops l ts H Q
  | [], ts, s, s', H, H', x, hs, h, q => by
    simp only [tOps, Option.some.injEq, Prod.mk.injEq] at h
    obtain ⟨rfl, rfl, rfl⟩ := h
    exact Seg.nil (q _ hs)
  | o :: l, ts, s, s', H, H', x, hs, h, q => by
    unfold tOps at h
    rw [← hs.get, ← evG_eq] at h
    split at h
    · cases h
    · rename_i g hg
      rw [← goesOnG_eq] at h
      split at h
      · cases h
      · rename_i hb
        refine Seg.step (hint := 0) (ts' := putT ts o.dst (.tup [])) (H' := H) ?_ (tOps_ok hc l (hs.put _ _) h q)
        simp [stepO, hg, hb]
      · rename_i hb
        split at h
        · rename_i c hcm
          split at h
          · rename_i v H1 hst
            obtain ⟨m, hn⟩ := COp.hint0 c
            refine Seg.step (hint := m) (ts' := putT ts o.dst v) (H' := H1) ?_ (tOps_ok hc l (hs.put _ _) h q)
            simp [stepO, hg, hb, hcm, hn, hst]
          · cases h
        · rw [← callOfG_eq] at h
          split at h
          · rename_i f as hf
            rcases hgo : isGo P f with _ | _
            · rw [hgo] at h; cases h
            · rw [hgo] at h
              simp only [cond_true] at h
              split at h
              · rename_i v H1 hr
                exact Seg.run hg hb hf hgo (hc f as H _ _ hr) (tOps_ok hc l (hs.put _ _) h q)
              · rename_i v H1 hr
                simp only [Option.some.injEq, Prod.mk.injEq] at h
                obtain ⟨rfl, rfl, rfl⟩ := h
                exact Seg.run hg hb hf hgo (hc f as H _ _ hr) (q _ hs)
              · cases h
          · split at h
            · rename_i v hpv
              simp only [Option.some.injEq, Prod.mk.injEq] at h
              obtain ⟨rfl, rfl, rfl⟩ := h
              exact Seg.panics hg hb hpv (q _ hs)
            · cases h
/-- Code, at most so many levels. -/
def tC (P : Program) (call : Orc) (dr : Dro) (k : Nat) : Nat → Code → SL → AH → ResT
  | 0, _, _, _ => none
  | n + 1, c, s, H => match c with
    | .skip | .label _ => some (.normal, s, H)
    | .ret => some (.ret, s, H)
    | .exit id => some (.exit id, s, H)
    | .goto l => some (.goto l, s, H)
    | .seq a b => match tC P call dr k n a s H with
      | some (.normal, s', H') => tC P call dr k n b s' H'
      | r => r
    | .cond c a b => match boolAtG s.get c with
      | some true => tC P call dr k n a s H
      | some false => tC P call dr k n b s H
      | none => none
    | .block id c => match tC P call dr k n c s H with
      | some (.exit id', s', H') => bif Nat.beq id' id then some (.normal, s', H') else some (.exit id', s', H')
      | r => r
    | .scope c => match tC P call dr k n c s H with
      | some (.goto _, _, _) => none
      | r => r
    | .loop c => match tC P call dr k n c s H with
      | some (.normal, s', H') => tC P call dr k n (.loop c) s' H'
      | r => r
    | .region _ ops false => tOps P call k ops ops.toList s H
    | .region _ ops true => dr k ops s H
    | _ => none
theorem tC_ok {P : Program} {call : Orc} (hc : OrcOK P call) {dr : Dro} (hd : DroOK P dr) {B k : Nat} : ∀ (n : Nat), (∀ (c : Code) {Q : Post} {ts : List AV} {s s' : SL} {H H' : AH} {x : AX}, SR k ts s → tC P call dr k n c s H = some (x, s', H') → (∀ ts', SR k ts' s' → Q x ts' H') → Tri P B c ts H Q) ∧
    (∀ (c : Code) {Q : Post} {ts : List AV} {s s' : SL} {H H' : AH} {x : AX}, SR k ts s → tC P call dr k n (.loop c) s H = some (x, s', H') → (∀ ts', SR k ts' s' → Q x ts' H') → TriL P B c n ts H Q)
  | 0 => ⟨fun c Q ts s s' H H' x hs h q => by simp [tC] at h, fun c Q ts s s' H H' x hs h q => by simp [tC] at h⟩
  | n + 1 => by
    obtain ⟨ih, il⟩ := tC_ok hc hd (B := B) (k := k) n
    have lp : ∀ (c : Code) {Q : Post} {ts : List AV} {s s' : SL} {H H' : AH} {x : AX}, SR k ts s → tC P call dr k (n + 1) (.loop c) s H = some (x, s', H') → (∀ ts', SR k ts' s' → Q x ts' H') → TriL P B c (n + 1) ts H Q := by
      intro c Q ts s s' H H' x hs h q
      simp only [tC] at h
      refine TriL.round ?_
      split at h
      · rename_i s1 H1 h1
        exact ih c hs h1 (fun ts1 hs1 => il c hs1 h q)
      · rename_i hne
        refine ih c hs h (fun ts1 hs1 => ?_)
        cases x with
        | normal => exact (hne _ _ h).elim
        | _ => exact q _ hs1
    refine ⟨?_, lp⟩
    intro c Q ts s s' H H' x hs h q
    cases c with
    | skip => simp only [tC, Option.some.injEq, Prod.mk.injEq] at h; obtain ⟨rfl, rfl, rfl⟩ := h; exact Tri.skip (q _ hs)
    | label l => simp only [tC, Option.some.injEq, Prod.mk.injEq] at h; obtain ⟨rfl, rfl, rfl⟩ := h; exact Tri.label (q _ hs)
    | ret => simp only [tC, Option.some.injEq, Prod.mk.injEq] at h; obtain ⟨rfl, rfl, rfl⟩ := h; exact Tri.ret (q _ hs)
    | exit id => simp only [tC, Option.some.injEq, Prod.mk.injEq] at h; obtain ⟨rfl, rfl, rfl⟩ := h; exact Tri.exit (q _ hs)
    | goto l => simp only [tC, Option.some.injEq, Prod.mk.injEq] at h; obtain ⟨rfl, rfl, rfl⟩ := h; exact Tri.goto (q _ hs)
    | seq a b =>
      simp only [tC] at h
      refine Tri.seq ?_
      split at h
      · rename_i s1 H1 h1
        exact ih a hs h1 (fun ts1 hs1 => ih b hs1 h q)
      · rename_i hne
        refine ih a hs h (fun ts1 hs1 => ?_)
        cases x with
        | normal => exact (hne _ _ h).elim
        | _ => exact q _ hs1
    | cond o a b =>
      simp only [tC] at h
      rw [← hs.get, ← boolAtG_eq] at h
      split at h
      · rename_i hb
        exact Tri.cond true hb (fun _ => ih a hs h q) (fun e => by cases e)
      · rename_i hb
        exact Tri.cond false hb (fun e => by cases e) (fun _ => ih b hs h q)
      · cases h
    | block id c =>
      simp only [tC] at h
      refine Tri.block ?_
      split at h
      · rename_i id' s1 H1 h1
        refine ih c hs h1 (fun ts1 hs1 => ?_)
        rcases hb : Nat.beq id' id with _ | _
        · rw [hb] at h
          simp only [cond_false, Option.some.injEq, Prod.mk.injEq] at h
          obtain ⟨rfl, rfl, rfl⟩ := h
          simp only [blockX]
          rw [if_neg (fun e => by rw [e] at hb; simp at hb)]
          exact q _ hs1
        · rw [hb] at h
          simp only [cond_true, Option.some.injEq, Prod.mk.injEq] at h
          obtain ⟨rfl, rfl, rfl⟩ := h
          simp only [blockX]
          rw [if_pos (Nat.eq_of_beq_eq_true hb)]
          exact q _ hs1
      · rename_i hne
        refine ih c hs h (fun ts1 hs1 => ?_)
        cases x with
        | exit i => exact (hne _ _ _ h).elim
        | _ => exact q _ hs1
    | scope c =>
      simp only [tC] at h
      refine Tri.scope ?_
      split at h
      · cases h
      · rename_i hne
        refine ih c hs h (fun ts1 hs1 => ?_)
        cases x with
        | goto i => exact (hne _ _ _ h).elim
        | _ => exact q _ hs1
    | loop c => exact TriL.loop (lp c hs h q)
    | region id ops d =>
      cases d with
      | false =>
        simp only [tC] at h
        exact Tri.region (tOps_ok hc _ hs h q)
      | true =>
        simp only [tC] at h
        exact hd B id k ops ts s H x s' H' Q hs h q
    | _ => simp [tC] at h
def SL.lay : List AV → Nat → SL → SL
  | [], _, s => s
  | v :: vs, i, s => SL.lay vs (i + 1) (s.put v i)
theorem SL.lay_full : ∀ (vs : List AV) (i : Nat) (s : SL), SL.full 10 s → SL.full 10 (SL.lay vs i s)
  | [], _, _, h => h
  | v :: vs, i, s, h => SL.lay_full vs (i + 1) _ (SL.put_full v 10 s i h)
theorem SL.lay_get : ∀ (vs : List AV) (i : Nat) (s : SL), SL.full 10 s → i + vs.length < 1023 → ∀ c, (SL.lay vs i s).get c = if i ≤ c ∧ c < i + vs.length then vs.getD (c - i) .any else s.get c
  | [], i, s, h, hl, c => by rw [if_neg (by simp only [List.length_nil]; omega)]; rfl
  | v :: vs, i, s, h, hl, c => by
    simp only [List.length_cons] at hl ⊢
    rw [SL.lay, SL.lay_get vs (i + 1) _ (SL.put_full v 10 s i h) (by omega), SL.get_put v 10 s i h (by omega)]
    by_cases e : c = i
    · subst e
      rw [if_neg (by omega), if_pos rfl, if_pos (by omega)]
      simp
    · by_cases e2 : i + 1 ≤ c ∧ c < i + 1 + vs.length
      · rw [if_pos e2, if_pos (by omega)]
        rw [show c - i = c - (i + 1) + 1 by omega]
        simp
      · rw [if_neg e2, if_neg e, if_neg (by omega)]
theorem SR.start {as : List AV} {n : Nat} (h1 : as.length ≤ n) (h2 : n < 1023) : SR n (as ++ List.replicate (n - as.length) .any) (SL.lay as 0 (SL.mk 10)) where
  len := by simp; omega
  small := h2
  full := SL.lay_full _ _ _ (SL.mk_full 10)
  get := by
    funext c
    rw [SL.lay_get as 0 _ (SL.mk_full 10) (by omega), SL.mk_get]
    simp only [Nat.zero_le, true_and, Nat.zero_add, Nat.sub_zero, List.getD_eq_getElem?_getD]
    by_cases e : c < as.length
    · rw [if_pos e, List.getElem?_append_left e]
    · rw [if_neg e, List.getElem?_append_right (by omega), List.getElem?_replicate]
      split <;> rfl
/-- A function's call; m levels of code, n levels of calls. -/
def tF (P : Program) (dr : Orc → Dro) (base : Orc) (m : Nat) : Nat → Orc
  | 0, _, _, _ => none
  | n + 1, f, as, H => match base f as H with
    | some r => some r
    | none => match P.funcs[f]? with
      | none => none
      | some fn => match fn.body with
        | none => none
        | some c => bif Nat.ble as.length fn.ntmps && Nat.blt fn.ntmps 1023 then
          match tC P (tF P dr base m n) (dr (tF P dr base m n)) fn.ntmps m c (SL.lay as 0 (SL.mk 10)) H with
          | some (.normal, s, H') | some (.ret, s, H') => match resOfG P fn s.get H' with
            | some (v, true) => some (.ret v, H')
            | _ => none
          | some (.panic v, _, H') => some (.panic v, H')
          | _ => none
          else none
theorem tF_ok {P : Program} {dr : Orc → Dro} (hd : ∀ c, OrcOK P c → DroOK P (dr c)) {base : Orc} (hb0 : OrcOK P base) (m : Nat) : ∀ n, OrcOK P (tF P dr base m n)
  | 0, f, as, H, out, H', h => by simp [tF] at h
  | n + 1, f, as, H, out, H', h => by
    have ihn := tF_ok hd hb0 m n
    simp only [tF] at h
    split at h
    · rename_i r hr
      cases h
      exact hb0 f as H _ _ hr
    · split at h
      · cases h
      · rename_i fn hf
        split at h
        · cases h
        · rename_i c hb
          rcases hl : (Nat.ble as.length fn.ntmps && Nat.blt fn.ntmps 1023) with _ | _
          · rw [hl] at h; cases h
          · rw [hl] at h
            simp only [cond_true] at h
            simp only [Bool.and_eq_true] at hl
            have st := SR.start (Nat.le_of_ble_eq_true hl.1) (Nat.le_of_ble_eq_true hl.2 : fn.ntmps < 1023)
            refine Runs.body hf hb ?_
            have fin : ∀ ts1 (s1 : SL) H1 v, SR fn.ntmps ts1 s1 → resOfG P fn s1.get H1 = some (v, true) → resOf P fn ts1 H1 = some (v, true) := by
              intro ts1 s1 H1 v q1 q2
              rw [resOfG_eq, q1.get]; exact q2
            split at h
            · rename_i s1 H1 h1
              split at h
              · rename_i v hv
                simp only [Option.some.injEq, Prod.mk.injEq] at h
                obtain ⟨rfl, rfl⟩ := h
                exact (tC_ok ihn (hd _ ihn) m).1 c st h1 (fun ts1 q1 => ⟨v, v, fin _ _ _ _ q1 hv, rfl, Weak.refl _ _ _⟩)
              · cases h
            · rename_i s1 H1 h1
              split at h
              · rename_i v hv
                simp only [Option.some.injEq, Prod.mk.injEq] at h
                obtain ⟨rfl, rfl⟩ := h
                exact (tC_ok ihn (hd _ ihn) m).1 c st h1 (fun ts1 q1 => ⟨v, v, fin _ _ _ _ q1 hv, rfl, Weak.refl _ _ _⟩)
              · cases h
            · rename_i v s1 H1 h1
              simp only [Option.some.injEq, Prod.mk.injEq] at h
              obtain ⟨rfl, rfl⟩ := h
              exact (tC_ok ihn (hd _ ihn) m).1 c st h1 (fun ts1 q1 => ⟨v, rfl, Weak.refl _ _ _⟩)
            · cases h
end
end Go.Eng
