/- The engine, nineteenth part: regions that draw their order, reckoned. -/
import Derived.Test.YtilmgiompalggaaGreatDoorEn15
namespace Go.Eng
open Go Go.RowKit
set_option linter.unusedVariables false
set_option linter.unusedSimpArgs false
noncomputable section
mutual
def AV.eqB : AV → AV → Bool
  | .any, .any => true
  | .int k n, .int k' n' => decide (k = k') && decide (n = n')
  | .bool a, .bool b => a == b
  | .str a, .str b => decide (a = b)
  | .ptr b k j, .ptr b' k' j' => Nat.beq b b' && Nat.beq k k' && Nat.beq j j'
  | .nilp, .nilp => true
  | .sl b k j n c e, .sl b' k' j' n' c' e' => Nat.beq b b' && Nat.beq k k' && Nat.beq j j' && Nat.beq n n' && Nat.beq c c' && (e == e')
  | .nils, .nils => true
  | .msl b k j n c, .msl b' k' j' n' c' => Nat.beq b b' && Nat.beq k k' && Nat.beq j j' && Nat.beq n n' && Nat.beq c c'
  | .map b, .map b' => Nat.beq b b'
  | .nilm, .nilm => true
  | .fn (.func f) a c, .fn (.func f') a' c' => Nat.beq f f' && AV.eqsB a a' && AV.eqsB c c'
  | .nilf, .nilf => true
  | .ifc t v, .ifc t' v' => Nat.beq t t' && AV.eqB v v'
  | .nili, .nili => true
  | .agg a, .agg b => AV.eqsB a b
  | .tup a, .tup b => AV.eqsB a b
  | _, _ => false
def AV.eqsB : List AV → List AV → Bool
  | [], [] => true
  | a :: as, b :: bs => AV.eqB a b && AV.eqsB as bs
  | _, _ => false
end
theorem nbeq (a b : Nat) : (Nat.beq a b = true) = (a = b) := propext ⟨Nat.eq_of_beq_eq_true, fun h => by rw [h]; exact Nat.beq_refl b⟩
mutual
theorem AV.eqB_ok : ∀ (a b : AV), AV.eqB a b = true → a = b := by
  intro a b h
  unfold AV.eqB at h
  split at h <;> first
    | rfl
    | (cases h; done)
    | (try simp only [Bool.and_eq_true, decide_eq_true_eq, beq_iff_eq, nbeq] at h
       first
         | (obtain ⟨rfl, rfl⟩ := h; rfl)
         | (obtain ⟨⟨rfl, rfl⟩, rfl⟩ := h; rfl)
         | (obtain ⟨⟨⟨⟨⟨rfl, rfl⟩, rfl⟩, rfl⟩, rfl⟩, rfl⟩ := h; rfl)
         | (obtain ⟨⟨⟨⟨rfl, rfl⟩, rfl⟩, rfl⟩, rfl⟩ := h; rfl)
         | (obtain ⟨⟨rfl, h1⟩, h2⟩ := h; rw [AV.eqsB_ok _ _ h1, AV.eqsB_ok _ _ h2])
         | (obtain ⟨rfl, h1⟩ := h; rw [AV.eqB_ok _ _ h1])
         | (rw [AV.eqsB_ok _ _ h])
         | (subst h; rfl))
theorem AV.eqsB_ok : ∀ (as bs : List AV), AV.eqsB as bs = true → as = bs
  | [], [], _ => rfl
  | a :: as, b :: bs, h => by
    simp only [AV.eqsB, Bool.and_eq_true] at h
    rw [AV.eqB_ok _ _ h.1, AV.eqsB_ok _ _ h.2]
  | [], _ :: _, h => by simp [AV.eqsB] at h
  | _ :: _, [], h => by simp [AV.eqsB] at h
end
/-- Operations that leave the heap. -/
def isPure : COp → Bool
  | .mv _ | .pick .. | .load .. | .nilc _ | .bin .. | .eq .. | .un .. | .conv .. | .s2a .. | .mki .. | .mkf .. | .sli .. | .sla .. | .fa .. | .fld .. | .ias .. | .iaa .. | .ixa .. | .ixs .. | .ext .. | .lens _ | .lenb _ | .lenn _ | .mm .. | .pl _ | .build .. => true
  | _ => false
theorem pure_heap {ev : CX → AV} {H H' : AH} {c : COp} {v : AV} {ok : Bool} (hp : isPure c = true) (h : cstep ev H c = some (v, H', ok)) : H' = H := by
  cases c <;> first
    | (simp [isPure] at hp; done)
    | (simp only [cstep] at h
       repeat' split at h
       all_goals first
         | (cases h; done)
         | (simp only [Option.some.injEq, Prod.mk.injEq] at h; exact h.2.1.symm)
         | (simp only [cond] at h; split at h <;> (simp only [Option.some.injEq, Prod.mk.injEq] at h; exact h.2.1.symm)))
def pureV (P : Program) (ops : Array Oper) (o : Oper) (ts : List AV) (H : AH) : Option AV :=
  match guardOf ops o with
  | none => none
  | some g => match goesOn ts g with
    | none => none
    | some false => some (.tup [])
    | some true => match comp P o with
      | none => none
      | some c => bif isPure (c.hint 0) then match cstep (CX.ev ts) H (c.hint 0) with
        | some (v, _, true) => some v
        | _ => none else none
theorem pureV_ok {P : Program} {ops : Array Oper} {o : Oper} {ts : List AV} {H : AH} {v : AV} (h : pureV P ops o ts H = some v) : stepV P ops 0 o ts H = some (v, H, true) := by
  unfold pureV at h
  unfold stepV
  split at h
  · cases h
  · rename_i g hg
    simp only [hg]
    split at h
    · cases h
    · rename_i hb
      cases h
      simp only [hb]
    · rename_i hb
      simp only [hb]
      split at h
      · cases h
      · rename_i c hc
        simp only [hc]
        rcases hp : isPure (c.hint 0) with _ | _
        · rw [hp] at h; cases h
        · rw [hp] at h
          simp only [cond_true] at h
          split at h
          · rename_i v' H' hs
            cases h
            rw [hs, pure_heap hp hs]
          · cases h
/-- An operation with an effect. -/
def effV (P : Program) (call : Orc) (ops : Array Oper) (o : Oper) (ts : List AV) (H : AH) : Option (AOut × AH) :=
  match guardOf ops o with
  | none => none
  | some g => match goesOn ts g with
    | none => none
    | some false => some (.ret (.tup []), H)
    | some true => match comp P o with
      | some c => match cstep (CX.ev ts) H c with
        | some (v, H', true) => some (.ret v, H')
        | _ => none
      | none => match callOf ts o with
        | some (f, as) => bif isGo P f then call f as H else none
        | none => none
theorem OpJ.run {P : Program} {B : Nat} {ops : Array Oper} {Q : Post} {j : Nat} {o : Oper} {tss : List AV} {H H1 : AH} {K : AV → AH → Prop} {f : FuncId} {as : List AV} {out : AOut} {g : Option (Nat × Bool)} (ho : ops[j]? = some o) (hgd : guardOf ops o = some g) (hgo : goesOn tss g = some true)
    (hc : callOf tss o = some (f, as)) (hf : isGo P f = true) (run : Runs P f as H out H1)
    (hk : match out with
      | .ret v => K v H1
      | .panic v => Q (.panic v) tss H1) : OpJ P B ops Q j tss H K := by
  intro μ w a Kc Qc r s hB hQ hK
  have hd : dstOf ops j = o.dst := by simp [dstOf, ho]
  unfold wpOp
  rw [ho]
  simp only []
  rw [guard_ok r hgd hgo]
  simp only [if_true]
  left
  obtain ⟨vs, h1, h2⟩ := call_run r hc hf w
  unfold Oper.wp
  rw [h2, Oper.upon_enter]
  refine Calls.mono (run μ w vs h1 s) (fun e w' hq => ?_)
  obtain ⟨μ1, k1, q3, f0⟩ := hq
  have q1 : MuLe μ μ1 := fun b l hb => by
    have : b < H.next := by
      rcases Nat.lt_or_ge b H.next with h | h
      · exact h
      · rw [s.fresh b h] at hb; cases hb
    rw [f0.le b this]; exact hb
  have q4 : Fr μ H μ1 H1 w w' := ⟨f0.le, f0.nx, f0.os, f0.tape, f0.output, f0.size, f0.same, f0.from_⟩
  cases out with
  | ret v =>
    obtain ⟨x, rfl, hx⟩ := k1
    simp only [] at hk ⊢
    rw [← hd]
    exact hK _ H1 x w' μ1 hk hx q3 q1 q4
  | panic v =>
    obtain ⟨x, rfl, hx⟩ := k1
    simp only [] at hk ⊢
    exact hQ _ H1 x w' μ1 hk hx q3 q1 q4
def afterO (Q : Post) (K : AV → AH → Prop) (tss : List AV) (H' : AH) : AOut → Prop
  | .ret v => K v H'
  | .panic v => Q (.panic v) tss H'
theorem effV_ok {P : Program} {call : Orc} (hc : OrcOK P call) {B : Nat} {ops : Array Oper} {Q : Post} {j : Nat} {o : Oper} {tss : List AV} {H H' : AH} {K : AV → AH → Prop} {out : AOut} (ho : ops[j]? = some o) (h : effV P call ops o tss H = some (out, H'))
    (hk : afterO Q K tss H' out) : OpJ P B ops Q j tss H K := by
  unfold effV at h
  split at h
  · cases h
  · rename_i g hg
    split at h
    · cases h
    · rename_i hb
      cases h
      exact OpJ.step 0 ho (by simp [stepV, hg, hb]) hk
    · rename_i hb
      split at h
      · rename_i c hcm
        split at h
        · rename_i v H1 hst
          cases h
          obtain ⟨m, hn⟩ := COp.hint0 c
          exact OpJ.step m ho (by simp [stepV, hg, hb, hcm, hn, hst]) hk
        · cases h
      · split at h
        · rename_i f as hf
          rcases hgo : isGo P f with _ | _
          · rw [hgo] at h; cases h
          · rw [hgo] at h
            exact OpJ.run ho hg hb hf hgo (hc f as H _ _ h) (by cases out <;> exact hk)
        · cases h
def validB (P : Program) (ops : Array Oper) (M : List Nat) (ts : List AV) (H : AH) : List Nat → Bool
  | [] => true
  | k :: ks => (match ops[k]? with
    | some o => match pureV P ops o (scrub ops (besides ops M k) ts) H with
      | some v => AV.eqB v (valAt ts o.dst)
      | none => false
    | none => true) && validB P ops M ts H ks
theorem validB_ok {P : Program} {ops : Array Oper} {M : List Nat} {ts : List AV} {H : AH} : ∀ {l : List Nat}, validB P ops M ts H l = true → ValidL P ops M ts H l
  | [], _ => trivial
  | k :: ks, h => by
    simp only [validB, Bool.and_eq_true] at h
    refine ⟨?_, validB_ok h.2⟩
    have h1 := h.1
    unfold ValidOne
    split at h1
    · rename_i o ho
      simp only [ho]
      split at h1
      · rename_i v hv
        rw [← AV.eqB_ok _ _ h1]
        exact pureV_ok hv
      · cases h1
    · rename_i ho
      simp only [ho]
/-- The first that may be taken early. -/
def firstPure (P : Program) (ops : Array Oper) (ts : List AV) (H : AH) : List Nat → Option (Nat × AV)
  | [] => none
  | j :: js => match ops[j]? with
    | some o => match pureV P ops o ts H with
      | some v => some (j, v)
      | none => firstPure P ops ts H js
    | none => firstPure P ops ts H js
def drGo (P : Program) (call : Orc) (ops : Array Oper) : Nat → List Nat → List Nat → List AV → AH → Res
  | 0, _, _, _, _ => none
  | n + 1, M, L, ts, H => match readyAbs ops L with
    | [] => bif (List.range ops.size).all (fun j => L.contains j) && validB P ops M ts H M then some (.normal, ts, H) else none
    | j :: js => match firstPure P ops ts H (j :: js) with
      | some (i, v) => bif L.contains i then none else drGo P call ops n (i :: M) (i :: L) (putT ts (dstOf ops i) v) H
      | none => match js, ops[j]? with
        | [], some o => bif validB P ops M ts H M then match effV P call ops o (scrub ops (besides ops M j) ts) H with
          | some (.ret v, H') => drGo P call ops n (besides ops M j) (j :: L) (putT ts (dstOf ops j) v) H'
          | some (.panic v, H') => some (.panic v, scrub ops (besides ops M j) ts, H')
          | none => none else none
        | _, _ => none
theorem drGo_ok {P : Program} {call : Orc} (hc : OrcOK P call) {B : Nat} {ops : Array Oper} (hbk : backB ops = true) {Q : Post} : ∀ (n : Nat) {M L : List Nat} {ts ts' : List AV} {H H' : AH} {x : AX}, drGo P call ops n M L ts H = some (x, ts', H') → Q x ts' H' → DA P B ops M L ts H Q
  | 0, M, L, ts, ts', H, H', x, h, q => by simp [drGo] at h
  | n + 1, M, L, ts, ts', H, H', x, h, q => by
    simp only [drGo] at h
    split at h
    · rename_i hr
      rcases hv : ((List.range ops.size).all (fun j => L.contains j) && validB P ops M ts H M) with _ | _
      · rw [hv] at h; cases h
      · rw [hv] at h
        simp only [cond_true, Option.some.injEq, Prod.mk.injEq] at h
        obtain ⟨rfl, rfl, rfl⟩ := h
        simp only [Bool.and_eq_true] at hv
        exact DA.fin ⟨hv.1, hbk⟩ (validB_ok hv.2) q
    · rename_i j js hr
      split at h
      · rename_i i v hf
        rcases hl : L.contains i with _ | _
        · rw [hl] at h
          exact DA.take i v hl (drGo_ok hc hbk n h q)
        · rw [hl] at h; cases h
      · split at h
        · rename_i o ho hfp
          rcases hv : validB P ops M ts H M with _ | _
          · rw [hv] at h; cases h
          · rw [hv] at h
            simp only [cond_true] at h
            refine DA.exec [j] ⟨hr, rfl, hbk⟩ (validB_ok hv) ⟨?_, trivial⟩
            split at h
            · rename_i v H1 he
              exact effV_ok hc ho he (drGo_ok hc hbk n h q)
            · rename_i v H1 he
              simp only [Option.some.injEq, Prod.mk.injEq] at h
              obtain ⟨rfl, rfl, rfl⟩ := h
              exact effV_ok hc ho he q
            · cases h
        · cases h
/-- A region that draws, slots in a tree. -/
def drT (P : Program) (call : Orc) : Dro := fun n ops s H =>
  bif backB ops then match drGo P call ops (ops.size + 1) [] [] ((List.range n).map s.get) H with
    | some (x, ts', H') => bif Nat.beq ts'.length n then some (x, SL.lay ts' 0 (SL.mk 10), H') else none
    | none => none else none
theorem drT_ok {P : Program} (hm : P.follows .mixedOrders = true) (call : Orc) (hc : OrcOK P call) : DroOK P (drT P call) := by
  intro B id n ops ts s H x s' H' Q hs h q
  have hts : (List.range n).map s.get = ts := by
    rw [← hs.get]
    refine List.ext_getElem? fun i => ?_
    rw [List.getElem?_map]
    by_cases e : i < n
    · rw [List.getElem?_range e]
      simp only [Option.map_some, List.getD_eq_getElem?_getD]
      rw [List.getElem?_eq_getElem (by rw [hs.len]; exact e)]
      rfl
    · rw [List.getElem?_eq_none (by simp; omega), List.getElem?_eq_none (by rw [hs.len]; omega)]
      rfl
  unfold drT at h
  rw [hts] at h
  rcases hb : backB ops with _ | _
  · rw [hb] at h; cases h
  · rw [hb] at h
    simp only [cond_true] at h
    split at h
    · rename_i x1 ts1 H1 h1
      rcases hl : Nat.beq ts1.length n with _ | _
      · rw [hl] at h; cases h
      · rw [hl] at h
        simp only [cond_true, Option.some.injEq, Prod.mk.injEq] at h
        obtain ⟨rfl, rfl, rfl⟩ := h
        have hn := Nat.eq_of_beq_eq_true hl
        refine Tri.drawn hm (drGo_ok hc hb _ h1 (q _ ?_))
        have := SR.start (as := ts1) (n := n) (by omega) hs.small
        rwa [show n - ts1.length = 0 by omega, List.replicate_zero, List.append_nil] at this
    · cases h
/-- What is reckoned, runs so. -/
theorem runs_of {P : Program} (hm : P.follows .mixedOrders = true) {base : Orc} (hb : OrcOK P base) (m n : Nat) {f : FuncId} {as : List AV} {H H' : AH} {out : AOut} (h : tF P (drT P) base m n f as H = some (out, H')) : Runs P f as H out H' :=
  tF_ok (fun c hc => drT_ok hm c hc) hb m n f as H out H' h
def noBase : Orc := fun _ _ _ => none
theorem noBase_ok (P : Program) : OrcOK P noBase := fun f as H out H' h => by cases h
end
end Go.Eng
/- The engine, twentieth part: conditions under which a run comes to what is asked (values may be unknown). -/
namespace Go.Eng
open Go Go.RowKit
set_option linter.unusedVariables false
set_option linter.unusedSimpArgs false
noncomputable section
/-- A call of f, with such arguments and heap, comes to one of those that K knows. -/
def RunsK (P : Program) (f : FuncId) (args : List AV) (H : AH) (K : AOut → AH → Prop) : Prop :=
  ∀ μ w (vs : Array Value), VRels μ args vs.toList → Sat μ H w → Calls P f vs w (fun e w' => ∃ out H' μ', K out H' ∧ OutRel μ' out e ∧ Sat μ' H' w' ∧ Fw H.next μ H μ' H' w w')
theorem RunsK.mono {P : Program} {f : FuncId} {args : List AV} {H : AH} {K K' : AOut → AH → Prop} (h : RunsK P f args H K) (hk : ∀ out H', K out H' → K' out H') : RunsK P f args H K' := fun μ w vs hv s =>
  Calls.mono (h μ w vs hv s) (fun e w' hq => by
    obtain ⟨out, H', μ', h1, h2⟩ := hq
    exact ⟨out, H', μ', hk _ _ h1, h2⟩)
theorem Runs.toK {P : Program} {f : FuncId} {args : List AV} {H H' : AH} {out : AOut} {K : AOut → AH → Prop} (h : Runs P f args H out H') (hk : K out H') : RunsK P f args H K := fun μ w vs hv s =>
  Calls.mono (h μ w vs hv s) (fun e w' hq => by
    obtain ⟨μ', h1⟩ := hq
    exact ⟨out, H', μ', hk, h1⟩)
theorem RunsK.one {P : Program} {f : FuncId} {args : List AV} {H H' : AH} {out : AOut} (h : RunsK P f args H (fun o h => o = out ∧ h = H')) : Runs P f args H out H' := fun μ w vs hv s =>
  Calls.mono (h μ w vs hv s) (fun e w' hq => by
    obtain ⟨o, h', μ', ⟨rfl, rfl⟩, h1⟩ := hq
    exact ⟨μ', h1⟩)
/-- The post of a function's body. -/
def bodyK (P : Program) (fn : Func) (K : AOut → AH → Prop) : Post
  | .normal, ts, H | .ret, ts, H => ∃ v, resOf P fn ts H = some (v, true) ∧ K (.ret v) H
  | .panic v, ts, H => K (.panic v) H
  | _, _, _ => False
theorem RunsK.body {P : Program} {f : FuncId} {fn : Func} {c : Code} {args : List AV} {H : AH} {K : AOut → AH → Prop} (hf : P.funcs[f]? = some fn) (hb : fn.body = some c)
    (h : Tri P H.next c (args ++ List.replicate (fn.ntmps - args.length) .any) H (bodyK P fn K)) : RunsK P f args H K := fun μ w vs hv s => by
  have hl : args.length = vs.size := by simpa using hv.len
  refine calls_of_wp hf hb ?_
  have hrel : Rel μ (args ++ List.replicate (fn.ntmps - args.length) .any) (vs ++ Array.replicate (fn.ntmps - vs.size) undef) := by
    unfold Rel
    rw [Array.toList_append, Array.toList_replicate, hl]
    exact hv.append (VRels.replicate (v := .any) (x := undef) (by simp [VRel]) _)
  refine wp_mono (h μ w { tmps := vs ++ Array.replicate (fn.ntmps - vs.size) undef, defers := [] } hrel s (Nat.le_refl _)) (fun e a1 w1 hq => ?_)
  obtain ⟨x, ts, H1, μ1, h1, h2, h3, h4, h5, h6⟩ := hq
  have fin : ∀ v, resOf P fn ts H1 = some (v, true) → K (.ret v) H1 → ∃ x, (results fn a1.tmps).run P w1 = .ok x w1 ∧ ∃ out H' μ', K out H' ∧ OutRel μ' out (.returned x) ∧ Sat μ' H' w1 ∧ Fw H.next μ H μ' H' w w1 := by
    intro v e1 e2
    obtain ⟨x, r1, r2⟩ := resOf_ok e1 h3 h4
    exact ⟨x, r1, _, _, μ1, e2, ⟨x, rfl, r2⟩, h4, h5⟩
  cases x with
  | normal =>
    simp only [XRel] at h2
    subst h2
    obtain ⟨v, e1, e2⟩ := h1
    obtain ⟨x, r1, r2⟩ := fin v e1 e2
    exact ⟨h6, x, r1, r2⟩
  | ret =>
    simp only [XRel] at h2
    subst h2
    obtain ⟨v, e1, e2⟩ := h1
    obtain ⟨x, r1, r2⟩ := fin v e1 e2
    exact ⟨h6, x, r1, r2⟩
  | panic v =>
    obtain ⟨xv, rfl, hv'⟩ := h2
    exact ⟨h6, _, _, μ1, h1, ⟨xv, rfl, hv'⟩, h4, h5⟩
  | exit id => exact h1.elim
  | goto l => exact h1.elim
def nextK (nx : AV → AH → Prop) (pk : AV → AH → Prop) : AOut → AH → Prop
  | .ret v, H => nx v H
  | .panic v, H => pk v H
theorem Seg.runR {P : Program} {B : Nat} {ops : Array Oper} {o : Oper} {l : List Oper} {ts : List AV} {H : AH} {Q : Post} {f : FuncId} {as : List AV} {K : AOut → AH → Prop} {g : Option (Nat × Bool)} (hgd : guardOf ops o = some g) (hgo : goesOn ts g = some true)
    (hr : ∀ {a : Act} {μ : Mu}, Rel μ ts a.tmps → ∀ w : World, ∃ vs : Array Value, VRels μ as vs.toList ∧ (execOp a.eval o).run P w = .ok (.enter f vs) w) (run : RunsK P f as H K)
    (hn : ∀ out H1, K out H1 → nextK (fun v H1 => Seg P B ops l (putT ts o.dst v) H1 Q) (fun v H1 => Q (.panic v) ts H1) out H1) : Seg P B ops (o :: l) ts H Q := fun μ w a r s hB => by
  refine wpList_step fun K hK => ?_
  rw [guard_ok r hgd hgo]
  simp only [if_true]
  obtain ⟨vs, h1, h2⟩ := hr r w
  unfold Oper.wp
  rw [h2, Oper.upon_enter]
  refine Calls.mono (run μ w vs h1 s) (fun e w' hq => ?_)
  obtain ⟨out, H1, μ1, k0, k1, q3, f0⟩ := hq
  have hn := hn out H1 k0
  have f1 : Fw B μ H μ1 H1 w w' := { f0 with le := fun b hb => f0.le b (Nat.lt_of_lt_of_le hb hB), nx := Nat.le_trans hB f0.nx }
  have q1 : ∀ b l, μ b = some l → μ1 b = some l := fun b l hb => by
    have : b < H.next := by
      rcases Nat.lt_or_ge b H.next with h | h
      · exact h
      · rw [s.fresh b h] at hb; cases hb
    rw [f0.le b this]; exact hb
  cases out with
  | ret v =>
    obtain ⟨x, rfl, hx⟩ := k1
    simp only [nextK] at hn ⊢
    refine hK _ _ ?_
    have hd : (a.put o.dst x).defers = a.defers := by cases o.dst <;> rfl
    have := hn μ1 w' (a.put o.dst x) ((r.ext q1).put o.dst hx) q3 f1.nx
    rw [hd] at this
    exact wpList_mono (fun e a1 w1 hq => Lift.trans f1 hq) l _ _ this
  | panic v =>
    obtain ⟨x, rfl, hx⟩ := k1
    simp only [nextK] at hn ⊢
    exact ⟨.panic _, ts, H1, μ1, hn, ⟨x, rfl, hx⟩, r.ext q1, q3, f1, rfl⟩
theorem Seg.runK {P : Program} {B : Nat} {ops : Array Oper} {o : Oper} {l : List Oper} {ts : List AV} {H : AH} {Q : Post} {f : FuncId} {as : List AV} {K : AOut → AH → Prop} {g : Option (Nat × Bool)} (hgd : guardOf ops o = some g) (hgo : goesOn ts g = some true)
    (hc : callOf ts o = some (f, as)) (hf : isGo P f = true) (run : RunsK P f as H K)
    (hn : ∀ out H1, K out H1 → nextK (fun v H1 => Seg P B ops l (putT ts o.dst v) H1 Q) (fun v H1 => Q (.panic v) ts H1) out H1) : Seg P B ops (o :: l) ts H Q :=
  Seg.runR hgd hgo (fun r w => call_run r hc hf w) run hn
/-! ### conditions -/
/-- Either way. -/
def sp (b : Bool) (A B : Prop) : Prop :=
  match b with
  | true => A
  | false => B
theorem sp_iff {b : Bool} {A B : Prop} : sp b A B ↔ (b = true → A) ∧ (b = false → B) := by
  cases b <;> simp [sp]
abbrev SPf := Bool → Prop → Prop → Prop
abbrev KT := AX → SL → AH → Prop
abbrev OrcK := FuncId → List AV → AH → (AOut → AH → Prop) → Option Prop
def OrcKOK (P : Program) (c : OrcK) : Prop := ∀ f as H K p, c f as H K = some p → p → RunsK P f as H K
abbrev DroK := Nat → Array Oper → SL → AH → KT → Prop
def DroKOK (P : Program) (dr : DroK) : Prop := ∀ B id n ops ts s H (K : KT) (Q : Post), SR n ts s → dr n ops s H K → (∀ x ts' s' H', SR n ts' s' → K x s' H' → Q x ts' H') → Tri P B (.region id ops true) ts H Q
/-- Summaries of loops: the base of the call, the number of slots, the loop's body. -/
abbrev LoK := Nat → Nat → Code → SL → AH → KT → Option Prop
def LoKOK (P : Program) (lo : LoK) : Prop := ∀ B n c ts s H (K : KT) p (Q : Post), SR n ts s → lo B n c s H K = some p → p → (∀ x ts' s' H', SR n ts' s' → K x s' H' → Q x ts' H') → Tri P B (.loop c) ts H Q
def noLo : LoK := fun _ _ _ _ _ _ => none
theorem noLo_ok (P : Program) : LoKOK P noLo := fun B n c ts s H K p Q hs h => by cases h
def vStep (S : SPf) (P : Program) (call : OrcK) (n : Nat) (Q : KT) (o : Oper) (s : SL) (H : AH) (next : SL → AH → Prop) : Prop :=
  match comp P o with
  | some c => match cstep (evG s.get) H (c.hint 1) with
    | some (v, H', ok) => S ok (next (putS n s o.dst v) H') False
    | none => False
  | none => match callOfG (evG s.get) o with
    | some (f, as) => bif isGo P f then match call f as H (nextK (fun v H' => next (putS n s o.dst v) H') (fun v H' => Q (.panic v) s H')) with
      | some p => p
      | none => False else False
    | none => match panicOf (evG s.get) o with
      | some v => Q (.panic v) s H
      | none => False
def vOps (S : SPf) (P : Program) (call : OrcK) (n : Nat) (ops : Array Oper) (Q : KT) : List Oper → SL → AH → Prop
  | [], s, H => Q .normal s H
  | o :: l, s, H => match guardOf ops o with
    | none => False
    | some none => vStep S P call n Q o s H (fun s H => vOps S P call n ops Q l s H)
    | some (some (d, want)) => match s.get d with
      | .bool b => S b
        (bif want then vStep S P call n Q o (s.put (.bool true) d) H (fun s H => vOps S P call n ops Q l s H) else vOps S P call n ops Q l (putS n (s.put (.bool true) d) o.dst (.tup [])) H)
        (bif want then vOps S P call n ops Q l (putS n (s.put (.bool false) d) o.dst (.tup [])) H else vStep S P call n Q o (s.put (.bool false) d) H (fun s H => vOps S P call n ops Q l s H))
      | .tup _ => vOps S P call n ops Q l (putS n s o.dst (.tup [])) H
      | _ => False
/-- A slot that is written with what it holds. -/
theorem SR.same {n : Nat} {ts : List AV} {s : SL} (h : SR n ts s) {d : Nat} {v : AV} (e : s.get d = v) (hv : v ≠ .any) : SR n ts (s.put v d) := by
  have hd : d < n := by
    rcases Nat.lt_or_ge d n with h1 | h1
    · exact h1
    · rw [← h.get] at e
      have : ts.getD d .any = .any := by
        rw [List.getD_eq_getElem?_getD, List.getElem?_eq_none (by rw [h.len]; exact h1)]; rfl
      exact (hv (e.symm.trans this)).elim
  have hs := h.small
  refine ⟨h.len, h.small, SL.put_full v 10 s d h.full, ?_⟩
  rw [h.get]
  funext c
  rw [SL.get_put v 10 s d h.full (by omega)]
  by_cases q : c = d
  · rw [if_pos q, q, e]
  · rw [if_neg q]
theorem vStep_ok {P : Program} {call : OrcK} (hc : OrcKOK P call) {B n : Nat} {ops : Array Oper} {Q : Post} {K : KT} {o : Oper} {l : List Oper} {ts : List AV} {s : SL} {H : AH} {next : SL → AH → Prop} (hs : SR n ts s) {g : Option (Nat × Bool)} (hg : guardOf ops o = some g) (hb : goesOn ts g = some true)
    (h : vStep sp P call n K o s H next) (hK : ∀ x ts' s' H', SR n ts' s' → K x s' H' → Q x ts' H') (hn : ∀ ts' s' H', SR n ts' s' → next s' H' → Seg P B ops l ts' H' Q) : Seg P B ops (o :: l) ts H Q := by
  unfold vStep at h
  rw [← hs.get, ← evG_eq] at h
  split at h
  · rename_i c hcm
    split at h
    · rename_i v H1 ok hst
      obtain ⟨h1, h2⟩ := sp_iff.1 h
      have hok : ok = true := by
        cases ok
        · exact (h2 rfl).elim
        · rfl
      subst hok
      refine Seg.step (hint := 1) (ts' := putT ts o.dst v) (H' := H1) ?_ (hn _ _ _ (hs.put _ _) (h1 rfl))
      simp [stepO, hg, hb, hcm, hst]
    · exact h.elim
  · rw [← callOfG_eq] at h
    split at h
    · rename_i f as hf
      rcases hgo : isGo P f with _ | _
      · rw [hgo] at h; exact h.elim
      · rw [hgo] at h
        simp only [cond_true] at h
        split at h
        · rename_i p hp
          refine Seg.runK hg hb hf hgo (hc f as H _ p hp h) (fun out H1 hk => ?_)
          cases out with
          | ret v => exact hn _ _ _ (hs.put _ _) hk
          | panic v => exact hK _ _ _ _ hs hk
        · exact h.elim
    · split at h
      · rename_i v hpv
        exact Seg.panics hg hb hpv (hK _ _ _ _ hs h)
      · exact h.elim
theorem vOps_ok {P : Program} {call : OrcK} (hc : OrcKOK P call) {B n : Nat} {ops : Array Oper} {Q : Post} {K : KT} (hK : ∀ x ts' s' H', SR n ts' s' → K x s' H' → Q x ts' H') : ∀ (l : List Oper) {ts : List AV} {s : SL} {H : AH}, SR n ts s → vOps sp P call n ops K l s H → Seg P B ops l ts H Q
  | [], ts, s, H, hs, h => Seg.nil (hK _ _ _ _ hs h)
  | o :: l, ts, s, H, hs, h => by
    have ih := fun {ts s H} => vOps_ok hc (B := B) (ops := ops) hK l (ts := ts) (s := s) (H := H)
    unfold vOps at h
    split at h
    · exact h.elim
    · rename_i hg
      exact vStep_ok hc hs hg rfl h hK (fun ts' s' H' q1 q2 => ih q1 q2)
    · rename_i d want hg
      split at h
      · rename_i b hb
        have hbt : ∀ ts s, SR n ts s → s.get d = .bool true → goesOn ts (some (d, want)) = some want := by
          intro ts s q1 q2
          have : ts.getD d .any = .bool true := by rw [← q2, ← q1.get]
          simp [goesOn, this]
          rw [← List.getD_eq_getElem?_getD, this]
        have hbf : ∀ ts s, SR n ts s → s.get d = .bool false → goesOn ts (some (d, want)) = some (!want) := by
          intro ts s q1 q2
          have : ts.getD d .any = .bool false := by rw [← q2, ← q1.get]
          simp [goesOn, this]
          rw [← List.getD_eq_getElem?_getD, this]
        have sk : ∀ {ts s H}, SR n ts s → goesOn ts (some (d, want)) = some false → vOps sp P call n ops K l (putS n s o.dst (.tup [])) H → Seg P B ops (o :: l) ts H Q := by
          intro ts s H q1 q2 q3
          refine Seg.step (hint := 0) (ts' := putT ts o.dst (.tup [])) (H' := H) ?_ (ih (q1.put _ _) q3)
          simp [stepO, hg, q2]
        obtain ⟨h1, h2⟩ := sp_iff.1 h
        cases b with
        | true =>
          have h := h1 rfl
          have hs1 := hs.same hb (by simp)
          have hb1 := hbt ts s hs hb
          cases want with
          | true => exact vStep_ok hc hs1 hg hb1 h hK (fun ts' s' H' q1 q2 => ih q1 q2)
          | false => exact sk hs1 hb1 h
        | false =>
          have h := h2 rfl
          have hs1 := hs.same hb (by simp)
          have hb1 := hbf ts s hs hb
          cases want with
          | true => exact sk hs1 hb1 h
          | false => exact vStep_ok hc hs1 hg hb1 h hK (fun ts' s' H' q1 q2 => ih q1 q2)
      · rename_i vs hb
        have hb1 : goesOn ts (some (d, want)) = some false := by
          have : ts.getD d .any = .tup vs := by rw [← hb, ← hs.get]
          simp [goesOn]
          rw [← List.getD_eq_getElem?_getD, this]
        refine Seg.step (hint := 0) (ts' := putT ts o.dst (.tup [])) (H' := H) ?_ (ih (hs.put _ _) h)
        simp [stepO, hg, hb1]
      · exact h.elim
/-! ### code -/
/-- Code (r = false), or rounds of a loop with that body (r = true). -/
def vC (S : SPf) (P : Program) (call : OrcK) (dr : DroK) (lo : LoK) (B k : Nat) : Nat → Bool → Code → SL → AH → KT → Prop
  | 0, _, _, _, _, _ => False
  | n + 1, true, c, s, H, Q => vC S P call dr lo B k n false c s H (fun x s H => match x with
    | .normal => vC S P call dr lo B k n true c s H Q
    | x => Q x s H)
  | n + 1, false, c, s, H, Q => match c with
    | .skip | .label _ => Q .normal s H
    | .ret => Q .ret s H
    | .exit id => Q (.exit id) s H
    | .goto l => Q (.goto l) s H
    | .seq a b => vC S P call dr lo B k n false a s H (fun x s H => match x with
      | .normal => vC S P call dr lo B k n false b s H Q
      | x => Q x s H)
    | .cond (.tmp d) a b => match s.get d with
      | .bool q => S q (vC S P call dr lo B k n false a (s.put (.bool true) d) H Q) (vC S P call dr lo B k n false b (s.put (.bool false) d) H Q)
      | _ => False
    | .cond (.const (.bool true)) a b => vC S P call dr lo B k n false a s H Q
    | .cond (.const (.bool false)) a b => vC S P call dr lo B k n false b s H Q
    | .block id c => vC S P call dr lo B k n false c s H (fun x s H => match x with
      | .exit id' => bif Nat.beq id' id then Q .normal s H else Q (.exit id') s H
      | x => Q x s H)
    | .scope c => vC S P call dr lo B k n false c s H (fun x s H => match x with
      | .goto _ => False
      | x => Q x s H)
    | .loop c => match lo B k c s H Q with
      | some p => p
      | none => vC S P call dr lo B k n true c s H Q
    | .region _ ops false => vOps S P call k ops Q ops.toList s H
    | .region _ ops true => dr k ops s H Q
    | _ => False
theorem vC_ok {P : Program} {call : OrcK} (hc : OrcKOK P call) {dr : DroK} (hd : DroKOK P dr) {lo : LoK} (hl : LoKOK P lo) {B k : Nat} : ∀ (n : Nat), (∀ (c : Code) {Q : Post} {K : KT} {ts : List AV} {s : SL} {H : AH}, SR k ts s → vC sp P call dr lo B k n false c s H K → (∀ x ts' s' H', SR k ts' s' → K x s' H' → Q x ts' H') → Tri P B c ts H Q) ∧
    (∀ (c : Code) {Q : Post} {K : KT} {ts : List AV} {s : SL} {H : AH}, SR k ts s → vC sp P call dr lo B k n true c s H K → (∀ x ts' s' H', SR k ts' s' → K x s' H' → Q x ts' H') → TriL P B c n ts H Q)
  | 0 => ⟨fun c Q K ts s H hs h q => h.elim, fun c Q K ts s H hs h q => h.elim⟩
  | n + 1 => by
    obtain ⟨ih, il⟩ := vC_ok hc hd hl (B := B) (k := k) n
    refine ⟨?_, ?_⟩
    rotate_left
    · intro c Q K ts s H hs h q
      simp only [vC] at h
      refine TriL.round (ih c hs h (fun x ts1 s1 H1 hs1 h1 => ?_))
      cases x with
      | normal => exact il c hs1 h1 q
      | _ => exact q _ _ _ _ hs1 h1
    intro c Q K ts s H hs h q
    cases c with
    | skip => exact Tri.skip (q _ _ _ _ hs h)
    | label l => exact Tri.label (q _ _ _ _ hs h)
    | ret => exact Tri.ret (q _ _ _ _ hs h)
    | exit id => exact Tri.exit (q _ _ _ _ hs h)
    | goto l => exact Tri.goto (q _ _ _ _ hs h)
    | seq a b =>
      simp only [vC] at h
      refine Tri.seq (ih a hs h (fun x ts1 s1 H1 hs1 h1 => ?_))
      cases x with
      | normal => exact ih b hs1 h1 q
      | _ => exact q _ _ _ _ hs1 h1
    | cond o a b =>
      cases o with
      | tmp d =>
        simp only [vC] at h
        split at h
        · rename_i b hb
          obtain ⟨h1, h2⟩ := sp_iff.1 h
          have hbt : boolAt ts (.tmp d) = some b := by
            rw [boolAtG_eq, hs.get]
            simp [boolAtG, hb]
          refine Tri.cond b hbt (fun e => ?_) (fun e => ?_)
          · subst e; exact ih a (hs.same hb (by simp)) (h1 rfl) q
          · subst e; refine ih _ (hs.same hb (by simp)) (h2 rfl) q
        · exact h.elim
      | const v =>
        cases v with
        | bool b =>
          have hbt : boolAt ts (.const (.bool b)) = some b := rfl
          refine Tri.cond b hbt (fun e => ?_) (fun e => ?_)
          · subst e; simp only [vC] at h; exact ih a hs h q
          · subst e; simp only [vC] at h; exact ih _ hs h q
        | _ => exact h.elim
      | _ => exact h.elim
    | block id c =>
      simp only [vC] at h
      refine Tri.block (ih c hs h (fun x ts1 s1 H1 hs1 h1 => ?_))
      cases x with
      | exit i =>
        simp only [blockX]
        change (bif Nat.beq i id then K .normal s1 H1 else K (.exit i) s1 H1) at h1
        rcases hb : Nat.beq i id with _ | _
        · rw [hb] at h1
          rw [if_neg (fun e => by rw [e] at hb; simp at hb)]
          exact q _ _ _ _ hs1 h1
        · rw [hb] at h1
          rw [if_pos (Nat.eq_of_beq_eq_true hb)]
          exact q _ _ _ _ hs1 h1
      | _ => exact q _ _ _ _ hs1 h1
    | scope c =>
      simp only [vC] at h
      refine Tri.scope (ih c hs h (fun x ts1 s1 H1 hs1 h1 => ?_))
      cases x with
      | goto i => exact h1.elim
      | _ => exact q _ _ _ _ hs1 h1
    | loop c =>
      simp only [vC] at h
      split at h
      · rename_i p hp
        exact hl B k c ts s H K p Q hs hp h q
      · exact TriL.loop (il c hs h q)
    | region id ops d =>
      cases d with
      | false =>
        simp only [vC] at h
        exact Tri.region (vOps_ok hc q _ hs h)
      | true =>
        simp only [vC] at h
        exact hd B id k ops ts s H K Q hs h q
    | _ => exact h.elim
def finK (S : SPf) (P : Program) (fn : Func) (K : AOut → AH → Prop) : KT := fun x s H' =>
  match x with
  | .normal | .ret => match resOfG P fn s.get H' with
    | some (v, ok) => S ok (K (.ret v) H') False
    | none => False
  | .panic v => K (.panic v) H'
  | _ => False
/-- A function's call; m levels of code, n levels of calls. -/
def vF (S : SPf) (P : Program) (dr : OrcK → DroK) (lo : FuncId → LoK) (base : OrcK) (m : Nat) : Nat → OrcK
  | 0, _, _, _, _ => none
  | n + 1, f, as, H, K => match base f as H K with
    | some p => some p
    | none => match P.funcs[f]? with
      | none => none
      | some fn => match fn.body with
        | none => none
        | some c => bif Nat.ble as.length fn.ntmps && Nat.blt fn.ntmps 1023 then
          some (vC S P (vF S P dr lo base m n) (dr (vF S P dr lo base m n)) (lo f) H.next fn.ntmps m false c (SL.lay as 0 (SL.mk 10)) H (finK S P fn K))
          else none
theorem vF_ok {P : Program} {dr : OrcK → DroK} (hd : ∀ c, OrcKOK P c → DroKOK P (dr c)) {lo : FuncId → LoK} (hl : ∀ f, LoKOK P (lo f)) {base : OrcK} (hb0 : OrcKOK P base) (m : Nat) : ∀ n, OrcKOK P (vF sp P dr lo base m n)
  | 0, f, as, H, K, p, h, hp => by cases h
  | n + 1, f, as, H, K, p, h, hp => by
    have ihn := vF_ok hd hl hb0 m n
    simp only [vF] at h
    split at h
    · rename_i q hq
      cases h
      exact hb0 f as H K _ hq hp
    · split at h
      · cases h
      · rename_i fn hf
        split at h
        · cases h
        · rename_i c hb
          rcases hlt : (Nat.ble as.length fn.ntmps && Nat.blt fn.ntmps 1023) with _ | _
          · rw [hlt] at h; cases h
          · rw [hlt] at h
            simp only [cond_true, Option.some.injEq] at h
            subst h
            simp only [Bool.and_eq_true] at hlt
            have st := SR.start (Nat.le_of_ble_eq_true hlt.1) (Nat.le_of_ble_eq_true hlt.2 : fn.ntmps < 1023)
            refine RunsK.body hf hb ((vC_ok ihn (hd _ ihn) (hl f) m).1 c st hp (fun x ts1 s1 H1 hs1 hk => ?_))
            have fin : (match resOfG P fn s1.get H1 with
                | some (v, ok) => sp ok (K (.ret v) H1) False
                | none => False) → ∃ v, resOf P fn ts1 H1 = some (v, true) ∧ K (.ret v) H1 := by
              intro q
              split at q
              · rename_i v ok hv
                obtain ⟨q1, q2⟩ := sp_iff.1 q
                have hok : ok = true := by
                  cases ok
                  · exact (q2 rfl).elim
                  · rfl
                subst hok
                exact ⟨v, by rw [resOfG_eq, hs1.get]; exact hv, q1 rfl⟩
              · exact q.elim
            cases x with
            | normal => exact fin hk
            | ret => exact fin hk
            | panic v => exact hk
            | exit i => exact hk.elim
            | goto i => exact hk.elim
end
end Go.Eng
