/- The engine, nineteenth part: regions that draw their order, reckoned. -/
import Derived.Test.YtieikjgfndojpaaGreatEn19
namespace Go.Eng
open Go Go.RowKit
set_option linter.unusedVariables false
set_option linter.unusedSimpArgs false
noncomputable section
mutual
def AV.eqB : AV → AV → Bool
  | .any, .any => true
  | .int k n, .int k' n' => decide (k = k') && decide (n = n')
  | .bool a, .bool b => a == b
  | .str a, .str b => decide (a = b)
  | .ptr b k j, .ptr b' k' j' => Nat.beq b b' && Nat.beq k k' && Nat.beq j j'
  | .nilp, .nilp => true
  | .sl b k j n c e, .sl b' k' j' n' c' e' => Nat.beq b b' && Nat.beq k k' && Nat.beq j j' && Nat.beq n n' && Nat.beq c c' && (e == e')
  | .nils, .nils => true
  | .msl b k j n c, .msl b' k' j' n' c' => Nat.beq b b' && Nat.beq k k' && Nat.beq j j' && Nat.beq n n' && Nat.beq c c'
  | .map b, .map b' => Nat.beq b b'
  | .nilm, .nilm => true
  | .fn (.func f) a c, .fn (.func f') a' c' => Nat.beq f f' && AV.eqsB a a' && AV.eqsB c c'
  | .nilf, .nilf => true
  | .ifc t v, .ifc t' v' => Nat.beq t t' && AV.eqB v v'
  | .nili, .nili => true
  | .agg a, .agg b => AV.eqsB a b
  | .tup a, .tup b => AV.eqsB a b
  | _, _ => false
def AV.eqsB : List AV → List AV → Bool
  | [], [] => true
  | a :: as, b :: bs => AV.eqB a b && AV.eqsB as bs
  | _, _ => false
end
theorem nbeq (a b : Nat) : (Nat.beq a b = true) = (a = b) := propext ⟨Nat.eq_of_beq_eq_true, fun h => by rw [h]; exact Nat.beq_refl b⟩
mutual
theorem AV.eqB_ok : ∀ (a b : AV), AV.eqB a b = true → a = b := by
  intro a b h
  unfold AV.eqB at h
  split at h <;> first
    | rfl
    | (cases h; done)
    | (try simp only [Bool.and_eq_true, decide_eq_true_eq, beq_iff_eq, nbeq] at h
       first
         | (obtain ⟨rfl, rfl⟩ := h; rfl)
         | (obtain ⟨⟨rfl, rfl⟩, rfl⟩ := h; rfl)
         | (obtain ⟨⟨⟨⟨⟨rfl, rfl⟩, rfl⟩, rfl⟩, rfl⟩, rfl⟩ := h; rfl)
         | (obtain ⟨⟨⟨⟨rfl, rfl⟩, rfl⟩, rfl⟩, rfl⟩ := h; rfl)
         | (obtain ⟨⟨rfl, h1⟩, h2⟩ := h; rw [AV.eqsB_ok _ _ h1, AV.eqsB_ok _ _ h2])
         | (obtain ⟨rfl, h1⟩ := h; rw [AV.eqB_ok _ _ h1])
         | (rw [AV.eqsB_ok _ _ h])
         | (subst h; rfl))
theorem AV.eqsB_ok : ∀ (as bs : List AV), AV.eqsB as bs = true → as = bs
  | [], [], _ => rfl
  | a :: as, b :: bs, h => by
    simp only [AV.eqsB, Bool.and_eq_true] at h
    rw [AV.eqB_ok _ _ h.1, AV.eqsB_ok _ _ h.2]
  | [], _ :: _, h => by simp [AV.eqsB] at h
  | _ :: _, [], h => by simp [AV.eqsB] at h
end
/-- Operations that leave the heap. -/
def isPure : COp → Bool
  | .mv _ | .pick .. | .load .. | .nilc _ | .bin .. | .eq .. | .un .. | .conv .. | .s2a .. | .mki .. | .mkf .. | .sli .. | .sla .. | .fa .. | .fld .. | .ias .. | .iaa .. | .ixa .. | .ixs .. | .ext .. | .lens _ | .lenb _ | .lenn _ | .mm .. | .pl _ | .build .. => true
  | _ => false
theorem pure_heap {ev : CX → AV} {H H' : AH} {c : COp} {v : AV} {ok : Bool} (hp : isPure c = true) (h : cstep ev H c = some (v, H', ok)) : H' = H := by
  cases c <;> first
    | (simp [isPure] at hp; done)
    | (simp only [cstep] at h
       repeat' split at h
       all_goals first
         | (cases h; done)
         | (simp only [Option.some.injEq, Prod.mk.injEq] at h; exact h.2.1.symm)
         | (simp only [cond] at h; split at h <;> (simp only [Option.some.injEq, Prod.mk.injEq] at h; exact h.2.1.symm)))
def pureV (P : Program) (ops : Array Oper) (o : Oper) (ts : List AV) (H : AH) : Option AV :=
  match guardOf ops o with
  | none => none
  | some g => match goesOn ts g with
    | none => none
    | some false => some (.tup [])
    | some true => match comp P o with
      | none => none
      | some c => bif isPure (c.hint 0) then match cstep (CX.ev ts) H (c.hint 0) with
        | some (v, _, true) => some v
        | _ => none else none
theorem pureV_ok {P : Program} {ops : Array Oper} {o : Oper} {ts : List AV} {H : AH} {v : AV} (h : pureV P ops o ts H = some v) : stepV P ops 0 o ts H = some (v, H, true) := by
  unfold pureV at h
  unfold stepV
  split at h
  · cases h
  · rename_i g hg
    simp only [hg]
    split at h
    · cases h
    · rename_i hb
      cases h
      simp only [hb]
    · rename_i hb
      simp only [hb]
      split at h
      · cases h
      · rename_i c hc
        simp only [hc]
        rcases hp : isPure (c.hint 0) with _ | _
        · rw [hp] at h; cases h
        · rw [hp] at h
          simp only [cond_true] at h
          split at h
          · rename_i v' H' hs
            cases h
            rw [hs, pure_heap hp hs]
          · cases h
/-- An operation with an effect. -/
def effV (P : Program) (call : Orc) (ops : Array Oper) (o : Oper) (ts : List AV) (H : AH) : Option (AOut × AH) :=
  match guardOf ops o with
  | none => none
  | some g => match goesOn ts g with
    | none => none
    | some false => some (.ret (.tup []), H)
    | some true => match comp P o with
      | some c => match cstep (CX.ev ts) H c with
        | some (v, H', true) => some (.ret v, H')
        | _ => none
      | none => match callOf ts o with
        | some (f, as) => bif isGo P f then call f as H else none
        | none => none
theorem OpJ.run {P : Program} {B : Nat} {ops : Array Oper} {Q : Post} {j : Nat} {o : Oper} {tss : List AV} {H H1 : AH} {K : AV → AH → Prop} {f : FuncId} {as : List AV} {out : AOut} {g : Option (Nat × Bool)} (ho : ops[j]? = some o) (hgd : guardOf ops o = some g) (hgo : goesOn tss g = some true)
    (hc : callOf tss o = some (f, as)) (hf : isGo P f = true) (run : Runs P f as H out H1)
    (hk : match out with
      | .ret v => K v H1
      | .panic v => Q (.panic v) tss H1) : OpJ P B ops Q j tss H K := by
  intro μ w a Kc Qc r s hB hQ hK
  have hd : dstOf ops j = o.dst := by simp [dstOf, ho]
  unfold wpOp
  rw [ho]
  simp only []
  rw [guard_ok r hgd hgo]
  simp only [if_true]
  left
  obtain ⟨vs, h1, h2⟩ := call_run r hc hf w
  unfold Oper.wp
  rw [h2, Oper.upon_enter]
  refine Calls.mono (run μ w vs h1 s) (fun e w' hq => ?_)
  obtain ⟨μ1, k1, q3, f0⟩ := hq
  have q1 : MuLe μ μ1 := fun b l hb => by
    have : b < H.next := by
      rcases Nat.lt_or_ge b H.next with h | h
      · exact h
      · rw [s.fresh b h] at hb; cases hb
    rw [f0.le b this]; exact hb
  have q4 : Fr μ H μ1 H1 w w' := ⟨f0.le, f0.nx, f0.os, f0.tape, f0.output, f0.size, f0.same, f0.from_⟩
  cases out with
  | ret v =>
    obtain ⟨x, rfl, hx⟩ := k1
    simp only [] at hk ⊢
    rw [← hd]
    exact hK _ H1 x w' μ1 hk hx q3 q1 q4
  | panic v =>
    obtain ⟨x, rfl, hx⟩ := k1
    simp only [] at hk ⊢
    exact hQ _ H1 x w' μ1 hk hx q3 q1 q4
def afterO (Q : Post) (K : AV → AH → Prop) (tss : List AV) (H' : AH) : AOut → Prop
  | .ret v => K v H'
  | .panic v => Q (.panic v) tss H'
theorem effV_ok {P : Program} {call : Orc} (hc : OrcOK P call) {B : Nat} {ops : Array Oper} {Q : Post} {j : Nat} {o : Oper} {tss : List AV} {H H' : AH} {K : AV → AH → Prop} {out : AOut} (ho : ops[j]? = some o) (h : effV P call ops o tss H = some (out, H'))
    (hk : afterO Q K tss H' out) : OpJ P B ops Q j tss H K := by
  unfold effV at h
  split at h
  · cases h
  · rename_i g hg
    split at h
    · cases h
    · rename_i hb
      cases h
      exact OpJ.step 0 ho (by simp [stepV, hg, hb]) hk
    · rename_i hb
      split at h
      · rename_i c hcm
        split at h
        · rename_i v H1 hst
          cases h
          obtain ⟨m, hn⟩ := COp.hint0 c
          exact OpJ.step m ho (by simp [stepV, hg, hb, hcm, hn, hst]) hk
        · cases h
      · split at h
        · rename_i f as hf
          rcases hgo : isGo P f with _ | _
          · rw [hgo] at h; cases h
          · rw [hgo] at h
            exact OpJ.run ho hg hb hf hgo (hc f as H _ _ h) (by cases out <;> exact hk)
        · cases h
def validB (P : Program) (ops : Array Oper) (M : List Nat) (ts : List AV) (H : AH) : List Nat → Bool
  | [] => true
  | k :: ks => (match ops[k]? with
    | some o => match pureV P ops o (scrub ops (besides ops M k) ts) H with
      | some v => AV.eqB v (valAt ts o.dst)
      | none => false
    | none => true) && validB P ops M ts H ks
theorem validB_ok {P : Program} {ops : Array Oper} {M : List Nat} {ts : List AV} {H : AH} : ∀ {l : List Nat}, validB P ops M ts H l = true → ValidL P ops M ts H l
  | [], _ => trivial
  | k :: ks, h => by
    simp only [validB, Bool.and_eq_true] at h
    refine ⟨?_, validB_ok h.2⟩
    have h1 := h.1
    unfold ValidOne
    split at h1
    · rename_i o ho
      simp only [ho]
      split at h1
      · rename_i v hv
        rw [← AV.eqB_ok _ _ h1]
        exact pureV_ok hv
      · cases h1
    · rename_i ho
      simp only [ho]
/-- The first that may be taken early. -/
def firstPure (P : Program) (ops : Array Oper) (ts : List AV) (H : AH) : List Nat → Option (Nat × AV)
  | [] => none
  | j :: js => match ops[j]? with
    | some o => match pureV P ops o ts H with
      | some v => some (j, v)
      | none => firstPure P ops ts H js
    | none => firstPure P ops ts H js
def drGo (P : Program) (call : Orc) (ops : Array Oper) : Nat → List Nat → List Nat → List AV → AH → Res
  | 0, _, _, _, _ => none
  | n + 1, M, L, ts, H => match readyAbs ops L with
    | [] => bif (List.range ops.size).all (fun j => L.contains j) && validB P ops M ts H M then some (.normal, ts, H) else none
    | j :: js => match firstPure P ops ts H (j :: js) with
      | some (i, v) => bif L.contains i then none else drGo P call ops n (i :: M) (i :: L) (putT ts (dstOf ops i) v) H
      | none => match js, ops[j]? with
        | [], some o => bif validB P ops M ts H M then match effV P call ops o (scrub ops (besides ops M j) ts) H with
          | some (.ret v, H') => drGo P call ops n (besides ops M j) (j :: L) (putT ts (dstOf ops j) v) H'
          | some (.panic v, H') => some (.panic v, scrub ops (besides ops M j) ts, H')
          | none => none else none
        | _, _ => none
theorem drGo_ok {P : Program} {call : Orc} (hc : OrcOK P call) {B : Nat} {ops : Array Oper} (hbk : backB ops = true) {Q : Post} : ∀ (n : Nat) {M L : List Nat} {ts ts' : List AV} {H H' : AH} {x : AX}, drGo P call ops n M L ts H = some (x, ts', H') → Q x ts' H' → DA P B ops M L ts H Q
  | 0, M, L, ts, ts', H, H', x, h, q => by simp [drGo] at h
  | n + 1, M, L, ts, ts', H, H', x, h, q => by
    simp only [drGo] at h
    split at h
    · rename_i hr
      rcases hv : ((List.range ops.size).all (fun j => L.contains j) && validB P ops M ts H M) with _ | _
      · rw [hv] at h; cases h
      · rw [hv] at h
        simp only [cond_true, Option.some.injEq, Prod.mk.injEq] at h
        obtain ⟨rfl, rfl, rfl⟩ := h
        simp only [Bool.and_eq_true] at hv
        exact DA.fin ⟨hv.1, hbk⟩ (validB_ok hv.2) q
    · rename_i j js hr
      split at h
      · rename_i i v hf
        rcases hl : L.contains i with _ | _
        · rw [hl] at h
          exact DA.take i v hl (drGo_ok hc hbk n h q)
        · rw [hl] at h; cases h
      · split at h
        · rename_i o ho hfp
          rcases hv : validB P ops M ts H M with _ | _
          · rw [hv] at h; cases h
          · rw [hv] at h
            simp only [cond_true] at h
            refine DA.exec [j] ⟨hr, rfl, hbk⟩ (validB_ok hv) ⟨?_, trivial⟩
            split at h
            · rename_i v H1 he
              exact effV_ok hc ho he (drGo_ok hc hbk n h q)
            · rename_i v H1 he
              simp only [Option.some.injEq, Prod.mk.injEq] at h
              obtain ⟨rfl, rfl, rfl⟩ := h
              exact effV_ok hc ho he q
            · cases h
        · cases h
/-- A region that draws, slots in a tree. -/
def drT (P : Program) (call : Orc) : Dro := fun n ops s H =>
  bif backB ops then match drGo P call ops (ops.size + 1) [] [] ((List.range n).map s.get) H with
    | some (x, ts', H') => bif Nat.beq ts'.length n then some (x, SL.lay ts' 0 (SL.mk 10), H') else none
    | none => none else none
theorem drT_ok {P : Program} (hm : P.follows .mixedOrders = true) (call : Orc) (hc : OrcOK P call) : DroOK P (drT P call) := by
  intro B id n ops ts s H x s' H' Q hs h q
  have hts : (List.range n).map s.get = ts := by
    rw [← hs.get]
    refine List.ext_getElem? fun i => ?_
    rw [List.getElem?_map]
    by_cases e : i < n
    · rw [List.getElem?_range e]
      simp only [Option.map_some, List.getD_eq_getElem?_getD]
      rw [List.getElem?_eq_getElem (by rw [hs.len]; exact e)]
      rfl
    · rw [List.getElem?_eq_none (by simp; omega), List.getElem?_eq_none (by rw [hs.len]; omega)]
      rfl
  unfold drT at h
  rw [hts] at h
  rcases hb : backB ops with _ | _
  · rw [hb] at h; cases h
  · rw [hb] at h
    simp only [cond_true] at h
    split at h
    · rename_i x1 ts1 H1 h1
      rcases hl : Nat.beq ts1.length n with _ | _
      · rw [hl] at h; cases h
      · rw [hl] at h
        simp only [cond_true, Option.some.injEq, Prod.mk.injEq] at h
        obtain ⟨rfl, rfl, rfl⟩ := h
        have hn := Nat.eq_of_beq_eq_true hl
        refine Tri.drawn hm (drGo_ok hc hb _ h1 (q _ ?_))
        have := SR.start (as := ts1) (n := n) (by omega) hs.small
        rwa [show n - ts1.length = 0 by omega, List.replicate_zero, List.append_nil] at this
    · cases h
/-- What is reckoned, runs so. -/
theorem runs_of {P : Program} (hm : P.follows .mixedOrders = true) {base : Orc} (hb : OrcOK P base) (m n : Nat) {f : FuncId} {as : List AV} {H H' : AH} {out : AOut} (h : tF P (drT P) base m n f as H = some (out, H')) : Runs P f as H out H' :=
  tF_ok (fun c hc => drT_ok hm c hc) hb m n f as H out H' h
def noBase : Orc := fun _ _ _ => none
theorem noBase_ok (P : Program) : OrcOK P noBase := fun f as H out H' h => by cases h
end
end Go.Eng
