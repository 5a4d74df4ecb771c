/- The engine, twenty-first part: regions that draw their order, where values may be unknown. -/
import Derived.Test.YtieikjgfndojpaaGreatEn21
namespace Go.Eng
open Go Go.RowKit
set_option linter.unusedVariables false
set_option linter.unusedSimpArgs false
noncomputable section
/-- The guard's slot, made plain. -/
def splitG (S : SPf) (ops : Array Oper) (o : Oper) (ts : List AV) (k : List AV → Prop) : Prop :=
  match guardOf ops o with
  | some (some (d, _)) => match ts.getD d .any with
    | .bool b => S b (k (ts.set d (.bool true))) (k (ts.set d (.bool false)))
    | _ => k ts
  | _ => k ts
theorem set_same {ts : List AV} {d : Nat} {v : AV} (h : ts.getD d .any = v) : ts.set d v = ts := by
  refine List.ext_getElem? fun i => ?_
  rw [List.getElem?_set]
  split
  · rename_i e
    subst e
    split
    · rename_i hl
      rw [List.getD_eq_getElem?_getD, List.getElem?_eq_getElem hl] at h
      rw [List.getElem?_eq_getElem hl, ← h]; rfl
    · rename_i hl
      rw [List.getElem?_eq_none (by omega)]
  · rfl
theorem splitG_ok {ops : Array Oper} {o : Oper} {ts : List AV} {k : List AV → Prop} (h : splitG sp ops o ts k) : k ts := by
  unfold splitG at h
  split at h
  · split at h
    · rename_i b hb
      obtain ⟨h1, h2⟩ := sp_iff.1 h
      cases b with
      | true => have := h1 rfl; rwa [set_same hb] at this
      | false => have := h2 rfl; rwa [set_same hb] at this
    · exact h
  · exact h
def pureS (P : Program) (ops : Array Oper) (o : Oper) (ts : List AV) (H : AH) : Option (AV × Bool) :=
  match guardOf ops o with
  | none => none
  | some g => match goesOn ts g with
    | none => none
    | some false => some (.tup [], true)
    | some true => match comp P o with
      | none => none
      | some c => bif isPure (c.hint 0) then match cstep (CX.ev ts) H (c.hint 0) with
        | some (v, _, ok) => some (v, ok)
        | _ => none else none
theorem pureS_ok {P : Program} {ops : Array Oper} {o : Oper} {ts : List AV} {H : AH} {v : AV} (h : pureS P ops o ts H = some (v, true)) : pureV P ops o ts H = some v := by
  unfold pureS at h
  unfold pureV
  split at h
  · cases h
  · rename_i g hg
    simp only [hg]
    split at h
    · cases h
    · rename_i hb
      simp only [Option.some.injEq, Prod.mk.injEq] at h
      obtain ⟨rfl, _⟩ := h
      simp only [hb]
    · rename_i hb
      simp only [hb]
      split at h
      · cases h
      · rename_i c hc
        simp only [hc]
        rcases hp : isPure (c.hint 0) with _ | _
        · rw [hp] at h; cases h
        · rw [hp] at h
          simp only [cond_true] at h ⊢
          split at h
          · rename_i v' H' ok hs
            simp only [Option.some.injEq, Prod.mk.injEq] at h
            obtain ⟨rfl, rfl⟩ := h
            simp only [hs]
          · cases h
def validS (S : SPf) (P : Program) (ops : Array Oper) (M : List Nat) (ts : List AV) (H : AH) (p : Prop) : List Nat → Prop
  | [] => p
  | k :: ks => match ops[k]? with
    | some o => match pureS P ops o (scrub ops (besides ops M k) ts) H with
      | some (v, ok) => S (ok && AV.eqB v (valAt ts o.dst)) (validS S P ops M ts H p ks) False
      | none => False
    | none => validS S P ops M ts H p ks
theorem validS_ok {P : Program} {ops : Array Oper} {M : List Nat} {ts : List AV} {H : AH} {p : Prop} : ∀ {l : List Nat}, validS sp P ops M ts H p l → ValidL P ops M ts H l ∧ p
  | [], h => ⟨trivial, h⟩
  | k :: ks, h => by
    unfold validS at h
    split at h
    · rename_i o ho
      split at h
      · rename_i v ok hv
        obtain ⟨h1, h2⟩ := sp_iff.1 h
        rcases hb : (ok && AV.eqB v (valAt ts o.dst)) with _ | _
        · exact (h2 hb).elim
        · obtain ⟨q1, q2⟩ := validS_ok (h1 hb)
          simp only [Bool.and_eq_true] at hb
          obtain ⟨rfl, he⟩ := hb
          refine ⟨⟨?_, q1⟩, q2⟩
          unfold ValidOne
          simp only [ho]
          rw [← AV.eqB_ok _ _ he]
          exact pureV_ok (pureS_ok hv)
      · exact h.elim
    · rename_i ho
      obtain ⟨q1, q2⟩ := validS_ok h
      refine ⟨⟨?_, q1⟩, q2⟩
      unfold ValidOne
      simp only [ho]
theorem OpJ.runK {P : Program} {B : Nat} {ops : Array Oper} {Q : Post} {j : Nat} {o : Oper} {tss : List AV} {H : AH} {K : AV → AH → Prop} {f : FuncId} {as : List AV} {KK : AOut → AH → Prop} {g : Option (Nat × Bool)} (ho : ops[j]? = some o) (hgd : guardOf ops o = some g) (hgo : goesOn tss g = some true)
    (hc : callOf tss o = some (f, as)) (hf : isGo P f = true) (run : RunsK P f as H KK)
    (hk : ∀ out H1, KK out H1 → nextK K (fun v H1 => Q (.panic v) tss H1) out H1) : OpJ P B ops Q j tss H K := by
  intro μ w a Kc Qc r s hB hQ hK
  have hd : dstOf ops j = o.dst := by simp [dstOf, ho]
  unfold wpOp
  rw [ho]
  simp only []
  rw [guard_ok r hgd hgo]
  simp only [if_true]
  left
  obtain ⟨vs, h1, h2⟩ := call_run r hc hf w
  unfold Oper.wp
  rw [h2, Oper.upon_enter]
  refine Calls.mono (run μ w vs h1 s) (fun e w' hq => ?_)
  obtain ⟨out, H1, μ1, k0, k1, q3, f0⟩ := hq
  have hk := hk out H1 k0
  have q1 : MuLe μ μ1 := fun b l hb => by
    have : b < H.next := by
      rcases Nat.lt_or_ge b H.next with h | h
      · exact h
      · rw [s.fresh b h] at hb; cases hb
    rw [f0.le b this]; exact hb
  have q4 : Fr μ H μ1 H1 w w' := ⟨f0.le, f0.nx, f0.os, f0.tape, f0.output, f0.size, f0.same, f0.from_⟩
  cases out with
  | ret v =>
    obtain ⟨x, rfl, hx⟩ := k1
    simp only [nextK] at hk ⊢
    rw [← hd]
    exact hK _ H1 x w' μ1 hk hx q3 q1 q4
  | panic v =>
    obtain ⟨x, rfl, hx⟩ := k1
    simp only [nextK] at hk ⊢
    exact hQ _ H1 x w' μ1 hk hx q3 q1 q4
/-- An operation with an effect. -/
def effS (S : SPf) (P : Program) (call : OrcK) (ops : Array Oper) (Q : Post) (o : Oper) (tss : List AV) (H : AH) (next : AV → AH → Prop) : Prop :=
  match guardOf ops o with
  | none => False
  | some g => match goesOn tss g with
    | none => False
    | some false => next (.tup []) H
    | some true => match comp P o with
      | some c => match cstep (CX.ev tss) H (c.hint 1) with
        | some (v, H', ok) => S ok (next v H') False
        | _ => False
      | none => match callOf tss o with
        | some (f, as) => bif isGo P f then match call f as H (nextK next (fun v H' => Q (.panic v) tss H')) with
          | some p => p
          | none => False else False
        | none => False
theorem effS_ok {P : Program} {call : OrcK} (hc : OrcKOK P call) {B : Nat} {ops : Array Oper} {Q : Post} {j : Nat} {o : Oper} {tss : List AV} {H : AH} {next : AV → AH → Prop} (ho : ops[j]? = some o) (h : effS sp P call ops Q o tss H next) : OpJ P B ops Q j tss H next := by
  unfold effS at h
  split at h
  · exact h.elim
  · rename_i g hg
    split at h
    · exact h.elim
    · rename_i hb
      exact OpJ.step 0 ho (by simp [stepV, hg, hb]) h
    · rename_i hb
      split at h
      · rename_i c hcm
        split at h
        · rename_i v H1 ok hst
          obtain ⟨h1, h2⟩ := sp_iff.1 h
          have hok : ok = true := by
            cases ok
            · exact (h2 rfl).elim
            · rfl
          subst hok
          exact OpJ.step 1 ho (by simp [stepV, hg, hb, hcm, hst]) (h1 rfl)
        · exact h.elim
      · split at h
        · rename_i f as hf
          rcases hgo : isGo P f with _ | _
          · rw [hgo] at h; exact h.elim
          · rw [hgo] at h
            simp only [cond_true] at h
            split at h
            · rename_i p hp
              exact OpJ.runK ho hg hb hf hgo (hc f as H _ p hp h) (fun out H1 hk => hk)
            · exact h.elim
        · exact h.elim
theorem OpJ.monoK {P : Program} {B : Nat} {ops : Array Oper} {Q : Post} {j : Nat} {tss : List AV} {H : AH} {K K' : AV → AH → Prop} (h : OpJ P B ops Q j tss H K) (hk : ∀ v H', K v H' → K' v H') : OpJ P B ops Q j tss H K' := by
  intro μ w a Kc Qc r s hB hQ hK
  exact h μ w a Kc Qc r s hB hQ (fun v H1 x w' μ1 q => hK v H1 x w' μ1 (hk _ _ q))
/-- The first that may be taken early. -/
def takeS (S : SPf) (P : Program) (ops : Array Oper) (H : AH) (k : Nat → AV → List AV → Prop) (no : List AV → Prop) : List Nat → List AV → Prop
  | [], ts => no ts
  | j :: js, ts => match ops[j]? with
    | some o => splitG S ops o ts (fun ts => match pureS P ops o ts H with
      | some (v, _) => k j v ts
      | none => takeS S P ops H k no js ts)
    | none => takeS S P ops H k no js ts
theorem takeS_ok {P : Program} {ops : Array Oper} {H : AH} {k : Nat → AV → List AV → Prop} {no : List AV → Prop} : ∀ (l : List Nat) {ts : List AV}, takeS sp P ops H k no l ts → (∃ j v, k j v ts) ∨ no ts
  | [], ts, h => .inr h
  | j :: js, ts, h => by
    unfold takeS at h
    split at h
    · have h := splitG_ok h
      split at h
      · exact .inl ⟨_, _, h⟩
      · exact takeS_ok js h
    · exact takeS_ok js h
def drS (S : SPf) (P : Program) (call : OrcK) (ops : Array Oper) (Q : Post) : Nat → List Nat → List Nat → List AV → AH → Prop
  | 0, _, _, _, _ => False
  | n + 1, M, L, ts, H => match readyAbs ops L with
    | [] => bif (List.range ops.size).all (fun j => L.contains j) then validS S P ops M ts H (Q .normal ts H) M else False
    | j :: js => takeS S P ops H
      (fun i v ts => bif L.contains i then False else drS S P call ops Q n (i :: M) (i :: L) (putT ts (dstOf ops i) v) H)
      (fun ts => match js, ops[j]? with
        | [], some o => splitG S ops o ts (fun ts => validS S P ops M ts H (effS S P call ops Q o (scrub ops (besides ops M j) ts) H (fun v H' => drS S P call ops Q n (besides ops M j) (j :: L) (putT ts (dstOf ops j) v) H')) M)
        | _, _ => False) (j :: js) ts
theorem drS_ok {P : Program} {call : OrcK} (hc : OrcKOK P call) {B : Nat} {ops : Array Oper} (hbk : backB ops = true) {Q : Post} : ∀ (n : Nat) {M L : List Nat} {ts : List AV} {H : AH}, drS sp P call ops Q n M L ts H → DA P B ops M L ts H Q
  | 0, M, L, ts, H, h => h.elim
  | n + 1, M, L, ts, H, h => by
    simp only [drS] at h
    split at h
    · rename_i hr
      rcases hv : ((List.range ops.size).all (fun j => L.contains j)) with _ | _
      · rw [hv] at h; exact h.elim
      · rw [hv] at h
        obtain ⟨h1, h2⟩ := validS_ok h
        exact DA.fin ⟨hv, hbk⟩ h1 h2
    · rename_i j js hr
      rcases takeS_ok _ h with ⟨i, v, h⟩ | h
      · rcases hl : L.contains i with _ | _
        · rw [hl] at h
          exact DA.take i v hl (drS_ok hc hbk n h)
        · rw [hl] at h; exact h.elim
      · split at h
        · rename_i o hr ho _
          have h := splitG_ok h
          obtain ⟨h1, h2⟩ := validS_ok h
          refine DA.exec [j] ⟨hr, rfl, hbk⟩ h1 ⟨?_, trivial⟩
          exact OpJ.monoK (effS_ok hc ho h2) (fun v H' q => drS_ok hc hbk n q)
        · exact h.elim
/-- A region that draws, slots in a tree. -/
def drK (S : SPf) (P : Program) (call : OrcK) : DroK := fun n ops s H K =>
  bif backB ops then drS S P call ops (fun x ts' H' => bif Nat.beq ts'.length n then K x (SL.lay ts' 0 (SL.mk 10)) H' else False) (ops.size + 1) [] [] ((List.range n).map s.get) H else False
theorem drK_ok {P : Program} (hm : P.follows .mixedOrders = true) (call : OrcK) (hc : OrcKOK P call) : DroKOK P (drK sp P call) := by
  intro B id n ops ts s H K Q hs h q
  have hts : (List.range n).map s.get = ts := by
    rw [← hs.get]
    refine List.ext_getElem? fun i => ?_
    rw [List.getElem?_map]
    by_cases e : i < n
    · rw [List.getElem?_range e]
      simp only [Option.map_some, List.getD_eq_getElem?_getD]
      rw [List.getElem?_eq_getElem (by rw [hs.len]; exact e)]
      rfl
    · rw [List.getElem?_eq_none (by simp; omega), List.getElem?_eq_none (by rw [hs.len]; omega)]
      rfl
  unfold drK at h
  rw [hts] at h
  rcases hb : backB ops with _ | _
  · rw [hb] at h; exact h.elim
  · rw [hb] at h
    simp only [cond_true] at h
    refine Tri.mono (Tri.drawn hm (drS_ok hc hb _ h)) (fun x ts1 H1 h1 => ?_)
    rcases hl : Nat.beq ts1.length n with _ | _
    · rw [hl] at h1; exact h1.elim
    · rw [hl] at h1
      have hn := Nat.eq_of_beq_eq_true hl
      refine q x ts1 _ H1 ?_ h1
      have := SR.start (as := ts1) (n := n) (by omega) hs.small
      rwa [show n - ts1.length = 0 by omega, List.replicate_zero, List.append_nil] at this
/-- What is asked, a call comes to. -/
theorem runsK_of {P : Program} (hm : P.follows .mixedOrders = true) {lo : FuncId → LoK} (hl : ∀ f, LoKOK P (lo f)) {base : OrcK} (hb : OrcKOK P base) (m n : Nat) {f : FuncId} {as : List AV} {H : AH} {K : AOut → AH → Prop} {p q : Prop} (h : vF sp P (drK sp P) lo base m n f as H K = some p) (hq : q = p) (hp : q) : RunsK P f as H K :=
  vF_ok (fun c hc => drK_ok hm c hc) hl hb m n f as H K p h (hq ▸ hp)
def noBaseK : OrcK := fun _ _ _ _ => none
theorem noBaseK_ok (P : Program) : OrcKOK P noBaseK := fun f as H K p h => by cases h
end
end Go.Eng
