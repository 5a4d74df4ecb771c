/- The engine, twenty-first part: regions that draw their order, where values may be unknown. -/
import Derived.Test.YtilmgiompalggaaGreatDoorEn16
namespace Go.Eng
open Go Go.RowKit
set_option linter.unusedVariables false
set_option linter.unusedSimpArgs false
noncomputable section
/-- The guard's slot, made plain. -/
def splitG (S : SPf) (ops : Array Oper) (o : Oper) (ts : List AV) (k : List AV → Prop) : Prop :=
  match guardOf ops o with
  | some (some (d, _)) => match ts.getD d .any with
    | .bool b => S b (k (ts.set d (.bool true))) (k (ts.set d (.bool false)))
    | _ => k ts
  | _ => k ts
theorem set_same {ts : List AV} {d : Nat} {v : AV} (h : ts.getD d .any = v) : ts.set d v = ts := by
  refine List.ext_getElem? fun i => ?_
  rw [List.getElem?_set]
  split
  · rename_i e
    subst e
    split
    · rename_i hl
      rw [List.getD_eq_getElem?_getD, List.getElem?_eq_getElem hl] at h
      rw [List.getElem?_eq_getElem hl, ← h]; rfl
    · rename_i hl
      rw [List.getElem?_eq_none (by omega)]
  · rfl
theorem splitG_ok {ops : Array Oper} {o : Oper} {ts : List AV} {k : List AV → Prop} (h : splitG sp ops o ts k) : k ts := by
  unfold splitG at h
  split at h
  · split at h
    · rename_i b hb
      obtain ⟨h1, h2⟩ := sp_iff.1 h
      cases b with
      | true => have := h1 rfl; rwa [set_same hb] at this
      | false => have := h2 rfl; rwa [set_same hb] at this
    · exact h
  · exact h
def pureS (P : Program) (ops : Array Oper) (o : Oper) (ts : List AV) (H : AH) : Option (AV × Bool) :=
  match guardOf ops o with
  | none => none
  | some g => match goesOn ts g with
    | none => none
    | some false => some (.tup [], true)
    | some true => match comp P o with
      | none => none
      | some c => bif isPure (c.hint 0) then match cstep (CX.ev ts) H (c.hint 0) with
        | some (v, _, ok) => some (v, ok)
        | _ => none else none
theorem pureS_ok {P : Program} {ops : Array Oper} {o : Oper} {ts : List AV} {H : AH} {v : AV} (h : pureS P ops o ts H = some (v, true)) : pureV P ops o ts H = some v := by
  unfold pureS at h
  unfold pureV
  split at h
  · cases h
  · rename_i g hg
    simp only [hg]
    split at h
    · cases h
    · rename_i hb
      simp only [Option.some.injEq, Prod.mk.injEq] at h
      obtain ⟨rfl, _⟩ := h
      simp only [hb]
    · rename_i hb
      simp only [hb]
      split at h
      · cases h
      · rename_i c hc
        simp only [hc]
        rcases hp : isPure (c.hint 0) with _ | _
        · rw [hp] at h; cases h
        · rw [hp] at h
          simp only [cond_true] at h ⊢
          split at h
          · rename_i v' H' ok hs
            simp only [Option.some.injEq, Prod.mk.injEq] at h
            obtain ⟨rfl, rfl⟩ := h
            simp only [hs]
          · cases h
def validS (S : SPf) (P : Program) (ops : Array Oper) (M : List Nat) (ts : List AV) (H : AH) (p : Prop) : List Nat → Prop
  | [] => p
  | k :: ks => match ops[k]? with
    | some o => match pureS P ops o (scrub ops (besides ops M k) ts) H with
      | some (v, ok) => S (ok && AV.eqB v (valAt ts o.dst)) (validS S P ops M ts H p ks) False
      | none => False
    | none => validS S P ops M ts H p ks
theorem validS_ok {P : Program} {ops : Array Oper} {M : List Nat} {ts : List AV} {H : AH} {p : Prop} : ∀ {l : List Nat}, validS sp P ops M ts H p l → ValidL P ops M ts H l ∧ p
  | [], h => ⟨trivial, h⟩
  | k :: ks, h => by
    unfold validS at h
    split at h
    · rename_i o ho
      split at h
      · rename_i v ok hv
        obtain ⟨h1, h2⟩ := sp_iff.1 h
        rcases hb : (ok && AV.eqB v (valAt ts o.dst)) with _ | _
        · exact (h2 hb).elim
        · obtain ⟨q1, q2⟩ := validS_ok (h1 hb)
          simp only [Bool.and_eq_true] at hb
          obtain ⟨rfl, he⟩ := hb
          refine ⟨⟨?_, q1⟩, q2⟩
          unfold ValidOne
          simp only [ho]
          rw [← AV.eqB_ok _ _ he]
          exact pureV_ok (pureS_ok hv)
      · exact h.elim
    · rename_i ho
      obtain ⟨q1, q2⟩ := validS_ok h
      refine ⟨⟨?_, q1⟩, q2⟩
      unfold ValidOne
      simp only [ho]
theorem OpJ.runR {P : Program} {B : Nat} {ops : Array Oper} {Q : Post} {j : Nat} {o : Oper} {tss : List AV} {H : AH} {K : AV → AH → Prop} {f : FuncId} {as : List AV} {KK : AOut → AH → Prop} {g : Option (Nat × Bool)} (ho : ops[j]? = some o) (hgd : guardOf ops o = some g) (hgo : goesOn tss g = some true)
    (hr : ∀ {a : Act} {μ : Mu}, Rel μ tss a.tmps → ∀ w : World, ∃ vs : Array Value, VRels μ as vs.toList ∧ (execOp a.eval o).run P w = .ok (.enter f vs) w) (run : RunsK P f as H KK)
    (hk : ∀ out H1, KK out H1 → nextK K (fun v H1 => Q (.panic v) tss H1) out H1) : OpJ P B ops Q j tss H K := by
  intro μ w a Kc Qc r s hB hQ hK
  have hd : dstOf ops j = o.dst := by simp [dstOf, ho]
  unfold wpOp
  rw [ho]
  simp only []
  rw [guard_ok r hgd hgo]
  simp only [if_true]
  left
  obtain ⟨vs, h1, h2⟩ := hr r w
  unfold Oper.wp
  rw [h2, Oper.upon_enter]
  refine Calls.mono (run μ w vs h1 s) (fun e w' hq => ?_)
  obtain ⟨out, H1, μ1, k0, k1, q3, f0⟩ := hq
  have hk := hk out H1 k0
  have q1 : MuLe μ μ1 := fun b l hb => by
    have : b < H.next := by
      rcases Nat.lt_or_ge b H.next with h | h
      · exact h
      · rw [s.fresh b h] at hb; cases hb
    rw [f0.le b this]; exact hb
  have q4 : Fr μ H μ1 H1 w w' := ⟨f0.le, f0.nx, f0.os, f0.tape, f0.output, f0.size, f0.same, f0.from_⟩
  cases out with
  | ret v =>
    obtain ⟨x, rfl, hx⟩ := k1
    simp only [nextK] at hk ⊢
    rw [← hd]
    exact hK _ H1 x w' μ1 hk hx q3 q1 q4
  | panic v =>
    obtain ⟨x, rfl, hx⟩ := k1
    simp only [nextK] at hk ⊢
    exact hQ _ H1 x w' μ1 hk hx q3 q1 q4
theorem OpJ.runK {P : Program} {B : Nat} {ops : Array Oper} {Q : Post} {j : Nat} {o : Oper} {tss : List AV} {H : AH} {K : AV → AH → Prop} {f : FuncId} {as : List AV} {KK : AOut → AH → Prop} {g : Option (Nat × Bool)} (ho : ops[j]? = some o) (hgd : guardOf ops o = some g) (hgo : goesOn tss g = some true)
    (hc : callOf tss o = some (f, as)) (hf : isGo P f = true) (run : RunsK P f as H KK)
    (hk : ∀ out H1, KK out H1 → nextK K (fun v H1 => Q (.panic v) tss H1) out H1) : OpJ P B ops Q j tss H K :=
  OpJ.runR ho hgd hgo (fun r w => call_run r hc hf w) run hk
/-- An operation with an effect. -/
def effS (S : SPf) (P : Program) (call : OrcK) (ops : Array Oper) (Q : Post) (o : Oper) (tss : List AV) (H : AH) (next : AV → AH → Prop) : Prop :=
  match guardOf ops o with
  | none => False
  | some g => match goesOn tss g with
    | none => False
    | some false => next (.tup []) H
    | some true => match comp P o with
      | some c => match cstep (CX.ev tss) H (c.hint 1) with
        | some (v, H', ok) => S ok (next v H') False
        | _ => False
      | none => match callOf tss o with
        | some (f, as) => bif isGo P f then match call f as H (nextK next (fun v H' => Q (.panic v) tss H')) with
          | some p => p
          | none => False else False
        | none => False
theorem effS_ok {P : Program} {call : OrcK} (hc : OrcKOK P call) {B : Nat} {ops : Array Oper} {Q : Post} {j : Nat} {o : Oper} {tss : List AV} {H : AH} {next : AV → AH → Prop} (ho : ops[j]? = some o) (h : effS sp P call ops Q o tss H next) : OpJ P B ops Q j tss H next := by
  unfold effS at h
  split at h
  · exact h.elim
  · rename_i g hg
    split at h
    · exact h.elim
    · rename_i hb
      exact OpJ.step 0 ho (by simp [stepV, hg, hb]) h
    · rename_i hb
      split at h
      · rename_i c hcm
        split at h
        · rename_i v H1 ok hst
          obtain ⟨h1, h2⟩ := sp_iff.1 h
          have hok : ok = true := by
            cases ok
            · exact (h2 rfl).elim
            · rfl
          subst hok
          exact OpJ.step 1 ho (by simp [stepV, hg, hb, hcm, hst]) (h1 rfl)
        · exact h.elim
      · split at h
        · rename_i f as hf
          rcases hgo : isGo P f with _ | _
          · rw [hgo] at h; exact h.elim
          · rw [hgo] at h
            simp only [cond_true] at h
            split at h
            · rename_i p hp
              exact OpJ.runK ho hg hb hf hgo (hc f as H _ p hp h) (fun out H1 hk => hk)
            · exact h.elim
        · exact h.elim
theorem OpJ.monoK {P : Program} {B : Nat} {ops : Array Oper} {Q : Post} {j : Nat} {tss : List AV} {H : AH} {K K' : AV → AH → Prop} (h : OpJ P B ops Q j tss H K) (hk : ∀ v H', K v H' → K' v H') : OpJ P B ops Q j tss H K' := by
  intro μ w a Kc Qc r s hB hQ hK
  exact h μ w a Kc Qc r s hB hQ (fun v H1 x w' μ1 q => hK v H1 x w' μ1 (hk _ _ q))
/-- The first that may be taken early. -/
def takeS (S : SPf) (P : Program) (ops : Array Oper) (H : AH) (k : Nat → AV → List AV → Prop) (no : List AV → Prop) : List Nat → List AV → Prop
  | [], ts => no ts
  | j :: js, ts => match ops[j]? with
    | some o => splitG S ops o ts (fun ts => match pureS P ops o ts H with
      | some (v, _) => k j v ts
      | none => takeS S P ops H k no js ts)
    | none => takeS S P ops H k no js ts
theorem takeS_ok {P : Program} {ops : Array Oper} {H : AH} {k : Nat → AV → List AV → Prop} {no : List AV → Prop} : ∀ (l : List Nat) {ts : List AV}, takeS sp P ops H k no l ts → (∃ j v, k j v ts) ∨ no ts
  | [], ts, h => .inr h
  | j :: js, ts, h => by
    unfold takeS at h
    split at h
    · have h := splitG_ok h
      split at h
      · exact .inl ⟨_, _, h⟩
      · exact takeS_ok js h
    · exact takeS_ok js h
def drS (S : SPf) (P : Program) (call : OrcK) (ops : Array Oper) (Q : Post) : Nat → List Nat → List Nat → List AV → AH → Prop
  | 0, _, _, _, _ => False
  | n + 1, M, L, ts, H => match readyAbs ops L with
    | [] => bif (List.range ops.size).all (fun j => L.contains j) then validS S P ops M ts H (Q .normal ts H) M else False
    | j :: js => takeS S P ops H
      (fun i v ts => bif L.contains i then False else drS S P call ops Q n (i :: M) (i :: L) (putT ts (dstOf ops i) v) H)
      (fun ts => match js, ops[j]? with
        | [], some o => splitG S ops o ts (fun ts => validS S P ops M ts H (effS S P call ops Q o (scrub ops (besides ops M j) ts) H (fun v H' => drS S P call ops Q n (besides ops M j) (j :: L) (putT ts (dstOf ops j) v) H')) M)
        | _, _ => False) (j :: js) ts
theorem drS_ok {P : Program} {call : OrcK} (hc : OrcKOK P call) {B : Nat} {ops : Array Oper} (hbk : backB ops = true) {Q : Post} : ∀ (n : Nat) {M L : List Nat} {ts : List AV} {H : AH}, drS sp P call ops Q n M L ts H → DA P B ops M L ts H Q
  | 0, M, L, ts, H, h => h.elim
  | n + 1, M, L, ts, H, h => by
    simp only [drS] at h
    split at h
    · rename_i hr
      rcases hv : ((List.range ops.size).all (fun j => L.contains j)) with _ | _
      · rw [hv] at h; exact h.elim
      · rw [hv] at h
        obtain ⟨h1, h2⟩ := validS_ok h
        exact DA.fin ⟨hv, hbk⟩ h1 h2
    · rename_i j js hr
      rcases takeS_ok _ h with ⟨i, v, h⟩ | h
      · rcases hl : L.contains i with _ | _
        · rw [hl] at h
          exact DA.take i v hl (drS_ok hc hbk n h)
        · rw [hl] at h; exact h.elim
      · split at h
        · rename_i o hr ho _
          have h := splitG_ok h
          obtain ⟨h1, h2⟩ := validS_ok h
          refine DA.exec [j] ⟨hr, rfl, hbk⟩ h1 ⟨?_, trivial⟩
          exact OpJ.monoK (effS_ok hc ho h2) (fun v H' q => drS_ok hc hbk n q)
        · exact h.elim
/-- A region that draws, slots in a tree. -/
def drK (S : SPf) (P : Program) (call : OrcK) : DroK := fun n ops s H K =>
  bif backB ops then drS S P call ops (fun x ts' H' => bif Nat.beq ts'.length n then K x (SL.lay ts' 0 (SL.mk 10)) H' else False) (ops.size + 1) [] [] ((List.range n).map s.get) H else False
theorem drK_ok {P : Program} (hm : P.follows .mixedOrders = true) (call : OrcK) (hc : OrcKOK P call) : DroKOK P (drK sp P call) := by
  intro B id n ops ts s H K Q hs h q
  have hts : (List.range n).map s.get = ts := by
    rw [← hs.get]
    refine List.ext_getElem? fun i => ?_
    rw [List.getElem?_map]
    by_cases e : i < n
    · rw [List.getElem?_range e]
      simp only [Option.map_some, List.getD_eq_getElem?_getD]
      rw [List.getElem?_eq_getElem (by rw [hs.len]; exact e)]
      rfl
    · rw [List.getElem?_eq_none (by simp; omega), List.getElem?_eq_none (by rw [hs.len]; omega)]
      rfl
  unfold drK at h
  rw [hts] at h
  rcases hb : backB ops with _ | _
  · rw [hb] at h; exact h.elim
  · rw [hb] at h
    simp only [cond_true] at h
    refine Tri.mono (Tri.drawn hm (drS_ok hc hb _ h)) (fun x ts1 H1 h1 => ?_)
    rcases hl : Nat.beq ts1.length n with _ | _
    · rw [hl] at h1; exact h1.elim
    · rw [hl] at h1
      have hn := Nat.eq_of_beq_eq_true hl
      refine q x ts1 _ H1 ?_ h1
      have := SR.start (as := ts1) (n := n) (by omega) hs.small
      rwa [show n - ts1.length = 0 by omega, List.replicate_zero, List.append_nil] at this
/-- What is asked, a call comes to. -/
theorem runsK_of {P : Program} (hm : P.follows .mixedOrders = true) {lo : FuncId → LoK} (hl : ∀ f, LoKOK P (lo f)) {base : OrcK} (hb : OrcKOK P base) (m n : Nat) {f : FuncId} {as : List AV} {H : AH} {K : AOut → AH → Prop} {p q : Prop} (h : vF sp P (drK sp P) lo base m n f as H K = some p) (hq : q = p) (hp : q) : RunsK P f as H K :=
  vF_ok (fun c hc => drK_ok hm c hc) hl hb m n f as H K p h (hq ▸ hp)
def noBaseK : OrcK := fun _ _ _ _ => none
theorem noBaseK_ok (P : Program) : OrcKOK P noBaseK := fun f as H K p h => by cases h
end
end Go.Eng
/- The engine, twenty-second part: contracts as summaries, canonical states, loops with a state for each i. -/
namespace Go.Eng
open Go Go.RowKit
set_option linter.unusedVariables false
set_option linter.unusedSimpArgs false
noncomputable section
/-! ### short names -/
abbrev nU (n : Int) : AV := .int .u32 n
abbrev nI (n : Int) : AV := .int .i64 n
abbrev nB (n : Int) : AV := .int .u8 n
abbrev nL (n : Int) : AV := .int .u64 n
abbrev bR (l : List Int) : ABlk := ⟨false, 1, .ints .u8 l⟩
abbrev bW (l : List Int) : ABlk := ⟨true, 1, .ints .u8 l⟩
abbrev bC (l : List AV) : ABlk := ⟨true, 1, .cells l⟩
/-- The renaming behind a call. -/
def tauB (σ : Nat → Nat) (n0 nx : Nat) : Nat → Nat := fun b => bif Nat.blt b n0 then σ b else nx + (b - n0)
theorem tauB_eq (σ : Nat → Nat) (n0 : Nat) (L0 : LH) (H : AH) : tauB σ n0 H.next = tau σ (AH.of n0 L0) H := by
  funext b
  unfold tau tauB
  rw [AH.of_next]
  by_cases h : b < n0
  · rw [blt_true h, if_pos h]; rfl
  · rw [blt_false h, if_neg h]; rfl
def AOut.ren (σ : Nat → Nat) : AOut → AOut
  | .ret v => .ret (v.ren σ)
  | .panic v => .panic (v.ren σ)
/-- What a call may come to: in one of these ways, for some y. -/
abbrev Outs (Y : Type) := List ((Y → Prop) × (Y → AOut × Nat × LH))
def anyOut {Y : Type} : Outs Y → AOut → AH → Prop
  | [], _, _ => False
  | (r, o) :: l, out, H => (∃ y, r y ∧ out = (o y).1 ∧ H = AH.of (o y).2.1 (o y).2.2) ∨ anyOut l out H
structure Con (X Y : Type) where
  f : FuncId
  fit : List AV → AH → Option (List Nat × X)
  n0 : Nat
  pre : X → Prop
  args : X → List AV
  L0 : X → LH
  outs : X → Outs Y
/-- What a contract asks of what it is told of. -/
def Con.OK {X Y : Type} (P : Program) (c : Con X Y) : Prop := ∀ x, c.pre x → RunsK P c.f (c.args x) (AH.of c.n0 (c.L0 x)) (anyOut (c.outs x))
def casesK {Y : Type} (S : SPf) (σ : Nat → Nat) (n0 : Nat) (L0 : LH) (H : AH) (K : AOut → AH → Prop) : Outs Y → Prop
  | [] => True
  | (r, o) :: l => (∀ y, r y → S (noDup ((o y).2.2.map (·.1))) (K ((o y).1.ren (tauB σ n0 H.next)) (callRes σ n0 L0 H (o y).2.1 (o y).2.2)) False) ∧ casesK S σ n0 L0 H K l
def Con.orc {X Y : Type} (S : SPf) (c : Con X Y) : OrcK := fun f as H K =>
  bif Nat.beq f c.f then match c.fit as H with
    | some (σ, x) => some (c.pre x ∧ as = AV.rens (sig σ H.next) (c.args x) ∧ BlkOK (sig σ H.next) H (c.L0 x) ∧
      S (Nat.ble σ.length c.n0 && noDup ((c.L0 x).map (fun p => sig σ H.next p.1)) && noDup ((c.L0 x).map (·.1))) (casesK S (sig σ H.next) c.n0 (c.L0 x) H K (c.outs x)) False)
    | none => none else none
theorem casesK_ok {Y : Type} {σ : Nat → Nat} {n0 : Nat} {L0 : LH} {H : AH} {K : AOut → AH → Prop} : ∀ {l : Outs Y}, casesK sp σ n0 L0 H K l → ∀ out H', anyOut l out H' → ∃ o n L, out = o ∧ H' = AH.of n L ∧ noDup (L.map (·.1)) = true ∧ K (o.ren (tauB σ n0 H.next)) (callRes σ n0 L0 H n L)
  | [], h, out, H', q => q.elim
  | (r, o) :: l, h, out, H', q => by
    rcases q with ⟨y, q1, q2, q3⟩ | q
    · obtain ⟨h1, h2⟩ := sp_iff.1 (h.1 y q1)
      rcases hb : noDup ((o y).2.2.map (·.1)) with _ | _
      · exact (h2 hb).elim
      · exact ⟨_, _, _, q2, q3, hb, h1 hb⟩
    · exact casesK_ok h.2 out H' q
theorem Con.orc_ok {X Y : Type} {P : Program} {c : Con X Y} (hc : c.OK P) : OrcKOK P (c.orc sp) := by
  intro f as H K p h hp
  unfold Con.orc at h
  rcases hf : Nat.beq f c.f with _ | _
  · rw [hf] at h; cases h
  · rw [hf] at h
    simp only [cond_true] at h
    split at h
    · rename_i σ x hx
      cases h
      obtain ⟨h0, h1, h2, h3⟩ := hp
      obtain ⟨g1, g2⟩ := sp_iff.1 h3
      rcases hb : (Nat.ble σ.length c.n0 && noDup ((c.L0 x).map (fun p => sig σ H.next p.1)) && noDup ((c.L0 x).map (·.1))) with _ | _
      · exact (g2 hb).elim
      · have cs := casesK_ok (g1 hb)
        simp only [Bool.and_eq_true] at hb
        obtain ⟨⟨e4, e5⟩, e6⟩ := hb
        have em := emb_of (n0 := c.n0) (Nat.le_of_ble_eq_true e4) h2 e5
        rw [h1, Nat.eq_of_beq_eq_true hf]
        intro μ w vs hv s
        refine Calls.mono (hc x h0 (fun b => μ (sig σ H.next b)) w vs (VRels.unren (fun _ _ h => h) _ _ hv) (em.sat s)) (fun e w' hq => ?_)
        obtain ⟨out, H0', μ0', k0, k1, k2, k3⟩ := hq
        obtain ⟨o, n1, L1, rfl, rfl, e7, hk⟩ := cs out H0' k0
        have af := after_of (σ := sig σ H.next) (n0 := c.n0) (n0' := n1) (H := H) e6 e7
        obtain ⟨μ1, q1, q2, q3, q4⟩ := call_frame em af s k2 k3
        rw [tauB_eq _ _ (c.L0 x)] at hk
        refine ⟨_, _, μ1, hk, ?_, q3, q4.fw (Nat.le_refl _)⟩
        cases out with
        | ret v => obtain ⟨x, rfl, hx⟩ := k1; exact ⟨x, rfl, q2 v x hx⟩
        | panic v => obtain ⟨x, rfl, hx⟩ := k1; exact ⟨x, rfl, q2 v x hx⟩
    · cases h
/-- One summary, or another. -/
def orK (a b : OrcK) : OrcK := fun f as H K =>
  match a f as H K with
  | some p => some p
  | none => b f as H K
theorem orK_ok {P : Program} {a b : OrcK} (ha : OrcKOK P a) (hb : OrcKOK P b) : OrcKOK P (orK a b) := by
  intro f as H K p h hp
  unfold orK at h
  split at h
  · rename_i q hq
    cases h
    exact ha f as H K _ hq hp
  · exact hb f as H K p h hp
/-! ### canonical states -/
mutual
/-- Which numbers stand for which. -/
def AV.mt : AV → AV → List (Nat × Nat) → List (Nat × Nat)
  | .ptr b' _ _, .ptr b _ _, l => (b', b) :: l
  | .sl b' _ _ _ _ _, .sl b _ _ _ _ _, l => (b', b) :: l
  | .msl b' _ _ _ _, .msl b _ _ _ _, l => (b', b) :: l
  | .map b', .map b, l => (b', b) :: l
  | .fn _ a' c', .fn _ a c, l => AV.mts c' c (AV.mts a' a l)
  | .ifc _ v', .ifc _ v, l => AV.mt v' v l
  | .agg cs', .agg cs, l => AV.mts cs' cs l
  | .tup cs', .tup cs, l => AV.mts cs' cs l
  | _, _, l => l
def AV.mts : List AV → List AV → List (Nat × Nat) → List (Nat × Nat)
  | v' :: vs', v :: vs, l => AV.mts vs' vs (AV.mt v' v l)
  | _, _, l => l
end
def look (l : List (Nat × Nat)) (b : Nat) : Option Nat := match l with
  | [] => none
  | (x, y) :: l => bif Nat.beq x b then some y else look l b
def mtBlks (H : AH) : LH → List (Nat × Nat) → List (Nat × Nat)
  | [], l => l
  | (b', k') :: L, l => match look l b' with
    | some b => match k'.c, H.get b with
      | .cells cs', some k => match k.c with
        | .cells cs => mtBlks H L (AV.mts cs' cs l)
        | _ => mtBlks H L l
      | .recs _ f', some k => bif Nat.beq k'.st 1 then match k.c with
        | .recs _ f => mtBlks H L (l ++ AV.mts (f' 0) (f 0) [])
        | .cells cs => mtBlks H L (l ++ AV.mts (f' 0) cs [])
        | _ => mtBlks H L l else mtBlks H L l
      | _, _ => mtBlks H L l
    | none => mtBlks H L l
def idB (B : Nat) : List (Nat × Nat) := (List.range B).map fun b => (b, b)
/-- The list of numbers: below B each for itself. -/
def sigOf (B n' : Nat) (l : List (Nat × Nat)) (nx : Nat) : List Nat := (List.range n').map fun b => bif Nat.blt b B then b else match look l b with
  | some y => y
  | none => nx
/-- Contents that tell the same. -/
def blkEq : Option ABlk → ABlk → Prop
  | some k, k' => match k.c, k'.c with
    | .recs n f, .recs m g => k.own = k'.own ∧ k.st = k'.st ∧ n = m ∧ ∀ i, i < n → f i = g i
    | .cells l, .recs m g => k.own = k'.own ∧ k.st = k'.st ∧ l.length = m * k.st ∧ ∀ i, i < m → ∀ j, j < k.st → l.getD (i * k.st + j) .any = (g i).getD j .any
    | _, _ => k = k'
  | none, _ => False
theorem BSat.blkEq {μ : Mu} {k k' : ABlk} {l : Loc} {w : World} (h : blkEq (some k) k') (q : BSat μ k l w) : BSat μ k' l w ∧ k.own = k'.own := by
  simp only [Eng.blkEq] at h
  split at h
  · rename_i n f m g e1 e2
    obtain ⟨h1, h2, h3, h4⟩ := h
    refine ⟨?_, h1⟩
    unfold BSat at q ⊢
    rw [e1] at q
    rw [e2]
    obtain ⟨q1, C, t, fz, q2, q3, q4⟩ := q
    refine ⟨q1.trans h2, C, t, fz, q2, by rw [← h1, ← h2]; exact q3, fun i j hi => ?_⟩
    rw [← h2, ← h3] at hi
    have hlt : i < n := by simp [AC.inb] at hi; exact hi.1
    obtain ⟨x, x1, x2, x3⟩ := q4 i j hi
    refine ⟨x, by rw [← h2]; exact x1, ?_, x3⟩
    have e : AC.val k'.st (.recs m g) i j = AC.val k.st (.recs n f) i j := by simp only [AC.val]; rw [h4 i hlt]
    rw [e]; exact x2
  · rename_i cs m g e1 e2
    obtain ⟨h1, h2, h3, h4⟩ := h
    refine ⟨?_, h1⟩
    unfold BSat at q ⊢
    rw [e1] at q
    rw [e2]
    obtain ⟨q1, C, t, fz, q2, q3, q4⟩ := q
    refine ⟨q1.trans h2, C, t, fz, q2, by rw [← h1, ← h2]; exact q3, fun i j hi => ?_⟩
    rw [← h2] at hi
    have hlt : i < m ∧ j < k.st := by simpa [AC.inb] using hi
    have hin : i * k.st + j < cs.length := by
      rw [h3]
      have : (i + 1) * k.st ≤ m * k.st := Nat.mul_le_mul_right _ hlt.1
      rw [Nat.add_mul] at this
      omega
    obtain ⟨x, x1, x2, x3⟩ := q4 i j (by simpa [AC.inb] using hin)
    refine ⟨x, by rw [← h2]; exact x1, ?_, x3⟩
    have e : AC.val k'.st (.recs m g) i j = AC.val k.st (.cells cs) i j := by simp only [AC.val]; rw [h4 i hlt.1 j hlt.2]
    rw [e]; exact x2
  · subst h; exact ⟨q, rfl⟩
def BlkEq (σ : Nat → Nat) (H : AH) : LH → Prop
  | [] => True
  | p :: l => blkEq (H.get (σ p.1)) (p.2.ren σ) ∧ BlkEq σ H l
theorem BlkEq.mem {σ : Nat → Nat} {H : AH} : ∀ {l : LH}, BlkEq σ H l → ∀ p ∈ l, blkEq (H.get (σ p.1)) (p.2.ren σ)
  | [], _, p, hp => by cases hp
  | q :: l, h, p, hp => by
    rcases List.mem_cons.1 hp with rfl | hp
    · exact h.1
    · exact BlkEq.mem h.2 p hp
theorem weak_heap {B : Nat} {H : AH} {n' : Nat} {L' : LH} {μ : Mu} {w : World} (σ : List Nat) (s : Sat μ H w) (h1 : Nat.ble σ.length n' = true) (h2 : Nat.ble B n' = true) (h4 : (List.range B).all (fun b => Nat.beq (sig σ H.next b) b) = true) (hd : noDup (L'.map (fun p => sig σ H.next p.1)) = true) (hb : BlkEq (sig σ H.next) H L') :
    Sat (fun b => μ (sig σ H.next b)) (AH.of n' L') w ∧ Fw B μ H (fun b => μ (sig σ H.next b)) (AH.of n' L') w w := by
  have hl : σ.length ≤ n' := Nat.le_of_ble_eq_true h1
  have look : ∀ b k, (AH.of n' L').get b = some k → ∃ k2, H.get (sig σ H.next b) = some k2 ∧ blkEq (some k2) (k.ren (sig σ H.next)) := by
    intro b k h
    obtain ⟨p, hp, rfl, rfl⟩ := AH.of_get h
    have := hb.mem p hp
    rcases hq : H.get (sig σ H.next p.1) with _ | k2
    · rw [hq] at this; exact this.elim
    · rw [hq] at this; exact ⟨k2, rfl, this⟩
  refine ⟨⟨fun b h => ?_, fun b k h => ?_, fun b b' k k' l l' g g' hne ho gl gl' => ?_⟩, ⟨fun b hb' => ?_, by rw [AH.of_next]; exact Nat.le_of_ble_eq_true h2, rfl, rfl, rfl, Nat.le_refl _, fun _ _ _ => rfl, fun b x l g1 g2 => ?_⟩⟩
  · rw [AH.of_next] at h
    refine s.fresh _ ?_
    unfold sig
    rw [List.getD_eq_getElem?_getD, List.getElem?_eq_none (by omega)]
    exact Nat.le_refl _
  · obtain ⟨k2, q1, q2⟩ := look b k h
    obtain ⟨l, r1, r2⟩ := s.blk _ _ q1
    exact ⟨l, r1, (r2.blkEq q2).1.unren (μ := fun b => μ (sig σ H.next b)) (fun _ _ h => h)⟩
  · obtain ⟨k2, q1, q2⟩ := look b k g
    obtain ⟨k2', q1', q2'⟩ := look b' k' g'
    obtain ⟨l0, r1, r2⟩ := s.blk _ _ q1
    have own := (r2.blkEq q2).2
    refine s.sep _ _ k2 k2' l l' q1 q1' ?_ (own.trans ho) gl gl'
    obtain ⟨p, hp, rfl, rfl⟩ := AH.of_get g
    obtain ⟨q, hq, rfl, rfl⟩ := AH.of_get g'
    obtain ⟨i, hi⟩ := List.getElem?_of_mem hp
    obtain ⟨j, hj⟩ := List.getElem?_of_mem hq
    have e1 : (L'.map (fun p => sig σ H.next p.1))[i]? = some (sig σ H.next p.1) := by simp [hi]
    have e2 : (L'.map (fun p => sig σ H.next p.1))[j]? = some (sig σ H.next q.1) := by simp [hj]
    rcases Nat.lt_trichotomy i j with h | h | h
    · exact noDup_ne hd i j h _ _ e1 e2
    · subst h; rw [hi] at hj; cases hj; exact absurd rfl hne
    · exact (noDup_ne hd j i h _ _ e2 e1).symm
  · have := List.all_eq_true.1 h4 b (List.mem_range.2 hb')
    show μ (sig σ H.next b) = μ b
    rw [Nat.eq_of_beq_eq_true this]
  · obtain ⟨k2, q1, q2⟩ := look b x g1
    obtain ⟨l0, r1, r2⟩ := s.blk _ _ q1
    exact .inr ⟨sig σ H.next b, k2, l, q1, g2, rfl, fun h => (r2.blkEq q2).2.trans h⟩
/-- The state (values and heap) is one of that kind: values vs' and heap n', L' up to numbers. -/
def wkP (S : SPf) (B : Nat) (vs : List AV) (H : AH) (vs' : List AV) (n' : Nat) (L' : LH) : Prop :=
  let σ := sigOf B n' (mtBlks H L' (AV.mts vs' vs (idB B))) H.next
  S (Nat.ble σ.length n' && Nat.ble B n' && Nat.ble B σ.length && (List.range B).all (fun b => Nat.beq (sig σ H.next b) b) && noDup (L'.map (fun p => sig σ H.next p.1)) && Nat.beq vs'.length vs.length) (vs = merge (sig σ H.next) vs' vs ∧ BlkEq (sig σ H.next) H L') False
theorem wkP_ok {B : Nat} {vs : List AV} {H : AH} {vs' : List AV} {n' : Nat} {L' : LH} (h : wkP sp B vs H vs' n' L') : Weak B vs H vs' (AH.of n' L') := by
  unfold wkP at h
  obtain ⟨h1, h2⟩ := sp_iff.1 h
  rcases hb : (Nat.ble (sigOf B n' (mtBlks H L' (AV.mts vs' vs (idB B))) H.next).length n' && Nat.ble B n' && Nat.ble B (sigOf B n' (mtBlks H L' (AV.mts vs' vs (idB B))) H.next).length && (List.range B).all (fun b => Nat.beq (sig (sigOf B n' (mtBlks H L' (AV.mts vs' vs (idB B))) H.next) H.next b) b) && noDup (L'.map (fun p => sig (sigOf B n' (mtBlks H L' (AV.mts vs' vs (idB B))) H.next) H.next p.1)) && Nat.beq vs'.length vs.length) with _ | _
  · exact (h2 hb).elim
  · obtain ⟨g1, g2⟩ := h1 hb
    simp only [Bool.and_eq_true] at hb
    obtain ⟨⟨⟨⟨⟨a1, a2⟩, a3⟩, a4⟩, a5⟩, a6⟩ := hb
    intro μ w tmps r sw hB
    obtain ⟨k1, k2⟩ := weak_heap _ sw a1 a2 a4 a5 g2
    exact ⟨_, merge_rel g1.symm (Nat.eq_of_beq_eq_true a6) r, k1, k2⟩
/-- A result that is that of a contract. -/
def isOut (S : SPf) (B : Nat) (out0 : AOut) (n' : Nat) (L' : LH) : AOut → AH → Prop := fun out H =>
  match out0, out with
  | .ret v', .ret v => wkP S B [v] H [v'] n' L'
  | .panic v', .panic v => wkP S B [v] H [v'] n' L'
  | _, _ => False
def disjO {Y : Type} (S : SPf) (B : Nat) (out : AOut) (H : AH) : Outs Y → Prop
  | [] => False
  | [(r, o)] => ∃ y, r y ∧ isOut S B (o y).1 (o y).2.1 (o y).2.2 out H
  | (r, o) :: l => (∃ y, r y ∧ isOut S B (o y).1 (o y).2.1 (o y).2.2 out H) ∨ disjO S B out H l
/-- What a contract's own proof is to come to. -/
def Con.K {X Y : Type} (S : SPf) (c : Con X Y) (x : X) : AOut → AH → Prop := fun out H => disjO S c.n0 out H (c.outs x)
theorem disjO_ok {Y : Type} {B : Nat} {out : AOut} {H : AH} : ∀ {l : Outs Y}, disjO sp B out H l → ∃ o n L, isOut sp B o n L out H ∧ ∀ H', H' = AH.of n L → anyOut l o H'
  | [], h => h.elim
  | [(r, o)], h => by
    obtain ⟨y, h1, h2⟩ := h
    exact ⟨_, _, _, h2, fun H' e => .inl ⟨y, h1, rfl, e⟩⟩
  | (r, o) :: b :: l, h => by
    rcases h with ⟨y, h1, h2⟩ | h
    · exact ⟨_, _, _, h2, fun H' e => .inl ⟨y, h1, rfl, e⟩⟩
    · obtain ⟨o', n, L, g1, g2⟩ := disjO_ok (l := b :: l) h
      exact ⟨o', n, L, g1, fun H' e => .inr (g2 H' e)⟩
theorem isOut_weak {B : Nat} {out0 out : AOut} {n' : Nat} {L' : LH} {H' : AH} (h1 : isOut sp B out0 n' L' out H') {μ : Mu} {w w' : World} {H : AH} {μ' : Mu} {e : Ending} (h2 : OutRel μ' out e) (h3 : Sat μ' H' w') (h4 : Fw B μ H μ' H' w w') : ∃ μ2, OutRel μ2 out0 e ∧ Sat μ2 (AH.of n' L') w' ∧ Fw B μ H μ2 (AH.of n' L') w w' := by
  unfold isOut at h1
  split at h1
  · rename_i v' v
    obtain ⟨x, rfl, hx⟩ := h2
    obtain ⟨μ2, q1, q2, q3⟩ := wkP_ok h1 μ' w' #[x] ⟨hx, trivial⟩ h3 h4.nx
    exact ⟨μ2, ⟨x, rfl, q1.1⟩, q2, h4.trans q3⟩
  · rename_i v' v
    obtain ⟨x, rfl, hx⟩ := h2
    obtain ⟨μ2, q1, q2, q3⟩ := wkP_ok h1 μ' w' #[x] ⟨hx, trivial⟩ h3 h4.nx
    exact ⟨μ2, ⟨x, rfl, q1.1⟩, q2, h4.trans q3⟩
  · exact h1.elim
theorem Con.ok_of {X Y : Type} {P : Program} {c : Con X Y} (h : ∀ x, c.pre x → RunsK P c.f (c.args x) (AH.of c.n0 (c.L0 x)) (c.K sp x)) : c.OK P := fun x hx μ w vs hv s =>
  Calls.mono (h x hx μ w vs hv s) (fun e w' hq => by
    obtain ⟨out, H', μ', h1, h2, h3, h4⟩ := hq
    obtain ⟨o, n, L, g1, g2⟩ := disjO_ok h1
    rw [AH.of_next] at h4
    obtain ⟨μ2, k1, k2, k3⟩ := isOut_weak g1 h2 h3 h4
    exact ⟨o, _, μ2, g2 _ rfl, k1, k2, by rw [AH.of_next]; exact k3⟩)
/-- A contract's condition. -/
def Con.cond {X Y : Type} (S : SPf) (P : Program) (dr : OrcK → DroK) (lo : FuncId → LoK) (base : OrcK) (m n : Nat) (c : Con X Y) (x : X) : Option Prop := vF S P dr lo base m n c.f (c.args x) (AH.of c.n0 (c.L0 x)) (c.K S x)
theorem Con.by_cond {X Y : Type} {P : Program} (hm : P.follows .mixedOrders = true) {lo : FuncId → LoK} (hl : ∀ f, LoKOK P (lo f)) {base : OrcK} (hb : OrcKOK P base) {m n : Nat} {c : Con X Y} (p : X → Prop) (h : ∀ x, some (p x) = c.cond sp P (drK sp P) lo base m n x) (hp : ∀ x, c.pre x → p x) : c.OK P :=
  Con.ok_of (fun x hx => vF_ok (fun c hc => drK_ok hm c hc) hl hb m n c.f _ _ _ _ (h x).symm (hp x hx))
end
end Go.Eng
