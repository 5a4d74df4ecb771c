/- The engine, twenty-third part: loops with a state for each i. -/
import Derived.Test.YtilmgiompalggaaGreatDoorEn17
namespace Go.Eng
open Go Go.RowKit
set_option linter.unusedVariables false
set_option linter.unusedSimpArgs false
noncomputable section
abbrev Slots := List (Nat × AV)
/-- Slots by a list. -/
def layL (n : Nat) (l : Slots) : List AV := l.foldl (fun ts p => putT ts (some p.1) p.2) (List.replicate n .any)
def layS (n : Nat) (l : Slots) : SL := l.foldl (fun s p => putS n s (some p.1) p.2) (SL.mk 10)
theorem lay_SR {n : Nat} (hn : n < 1023) (l : Slots) : SR n (layL n l) (layS n l) := by
  have base : SR n (List.replicate n .any) (SL.mk 10) := by
    have := SR.start (as := []) (n := n) (by simp) hn
    simpa [SL.lay] using this
  suffices ∀ ts s, SR n ts s → SR n (l.foldl (fun ts p => putT ts (some p.1) p.2) ts) (l.foldl (fun s p => putS n s (some p.1) p.2) s) from this _ _ base
  induction l with
  | nil => intro ts s h; exact h
  | cons p l ih => intro ts s h; exact ih _ _ (h.put _ _)
def slotsOK (σ : Nat → Nat) (s : SL) : Slots → Prop
  | [] => True
  | p :: l => s.get p.1 = p.2.ren σ ∧ slotsOK σ s l
def wkS (S : SPf) (B n : Nat) (s : SL) (H : AH) (l : Slots) (n' : Nat) (L' : LH) : Prop :=
  let σ := sigOf B n' (mtBlks H L' (l.foldr (fun p q => AV.mt p.2 (s.get p.1) q) (idB B))) H.next
  S (Nat.ble σ.length n' && Nat.ble B n' && Nat.ble B σ.length && (List.range B).all (fun b => Nat.beq (sig σ H.next b) b) && noDup (L'.map (fun p => sig σ H.next p.1))) (slotsOK (sig σ H.next) s l ∧ BlkEq (sig σ H.next) H L') False
theorem layL_get {n : Nat} : ∀ (l : Slots) (ts : List AV) (t : Nat), ((l.foldl (fun ts p => putT ts (some p.1) p.2) ts).getD t .any = ts.getD t .any) ∨ ∃ p ∈ l, p.1 = t ∧ (l.foldl (fun ts p => putT ts (some p.1) p.2) ts).getD t .any = p.2
  | [], ts, t => .inl rfl
  | p :: l, ts, t => by
    rcases layL_get (n := n) l (putT ts (some p.1) p.2) t with h | ⟨q, h1, h2, h3⟩
    · rw [putT_get] at h
      simp only [List.foldl_cons]
      split at h
      · rename_i e
        exact .inr ⟨p, List.mem_cons_self, by simpa using e.1, h⟩
      · exact .inl h
    · exact .inr ⟨q, List.mem_cons_of_mem _ h1, h2, h3⟩
theorem slotsOK_mem {σ : Nat → Nat} {s : SL} : ∀ {l : Slots}, slotsOK σ s l → ∀ p ∈ l, s.get p.1 = p.2.ren σ
  | [], _, p, hp => by cases hp
  | q :: l, h, p, hp => by
    rcases List.mem_cons.1 hp with rfl | hp
    · exact h.1
    · exact slotsOK_mem h.2 p hp
theorem layL_len {n : Nat} (l : Slots) : (layL n l).length = n := by
  unfold layL
  suffices ∀ ts : List AV, (l.foldl (fun ts p => putT ts (some p.1) p.2) ts).length = ts.length by rw [this]; simp
  induction l with
  | nil => intro ts; rfl
  | cons p l ih => intro ts; rw [List.foldl_cons, ih, putT_len]
theorem wkS_ok {B n : Nat} {ts : List AV} {s : SL} {H : AH} {l : Slots} {n' : Nat} {L' : LH} (hs : SR n ts s) (h : wkS sp B n s H l n' L') : Weak B ts H (layL n l) (AH.of n' L') := by
  unfold wkS at h
  obtain ⟨h1, h2⟩ := sp_iff.1 h
  generalize hσ : sigOf B n' (mtBlks H L' (l.foldr (fun p q => AV.mt p.2 (s.get p.1) q) (idB B))) H.next = σ at h1 h2
  rcases hb : (Nat.ble σ.length n' && Nat.ble B n' && Nat.ble B σ.length && (List.range B).all (fun b => Nat.beq (sig σ H.next b) b) && noDup (L'.map (fun p => sig σ H.next p.1))) with _ | _
  · exact (h2 hb).elim
  · obtain ⟨g1, g2⟩ := h1 hb
    simp only [Bool.and_eq_true] at hb
    obtain ⟨⟨⟨⟨a1, a2⟩, a3⟩, a4⟩, a5⟩ := hb
    intro μ w tmps r sw hB
    obtain ⟨k1, k2⟩ := weak_heap (B := B) σ sw a1 a2 a4 a5 g2
    refine ⟨fun b => μ (sig σ H.next b), ?_, k1, k2⟩
    · have hlen : ts.length = tmps.toList.length := r.len
      refine Rel.of_get (by rw [layL_len, ← hs.len, hlen]; simp) (fun t => ?_)
      unfold layL
      rcases layL_get (n := n) l (List.replicate n .any) t with h | ⟨p, q1, q2, q3⟩
      · rw [h]
        have : (List.replicate n AV.any).getD t .any = .any := by
          rw [List.getD_eq_getElem?_getD, List.getElem?_replicate]; split <;> rfl
        rw [this]; simp [VRel]
      · rw [q3]
        have e := slotsOK_mem g1 p q1
        have rt := r.get t
        rw [List.getD_eq_getElem?_getD] at *
        have e2 : ts.getD t .any = s.get t := by rw [← hs.get]
        rw [List.getD_eq_getElem?_getD] at e2
        rw [e2, ← q2, e] at rt
        rw [← q2]
        exact VRel.unren (fun _ _ h => h) _ _ rt
/-- How a loop is left. -/
structure LOut where
  x : AX
  slots : Slots
  n : Nat
  L : LH
def noSl : Slots → Prop
  | [] => True
  | _ => False
theorem noSl_nil {l : Slots} (h : noSl l) : l = [] := by
  cases l
  · rfl
  · exact h.elim
/-- The code's end is that one. -/
def wkX (S : SPf) (B n : Nat) (x : AX) (s : SL) (H : AH) (o : LOut) : Prop :=
  match o.x, x with
  | .normal, .normal => wkS S B n s H o.slots o.n o.L
  | .ret, .ret => wkS S B n s H o.slots o.n o.L
  | .exit i, .exit j => S (Nat.beq i j) (wkS S B n s H o.slots o.n o.L) False
  | .goto i, .goto j => S (Nat.beq i j) (wkS S B n s H o.slots o.n o.L) False
  | .panic v', .panic v => wkP S B [v] H [v'] o.n o.L ∧ noSl o.slots
  | _, _ => False
/-- .. in the model's words. -/
def WeakX (B n : Nat) (x : AX) (ts : List AV) (H : AH) (o : LOut) : Prop :=
  ∀ μ w e (a : Act), XRel μ x e → Rel μ ts a.tmps → Sat μ H w → B ≤ H.next → ∃ μ', XRel μ' o.x e ∧ Rel μ' (layL n o.slots) a.tmps ∧ Sat μ' (AH.of o.n o.L) w ∧ Fw B μ H μ' (AH.of o.n o.L) w w
theorem wkX_ok {B n : Nat} {x : AX} {ts : List AV} {s : SL} {H : AH} {o : LOut} (hs : SR n ts s) (h : wkX sp B n x s H o) : WeakX B n x ts H o := by
  intro μ w e a hx r sw hB
  have hn : a.tmps.size = n := by
    have : ts.length = a.tmps.toList.length := r.len
    rw [hs.len] at this
    simpa using this.symm
  have st : wkS sp B n s H o.slots o.n o.L → (∀ μ', XRel μ x e → XRel μ' o.x e) → ∃ μ', XRel μ' o.x e ∧ Rel μ' (layL n o.slots) a.tmps ∧ Sat μ' (AH.of o.n o.L) w ∧ Fw B μ H μ' (AH.of o.n o.L) w w := by
    intro h hxx
    obtain ⟨μ', q1, q2, q3⟩ := wkS_ok hs h μ w a.tmps r sw hB
    exact ⟨μ', hxx μ' hx, q1, q2, q3⟩
  unfold wkX at h
  split at h
  · rename_i e1; rw [e1] at st ⊢; exact st h (fun μ' q => q)
  · rename_i e1; rw [e1] at st ⊢; exact st h (fun μ' q => q)
  · rename_i i j e1
    obtain ⟨h1, h2⟩ := sp_iff.1 h
    rcases hb : Nat.beq i j with _ | _
    · exact (h2 hb).elim
    · have := Nat.eq_of_beq_eq_true hb
      subst this
      rw [e1] at st ⊢; exact st (h1 hb) (fun μ' q => q)
  · rename_i i j e1
    obtain ⟨h1, h2⟩ := sp_iff.1 h
    rcases hb : Nat.beq i j with _ | _
    · exact (h2 hb).elim
    · have := Nat.eq_of_beq_eq_true hb
      subst this
      rw [e1] at st ⊢; exact st (h1 hb) (fun μ' q => q)
  · rename_i v' v e1
    obtain ⟨h1, h2⟩ := h
    have h2 := noSl_nil h2
    obtain ⟨xv, rfl, hv⟩ := hx
    obtain ⟨μ', q1, q2, q3⟩ := wkP_ok h1 μ w #[xv] ⟨hv, trivial⟩ sw hB
    refine ⟨μ', by rw [e1]; exact ⟨xv, rfl, q1.1⟩, ?_, q2, q3⟩
    rw [h2]
    refine Rel.of_get (by rw [layL_len, hn]) (fun t => ?_)
    have : (layL n []).getD t .any = .any := by
      unfold layL
      rw [List.foldl_nil, List.getD_eq_getElem?_getD, List.getElem?_replicate]; split <;> rfl
    rw [this]; simp [VRel]
  · exact h.elim
def outX : List (Bool × LOut) → Option LOut
  | [] => none
  | [(_, r)] => some r
  | (true, r) :: _ => some r
  | (false, _) :: l => outX l
def casesX (S : SPf) (K : LOut → Prop) : List (Bool × LOut) → Prop
  | [] => False
  | [(_, o)] => K o
  | (b, o) :: l => S b (K o) (casesX S K l)
theorem casesX_ok {K : LOut → Prop} : ∀ {l : List (Bool × LOut)}, casesX sp K l → ∃ o, outX l = some o ∧ K o
  | [], h => h.elim
  | [(b, o)], h => ⟨o, rfl, h⟩
  | (true, o) :: b :: l, h => ⟨o, rfl, h⟩
  | (false, o) :: b :: l, h => casesX_ok (l := b :: l) h
structure Lp (ι : Type) where
  B : Nat
  n : Nat
  code : Code
  fit : SL → AH → Option ι
  pre : ι → Prop
  slots : ι → Slots
  nx : ι → Nat
  L : ι → LH
  m : ι → Nat
  outs : ι → List (Bool × LOut)
  sh : ι → ι := fun i => i
def same (a b : Code) : Prop := a = b
def Lp.OK {ι : Type} (P : Program) (c : Lp ι) : Prop := c.n < 1023 ∧ ∀ i, c.pre i → Tri P c.B (.loop c.code) (layL c.n (c.slots i)) (AH.of (c.nx i) (c.L i)) (fun x ts H => ∃ o, outX (c.outs i) = some o ∧ WeakX c.B c.n x ts H o)
/-- A round's end. -/
def Lp.rnd {ι : Type} (S : SPf) (c : Lp ι) (i : ι) : KT := fun x s H =>
  match x with
  | .normal => ∃ j, c.pre (c.sh j) ∧ c.m (c.sh j) < c.m i ∧ c.outs (c.sh j) = c.outs i ∧ wkS S c.B c.n s H (c.slots (c.sh j)) (c.nx (c.sh j)) (c.L (c.sh j))
  | x => casesX S (fun o => wkX S c.B c.n x s H o) (c.outs i)
def Lp.body {ι : Type} (S : SPf) (P : Program) (call : OrcK) (dr : DroK) (lo : LoK) (c : Lp ι) (m : Nat) (i : ι) : Prop :=
  vC S P call dr lo c.B c.n m false c.code (layS c.n (c.slots i)) (AH.of (c.nx i) (c.L i)) (c.rnd S i)
theorem Lp.ok_of {ι : Type} {P : Program} {call : OrcK} (hc : OrcKOK P call) {dr : DroK} (hd : DroKOK P dr) {lo : LoK} (hl : LoKOK P lo) {c : Lp ι} (hn : c.n < 1023) (m : Nat) (h : ∀ i, c.pre i → c.body sp P call dr lo m i) : c.OK P := by
  refine ⟨hn, fun i hi => ?_⟩
  have := Tri.loop (P := P) (B := c.B) (c := c.code) (ι := {j : ι // c.pre j ∧ c.outs j = c.outs i}) (fun j => layL c.n (c.slots j.1)) (fun j => AH.of (c.nx j.1) (c.L j.1)) (fun j => c.m j.1) (Q := fun x ts H => ∃ o, outX (c.outs i) = some o ∧ WeakX c.B c.n x ts H o)
    (fun j => by
      refine (vC_ok hc hd hl (B := c.B) (k := c.n) m).1 c.code (lay_SR hn _) (h j.1 j.2.1) (fun x ts' s' H' hs' hk => ?_)
      have ex : x ≠ .normal → ∃ o, outX (c.outs i) = some o ∧ WeakX c.B c.n x ts' H' o := by
        intro hx
        have hk2 : casesX sp (fun o => wkX sp c.B c.n x s' H' o) (c.outs j.1) := by
          unfold Lp.rnd at hk
          cases x <;> first | exact (hx rfl).elim | exact hk
        obtain ⟨o, h1, h2⟩ := casesX_ok hk2
        rw [j.2.2] at h1
        exact ⟨o, h1, wkX_ok hs' h2⟩
      cases x with
      | normal =>
        obtain ⟨j2, k0, k1, k2, k3⟩ := hk
        exact ⟨⟨c.sh j2, k0, k2.trans j.2.2⟩, k1, wkS_ok hs' k3⟩
      | _ => exact ex (by simp)) ⟨i, hi, rfl⟩
  exact this
theorem Tri.weakPost {P : Program} {B n : Nat} {c : Code} {ts : List AV} {H : AH} {Q Q' : Post} (h : Tri P B c ts H Q) (hq : ∀ x ts H, Q x ts H → ∃ o, WeakX B n x ts H o ∧ Q' o.x (layL n o.slots) (AH.of o.n o.L)) : Tri P B c ts H Q' := fun μ w a r s hB => by
  have h := h μ w a r s hB
  refine wp_mono h (fun e a1 w1 hl => ?_)
  obtain ⟨x, ts1, H1, μ1, h1, h2, h3, h4, h5, h6⟩ := hl
  obtain ⟨o, q1, q2⟩ := hq _ _ _ h1
  obtain ⟨μ2, g1, g2, g3, g4⟩ := q1 μ1 w1 e a1 h2 h3 h4 h5.nx
  exact ⟨o.x, layL n o.slots, AH.of o.n o.L, μ2, q2, g1, g2, g3, h5.trans g4, h6⟩
/-- A loop's summary, for its function's code; `id` tells the loop from others of the function. -/
def Lp.lo {ι : Type} (S : SPf) (P : Program) (id : Code → Bool) (nm : Code) (c : Lp ι) : LoK := fun B n cd s H K =>
  bif id cd then match c.fit s H with
    | some i => some (same cd nm ∧ c.pre i ∧ S (Nat.beq B c.B && Nat.beq n c.n) (wkS S B n s H (c.slots i) (c.nx i) (c.L i) ∧ casesX S (fun o => K o.x (layS n o.slots) (AH.of o.n o.L)) (c.outs i)) False)
    | none => none else none
theorem Lp.lo_ok {ι : Type} {P : Program} {id : Code → Bool} {nm : Code} {c : Lp ι} (hc : c.OK P) (hnm : nm = c.code) : LoKOK P (c.lo sp P id nm) := by
  intro B n cd ts s H K p Q hs h hp q
  unfold Lp.lo at h
  rcases hi : id cd with _ | _
  · rw [hi] at h; cases h
  · rw [hi] at h
    simp only [cond_true] at h
    split at h
    · rename_i i hf
      cases h
      obtain ⟨h1, h0, h2⟩ := hp
      obtain ⟨g1, g2⟩ := sp_iff.1 h2
      rcases hb : (Nat.beq B c.B && Nat.beq n c.n) with _ | _
      · exact (g2 hb).elim
      · obtain ⟨k1, k2⟩ := g1 hb
        simp only [Bool.and_eq_true] at hb
        have e1 := Nat.eq_of_beq_eq_true hb.1
        have e2 := Nat.eq_of_beq_eq_true hb.2
        subst e1 e2
        have e3 : cd = c.code := h1.trans hnm
        subst e3
        obtain ⟨o, o1, o2⟩ := casesX_ok k2
        refine Tri.weak (wkS_ok hs k1) (Tri.weakPost (n := c.n) (hc.2 i h0) (fun x ts1 H1 ⟨o', p1, p2⟩ => ?_))
        rw [o1] at p1
        cases p1
        exact ⟨o, p2, q _ _ _ _ (lay_SR hc.1 _) o2⟩
    · cases h
/-- One loop's summary, or another's. -/
def orL (a b : LoK) : LoK := fun B n c s H K =>
  match a B n c s H K with
  | some p => some p
  | none => b B n c s H K
theorem orL_ok {P : Program} {a b : LoK} (ha : LoKOK P a) (hb : LoKOK P b) : LoKOK P (orL a b) := by
  intro B n c ts s H K p Q hs h hp q
  unfold orL at h
  split at h
  · rename_i p' hq
    cases h
    exact ha B n c ts s H K _ Q hs hq hp q
  · exact hb B n c ts s H K p Q hs h hp q
/-- A function's loops. -/
def forF (f : FuncId) (a : LoK) (r : FuncId → LoK) : FuncId → LoK := fun g => bif Nat.beq g f then a else r g
theorem forF_ok {P : Program} {f : FuncId} {a : LoK} {r : FuncId → LoK} (ha : LoKOK P a) (hr : ∀ g, LoKOK P (r g)) : ∀ g, LoKOK P (forF f a r g) := fun g => by
  unfold forF
  cases Nat.beq g f
  · exact hr g
  · exact ha
def noLoops : FuncId → LoK := fun _ => noLo
theorem noLoops_ok (P : Program) : ∀ g, LoKOK P (noLoops g) := fun _ => noLo_ok P
/-! ### a loop's code -/
def loopsIn : Code → List Code
  | .seq a b => loopsIn a ++ loopsIn b
  | .cond _ a b => loopsIn a ++ loopsIn b
  | .block _ c => loopsIn c
  | .scope c => loopsIn c
  | .loop c => c :: loopsIn c
  | _ => []
/-- The k-th loop's body of a function. -/
def loopOf (P : Program) (f : FuncId) (k : Nat) : Code :=
  match P.funcs[f]? with
  | some fn => match fn.body with
    | some c => (loopsIn c).getD k .skip
    | none => .skip
  | none => .skip
/-- The number of the first region within. -/
def regId : Code → Option Nat
  | .seq a b => match regId a with
    | some r => some r
    | none => regId b
  | .cond _ a b => match regId a with
    | some r => some r
    | none => regId b
  | .block _ c => regId c
  | .scope c => regId c
  | .loop c => regId c
  | .region r _ _ => some r
  | _ => none
def isLoop (r : Nat) : Code → Bool := fun c => match regId c with
  | some q => Nat.beq q r
  | none => false
def ntmpsOf (P : Program) (f : FuncId) : Nat := match P.funcs[f]? with
  | some fn => fn.ntmps
  | none => 0
end
end Go.Eng
/- The engine, twenty-fourth part: regions that draw their order, of operations that read alone. -/
namespace Go.Eng
open Go Go.RowKit
set_option linter.unusedVariables false
set_option linter.unusedSimpArgs false
noncomputable section
def COp.cxs : COp → List CX
  | .mv x | .load _ x | .nilc x | .un _ x | .conv _ x | .s2a _ x | .mki _ x | .fa _ x | .fld _ _ x | .ext _ x | .lens x | .lenb x => [x]
  | .pick a b c => [a, b, c]
  | .bin _ x y | .eq _ _ x y | .ias _ x y | .iaa _ _ x y | .ixa _ _ _ x y | .ixs x y | .mm _ x y => [x, y]
  | .mkf _ a c => a ++ c
  | .sli _ x lo hi mx => x :: (lo.toList ++ hi.toList ++ mx.toList)
  | .sla _ _ x lo hi => x :: (lo.toList ++ hi.toList)
  | .pl p => p.cxs
  | .build _ ps => ps.map fun p => p.2.2
  | _ => []
theorem cfill_congr {e1 e2 : CX → AV} : ∀ (ps : List (Nat × Nat × CX)) (cs : List AV), (∀ x ∈ ps.map (fun p => p.2.2), e1 x = e2 x) → cfill e1 ps cs = cfill e2 ps cs
  | [], _, _ => rfl
  | (off, sz, x) :: ps, cs, h => by
    have h0 : e1 x = e2 x := h x (by simp)
    have ih := fun cs => cfill_congr ps cs (fun y hy => h y (by simp at hy ⊢; exact .inr hy))
    unfold cfill
    rw [h0]
    split
    · rw [ih]
    · rfl
theorem pstep_congr {e1 e2 : CX → AV} {H : AH} {p : PO} (h : ∀ x ∈ p.cxs, e1 x = e2 x) : pstep e1 H p = pstep e2 H p := by
  cases p <;> simp only [PO.cxs, List.mem_cons, List.not_mem_nil, or_false, forall_eq_or_imp, forall_eq] at h <;> first
    | (obtain ⟨h1, h2⟩ := h; simp only [pstep, h1, h2]; done)
    | (simp only [pstep, h]; done)
theorem cstep_congr {e1 e2 : CX → AV} {H : AH} {c : COp} (hp : isPure c = true) (h : ∀ x ∈ c.cxs, e1 x = e2 x) : cstep e1 H c = cstep e2 H c := by
  have om : ∀ (o : Option CX), (∀ x ∈ o.toList, e1 x = e2 x) → o.map e1 = o.map e2 := by
    intro o ho
    cases o with
    | none => rfl
    | some x => simp [ho x (by simp)]
  cases c <;> first
    | (simp [isPure] at hp; done)
    | (rename_i p; simp only [cstep, pstep_congr h]; done)
    | (rename_i z ps; simp only [cstep, cfill_congr ps z h]; done)
    | (simp only [COp.cxs, List.mem_cons, List.not_mem_nil, or_false, forall_eq_or_imp, forall_eq] at h
       first
         | (obtain ⟨h1, h2, h3⟩ := h; simp only [cstep, h1, h2, h3]; done)
         | (obtain ⟨h1, h2⟩ := h; simp only [cstep, h1, h2]; done)
         | (simp only [cstep, h]; done))
    | rfl
    | (rename_i f a c
       simp only [COp.cxs, List.mem_append] at h
       simp only [cstep]
       rw [List.map_congr_left (fun x hx => h x (.inl hx)), List.map_congr_left (fun x hx => h x (.inr hx))])
    | (rename_i es x lo hi mx
       simp only [COp.cxs, List.mem_cons, List.mem_append] at h
       simp only [cstep]
       rw [h x (.inl rfl), om lo (fun y hy => h y (.inr (.inl (.inl hy)))), om hi (fun y hy => h y (.inr (.inl (.inr hy)))), om mx (fun y hy => h y (.inr (.inr hy)))])
    | (rename_i n es x lo hi
       simp only [COp.cxs, List.mem_cons, List.mem_append] at h
       simp only [cstep]
       rw [h x (.inl rfl), om lo (fun y hy => h y (.inr (.inl hy))), om hi (fun y hy => h y (.inr (.inr hy)))])
def CX.tmps : CX → List Nat
  | .t i => [i]
  | .v _ => []
/-- The slots that an operation reads. -/
def readsOf (P : Program) (o : Oper) : List Nat :=
  match comp P o with
  | some c => ((c.hint 0).cxs.map CX.tmps).flatten
  | none => []
theorem ev_congr {ts us : List AV} {l : List CX} (h : ∀ t ∈ (l.map CX.tmps).flatten, ts.getD t .any = us.getD t .any) : ∀ x ∈ l, CX.ev ts x = CX.ev us x := by
  intro x hx
  cases x with
  | t i => exact h i (List.mem_flatten.2 ⟨[i], List.mem_map.2 ⟨_, hx, rfl⟩, by simp⟩)
  | v a => rfl
theorem stepV_congr {P : Program} {ops : Array Oper} {o : Oper} {ts us : List AV} {H : AH} {c : COp} (hg : guardOf ops o = some none) (hc : comp P o = some c) (hp : isPure (c.hint 0) = true) (h : ∀ t ∈ readsOf P o, ts.getD t .any = us.getD t .any) : stepV P ops 0 o ts H = stepV P ops 0 o us H := by
  unfold stepV
  simp only [hg, goesOn, hc]
  simp only [readsOf, hc] at h
  rw [cstep_congr hp (ev_congr h)]
theorem scrub_same (ops : Array Oper) : ∀ (js : List Nat) (ts : List AV) (t : Nat), (∀ j ∈ js, dstOf ops j ≠ some t) → (scrub ops js ts).getD t .any = ts.getD t .any
  | [], ts, t, _ => rfl
  | j :: js, ts, t, h => by
    simp only [scrub]
    rw [putT_get, if_neg (fun e => h j List.mem_cons_self e.1), scrub_same ops js _ t (fun i hi => h i (List.mem_cons_of_mem _ hi))]
/-- Each operation reads alone, what it reads of the region it waits for, and no slot is written twice. -/
def seqOK (P : Program) (n : Nat) (ops : Array Oper) : Bool :=
  backB ops && (List.range ops.size).all fun k => match ops[k]? with
    | some o => (match guardOf ops o with
      | some none => true
      | _ => false) && (match comp P o with
      | some c => isPure (c.hint 0)
      | none => false) && (match o.dst with
      | some d => Nat.blt d n && (List.range ops.size).all fun j => Nat.beq j k || !(match dstOf ops j with
        | some e => Nat.beq e d
        | none => false)
      | none => false) && (readsOf P o).all fun t => (List.range ops.size).all fun j => !(match dstOf ops j with
        | some e => Nat.beq e t
        | none => false) || (Nat.blt j k && (waitsFor ops ops.size k).contains j)
    | none => false
structure SeqAt (P : Program) (n : Nat) (ops : Array Oper) (k : Nat) (o : Oper) : Prop where
  guard : guardOf ops o = some none
  pure : ∃ c, comp P o = some c ∧ isPure (c.hint 0) = true
  dst : ∃ d, o.dst = some d ∧ d < n ∧ ∀ j, j < ops.size → j ≠ k → dstOf ops j ≠ some d
  reads : ∀ t ∈ readsOf P o, ∀ j, j < ops.size → dstOf ops j = some t → j < k ∧ (waitsFor ops ops.size k).contains j = true
theorem seqOK_at {P : Program} {n : Nat} {ops : Array Oper} (h : seqOK P n ops = true) {k : Nat} {o : Oper} (ho : ops[k]? = some o) : SeqAt P n ops k o := by
  unfold seqOK at h
  rw [Bool.and_eq_true] at h
  have hk : k < ops.size := (Array.getElem?_eq_some_iff.1 ho).1
  have h1 := List.all_eq_true.1 h.2 k (List.mem_range.2 hk)
  simp only [ho, Bool.and_eq_true] at h1
  obtain ⟨⟨⟨g1, g2⟩, g3⟩, g4⟩ := h1
  refine ⟨?_, ?_, ?_, ?_⟩
  · split at g1
    · assumption
    · cases g1
  · split at g2
    · rename_i c hc; exact ⟨c, hc, g2⟩
    · cases g2
  · split at g3
    · rename_i d hd
      rw [Bool.and_eq_true] at g3
      refine ⟨d, hd, Nat.le_of_ble_eq_true g3.1, fun j hj hne he => ?_⟩
      have := List.all_eq_true.1 g3.2 j (List.mem_range.2 hj)
      rw [he] at this
      simp [hne] at this
    · cases g3
  · intro t ht j hj he
    have := List.all_eq_true.1 (List.all_eq_true.1 g4 t ht) j (List.mem_range.2 hj)
    rw [he] at this
    simp only [Nat.beq_refl, Bool.not_true, Bool.false_or, Bool.and_eq_true] at this
    exact ⟨Nat.le_of_ble_eq_true this.1, this.2⟩
/-- One behind the other, in the text's order. -/
def seqS (S : SPf) (P : Program) (n : Nat) (H : AH) (K : SL → Prop) : List Oper → SL → Prop
  | [], s => K s
  | o :: l, s => match comp P o with
    | some c => match cstep (evG s.get) H (c.hint 0) with
      | some (v, _, ok) => S ok (seqS S P n H K l (putS n s o.dst v)) False
      | none => False
    | none => False
theorem seqS_ok {P : Program} {B n : Nat} {ops : Array Oper} {H : AH} {K : SL → Prop} {Q : Post} (hq : seqOK P n ops = true) (hbk : backB ops = true) (hK : ∀ ts s, SR n ts s → K s → Q .normal ts H) : ∀ (l : List Oper) (k : Nat) (ts : List AV) (s : SL), ops.toList = ops.toList.take k ++ l → k + l.length = ops.size → SR n ts s →
    (∀ j o, j < k → ops[j]? = some o → stepV P ops 0 o ts H = some (valAt ts o.dst, H, true)) → seqS sp P n H K l s → DA P B ops (List.range k).reverse (List.range k).reverse ts H Q
  | [], k, ts, s, hl, hk, hs, hv, h => by
    simp only [List.length_nil, Nat.add_zero] at hk
    refine DA.fin ⟨?_, hbk⟩ ?_ (hK ts s hs h)
    · rw [List.all_eq_true]
      intro j hj
      rw [← hk] at hj
      simpa using hj
    · suffices ∀ L : List Nat, ValidL P ops (List.range k).reverse ts H L from this _
      intro L
      induction L with
      | nil => trivial
      | cons j L ih =>
        refine ⟨?_, ih⟩
        unfold ValidOne
        rcases ho : ops[j]? with _ | o
        · trivial
        · simp only []
          have hj : j < k := by rw [hk]; exact (Array.getElem?_eq_some_iff.1 ho).1
          have sa := seqOK_at hq ho
          obtain ⟨c, hc, hp⟩ := sa.pure
          rw [← hv j o hj ho]
          refine stepV_congr sa.guard hc hp (fun t ht => scrub_same ops _ ts t (fun i hi he => ?_))
          unfold besides at hi
          rw [List.mem_filter] at hi
          have hik : i < ops.size := by rw [← hk]; simpa using hi.1
          have := (sa.reads t ht i hik he).2
          rw [this] at hi
          simp at hi
  | o :: l, k, ts, s, hl, hk, hs, hv, h => by
    simp only [List.length_cons] at hk
    have ho : ops[k]? = some o := by
      rw [← Array.getElem?_toList, hl, List.getElem?_append_right (by simp; omega)]
      have : min k ops.size = k := by omega
      simp [this]
    have sa := seqOK_at hq ho
    obtain ⟨c, hc, hp⟩ := sa.pure
    obtain ⟨d, hd, hdn, hdd⟩ := sa.dst
    unfold seqS at h
    rw [← hs.get, ← evG_eq] at h
    simp only [hc] at h
    split at h
    · rename_i v H1 ok hst
      obtain ⟨h1, h2⟩ := sp_iff.1 h
      have hok : ok = true := by
        cases ok
        · exact (h2 rfl).elim
        · rfl
      subst hok
      have hH := pure_heap hp hst
      subst hH
      have hdo : dstOf ops k = o.dst := by simp [dstOf, ho]
      have stepk : ∀ us : List AV, (∀ t ∈ readsOf P o, us.getD t .any = ts.getD t .any) → stepV P ops 0 o us H1 = some (v, H1, true) := by
        intro us hu
        rw [stepV_congr sa.guard hc hp hu]
        simp [stepV, sa.guard, goesOn, hc, hst]
      have rng : (List.range (k + 1)).reverse = k :: (List.range k).reverse := by rw [List.range_succ]; simp
      refine DA.take k v (by simp) ?_
      rw [← rng, hdo]
      refine seqS_ok hq hbk hK l (k + 1) (putT ts o.dst v) _ ?_ (by omega) (hs.put _ _) ?_ (h1 rfl)
      · have : ops.toList.take (k + 1) = ops.toList.take k ++ [o] := by
          rw [List.take_add_one]
          rw [show ops.toList[k]? = some o by rw [Array.getElem?_toList]; exact ho]; rfl
        rw [this, List.append_assoc]; exact hl
      · intro j oj hj hoj
        have same : ∀ t, t ≠ d → (putT ts o.dst v).getD t .any = ts.getD t .any := by
          intro t ht
          rw [putT_get, if_neg]
          rintro ⟨e, _⟩
          rw [hd] at e
          cases e
          exact ht rfl
        rcases Nat.lt_succ_iff_lt_or_eq.1 hj with hlt | hjk
        · have saj := seqOK_at hq hoj
          obtain ⟨cj, hcj, hpj⟩ := saj.pure
          obtain ⟨dj, hdj, hdjn, hdjd⟩ := saj.dst
          have e := hv j oj hlt hoj
          rw [stepV_congr (us := ts) saj.guard hcj hpj (fun t ht => same t (fun e => by
            have := (saj.reads t ht k (by omega) (by rw [hdo, hd, e])).1
            omega)), e]
          have : valAt (putT ts o.dst v) oj.dst = valAt ts oj.dst := by
            rw [hdj]
            simp only [valAt]
            refine same dj (fun e => ?_)
            exact hdjd k (by omega) (by omega) (by rw [hdo, hd, e])
          rw [this]
        · rw [hjk, ho] at hoj
          cases hoj
          rw [stepk _ (fun t ht => same t (fun e => by
            have := (sa.reads t ht k (by omega) (by rw [hdo, hd, e])).1
            omega))]
          have : valAt (putT ts o.dst v) o.dst = v := by
            rw [hd]
            simp only [valAt]
            rw [putT_get, if_pos ⟨rfl, by rw [hs.len]; exact hdn⟩]
          rw [this]
    · exact h.elim
/-- Regions that draw: those that read alone in the text's order. -/
def drP (S : SPf) (P : Program) (call : OrcK) : DroK := fun n ops s H K =>
  bif seqOK P n ops then seqS S P n H (fun s => K .normal s H) ops.toList s else drK S P call n ops s H K
theorem drP_ok {P : Program} (hm : P.follows .mixedOrders = true) (call : OrcK) (hc : OrcKOK P call) : DroKOK P (drP sp P call) := by
  intro B id n ops ts s H K Q hs h q
  unfold drP at h
  rcases hb : seqOK P n ops with _ | _
  · rw [hb] at h
    exact drK_ok hm call hc B id n ops ts s H K Q hs h q
  · rw [hb] at h
    simp only [cond_true] at h
    have hbk : backB ops = true := by
      unfold seqOK at hb
      rw [Bool.and_eq_true] at hb
      exact hb.1
    refine Tri.drawn hm ?_
    exact seqS_ok (K := fun s => K .normal s H) hb hbk (fun ts s h1 h2 => q _ _ _ _ h1 h2) ops.toList 0 ts s (by simp) (by simp) hs (fun j o hj => by omega) h
theorem Con.by {X Y : Type} {P : Program} (hm : P.follows .mixedOrders = true) {lo : FuncId → LoK} (hl : ∀ f, LoKOK P (lo f)) {base : OrcK} (hb : OrcKOK P base) {m n : Nat} {c : Con X Y} (p : X → Prop) (h : ∀ x, some (p x) = c.cond sp P (drP sp P) lo base m n x) (hp : ∀ x, c.pre x → p x) : c.OK P :=
  Con.ok_of (fun x hx => vF_ok (fun c hc => drP_ok hm c hc) hl hb m n c.f _ _ _ _ (h x).symm (hp x hx))
end
end Go.Eng
