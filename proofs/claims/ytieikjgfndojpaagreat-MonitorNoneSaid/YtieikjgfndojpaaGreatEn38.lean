/- The engine, thirty-ninth part: a quick evaluator for known values: code, functions. -/
import Derived.Test.YtieikjgfndojpaaGreatEn37
import Derived.Test.YtieikjgfndojpaaGreatEn25
namespace Go.Eng
open Go Go.RowKit
set_option linter.unusedVariables false
set_option linter.unusedSimpArgs false
noncomputable section
def seqK (b : CB) (call : CallQ) (Q : KV) : KV := fun x s H => @AX.casesOn (fun _ => Prop) x (b.go call s H Q) (fun id => Q (.exit id) s H) (fun l => Q (.goto l) s H) (Q .ret s H) (fun v => Q (.panic v) s H)
def blkK (id : Nat) (Q : KV) : KV := fun x s H => @AX.casesOn (fun _ => Prop) x (Q .normal s H) (fun i => @Bool.rec (fun _ => Prop) (Q (.exit i) s H) (Q .normal s H) (Nat.beq i id)) (fun l => Q (.goto l) s H) (Q .ret s H) (fun v => Q (.panic v) s H)
def scpK (Q : KV) : KV := fun x s H => @AX.casesOn (fun _ => Prop) x (Q .normal s H) (fun i => Q (.exit i) s H) (fun l => False) (Q .ret s H) (fun v => Q (.panic v) s H)
def loopK (r : XC1) (call : CallQ) (Q : KV) : KV := fun x s H => @AX.casesOn (fun _ => Prop) x (r call s H Q) (fun id => Q (.exit id) s H) (fun l => Q (.goto l) s H) (Q .ret s H) (fun v => Q (.panic v) s H)
def loopQ (b : CB) (m : Nat) : XC1 := @Nat.rec (fun _ => XC1) (fun _ _ _ _ => False) (fun _ r call s H Q => b.go call s H (loopK r call Q)) m
def condQ (c : Operand) (a b : CB) : CB :=
  match c with
  | .tmp d => ⟨fun call s H Q => VT.getC (pathOf d) s fun v => asB v fun q => @Bool.rec (fun _ => Prop) (b.go call s H Q) (a.go call s H Q) q⟩
  | .const (.bool true) => a
  | .const (.bool false) => b
  | _ => ⟨fun _ _ _ _ => False⟩
def xC (P : Program) (n m : Nat) (c : Code) : CB := @Code.rec (fun _ => CB)
  ⟨fun _ s H Q => Q .normal s H⟩
  (fun _ ops d => @Bool.rec (fun _ => CB) (xOps P n ops ops.toList) (drawT P n ops) d)
  (fun _ _ a b => ⟨fun call s H Q => a.go call s H (seqK b call Q)⟩)
  (fun o _ _ a b => condQ o a b)
  (fun id _ a => ⟨fun call s H Q => a.go call s H (blkK id Q)⟩)
  (fun _ a => ⟨fun call s H Q => loopQ a m call s H Q⟩)
  (fun _ _ _ _ _ _ => ⟨fun _ _ _ _ => False⟩)
  (fun id => ⟨fun _ s H Q => Q (.exit id) s H⟩)
  (fun _ a => ⟨fun call s H Q => a.go call s H (scpK Q)⟩)
  (fun _ => ⟨fun _ s H Q => Q .normal s H⟩)
  (fun l => ⟨fun _ s H Q => Q (.goto l) s H⟩)
  ⟨fun _ s H Q => Q .ret s H⟩
  (fun _ => ⟨fun _ _ _ _ => False⟩) c
theorem loopQ_ok {P : Program} {n B : Nat} {call : CallQ} {c : Code} {b : CB} (ih : ∀ {Q : Post} {K : KV} {ts : List AV} {s : VT} {H : AH}, SRV n ts s → b.go call s H K → (∀ x ts' s' H', SRV n ts' s' → K x s' H' → Q x ts' H') → Tri P B c ts H Q) :
    ∀ (m : Nat) {Q : Post} {K : KV} {ts : List AV} {s : VT} {H : AH}, SRV n ts s → loopQ b m call s H K → (∀ x ts' s' H', SRV n ts' s' → K x s' H' → Q x ts' H') → TriL P B c m ts H Q
  | 0, Q, K, ts, s, H, hs, h, q => h.elim
  | m + 1, Q, K, ts, s, H, hs, h, q => by
    have h1 : b.go call s H (loopK (loopQ b m) call K) := h
    refine TriL.round (ih hs h1 (fun x ts1 s1 H1 hs1 h2 => ?_))
    cases x with
    | normal => exact loopQ_ok ih m hs1 h2 q
    | _ => exact q _ _ _ _ hs1 h2
theorem xC_ok {P : Program} (hm : P.follows .mixedOrders = true) {n m B : Nat} {call : CallQ} (hc : CallQOK P call) (c : Code) : ∀ {Q : Post} {K : KV} {ts : List AV} {s : VT} {H : AH}, SRV n ts s → (xC P n m c).go call s H K → (∀ x ts' s' H', SRV n ts' s' → K x s' H' → Q x ts' H') → Tri P B c ts H Q := by
  induction c with
  | skip => intro Q K ts s H hs h q; exact Tri.skip (q _ _ _ _ hs h)
  | label l => intro Q K ts s H hs h q; exact Tri.label (q _ _ _ _ hs h)
  | ret => intro Q K ts s H hs h q; exact Tri.ret (q _ _ _ _ hs h)
  | exit id => intro Q K ts s H hs h q; exact Tri.exit (q _ _ _ _ hs h)
  | goto l => intro Q K ts s H hs h q; exact Tri.goto (q _ _ _ _ hs h)
  | refuse w => intro Q K ts s H hs h q; exact h.elim
  | rangeFunc f ps a b _ _ => intro Q K ts s H hs h q; exact h.elim
  | region id ops d =>
    intro Q K ts s H hs h q
    cases d with
    | false => exact Tri.region (xOps_ok hc q _ hs h)
    | true => exact drawT_ok hm hc hs h q
  | seq a b iha ihb =>
    intro Q K ts s H hs h q
    have h1 : (xC P n m a).go call s H (seqK (xC P n m b) call K) := h
    refine Tri.seq (iha hs h1 (fun x ts1 s1 H1 hs1 h2 => ?_))
    cases x with
    | normal => exact ihb hs1 h2 q
    | _ => exact q _ _ _ _ hs1 h2
  | cond o a b iha ihb =>
    intro Q K ts s H hs h q
    have h : (condQ o (xC P n m a) (xC P n m b)).go call s H K := h
    cases o with
    | tmp d =>
      have h1 := VT.getC_of (p := pathOf d) (t := s) h
      obtain ⟨b0, e1, h2⟩ := asB_of h1
      have e1 : s.at d = .bool b0 := e1
      have hbt : boolAt ts (.tmp d) = some b0 := by
        rw [boolAtG_eq, hs.get]
        simp [boolAtG, e1]
      refine Tri.cond b0 hbt (fun e => ?_) (fun e => ?_)
      · subst e; exact iha hs h2 q
      · subst e; exact ihb hs h2 q
    | const v =>
      cases v with
      | bool b0 =>
        have hbt : boolAt ts (.const (.bool b0)) = some b0 := rfl
        refine Tri.cond b0 hbt (fun e => ?_) (fun e => ?_)
        · subst e; exact iha hs h q
        · subst e; exact ihb hs h q
      | _ => exact h.elim
    | _ => exact h.elim
  | block id a ih =>
    intro Q K ts s H hs h q
    have h1 : (xC P n m a).go call s H (blkK id K) := h
    refine Tri.block (ih hs h1 (fun x ts1 s1 H1 hs1 h2 => ?_))
    cases x with
    | exit i =>
      simp only [blockX]
      have h2 : @Bool.rec (fun _ => Prop) (K (.exit i) s1 H1) (K .normal s1 H1) (Nat.beq i id) := h2
      rcases hb : Nat.beq i id with _ | _
      · rw [hb] at h2
        rw [if_neg (fun e => by rw [e] at hb; simp at hb)]
        exact q _ _ _ _ hs1 h2
      · rw [hb] at h2
        rw [if_pos (Nat.eq_of_beq_eq_true hb)]
        exact q _ _ _ _ hs1 h2
    | _ => exact q _ _ _ _ hs1 h2
  | scope a ih =>
    intro Q K ts s H hs h q
    have h1 : (xC P n m a).go call s H (scpK K) := h
    refine Tri.scope (ih hs h1 (fun x ts1 s1 H1 hs1 h2 => ?_))
    cases x with
    | goto i => exact h2.elim
    | _ => exact q _ _ _ _ hs1 h2
  | loop a ih =>
    intro Q K ts s H hs h q
    have h1 : loopQ (xC P n m a) m call s H K := h
    exact TriL.loop (loopQ_ok ih m hs h1 q)
/-! ### results -/
def res1 (P : Program) (r : ResultVar) : OXp :=
  match r with
  | .tmp t => ⟨fun s _ f => VT.getC (pathOf t) s f⟩
  | .cell t ty => match aggSz P ty with
    | some none => ⟨fun s H f => VT.getC (pathOf t) s fun v => asP v fun b k j => getB H b fun y => rdCell y k j f⟩
    | some (some n) => ⟨fun s H f => VT.getC (pathOf t) s fun v => asP v fun b k j => getB H b fun y => rdCells y k j n fun l => f (.agg l)⟩
    | none => ⟨fun _ _ _ => False⟩
def OXp.go (b : OXp) : EXp := fun s H f => @OXp.rec (fun _ => Prop) (fun e => e s H f) b
theorem res1_of {P : Program} {r : ResultVar} {s : VT} {H : AH} {f : AV → Prop} (h : (res1 P r).go s H f) : ∃ v, resOneG P s.at H r = some (v, true) ∧ f v := by
  cases r with
  | tmp t => exact ⟨_, rfl, VT.getC_of (p := pathOf t) h⟩
  | cell t ty =>
    unfold res1 at h
    simp only [] at h
    split at h
    · rename_i hz
      have h1 := VT.getC_of (p := pathOf t) h
      obtain ⟨b, k, j, e1, h2⟩ := asP_of h1
      obtain ⟨y, e2, h3⟩ := getB_of h2
      obtain ⟨h4, h5⟩ := rdCell_of h3
      have e1 : s.at t = .ptr b k j := e1
      refine ⟨_, ?_, h5⟩
      simp only [resOneG, e1, e2, hz, h4]
    · rename_i n hz
      have h1 := VT.getC_of (p := pathOf t) h
      obtain ⟨b, k, j, e1, h2⟩ := asP_of h1
      obtain ⟨y, e2, h3⟩ := getB_of h2
      obtain ⟨h4, h5⟩ := rdCells_of (f := fun l => f (.agg l)) h3
      have e1 : s.at t = .ptr b k j := e1
      refine ⟨_, ?_, h5⟩
      simp only [resOneG, e1, e2, hz, h4]
    · exact h.elim
def resC (P : Program) (rs : List ResultVar) : VT → AH → (List AV → Prop) → Prop := @List.rec ResultVar (fun _ => VT → AH → (List AV → Prop) → Prop) (fun _ _ f => f []) (fun r _ ih s H f => (res1 P r).go s H fun v => ih s H fun vs => f (v :: vs)) rs
theorem resC_of {P : Program} {s : VT} {H : AH} : ∀ {rs : List ResultVar} {f : List AV → Prop}, resC P rs s H f → ∃ vs, resListG P s.at H rs = some (vs, true) ∧ f vs
  | [], f, h => ⟨_, rfl, h⟩
  | r :: rs, f, h => by
    obtain ⟨v, h1, h2⟩ := res1_of (show (res1 P r).go s H fun v => resC P rs s H fun vs => f (v :: vs) from h)
    obtain ⟨vs, h3, h4⟩ := resC_of (rs := rs) (f := fun vs => f (v :: vs)) h2
    refine ⟨_, ?_, h4⟩
    rw [resListG, h1, h3]
    rfl
def oneC (vs : List AV) (f : AV → Prop) : Prop := @List.casesOn AV (fun _ => Prop) vs (f (.tup [])) (fun v l => @List.casesOn AV (fun _ => Prop) l (f v) (fun _ _ => f (.tup vs)))
theorem oneC_of {vs : List AV} {f : AV → Prop} (h : oneC vs f) : f (oneOf vs) := by
  cases vs with
  | nil => exact h
  | cons v l => cases l <;> exact h
def finQ (P : Program) (rs : List ResultVar) (K : AOut → AH → Prop) : KV := fun x s H => @AX.casesOn (fun _ => Prop) x (resC P rs s H fun vs => oneC vs fun v => K (.ret v) H) (fun _ => False) (fun _ => False) (resC P rs s H fun vs => oneC vs fun v => K (.ret v) H) (fun v => K (.panic v) H)
/-! ### functions -/
inductive FB where
  | mk (e : CallQ → List AV → AH → (AOut → AH → Prop) → Prop)
def fbox (P : Program) (spc : FuncId → Option FB) (m : Nat) (f : FuncId) : FB :=
  match spc f with
  | some b => b
  | none => match P.funcs[f]? with
    | none => ⟨fun _ _ _ _ => False⟩
    | some fn => match fn.body with
      | none => ⟨fun _ _ _ _ => False⟩
      | some c => ⟨fun call as H K => chk (Nat.ble (lenC as) fn.ntmps) (fillC as 0 .e fun s => (xC P fn.ntmps m c).go call s H (finQ P fn.results.toList K))⟩
def FB.go (b : FB) (call : CallQ) (as : List AV) (H : AH) (K : AOut → AH → Prop) : Prop := @FB.rec (fun _ => Prop) (fun e => e call as H K) b
def FBOK (P : Program) (f : FuncId) (b : FB) : Prop := ∀ call as H K, CallQOK P call → b.go call as H K → RunsK P f as H K
def SpcOK (P : Program) (spc : FuncId → Option FB) : Prop := ∀ f b, spc f = some b → FBOK P f b
def xF (P : Program) (spc : FuncId → Option FB) (m d : Nat) : CallQ := @Nat.rec (fun _ => CallQ) (fun _ _ _ _ => False) (fun _ ih f as H K => (fbox P spc m f).go ih as H K) d
theorem SRV.start {as : List AV} {n : Nat} {s : VT} (h : as.length ≤ n) (hs : ∀ i, s.at i = if 0 ≤ i ∧ i < 0 + as.length then as.getD (i - 0) .any else VT.at .e i) : SRV n (as ++ List.replicate (n - as.length) .any) s where
  len := by simp; omega
  get := by
    funext c
    rw [hs, VT.at_e]
    simp only [Nat.zero_le, true_and, Nat.zero_add, Nat.sub_zero, List.getD_eq_getElem?_getD]
    by_cases e : c < as.length
    · rw [if_pos e, List.getElem?_append_left e]
    · rw [if_neg e, List.getElem?_append_right (by omega), List.getElem?_replicate]
      split <;> rfl
theorem finQ_ok {P : Program} {fn : Func} {K : AOut → AH → Prop} {n : Nat} : ∀ x ts' s' H', SRV n ts' s' → finQ P fn.results.toList K x s' H' → bodyK P fn K x ts' H' := by
  intro x ts s H hs h
  have fin : (resC P fn.results.toList s H fun vs => oneC vs fun v => K (.ret v) H) → ∃ v, resOf P fn ts H = some (v, true) ∧ K (.ret v) H := by
    intro h
    obtain ⟨vs, h1, h2⟩ := resC_of h
    refine ⟨_, ?_, oneC_of (f := fun v => K (.ret v) H) h2⟩
    rw [resOfG_eq, hs.get, resOfG, h1]
  cases x with
  | normal => exact fin h
  | ret => exact fin h
  | panic v => exact h
  | exit i => exact h.elim
  | goto i => exact h.elim
theorem fbox_ok {P : Program} (hm : P.follows .mixedOrders = true) {spc : FuncId → Option FB} (hs : SpcOK P spc) (m : Nat) (f : FuncId) : FBOK P f (fbox P spc m f) := by
  intro call as H K hc h
  unfold fbox at h
  split at h
  · rename_i b hb
    exact hs f b hb call as H K hc h
  · split at h
    · exact h.elim
    · rename_i fn hf
      split at h
      · exact h.elim
      · rename_i c hb
        obtain ⟨h1, h2⟩ := chk_of h
        rw [lenC_eq] at h1
        obtain ⟨s, h3, h4⟩ := fillC_of (f := fun s => (xC P fn.ntmps m c).go call s H (finQ P fn.results.toList K)) h2
        exact RunsK.body hf hb (xC_ok hm hc c (SRV.start (Nat.le_of_ble_eq_true h1) h4) h3 finQ_ok)
theorem xF_ok {P : Program} (hm : P.follows .mixedOrders = true) {spc : FuncId → Option FB} (hs : SpcOK P spc) (m : Nat) : ∀ d, CallQOK P (xF P spc m d)
  | 0, f, as, H, K, h => h.elim
  | d + 1, f, as, H, K, h => fbox_ok hm hs m f (xF P spc m d) as H K (xF_ok hm hs m d) h
def noSpc : FuncId → Option FB := fun _ => none
theorem noSpc_ok (P : Program) : SpcOK P noSpc := fun f b h => by cases h
end
end Go.Eng
/- The engine, twenty-fifth part: arguments told more loosely: slices that may be nil, blocks that are only read. -/
namespace Go.Eng
open Go Go.RowKit
set_option linter.unusedVariables false
set_option linter.unusedSimpArgs false
noncomputable section
/-- A block that is only read from now on. -/
def AH.ro (H : AH) (b : Nat) : AH := match H.get b with
  | some k => H.set b { k with own := false }
  | none => H
theorem BSat.ro {μ : Mu} {k : ABlk} {l : Loc} {w : World} (h : BSat μ k l w) : BSat μ { k with own := false } l w := by
  obtain ⟨o, st, c⟩ := k
  cases c with
  | map es => exact h
  | cells _ | ints _ _ | recs _ _ | tr _ _ =>
    obtain ⟨h0, C, t, fz, h1, h2, h3⟩ := h
    exact ⟨h0, C, t, fz, h1, fun e => by simp at e, h3⟩
theorem ro_ok {μ : Mu} {H : AH} {w : World} (s : Sat μ H w) (b : Nat) : Sat μ (H.ro b) w ∧ Fr μ H μ (H.ro b) w w := by
  unfold AH.ro
  split
  · rename_i k hk
    have look : ∀ c x, (H.set b { k with own := false }).get c = some x → ∃ y, H.get c = some y ∧ (x.own = true → y.own = true) ∧ (∀ l, BSat μ y l w → BSat μ x l w) := by
      intro c x hx
      rw [AH.get_set] at hx
      by_cases e : c = b
      · rw [if_pos e] at hx; cases hx; subst e; exact ⟨k, hk, fun e => by simp at e, fun l q => q.ro⟩
      · rw [if_neg e] at hx; exact ⟨x, hx, id, fun l q => q⟩
    refine ⟨⟨s.fresh, fun c x hx => ?_, fun c c' x x' l l' h1 h2 hne ho g1 g2 => ?_⟩, ⟨fun _ _ => rfl, Nat.le_refl _, rfl, rfl, rfl, Nat.le_refl _, fun _ _ _ => rfl, fun c x l h1 h2 => ?_⟩⟩
    · obtain ⟨y, q1, q2, q3⟩ := look c x hx
      obtain ⟨l, r1, r2⟩ := s.blk c y q1
      exact ⟨l, r1, q3 l r2⟩
    · obtain ⟨y, q1, q2, q3⟩ := look c x h1
      obtain ⟨y', q1', q2', q3'⟩ := look c' x' h2
      exact s.sep c c' y y' l l' q1 q1' hne (q2 ho) g1 g2
    · obtain ⟨y, q1, q2, q3⟩ := look c x h1
      exact .inr ⟨c, y, l, q1, h2, rfl, q2⟩
  · exact ⟨s, Fr.refl _ _ _⟩
/-- A content without cells. -/
def AC.none0 : AC → Bool
  | .cells [] => true
  | .ints _ [] => true
  | .recs n _ => Nat.beq n 0
  | _ => false
theorem fake_ok {μ : Mu} {H : AH} {w : World} (s : Sat μ H w) {b : Nat} {k : ABlk} (hb : H.get b = some k) (ho : k.own = false) (hm : k.c.isMap = false) (st : Nat) {c : AC} (hc : c.none0 = true) :
    ∃ l, Sat (μ.add H.next l) (H.push ⟨false, st, c⟩) w ∧ Fr μ H (μ.add H.next l) (H.push ⟨false, st, c⟩) w w := by
  obtain ⟨l0, g1, g2⟩ := s.blk b k hb
  have hn := s.fresh H.next (Nat.le_refl _)
  have hle := Mu.add_le hn ⟨l0.blk, l0.off, st, 0⟩
  obtain ⟨_, C, t, fz, h1, _, _⟩ := g2.holds (fun es e => by rw [e] at hm; cases hm)
  have hblt := s.lt g1
  refine ⟨⟨l0.blk, l0.off, st, 0⟩, ⟨fun d hd => ?_, fun d x hx => ?_, fun d d' x x' l l' e1 e2 hne hk f1 f2 => ?_⟩, ⟨fun d hd => ?_, Nat.le_succ _, rfl, rfl, rfl, Nat.le_refl _, fun _ _ _ => rfl, fun d x l e1 e2 => ?_⟩⟩
  · have : H.next + 1 ≤ d := hd
    unfold Mu.add
    rw [if_neg (by omega)]
    exact s.fresh d (by omega)
  · rw [AH.get_push] at hx
    by_cases e : d = H.next
    · rw [if_pos e] at hx
      cases hx
      refine ⟨⟨l0.blk, l0.off, st, 0⟩, if_pos e, BSat.of_holds (fz := fz) rfl h1 (fun e => by simp at e) ⟨fun es e => by (subst e; simp [AC.none0] at hc), fun i j hi => ?_⟩⟩
      cases c with
      | cells l => cases l with
        | nil => simp [AC.inb] at hi
        | cons v l => simp [AC.none0] at hc
      | ints q l => cases l with
        | nil => simp [AC.inb] at hi
        | cons v l => simp [AC.none0] at hc
      | recs n f =>
        have := Nat.eq_of_beq_eq_true hc
        subst this
        simp [AC.inb] at hi
      | map es => simp [AC.none0] at hc
      | tr n t => simp [AC.none0] at hc
    · rw [if_neg e] at hx
      obtain ⟨l, q1, q2⟩ := s.blk d x hx
      exact ⟨l, hle _ _ q1, q2.move hle rfl⟩
  · rw [AH.get_push] at e1 e2
    unfold Mu.add at f1 f2
    by_cases e : d = H.next
    · rw [if_pos e] at e1; cases e1; simp at hk
    · rw [if_neg e] at e1 f1
      by_cases e' : d' = H.next
      · rw [if_pos e'] at f2; cases f2
        by_cases hdb : d = b
        · subst hdb
          rw [hb] at e1; cases e1
          rw [ho] at hk; cases hk
        · exact s.sep d b x k l l0 e1 hb hdb hk f1 g1
      · rw [if_neg e'] at e2 f2; exact s.sep d d' x x' l l' e1 e2 hne hk f1 f2
  · unfold Mu.add; rw [if_neg (by omega)]
  · rw [AH.get_push] at e1
    unfold Mu.add at e2
    by_cases e : d = H.next
    · rw [if_pos e] at e1 e2; cases e1; cases e2; exact .inr ⟨b, k, l0, hb, g1, rfl, fun e => by simp at e⟩
    · rw [if_neg e] at e1 e2; exact .inr ⟨d, x, l, e1, e2, rfl, id⟩
/-- A slice that may be nil; for nil itself a row without cells where block fk lies. -/
def looseOne (fk st : Nat) (c : AC) (v : AV) (H : AH) : AV × AH :=
  match v with
  | .sl b k j n c' _ => (.msl b k j n c', H.ro b)
  | .nils => match H.get fk with
    | some k => bif !k.own && !k.c.isMap && c.none0 then (.msl H.next 0 0 0 0, H.push ⟨false, st, c⟩) else (v, H)
    | none => (v, H)
  | _ => (v, H)
theorem looseOne_ok {μ : Mu} {H : AH} {w : World} {fk st : Nat} {c : AC} {v : AV} {x : Value} (hv : VRel μ v x) (s : Sat μ H w) : ∃ μ', VRel μ' (looseOne fk st c v H).1 x ∧ Sat μ' (looseOne fk st c v H).2 w ∧ Fr μ H μ' (looseOne fk st c v H).2 w w := by
  unfold looseOne
  split
  · rename_i b k j n c' ex
    obtain ⟨s1, f1⟩ := ro_ok s b
    obtain ⟨l, A, c2, h1, h2, h3, h4, h5, h6, h7⟩ := hv
    exact ⟨μ, .inr ⟨l, A, c2, h1, h2, h3, h4, h6⟩, s1, f1⟩
  · split
    · rename_i k hk
      rcases hb : (!k.own && !k.c.isMap && c.none0) with _ | _
      · exact ⟨μ, hv, s, Fr.refl _ _ _⟩
      · simp only [Bool.and_eq_true, Bool.not_eq_true'] at hb
        obtain ⟨l, s1, f1⟩ := fake_ok s hk hb.1.1 hb.1.2 st hb.2
        exact ⟨_, .inl ⟨hv, rfl, rfl⟩, s1, f1⟩
    · exact ⟨μ, hv, s, Fr.refl _ _ _⟩
  · exact ⟨μ, hv, s, Fr.refl _ _ _⟩
def looseCs (fk : Nat) : List (Nat × Nat × AC) → List AV → AH → List AV × AH
  | [], cs, H => (cs, H)
  | (i, st, c) :: l, cs, H => match looseOne fk st c (cs.getD i .any) H with
    | (v, H') => looseCs fk l (cs.set i v) H'
theorem looseCs_ok {fk : Nat} {w : World} {xs : List Value} : ∀ (l : List (Nat × Nat × AC)) {μ : Mu} {H : AH} {cs : List AV}, VRels μ cs xs → Sat μ H w → ∃ μ', VRels μ' (looseCs fk l cs H).1 xs ∧ Sat μ' (looseCs fk l cs H).2 w ∧ Fr μ H μ' (looseCs fk l cs H).2 w w
  | [], μ, H, cs, hv, s => ⟨μ, hv, s, Fr.refl _ _ _⟩
  | (i, st, c) :: l, μ, H, cs, hv, s => by
    rcases hx : xs[i]? with _ | x
    · -- the place is not there
      have hc : cs[i]? = none := by rw [List.getElem?_eq_none_iff] at *; rw [hv.len]; exact hx
      have e1 : cs.getD i .any = .any := by rw [List.getD_eq_getElem?_getD, hc]; rfl
      have e2 : ∀ v, cs.set i v = cs := fun v => List.set_eq_of_length_le (by rw [List.getElem?_eq_none_iff] at hc; exact hc)
      have e3 : looseOne fk st c (cs.getD i .any) H = (.any, H) := by rw [e1]; rfl
      simp only [looseCs, e3, e2]
      exact looseCs_ok l hv s
    · have h1 := hv.get i x hx
      obtain ⟨μ1, q1, q2, q3⟩ := looseOne_ok (fk := fk) (st := st) (c := c) h1 s
      have hv1 : VRels μ1 (cs.set i (looseOne fk st c (cs.getD i .any) H).1) xs := by
        have := (VRels.ext (q3.ext s) _ _ hv).set i q1
        have e : xs.set i x = xs := by
          refine List.ext_getElem? fun j => ?_
          rw [List.getElem?_set]
          split
          · rename_i e
            subst e
            rw [hx]
            split
            · rfl
            · rename_i hlt
              rw [List.getElem?_eq_none (by omega)] at hx
              cases hx
          · rfl
        rwa [e] at this
      obtain ⟨μ2, g1, g2, g3⟩ := looseCs_ok l (cs := cs.set i (looseOne fk st c (cs.getD i .any) H).1) hv1 q2
      exact ⟨μ2, g1, g2, q3.trans g3⟩
/-- The first argument, a row by value: its slices. -/
def looseArgs (at_ : Nat) (spec : List (Nat × Nat × AC)) : List AV → AH → Option (List AV × AH)
  | .agg cs :: as, H => match cs.getD at_ .any with
    | .sl b _ _ _ _ _ => match looseCs b spec cs H with
      | (cs', H') => some (.agg cs' :: as, H')
    | .msl b _ _ _ _ => match looseCs b spec cs H with
      | (cs', H') => some (.agg cs' :: as, H')
    | _ => none
  | .sl b k j n c ex :: as, H => some (.msl b k j n c :: as, H.ro b)
  | _, _ => none
theorem looseArgs_ok {at_ : Nat} {spec : List (Nat × Nat × AC)} {as as' : List AV} {H H' : AH} (h : looseArgs at_ spec as H = some (as', H')) {μ : Mu} {w : World} {xs : List Value} (hv : VRels μ as xs) (s : Sat μ H w) : ∃ μ', VRels μ' as' xs ∧ Sat μ' H' w ∧ Fr μ H μ' H' w w := by
  have go : ∀ b cs as xs, VRels μ (.agg cs :: as) xs → ∃ μ', VRels μ' (.agg (looseCs b spec cs H).1 :: as) xs ∧ Sat μ' (looseCs b spec cs H).2 w ∧ Fr μ H μ' (looseCs b spec cs H).2 w w := by
    intro b cs as xs hv
    cases xs with
    | nil => exact hv.elim
    | cons x xs =>
      obtain ⟨⟨cs', rfl, h1⟩, h2⟩ := hv
      obtain ⟨μ1, q1, q2, q3⟩ := looseCs_ok (fk := b) spec h1 s
      exact ⟨μ1, ⟨⟨cs', rfl, q1⟩, VRels.ext (q3.ext s) _ _ h2⟩, q2, q3⟩
  unfold looseArgs at h
  split at h
  · rename_i cs as
    split at h
    · cases h; exact go _ _ _ _ hv
    · cases h; exact go _ _ _ _ hv
    · cases h
  · rename_i b k j n c ex as
    cases h
    cases xs with
    | nil => exact hv.elim
    | cons x xs =>
      obtain ⟨⟨l, A, c2, h1, h2, h3, h4, h5, h6, h7⟩, hr⟩ := hv
      obtain ⟨s1, f1⟩ := ro_ok s b
      exact ⟨μ, ⟨.inr ⟨l, A, c2, h1, h2, h3, h4, h6⟩, hr⟩, s1, f1⟩
  · cases h
/-- A summary, its arguments told more loosely. -/
def looseK (f : FuncId) (at_ : Nat) (spec : List (Nat × Nat × AC)) (base : OrcK) : OrcK := fun g as H K =>
  bif Nat.beq g f then match looseArgs at_ spec as H with
    | some (as', H') => base g as' H' K
    | none => none else none
theorem looseK_ok {P : Program} {f : FuncId} {at_ : Nat} {spec : List (Nat × Nat × AC)} {base : OrcK} (hb : OrcKOK P base) : OrcKOK P (looseK f at_ spec base) := by
  intro g as H K p h hp
  unfold looseK at h
  cases hf : Nat.beq g f
  · rw [hf] at h; cases h
  · rw [hf] at h
    simp only [cond_true] at h
    split at h
    · rename_i as' H' hl
      intro μ w vs hv s
      obtain ⟨μ1, q1, q2, q3⟩ := looseArgs_ok hl hv s
      refine Calls.mono (hb g as' H' K p h hp μ1 w vs q1 q2) (fun e w' hq => ?_)
      obtain ⟨out, H2, μ2, k1, k2, k3, k4⟩ := hq
      refine ⟨out, H2, μ2, k1, k2, k3, (q3.fw (Nat.le_refl _)).trans ⟨fun b hb => k4.le b (Nat.lt_of_lt_of_le hb q3.nx), Nat.le_trans q3.nx k4.nx, k4.os, k4.tape, k4.output, k4.size, k4.same, k4.from_⟩⟩
    · cases h
/-- A contract that asks no less and says no more. -/
theorem Con.OK.to {X Y X' Y' : Type} {P : Program} {c : Con X Y} {c' : Con X' Y'} (h : c.OK P) (g : X' → X) (hf : c'.f = c.f) (hp : ∀ x, c'.pre x → c.pre (g x)) (ha : ∀ x, c'.args x = c.args (g x)) (hL : ∀ x, AH.of c'.n0 (c'.L0 x) = AH.of c.n0 (c.L0 (g x)))
    (ho : ∀ x, c'.pre x → ∀ out H, anyOut (c.outs (g x)) out H → anyOut (c'.outs x) out H) : c'.OK P := fun x hx => by
  rw [hf, ha, hL]
  exact RunsK.mono (h (g x) (hp x hx)) (ho x hx)
end
end Go.Eng
