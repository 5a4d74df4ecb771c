/- The engine, thirty-ninth part: a quick evaluator for known values: code, functions. -/
import Derived.Test.YtieikjgfndojpaaGreatEn35
namespace Go.Eng
open Go Go.RowKit
set_option linter.unusedVariables false
set_option linter.unusedSimpArgs false
noncomputable section
def seqK (b : CB) (call : CallQ) (Q : KV) : KV := fun x s H => @AX.casesOn (fun _ => Prop) x (b.go call s H Q) (fun id => Q (.exit id) s H) (fun l => Q (.goto l) s H) (Q .ret s H) (fun v => Q (.panic v) s H)
def blkK (id : Nat) (Q : KV) : KV := fun x s H => @AX.casesOn (fun _ => Prop) x (Q .normal s H) (fun i => @Bool.rec (fun _ => Prop) (Q (.exit i) s H) (Q .normal s H) (Nat.beq i id)) (fun l => Q (.goto l) s H) (Q .ret s H) (fun v => Q (.panic v) s H)
def scpK (Q : KV) : KV := fun x s H => @AX.casesOn (fun _ => Prop) x (Q .normal s H) (fun i => Q (.exit i) s H) (fun l => False) (Q .ret s H) (fun v => Q (.panic v) s H)
def loopK (r : XC1) (call : CallQ) (Q : KV) : KV := fun x s H => @AX.casesOn (fun _ => Prop) x (r call s H Q) (fun id => Q (.exit id) s H) (fun l => Q (.goto l) s H) (Q .ret s H) (fun v => Q (.panic v) s H)
def loopQ (b : CB) (m : Nat) : XC1 := @Nat.rec (fun _ => XC1) (fun _ _ _ _ => False) (fun _ r call s H Q => b.go call s H (loopK r call Q)) m
def condQ (c : Operand) (a b : CB) : CB :=
  match c with
  | .tmp d => ⟨fun call s H Q => VT.getC (pathOf d) s fun v => asB v fun q => @Bool.rec (fun _ => Prop) (b.go call s H Q) (a.go call s H Q) q⟩
  | .const (.bool true) => a
  | .const (.bool false) => b
  | _ => ⟨fun _ _ _ _ => False⟩
def xC (P : Program) (n m : Nat) (c : Code) : CB := @Code.rec (fun _ => CB)
  ⟨fun _ s H Q => Q .normal s H⟩
  (fun _ ops d => @Bool.rec (fun _ => CB) (xOps P n ops ops.toList) (drawQ P n ops) d)
  (fun _ _ a b => ⟨fun call s H Q => a.go call s H (seqK b call Q)⟩)
  (fun o _ _ a b => condQ o a b)
  (fun id _ a => ⟨fun call s H Q => a.go call s H (blkK id Q)⟩)
  (fun _ a => ⟨fun call s H Q => loopQ a m call s H Q⟩)
  (fun _ _ _ _ _ _ => ⟨fun _ _ _ _ => False⟩)
  (fun id => ⟨fun _ s H Q => Q (.exit id) s H⟩)
  (fun _ a => ⟨fun call s H Q => a.go call s H (scpK Q)⟩)
  (fun _ => ⟨fun _ s H Q => Q .normal s H⟩)
  (fun l => ⟨fun _ s H Q => Q (.goto l) s H⟩)
  ⟨fun _ s H Q => Q .ret s H⟩
  (fun _ => ⟨fun _ _ _ _ => False⟩) c
theorem loopQ_ok {P : Program} {n B : Nat} {call : CallQ} {c : Code} {b : CB} (ih : ∀ {Q : Post} {K : KV} {ts : List AV} {s : VT} {H : AH}, SRV n ts s → b.go call s H K → (∀ x ts' s' H', SRV n ts' s' → K x s' H' → Q x ts' H') → Tri P B c ts H Q) :
    ∀ (m : Nat) {Q : Post} {K : KV} {ts : List AV} {s : VT} {H : AH}, SRV n ts s → loopQ b m call s H K → (∀ x ts' s' H', SRV n ts' s' → K x s' H' → Q x ts' H') → TriL P B c m ts H Q
  | 0, Q, K, ts, s, H, hs, h, q => h.elim
  | m + 1, Q, K, ts, s, H, hs, h, q => by
    have h1 : b.go call s H (loopK (loopQ b m) call K) := h
    refine TriL.round (ih hs h1 (fun x ts1 s1 H1 hs1 h2 => ?_))
    cases x with
    | normal => exact loopQ_ok ih m hs1 h2 q
    | _ => exact q _ _ _ _ hs1 h2
theorem xC_ok {P : Program} (hm : P.follows .mixedOrders = true) {n m B : Nat} {call : CallQ} (hc : CallQOK P call) (c : Code) : ∀ {Q : Post} {K : KV} {ts : List AV} {s : VT} {H : AH}, SRV n ts s → (xC P n m c).go call s H K → (∀ x ts' s' H', SRV n ts' s' → K x s' H' → Q x ts' H') → Tri P B c ts H Q := by
  induction c with
  | skip => intro Q K ts s H hs h q; exact Tri.skip (q _ _ _ _ hs h)
  | label l => intro Q K ts s H hs h q; exact Tri.label (q _ _ _ _ hs h)
  | ret => intro Q K ts s H hs h q; exact Tri.ret (q _ _ _ _ hs h)
  | exit id => intro Q K ts s H hs h q; exact Tri.exit (q _ _ _ _ hs h)
  | goto l => intro Q K ts s H hs h q; exact Tri.goto (q _ _ _ _ hs h)
  | refuse w => intro Q K ts s H hs h q; exact h.elim
  | rangeFunc f ps a b _ _ => intro Q K ts s H hs h q; exact h.elim
  | region id ops d =>
    intro Q K ts s H hs h q
    cases d with
    | false => exact Tri.region (xOps_ok hc q _ hs h)
    | true => exact drawQ_ok hm hc hs h q
  | seq a b iha ihb =>
    intro Q K ts s H hs h q
    have h1 : (xC P n m a).go call s H (seqK (xC P n m b) call K) := h
    refine Tri.seq (iha hs h1 (fun x ts1 s1 H1 hs1 h2 => ?_))
    cases x with
    | normal => exact ihb hs1 h2 q
    | _ => exact q _ _ _ _ hs1 h2
  | cond o a b iha ihb =>
    intro Q K ts s H hs h q
    have h : (condQ o (xC P n m a) (xC P n m b)).go call s H K := h
    cases o with
    | tmp d =>
      have h1 := VT.getC_of (p := pathOf d) (t := s) h
      obtain ⟨b0, e1, h2⟩ := asB_of h1
      have e1 : s.at d = .bool b0 := e1
      have hbt : boolAt ts (.tmp d) = some b0 := by
        rw [boolAtG_eq, hs.get]
        simp [boolAtG, e1]
      refine Tri.cond b0 hbt (fun e => ?_) (fun e => ?_)
      · subst e; exact iha hs h2 q
      · subst e; exact ihb hs h2 q
    | const v =>
      cases v with
      | bool b0 =>
        have hbt : boolAt ts (.const (.bool b0)) = some b0 := rfl
        refine Tri.cond b0 hbt (fun e => ?_) (fun e => ?_)
        · subst e; exact iha hs h q
        · subst e; exact ihb hs h q
      | _ => exact h.elim
    | _ => exact h.elim
  | block id a ih =>
    intro Q K ts s H hs h q
    have h1 : (xC P n m a).go call s H (blkK id K) := h
    refine Tri.block (ih hs h1 (fun x ts1 s1 H1 hs1 h2 => ?_))
    cases x with
    | exit i =>
      simp only [blockX]
      have h2 : @Bool.rec (fun _ => Prop) (K (.exit i) s1 H1) (K .normal s1 H1) (Nat.beq i id) := h2
      rcases hb : Nat.beq i id with _ | _
      · rw [hb] at h2
        rw [if_neg (fun e => by rw [e] at hb; simp at hb)]
        exact q _ _ _ _ hs1 h2
      · rw [hb] at h2
        rw [if_pos (Nat.eq_of_beq_eq_true hb)]
        exact q _ _ _ _ hs1 h2
    | _ => exact q _ _ _ _ hs1 h2
  | scope a ih =>
    intro Q K ts s H hs h q
    have h1 : (xC P n m a).go call s H (scpK K) := h
    refine Tri.scope (ih hs h1 (fun x ts1 s1 H1 hs1 h2 => ?_))
    cases x with
    | goto i => exact h2.elim
    | _ => exact q _ _ _ _ hs1 h2
  | loop a ih =>
    intro Q K ts s H hs h q
    have h1 : loopQ (xC P n m a) m call s H K := h
    exact TriL.loop (loopQ_ok ih m hs h1 q)
/-! ### results -/
def res1 (P : Program) (r : ResultVar) : OXp :=
  match r with
  | .tmp t => ⟨fun s _ f => VT.getC (pathOf t) s f⟩
  | .cell t ty => match aggSz P ty with
    | some none => ⟨fun s H f => VT.getC (pathOf t) s fun v => asP v fun b k j => getB H b fun y => rdCell y k j f⟩
    | some (some n) => ⟨fun s H f => VT.getC (pathOf t) s fun v => asP v fun b k j => getB H b fun y => rdCells y k j n fun l => f (.agg l)⟩
    | none => ⟨fun _ _ _ => False⟩
def OXp.go (b : OXp) : EXp := fun s H f => @OXp.rec (fun _ => Prop) (fun e => e s H f) b
theorem res1_of {P : Program} {r : ResultVar} {s : VT} {H : AH} {f : AV → Prop} (h : (res1 P r).go s H f) : ∃ v, resOneG P s.at H r = some (v, true) ∧ f v := by
  cases r with
  | tmp t => exact ⟨_, rfl, VT.getC_of (p := pathOf t) h⟩
  | cell t ty =>
    unfold res1 at h
    simp only [] at h
    split at h
    · rename_i hz
      have h1 := VT.getC_of (p := pathOf t) h
      obtain ⟨b, k, j, e1, h2⟩ := asP_of h1
      obtain ⟨y, e2, h3⟩ := getB_of h2
      obtain ⟨h4, h5⟩ := rdCell_of h3
      have e1 : s.at t = .ptr b k j := e1
      refine ⟨_, ?_, h5⟩
      simp only [resOneG, e1, e2, hz, h4]
    · rename_i n hz
      have h1 := VT.getC_of (p := pathOf t) h
      obtain ⟨b, k, j, e1, h2⟩ := asP_of h1
      obtain ⟨y, e2, h3⟩ := getB_of h2
      obtain ⟨h4, h5⟩ := rdCells_of (f := fun l => f (.agg l)) h3
      have e1 : s.at t = .ptr b k j := e1
      refine ⟨_, ?_, h5⟩
      simp only [resOneG, e1, e2, hz, h4]
    · exact h.elim
def resC (P : Program) (rs : List ResultVar) : VT → AH → (List AV → Prop) → Prop := @List.rec ResultVar (fun _ => VT → AH → (List AV → Prop) → Prop) (fun _ _ f => f []) (fun r _ ih s H f => (res1 P r).go s H fun v => ih s H fun vs => f (v :: vs)) rs
theorem resC_of {P : Program} {s : VT} {H : AH} : ∀ {rs : List ResultVar} {f : List AV → Prop}, resC P rs s H f → ∃ vs, resListG P s.at H rs = some (vs, true) ∧ f vs
  | [], f, h => ⟨_, rfl, h⟩
  | r :: rs, f, h => by
    obtain ⟨v, h1, h2⟩ := res1_of (show (res1 P r).go s H fun v => resC P rs s H fun vs => f (v :: vs) from h)
    obtain ⟨vs, h3, h4⟩ := resC_of (rs := rs) (f := fun vs => f (v :: vs)) h2
    refine ⟨_, ?_, h4⟩
    rw [resListG, h1, h3]
    rfl
def oneC (vs : List AV) (f : AV → Prop) : Prop := @List.casesOn AV (fun _ => Prop) vs (f (.tup [])) (fun v l => @List.casesOn AV (fun _ => Prop) l (f v) (fun _ _ => f (.tup vs)))
theorem oneC_of {vs : List AV} {f : AV → Prop} (h : oneC vs f) : f (oneOf vs) := by
  cases vs with
  | nil => exact h
  | cons v l => cases l <;> exact h
def finQ (P : Program) (rs : List ResultVar) (K : AOut → AH → Prop) : KV := fun x s H => @AX.casesOn (fun _ => Prop) x (resC P rs s H fun vs => oneC vs fun v => K (.ret v) H) (fun _ => False) (fun _ => False) (resC P rs s H fun vs => oneC vs fun v => K (.ret v) H) (fun v => K (.panic v) H)
/-! ### functions -/
inductive FB where
  | mk (e : CallQ → List AV → AH → (AOut → AH → Prop) → Prop)
def fbox (P : Program) (spc : FuncId → Option FB) (m : Nat) (f : FuncId) : FB :=
  match spc f with
  | some b => b
  | none => match P.funcs[f]? with
    | none => ⟨fun _ _ _ _ => False⟩
    | some fn => match fn.body with
      | none => ⟨fun _ _ _ _ => False⟩
      | some c => ⟨fun call as H K => chk (Nat.ble (lenC as) fn.ntmps) (fillC as 0 .e fun s => (xC P fn.ntmps m c).go call s H (finQ P fn.results.toList K))⟩
def FB.go (b : FB) (call : CallQ) (as : List AV) (H : AH) (K : AOut → AH → Prop) : Prop := @FB.rec (fun _ => Prop) (fun e => e call as H K) b
def FBOK (P : Program) (f : FuncId) (b : FB) : Prop := ∀ call as H K, CallQOK P call → b.go call as H K → RunsK P f as H K
def SpcOK (P : Program) (spc : FuncId → Option FB) : Prop := ∀ f b, spc f = some b → FBOK P f b
def xF (P : Program) (spc : FuncId → Option FB) (m d : Nat) : CallQ := @Nat.rec (fun _ => CallQ) (fun _ _ _ _ => False) (fun _ ih f as H K => (fbox P spc m f).go ih as H K) d
theorem SRV.start {as : List AV} {n : Nat} {s : VT} (h : as.length ≤ n) (hs : ∀ i, s.at i = if 0 ≤ i ∧ i < 0 + as.length then as.getD (i - 0) .any else VT.at .e i) : SRV n (as ++ List.replicate (n - as.length) .any) s where
  len := by simp; omega
  get := by
    funext c
    rw [hs, VT.at_e]
    simp only [Nat.zero_le, true_and, Nat.zero_add, Nat.sub_zero, List.getD_eq_getElem?_getD]
    by_cases e : c < as.length
    · rw [if_pos e, List.getElem?_append_left e]
    · rw [if_neg e, List.getElem?_append_right (by omega), List.getElem?_replicate]
      split <;> rfl
theorem finQ_ok {P : Program} {fn : Func} {K : AOut → AH → Prop} {n : Nat} : ∀ x ts' s' H', SRV n ts' s' → finQ P fn.results.toList K x s' H' → bodyK P fn K x ts' H' := by
  intro x ts s H hs h
  have fin : (resC P fn.results.toList s H fun vs => oneC vs fun v => K (.ret v) H) → ∃ v, resOf P fn ts H = some (v, true) ∧ K (.ret v) H := by
    intro h
    obtain ⟨vs, h1, h2⟩ := resC_of h
    refine ⟨_, ?_, oneC_of (f := fun v => K (.ret v) H) h2⟩
    rw [resOfG_eq, hs.get, resOfG, h1]
  cases x with
  | normal => exact fin h
  | ret => exact fin h
  | panic v => exact h
  | exit i => exact h.elim
  | goto i => exact h.elim
theorem fbox_ok {P : Program} (hm : P.follows .mixedOrders = true) {spc : FuncId → Option FB} (hs : SpcOK P spc) (m : Nat) (f : FuncId) : FBOK P f (fbox P spc m f) := by
  intro call as H K hc h
  unfold fbox at h
  split at h
  · rename_i b hb
    exact hs f b hb call as H K hc h
  · split at h
    · exact h.elim
    · rename_i fn hf
      split at h
      · exact h.elim
      · rename_i c hb
        obtain ⟨h1, h2⟩ := chk_of h
        rw [lenC_eq] at h1
        obtain ⟨s, h3, h4⟩ := fillC_of (f := fun s => (xC P fn.ntmps m c).go call s H (finQ P fn.results.toList K)) h2
        exact RunsK.body hf hb (xC_ok hm hc c (SRV.start (Nat.le_of_ble_eq_true h1) h4) h3 finQ_ok)
theorem xF_ok {P : Program} (hm : P.follows .mixedOrders = true) {spc : FuncId → Option FB} (hs : SpcOK P spc) (m : Nat) : ∀ d, CallQOK P (xF P spc m d)
  | 0, f, as, H, K, h => h.elim
  | d + 1, f, as, H, K, h => fbox_ok hm hs m f (xF P spc m d) as H K (xF_ok hm hs m d) h
def noSpc : FuncId → Option FB := fun _ => none
theorem noSpc_ok (P : Program) : SpcOK P noSpc := fun f b h => by cases h
end
end Go.Eng
