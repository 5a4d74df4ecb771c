/- The engine, twenty-fourth part: regions that draw their order, of operations that read alone. -/
import Derived.Test.YtieikjgfndojpaaGreatEn24
namespace Go.Eng
open Go Go.RowKit
set_option linter.unusedVariables false
set_option linter.unusedSimpArgs false
noncomputable section
def COp.cxs : COp → List CX
  | .mv x | .load _ x | .nilc x | .un _ x | .conv _ x | .s2a _ x | .mki _ x | .fa _ x | .fld _ _ x | .ext _ x | .lens x | .lenb x => [x]
  | .pick a b c => [a, b, c]
  | .bin _ x y | .eq _ _ x y | .ias _ x y | .iaa _ _ x y | .ixa _ _ _ x y | .ixs x y | .mm _ x y => [x, y]
  | .mkf _ a c => a ++ c
  | .sli _ x lo hi mx => x :: (lo.toList ++ hi.toList ++ mx.toList)
  | .sla _ _ x lo hi => x :: (lo.toList ++ hi.toList)
  | .pl p => p.cxs
  | .build _ ps => ps.map fun p => p.2.2
  | _ => []
theorem cfill_congr {e1 e2 : CX → AV} : ∀ (ps : List (Nat × Nat × CX)) (cs : List AV), (∀ x ∈ ps.map (fun p => p.2.2), e1 x = e2 x) → cfill e1 ps cs = cfill e2 ps cs
  | [], _, _ => rfl
  | (off, sz, x) :: ps, cs, h => by
    have h0 : e1 x = e2 x := h x (by simp)
    have ih := fun cs => cfill_congr ps cs (fun y hy => h y (by simp at hy ⊢; exact .inr hy))
    unfold cfill
    rw [h0]
    split
    · rw [ih]
    · rfl
theorem pstep_congr {e1 e2 : CX → AV} {H : AH} {p : PO} (h : ∀ x ∈ p.cxs, e1 x = e2 x) : pstep e1 H p = pstep e2 H p := by
  cases p <;> simp only [PO.cxs, List.mem_cons, List.not_mem_nil, or_false, forall_eq_or_imp, forall_eq] at h <;> first
    | (obtain ⟨h1, h2⟩ := h; simp only [pstep, h1, h2]; done)
    | (simp only [pstep, h]; done)
theorem cstep_congr {e1 e2 : CX → AV} {H : AH} {c : COp} (hp : isPure c = true) (h : ∀ x ∈ c.cxs, e1 x = e2 x) : cstep e1 H c = cstep e2 H c := by
  have om : ∀ (o : Option CX), (∀ x ∈ o.toList, e1 x = e2 x) → o.map e1 = o.map e2 := by
    intro o ho
    cases o with
    | none => rfl
    | some x => simp [ho x (by simp)]
  cases c <;> first
    | (simp [isPure] at hp; done)
    | (rename_i p; simp only [cstep, pstep_congr h]; done)
    | (rename_i z ps; simp only [cstep, cfill_congr ps z h]; done)
    | (simp only [COp.cxs, List.mem_cons, List.not_mem_nil, or_false, forall_eq_or_imp, forall_eq] at h
       first
         | (obtain ⟨h1, h2, h3⟩ := h; simp only [cstep, h1, h2, h3]; done)
         | (obtain ⟨h1, h2⟩ := h; simp only [cstep, h1, h2]; done)
         | (simp only [cstep, h]; done))
    | rfl
    | (rename_i f a c
       simp only [COp.cxs, List.mem_append] at h
       simp only [cstep]
       rw [List.map_congr_left (fun x hx => h x (.inl hx)), List.map_congr_left (fun x hx => h x (.inr hx))])
    | (rename_i es x lo hi mx
       simp only [COp.cxs, List.mem_cons, List.mem_append] at h
       simp only [cstep]
       rw [h x (.inl rfl), om lo (fun y hy => h y (.inr (.inl (.inl hy)))), om hi (fun y hy => h y (.inr (.inl (.inr hy)))), om mx (fun y hy => h y (.inr (.inr hy)))])
    | (rename_i n es x lo hi
       simp only [COp.cxs, List.mem_cons, List.mem_append] at h
       simp only [cstep]
       rw [h x (.inl rfl), om lo (fun y hy => h y (.inr (.inl hy))), om hi (fun y hy => h y (.inr (.inr hy)))])
def CX.tmps : CX → List Nat
  | .t i => [i]
  | .v _ => []
/-- The slots that an operation reads. -/
def readsOf (P : Program) (o : Oper) : List Nat :=
  match comp P o with
  | some c => ((c.hint 0).cxs.map CX.tmps).flatten
  | none => []
theorem ev_congr {ts us : List AV} {l : List CX} (h : ∀ t ∈ (l.map CX.tmps).flatten, ts.getD t .any = us.getD t .any) : ∀ x ∈ l, CX.ev ts x = CX.ev us x := by
  intro x hx
  cases x with
  | t i => exact h i (List.mem_flatten.2 ⟨[i], List.mem_map.2 ⟨_, hx, rfl⟩, by simp⟩)
  | v a => rfl
theorem stepV_congr {P : Program} {ops : Array Oper} {o : Oper} {ts us : List AV} {H : AH} {c : COp} (hg : guardOf ops o = some none) (hc : comp P o = some c) (hp : isPure (c.hint 0) = true) (h : ∀ t ∈ readsOf P o, ts.getD t .any = us.getD t .any) : stepV P ops 0 o ts H = stepV P ops 0 o us H := by
  unfold stepV
  simp only [hg, goesOn, hc]
  simp only [readsOf, hc] at h
  rw [cstep_congr hp (ev_congr h)]
theorem scrub_same (ops : Array Oper) : ∀ (js : List Nat) (ts : List AV) (t : Nat), (∀ j ∈ js, dstOf ops j ≠ some t) → (scrub ops js ts).getD t .any = ts.getD t .any
  | [], ts, t, _ => rfl
  | j :: js, ts, t, h => by
    simp only [scrub]
    rw [putT_get, if_neg (fun e => h j List.mem_cons_self e.1), scrub_same ops js _ t (fun i hi => h i (List.mem_cons_of_mem _ hi))]
/-- Each operation reads alone, what it reads of the region it waits for, and no slot is written twice. -/
def seqOK (P : Program) (n : Nat) (ops : Array Oper) : Bool :=
  backB ops && (List.range ops.size).all fun k => match ops[k]? with
    | some o => (match guardOf ops o with
      | some none => true
      | _ => false) && (match comp P o with
      | some c => isPure (c.hint 0)
      | none => false) && (match o.dst with
      | some d => Nat.blt d n && (List.range ops.size).all fun j => Nat.beq j k || !(match dstOf ops j with
        | some e => Nat.beq e d
        | none => false)
      | none => false) && (readsOf P o).all fun t => (List.range ops.size).all fun j => !(match dstOf ops j with
        | some e => Nat.beq e t
        | none => false) || (Nat.blt j k && (waitsFor ops ops.size k).contains j)
    | none => false
structure SeqAt (P : Program) (n : Nat) (ops : Array Oper) (k : Nat) (o : Oper) : Prop where
  guard : guardOf ops o = some none
  pure : ∃ c, comp P o = some c ∧ isPure (c.hint 0) = true
  dst : ∃ d, o.dst = some d ∧ d < n ∧ ∀ j, j < ops.size → j ≠ k → dstOf ops j ≠ some d
  reads : ∀ t ∈ readsOf P o, ∀ j, j < ops.size → dstOf ops j = some t → j < k ∧ (waitsFor ops ops.size k).contains j = true
theorem seqOK_at {P : Program} {n : Nat} {ops : Array Oper} (h : seqOK P n ops = true) {k : Nat} {o : Oper} (ho : ops[k]? = some o) : SeqAt P n ops k o := by
  unfold seqOK at h
  rw [Bool.and_eq_true] at h
  have hk : k < ops.size := (Array.getElem?_eq_some_iff.1 ho).1
  have h1 := List.all_eq_true.1 h.2 k (List.mem_range.2 hk)
  simp only [ho, Bool.and_eq_true] at h1
  obtain ⟨⟨⟨g1, g2⟩, g3⟩, g4⟩ := h1
  refine ⟨?_, ?_, ?_, ?_⟩
  · split at g1
    · assumption
    · cases g1
  · split at g2
    · rename_i c hc; exact ⟨c, hc, g2⟩
    · cases g2
  · split at g3
    · rename_i d hd
      rw [Bool.and_eq_true] at g3
      refine ⟨d, hd, Nat.le_of_ble_eq_true g3.1, fun j hj hne he => ?_⟩
      have := List.all_eq_true.1 g3.2 j (List.mem_range.2 hj)
      rw [he] at this
      simp [hne] at this
    · cases g3
  · intro t ht j hj he
    have := List.all_eq_true.1 (List.all_eq_true.1 g4 t ht) j (List.mem_range.2 hj)
    rw [he] at this
    simp only [Nat.beq_refl, Bool.not_true, Bool.false_or, Bool.and_eq_true] at this
    exact ⟨Nat.le_of_ble_eq_true this.1, this.2⟩
/-- One behind the other, in the text's order. -/
def seqS (S : SPf) (P : Program) (n : Nat) (H : AH) (K : SL → Prop) : List Oper → SL → Prop
  | [], s => K s
  | o :: l, s => match comp P o with
    | some c => match cstep (evG s.get) H (c.hint 0) with
      | some (v, _, ok) => S ok (seqS S P n H K l (putS n s o.dst v)) False
      | none => False
    | none => False
theorem seqS_ok {P : Program} {B n : Nat} {ops : Array Oper} {H : AH} {K : SL → Prop} {Q : Post} (hq : seqOK P n ops = true) (hbk : backB ops = true) (hK : ∀ ts s, SR n ts s → K s → Q .normal ts H) : ∀ (l : List Oper) (k : Nat) (ts : List AV) (s : SL), ops.toList = ops.toList.take k ++ l → k + l.length = ops.size → SR n ts s →
    (∀ j o, j < k → ops[j]? = some o → stepV P ops 0 o ts H = some (valAt ts o.dst, H, true)) → seqS sp P n H K l s → DA P B ops (List.range k).reverse (List.range k).reverse ts H Q
  | [], k, ts, s, hl, hk, hs, hv, h => by
    simp only [List.length_nil, Nat.add_zero] at hk
    refine DA.fin ⟨?_, hbk⟩ ?_ (hK ts s hs h)
    · rw [List.all_eq_true]
      intro j hj
      rw [← hk] at hj
      simpa using hj
    · suffices ∀ L : List Nat, ValidL P ops (List.range k).reverse ts H L from this _
      intro L
      induction L with
      | nil => trivial
      | cons j L ih =>
        refine ⟨?_, ih⟩
        unfold ValidOne
        rcases ho : ops[j]? with _ | o
        · trivial
        · simp only []
          have hj : j < k := by rw [hk]; exact (Array.getElem?_eq_some_iff.1 ho).1
          have sa := seqOK_at hq ho
          obtain ⟨c, hc, hp⟩ := sa.pure
          rw [← hv j o hj ho]
          refine stepV_congr sa.guard hc hp (fun t ht => scrub_same ops _ ts t (fun i hi he => ?_))
          unfold besides at hi
          rw [List.mem_filter] at hi
          have hik : i < ops.size := by rw [← hk]; simpa using hi.1
          have := (sa.reads t ht i hik he).2
          rw [this] at hi
          simp at hi
  | o :: l, k, ts, s, hl, hk, hs, hv, h => by
    simp only [List.length_cons] at hk
    have ho : ops[k]? = some o := by
      rw [← Array.getElem?_toList, hl, List.getElem?_append_right (by simp; omega)]
      have : min k ops.size = k := by omega
      simp [this]
    have sa := seqOK_at hq ho
    obtain ⟨c, hc, hp⟩ := sa.pure
    obtain ⟨d, hd, hdn, hdd⟩ := sa.dst
    unfold seqS at h
    rw [← hs.get, ← evG_eq] at h
    simp only [hc] at h
    split at h
    · rename_i v H1 ok hst
      obtain ⟨h1, h2⟩ := sp_iff.1 h
      have hok : ok = true := by
        cases ok
        · exact (h2 rfl).elim
        · rfl
      subst hok
      have hH := pure_heap hp hst
      subst hH
      have hdo : dstOf ops k = o.dst := by simp [dstOf, ho]
      have stepk : ∀ us : List AV, (∀ t ∈ readsOf P o, us.getD t .any = ts.getD t .any) → stepV P ops 0 o us H1 = some (v, H1, true) := by
        intro us hu
        rw [stepV_congr sa.guard hc hp hu]
        simp [stepV, sa.guard, goesOn, hc, hst]
      have rng : (List.range (k + 1)).reverse = k :: (List.range k).reverse := by rw [List.range_succ]; simp
      refine DA.take k v (by simp) ?_
      rw [← rng, hdo]
      refine seqS_ok hq hbk hK l (k + 1) (putT ts o.dst v) _ ?_ (by omega) (hs.put _ _) ?_ (h1 rfl)
      · have : ops.toList.take (k + 1) = ops.toList.take k ++ [o] := by
          rw [List.take_add_one]
          rw [show ops.toList[k]? = some o by rw [Array.getElem?_toList]; exact ho]; rfl
        rw [this, List.append_assoc]; exact hl
      · intro j oj hj hoj
        have same : ∀ t, t ≠ d → (putT ts o.dst v).getD t .any = ts.getD t .any := by
          intro t ht
          rw [putT_get, if_neg]
          rintro ⟨e, _⟩
          rw [hd] at e
          cases e
          exact ht rfl
        rcases Nat.lt_succ_iff_lt_or_eq.1 hj with hlt | hjk
        · have saj := seqOK_at hq hoj
          obtain ⟨cj, hcj, hpj⟩ := saj.pure
          obtain ⟨dj, hdj, hdjn, hdjd⟩ := saj.dst
          have e := hv j oj hlt hoj
          rw [stepV_congr (us := ts) saj.guard hcj hpj (fun t ht => same t (fun e => by
            have := (saj.reads t ht k (by omega) (by rw [hdo, hd, e])).1
            omega)), e]
          have : valAt (putT ts o.dst v) oj.dst = valAt ts oj.dst := by
            rw [hdj]
            simp only [valAt]
            refine same dj (fun e => ?_)
            exact hdjd k (by omega) (by omega) (by rw [hdo, hd, e])
          rw [this]
        · rw [hjk, ho] at hoj
          cases hoj
          rw [stepk _ (fun t ht => same t (fun e => by
            have := (sa.reads t ht k (by omega) (by rw [hdo, hd, e])).1
            omega))]
          have : valAt (putT ts o.dst v) o.dst = v := by
            rw [hd]
            simp only [valAt]
            rw [putT_get, if_pos ⟨rfl, by rw [hs.len]; exact hdn⟩]
          rw [this]
    · exact h.elim
/-- Regions that draw: those that read alone in the text's order. -/
def drP (S : SPf) (P : Program) (call : OrcK) : DroK := fun n ops s H K =>
  bif seqOK P n ops then seqS S P n H (fun s => K .normal s H) ops.toList s else drK S P call n ops s H K
theorem drP_ok {P : Program} (hm : P.follows .mixedOrders = true) (call : OrcK) (hc : OrcKOK P call) : DroKOK P (drP sp P call) := by
  intro B id n ops ts s H K Q hs h q
  unfold drP at h
  rcases hb : seqOK P n ops with _ | _
  · rw [hb] at h
    exact drK_ok hm call hc B id n ops ts s H K Q hs h q
  · rw [hb] at h
    simp only [cond_true] at h
    have hbk : backB ops = true := by
      unfold seqOK at hb
      rw [Bool.and_eq_true] at hb
      exact hb.1
    refine Tri.drawn hm ?_
    exact seqS_ok (K := fun s => K .normal s H) hb hbk (fun ts s h1 h2 => q _ _ _ _ h1 h2) ops.toList 0 ts s (by simp) (by simp) hs (fun j o hj => by omega) h
theorem Con.by {X Y : Type} {P : Program} (hm : P.follows .mixedOrders = true) {lo : FuncId → LoK} (hl : ∀ f, LoKOK P (lo f)) {base : OrcK} (hb : OrcKOK P base) {m n : Nat} {c : Con X Y} (p : X → Prop) (h : ∀ x, some (p x) = c.cond sp P (drP sp P) lo base m n x) (hp : ∀ x, c.pre x → p x) : c.OK P :=
  Con.ok_of (fun x hx => vF_ok (fun c hc => drP_ok hm c hc) hl hb m n c.f _ _ _ _ (h x).symm (hp x hx))
end
end Go.Eng
