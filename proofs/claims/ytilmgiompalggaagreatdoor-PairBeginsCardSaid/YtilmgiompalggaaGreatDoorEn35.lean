/- The engine, forty-fifth part: a call that is shown by itself, used wherever it stands. -/
import Derived.Test.YtilmgiompalggaaGreatDoorEn33
import Derived.Test.YtilmgiompalggaaGreatDoorEn31
import Derived.Test.YtilmgiompalggaaGreatDoorEn18
import Derived.Test.YtilmgiompalggaaGreatDoorEn17
namespace Go.Eng
open Go Go.RowKit
set_option linter.unusedVariables false
set_option linter.unusedSimpArgs false
noncomputable section
/-- A call without arguments that comes to a bool. -/
def constB (b : Bool) : FB := ⟨fun call args H K => @List.rec AV (fun _ => Prop) (K (.ret (.bool b)) H) (fun _ _ _ => False) args⟩
theorem Sat.none (w : World) : Sat (fun _ => none) ⟨0, .e⟩ w := ⟨fun _ _ => rfl, (fun b k hk => by simp [AH.get, T.get] at hk), (fun b b' k k' l l' hk => by simp [AH.get, T.get] at hk)⟩
theorem VRels.none {μ : Mu} {l : List Value} (h : VRels μ [] l) : VRels (fun _ => Option.none) [] l := by cases l <;> first | trivial | exact h.elim
theorem constB_ok {P : Program} {f : FuncId} {b : Bool} (h : RunsK P f [] ⟨0, .e⟩ (fun out _ => out = .ret (.bool b))) : FBOK P f (constB b) := by
  intro call args H K hc hk μ w vs hv s
  cases args with
  | cons a l => exact hk.elim
  | nil =>
    have hk : K (.ret (.bool b)) H := hk
    refine Calls.mono (h (fun _ => none) w vs (VRels.none hv) (Sat.none w)) (fun e w' hq => ?_)
    obtain ⟨out, H', μ', rfl, k2, k3, k4⟩ := hq
    have same : ∀ k, k < w.heap.size → w'.heap[k]? = w.heap[k]? := fun k hk => k4.same k hk (fun b x l hb => by simp [AH.get, T.get] at hb)
    refine ⟨_, H, μ, hk, ?_, s.besides (fun b x l hb hl => ?_), ⟨fun _ _ => rfl, Nat.le_refl _, k4.os, k4.tape, k4.output, k4.size, fun k hk _ => same k hk, fun b x l h1 h2 => .inr ⟨b, x, l, h1, h2, rfl, id⟩⟩⟩
    · obtain ⟨x, rfl, hx⟩ := k2
      exact ⟨x, rfl, hx⟩
    · obtain ⟨l', q1, q2⟩ := s.blk b x hb
      rw [hl] at q1; cases q1
      exact same _ q2.blk_lt
end
end Go.Eng
/- The engine, forty-sixth part: a long run cut in stages: a call at a known state that comes to a known state. -/
namespace Go.Eng
open Go Go.RowKit
set_option linter.unusedVariables false
set_option linter.unusedSimpArgs false
noncomputable section
def intsB : List Int → List Int → Bool
  | [], [] => true
  | a :: l, b :: m => decide (a = b) && intsB l m
  | _, _ => false
theorem intsB_ok : ∀ (l m : List Int), intsB l m = true → l = m
  | [], [], _ => rfl
  | a :: l, b :: m, h => by
    simp only [intsB, Bool.and_eq_true, decide_eq_true_eq] at h
    rw [h.1, intsB_ok l m h.2]
  | [], _ :: _, h => by cases h
  | _ :: _, [], h => by cases h
def VT.eqB : VT → VT → Bool
  | .e, .e => true
  | .n l x r, .n l' x' r' => VT.eqB l l' && (AV.eqB x x' && VT.eqB r r')
  | _, _ => false
theorem VT.eqB_ok : ∀ (s t : VT), VT.eqB s t = true → s = t
  | .e, .e, _ => rfl
  | .n l x r, .n l' x' r', h => by
    simp only [VT.eqB, Bool.and_eq_true] at h
    rw [VT.eqB_ok l l' h.1, AV.eqB_ok x x' h.2.1, VT.eqB_ok r r' h.2.2]
  | .e, .n _ _ _, h => by cases h
  | .n _ _ _, .e, h => by cases h
def AC.eqB : AC → AC → Bool
  | .cells l, .cells m => AV.eqsB l m
  | .ints q xs, .ints p ys => decide (q = p) && intsB xs ys
  | .map es, .map fs => AV.eqsB (es.map (·.1)) (fs.map (·.1)) && AV.eqsB (es.map (·.2)) (fs.map (·.2))
  | .tr n t, .tr m u => Nat.beq n m && VT.eqB t u
  | _, _ => false
theorem pairs_eq {α β : Type} : ∀ {l m : List (α × β)}, l.map (·.1) = m.map (·.1) → l.map (·.2) = m.map (·.2) → l = m
  | [], [], _, _ => rfl
  | (a, b) :: l, (c, d) :: m, h, g => by
    simp only [List.map_cons, List.cons.injEq] at h g
    rw [h.1, g.1, pairs_eq h.2 g.2]
  | [], _ :: _, h, _ => by simp at h
  | _ :: _, [], h, _ => by simp at h
theorem AC.eqB_ok : ∀ (a b : AC), AC.eqB a b = true → a = b := by
  intro a b h
  unfold AC.eqB at h
  split at h
  · rw [AV.eqsB_ok _ _ h]
  · simp only [Bool.and_eq_true, decide_eq_true_eq] at h
    rw [h.1, intsB_ok _ _ h.2]
  · rw [Bool.and_eq_true] at h
    rw [pairs_eq (AV.eqsB_ok _ _ h.1) (AV.eqsB_ok _ _ h.2)]
  · rw [Bool.and_eq_true] at h
    rw [Nat.eq_of_beq_eq_true h.1, VT.eqB_ok _ _ h.2]
  · cases h
def boolB : Bool → Bool → Bool
  | true, true => true
  | false, false => true
  | _, _ => false
theorem boolB_ok : ∀ (a b : Bool), boolB a b = true → a = b
  | true, true, _ => rfl
  | false, false, _ => rfl
  | true, false, h => by cases h
  | false, true, h => by cases h
def ABlk.eqB (a b : ABlk) : Bool := boolB a.own b.own && (Nat.beq a.st b.st && AC.eqB a.c b.c)
theorem ABlk.eqB_ok (a b : ABlk) (h : ABlk.eqB a b = true) : a = b := by
  obtain ⟨o, s, c⟩ := a
  obtain ⟨o', s', c'⟩ := b
  simp only [ABlk.eqB, Bool.and_eq_true] at h
  rw [boolB_ok _ _ h.1, Nat.eq_of_beq_eq_true h.2.1, AC.eqB_ok _ _ h.2.2]
def oblkB : Option ABlk → Option ABlk → Bool
  | some a, some b => ABlk.eqB a b
  | none, none => true
  | _, _ => false
theorem oblkB_ok : ∀ (a b : Option ABlk), oblkB a b = true → a = b
  | some a, some b, h => by rw [ABlk.eqB_ok a b h]
  | none, none, _ => rfl
  | some _, none, h => by cases h
  | none, some _, h => by cases h
def T.eqB : T → T → Bool
  | .e, .e => true
  | .n l x r, .n l' x' r' => T.eqB l l' && (oblkB x x' && T.eqB r r')
  | _, _ => false
theorem T.eqB_ok : ∀ (s t : T), T.eqB s t = true → s = t
  | .e, .e, _ => rfl
  | .n l x r, .n l' x' r', h => by
    simp only [T.eqB, Bool.and_eq_true] at h
    rw [T.eqB_ok l l' h.1, oblkB_ok x x' h.2.1, T.eqB_ok r r' h.2.2]
  | .e, .n _ _ _, h => by cases h
  | .n _ _ _, .e, h => by cases h
def AH.eqB (H G : AH) : Bool := Nat.beq H.next G.next && T.eqB H.t G.t
theorem AH.eqB_ok (H G : AH) (h : AH.eqB H G = true) : H = G := by
  obtain ⟨n, t⟩ := H
  obtain ⟨m, u⟩ := G
  simp only [AH.eqB, Bool.and_eq_true] at h
  rw [Nat.eq_of_beq_eq_true h.1, T.eqB_ok _ _ h.2]
def AOut.eqB : AOut → AOut → Bool
  | .ret v, .ret u => AV.eqB v u
  | .panic v, .panic u => AV.eqB v u
  | _, _ => false
theorem AOut.eqB_ok : ∀ (a b : AOut), AOut.eqB a b = true → a = b
  | .ret v, .ret u, h => by rw [AV.eqB_ok _ _ h]
  | .panic v, .panic u, h => by rw [AV.eqB_ok _ _ h]
  | .ret _, .panic _, h => by cases h
  | .panic _, .ret _, h => by cases h
/-- It has come to that. -/
def atS (o1 : AOut) (H1 : AH) (out : AOut) (H : AH) : Prop := chk (AOut.eqB out o1) (chk (AH.eqB H H1) True)
/-- A stage: at just these arguments and this heap the call comes to just that. -/
def stgB (args0 : List AV) (H0 : AH) (o1 : AOut) (H1 : AH) : FB := ⟨fun call args H K => chk (AV.eqsB args args0) (chk (AH.eqB H H0) (frH H1 fun H => K o1 H))⟩
theorem stgB_ok {P : Program} {f : FuncId} {args0 : List AV} {H0 : AH} {o1 : AOut} {H1 : AH} (h : RunsK P f args0 H0 (atS o1 H1)) : FBOK P f (stgB args0 H0 o1 H1) := by
  intro call args H K hc hk
  obtain ⟨h1, hk⟩ := chk_of hk
  obtain ⟨h2, hk⟩ := chk_of hk
  rw [AV.eqsB_ok _ _ h1, AH.eqB_ok _ _ h2]
  have hk := frH_of (f := fun H => K o1 H) hk
  refine RunsK.mono h (fun out H' q => ?_)
  obtain ⟨q1, q⟩ := chk_of q
  obtain ⟨q2, _⟩ := chk_of q
  rw [AOut.eqB_ok _ _ q1, AH.eqB_ok _ _ q2]
  exact hk
end
end Go.Eng
/- The engine, forty-seventh part: conditions of regions that draw, with operations that make blocks done late. -/
namespace Go.Eng
open Go Go.RowKit
set_option linter.unusedVariables false
set_option linter.unusedSimpArgs false
noncomputable section
def takeA (ops : Array Oper) (A : List LB) (i : Nat) : Bool := A.all fun e => !Nat.beq e.a i && (!(waitsFor ops ops.size e.a).contains i && !isDst ops e.d i)
def pureI (P : Program) (ops : Array Oper) (i : Nat) : Bool := match ops[i]? with
  | some o => match (compB P).go o with
    | some c => isPure (c.hint 0)
    | none => false
  | none => true
theorem pureI_of {P : Program} {ops : Array Oper} {i : Nat} (h : pureI P ops i = true) : PureAt P ops i := by
  intro o ho
  unfold pureI at h
  rw [ho] at h
  simp only [] at h
  split at h
  · rename_i c hc
    rw [compB_eq] at hc
    exact ⟨c, hc, h⟩
  · cases h
/-- As drS; what makes a block may be put off. -/
def drL (S : SPf) (P : Program) (call : OrcK) (n : Nat) (ops : Array Oper) (Q : Post) : Nat → List LB → List Nat → List Nat → List AV → AH → Prop
  | 0, _, _, _, _, _ => False
  | f + 1, A, M, L, ts, H => match readyF ops A L with
    | [] => match A with
      | [] => bif (List.range ops.size).all (fun j => L.contains j) then validS S P ops M ts H (Q .normal ts H) M else False
      | _ :: _ => bif (lateOK ops L (A.map fun e : LB => e.a) [] && apartOK P ops M (A.map fun e : LB => e.d)) && M.all (pureI P ops) then
          validS S P ops M ts H (drL S P call n ops Q f [] (lateM ops A M) ((A.map fun e : LB => e.a) ++ L) (tsL (canon A (H.next + A.length)) ts) (HL (canon A (H.next + A.length)) (H.keeps (A.length + A.length)))) M else False
    | j :: js => takeS S P ops H
      (fun i v ts => bif L.contains i || !takeA ops A i then False else drL S P call n ops Q f A (i :: M) (i :: L) (putT ts (dstOf ops i) v) H)
      (fun ts => match js, ops[j]? with
        | [], some o => match A with
          | [] => splitG S ops o ts (fun ts => validS S P ops M ts H (effS S P call ops Q o (scrub ops (besides ops M j) ts) H (fun v H' => drL S P call n ops Q f [] (besides ops M j) (j :: L) (putT ts (dstOf ops j) v) H')) M)
          | _ :: _ => bif (lateOK ops L (A.map fun e : LB => e.a) [j] && apartOK P ops M (A.map fun e : LB => e.d)) && (M.all (pureI P ops) && A.all fun e => !isDst ops e.d j) then
              splitG S ops o ts (fun ts => validS S P ops M ts H (effS S P call ops (fun _ _ _ => False) o (scrub ops (besides ops M j) ts) (H.keeps A.length) (fun v H' => drL S P call n ops Q f A (besides ops M j) (j :: L) (putT ts (dstOf ops j) v) H')) M) else False
        | _, _ => match lateOf P n ops A M (j :: js) with
          | some e => drL S P call n ops Q f (e :: A) M L (putT ts (some e.d) .any) H
          | none => False) (j :: js) ts
theorem takeA_of {ops : Array Oper} {A : List LB} {i : Nat} (h : takeA ops A i = true) : ∀ e ∈ A, e.a ≠ i ∧ (waitsFor ops ops.size e.a).contains i = false ∧ dstOf ops i ≠ some e.d := fun e he => by
  have := List.all_eq_true.1 h e he
  simp only [Bool.and_eq_true, Bool.not_eq_true'] at this
  exact ⟨Nat.ne_of_beq_eq_false this.1, this.2.1, isDst_no this.2.2⟩
theorem drL_ok {P : Program} {call : OrcK} (hc : OrcKOK P call) {B n : Nat} {ops : Array Oper} (hbk : backB ops = true) {Q : Post} : ∀ (f : Nat) {A : List LB} {M L : List Nat} {ts : List AV} {H : AH}, AOK P n ops A → ts.length = n → (∀ e ∈ A, ts.getD e.d .any = .any) → drL sp P call n ops Q f A M L ts H → DG P B ops A M L ts H Q
  | 0, A, M, L, ts, H, ok, hn, ha, h => h.elim
  | f + 1, A, M, L, ts, H, ok, hn, ha, h => by
    unfold drL at h
    split at h
    · rename_i hr
      split at h
      · rcases hv : ((List.range ops.size).all (fun j => L.contains j)) with _ | _
        · rw [hv] at h; exact h.elim
        · rw [hv] at h
          obtain ⟨h1, h2⟩ := validS_ok h
          exact DG.of (DA.fin ⟨hv, hbk⟩ h1 h2) rfl
      · rename_i e A
        rcases hb : ((lateOK ops L ((e :: A).map fun e : LB => e.a) [] && apartOK P ops M ((e :: A).map fun e : LB => e.d)) && M.all (pureI P ops)) with _ | _
        · rw [hb] at h; exact h.elim
        · rw [hb] at h
          simp only [Bool.and_eq_true] at hb
          obtain ⟨⟨b1, b2⟩, b3⟩ := hb
          obtain ⟨h1, h2⟩ := validS_ok h
          refine DG.commit ok hn hbk b1 b2 (fun k hk => pureI_of (List.all_eq_true.1 b3 k hk)) h1 (fun _ => ?_)
          rw [lateM_eq, LL_canon]
          exact DG.da (drL_ok hc hbk f aok_nil (by rw [tsL_len]; exact hn) (fun _ q => by cases q) h2)
    · rename_i j js hr
      rcases takeS_ok _ h with ⟨i, v, h⟩ | h
      · rcases hl : (L.contains i || !takeA ops A i) with _ | _
        · rw [hl] at h
          rw [Bool.or_eq_false_iff] at hl
          have hA := takeA_of (by simpa using hl.2)
          exact DG.take i v hl.1 hA (drL_ok hc hbk f ok (by rw [putT_len]; exact hn) (putT_any ha (fun e he => (hA e he).2.2)) h)
        · rw [hl] at h; exact h.elim
      · split at h
        · rename_i o hr ho _
          split at h
          · rw [readyF_nil] at hr
            have h := splitG_ok h
            obtain ⟨h1, h2⟩ := validS_ok h
            refine DG.of (DA.exec [j] ⟨hr, rfl, hbk⟩ h1 ⟨?_, trivial⟩) rfl
            exact OpJ.monoK (effS_ok hc ho h2) (fun v H' q => DG.da (drL_ok hc hbk f aok_nil (by rw [putT_len]; exact hn) (fun _ q => by cases q) q))
          · rename_i e A _
            rcases hb : ((lateOK ops L ((e :: A).map fun e : LB => e.a) [j] && apartOK P ops M ((e :: A).map fun e : LB => e.d)) && (M.all (pureI P ops) && (e :: A).all fun e => !isDst ops e.d j)) with _ | _
            · rw [hb] at h; exact h.elim
            · rw [hb] at h
              simp only [Bool.and_eq_true] at hb
              obtain ⟨⟨b1, b2⟩, b3, b4⟩ := hb
              have hd : ∀ x ∈ e :: A, dstOf ops j ≠ some x.d := fun x hx => isDst_no (by simpa using List.all_eq_true.1 b4 x hx)
              simp only [cond_true] at h
              have h := splitG_ok h
              obtain ⟨h1, h2⟩ := validS_ok h
              refine DG.exec ok hbk b1 b2 hd ha (fun k hk => pureI_of (List.all_eq_true.1 b3 k hk)) h1 ?_
              exact OpJ.monoK (effS_ok hc ho h2) (fun v H' q => drL_ok hc hbk f ok (by rw [putT_len]; exact hn) (putT_any ha hd) q)
        · split at h
          · rename_i e he
            obtain ⟨q1, q2, q3, q4⟩ := lateOf_of he
            have hd : ∀ x ∈ A, some e.d ≠ some x.d := fun x hx q => q3 (List.mem_map.2 ⟨x, hx, (Option.some.inj q).symm⟩)
            refine DG.defer (drL_ok hc hbk f ⟨fun x hx => ?_, ?_, ?_⟩ (by rw [putT_len]; exact hn) (fun x hx => ?_) h)
            · rcases List.mem_cons.1 hx with rfl | hx
              · exact q1
              · exact ok.adf x hx
            · rw [List.map_cons, List.nodup_cons]; exact ⟨q2, ok.nda⟩
            · rw [List.map_cons, List.nodup_cons]; exact ⟨q3, ok.ndd⟩
            · rcases List.mem_cons.1 hx with rfl | hx
              · rw [putT_get, if_pos ⟨rfl, by rw [hn]; exact q1.lt⟩]
              · exact putT_any ha hd x hx
          · exact h.elim
/-- A region that draws, slots in a tree. -/
def drLK (S : SPf) (P : Program) (call : OrcK) : DroK := fun n ops s H K =>
  bif backB ops then drL S P call n ops (fun x ts' H' => bif Nat.beq ts'.length n then K x (SL.lay ts' 0 (SL.mk 10)) H' else False) (3 * ops.size + 1) [] [] [] ((List.range n).map s.get) H else False
theorem drLK_ok {P : Program} (hm : P.follows .mixedOrders = true) (call : OrcK) (hc : OrcKOK P call) : DroKOK P (drLK sp P call) := by
  intro B id n ops ts s H K Q hs h q
  have hts : (List.range n).map s.get = ts := by
    rw [← hs.get]
    refine List.ext_getElem? fun i => ?_
    rw [List.getElem?_map]
    by_cases e : i < n
    · rw [List.getElem?_range e]
      simp only [Option.map_some, List.getD_eq_getElem?_getD]
      rw [List.getElem?_eq_getElem (by rw [hs.len]; exact e)]
      rfl
    · rw [List.getElem?_eq_none (by simp; omega), List.getElem?_eq_none (by rw [hs.len]; omega)]
      rfl
  unfold drLK at h
  rw [hts] at h
  rcases hb : backB ops with _ | _
  · rw [hb] at h; exact h.elim
  · rw [hb] at h
    simp only [cond_true] at h
    refine Tri.mono (Tri.drawn hm (DG.da (drL_ok hc hb _ aok_nil hs.len (fun _ q => by cases q) h))) (fun x ts1 H1 h1 => ?_)
    rcases hl : Nat.beq ts1.length n with _ | _
    · rw [hl] at h1; exact h1.elim
    · rw [hl] at h1
      have hn := Nat.eq_of_beq_eq_true hl
      refine q x ts1 _ H1 ?_ h1
      have := SR.start (as := ts1) (n := n) (by omega) hs.small
      rwa [show n - ts1.length = 0 by omega, List.replicate_zero, List.append_nil] at this
def drPL (S : SPf) (P : Program) (call : OrcK) : DroK := fun n ops s H K =>
  bif seqOK P n ops then drP S P call n ops s H K else drLK S P call n ops s H K
theorem drPL_ok {P : Program} (hm : P.follows .mixedOrders = true) (call : OrcK) (hc : OrcKOK P call) : DroKOK P (drPL sp P call) := by
  intro B id n ops ts s H K Q hs h q
  unfold drPL at h
  rcases hb : seqOK P n ops with _ | _
  · rw [hb] at h
    exact drLK_ok hm call hc B id n ops ts s H K Q hs h q
  · rw [hb] at h
    exact drP_ok hm call hc B id n ops ts s H K Q hs h q
theorem Con.byL' {X Y : Type} {P : Program} (hm : P.follows .mixedOrders = true) {lo : FuncId → LoK} (hl : ∀ f, LoKOK P (lo f)) {base : OrcK} (hb : OrcKOK P base) {m n : Nat} {c : Con X Y} (p : X → Prop) (h : ∀ x, some (p x) = c.cond sp P (drPL sp P) lo base m n x) (hp : ∀ x, c.pre x → p x) : c.OK P :=
  Con.ok_of (fun x hx => vF_ok (fun c hc => drPL_ok hm c hc) hl hb m n c.f _ _ _ _ (h x).symm (hp x hx))
end
end Go.Eng
/- The engine, forty-eighth part: loops that come to one of many ends. -/
namespace Go.Eng
open Go Go.RowKit
set_option linter.unusedVariables false
set_option linter.unusedSimpArgs false
noncomputable section
structure LpE (ι π κ : Type) where
  B : Nat
  n : Nat
  code : Code
  fit : SL → AH → Option ι
  pre : ι → Prop
  slots : ι → Slots
  nx : ι → Nat
  L : ι → LH
  m : ι → Nat
  par : ι → π
  post : π → κ → Prop
  out : π → κ → LOut
  sh : ι → ι := fun i => i
def LpE.OK {ι π κ : Type} (P : Program) (c : LpE ι π κ) : Prop := c.n < 1023 ∧ ∀ i, c.pre i → Tri P c.B (.loop c.code) (layL c.n (c.slots i)) (AH.of (c.nx i) (c.L i)) (fun x ts H => ∃ y, c.post (c.par i) y ∧ WeakX c.B c.n x ts H (c.out (c.par i) y))
/-- A round's end. -/
def LpE.rnd {ι π κ : Type} (S : SPf) (c : LpE ι π κ) (i : ι) : KT := fun x s H =>
  match x with
  | .normal => ∃ j, c.pre (c.sh j) ∧ c.m (c.sh j) < c.m i ∧ c.par (c.sh j) = c.par i ∧ wkS S c.B c.n s H (c.slots (c.sh j)) (c.nx (c.sh j)) (c.L (c.sh j))
  | x => ∃ y, c.post (c.par i) y ∧ wkX S c.B c.n x s H (c.out (c.par i) y)
def LpE.body {ι π κ : Type} (S : SPf) (P : Program) (call : OrcK) (dr : DroK) (lo : LoK) (c : LpE ι π κ) (m : Nat) (i : ι) : Prop :=
  vC S P call dr lo c.B c.n m false c.code (layS c.n (c.slots i)) (AH.of (c.nx i) (c.L i)) (c.rnd S i)
theorem LpE.ok_of {ι π κ : Type} {P : Program} {call : OrcK} (hc : OrcKOK P call) {dr : DroK} (hd : DroKOK P dr) {lo : LoK} (hl : LoKOK P lo) {c : LpE ι π κ} (hn : c.n < 1023) (m : Nat) (h : ∀ i, c.pre i → c.body sp P call dr lo m i) : c.OK P := by
  refine ⟨hn, fun i hi => ?_⟩
  exact Tri.loop (P := P) (B := c.B) (c := c.code) (ι := {j : ι // c.pre j ∧ c.par j = c.par i}) (fun j => layL c.n (c.slots j.1)) (fun j => AH.of (c.nx j.1) (c.L j.1)) (fun j => c.m j.1) (Q := fun x ts H => ∃ y, c.post (c.par i) y ∧ WeakX c.B c.n x ts H (c.out (c.par i) y))
    (fun j => by
      refine (vC_ok hc hd hl (B := c.B) (k := c.n) m).1 c.code (lay_SR hn _) (h j.1 j.2.1) (fun x ts' s' H' hs' hk => ?_)
      have ex : x ≠ .normal → ∃ y, c.post (c.par i) y ∧ WeakX c.B c.n x ts' H' (c.out (c.par i) y) := by
        intro hx
        have hk2 : ∃ y, c.post (c.par j.1) y ∧ wkX sp c.B c.n x s' H' (c.out (c.par j.1) y) := by
          unfold LpE.rnd at hk
          cases x <;> first | exact (hx rfl).elim | exact hk
        obtain ⟨y, h1, h2⟩ := hk2
        rw [j.2.2] at h1 h2
        exact ⟨y, h1, wkX_ok hs' h2⟩
      cases x with
      | normal =>
        obtain ⟨j2, k0, k1, k2, k3⟩ := hk
        exact ⟨⟨c.sh j2, k0, k2.trans j.2.2⟩, k1, wkS_ok hs' k3⟩
      | _ => exact ex (by simp)) ⟨i, hi, rfl⟩
/-- Its summary. -/
def LpE.lo {ι π κ : Type} (S : SPf) (P : Program) (id : Code → Bool) (nm : Code) (c : LpE ι π κ) : LoK := fun B n cd s H K =>
  bif id cd then match c.fit s H with
    | some i => some (same cd nm ∧ c.pre i ∧ S (Nat.beq B c.B && Nat.beq n c.n) (wkS S B n s H (c.slots i) (c.nx i) (c.L i) ∧ ∀ y, c.post (c.par i) y → K (c.out (c.par i) y).x (layS n (c.out (c.par i) y).slots) (AH.of (c.out (c.par i) y).n (c.out (c.par i) y).L)) False)
    | none => none else none
theorem LpE.lo_ok {ι π κ : Type} {P : Program} {id : Code → Bool} {nm : Code} {c : LpE ι π κ} (hc : c.OK P) (hnm : nm = c.code) : LoKOK P (c.lo sp P id nm) := by
  intro B n cd ts s H K p Q hs h hp q
  unfold LpE.lo at h
  rcases hi : id cd with _ | _
  · rw [hi] at h; cases h
  · rw [hi] at h
    simp only [cond_true] at h
    split at h
    · rename_i i hf
      cases h
      obtain ⟨h1, h0, h2⟩ := hp
      obtain ⟨g1, g2⟩ := sp_iff.1 h2
      rcases hb : (Nat.beq B c.B && Nat.beq n c.n) with _ | _
      · exact (g2 hb).elim
      · obtain ⟨k1, k2⟩ := g1 hb
        simp only [Bool.and_eq_true] at hb
        have e1 := Nat.eq_of_beq_eq_true hb.1
        have e2 := Nat.eq_of_beq_eq_true hb.2
        subst e1 e2
        have e3 : cd = c.code := h1.trans hnm
        subst e3
        refine Tri.weak (wkS_ok hs k1) (Tri.weakPost (n := c.n) (hc.2 i h0) (fun x ts1 H1 ⟨y, p1, p2⟩ => ?_))
        exact ⟨_, p2, q _ _ _ _ (lay_SR hc.1 _) (k2 y p1)⟩
    · cases h
end
end Go.Eng
/- The engine, forty-ninth part: loops that come to one of many kinds of ends. -/
namespace Go.Eng
open Go Go.RowKit
set_option linter.unusedVariables false
set_option linter.unusedSimpArgs false
noncomputable section
structure LpM (ι π κ : Type) where
  B : Nat
  n : Nat
  code : Code
  fit : SL → AH → Option ι
  pre : ι → Prop
  slots : ι → Slots
  nx : ι → Nat
  L : ι → LH
  m : ι → Nat
  par : ι → π
  outs : π → List ((κ → Prop) × (κ → LOut))
  sh : ι → ι → ι := fun _ j => j
def anyX {κ : Type} (B n : Nat) (x : AX) (ts : List AV) (H : AH) (l : List ((κ → Prop) × (κ → LOut))) : Prop := ∃ p ∈ l, ∃ y, p.1 y ∧ WeakX B n x ts H (p.2 y)
def LpM.OK {ι π κ : Type} (P : Program) (c : LpM ι π κ) : Prop := c.n < 1023 ∧ ∀ i, c.pre i → Tri P c.B (.loop c.code) (layL c.n (c.slots i)) (AH.of (c.nx i) (c.L i)) (fun x ts H => anyX c.B c.n x ts H (c.outs (c.par i)))
def disjX {κ : Type} (S : SPf) (B n : Nat) (x : AX) (s : SL) (H : AH) : List ((κ → Prop) × (κ → LOut)) → Prop
  | [] => False
  | [p] => ∃ y, p.1 y ∧ wkX S B n x s H (p.2 y)
  | p :: l => (∃ y, p.1 y ∧ wkX S B n x s H (p.2 y)) ∨ disjX S B n x s H l
theorem disjX_ok {κ : Type} {B n : Nat} {x : AX} {ts : List AV} {s : SL} {H : AH} (hs : SR n ts s) : ∀ {l : List ((κ → Prop) × (κ → LOut))}, disjX sp B n x s H l → anyX B n x ts H l
  | [], h => h.elim
  | [p], ⟨y, h1, h2⟩ => ⟨p, List.mem_cons_self .., y, h1, wkX_ok hs h2⟩
  | p :: q :: l, h => by
    rcases h with ⟨y, h1, h2⟩ | h
    · exact ⟨p, List.mem_cons_self .., y, h1, wkX_ok hs h2⟩
    · obtain ⟨p', h1, h2⟩ := disjX_ok hs h
      exact ⟨p', List.mem_cons_of_mem _ h1, h2⟩
/-- A round's end. -/
def LpM.rnd {ι π κ : Type} (S : SPf) (c : LpM ι π κ) (i : ι) : KT := fun x s H =>
  match x with
  | .normal => ∃ j, c.pre (c.sh i j) ∧ c.m (c.sh i j) < c.m i ∧ c.par (c.sh i j) = c.par i ∧ wkS S c.B c.n s H (c.slots (c.sh i j)) (c.nx (c.sh i j)) (c.L (c.sh i j))
  | x => disjX S c.B c.n x s H (c.outs (c.par i))
def LpM.body {ι π κ : Type} (S : SPf) (P : Program) (call : OrcK) (dr : DroK) (lo : LoK) (c : LpM ι π κ) (m : Nat) (i : ι) : Prop :=
  vC S P call dr lo c.B c.n m false c.code (layS c.n (c.slots i)) (AH.of (c.nx i) (c.L i)) (c.rnd S i)
theorem LpM.ok_of {ι π κ : Type} {P : Program} {call : OrcK} (hc : OrcKOK P call) {dr : DroK} (hd : DroKOK P dr) {lo : LoK} (hl : LoKOK P lo) {c : LpM ι π κ} (hn : c.n < 1023) (m : Nat) (h : ∀ i, c.pre i → c.body sp P call dr lo m i) : c.OK P := by
  refine ⟨hn, fun i hi => ?_⟩
  exact Tri.loop (P := P) (B := c.B) (c := c.code) (ι := {j : ι // c.pre j ∧ c.par j = c.par i}) (fun j => layL c.n (c.slots j.1)) (fun j => AH.of (c.nx j.1) (c.L j.1)) (fun j => c.m j.1) (Q := fun x ts H => anyX c.B c.n x ts H (c.outs (c.par i)))
    (fun j => by
      refine (vC_ok hc hd hl (B := c.B) (k := c.n) m).1 c.code (lay_SR hn _) (h j.1 j.2.1) (fun x ts' s' H' hs' hk => ?_)
      have ex : x ≠ .normal → anyX c.B c.n x ts' H' (c.outs (c.par i)) := by
        intro hx
        have hk2 : disjX sp c.B c.n x s' H' (c.outs (c.par j.1)) := by
          unfold LpM.rnd at hk
          cases x <;> first | exact (hx rfl).elim | exact hk
        rw [j.2.2] at hk2
        exact disjX_ok hs' hk2
      cases x with
      | normal =>
        obtain ⟨j2, k0, k1, k2, k3⟩ := hk
        exact ⟨⟨c.sh j.1 j2, k0, k2.trans j.2.2⟩, k1, wkS_ok hs' k3⟩
      | _ => exact ex (by simp)) ⟨i, hi, rfl⟩
def conjX {κ : Type} (n : Nat) (K : KT) : List ((κ → Prop) × (κ → LOut)) → Prop
  | [] => True
  | [p] => ∀ y, p.1 y → K (p.2 y).x (layS n (p.2 y).slots) (AH.of (p.2 y).n (p.2 y).L)
  | p :: l => (∀ y, p.1 y → K (p.2 y).x (layS n (p.2 y).slots) (AH.of (p.2 y).n (p.2 y).L)) ∧ conjX n K l
theorem conjX_mem {κ : Type} {n : Nat} {K : KT} : ∀ {l : List ((κ → Prop) × (κ → LOut))}, conjX n K l → ∀ p ∈ l, ∀ y, p.1 y → K (p.2 y).x (layS n (p.2 y).slots) (AH.of (p.2 y).n (p.2 y).L)
  | [], _, _, hp => by cases hp
  | [q], h, p, hp => by
    rcases List.mem_cons.1 hp with rfl | hp
    · exact h
    · cases hp
  | q :: r :: l, h, p, hp => by
    rcases List.mem_cons.1 hp with rfl | hp
    · exact h.1
    · exact conjX_mem h.2 p hp
/-- Its summary. -/
def LpM.lo {ι π κ : Type} (S : SPf) (P : Program) (id : Code → Bool) (nm : Code) (c : LpM ι π κ) : LoK := fun B n cd s H K =>
  bif id cd then match c.fit s H with
    | some i => some (same cd nm ∧ c.pre i ∧ S (Nat.beq B c.B && Nat.beq n c.n) (wkS S B n s H (c.slots i) (c.nx i) (c.L i) ∧ conjX n K (c.outs (c.par i))) False)
    | none => none else none
theorem LpM.lo_ok {ι π κ : Type} {P : Program} {id : Code → Bool} {nm : Code} {c : LpM ι π κ} (hc : c.OK P) (hnm : nm = c.code) : LoKOK P (c.lo sp P id nm) := by
  intro B n cd ts s H K p Q hs h hp q
  unfold LpM.lo at h
  rcases hi : id cd with _ | _
  · rw [hi] at h; cases h
  · rw [hi] at h
    simp only [cond_true] at h
    split at h
    · rename_i i hf
      cases h
      obtain ⟨h1, h0, h2⟩ := hp
      obtain ⟨g1, g2⟩ := sp_iff.1 h2
      rcases hb : (Nat.beq B c.B && Nat.beq n c.n) with _ | _
      · exact (g2 hb).elim
      · obtain ⟨k1, k2⟩ := g1 hb
        simp only [Bool.and_eq_true] at hb
        have e1 := Nat.eq_of_beq_eq_true hb.1
        have e2 := Nat.eq_of_beq_eq_true hb.2
        subst e1 e2
        have e3 : cd = c.code := h1.trans hnm
        subst e3
        refine Tri.weak (wkS_ok hs k1) (Tri.weakPost (n := c.n) (hc.2 i h0) (fun x ts1 H1 ⟨o, ho, y, p1, p2⟩ => ?_))
        exact ⟨_, p2, q _ _ _ _ (lay_SR hc.1 _) (conjX_mem k2 o ho y p1)⟩
    · cases h
end
end Go.Eng
/- The engine, fifty-first part: a long run cut in stages, where what is not reached any more is let go. -/
namespace Go.Eng
open Go Go.RowKit
set_option linter.unusedVariables false
set_option linter.unusedSimpArgs false
noncomputable section
/-- Which numbers stand for which, in trees and maps too. -/
def VT.mt : VT → VT → List (Nat × Nat) → List (Nat × Nat)
  | .n l' x' r', .n l x r, acc => VT.mt r' r (AV.mt x' x (VT.mt l' l acc))
  | _, _, acc => acc
def mtC : AC → AC → List (Nat × Nat) → List (Nat × Nat)
  | .cells a, .cells b, acc => AV.mts a b acc
  | .tr _ a, .tr _ b, acc => VT.mt a b acc
  | .map es, .map fs, acc => AV.mts (es.map (·.2)) (fs.map (·.2)) (AV.mts (es.map (·.1)) (fs.map (·.1)) acc)
  | _, _, acc => acc
def mtH (H : AH) : LH → List (Nat × Nat) → List (Nat × Nat)
  | [], l => l
  | (b', k') :: L, l => match look l b' with
    | some b => match H.get b with
      | some k => mtH H L (mtC k'.c k.c l)
      | none => mtH H L l
    | none => mtH H L l
/-- A stage: a function, its arguments, what they reach; what it comes to. -/
structure Stg where
  f : FuncId
  n0 : Nat
  ars : List AV
  L0 : LH
  o : AOut
  n1 : Nat
  L1 : LH
def Stg.con (c : Stg) : Con Unit Unit where
  f := c.f
  fit _ _ := none
  n0 := c.n0
  pre _ := True
  args _ := c.ars
  L0 _ := c.L0
  outs _ := [(fun _ => True, fun _ => (c.o, c.n1, c.L1))]
def blksB (σ : Nat → Nat) (H : AH) : LH → Bool
  | [] => true
  | p :: l => oblkB (H.get (σ p.1)) (some (p.2.ren σ)) && blksB σ H l
theorem blksB_ok {σ : Nat → Nat} {H : AH} : ∀ {l : LH}, blksB σ H l = true → BlkOK σ H l
  | [], _ => trivial
  | p :: l, h => by
    simp only [blksB, Bool.and_eq_true] at h
    exact ⟨oblkB_ok _ _ h.1, blksB_ok h.2⟩
theorem blkEq_refl : ∀ (k : ABlk), blkEq (some k) k := by
  intro k
  unfold blkEq
  obtain ⟨o, s, c⟩ := k
  cases c <;> first | rfl | exact ⟨rfl, rfl, rfl, fun _ _ => rfl⟩
theorem BlkEq_of {σ : Nat → Nat} {H : AH} : ∀ {l : LH}, BlkOK σ H l → BlkEq σ H l
  | [], _ => trivial
  | p :: l, h => ⟨by rw [h.1]; exact blkEq_refl _, BlkEq_of h.2⟩
/-- The end is as it is told. -/
def stgE (n0 : Nat) (v : AV) (H : AH) (v' : AV) (n1 : Nat) (L1 : LH) : Bool :=
  let σ := sigOf n0 n1 (mtH H L1 (AV.mt v' v (idB n0))) H.next
  (Nat.ble σ.length n1 && Nat.ble n0 n1 && Nat.ble n0 σ.length && (List.range n0).all (fun b => Nat.beq (sig σ H.next b) b) && noDup (L1.map (fun p => sig σ H.next p.1))) && (AV.eqB v (v'.ren (sig σ H.next)) && blksB (sig σ H.next) H L1)
def Stg.at (c : Stg) (out : AOut) (H : AH) : Prop := match c.o, out with
  | .ret v', .ret v => chk (stgE c.n0 v H v' c.n1 c.L1) True
  | .panic v', .panic v => chk (stgE c.n0 v H v' c.n1 c.L1) True
  | _, _ => False
theorem weak_any {B : Nat} {vs : List AV} {H : AH} {vs' : List AV} {n' : Nat} {L' : LH} (σ : List Nat)
    (a : (Nat.ble σ.length n' && Nat.ble B n' && Nat.ble B σ.length && (List.range B).all (fun b => Nat.beq (sig σ H.next b) b) && noDup (L'.map (fun p => sig σ H.next p.1))) = true) (hl : vs'.length = vs.length)
    (g1 : vs = merge (sig σ H.next) vs' vs) (g2 : BlkEq (sig σ H.next) H L') : Weak B vs H vs' (AH.of n' L') := by
  simp only [Bool.and_eq_true] at a
  obtain ⟨⟨⟨⟨a1, a2⟩, a3⟩, a4⟩, a5⟩ := a
  intro μ w tmps r sw hB
  obtain ⟨k1, k2⟩ := weak_heap σ sw a1 a2 a4 a5 g2
  exact ⟨_, merge_rel g1.symm hl r, k1, k2⟩
theorem end_weak {n0 : Nat} {v : AV} {H : AH} {v' : AV} {n1 : Nat} {L1 : LH} (h : stgE n0 v H v' n1 L1 = true) : Weak n0 [v] H [v'] (AH.of n1 L1) := by
  unfold stgE at h
  rw [Bool.and_eq_true] at h
  obtain ⟨h1, h2⟩ := h
  rw [Bool.and_eq_true] at h2
  refine weak_any _ h1 rfl ?_ (BlkEq_of (blksB_ok h2.2))
  have e := AV.eqB_ok _ _ h2.1
  unfold merge
  generalize sigOf n0 n1 (mtH H L1 (AV.mt v' v (idB n0))) H.next = s at e ⊢
  cases v' <;> first | rfl | (show [v] = [AV.ren _ _]; rw [← e])
theorem Stg.con_ok {P : Program} {c : Stg} (h : RunsK P c.f c.ars (AH.of c.n0 c.L0) c.at) : c.con.OK P := fun x _hx μ w vs hv s =>
  Calls.mono (h μ w vs hv s) (fun e w' hq => by
    obtain ⟨out, H', μ', h1, h2, h3, h4⟩ := hq
    rw [AH.of_next] at h4
    unfold Stg.at at h1
    split at h1
    · rename_i v' v ho
      obtain ⟨h1, _⟩ := chk_of h1
      obtain ⟨x, rfl, hx⟩ := h2
      obtain ⟨μ2, q1, q2, q3⟩ := end_weak h1 μ' w' #[x] ⟨hx, trivial⟩ h3 h4.nx
      exact ⟨c.o, _, μ2, .inl ⟨(), trivial, rfl, rfl⟩, by rw [ho]; exact ⟨x, rfl, q1.1⟩, q2, by rw [AH.of_next]; exact h4.trans q3⟩
    · rename_i v' v ho
      obtain ⟨h1, _⟩ := chk_of h1
      obtain ⟨x, rfl, hx⟩ := h2
      obtain ⟨μ2, q1, q2, q3⟩ := end_weak h1 μ' w' #[x] ⟨hx, trivial⟩ h3 h4.nx
      exact ⟨c.o, _, μ2, .inl ⟨(), trivial, rfl, rfl⟩, by rw [ho]; exact ⟨x, rfl, q1.1⟩, q2, by rw [AH.of_next]; exact h4.trans q3⟩
    · exact h1.elim)
/-- The numbers of a stage, where it stands. -/
def Stg.sg (c : Stg) (args : List AV) (H : AH) : List Nat := sigOf 0 c.n0 (mtH H c.L0 (AV.mts c.ars args [])) H.next
def Stg.fits (c : Stg) (args : List AV) (H : AH) : Bool :=
  let σ := c.sg args H
  AV.eqsB args (AV.rens (sig σ H.next) c.ars) && (blksB (sig σ H.next) H c.L0 && (Nat.ble σ.length c.n0 && noDup (c.L0.map (fun p => sig σ H.next p.1)) && noDup (c.L0.map (·.1))) && noDup (c.L1.map (·.1)))
def Stg.goes (c : Stg) (args : List AV) (H : AH) (K : AOut → AH → Prop) : Prop :=
  frH (callRes (sig (c.sg args H) H.next) c.n0 c.L0 H c.n1 c.L1) fun H' => K (c.o.ren (tauB (sig (c.sg args H) H.next) c.n0 H.next)) H'
theorem Stg.goes_ok {P : Program} {c : Stg} (hc : c.con.OK P) {args : List AV} {H : AH} {K : AOut → AH → Prop} (h : c.fits args H = true) (hk : c.goes args H K) : RunsK P c.f args H K := by
  unfold Stg.fits at h
  simp only [Bool.and_eq_true] at h
  obtain ⟨h1, ⟨h2, h3⟩, h4⟩ := h
  have hk := frH_of (f := fun H' => K (c.o.ren (tauB (sig (c.sg args H) H.next) c.n0 H.next)) H') hk
  let d : Con Unit Unit := { c.con with fit := fun _ _ => some (c.sg args H, ()) }
  have hd : d.OK P := hc
  refine Con.orc_ok hd c.f args H K (True ∧ args = AV.rens (sig (c.sg args H) H.next) c.ars ∧ BlkOK (sig (c.sg args H) H.next) H c.L0 ∧ sp (Nat.ble (c.sg args H).length c.n0 && noDup (c.L0.map (fun p => sig (c.sg args H) H.next p.1)) && noDup (c.L0.map (·.1))) (casesK sp (sig (c.sg args H) H.next) c.n0 c.L0 H K (d.outs ())) False) ?_ ⟨trivial, AV.eqsB_ok _ _ h1, blksB_ok h2, ?_⟩
  · unfold Con.orc
    rw [show Nat.beq c.f d.f = true from Nat.beq_refl _]
    rfl
  · have h3' : (Nat.ble (c.sg args H).length c.n0 && noDup (c.L0.map (fun p => sig (c.sg args H) H.next p.1)) && noDup (c.L0.map (·.1))) = true := by
      simp only [Bool.and_eq_true]; exact h3
    rw [h3']
    refine ⟨fun _ _ => ?_, trivial⟩
    show sp (noDup (c.L1.map (·.1))) _ False
    rw [h4]
    exact hk
/-- The first of some stages that fits. -/
def stgs : List Stg → FB
  | [] => ⟨fun _ _ _ _ => False⟩
  | c :: l => ⟨fun call args H K => @Bool.rec (fun _ => Prop) ((stgs l).go call args H K) (c.goes args H K) (c.fits args H)⟩
theorem stgs_ok {P : Program} {f : FuncId} : ∀ {l : List Stg}, (∀ c ∈ l, c.f = f ∧ c.con.OK P) → FBOK P f (stgs l)
  | [], _ => fun call args H K _ h => by
    have h : False := h
    exact h.elim
  | c :: l, hl => fun call args H K hc h => by
    have h : @Bool.rec (fun _ => Prop) ((stgs l).go call args H K) (c.goes args H K) (c.fits args H) := h
    obtain ⟨e, ok⟩ := hl c (List.mem_cons_self ..)
    cases hb : c.fits args H with
    | true =>
      rw [hb] at h
      rw [← e]
      exact Stg.goes_ok ok hb h
    | false =>
      rw [hb] at h
      exact stgs_ok (fun c hc => hl c (List.mem_cons_of_mem _ hc)) call args H K hc h
end
end Go.Eng
namespace Go.Eng.St
open Go Go.Eng
noncomputable section
abbrev i (n : Nat) : AV := .int .i64 (.ofNat n)
abbrev u (n : Nat) : AV := .int .u32 (.ofNat n)
abbrev y (n : Nat) : AV := .int .u8 (.ofNat n)
abbrev w (n : Nat) : AV := .int .u64 (.ofNat n)
abbrev j (n : Nat) : AV := .int .i32 (.ofNat n)
abbrev e : VT := .e
abbrev n (l : VT) (x : AV) (r : VT) : VT := .n l x r
abbrev k (s : Nat) (l : List AV) : ABlk := ⟨true, s, .cells l⟩
abbrev kr (s : Nat) (l : List AV) : ABlk := ⟨false, s, .cells l⟩
end
end Go.Eng.St
