/- The engine, thirty-eighth part, last: schedules for regions that draw, by bits. -/
import Derived.Test.YtilmgiompalggaaGreatDoorEn30
namespace Go.Eng
open Go Go.RowKit
set_option linter.unusedVariables false
set_option linter.unusedSimpArgs false
noncomputable section
def takeT (W t : Nat) (P : Program) (n : Nat) (ops : Array Oper) (M : List Nat) (i : Nat) : Bool := match ops[i]? with
  | some o => (match (compB P).go o with
    | some c => isPure (c.hint 0)
    | none => false) && (match o.dst with
    | some d => Nat.blt d n && !(readsG P ops o).contains d && M.all fun k => !isDst ops d k && (match ops[k]? with
      | some q => !(readsG P ops q).contains d
      | none => true)
    | none => false) && (fun bs : List Nat => (readsG P ops o).all fun t => bs.all fun k => !isDst ops t k) (besT W t (i :: M) i)
  | none => false
def apartT (W t : Nat) (P : Program) (ops : Array Oper) (M ds : List Nat) : Bool := M.all fun k => match ops[k]? with
  | some o => (fun bs : List Nat => (readsG P ops o).all fun t => !ds.contains t && bs.all fun j => !isDst ops t j) (besT W t M k) && ds.all fun d => !isDst ops d k
  | none => true
def lateT (W d : Nat) (L l xs : List Nat) : Bool := (subsN l).all fun S => (xs.isEmpty && l.all fun a => S.contains a) || subB (readyT W d (S ++ L)) (xs ++ l)
def readyFT (W d : Nat) (A : List LB) (L : List Nat) : List Nat := (readyT W d L).filter fun j => !(A.map fun e : LB => e.a).contains j
def takeLT (W t : Nat) (P : Program) (n : Nat) (ops : Array Oper) (A : List LB) (M L : List Nat) (i : Nat) : Bool := (!L.contains i && takeT W t P n ops M i) && A.all fun e => !Nat.beq e.a i && (!waitT W t e.a i && !isDst ops e.d i)
def lateMT (W t : Nat) (A : List LB) (M : List Nat) : List Nat := A.foldr (fun e M => besT W t M e.a) M
def lateOfT (W t : Nat) (P : Program) (n : Nat) (ops : Array Oper) (A : List LB) (M l : List Nat) : Option LB := l.findSome? fun j => match ops[j]? with
  | some o => match allocOf P ops o, o.dst with
    | some (b, pt), some d => bif Nat.blt d n && (!(A.map fun e : LB => e.a).contains j && (!(A.map fun e : LB => e.d).contains d && apartT W t P ops M [d])) then some ⟨j, d, b, pt⟩ else none
    | _, _ => none
  | none => none
section
variable {P : Program} {n B : Nat} {ops : Array Oper} {t d : Nat} {A : List LB} {M L : List Nat}
theorem takeT_eq (T : TabOK ops t d) (i : Nat) : takeT ops.size t P n ops M i = takeOK P n ops M i := by
  unfold takeT takeOK
  simp only [besT_eq T]
  rfl
theorem apartT_eq (T : TabOK ops t d) (ds : List Nat) : apartT ops.size t P ops M ds = apartOK P ops M ds := by
  unfold apartT apartOK
  simp only [besT_eq T]
  rfl
theorem lateT_eq (T : TabOK ops t d) (l xs : List Nat) : lateT ops.size d L l xs = lateOK ops L l xs := by
  unfold lateT lateOK
  simp only [readyT_eq T]
theorem readyFT_eq (T : TabOK ops t d) : readyFT ops.size d A L = readyF ops A L := by
  unfold readyFT readyF
  rw [readyT_eq T]
theorem lateMT_eq (T : TabOK ops t d) : lateMT ops.size t A M = lateM ops A M := by
  unfold lateMT lateM
  congr 1
  funext e M
  exact besT_eq T M e.a
theorem lateOfT_eq (T : TabOK ops t d) (l : List Nat) : lateOfT ops.size t P n ops A M l = lateOf P n ops A M l := by
  unfold lateOfT lateOf
  simp only [apartT_eq T]
  rfl
theorem takeLT_of (T : TabOK ops t d) {i : Nat} (h : takeLT ops.size t P n ops A M L i = true) : takeOK P n ops M i = true ∧ L.contains i = false ∧ ∀ e ∈ A, e.a ≠ i ∧ (waitsFor ops ops.size e.a).contains i = false ∧ isDst ops e.d i = false := by
  unfold takeLT at h
  rw [takeT_eq T] at h
  simp only [Bool.and_eq_true, Bool.not_eq_true', List.all_eq_true] at h
  refine ⟨h.1.2, h.1.1, fun e he => ?_⟩
  obtain ⟨q1, q2, q3⟩ := h.2 e he
  rw [waitT_eq T] at q2
  exact ⟨Nat.ne_of_beq_eq_false q1, q2, q3⟩
end
/-- What was reckoned early holds still. -/
def validQ (W t : Nat) (P : Program) (n : Nat) (ops : Array Oper) (M : List Nat) (l : List Nat) : VT → AH → Prop → Prop := @List.rec Nat (fun _ => VT → AH → Prop → Prop) (fun _ _ p => p) (fun k _ ih s H p => match ops[k]? with
  | some o => match o.dst with
    | some d => scrubC n ops (besT W t M k) s fun s1 => @OXp.rec (fun _ => Prop) (fun e => e s1 H fun v => VT.getC (pathOf d) s fun u => chk (AV.eqB v u) (ih s H p)) (pureB P ops o)
    | none => False
  | none => False) l
theorem validQ_ok {P : Program} {n : Nat} {ops : Array Oper} {t d : Nat} (T : TabOK ops t d) {M : List Nat} {ts : List AV} {s : VT} {H : AH} {p : Prop} (hs : SRV n ts s) : ∀ {l : List Nat}, (∀ k ∈ l, PureAt P ops k) → validQ ops.size t P n ops M l s H p → ValidL P ops M ts H l ∧ p
  | [], _, h => ⟨trivial, h⟩
  | k :: l, hM, h => by
    have h : (match ops[k]? with
      | some o => match o.dst with
        | some d => scrubC n ops (besT ops.size t M k) s fun s1 => @OXp.rec (fun _ => Prop) (fun e => e s1 H fun v => VT.getC (pathOf d) s fun u => chk (AV.eqB v u) (validQ ops.size t P n ops M l s H p)) (pureB P ops o)
        | none => False
      | none => False) := h
    split at h
    · rename_i o ho
      split at h
      · rename_i dd hd
        rw [besT_eq T] at h
        obtain ⟨s1, h1, h2⟩ := scrubC_of hs h
        cases he : pureB P ops o with
        | mk e =>
        rw [he] at h2
        obtain ⟨v, h3, h4⟩ := pureB_ok (f := fun v => VT.getC (pathOf dd) s fun u => chk (AV.eqB v u) (validQ ops.size t P n ops M l s H p)) (hM k List.mem_cons_self o ho) he h1 h2
        have h5 := VT.getC_of (p := pathOf dd) (t := s) h4
        obtain ⟨h6, h7⟩ := chk_of h5
        have hv := AV.eqB_ok _ _ h6
        have hd' : VT.get (pathOf dd) s = ts.getD dd .any := (congrFun hs.get dd).symm
        rw [hd'] at hv
        obtain ⟨q1, q2⟩ := validQ_ok T hs (fun x hx => hM x (List.mem_cons_of_mem _ hx)) h7
        refine ⟨⟨?_, q1⟩, q2⟩
        unfold ValidOne
        simp only [ho, hd, valAt]
        rw [h3, hv]
      · exact h.elim
    · exact h.elim
def execT (W t : Nat) (P : Program) (n : Nat) (ops : Array Oper) (M : List Nat) (j : Nat) (r : CB) : CB :=
  match ops[j]? with
  | some o => match besT W t M j with
    | [] => ⟨fun call s H Q => (effB P ops o).go call s H Q fun v H => (putQ n o.dst).go v s fun s => r.go call s H Q⟩
    | k :: ks => ⟨fun call s H Q => scrubC n ops (k :: ks) s fun s1 => (effB P ops o).go call s1 H Q fun v H => (putQ n o.dst).go v s fun s => validQ W t P n ops (k :: ks) (k :: ks) s H (r.go call s H Q)⟩
  | none => noCB
def execLT (W t : Nat) (P : Program) (n : Nat) (ops : Array Oper) (M : List Nat) (k : Nat) (j : Nat) (r : CB) : CB :=
  match ops[j]? with
  | some o => match besT W t M j with
    | [] => ⟨fun call s H Q => frH (H.keeps k) fun H => (effB P ops o).go call s H (fun _ _ _ => False) fun v H => (putQ n o.dst).go v s fun s => r.go call s H Q⟩
    | i :: is => ⟨fun call s H Q => scrubC n ops (i :: is) s fun s1 => frH (H.keeps k) fun H => (effB P ops o).go call s1 H (fun _ _ _ => False) fun v H => (putQ n o.dst).go v s fun s => validQ W t P n ops (i :: is) (i :: is) s H (r.go call s H Q)⟩
  | none => noCB
def endT (W t d : Nat) (P : Program) (n : Nat) (ops : Array Oper) (A : List LB) (M L : List Nat) (r : CB) : CB := match A with
  | [] => bif (List.range W).all (fun j => L.contains j) then ⟨fun _ s H Q => Q .normal s H⟩ else noCB
  | _ :: _ => bif lateT W d L (A.map fun e : LB => e.a) [] && apartT W t P ops M (A.map fun e : LB => e.d) then commitB n A r else noCB
def oneT (W t d : Nat) (P : Program) (n : Nat) (ops : Array Oper) (A : List LB) (M L : List Nat) (j : Nat) (r : CB) : CB := match A with
  | [] => execT W t P n ops M j r
  | _ :: _ => bif lateT W d L (A.map fun e : LB => e.a) [j] && (apartT W t P ops M (A.map fun e : LB => e.d) && A.all fun e => !isDst ops e.d j) then execLT W t P n ops M A.length j r else noCB
def schT (W t d : Nat) (P : Program) (n : Nat) (ops : Array Oper) (f : Nat) : List LB → List Nat → List Nat → CB := @Nat.rec (fun _ => List LB → List Nat → List Nat → CB) (fun _ _ _ => noCB) (fun f ih A M L => match readyFT W d A L with
  | [] => endT W t d P n ops A M L (ih [] (lateMT W t A M) ((A.map fun e : LB => e.a) ++ L))
  | j :: js => match (j :: js).find? (takeLT W t P n ops A M L) with
    | some i => takeB P n ops i (ih A (i :: M) (i :: L))
    | none => match js with
      | [] => oneT W t d P n ops A M L j (ih A (besT W t M j) (j :: L))
      | _ :: _ => match lateOfT W t P n ops A M (j :: js) with
        | some e => deferB n e.d (ih (e :: A) M L)
        | none => noCB) f
section
variable {P : Program} {n B t d : Nat} {ops : Array Oper} {call : CallQ} {K : KV} {A : List LB} {M L : List Nat} {ts : List AV} {s : VT} {H : AH} {r : CB}
theorem endT_ok (T : TabOK ops t d) (ok : AOK P n ops A) (hs : SRV n ts s) (hM : ∀ k ∈ M, PureAt P ops k) (hv : ValidL P ops M ts H M) (hr : readyF ops A L = []) (h : (endT ops.size t d P n ops A M L r).go call s H K)
    (hn : ∀ ts' s' H', SRV n ts' s' → (∀ k ∈ lateM ops A M, PureAt P ops k) → ValidL P ops (lateM ops A M) ts' H' (lateM ops A M) → r.go call s' H' K → DA P B ops (lateM ops A M) ((A.map fun e : LB => e.a) ++ L) ts' H' (postV n K)) : DG P B ops A M L ts H (postV n K) := by
  have hbk := T.bk
  unfold endT at h
  split at h
  · rcases hall : (List.range ops.size).all (fun j => L.contains j) with _ | _
    · rw [hall] at h; exact h.elim
    · rw [hall] at h
      exact DG.of (DA.fin ⟨hall, hbk⟩ hv ⟨s, hs, h⟩) rfl
  · rename_i A0 e A
    rw [lateT_eq T, apartT_eq T] at h
    rcases hb : (lateOK ops L ((e :: A).map fun e : LB => e.a) [] && apartOK P ops M ((e :: A).map fun e : LB => e.d)) with _ | _
    · rw [hb] at h; exact h.elim
    · rw [hb] at h
      rw [Bool.and_eq_true] at hb
      have h := frH_of (H := H.keeps ((e :: A).length + (e :: A).length)) (f := fun H2 => frN (H.next + (e :: A).length) fun m => commitC n (e :: A) m s H2 fun s H => r.go call s H K) h
      have h := frN_of h
      obtain ⟨s', h1, h2⟩ := commitC_of hs h
      refine DG.commit ok hs.len hbk hb.1 hb.2 hM hv (fun hv' => ?_)
      rw [lateM_eq] at hv' ⊢
      rw [LL_canon]
      refine hn _ _ _ h1 (fun k hk => ?_) hv' h2
      rw [← lateM_eq ops (e :: A) 0 M] at hk
      exact hM k (ML_sub hk)
theorem oneT_ok {j : Nat} (T : TabOK ops t d) (hc : CallQOK P call) (ok : AOK P n ops A) (hs : SRV n ts s) (ha : ∀ e ∈ A, ts.getD e.d .any = .any) (hM : ∀ k ∈ M, PureAt P ops k) (hv : ValidL P ops M ts H M) (hr : readyF ops A L = [j]) (h : (oneT ops.size t d P n ops A M L j r).go call s H K)
    (hn : ∀ ts' s' H', SRV n ts' s' → (∀ e ∈ A, ts'.getD e.d .any = .any) → (∀ k ∈ besides ops M j, PureAt P ops k) → ValidL P ops (besides ops M j) ts' H' (besides ops M j) → r.go call s' H' K → DG P B ops A (besides ops M j) (j :: L) ts' H' (postV n K)) : DG P B ops A M L ts H (postV n K) := by
  have hbk := T.bk
  unfold oneT at h
  have hM' : ∀ k ∈ besides ops M j, PureAt P ops k := fun k hk => hM k (List.mem_filter.1 hk).1
  split at h
  · rw [readyF_nil] at hr
    unfold execT at h
    split at h
    · rename_i o ho
      have hdo : dstOf ops j = o.dst := by simp [dstOf, ho]
      rw [besT_eq T] at h
      refine DG.of (DA.exec [j] ⟨hr, rfl, hbk⟩ hv ⟨?_, trivial⟩) rfl
      split at h
      · rename_i hb
        rw [hb] at hM' hn ⊢
        refine OpJ.monoK (effB_ok ho hc hs h) (fun v H' hk => ?_)
        obtain ⟨s', h3, h4⟩ := putQ_of hs hk
        exact DG.da (hn _ _ _ (by rw [hdo]; exact h3) (fun _ q => by cases q) hM' trivial h4)
      · rename_i k ks hb
        rw [hb] at hM' hn ⊢
        obtain ⟨s1, r1, r2⟩ := scrubC_of (js := k :: ks) hs h
        refine OpJ.monoK (effB_ok ho hc r1 r2) (fun v H' hk => ?_)
        obtain ⟨s', h3, h4⟩ := putQ_of hs hk
        obtain ⟨h5, h6⟩ := validQ_ok T h3 hM' h4
        exact DG.da (hn _ _ _ (by rw [hdo]; exact h3) (fun _ q => by cases q) hM' (by rw [hdo]; exact h5) h6)
    · exact h.elim
  · rename_i A0 e A
    rw [lateT_eq T, apartT_eq T] at h
    rcases hb : (lateOK ops L ((e :: A).map fun e : LB => e.a) [j] && (apartOK P ops M ((e :: A).map fun e : LB => e.d) && (e :: A).all fun e => !isDst ops e.d j)) with _ | _
    · rw [hb] at h; exact h.elim
    · rw [hb] at h
      have h : (execLT ops.size t P n ops M (e :: A).length j r).go call s H K := h
      simp only [Bool.and_eq_true, List.all_eq_true, Bool.not_eq_true'] at hb
      obtain ⟨b1, b2, b3⟩ := hb
      have hd : ∀ x ∈ e :: A, dstOf ops j ≠ some x.d := fun x hx => isDst_no (b3 x hx)
      unfold execLT at h
      split at h
      · rename_i o ho
        have hdo : dstOf ops j = o.dst := by simp [dstOf, ho]
        rw [besT_eq T] at h
        have low : ∀ {ts1 : List AV} {H1 : AH} {G : AV → AH → Prop}, OpJ P B ops (postV n (fun _ _ _ => False)) j ts1 H1 G → OpJ P B ops (fun _ _ _ => False) j ts1 H1 G := fun q =>
          OpJ.slots (fun _ _ r => r) (fun x H1 ⟨_, _, q⟩ => q) q
        refine DG.exec ok hbk b1 b2 hd ha hM hv ?_
        split at h
        · rename_i hbe
          rw [hbe] at hM' hn ⊢
          have h := frH_of (H := H.keeps (e :: A).length) (f := fun H => (effB P ops o).go call s H (fun _ _ _ => False) fun v H => (putQ n o.dst).go v s fun s => r.go call s H K) h
          refine OpJ.monoK (low (effB_ok ho hc hs h)) (fun v H' hk => ?_)
          obtain ⟨s', h3, h4⟩ := putQ_of hs hk
          exact hn _ _ _ (by rw [hdo]; exact h3) (putT_any ha hd) hM' trivial h4
        · rename_i k ks hbe
          rw [hbe] at hM' hn ⊢
          obtain ⟨s1, r1, r2⟩ := scrubC_of (js := k :: ks) hs h
          have r2 := frH_of (H := H.keeps (e :: A).length) (f := fun H => (effB P ops o).go call s1 H (fun _ _ _ => False) fun v H => (putQ n o.dst).go v s fun s => validQ ops.size t P n ops (k :: ks) (k :: ks) s H (r.go call s H K)) r2
          refine OpJ.monoK (low (effB_ok ho hc r1 r2)) (fun v H' hk => ?_)
          obtain ⟨s', h3, h4⟩ := putQ_of hs hk
          obtain ⟨h5, h6⟩ := validQ_ok T h3 hM' h4
          exact hn _ _ _ (by rw [hdo]; exact h3) (putT_any ha hd) hM' (by rw [hdo]; exact h5) h6
      · exact h.elim
end
theorem schT_ok {P : Program} {n B t d : Nat} {ops : Array Oper} (T : TabOK ops t d) {call : CallQ} (hc : CallQOK P call) {K : KV} : ∀ (f : Nat) {A : List LB} {M L : List Nat} {ts : List AV} {s : VT} {H : AH}, AOK P n ops A → SRV n ts s → (∀ e ∈ A, ts.getD e.d .any = .any) → (∀ k ∈ M, PureAt P ops k) → ValidL P ops M ts H M → (schT ops.size t d P n ops f A M L).go call s H K → DG P B ops A M L ts H (postV n K)
  | 0, A, M, L, ts, s, H, ok, hs, ha, hM, hv, h => h.elim
  | f + 1, A, M, L, ts, s, H, ok, hs, ha, hM, hv, h => by
    have h : (match readyFT ops.size d A L with
      | [] => endT ops.size t d P n ops A M L (schT ops.size t d P n ops f [] (lateMT ops.size t A M) ((A.map fun e : LB => e.a) ++ L))
      | j :: js => match (j :: js).find? (takeLT ops.size t P n ops A M L) with
        | some i => takeB P n ops i (schT ops.size t d P n ops f A (i :: M) (i :: L))
        | none => match js with
          | [] => oneT ops.size t d P n ops A M L j (schT ops.size t d P n ops f A (besT ops.size t M j) (j :: L))
          | _ :: _ => match lateOfT ops.size t P n ops A M (j :: js) with
            | some e => deferB n e.d (schT ops.size t d P n ops f (e :: A) M L)
            | none => noCB).go call s H K := h
    rw [readyFT_eq T] at h
    simp only [besT_eq T, lateMT_eq T, lateOfT_eq T] at h
    split at h
    · rename_i hr
      exact endT_ok T ok hs hM hv hr h (fun ts' s' H' q1 q2 q3 q4 => DG.da (schT_ok T hc f aok_nil q1 (fun _ q => by cases q) q2 q3 q4))
    · rename_i j js hr
      split at h
      · rename_i i hf
        obtain ⟨p1, p2, p3⟩ := takeLT_of T (List.find?_some hf)
        unfold takeB at h
        split at h
        · rename_i o ho
          have h : @OXp.rec (fun _ => Prop) (fun e => e s H fun v => (putQ n o.dst).go v s fun s => (schT ops.size t d P n ops f A (i :: M) (i :: L)).go call s H K) (pureB P ops o) := h
          cases he : pureB P ops o with
          | mk e =>
          rw [he] at h
          have hpo : ∃ c, comp P o = some c ∧ isPure (c.hint 0) = true := by
            unfold takeOK at p1
            simp only [ho, Bool.and_eq_true] at p1
            have t1 := p1.1.1
            split at t1
            · rename_i c hcm
              rw [compB_eq] at hcm
              exact ⟨c, hcm, t1⟩
            · cases t1
          obtain ⟨v, h1, h2⟩ := pureB_ok hpo he hs h
          obtain ⟨s', h3, h4⟩ := putQ_of hs h2
          have hdo : dstOf ops i = o.dst := by simp [dstOf, ho]
          obtain ⟨q1, q2⟩ := take_valid hs.len ho p1 hM hv h1
          have hd : ∀ e ∈ A, dstOf ops i ≠ some e.d := fun e he => isDst_no (p3 e he).2.2
          refine DG.take i v p2 (fun e he => ⟨(p3 e he).1, (p3 e he).2.1, hd e he⟩) (schT_ok T hc f ok (by rw [hdo]; exact h3) (putT_any ha hd) ?_ q1 h4)
          intro k hk
          rcases List.mem_cons.1 hk with rfl | hk
          · exact q2
          · exact hM k hk
        · exact h.elim
      · split at h
        · exact oneT_ok T hc ok hs ha hM hv hr h (fun ts' s' H' q1 q2 q3 q4 q5 => schT_ok T hc f ok q1 q2 q3 q4 q5)
        · split at h
          · rename_i e he
            obtain ⟨q1, q2, q3, q4⟩ := lateOf_of he
            obtain ⟨s', h3, h4⟩ := putQ_of (d := some e.d) hs h
            have hd : ∀ x ∈ A, some e.d ≠ some x.d := fun x hx q => q3 (List.mem_map.2 ⟨x, hx, (Option.some.inj q).symm⟩)
            refine DG.defer (schT_ok T hc f ⟨fun x hx => ?_, ?_, ?_⟩ h3 (fun x hx => ?_) hM ?_ h4)
            · rcases List.mem_cons.1 hx with rfl | hx
              · exact q1
              · exact ok.adf x hx
            · rw [List.map_cons, List.nodup_cons]; exact ⟨q2, ok.nda⟩
            · rw [List.map_cons, List.nodup_cons]; exact ⟨q3, ok.ndd⟩
            · rcases List.mem_cons.1 hx with rfl | hx
              · rw [putT_get, if_pos ⟨rfl, by rw [hs.len]; exact q1.lt⟩]
              · exact putT_any ha hd x hx
            · refine valid_more q4 hM (fun k hk => hk) (fun t ht => ?_) (fun _ _ q => q) hv
              rw [putT_get, if_neg (fun q => ht (by rw [← Option.some.inj q.1]; exact List.mem_singleton.2 rfl))]
          · exact h.elim
def frNC (m : Nat) (f : Nat → CB) : CB := @Nat.rec (fun _ => CB) (f 0) (fun m _ => f (Nat.succ m)) m
theorem frNC_of (m : Nat) (f : Nat → CB) : frNC m f = f m := by cases m <;> rfl
def drawT (P : Program) (n : Nat) (ops : Array Oper) : CB :=
  bif seqOK P n ops && Nat.blt n 1023 then seqQ P n ops.toList
  else frNC ops.size fun W => frNC (wtab W ops.toList 0 0) fun t => frNC (dtab W ops.toList 0 0) fun d => bif backB ops && tabOK W t d ops.toList 0 then schT W t d P n ops (3 * ops.size + 1) [] [] [] else noCB
theorem drawT_ok {P : Program} (hm : P.follows .mixedOrders = true) {call : CallQ} (hc : CallQOK P call) {B id n : Nat} {ops : Array Oper} {ts : List AV} {s : VT} {H : AH} {K : KV} {Q : Post} (hs : SRV n ts s) (h : (drawT P n ops).go call s H K) (hK : ∀ x ts' s' H', SRV n ts' s' → K x s' H' → Q x ts' H') : Tri P B (.region id ops true) ts H Q := by
  unfold drawT at h
  rcases hb : (seqOK P n ops && Nat.blt n 1023) with _ | _
  · rw [hb] at h
    simp only [cond_false] at h
    simp only [frNC_of] at h
    rcases hbk : (backB ops && tabOK ops.size (wtab ops.size ops.toList 0 0) (dtab ops.size ops.toList 0 0) ops.toList 0) with _ | _
    · rw [hbk] at h; exact h.elim
    · rw [hbk] at h
      rw [Bool.and_eq_true] at hbk
      have T := TabOK.of hbk.1 hbk.2
      have h : (schT ops.size (wtab ops.size ops.toList 0 0) (dtab ops.size ops.toList 0 0) P n ops (3 * ops.size + 1) [] [] []).go call s H K := h
      refine Tri.mono (Tri.drawn hm (DG.da (schT_ok T hc _ ⟨(fun _ q => by cases q), List.nodup_nil, List.nodup_nil⟩ hs (fun _ q => by cases q) (fun k hk => by cases hk) trivial h))) (fun x ts1 H1 h1 => ?_)
      obtain ⟨s', q1, q2⟩ := h1
      exact hK _ _ _ _ q1 q2
  · rw [hb] at h
    simp only [cond_true] at h
    simp only [Bool.and_eq_true] at hb
    have hn : n < 1023 := Nat.le_of_ble_eq_true hb.2
    have hbk : backB ops = true := by
      have := hb.1
      unfold seqOK at this
      rw [Bool.and_eq_true] at this
      exact this.1
    have hsl : SR n ts (SL.lay ts 0 (SL.mk 10)) := by
      have := SR.start (as := ts) (n := n) (by rw [hs.len]; exact Nat.le_refl _) hn
      rwa [show n - ts.length = 0 by rw [hs.len]; omega, List.replicate_zero, List.append_nil] at this
    refine Tri.drawn hm ?_
    refine seqS_ok (K := fun sl' => ∃ ts' s', SRV n ts' s' ∧ SR n ts' sl' ∧ K .normal s' H) hb.1 hbk (fun ts1 sl1 q1 q2 => ?_) ops.toList 0 ts _ (by simp) (by simp) hsl (fun j o hj => by omega) (seqQ_ok ops.toList hs hsl h)
    obtain ⟨ts2, s2, q3, q4, q5⟩ := q2
    have e : ts1 = ts2 := by
      refine List.ext_getElem? fun i => ?_
      have g : ts1.getD i .any = ts2.getD i .any := by
        have a1 : ts1.getD i .any = sl1.get i := congrFun q1.get i
        have a2 : ts2.getD i .any = sl1.get i := congrFun q4.get i
        rw [a1, a2]
      by_cases hi : i < n
      · rw [List.getD_eq_getElem?_getD, List.getD_eq_getElem?_getD, List.getElem?_eq_getElem (by rw [q1.len]; exact hi), List.getElem?_eq_getElem (by rw [q3.len]; exact hi)] at g
        rw [List.getElem?_eq_getElem (by rw [q1.len]; exact hi), List.getElem?_eq_getElem (by rw [q3.len]; exact hi)]
        exact congrArg some g
      · rw [List.getElem?_eq_none (by rw [q1.len]; omega), List.getElem?_eq_none (by rw [q3.len]; omega)]
    subst e
    exact hK _ _ _ _ q3 q5
end
end Go.Eng
/- The engine, thirty-ninth part: a quick evaluator for known values: code, functions. -/
namespace Go.Eng
open Go Go.RowKit
set_option linter.unusedVariables false
set_option linter.unusedSimpArgs false
noncomputable section
def seqK (b : CB) (call : CallQ) (Q : KV) : KV := fun x s H => @AX.casesOn (fun _ => Prop) x (b.go call s H Q) (fun id => Q (.exit id) s H) (fun l => Q (.goto l) s H) (Q .ret s H) (fun v => Q (.panic v) s H)
def blkK (id : Nat) (Q : KV) : KV := fun x s H => @AX.casesOn (fun _ => Prop) x (Q .normal s H) (fun i => @Bool.rec (fun _ => Prop) (Q (.exit i) s H) (Q .normal s H) (Nat.beq i id)) (fun l => Q (.goto l) s H) (Q .ret s H) (fun v => Q (.panic v) s H)
def scpK (Q : KV) : KV := fun x s H => @AX.casesOn (fun _ => Prop) x (Q .normal s H) (fun i => Q (.exit i) s H) (fun l => False) (Q .ret s H) (fun v => Q (.panic v) s H)
def loopK (r : XC1) (call : CallQ) (Q : KV) : KV := fun x s H => @AX.casesOn (fun _ => Prop) x (r call s H Q) (fun id => Q (.exit id) s H) (fun l => Q (.goto l) s H) (Q .ret s H) (fun v => Q (.panic v) s H)
def loopQ (b : CB) (m : Nat) : XC1 := @Nat.rec (fun _ => XC1) (fun _ _ _ _ => False) (fun _ r call s H Q => b.go call s H (loopK r call Q)) m
def condQ (c : Operand) (a b : CB) : CB :=
  match c with
  | .tmp d => ⟨fun call s H Q => VT.getC (pathOf d) s fun v => asB v fun q => @Bool.rec (fun _ => Prop) (b.go call s H Q) (a.go call s H Q) q⟩
  | .const (.bool true) => a
  | .const (.bool false) => b
  | _ => ⟨fun _ _ _ _ => False⟩
def xC (P : Program) (n m : Nat) (c : Code) : CB := @Code.rec (fun _ => CB)
  ⟨fun _ s H Q => Q .normal s H⟩
  (fun _ ops d => @Bool.rec (fun _ => CB) (xOps P n ops ops.toList) (drawQ P n ops) d)
  (fun _ _ a b => ⟨fun call s H Q => a.go call s H (seqK b call Q)⟩)
  (fun o _ _ a b => condQ o a b)
  (fun id _ a => ⟨fun call s H Q => a.go call s H (blkK id Q)⟩)
  (fun _ a => ⟨fun call s H Q => loopQ a m call s H Q⟩)
  (fun _ _ _ _ _ _ => ⟨fun _ _ _ _ => False⟩)
  (fun id => ⟨fun _ s H Q => Q (.exit id) s H⟩)
  (fun _ a => ⟨fun call s H Q => a.go call s H (scpK Q)⟩)
  (fun _ => ⟨fun _ s H Q => Q .normal s H⟩)
  (fun l => ⟨fun _ s H Q => Q (.goto l) s H⟩)
  ⟨fun _ s H Q => Q .ret s H⟩
  (fun _ => ⟨fun _ _ _ _ => False⟩) c
theorem loopQ_ok {P : Program} {n B : Nat} {call : CallQ} {c : Code} {b : CB} (ih : ∀ {Q : Post} {K : KV} {ts : List AV} {s : VT} {H : AH}, SRV n ts s → b.go call s H K → (∀ x ts' s' H', SRV n ts' s' → K x s' H' → Q x ts' H') → Tri P B c ts H Q) :
    ∀ (m : Nat) {Q : Post} {K : KV} {ts : List AV} {s : VT} {H : AH}, SRV n ts s → loopQ b m call s H K → (∀ x ts' s' H', SRV n ts' s' → K x s' H' → Q x ts' H') → TriL P B c m ts H Q
  | 0, Q, K, ts, s, H, hs, h, q => h.elim
  | m + 1, Q, K, ts, s, H, hs, h, q => by
    have h1 : b.go call s H (loopK (loopQ b m) call K) := h
    refine TriL.round (ih hs h1 (fun x ts1 s1 H1 hs1 h2 => ?_))
    cases x with
    | normal => exact loopQ_ok ih m hs1 h2 q
    | _ => exact q _ _ _ _ hs1 h2
theorem xC_ok {P : Program} (hm : P.follows .mixedOrders = true) {n m B : Nat} {call : CallQ} (hc : CallQOK P call) (c : Code) : ∀ {Q : Post} {K : KV} {ts : List AV} {s : VT} {H : AH}, SRV n ts s → (xC P n m c).go call s H K → (∀ x ts' s' H', SRV n ts' s' → K x s' H' → Q x ts' H') → Tri P B c ts H Q := by
  induction c with
  | skip => intro Q K ts s H hs h q; exact Tri.skip (q _ _ _ _ hs h)
  | label l => intro Q K ts s H hs h q; exact Tri.label (q _ _ _ _ hs h)
  | ret => intro Q K ts s H hs h q; exact Tri.ret (q _ _ _ _ hs h)
  | exit id => intro Q K ts s H hs h q; exact Tri.exit (q _ _ _ _ hs h)
  | goto l => intro Q K ts s H hs h q; exact Tri.goto (q _ _ _ _ hs h)
  | refuse w => intro Q K ts s H hs h q; exact h.elim
  | rangeFunc f ps a b _ _ => intro Q K ts s H hs h q; exact h.elim
  | region id ops d =>
    intro Q K ts s H hs h q
    cases d with
    | false => exact Tri.region (xOps_ok hc q _ hs h)
    | true => exact drawQ_ok hm hc hs h q
  | seq a b iha ihb =>
    intro Q K ts s H hs h q
    have h1 : (xC P n m a).go call s H (seqK (xC P n m b) call K) := h
    refine Tri.seq (iha hs h1 (fun x ts1 s1 H1 hs1 h2 => ?_))
    cases x with
    | normal => exact ihb hs1 h2 q
    | _ => exact q _ _ _ _ hs1 h2
  | cond o a b iha ihb =>
    intro Q K ts s H hs h q
    have h : (condQ o (xC P n m a) (xC P n m b)).go call s H K := h
    cases o with
    | tmp d =>
      have h1 := VT.getC_of (p := pathOf d) (t := s) h
      obtain ⟨b0, e1, h2⟩ := asB_of h1
      have e1 : s.at d = .bool b0 := e1
      have hbt : boolAt ts (.tmp d) = some b0 := by
        rw [boolAtG_eq, hs.get]
        simp [boolAtG, e1]
      refine Tri.cond b0 hbt (fun e => ?_) (fun e => ?_)
      · subst e; exact iha hs h2 q
      · subst e; exact ihb hs h2 q
    | const v =>
      cases v with
      | bool b0 =>
        have hbt : boolAt ts (.const (.bool b0)) = some b0 := rfl
        refine Tri.cond b0 hbt (fun e => ?_) (fun e => ?_)
        · subst e; exact iha hs h q
        · subst e; exact ihb hs h q
      | _ => exact h.elim
    | _ => exact h.elim
  | block id a ih =>
    intro Q K ts s H hs h q
    have h1 : (xC P n m a).go call s H (blkK id K) := h
    refine Tri.block (ih hs h1 (fun x ts1 s1 H1 hs1 h2 => ?_))
    cases x with
    | exit i =>
      simp only [blockX]
      have h2 : @Bool.rec (fun _ => Prop) (K (.exit i) s1 H1) (K .normal s1 H1) (Nat.beq i id) := h2
      rcases hb : Nat.beq i id with _ | _
      · rw [hb] at h2
        rw [if_neg (fun e => by rw [e] at hb; simp at hb)]
        exact q _ _ _ _ hs1 h2
      · rw [hb] at h2
        rw [if_pos (Nat.eq_of_beq_eq_true hb)]
        exact q _ _ _ _ hs1 h2
    | _ => exact q _ _ _ _ hs1 h2
  | scope a ih =>
    intro Q K ts s H hs h q
    have h1 : (xC P n m a).go call s H (scpK K) := h
    refine Tri.scope (ih hs h1 (fun x ts1 s1 H1 hs1 h2 => ?_))
    cases x with
    | goto i => exact h2.elim
    | _ => exact q _ _ _ _ hs1 h2
  | loop a ih =>
    intro Q K ts s H hs h q
    have h1 : loopQ (xC P n m a) m call s H K := h
    exact TriL.loop (loopQ_ok ih m hs h1 q)
/-! ### results -/
def res1 (P : Program) (r : ResultVar) : OXp :=
  match r with
  | .tmp t => ⟨fun s _ f => VT.getC (pathOf t) s f⟩
  | .cell t ty => match aggSz P ty with
    | some none => ⟨fun s H f => VT.getC (pathOf t) s fun v => asP v fun b k j => getB H b fun y => rdCell y k j f⟩
    | some (some n) => ⟨fun s H f => VT.getC (pathOf t) s fun v => asP v fun b k j => getB H b fun y => rdCells y k j n fun l => f (.agg l)⟩
    | none => ⟨fun _ _ _ => False⟩
def OXp.go (b : OXp) : EXp := fun s H f => @OXp.rec (fun _ => Prop) (fun e => e s H f) b
theorem res1_of {P : Program} {r : ResultVar} {s : VT} {H : AH} {f : AV → Prop} (h : (res1 P r).go s H f) : ∃ v, resOneG P s.at H r = some (v, true) ∧ f v := by
  cases r with
  | tmp t => exact ⟨_, rfl, VT.getC_of (p := pathOf t) h⟩
  | cell t ty =>
    unfold res1 at h
    simp only [] at h
    split at h
    · rename_i hz
      have h1 := VT.getC_of (p := pathOf t) h
      obtain ⟨b, k, j, e1, h2⟩ := asP_of h1
      obtain ⟨y, e2, h3⟩ := getB_of h2
      obtain ⟨h4, h5⟩ := rdCell_of h3
      have e1 : s.at t = .ptr b k j := e1
      refine ⟨_, ?_, h5⟩
      simp only [resOneG, e1, e2, hz, h4]
    · rename_i n hz
      have h1 := VT.getC_of (p := pathOf t) h
      obtain ⟨b, k, j, e1, h2⟩ := asP_of h1
      obtain ⟨y, e2, h3⟩ := getB_of h2
      obtain ⟨h4, h5⟩ := rdCells_of (f := fun l => f (.agg l)) h3
      have e1 : s.at t = .ptr b k j := e1
      refine ⟨_, ?_, h5⟩
      simp only [resOneG, e1, e2, hz, h4]
    · exact h.elim
def resC (P : Program) (rs : List ResultVar) : VT → AH → (List AV → Prop) → Prop := @List.rec ResultVar (fun _ => VT → AH → (List AV → Prop) → Prop) (fun _ _ f => f []) (fun r _ ih s H f => (res1 P r).go s H fun v => ih s H fun vs => f (v :: vs)) rs
theorem resC_of {P : Program} {s : VT} {H : AH} : ∀ {rs : List ResultVar} {f : List AV → Prop}, resC P rs s H f → ∃ vs, resListG P s.at H rs = some (vs, true) ∧ f vs
  | [], f, h => ⟨_, rfl, h⟩
  | r :: rs, f, h => by
    obtain ⟨v, h1, h2⟩ := res1_of (show (res1 P r).go s H fun v => resC P rs s H fun vs => f (v :: vs) from h)
    obtain ⟨vs, h3, h4⟩ := resC_of (rs := rs) (f := fun vs => f (v :: vs)) h2
    refine ⟨_, ?_, h4⟩
    rw [resListG, h1, h3]
    rfl
def oneC (vs : List AV) (f : AV → Prop) : Prop := @List.casesOn AV (fun _ => Prop) vs (f (.tup [])) (fun v l => @List.casesOn AV (fun _ => Prop) l (f v) (fun _ _ => f (.tup vs)))
theorem oneC_of {vs : List AV} {f : AV → Prop} (h : oneC vs f) : f (oneOf vs) := by
  cases vs with
  | nil => exact h
  | cons v l => cases l <;> exact h
def finQ (P : Program) (rs : List ResultVar) (K : AOut → AH → Prop) : KV := fun x s H => @AX.casesOn (fun _ => Prop) x (resC P rs s H fun vs => oneC vs fun v => K (.ret v) H) (fun _ => False) (fun _ => False) (resC P rs s H fun vs => oneC vs fun v => K (.ret v) H) (fun v => K (.panic v) H)
/-! ### functions -/
inductive FB where
  | mk (e : CallQ → List AV → AH → (AOut → AH → Prop) → Prop)
def fbox (P : Program) (spc : FuncId → Option FB) (m : Nat) (f : FuncId) : FB :=
  match spc f with
  | some b => b
  | none => match P.funcs[f]? with
    | none => ⟨fun _ _ _ _ => False⟩
    | some fn => match fn.body with
      | none => ⟨fun _ _ _ _ => False⟩
      | some c => ⟨fun call as H K => chk (Nat.ble (lenC as) fn.ntmps) (fillC as 0 .e fun s => (xC P fn.ntmps m c).go call s H (finQ P fn.results.toList K))⟩
def FB.go (b : FB) (call : CallQ) (as : List AV) (H : AH) (K : AOut → AH → Prop) : Prop := @FB.rec (fun _ => Prop) (fun e => e call as H K) b
def FBOK (P : Program) (f : FuncId) (b : FB) : Prop := ∀ call as H K, CallQOK P call → b.go call as H K → RunsK P f as H K
def SpcOK (P : Program) (spc : FuncId → Option FB) : Prop := ∀ f b, spc f = some b → FBOK P f b
def xF (P : Program) (spc : FuncId → Option FB) (m d : Nat) : CallQ := @Nat.rec (fun _ => CallQ) (fun _ _ _ _ => False) (fun _ ih f as H K => (fbox P spc m f).go ih as H K) d
theorem SRV.start {as : List AV} {n : Nat} {s : VT} (h : as.length ≤ n) (hs : ∀ i, s.at i = if 0 ≤ i ∧ i < 0 + as.length then as.getD (i - 0) .any else VT.at .e i) : SRV n (as ++ List.replicate (n - as.length) .any) s where
  len := by simp; omega
  get := by
    funext c
    rw [hs, VT.at_e]
    simp only [Nat.zero_le, true_and, Nat.zero_add, Nat.sub_zero, List.getD_eq_getElem?_getD]
    by_cases e : c < as.length
    · rw [if_pos e, List.getElem?_append_left e]
    · rw [if_neg e, List.getElem?_append_right (by omega), List.getElem?_replicate]
      split <;> rfl
theorem finQ_ok {P : Program} {fn : Func} {K : AOut → AH → Prop} {n : Nat} : ∀ x ts' s' H', SRV n ts' s' → finQ P fn.results.toList K x s' H' → bodyK P fn K x ts' H' := by
  intro x ts s H hs h
  have fin : (resC P fn.results.toList s H fun vs => oneC vs fun v => K (.ret v) H) → ∃ v, resOf P fn ts H = some (v, true) ∧ K (.ret v) H := by
    intro h
    obtain ⟨vs, h1, h2⟩ := resC_of h
    refine ⟨_, ?_, oneC_of (f := fun v => K (.ret v) H) h2⟩
    rw [resOfG_eq, hs.get, resOfG, h1]
  cases x with
  | normal => exact fin h
  | ret => exact fin h
  | panic v => exact h
  | exit i => exact h.elim
  | goto i => exact h.elim
theorem fbox_ok {P : Program} (hm : P.follows .mixedOrders = true) {spc : FuncId → Option FB} (hs : SpcOK P spc) (m : Nat) (f : FuncId) : FBOK P f (fbox P spc m f) := by
  intro call as H K hc h
  unfold fbox at h
  split at h
  · rename_i b hb
    exact hs f b hb call as H K hc h
  · split at h
    · exact h.elim
    · rename_i fn hf
      split at h
      · exact h.elim
      · rename_i c hb
        obtain ⟨h1, h2⟩ := chk_of h
        rw [lenC_eq] at h1
        obtain ⟨s, h3, h4⟩ := fillC_of (f := fun s => (xC P fn.ntmps m c).go call s H (finQ P fn.results.toList K)) h2
        exact RunsK.body hf hb (xC_ok hm hc c (SRV.start (Nat.le_of_ble_eq_true h1) h4) h3 finQ_ok)
theorem xF_ok {P : Program} (hm : P.follows .mixedOrders = true) {spc : FuncId → Option FB} (hs : SpcOK P spc) (m : Nat) : ∀ d, CallQOK P (xF P spc m d)
  | 0, f, as, H, K, h => h.elim
  | d + 1, f, as, H, K, h => fbox_ok hm hs m f (xF P spc m d) as H K (xF_ok hm hs m d) h
def noSpc : FuncId → Option FB := fun _ => none
theorem noSpc_ok (P : Program) : SpcOK P noSpc := fun f b h => by cases h
end
end Go.Eng
