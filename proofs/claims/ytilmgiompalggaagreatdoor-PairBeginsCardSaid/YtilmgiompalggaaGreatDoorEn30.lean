/- The engine, thirty-eighth part, last: schedules for regions that draw. -/
import Derived.Test.YtilmgiompalggaaGreatDoorEn29
namespace Go.Eng
open Go Go.RowKit
set_option linter.unusedVariables false
set_option linter.unusedSimpArgs false
noncomputable section
def allocOf (P : Program) (ops : Array Oper) (o : Oper) : Option (ABlk × (Nat → AV)) :=
  match guardOf ops o, (compB P).go o with
  | some none, some c => allocS c
  | _, _ => none
theorem allocOf_ok {P : Program} {n : Nat} {ops : Array Oper} {o : Oper} {a d : Nat} {b : ABlk} {mk : Nat → AV} (h : allocOf P ops o = some (b, mk)) (ho : ops[a]? = some o) (hd : o.dst = some d) (hl : d < n) : ADF P n ops a d b mk := by
  unfold allocOf at h
  split at h
  · rename_i c h1 h2
    rw [compB_eq] at h2
    obtain ⟨ow, mo, st⟩ := allocS_ok h
    refine ⟨by simp [dstOf, ho, hd], hl, ow, mo, o, ho, fun us G => ?_⟩
    simp only [stepV, h1, goesOn, h2]
    exact st _ _ _
  · cases h
def deferB (n d : Nat) (r : CB) : CB := ⟨fun call s H Q => (putQ n (some d)).go .any s fun s => r.go call s H Q⟩
/-- As execB, where more is to be done later. -/
def execLB (P : Program) (n : Nat) (ops : Array Oper) (M : List Nat) (k : Nat) (j : Nat) (r : CB) : CB :=
  match ops[j]? with
  | some o => match besides ops M j with
    | [] => ⟨fun call s H Q => frH (H.keeps k) fun H => (effB P ops o).go call s H (fun _ _ _ => False) fun v H => (putQ n o.dst).go v s fun s => r.go call s H Q⟩
    | i :: is => ⟨fun call s H Q => scrubC n ops (i :: is) s fun s1 => frH (H.keeps k) fun H => (effB P ops o).go call s1 H (fun _ _ _ => False) fun v H => (putQ n o.dst).go v s fun s => validS sp P ops (i :: is) ((List.range n).map s.at) H (r.go call s H Q) (i :: is)⟩
  | none => ⟨fun _ _ _ _ => False⟩
def commitC (n : Nat) (A : List LB) : Nat → VT → AH → (VT → AH → Prop) → Prop := @List.rec LB (fun _ => Nat → VT → AH → (VT → AH → Prop) → Prop) (fun _ s H f => f s H) (fun e _ ih m s H f => ih (Nat.succ m) s H fun s H => frN m fun m => (putQ n (some e.d)).go (e.pt m) s fun s => frH (H.set m e.b) fun H => f s H) A
theorem commitC_of {n : Nat} : ∀ {A : List LB} {m : Nat} {ts : List AV} {s : VT} {H : AH} {f : VT → AH → Prop}, SRV n ts s → commitC n A m s H f → ∃ s', SRV n (tsL (canon A m) ts) s' ∧ f s' (HL (canon A m) H)
  | [], m, ts, s, H, f, hs, h => ⟨s, hs, h⟩
  | e :: A, m, ts, s, H, f, hs, h => by
    obtain ⟨s1, h1, h2⟩ := commitC_of (A := A) (m := m + 1) (f := fun s H => frN m fun m => (putQ n (some e.d)).go (e.pt m) s fun s => frH (H.set m e.b) fun H => f s H) hs h
    have h3 := frN_of (f := fun m => (putQ n (some e.d)).go (e.pt m) s1 fun s => frH ((HL (canon A (m + 1)) H).set m e.b) fun H => f s H) (m := m) (by
      have := frN_of h2
      cases m <;> exact this)
    obtain ⟨s2, h4, h5⟩ := putQ_of h1 h3
    exact ⟨s2, h4, frH_of h5⟩
def commitB (n : Nat) (A : List LB) (r : CB) : CB := ⟨fun call s H Q => frH (H.keeps (A.length + A.length)) fun H2 => frN (H.next + A.length) fun m => commitC n A m s H2 fun s H => r.go call s H Q⟩
def lateM (ops : Array Oper) (A : List LB) (M : List Nat) : List Nat := A.foldr (fun e M => besides ops M e.a) M
theorem lateM_eq (ops : Array Oper) : ∀ (A : List LB) (m : Nat) (M : List Nat), ML ops (canon A m) M = lateM ops A M
  | [], _, _ => rfl
  | e :: A, m, M => by
    show besides ops (ML ops (canon A (m + 1)) M) e.a = besides ops (lateM ops A M) e.a
    rw [lateM_eq ops A (m + 1) M]
theorem LL_canon (A : List LB) (m : Nat) (L : List Nat) : LL (canon A m) L = A.map (·.a) ++ L := by
  unfold LL
  rw [canon_map (fun e => e.a)]
/-- What may come next, but those that are to be done later. -/
def readyF (ops : Array Oper) (A : List LB) (L : List Nat) : List Nat := (readyAbs ops L).filter fun j => !(A.map (·.a)).contains j
theorem readyF_nil (ops : Array Oper) (L : List Nat) : readyF ops [] L = readyAbs ops L := by
  unfold readyF
  refine List.filter_eq_self.2 (fun j _ => rfl)
def lateOf (P : Program) (n : Nat) (ops : Array Oper) (A : List LB) (M l : List Nat) : Option LB := l.findSome? fun j => match ops[j]? with
  | some o => match allocOf P ops o, o.dst with
    | some (b, pt), some d => bif Nat.blt d n && (!(A.map (·.a)).contains j && (!(A.map (·.d)).contains d && apartOK P ops M [d])) then some ⟨j, d, b, pt⟩ else none
    | _, _ => none
  | none => none
theorem lateOf_of {P : Program} {n : Nat} {ops : Array Oper} {A : List LB} {M l : List Nat} {e : LB} (h : lateOf P n ops A M l = some e) : ADF P n ops e.a e.d e.b e.pt ∧ e.a ∉ A.map (·.a) ∧ e.d ∉ A.map (·.d) ∧ apartOK P ops M [e.d] = true := by
  unfold lateOf at h
  obtain ⟨j, _, h⟩ := List.exists_of_findSome?_eq_some h
  split at h
  · rename_i o ho
    split at h
    · rename_i b pt d h1 h2
      simp only [cond] at h
      split at h
      · rename_i hb
        cases h
        simp only [Bool.and_eq_true, Bool.not_eq_true'] at hb
        obtain ⟨q1, q2, q3, q4⟩ := hb
        refine ⟨allocOf_ok h1 ho h2 (Nat.le_of_ble_eq_true q1), fun hm => ?_, fun hm => ?_, q4⟩
        · rw [List.contains_iff_mem.2 hm] at q2; cases q2
        · rw [List.contains_iff_mem.2 hm] at q3; cases q3
      · cases h
    · cases h
  · cases h
def noCB : CB := ⟨fun _ _ _ _ => False⟩
/-- May it be taken early, beside those that are to be done later? -/
def takeL (P : Program) (n : Nat) (ops : Array Oper) (A : List LB) (M L : List Nat) (i : Nat) : Bool := takeOK P n ops M i && (!L.contains i && A.all fun e => !Nat.beq e.a i && (!(waitsFor ops ops.size e.a).contains i && !isDst ops e.d i))
/-- Nothing is ready but those that are to be done later. -/
def endB (P : Program) (n : Nat) (ops : Array Oper) (A : List LB) (M L : List Nat) (r : CB) : CB := match A with
  | [] => bif (List.range ops.size).all (fun j => L.contains j) then ⟨fun _ s H Q => Q .normal s H⟩ else noCB
  | _ :: _ => bif lateOK ops L (A.map fun e : LB => e.a) [] && apartOK P ops M (A.map fun e : LB => e.d) then commitB n A r else noCB
/-- One effect is ready. -/
def oneB (P : Program) (n : Nat) (ops : Array Oper) (A : List LB) (M L : List Nat) (j : Nat) (r : CB) : CB := match A with
  | [] => execB P n ops M j r
  | _ :: _ => bif lateOK ops L (A.map fun e : LB => e.a) [j] && (apartOK P ops M (A.map fun e : LB => e.d) && A.all fun e => !isDst ops e.d j) then execLB P n ops M A.length j r else noCB
def schQ (P : Program) (n : Nat) (ops : Array Oper) (f : Nat) : List LB → List Nat → List Nat → CB := @Nat.rec (fun _ => List LB → List Nat → List Nat → CB) (fun _ _ _ => noCB) (fun f ih A M L => match readyF ops A L with
  | [] => endB P n ops A M L (ih [] (lateM ops A M) ((A.map fun e : LB => e.a) ++ L))
  | j :: js => match (j :: js).find? (takeL P n ops A M L) with
    | some i => takeB P n ops i (ih A (i :: M) (i :: L))
    | none => match js with
      | [] => oneB P n ops A M L j (ih A (besides ops M j) (j :: L))
      | _ :: _ => match lateOf P n ops A M (j :: js) with
        | some e => deferB n e.d (ih (e :: A) M L)
        | none => noCB) f
section
variable {P : Program} {n B : Nat} {ops : Array Oper} {call : CallQ} {K : KV} {A : List LB} {M L : List Nat} {ts : List AV} {s : VT} {H : AH} {r : CB}
theorem aok_nil : AOK P n ops [] := ⟨(fun _ q => by cases q), List.nodup_nil, List.nodup_nil⟩
theorem putT_any {d : Option Nat} {v : AV} (ha : ∀ e ∈ A, ts.getD e.d .any = .any) (hd : ∀ e ∈ A, d ≠ some e.d) : ∀ e ∈ A, (putT ts d v).getD e.d .any = .any := fun e he => by
  rw [putT_get, if_neg (fun q => hd e he q.1)]
  exact ha e he
theorem endB_ok (hbk : backB ops = true) (ok : AOK P n ops A) (hs : SRV n ts s) (hM : ∀ k ∈ M, PureAt P ops k) (hv : ValidL P ops M ts H M) (hr : readyF ops A L = []) (h : (endB P n ops A M L r).go call s H K)
    (hn : ∀ ts' s' H', SRV n ts' s' → (∀ k ∈ lateM ops A M, PureAt P ops k) → ValidL P ops (lateM ops A M) ts' H' (lateM ops A M) → r.go call s' H' K → DA P B ops (lateM ops A M) ((A.map fun e : LB => e.a) ++ L) ts' H' (postV n K)) : DG P B ops A M L ts H (postV n K) := by
  unfold endB at h
  split at h
  · rcases hall : (List.range ops.size).all (fun j => L.contains j) with _ | _
    · rw [hall] at h; exact h.elim
    · rw [hall] at h
      exact DG.of (DA.fin ⟨hall, hbk⟩ hv ⟨s, hs, h⟩) rfl
  · rename_i A0 e A
    rcases hb : (lateOK ops L ((e :: A).map fun e : LB => e.a) [] && apartOK P ops M ((e :: A).map fun e : LB => e.d)) with _ | _
    · rw [hb] at h; exact h.elim
    · rw [hb] at h
      rw [Bool.and_eq_true] at hb
      have h := frH_of (H := H.keeps ((e :: A).length + (e :: A).length)) (f := fun H2 => frN (H.next + (e :: A).length) fun m => commitC n (e :: A) m s H2 fun s H => r.go call s H K) h
      have h := frN_of h
      obtain ⟨s', h1, h2⟩ := commitC_of hs h
      refine DG.commit ok hs.len hbk hb.1 hb.2 hM hv (fun hv' => ?_)
      rw [lateM_eq] at hv' ⊢
      rw [LL_canon]
      refine hn _ _ _ h1 (fun k hk => ?_) hv' h2
      rw [← lateM_eq ops (e :: A) 0 M] at hk
      exact hM k (ML_sub hk)
theorem oneB_ok {j : Nat} (hbk : backB ops = true) (hc : CallQOK P call) (ok : AOK P n ops A) (hs : SRV n ts s) (ha : ∀ e ∈ A, ts.getD e.d .any = .any) (hM : ∀ k ∈ M, PureAt P ops k) (hv : ValidL P ops M ts H M) (hr : readyF ops A L = [j]) (h : (oneB P n ops A M L j r).go call s H K)
    (hn : ∀ ts' s' H', SRV n ts' s' → (∀ e ∈ A, ts'.getD e.d .any = .any) → (∀ k ∈ besides ops M j, PureAt P ops k) → ValidL P ops (besides ops M j) ts' H' (besides ops M j) → r.go call s' H' K → DG P B ops A (besides ops M j) (j :: L) ts' H' (postV n K)) : DG P B ops A M L ts H (postV n K) := by
  unfold oneB at h
  have hM' : ∀ k ∈ besides ops M j, PureAt P ops k := fun k hk => hM k (List.mem_filter.1 hk).1
  split at h
  · rw [readyF_nil] at hr
    unfold execB at h
    split at h
    · rename_i o ho
      have hdo : dstOf ops j = o.dst := by simp [dstOf, ho]
      refine DG.of (DA.exec [j] ⟨hr, rfl, hbk⟩ hv ⟨?_, trivial⟩) rfl
      split at h
      · rename_i hb
        rw [hb] at hM' hn ⊢
        refine OpJ.monoK (effB_ok ho hc hs h) (fun v H' hk => ?_)
        obtain ⟨s', h3, h4⟩ := putQ_of hs hk
        exact DG.da (hn _ _ _ (by rw [hdo]; exact h3) (fun _ q => by cases q) hM' trivial h4)
      · rename_i k ks hb
        rw [hb] at hM' hn ⊢
        obtain ⟨s1, r1, r2⟩ := scrubC_of (js := k :: ks) hs h
        refine OpJ.monoK (effB_ok ho hc r1 r2) (fun v H' hk => ?_)
        obtain ⟨s', h3, h4⟩ := putQ_of hs hk
        rw [h3.list] at h4
        obtain ⟨h5, h6⟩ := validS_ok h4
        exact DG.da (hn _ _ _ (by rw [hdo]; exact h3) (fun _ q => by cases q) hM' (by rw [hdo]; exact h5) h6)
    · exact h.elim
  · rename_i A0 e A
    rcases hb : (lateOK ops L ((e :: A).map fun e : LB => e.a) [j] && (apartOK P ops M ((e :: A).map fun e : LB => e.d) && (e :: A).all fun e => !isDst ops e.d j)) with _ | _
    · rw [hb] at h; exact h.elim
    · rw [hb] at h
      have h : (execLB P n ops M (e :: A).length j r).go call s H K := h
      simp only [Bool.and_eq_true, List.all_eq_true, Bool.not_eq_true'] at hb
      obtain ⟨b1, b2, b3⟩ := hb
      have hd : ∀ x ∈ e :: A, dstOf ops j ≠ some x.d := fun x hx => isDst_no (b3 x hx)
      unfold execLB at h
      split at h
      · rename_i o ho
        have hdo : dstOf ops j = o.dst := by simp [dstOf, ho]
        have low : ∀ {ts1 : List AV} {H1 : AH} {G : AV → AH → Prop}, OpJ P B ops (postV n (fun _ _ _ => False)) j ts1 H1 G → OpJ P B ops (fun _ _ _ => False) j ts1 H1 G := fun q =>
          OpJ.slots (fun _ _ r => r) (fun x H1 ⟨_, _, q⟩ => q) q
        refine DG.exec ok hbk b1 b2 hd ha hM hv ?_
        split at h
        · rename_i hbe
          rw [hbe] at hM' hn ⊢
          have h := frH_of (H := H.keeps (e :: A).length) (f := fun H => (effB P ops o).go call s H (fun _ _ _ => False) fun v H => (putQ n o.dst).go v s fun s => r.go call s H K) h
          refine OpJ.monoK (low (effB_ok ho hc hs h)) (fun v H' hk => ?_)
          obtain ⟨s', h3, h4⟩ := putQ_of hs hk
          exact hn _ _ _ (by rw [hdo]; exact h3) (putT_any ha hd) hM' trivial h4
        · rename_i k ks hbe
          rw [hbe] at hM' hn ⊢
          obtain ⟨s1, r1, r2⟩ := scrubC_of (js := k :: ks) hs h
          have r2 := frH_of (H := H.keeps (e :: A).length) (f := fun H => (effB P ops o).go call s1 H (fun _ _ _ => False) fun v H => (putQ n o.dst).go v s fun s => validS sp P ops (k :: ks) ((List.range n).map s.at) H (r.go call s H K) (k :: ks)) r2
          refine OpJ.monoK (low (effB_ok ho hc r1 r2)) (fun v H' hk => ?_)
          obtain ⟨s', h3, h4⟩ := putQ_of hs hk
          rw [h3.list] at h4
          obtain ⟨h5, h6⟩ := validS_ok h4
          exact hn _ _ _ (by rw [hdo]; exact h3) (putT_any ha hd) hM' (by rw [hdo]; exact h5) h6
      · exact h.elim
end
theorem schQ_ok {P : Program} {n B : Nat} {ops : Array Oper} (hbk : backB ops = true) {call : CallQ} (hc : CallQOK P call) {K : KV} : ∀ (f : Nat) {A : List LB} {M L : List Nat} {ts : List AV} {s : VT} {H : AH}, AOK P n ops A → SRV n ts s → (∀ e ∈ A, ts.getD e.d .any = .any) → (∀ k ∈ M, PureAt P ops k) → ValidL P ops M ts H M → (schQ P n ops f A M L).go call s H K → DG P B ops A M L ts H (postV n K)
  | 0, A, M, L, ts, s, H, ok, hs, ha, hM, hv, h => h.elim
  | f + 1, A, M, L, ts, s, H, ok, hs, ha, hM, hv, h => by
    have h : (match readyF ops A L with
      | [] => endB P n ops A M L (schQ P n ops f [] (lateM ops A M) ((A.map fun e : LB => e.a) ++ L))
      | j :: js => match (j :: js).find? (takeL P n ops A M L) with
        | some i => takeB P n ops i (schQ P n ops f A (i :: M) (i :: L))
        | none => match js with
          | [] => oneB P n ops A M L j (schQ P n ops f A (besides ops M j) (j :: L))
          | _ :: _ => match lateOf P n ops A M (j :: js) with
            | some e => deferB n e.d (schQ P n ops f (e :: A) M L)
            | none => noCB).go call s H K := h
    split at h
    · rename_i hr
      exact endB_ok hbk ok hs hM hv hr h (fun ts' s' H' q1 q2 q3 q4 => DG.da (schQ_ok hbk hc f aok_nil q1 (fun _ q => by cases q) q2 q3 q4))
    · rename_i j js hr
      split at h
      · rename_i i hf
        have hp := List.find?_some hf
        unfold takeL at hp
        simp only [Bool.and_eq_true, Bool.not_eq_true', List.all_eq_true] at hp
        obtain ⟨p1, p2, p3⟩ := hp
        unfold takeB at h
        split at h
        · rename_i o ho
          have h : @OXp.rec (fun _ => Prop) (fun e => e s H fun v => (putQ n o.dst).go v s fun s => (schQ P n ops f A (i :: M) (i :: L)).go call s H K) (pureB P ops o) := h
          cases he : pureB P ops o with
          | mk e =>
          rw [he] at h
          have hpo : ∃ c, comp P o = some c ∧ isPure (c.hint 0) = true := by
            unfold takeOK at p1
            simp only [ho, Bool.and_eq_true] at p1
            have t1 := p1.1.1
            split at t1
            · rename_i c hcm
              rw [compB_eq] at hcm
              exact ⟨c, hcm, t1⟩
            · cases t1
          obtain ⟨v, h1, h2⟩ := pureB_ok hpo he hs h
          obtain ⟨s', h3, h4⟩ := putQ_of hs h2
          have hdo : dstOf ops i = o.dst := by simp [dstOf, ho]
          obtain ⟨q1, q2⟩ := take_valid hs.len ho p1 hM hv h1
          have hd : ∀ e ∈ A, dstOf ops i ≠ some e.d := fun e he => isDst_no (p3 e he).2.2
          refine DG.take i v p2 (fun e he => ⟨Nat.ne_of_beq_eq_false (p3 e he).1, (p3 e he).2.1, hd e he⟩) (schQ_ok hbk hc f ok (by rw [hdo]; exact h3) (putT_any ha hd) ?_ q1 h4)
          intro k hk
          rcases List.mem_cons.1 hk with rfl | hk
          · exact q2
          · exact hM k hk
        · exact h.elim
      · split at h
        · exact oneB_ok hbk hc ok hs ha hM hv hr h (fun ts' s' H' q1 q2 q3 q4 q5 => schQ_ok hbk hc f ok q1 q2 q3 q4 q5)
        · split at h
          · rename_i e he
            obtain ⟨q1, q2, q3, q4⟩ := lateOf_of he
            obtain ⟨s', h3, h4⟩ := putQ_of (d := some e.d) hs h
            have hd : ∀ x ∈ A, some e.d ≠ some x.d := fun x hx q => q3 (List.mem_map.2 ⟨x, hx, (Option.some.inj q).symm⟩)
            refine DG.defer (schQ_ok hbk hc f ⟨fun x hx => ?_, ?_, ?_⟩ h3 (fun x hx => ?_) hM ?_ h4)
            · rcases List.mem_cons.1 hx with rfl | hx
              · exact q1
              · exact ok.adf x hx
            · rw [List.map_cons, List.nodup_cons]; exact ⟨q2, ok.nda⟩
            · rw [List.map_cons, List.nodup_cons]; exact ⟨q3, ok.ndd⟩
            · rcases List.mem_cons.1 hx with rfl | hx
              · rw [putT_get, if_pos ⟨rfl, by rw [hs.len]; exact q1.lt⟩]
              · exact putT_any ha hd x hx
            · refine valid_more q4 hM (fun k hk => hk) (fun t ht => ?_) (fun _ _ q => q) hv
              rw [putT_get, if_neg (fun q => ht (by rw [← Option.some.inj q.1]; exact List.mem_singleton.2 rfl))]
          · exact h.elim
theorem DA.mono' {P : Program} {B : Nat} {ops : Array Oper} {M L : List Nat} {ts : List AV} {H : AH} {Q Q' : Post} (h : DA P B ops M L ts H Q) (hq : ∀ x ts H, Q x ts H → Q' x ts H) : DA P B ops M L ts H Q' := fun n Lc μ w a hn d =>
  wpAny_mono (fun e a w ⟨x, ts, H, μ, h1, h2⟩ => ⟨x, ts, H, μ, hq _ _ _ h1, h2⟩) n Lc a w (h n Lc μ w a hn d)
def drawQ (P : Program) (n : Nat) (ops : Array Oper) : CB :=
  bif seqOK P n ops && Nat.blt n 1023 then seqQ P n ops.toList
  else bif backB ops then schQ P n ops (3 * ops.size + 1) [] [] []
  else ⟨fun _ _ _ _ => False⟩
theorem drawQ_ok {P : Program} (hm : P.follows .mixedOrders = true) {call : CallQ} (hc : CallQOK P call) {B id n : Nat} {ops : Array Oper} {ts : List AV} {s : VT} {H : AH} {K : KV} {Q : Post} (hs : SRV n ts s) (h : (drawQ P n ops).go call s H K) (hK : ∀ x ts' s' H', SRV n ts' s' → K x s' H' → Q x ts' H') : Tri P B (.region id ops true) ts H Q := by
  unfold drawQ at h
  rcases hb : (seqOK P n ops && Nat.blt n 1023) with _ | _
  · rw [hb] at h
    simp only [cond_false] at h
    rcases hbk : backB ops with _ | _
    · rw [hbk] at h; exact h.elim
    · rw [hbk] at h
      have h : (schQ P n ops (3 * ops.size + 1) [] [] []).go call s H K := h
      refine Tri.mono (Tri.drawn hm (DG.da (schQ_ok hbk hc _ ⟨(fun _ q => by cases q), List.nodup_nil, List.nodup_nil⟩ hs (fun _ q => by cases q) (fun k hk => by cases hk) trivial h))) (fun x ts1 H1 h1 => ?_)
      obtain ⟨s', q1, q2⟩ := h1
      exact hK _ _ _ _ q1 q2
  · rw [hb] at h
    simp only [cond_true] at h
    simp only [Bool.and_eq_true] at hb
    have hn : n < 1023 := Nat.le_of_ble_eq_true hb.2
    have hbk : backB ops = true := by
      have := hb.1
      unfold seqOK at this
      rw [Bool.and_eq_true] at this
      exact this.1
    have hsl : SR n ts (SL.lay ts 0 (SL.mk 10)) := by
      have := SR.start (as := ts) (n := n) (by rw [hs.len]; exact Nat.le_refl _) hn
      rwa [show n - ts.length = 0 by rw [hs.len]; omega, List.replicate_zero, List.append_nil] at this
    refine Tri.drawn hm ?_
    refine seqS_ok (K := fun sl' => ∃ ts' s', SRV n ts' s' ∧ SR n ts' sl' ∧ K .normal s' H) hb.1 hbk (fun ts1 sl1 q1 q2 => ?_) ops.toList 0 ts _ (by simp) (by simp) hsl (fun j o hj => by omega) (seqQ_ok ops.toList hs hsl h)
    obtain ⟨ts2, s2, q3, q4, q5⟩ := q2
    have e : ts1 = ts2 := by
      refine List.ext_getElem? fun i => ?_
      have g : ts1.getD i .any = ts2.getD i .any := by
        have a1 : ts1.getD i .any = sl1.get i := congrFun q1.get i
        have a2 : ts2.getD i .any = sl1.get i := congrFun q4.get i
        rw [a1, a2]
      by_cases hi : i < n
      · rw [List.getD_eq_getElem?_getD, List.getD_eq_getElem?_getD, List.getElem?_eq_getElem (by rw [q1.len]; exact hi), List.getElem?_eq_getElem (by rw [q3.len]; exact hi)] at g
        rw [List.getElem?_eq_getElem (by rw [q1.len]; exact hi), List.getElem?_eq_getElem (by rw [q3.len]; exact hi)]
        exact congrArg some g
      · rw [List.getElem?_eq_none (by rw [q1.len]; omega), List.getElem?_eq_none (by rw [q3.len]; omega)]
    subst e
    exact hK _ _ _ _ q3 q5
end
end Go.Eng
/- The engine, thirty-eighth part, beside: what an operation waits for, as bits of a number. -/
namespace Go.Eng
open Go Go.RowKit
set_option linter.unusedVariables false
set_option linter.unusedSimpArgs false
noncomputable section
/-- A bit. -/
def tb (m i : Nat) : Bool := Nat.beq (Nat.land (Nat.shiftRight m i) 1) 1
theorem tb_eq (m i : Nat) : tb m i = Nat.testBit m i := by
  unfold tb Nat.testBit
  have e : Nat.land (Nat.shiftRight m i) 1 = (m >>> i) &&& 1 := rfl
  rw [e, Nat.and_comm]
  have h : 1 &&& (m >>> i) = (m >>> i) % 2 := by rw [Nat.and_comm]; exact Nat.and_one_is_mod _
  rw [h]
  rcases Nat.mod_two_eq_zero_or_one (m >>> i) with q | q <;> rw [q] <;> rfl
theorem tb_lor (a b i : Nat) : tb (Nat.lor a b) i = (tb a i || tb b i) := by
  rw [tb_eq, tb_eq, tb_eq]
  exact Nat.testBit_or a b i
theorem tb_zero (i : Nat) : tb 0 i = false := by rw [tb_eq]; exact Nat.zero_testBit i
theorem tb_one (d i : Nat) : tb (Nat.shiftLeft 1 d) i = Nat.beq d i := by
  rw [tb_eq]
  show Nat.testBit (1 <<< d) i = _
  rw [Nat.shiftLeft_eq, Nat.one_mul, Nat.testBit_two_pow]
  by_cases h : d = i
  · subst h; simp
  · rw [decide_eq_false h]
    symm
    rcases hb : Nat.beq d i with _ | _
    · rfl
    · exact absurd (Nat.eq_of_beq_eq_true hb) h
/-- What a row of edges stands for; g: what those wait for. -/
def orE (g : Nat → Nat) (l : List Edge) : Nat := @List.rec Edge (fun _ => Nat) 0 (fun e _ m => bif Region.binds .any e then Nat.lor (Nat.lor (Nat.shiftLeft 1 e.on) (g e.on)) m else m) l
theorem tb_orE {g : Nat → Nat} {i : Nat} : ∀ {l : List Edge}, tb (orE g l) i = l.any (fun e => Region.binds .any e && (Nat.beq e.on i || tb (g e.on) i))
  | [] => tb_zero i
  | e :: l => by
    have ih := tb_orE (g := g) (i := i) (l := l)
    show tb (bif Region.binds .any e then Nat.lor (Nat.lor (Nat.shiftLeft 1 e.on) (g e.on)) (orE g l) else orE g l) i = _
    rw [List.any_cons, ← ih]
    cases Region.binds .any e
    · rfl
    · simp only [cond_true, tb_lor, tb_one, Bool.true_and]
def wget (W tab j : Nat) : Nat := Nat.land (Nat.shiftRight tab (Nat.mul W j)) (Nat.sub (Nat.pow 2 W) 1)
def nil0 : Nat → Nat := fun _ => 0
/-- Tables: what each waits for; what stands right ahead of each. -/
def wtab (W : Nat) (l : List Oper) : Nat → Nat → Nat := @List.rec Oper (fun _ => Nat → Nat → Nat) (fun _ tab => tab) (fun o _ ih j tab => ih (Nat.succ j) (Nat.lor tab (Nat.shiftLeft (orE (wget W tab) o.after.toList) (Nat.mul W j)))) l
def dtab (W : Nat) (l : List Oper) : Nat → Nat → Nat := @List.rec Oper (fun _ => Nat → Nat → Nat) (fun _ tab => tab) (fun o _ ih j tab => ih (Nat.succ j) (Nat.lor tab (Nat.shiftLeft (orE nil0 o.after.toList) (Nat.mul W j)))) l
/-- Are the tables right? -/
def tabOK (W : Nat) (t d : Nat) (l : List Oper) : Nat → Bool := @List.rec Oper (fun _ => Nat → Bool) (fun _ => true) (fun o _ ih j => (Nat.beq (wget W t j) (orE (wget W t) o.after.toList) && Nat.beq (wget W d j) (orE nil0 o.after.toList)) && ih (Nat.succ j)) l
structure TabOK (ops : Array Oper) (t d : Nat) : Prop where
  bk : backB ops = true
  w : ∀ j o, ops[j]? = some o → wget ops.size t j = orE (wget ops.size t) o.after.toList
  d : ∀ j o, ops[j]? = some o → wget ops.size d j = orE nil0 o.after.toList
theorem tabOK_of {W t d : Nat} : ∀ {l : List Oper} {j : Nat}, tabOK W t d l j = true → ∀ i o, l[i]? = some o → wget W t (j + i) = orE (wget W t) o.after.toList ∧ wget W d (j + i) = orE nil0 o.after.toList
  | [], j, _, i, o, h => by simp at h
  | x :: l, j, hh, i, o, h => by
    have hh : ((Nat.beq (wget W t j) (orE (wget W t) x.after.toList) && Nat.beq (wget W d j) (orE nil0 x.after.toList)) && tabOK W t d l (Nat.succ j)) = true := hh
    simp only [Bool.and_eq_true] at hh
    cases i with
    | zero =>
      simp only [List.getElem?_cons_zero, Option.some.injEq] at h
      subst h
      exact ⟨Nat.eq_of_beq_eq_true hh.1.1, Nat.eq_of_beq_eq_true hh.1.2⟩
    | succ i =>
      have := tabOK_of (l := l) hh.2 i o (by simpa using h)
      rw [show j + (i + 1) = Nat.succ j + i by omega]
      exact this
theorem TabOK.of {ops : Array Oper} {t d : Nat} (hb : backB ops = true) (h : tabOK ops.size t d ops.toList 0 = true) : TabOK ops t d := by
  refine ⟨hb, fun j o ho => ?_, fun j o ho => ?_⟩ <;> have := tabOK_of h j o (by rw [Array.getElem?_toList]; exact ho)
  · rw [Nat.zero_add] at this; exact this.1
  · rw [Nat.zero_add] at this; exact this.2
section
variable {ops : Array Oper} {t d : Nat}
theorem TabOK.waits (T : TabOK ops t d) : ∀ (f j : Nat), j < f → j < ops.size → ∀ i, tb (wget ops.size t j) i = (waitsFor ops f j).contains i
  | 0, j, h, _, i => by omega
  | f + 1, j, h, hj, i => by
    obtain ⟨o, ho⟩ : ∃ o, ops[j]? = some o := ⟨ops[j], Array.getElem?_eq_getElem hj⟩
    rw [T.w j o ho, tb_orE]
    simp only [waitsFor, ho]
    have key : ∀ e ∈ o.after.toList, Region.binds .any e = true → tb (wget ops.size t e.on) i = (waitsFor ops f e.on).contains i := fun e he hb => by
      have := backB_spec T.bk ho (by simpa using he) hb
      exact TabOK.waits T f e.on (by omega) (by omega) i
    generalize o.after.toList = l at key
    induction l with
    | nil => rfl
    | cons e l ih =>
      have ih := ih (fun x hx => key x (List.mem_cons_of_mem _ hx))
      rw [List.any_cons, ih, List.filter_cons]
      rcases hb : Region.binds .any e with _ | _
      · simp
      · simp only [hb, Bool.true_and, if_true, List.flatMap_cons, key e List.mem_cons_self hb]
        rw [List.cons_append, List.contains_cons]
        have hc : (i == e.on) = Nat.beq e.on i := by
          rcases hq : Nat.beq e.on i with _ | _
          · exact beq_eq_false_iff_ne.2 (fun q => by subst q; rw [Nat.beq_refl] at hq; cases hq)
          · rw [Nat.eq_of_beq_eq_true hq]; exact beq_self_eq_true i
        rw [hc]
        have ha : ∀ (a b : List Nat), (a ++ b).contains i = (a.contains i || b.contains i) := fun a b => by
          rcases h1 : (a ++ b).contains i with _ | _
          · symm
            rw [Bool.or_eq_false_iff]
            constructor
            · rcases h2 : a.contains i with _ | _
              · rfl
              · rw [List.contains_iff_mem.2 (List.mem_append_left _ (List.contains_iff_mem.1 h2))] at h1; cases h1
            · rcases h2 : b.contains i with _ | _
              · rfl
              · rw [List.contains_iff_mem.2 (List.mem_append_right _ (List.contains_iff_mem.1 h2))] at h1; cases h1
          · symm
            rcases List.mem_append.1 (List.contains_iff_mem.1 h1) with q | q
            · rw [List.contains_iff_mem.2 q]; rfl
            · rw [List.contains_iff_mem.2 q, Bool.or_true]
        rw [ha, Bool.or_assoc]
/-- Those that do not stand ahead of j. -/
def besT (W t : Nat) (M : List Nat) (j : Nat) : List Nat := bif Nat.blt j W then M.filter (fun i => !tb (wget W t j) i) else M
theorem besT_eq (T : TabOK ops t d) (M : List Nat) (j : Nat) : besT ops.size t M j = besides ops M j := by
  unfold besT besides
  rcases hb : Nat.blt j ops.size with _ | _
  · have : ops.size ≤ j := by
      rcases Nat.lt_or_ge j ops.size with q | q
      · rw [show Nat.blt j ops.size = true from Nat.ble_eq_true_of_le q] at hb; cases hb
      · exact q
    have e : waitsFor ops ops.size j = [] := by
      have hn : ops[j]? = none := Array.getElem?_eq_none this
      cases hs : ops.size with
      | zero => rfl
      | succ n => simp [waitsFor, hn]
    rw [e]
    exact (List.filter_eq_self.2 (fun _ _ => rfl)).symm
  · have hj : j < ops.size := Nat.le_of_ble_eq_true hb
    simp only [cond_true]
    congr 1
    funext i
    rw [T.waits ops.size j hj hj]
def waitT (W t a i : Nat) : Bool := bif Nat.blt a W then tb (wget W t a) i else false
theorem waitT_eq (T : TabOK ops t d) (a i : Nat) : waitT ops.size t a i = (waitsFor ops ops.size a).contains i := by
  unfold waitT
  rcases hb : Nat.blt a ops.size with _ | _
  · have : ops.size ≤ a := by
      rcases Nat.lt_or_ge a ops.size with q | q
      · rw [show Nat.blt a ops.size = true from Nat.ble_eq_true_of_le q] at hb; cases hb
      · exact q
    have hn : ops[a]? = none := Array.getElem?_eq_none this
    cases hs : ops.size with
    | zero => rfl
    | succ n => simp [waitsFor, hn]
  · have hj : a < ops.size := Nat.le_of_ble_eq_true hb
    exact T.waits ops.size a hj hj i
/-- A row as bits. -/
def maskL (l : List Nat) : Nat := @List.rec Nat (fun _ => Nat) 0 (fun i _ m => Nat.lor (Nat.shiftLeft 1 i) m) l
theorem tb_mask (i : Nat) : ∀ (l : List Nat), tb (maskL l) i = l.contains i
  | [] => tb_zero i
  | x :: l => by
    show tb (Nat.lor (Nat.shiftLeft 1 x) (maskL l)) i = _
    rw [tb_lor, tb_one, tb_mask i l, List.contains_cons]
    congr 1
    rcases hq : Nat.beq x i with _ | _
    · exact (beq_eq_false_iff_ne.2 (fun q => by subst q; rw [Nat.beq_refl] at hq; cases hq)).symm
    · rw [Nat.eq_of_beq_eq_true hq]; exact (beq_self_eq_true i).symm
theorem sub_mask {a m : Nat} : Nat.beq (Nat.land a m) a = true ↔ ∀ i, tb a i = true → tb m i = true := by
  constructor
  · intro h i hi
    have h := Nat.eq_of_beq_eq_true h
    rw [tb_eq] at hi ⊢
    rw [← h] at hi
    have : (a &&& m).testBit i = true := hi
    rw [Nat.testBit_and, Bool.and_eq_true] at this
    exact this.2
  · intro h
    have e : Nat.land a m = a := by
      show a &&& m = a
      refine Nat.eq_of_testBit_eq (fun i => ?_)
      rw [Nat.testBit_and]
      rcases hq : a.testBit i with _ | _
      · rfl
      · have := h i (by rw [tb_eq]; exact hq)
        rw [tb_eq] at this
        rw [this]; rfl
    rw [e]; exact Nat.beq_refl a
/-- What may come next. -/
def readyT (W d : Nat) (L : List Nat) : List Nat := (fun m => (List.range W).filter fun j => !tb m j && Nat.beq (Nat.land (wget W d j) m) (wget W d j)) (maskL L)
theorem readyT_eq (T : TabOK ops t d) (L : List Nat) : readyT ops.size d L = readyAbs ops L := by
  unfold readyT readyAbs
  refine List.filter_congr (fun j hj => ?_)
  rw [List.mem_range] at hj
  obtain ⟨o, ho⟩ : ∃ o, ops[j]? = some o := ⟨ops[j], Array.getElem?_eq_getElem hj⟩
  rw [ho, tb_mask, T.d j o ho]
  congr 1
  simp only []
  have h1 : (∀ i, tb (orE nil0 o.after.toList) i = true → tb (maskL L) i = true) ↔ (o.after.toList.all fun e => !Region.binds .any e || L.contains e.on) = true := by
    rw [List.all_eq_true]
    constructor
    · intro h e he
      rcases hb : Region.binds .any e with _ | _
      · rfl
      · have := h e.on (by
          rw [tb_orE, List.any_eq_true]
          exact ⟨e, he, by rw [hb, Nat.beq_refl]; rfl⟩)
        rw [tb_mask] at this
        rw [this]; rfl
    · intro h i hi
      rw [tb_orE, List.any_eq_true] at hi
      obtain ⟨e, he, hq⟩ := hi
      rw [Bool.and_eq_true] at hq
      obtain ⟨q1, q2⟩ := hq
      rw [show tb (nil0 e.on) i = false from tb_zero i, Bool.or_false] at q2
      have := h e he
      rw [q1] at this
      rw [tb_mask, ← Nat.eq_of_beq_eq_true q2]
      simpa using this
  rcases h2 : (o.after.toList.all fun e => !Region.binds .any e || L.contains e.on) with _ | _
  · rcases h3 : Nat.beq (Nat.land (orE nil0 o.after.toList) (maskL L)) (orE nil0 o.after.toList) with _ | _
    · rfl
    · rw [h1.1 (sub_mask.1 h3)] at h2; cases h2
  · exact sub_mask.2 (h1.2 h2)
end
end
end Go.Eng
