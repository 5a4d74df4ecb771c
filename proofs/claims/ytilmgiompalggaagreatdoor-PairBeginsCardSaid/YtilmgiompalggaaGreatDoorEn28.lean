/- The engine, thirty-eighth part, beside: three that may come next, of which two make blocks. -/
import Derived.Test.YtilmgiompalggaaGreatDoorEn27
namespace Go.Eng
open Go Go.RowKit
set_option linter.unusedVariables false
set_option linter.unusedSimpArgs false
noncomputable section
def upd (f : Nat → AV) (d : Nat) (u : AV) : Nat → AV := fun t => if t = d then u else f t
/-- Slots, told one by one. -/
structure TsF (n : Nat) (ts : List AV) (f : Nat → AV) : Prop where
  len : ts.length = n
  at_ : ∀ t, ts.getD t .any = f t
theorem TsF.put {n : Nat} {ts : List AV} {f : Nat → AV} (h : TsF n ts f) {d : Nat} (hd : d < n) (u : AV) : TsF n (putT ts (some d) u) (upd f d u) := by
  refine ⟨by rw [putT_len]; exact h.len, fun t => ?_⟩
  rw [putT_get]
  unfold upd
  by_cases e : t = d
  · subst e
    rw [if_pos ⟨rfl, by rw [h.len]; exact hd⟩, if_pos rfl]
  · rw [if_neg (fun q => e (by cases q.1; rfl)), if_neg e]
    exact h.at_ t
/-- Reads that come right behind a call: operation, slot, value. -/
abbrev XL := List (Nat × Nat × AV)
def tsE (us : List AV) (E : XL) : List AV := E.foldl (fun us e => putT us (some e.2.1) e.2.2) us
def updE (f : Nat → AV) (E : XL) : Nat → AV := E.foldl (fun f e => upd f e.2.1 e.2.2) f
def ixE (E : XL) : List Nat := (E.map (·.1)).reverse
theorem TsF.putE {n : Nat} : ∀ {E : XL} {ts : List AV} {f : Nat → AV}, TsF n ts f → (∀ e ∈ E, e.2.1 < n) → TsF n (tsE ts E) (updE f E)
  | [], _, _, h, _ => h
  | e :: E, _, _, h, hl => TsF.putE (E := E) (h.put (hl e List.mem_cons_self) e.2.2) (fun x hx => hl x (List.mem_cons_of_mem _ hx))
theorem upd_comm {f : Nat → AV} {d e : Nat} (h : d ≠ e) (u v : AV) : upd (upd f d u) e v = upd (upd f e v) d u := by
  funext t
  unfold upd
  by_cases x : t = e
  · subst x; rw [if_pos rfl, if_neg (Ne.symm h), if_pos rfl]
  · rw [if_neg x]
    by_cases y : t = d
    · rw [if_pos y, if_pos y]
    · rw [if_neg y, if_neg y, if_neg x]
theorem updE_comm : ∀ {E : XL} {f : Nat → AV} {d : Nat} {u : AV}, (∀ e ∈ E, e.2.1 ≠ d) → updE (upd f d u) E = upd (updE f E) d u
  | [], _, _, _, _ => rfl
  | e :: E, f, d, u, h => by
    show updE (upd (upd f d u) e.2.1 e.2.2) E = upd (updE (upd f e.2.1 e.2.2) E) d u
    rw [upd_comm (Ne.symm (h e List.mem_cons_self))]
    exact updE_comm (fun x hx => h x (List.mem_cons_of_mem _ hx))
theorem tsE_len : ∀ {E : XL} {us : List AV}, (tsE us E).length = us.length
  | [], _ => rfl
  | e :: E, us => (tsE_len (E := E)).trans (putT_len _ _ _)
/-- Slots alike stay alike. -/
theorem tsE_same {t : Nat} : ∀ {E : XL} {us ts : List AV}, us.length = ts.length → us.getD t .any = ts.getD t .any → (tsE us E).getD t .any = (tsE ts E).getD t .any
  | [], _, _, _, h => h
  | e :: E, us, ts, hl, h => by
    refine tsE_same (E := E) (by rw [putT_len, putT_len]; exact hl) ?_
    rw [putT_get, putT_get, hl]
    by_cases q : some e.2.1 = some t ∧ t < ts.length
    · rw [if_pos q, if_pos q]
    · rw [if_neg q, if_neg q]; exact h
theorem DA.takes {P : Program} {B : Nat} {ops : Array Oper} {H : AH} {Q : Post} : ∀ {E : XL} {M L : List Nat} {us : List AV}, (∀ e ∈ E, dstOf ops e.1 = some e.2.1 ∧ e.1 ∉ L) → (E.map (·.1)).Nodup → DA P B ops (ixE E ++ M) (ixE E ++ L) (tsE us E) H Q → DA P B ops M L us H Q
  | [], _, _, _, _, _, h => h
  | e :: E, M, L, us, hE, hN, h => by
    obtain ⟨h1, h2⟩ := hE e List.mem_cons_self
    simp only [List.map_cons, List.nodup_cons] at hN
    refine DA.take e.1 e.2.2 (by simpa using h2) ?_
    rw [h1]
    refine DA.takes (E := E) (fun x hx => ⟨(hE x (List.mem_cons_of_mem _ hx)).1, ?_⟩) hN.2 ?_
    · intro hm
      rcases List.mem_cons.1 hm with q | q
      · exact hN.1 (q ▸ List.mem_map.2 ⟨x, hx, rfl⟩)
      · exact (hE x (List.mem_cons_of_mem _ hx)).2 q
    · have e1 : ∀ X : List Nat, ixE (e :: E) ++ X = ixE E ++ e.1 :: X := fun X => by simp [ixE]
      rw [e1, e1] at h
      exact h
section
variable {P : Program} {B n : Nat} {ops : Array Oper} {M L : List Nat} {ts : List AV} {H : AH} {Q : Post} {c a1 a2 dc d1 d2 : Nat} {b1 b2 : ABlk} {mk1 mk2 : Nat → AV}
/-- All three are done. -/
theorem three_end (A1 : ADF P n ops a1 d1 b1 mk1) (A2 : ADF P n ops a2 d2 b2 mk2) (h12 : d1 ≠ d2) {H' G : AH} {v : AV} {tsf tsx : List AV} {f : Nat → AV} {n1 n2 : Nat} {Mf Lf Lx : List Nat}
    (hf : TsF n tsf (upd (upd f d1 (mk1 (H'.next + 2))) d2 (mk2 (H'.next + 3)))) (hx : TsF n tsx (upd (upd f d1 (mk1 n1)) d2 (mk2 n2))) (hg1 : G.get n1 = some b1) (hg2 : G.get n2 = some b2) (hn : n1 ≠ n2) (hH : ∀ b x, H'.get b = some x → G.get b = some x ∧ b ≠ n1 ∧ b ≠ n2) (hnx : G.next ≤ H'.next + 2)
    (hL : ∀ j, j ∈ Lf ↔ j ∈ Lx) (h : DA P B ops Mf Lf tsf ((H'.keep.keep.push b1).push b2) Q) : DA P B ops Mf Lx tsx G Q := by
  refine DA.perm hL (DA.ren (d1 := d1) (d2 := d2) A1.ok A2.ok hg1 hg2 hn hH hnx (by rw [hf.len, hx.len]) h12 (fun t q1 q2 => ?_) ?_ ?_ ?_ ?_ h)
  · rw [hf.at_, hx.at_]
    unfold upd
    rw [if_neg q2, if_neg q1, if_neg q2, if_neg q1]
  · rw [hx.at_]; unfold upd; rw [if_neg h12, if_pos rfl]
  · rw [hf.at_]; unfold upd; rw [if_neg h12, if_pos rfl]
  · rw [hx.at_]; unfold upd; rw [if_pos rfl]
  · rw [hf.at_]; unfold upd; rw [if_pos rfl]
/-- One that makes a block is all that may come next. -/
theorem exec_one {a d : Nat} {b : ABlk} {mk : Nat → AV} (A : ADF P n ops a d b mk) (hbk : backB ops = true) {M0 L0 : List Nat} {us : List AV} {G : AH} (hr : readyAbs ops L0 = [a]) (hv : ValidL P ops M0 us G M0) (h : DA P B ops (besides ops M0 a) (a :: L0) (putT us (some d) (mk G.next)) (G.push b) Q) : DA P B ops M0 L0 us G Q := by
  obtain ⟨oa, e1, e2⟩ := A.step
  refine DA.exec [a] ⟨hr, rfl, hbk⟩ hv ⟨?_, trivial⟩
  refine OpJ.step 0 e1 (e2 _ _) ?_
  rw [A.hd]
  exact h
theorem less_slots {js : List Nat} {us : List AV} (hlen : us.length = ts.length) (hs : ∀ t, t ≠ d1 → t ≠ d2 → us.getD t .any = ts.getD t .any) (hj : ∀ i ∈ js, i ∈ besides ops M c) {μ : Mu} {tmps : Array Value} (r : Rel μ (scrub ops js us) tmps) : Rel μ (putT (putT (scrub ops (besides ops M c) ts) (some d1) .any) (some d2) .any) tmps := by
  refine Rel.of_get ?_ (fun t => ?_)
  · have h1 : (scrub ops js us).length = tmps.size := by have := r.len; simpa using this
    rw [putT_len, putT_len, scrub_len, ← h1, scrub_len, hlen]
  · rw [putT_get, putT_get, putT_len]
    by_cases e2 : some d2 = some t ∧ t < (scrub ops (besides ops M c) ts).length
    · rw [if_pos e2]; simp [VRel]
    · rw [if_neg e2]
      by_cases e1 : some d1 = some t ∧ t < (scrub ops (besides ops M c) ts).length
      · rw [if_pos e1]; simp [VRel]
      · rw [if_neg e1]
        have hr := r.get t
        by_cases e3 : ∃ j ∈ besides ops M c, dstOf ops j = some t
        · rw [scrub_any _ _ _ _ e3]; simp [VRel]
        · have e4 : ∀ j ∈ besides ops M c, dstOf ops j ≠ some t := fun j hj hd => e3 ⟨j, hj, hd⟩
          rw [scrub_same _ _ _ _ e4]
          rw [scrub_same _ _ _ _ (fun j h => e4 j (hj j h))] at hr
          have out : ts.length ≤ t → VRel μ (ts.getD t .any) (tmps.getD t undef) := fun h => by
            have : ts.getD t .any = .any := by rw [List.getD_eq_getElem?_getD, List.getElem?_eq_none h]; rfl
            rw [this]; simp [VRel]
          rw [scrub_len] at e1 e2
          by_cases x1 : t = d1
          · exact out (Nat.le_of_not_lt fun h => e1 ⟨by rw [x1], h⟩)
          · by_cases x2 : t = d2
            · exact out (Nat.le_of_not_lt fun h => e2 ⟨by rw [x2], h⟩)
            · rw [hs t x1 x2] at hr
              exact hr
/-- What is asked behind the call. -/
structure KC (P : Program) (B : Nat) (ops : Array Oper) (M L : List Nat) (ts : List AV) (H : AH) (Q : Post) (c a1 a2 dc d1 d2 : Nat) (b1 b2 : ABlk) (mk1 mk2 : Nat → AV) (E : AV → XL) (v : AV) (H' : AH) : Prop where
  f0 : H'.get H.next = none
  f1 : H'.get (H.next + 1) = none
  nx : H.next + 2 ≤ H'.next
  g0 : H'.get H'.next = none
  g1 : H'.get (H'.next + 1) = none
  va : ValidL P ops (ixE (E v) ++ besides ops M c) (tsE (putT ts (some dc) v) (E v)) H' (ixE (E v) ++ besides ops M c)
  fin : DA P B ops (besides ops (besides ops (ixE (E v) ++ besides ops M c) a1) a2) (a2 :: a1 :: (ixE (E v) ++ c :: L)) (putT (putT (tsE (putT ts (some dc) v) (E v)) (some d1) (mk1 (H'.next + 2))) (some d2) (mk2 (H'.next + 3))) ((H'.keep.keep.push b1).push b2) Q
structure Ready (ops : Array Oper) (L es : List Nat) (c a1 a2 : Nat) : Prop where
  r0 : (∀ j ∈ readyAbs ops L, j = c ∨ j = a1 ∨ j = a2) ∧ (readyAbs ops L).isEmpty = false
  rc : (∀ j ∈ readyAbs ops (es ++ c :: L), j = a1 ∨ j = a2) ∧ (readyAbs ops (es ++ c :: L)).isEmpty = false
  r1 : (∀ j ∈ readyAbs ops (a1 :: L), j = c ∨ j = a2) ∧ (readyAbs ops (a1 :: L)).isEmpty = false
  r2 : (∀ j ∈ readyAbs ops (a2 :: L), j = c ∨ j = a1) ∧ (readyAbs ops (a2 :: L)).isEmpty = false
  rc1 : readyAbs ops (a1 :: (es ++ c :: L)) = [a2]
  rc2 : readyAbs ops (a2 :: (es ++ c :: L)) = [a1]
  r1c : readyAbs ops (es ++ c :: a1 :: L) = [a2]
  r2c : readyAbs ops (es ++ c :: a2 :: L) = [a1]
  r12 : readyAbs ops (a2 :: a1 :: L) = [c]
  r21 : readyAbs ops (a1 :: a2 :: L) = [c]
theorem branches_of {F : List Nat} {P : Program} {B : Nat} {ops : Array Oper} {Q : Post} {M L : List Nat} {ts : List AV} {H : AH} (h : ∀ j ∈ F, OpJ P B ops Q j (scrub ops (besides ops M j) ts) H (fun v H' => DA P B ops (besides ops M j) (j :: L) (putT ts (dstOf ops j) v) H' Q)) : Branches P B ops Q M L ts H F := by
  induction F with
  | nil => trivial
  | cons j F ih => exact ⟨h j List.mem_cons_self, ih (fun i hi => h i (List.mem_cons_of_mem _ hi))⟩
theorem OpJ.alloc {a d : Nat} {b : ABlk} {mk : Nat → AV} (A : ADF P n ops a d b mk) {M0 L0 : List Nat} {us uss : List AV} {G : AH} (h : DA P B ops (besides ops M0 a) (a :: L0) (putT us (some d) (mk G.next)) (G.push b) Q) : OpJ P B ops Q a uss G (fun v H' => DA P B ops (besides ops M0 a) (a :: L0) (putT us (dstOf ops a) v) H' Q) := by
  obtain ⟨oa, e1, e2⟩ := A.step
  refine OpJ.step 0 e1 (e2 _ _) ?_
  rw [A.hd]
  exact h
theorem get_push_at {G : AH} {b : ABlk} {m : Nat} (h : m = G.next) : (G.push b).get m = some b := by rw [AH.get_push, if_pos h]
theorem get_push_ne {G : AH} {b : ABlk} {m : Nat} (h : m ≠ G.next) : (G.push b).get m = G.get m := by rw [AH.get_push, if_neg h]
theorem get_push_old {H : AH} {b : ABlk} (hf : H.get H.next = none) : ∀ k x, H.get k = some x → (H.push b).get k = some x := fun k x hk => by
  rw [AH.get_push, if_neg (fun e => by rw [e, hf] at hk; cases hk)]
  exact hk
theorem get_set_old {H : AH} {m : Nat} {b : ABlk} (hf : H.get m = none) : ∀ k x, H.get k = some x → (H.set m b).get k = some x := fun k x hk => by
  rw [AH.get_set, if_neg (fun e => by rw [e, hf] at hk; cases hk)]
  exact hk
theorem DA.three (A1 : ADF P n ops a1 d1 b1 mk1) (A2 : ADF P n ops a2 d2 b2 mk2) (hbk : backB ops = true) (h12 : d1 ≠ d2) (hc1 : dc ≠ d1) (hc2 : dc ≠ d2) (hdc : dstOf ops c = some dc) (hlc : dc < n) (hn : ts.length = n) (E : AV → XL) (es : List Nat) (hes : ∀ v, ixE (E v) = es) (hE : ∀ v, ∀ e ∈ E v, dstOf ops e.1 = some e.2.1 ∧ e.2.1 < n ∧ e.2.1 ≠ d1 ∧ e.2.1 ≠ d2 ∧ e.1 ∉ a2 :: a1 :: c :: L) (hN : ∀ v, ((E v).map (·.1)).Nodup) (hb1 : besides ops es a1 = es) (hb2 : besides ops es a2 = es) (hpe : ∀ k ∈ es, PureAt P ops k) (R : Ready ops L es c a1 a2) (hap : apartOK P ops M [d1, d2] = true) (hapc : apartOK P ops (es ++ besides ops M c) [d1, d2] = true) (hM : ∀ k ∈ M, PureAt P ops k)
    (hv : ValidL P ops M ts H M) (hf0 : H.get H.next = none) (hf1 : H.get (H.next + 1) = none)
    (hcall : OpJ P B ops (fun _ _ _ => False) c (putT (putT (scrub ops (besides ops M c) ts) (some d1) .any) (some d2) .any) H.keep.keep (KC P B ops M L ts H Q c a1 a2 dc d1 d2 b1 b2 mk1 mk2 E)) : DA P B ops M L ts H Q := by
  have hF : TsF n ts (fun t => ts.getD t .any) := ⟨hn, fun _ => rfl⟩
  have sub1 : ∀ i k, i ∈ besides ops M k → i ∈ M := fun i k h => (List.mem_filter.1 h).1
  have bc : ∀ (X : List Nat) i k, i ∈ besides ops X k → i ∈ X := fun X i k h => (List.mem_filter.1 h).1
  have nds : ∀ t, t ∉ [d1, d2] → t ≠ d1 ∧ t ≠ d2 := fun t h => by simpa using h
  -- the end, from wherever
  have fin : ∀ {v H'} {G : AH} {tsx : List AV} {n1 n2 : Nat} {Mx Lx : List Nat}, KC P B ops M L ts H Q c a1 a2 dc d1 d2 b1 b2 mk1 mk2 E v H' → TsF n tsx (upd (upd (updE (upd (fun t => ts.getD t .any) dc v) (E v)) d1 (mk1 n1)) d2 (mk2 n2)) → G.get n1 = some b1 → G.get n2 = some b2 → n1 ≠ n2 → (∀ b x, H'.get b = some x → G.get b = some x ∧ b ≠ n1 ∧ b ≠ n2) → G.next ≤ H'.next + 2 →
      Mx = besides ops (besides ops (es ++ besides ops M c) a1) a2 → (∀ j, j ∈ (a2 :: a1 :: (es ++ c :: L)) ↔ j ∈ Lx) → DA P B ops Mx Lx tsx G Q := by
    intro v H' G tsx n1 n2 Mx Lx k hx g1 g2 hne hH hnx hMx hL
    subst hMx
    have kf := k.fin
    rw [hes] at kf
    exact three_end A1 A2 h12 (v := v) ((((hF.put hlc v).putE (fun e he => (hE v e he).2.1)).put A1.lt _).put A2.lt _) hx g1 g2 hne hH hnx hL kf
  -- the call, wherever
  have c0 : OpJ P B ops Q c (scrub ops (besides ops M c) ts) H (KC P B ops M L ts H Q c a1 a2 dc d1 d2 b1 b2 mk1 mk2 E) :=
    OpJ.slots (fun μ tmps r => less_slots rfl (fun _ _ _ => rfl) (fun _ h => h) r) (fun _ _ q => q.elim) (OpJ.keep (OpJ.keep hcall))
  have c1 : ∀ {b : ABlk} {us : List AV} {js : List Nat}, b.own = true → us.length = ts.length → (∀ t, t ≠ d1 → t ≠ d2 → us.getD t .any = ts.getD t .any) → (∀ i ∈ js, i ∈ besides ops M c) → OpJ P B ops Q c (scrub ops js us) (H.push b) (fun v H2 => ∃ H', KC P B ops M L ts H Q c a1 a2 dc d1 d2 b1 b2 mk1 mk2 E v H' ∧ H2 = H'.set H.next b) := by
    intro b us js hown hl hs hj
    have hf := OpJ.frame (H := H.keep.keep) (nx := H.next) (blk := b) (by show H.next < H.next + 2; omega) (show H.keep.keep.get H.next = none from hf0) hown hcall
    have e : H.keep.keep.set H.next b = (H.push b).keep := rfl
    rw [e] at hf
    exact OpJ.slots (fun μ tmps r => less_slots hl hs hj r) (fun x H1 ⟨_, q, _⟩ => q.elim) (OpJ.keep hf)
  have c2 : ∀ {b b' : ABlk} {us : List AV} {js : List Nat}, b.own = true → b'.own = true → us.length = ts.length → (∀ t, t ≠ d1 → t ≠ d2 → us.getD t .any = ts.getD t .any) → (∀ i ∈ js, i ∈ besides ops M c) → OpJ P B ops Q c (scrub ops js us) ((H.push b).push b') (fun v H2 => ∃ H', KC P B ops M L ts H Q c a1 a2 dc d1 d2 b1 b2 mk1 mk2 E v H' ∧ H2 = (H'.set H.next b).set (H.next + 1) b') := by
    intro b b' us js ho ho' hl hs hj
    have hf := OpJ.frame (H := H.keep.keep) (nx := H.next) (blk := b) (by show H.next < H.next + 2; omega) (show H.keep.keep.get H.next = none from hf0) ho hcall
    have hg := OpJ.frame (H := H.keep.keep.set H.next b) (nx := H.next + 1) (blk := b') (by show H.next + 1 < H.next + 2; omega) (by rw [AH.get_set, if_neg (by omega)]; exact hf1) ho' hf
    have e : (H.keep.keep.set H.next b).set (H.next + 1) b' = (H.push b).push b' := rfl
    rw [e] at hg
    refine OpJ.slots (fun μ tmps r => less_slots hl hs hj r) (fun x H1 ⟨_, ⟨_, q, _⟩, _⟩ => q.elim) (OpJ.monoK hg (fun v H2 q => ?_))
    obtain ⟨H1, ⟨H', q1, rfl⟩, rfl⟩ := q
    exact ⟨H', q1, rfl⟩
  have offd : ∀ {us : List AV} {u1 : AV} {d : Nat}, (d = d1 ∨ d = d2) → (∀ t, t ≠ d1 → t ≠ d2 → us.getD t .any = ts.getD t .any) → ∀ t, t ≠ d1 → t ≠ d2 → (putT us (some d) u1).getD t .any = ts.getD t .any := by
    intro us u1 d hd hs t x1 x2
    rw [putT_get, if_neg (fun q => by
      cases q.1
      rcases hd with e | e
      · exact x1 e
      · exact x2 e)]
    exact hs t x1 x2
  -- behind the call, one is left
  have last : ∀ {v H'} {G : AH} {us : List AV} {a d : Nat} {b : ABlk} {mk : Nat → AV} {M0 L0 : List Nat}, ADF P n ops a d b mk → KC P B ops M L ts H Q c a1 a2 dc d1 d2 b1 b2 mk1 mk2 E v H' → readyAbs ops L0 = [a] → (∀ k, k ∈ M0 → k ∈ es ++ besides ops M c) → (∀ t, t ≠ d1 → t ≠ d2 → us.getD t .any = (tsE (putT ts (some dc) v) (E v)).getD t .any) → (∀ k x, H'.get k = some x → G.get k = some x) →
      DA P B ops (besides ops M0 a) (a :: L0) (putT us (some d) (mk G.next)) (G.push b) Q → DA P B ops M0 L0 us G Q := by
    intro v H' G us a d b mk M0 L0 A k hr hsub hs hG h
    have kv := k.va
    rw [hes] at kv
    refine exec_one A hbk hr (valid_more hapc (fun k hk => by
      rcases List.mem_append.1 hk with q | q
      · exact hpe k q
      · exact hM k (sub1 k c q)) hsub (fun t ht => ?_) hG kv) h
    exact hs t (nds t ht).1 (nds t ht).2
  have pA : ∀ {us : List AV} {v : AV}, (∀ t, t ≠ d1 → t ≠ d2 → us.getD t .any = ts.getD t .any) → us.length = ts.length → ∀ t, t ≠ d1 → t ≠ d2 → (tsE (putT us (some dc) v) (E v)).getD t .any = (tsE (putT ts (some dc) v) (E v)).getD t .any := by
    intro us v hs hl t x1 x2
    refine tsE_same (by rw [putT_len, putT_len]; exact hl) ?_
    rw [putT_get, putT_get, hl]
    by_cases e : some dc = some t ∧ t < ts.length
    · rw [if_pos e, if_pos e]
    · rw [if_neg e, if_neg e]; exact hs t x1 x2
  have tk : ∀ v (Lx : List Nat), (∀ j ∈ Lx, j ∈ a2 :: a1 :: c :: L) → ∀ e ∈ E v, dstOf ops e.1 = some e.2.1 ∧ e.1 ∉ Lx := fun v Lx hx e he => ⟨(hE v e he).1, fun hm => (hE v e he).2.2.2.2 (hx _ hm)⟩
  have pE : ∀ v, ∀ e ∈ E v, e.2.1 < n := fun v e he => (hE v e he).2.1
  have n1E : ∀ v, ∀ e ∈ E v, e.2.1 ≠ d1 := fun v e he => (hE v e he).2.2.1
  have n2E : ∀ v, ∀ e ∈ E v, e.2.1 ≠ d2 := fun v e he => (hE v e he).2.2.2.1
  have bapp : ∀ (X Y : List Nat) a, besides ops (X ++ Y) a = besides ops X a ++ besides ops Y a := fun X Y a => List.filter_append _ _
  have canon : besides ops (besides ops (es ++ besides ops M c) a1) a2 = es ++ besides ops (besides ops (besides ops M c) a1) a2 := by rw [bapp, hb1, bapp, hb2]
  have mM : ∀ {X : List Nat} {a}, ∀ q, q ∈ besides ops (es ++ X) a → q ∈ es ++ X := fun q h => (List.mem_filter.1 h).1
  have ne1 : ∀ {H' : AH} {k x}, H'.get k = some x → ∀ {m}, H'.get m = none → k ≠ m := fun h m hm e => by rw [e, hm] at h; cases h
  refine DA.exec (readyAbs ops L) ⟨rfl, R.r0.2, hbk⟩ hv (branches_of fun j hj => ?_)
  rcases R.r0.1 j hj with rfl | rfl | rfl
  · refine OpJ.monoK c0 (fun v H' k => ?_)
    rw [hdc]
    have kv := k.va
    rw [hes] at kv
    refine DA.takes (E := E v) (tk v _ (fun q hq => List.mem_cons_of_mem _ (List.mem_cons_of_mem _ hq))) (hN v) ?_
    rw [hes]
    refine DA.exec (readyAbs ops (es ++ j :: L)) ⟨rfl, R.rc.2, hbk⟩ kv (branches_of fun i hi => ?_)
    rcases R.rc.1 i hi with rfl | rfl
    · refine OpJ.alloc A1 (last A2 k R.rc1 (fun q h => bc _ _ _ h) (fun t x1 x2 => ?_) (get_push_old k.g0) ?_)
      · rw [putT_get, if_neg (fun q => x1 (by cases q.1; rfl))]
      · refine fin k (n1 := H'.next) (n2 := H'.next + 1) ((((hF.put hlc v).putE (pE v)).put A1.lt _).put A2.lt _) ?_ ?_ (by omega) (fun b x hb => ⟨?_, ne1 hb k.g0, ne1 hb k.g1⟩) (Nat.le_refl _) rfl (fun j => Iff.rfl)
        · rw [AH.get_push, if_neg (by show H'.next ≠ H'.next + 1; omega), AH.get_push, if_pos rfl]
        · exact get_push_at rfl
        · exact (get_push_ne (show b ≠ H'.next + 1 from ne1 hb k.g1)).trans ((get_push_ne (ne1 hb k.g0)).trans hb)
    · refine OpJ.alloc A2 (last A1 k R.rc2 (fun q h => bc _ _ _ h) (fun t x1 x2 => ?_) (get_push_old k.g0) ?_)
      · rw [putT_get, if_neg (fun q => x2 (by cases q.1; rfl))]
      · have hx := (((hF.put hlc v).putE (pE v)).put A2.lt (mk2 H'.next)).put A1.lt (mk1 (H'.next + 1))
        rw [upd_comm (Ne.symm h12)] at hx
        refine fin k (n1 := H'.next + 1) (n2 := H'.next) hx ?_ ?_ (by omega) (fun b x hb => ⟨?_, ne1 hb k.g1, ne1 hb k.g0⟩) (Nat.le_refl _) (besides_comm _ _ _ _) (fun j => by simp only [List.mem_cons, List.mem_append]; constructor <;> (intro h; rcases h with h | h | h | h | h <;> simp [h]))
        · exact get_push_at rfl
        · rw [AH.get_push, if_neg (by show H'.next ≠ H'.next + 1; omega), AH.get_push, if_pos rfl]
        · exact (get_push_ne (show b ≠ H'.next + 1 from ne1 hb k.g1)).trans ((get_push_ne (ne1 hb k.g0)).trans hb)
  · refine OpJ.alloc A1 ?_
    refine DA.exec (readyAbs ops (j :: L)) ⟨rfl, R.r1.2, hbk⟩ (valid_more hap hM (fun q h => bc _ _ _ h) (fun t ht => offd (.inl rfl) (fun _ _ _ => rfl) t (nds t ht).1 (nds t ht).2) (get_push_old hf0) hv) (branches_of fun i hi => ?_)
    rcases R.r1.1 i hi with rfl | rfl
    · refine OpJ.monoK (c1 A1.own (putT_len _ _ _) (offd (.inl rfl) (fun _ _ _ => rfl)) (fun q h => bc _ _ _ (by rw [besides_comm] at h; exact h))) (fun v H2 q => ?_)
      obtain ⟨H', k, rfl⟩ := q
      rw [hdc]
      refine DA.takes (E := E v) (tk v _ (fun q hq => by simp only [List.mem_cons] at hq ⊢; rcases hq with hq | hq | hq <;> simp [hq])) (hN v) ?_
      rw [hes]
      refine last A2 k R.r1c (fun q h => by
        rcases List.mem_append.1 h with h | h
        · exact List.mem_append_left _ h
        · exact List.mem_append_right _ (bc _ _ _ (by rw [besides_comm] at h; exact h))) (pA (offd (.inl rfl) (fun _ _ _ => rfl)) (putT_len _ _ _)) (get_set_old k.f0) ?_
      have knx := k.nx
      have hx := (((hF.put A1.lt (mk1 H.next)).put hlc v).putE (pE v)).put A2.lt (mk2 H'.next)
      rw [upd_comm (Ne.symm hc1), updE_comm (n1E v)] at hx
      refine fin k (n1 := H.next) (n2 := H'.next) hx ?_ ?_ (by omega) (fun b x hb => ⟨?_, ne1 hb k.f0, ne1 hb k.g0⟩) (by show H'.next + 1 ≤ _; omega) (by rw [canon, bapp, hb2, besides_comm ops M]) (fun j => by simp only [List.mem_cons, List.mem_append]; constructor <;> (intro h; rcases h with h | h | h | h | h <;> simp [h]))
      · rw [AH.get_push, if_neg (by show H.next ≠ H'.next; omega), AH.get_set, if_pos rfl]
      · exact get_push_at rfl
      · exact (get_push_ne (G := H'.set H.next b1) (show b ≠ H'.next from ne1 hb k.g0)).trans (by rw [AH.get_set, if_neg (ne1 hb k.f0)]; exact hb)
    · refine OpJ.alloc A2 ?_
      refine DA.exec [c] ⟨R.r12, rfl, hbk⟩ (valid_more hap hM (fun q h => bc _ _ _ (bc _ _ _ h)) (fun t ht => offd (.inr rfl) (offd (.inl rfl) (fun _ _ _ => rfl)) t (nds t ht).1 (nds t ht).2) (fun q x h => get_push_old (by rw [AH.get_push, if_neg (by show H.next + 1 ≠ H.next; omega)]; exact hf1) q x (get_push_old hf0 q x h)) hv) ⟨?_, trivial⟩
      refine OpJ.monoK (c2 A1.own A2.own (by rw [putT_len, putT_len]) (offd (.inr rfl) (offd (.inl rfl) (fun _ _ _ => rfl))) (fun q h => bc _ _ _ (bc _ _ _ (by rw [besides_comm, besides_comm ops M] at h; exact h)))) (fun v H2 q => ?_)
      obtain ⟨H', k, rfl⟩ := q
      rw [hdc]
      refine DA.takes (E := E v) (tk v _ (fun q hq => by simp only [List.mem_cons] at hq ⊢; rcases hq with hq | hq | hq | hq <;> simp [hq])) (hN v) ?_
      rw [hes]
      have knx := k.nx
      have hx := (((hF.put A1.lt (mk1 H.next)).put A2.lt (mk2 (H.next + 1))).put hlc v).putE (pE v)
      rw [upd_comm (Ne.symm hc2), upd_comm (Ne.symm hc1), updE_comm (n2E v), updE_comm (n1E v)] at hx
      refine fin k (n1 := H.next) (n2 := H.next + 1) hx ?_ ?_ (by omega) (fun b x hb => ⟨?_, ne1 hb k.f0, ne1 hb k.f1⟩) (by show H'.next ≤ _; omega) (by rw [canon, besides_comm ops (besides ops M _) _ _, besides_comm ops M]) (fun j => by simp only [List.mem_cons, List.mem_append]; constructor <;> (intro h; rcases h with h | h | h | h | h <;> simp [h]))
      · rw [AH.get_set, if_neg (by omega), AH.get_set, if_pos rfl]
      · rw [AH.get_set, if_pos rfl]
      · rw [AH.get_set, if_neg (ne1 hb k.f1), AH.get_set, if_neg (ne1 hb k.f0)]; exact hb
  · refine OpJ.alloc A2 ?_
    refine DA.exec (readyAbs ops (j :: L)) ⟨rfl, R.r2.2, hbk⟩ (valid_more hap hM (fun q h => bc _ _ _ h) (fun t ht => offd (.inr rfl) (fun _ _ _ => rfl) t (nds t ht).1 (nds t ht).2) (get_push_old hf0) hv) (branches_of fun i hi => ?_)
    rcases R.r2.1 i hi with rfl | rfl
    · refine OpJ.monoK (c1 A2.own (putT_len _ _ _) (offd (.inr rfl) (fun _ _ _ => rfl)) (fun q h => bc _ _ _ (by rw [besides_comm] at h; exact h))) (fun v H2 q => ?_)
      obtain ⟨H', k, rfl⟩ := q
      rw [hdc]
      refine DA.takes (E := E v) (tk v _ (fun q hq => by simp only [List.mem_cons] at hq ⊢; rcases hq with hq | hq | hq <;> simp [hq])) (hN v) ?_
      rw [hes]
      refine last A1 k R.r2c (fun q h => by
        rcases List.mem_append.1 h with h | h
        · exact List.mem_append_left _ h
        · exact List.mem_append_right _ (bc _ _ _ (by rw [besides_comm] at h; exact h))) (pA (offd (.inr rfl) (fun _ _ _ => rfl)) (putT_len _ _ _)) (get_set_old k.f0) ?_
      have knx := k.nx
      have hx := (((hF.put A2.lt (mk2 H.next)).put hlc v).putE (pE v)).put A1.lt (mk1 H'.next)
      rw [upd_comm (Ne.symm hc2), updE_comm (n2E v), upd_comm (Ne.symm h12)] at hx
      refine fin k (n1 := H'.next) (n2 := H.next) hx ?_ ?_ (by omega) (fun b x hb => ⟨?_, ne1 hb k.g0, ne1 hb k.f0⟩) (by show H'.next + 1 ≤ _; omega) (by rw [canon, bapp, hb1, besides_comm ops M, besides_comm ops (besides ops M _)]) (fun j => by simp only [List.mem_cons, List.mem_append]; constructor <;> (intro h; rcases h with h | h | h | h | h <;> simp [h]))
      · exact get_push_at rfl
      · rw [AH.get_push, if_neg (by show H.next ≠ H'.next; omega), AH.get_set, if_pos rfl]
      · exact (get_push_ne (G := H'.set H.next b2) (show b ≠ H'.next from ne1 hb k.g0)).trans (by rw [AH.get_set, if_neg (ne1 hb k.f0)]; exact hb)
    · refine OpJ.alloc A1 ?_
      refine DA.exec [c] ⟨R.r21, rfl, hbk⟩ (valid_more hap hM (fun q h => bc _ _ _ (bc _ _ _ h)) (fun t ht => offd (.inl rfl) (offd (.inr rfl) (fun _ _ _ => rfl)) t (nds t ht).1 (nds t ht).2) (fun q x h => get_push_old (by rw [AH.get_push, if_neg (by show H.next + 1 ≠ H.next; omega)]; exact hf1) q x (get_push_old hf0 q x h)) hv) ⟨?_, trivial⟩
      refine OpJ.monoK (c2 A2.own A1.own (by rw [putT_len, putT_len]) (offd (.inl rfl) (offd (.inr rfl) (fun _ _ _ => rfl))) (fun q h => bc _ _ _ (bc _ _ _ (by rw [besides_comm, besides_comm ops M] at h; exact h)))) (fun v H2 q => ?_)
      obtain ⟨H', k, rfl⟩ := q
      rw [hdc]
      refine DA.takes (E := E v) (tk v _ (fun q hq => by simp only [List.mem_cons] at hq ⊢; rcases hq with hq | hq | hq | hq <;> simp [hq])) (hN v) ?_
      rw [hes]
      have knx := k.nx
      have hx := (((hF.put A2.lt (mk2 H.next)).put A1.lt (mk1 (H.next + 1))).put hlc v).putE (pE v)
      rw [upd_comm (Ne.symm hc1), upd_comm (Ne.symm hc2), updE_comm (n1E v), updE_comm (n2E v), upd_comm (Ne.symm h12)] at hx
      refine fin k (n1 := H.next + 1) (n2 := H.next) hx ?_ ?_ (by omega) (fun b x hb => ⟨?_, ne1 hb k.f1, ne1 hb k.f0⟩) (by show H'.next ≤ _; omega) (by rw [canon, besides_comm ops (besides ops M _) _ _, besides_comm ops M, besides_comm ops (besides ops M _) _ _]) (fun j => by simp only [List.mem_cons, List.mem_append]; constructor <;> (intro h; rcases h with h | h | h | h | h <;> simp [h]))
      · rw [AH.get_set, if_pos rfl]
      · rw [AH.get_set, if_neg (by omega), AH.get_set, if_pos rfl]
      · rw [AH.get_set, if_neg (ne1 hb k.f1), AH.get_set, if_neg (ne1 hb k.f0)]; exact hb
end
end
end Go.Eng
