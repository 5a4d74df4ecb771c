/- The engine, twenty-fourth part, beside: an operation that reads alone reads the same where more blocks lie. -/
import Derived.Test.YtilmgiompalggaaGreatDoorEn18
namespace Go.Eng
open Go Go.RowKit
set_option linter.unusedVariables false
set_option linter.unusedSimpArgs false
noncomputable section
theorem pstep_more {ev : CX → AV} {H H2 : AH} (hg : ∀ b x, H.get b = some x → H2.get b = some x) {p : PO} {r : AV × Bool} (h : pstep ev H p = some r) : pstep ev H2 p = some r := by
  cases p with
  | b2s x =>
    simp only [pstep] at h ⊢
    split at h
    · exact h
    · rename_i b k j n c ex e
      cases hb : H.get b with
      | none => rw [hb] at h; cases h
      | some y => rw [hg _ _ hb]; rw [hb] at h; exact h
    · rename_i b k j n c e
      cases hb : H.get b with
      | none => rw [hb] at h; cases h
      | some y => rw [hg _ _ hb]; rw [hb] at h; exact h
    · cases h
  | p2u x =>
    simp only [pstep] at h ⊢
    split at h
    · rename_i b k j e
      cases hb : H.get b with
      | none => rw [hb] at h; cases h
      | some y => rw [hg _ _ hb]; rw [hb] at h; exact h
    · cases h
  | _ => exact h
theorem cstep_more {ev : CX → AV} {H H1 H2 : AH} (hg : ∀ b x, H.get b = some x → H2.get b = some x) {c : COp} (hp : isPure c = true) {v : AV} {ok : Bool} (h : cstep ev H c = some (v, H1, ok)) : cstep ev H2 c = some (v, H2, ok) := by
  have hH := pure_heap hp h
  subst hH
  cases c with
  | pl p =>
    simp only [cstep] at h ⊢
    cases hq : pstep ev H1 p with
    | none => rw [hq] at h; cases h
    | some r =>
      obtain ⟨u, k⟩ := r
      rw [hq] at h
      rw [pstep_more hg hq]
      simp only [Option.some.injEq, Prod.mk.injEq] at h ⊢
      exact ⟨h.1, trivial, h.2.2⟩
  | load sz x =>
    simp only [cstep] at h ⊢
    split at h
    · rename_i b k j e
      cases hb : H1.get b with
      | none => rw [hb] at h; cases h
      | some y =>
        rw [hg _ _ hb]; rw [hb] at h
        cases sz <;> (simp only [Option.some.injEq, Prod.mk.injEq] at h ⊢; exact ⟨h.1, trivial, h.2.2⟩)
    · cases h
  | ias es x i =>
    simp only [cstep] at h ⊢
    split at h
    · rename_i b k j n c ex q i e1 e2
      cases hb : H1.get b with
      | none => rw [hb] at h; cases h
      | some y =>
        rw [hg _ _ hb]; rw [hb] at h
        simp only [Option.some.injEq, Prod.mk.injEq] at h ⊢
        exact ⟨h.1, trivial, h.2.2⟩
    · rename_i b k j n c q i e1 e2
      cases hb : H1.get b with
      | none => rw [hb] at h; cases h
      | some y =>
        rw [hg _ _ hb]; rw [hb] at h
        simp only [Option.some.injEq, Prod.mk.injEq] at h ⊢
        exact ⟨h.1, trivial, h.2.2⟩
    · cases h
  | sli es x lo hi mx =>
    simp only [cstep] at h ⊢
    split at h
    · rename_i b k j n c ex e
      cases hb : H1.get b with
      | none => rw [hb] at h; split at h <;> first | (cases h; done) | (rename_i q; cases q)
      | some y =>
        rw [hg _ _ hb]; rw [hb] at h
        split at h
        · rename_i l hh m ok y' e1 e2
          cases e2
          simp only [Option.some.injEq, Prod.mk.injEq] at h ⊢
          exact ⟨h.1, trivial, h.2.2⟩
        · cases h
    · rename_i b k j n c e
      cases hb : H1.get b with
      | none => rw [hb] at h; split at h <;> first | (cases h; done) | (rename_i q; cases q)
      | some y =>
        rw [hg _ _ hb]; rw [hb] at h
        split at h
        · rename_i l hh m ok y' e1 e2
          cases e2
          simp only [Option.some.injEq, Prod.mk.injEq] at h ⊢
          exact ⟨h.1, trivial, h.2.2⟩
        · cases h
    · split at h
      · rename_i ok e1
        simp only [Option.some.injEq, Prod.mk.injEq] at h ⊢
        exact ⟨h.1, trivial, h.2.2⟩
      · cases h
    · cases h
  | mm mx x y =>
    simp only [cstep] at h ⊢
    split at h
    · cases mx <;> (simp only [cond_true, cond_false, Option.some.injEq, Prod.mk.injEq] at h ⊢; exact ⟨h.1, trivial, h.2.2⟩)
    · cases h
  | _ => first
    | (simp [isPure] at hp; done)
    | (simp only [cstep] at h ⊢
       repeat' split at h
       all_goals first
         | (cases h; done)
         | (simp only [Option.some.injEq, Prod.mk.injEq] at h ⊢; exact ⟨h.1, trivial, h.2.2⟩)
         | (simp only [cond] at h ⊢; split at h <;> (simp only [Option.some.injEq, Prod.mk.injEq] at h ⊢; exact ⟨h.1, trivial, h.2.2⟩)))
end
end Go.Eng
/- The engine, twenty-fifth part: arguments told more loosely: slices that may be nil, blocks that are only read. -/
namespace Go.Eng
open Go Go.RowKit
set_option linter.unusedVariables false
set_option linter.unusedSimpArgs false
noncomputable section
/-- A block that is only read from now on. -/
def AH.ro (H : AH) (b : Nat) : AH := match H.get b with
  | some k => H.set b { k with own := false }
  | none => H
theorem BSat.ro {μ : Mu} {k : ABlk} {l : Loc} {w : World} (h : BSat μ k l w) : BSat μ { k with own := false } l w := by
  obtain ⟨o, st, c⟩ := k
  cases c with
  | map es => exact h
  | cells _ | ints _ _ | recs _ _ | tr _ _ =>
    obtain ⟨h0, C, t, fz, h1, h2, h3⟩ := h
    exact ⟨h0, C, t, fz, h1, fun e => by simp at e, h3⟩
theorem ro_ok {μ : Mu} {H : AH} {w : World} (s : Sat μ H w) (b : Nat) : Sat μ (H.ro b) w ∧ Fr μ H μ (H.ro b) w w := by
  unfold AH.ro
  split
  · rename_i k hk
    have look : ∀ c x, (H.set b { k with own := false }).get c = some x → ∃ y, H.get c = some y ∧ (x.own = true → y.own = true) ∧ (∀ l, BSat μ y l w → BSat μ x l w) := by
      intro c x hx
      rw [AH.get_set] at hx
      by_cases e : c = b
      · rw [if_pos e] at hx; cases hx; subst e; exact ⟨k, hk, fun e => by simp at e, fun l q => q.ro⟩
      · rw [if_neg e] at hx; exact ⟨x, hx, id, fun l q => q⟩
    refine ⟨⟨s.fresh, fun c x hx => ?_, fun c c' x x' l l' h1 h2 hne ho g1 g2 => ?_⟩, ⟨fun _ _ => rfl, Nat.le_refl _, rfl, rfl, rfl, Nat.le_refl _, fun _ _ _ => rfl, fun c x l h1 h2 => ?_⟩⟩
    · obtain ⟨y, q1, q2, q3⟩ := look c x hx
      obtain ⟨l, r1, r2⟩ := s.blk c y q1
      exact ⟨l, r1, q3 l r2⟩
    · obtain ⟨y, q1, q2, q3⟩ := look c x h1
      obtain ⟨y', q1', q2', q3'⟩ := look c' x' h2
      exact s.sep c c' y y' l l' q1 q1' hne (q2 ho) g1 g2
    · obtain ⟨y, q1, q2, q3⟩ := look c x h1
      exact .inr ⟨c, y, l, q1, h2, rfl, q2⟩
  · exact ⟨s, Fr.refl _ _ _⟩
/-- A content without cells. -/
def AC.none0 : AC → Bool
  | .cells [] => true
  | .ints _ [] => true
  | .recs n _ => Nat.beq n 0
  | _ => false
theorem fake_ok {μ : Mu} {H : AH} {w : World} (s : Sat μ H w) {b : Nat} {k : ABlk} (hb : H.get b = some k) (ho : k.own = false) (hm : k.c.isMap = false) (st : Nat) {c : AC} (hc : c.none0 = true) :
    ∃ l, Sat (μ.add H.next l) (H.push ⟨false, st, c⟩) w ∧ Fr μ H (μ.add H.next l) (H.push ⟨false, st, c⟩) w w := by
  obtain ⟨l0, g1, g2⟩ := s.blk b k hb
  have hn := s.fresh H.next (Nat.le_refl _)
  have hle := Mu.add_le hn ⟨l0.blk, l0.off, st, 0⟩
  obtain ⟨_, C, t, fz, h1, _, _⟩ := g2.holds (fun es e => by rw [e] at hm; cases hm)
  have hblt := s.lt g1
  refine ⟨⟨l0.blk, l0.off, st, 0⟩, ⟨fun d hd => ?_, fun d x hx => ?_, fun d d' x x' l l' e1 e2 hne hk f1 f2 => ?_⟩, ⟨fun d hd => ?_, Nat.le_succ _, rfl, rfl, rfl, Nat.le_refl _, fun _ _ _ => rfl, fun d x l e1 e2 => ?_⟩⟩
  · have : H.next + 1 ≤ d := hd
    unfold Mu.add
    rw [if_neg (by omega)]
    exact s.fresh d (by omega)
  · rw [AH.get_push] at hx
    by_cases e : d = H.next
    · rw [if_pos e] at hx
      cases hx
      refine ⟨⟨l0.blk, l0.off, st, 0⟩, if_pos e, BSat.of_holds (fz := fz) rfl h1 (fun e => by simp at e) ⟨fun es e => by (subst e; simp [AC.none0] at hc), fun i j hi => ?_⟩⟩
      cases c with
      | cells l => cases l with
        | nil => simp [AC.inb] at hi
        | cons v l => simp [AC.none0] at hc
      | ints q l => cases l with
        | nil => simp [AC.inb] at hi
        | cons v l => simp [AC.none0] at hc
      | recs n f =>
        have := Nat.eq_of_beq_eq_true hc
        subst this
        simp [AC.inb] at hi
      | map es => simp [AC.none0] at hc
      | tr n t => simp [AC.none0] at hc
    · rw [if_neg e] at hx
      obtain ⟨l, q1, q2⟩ := s.blk d x hx
      exact ⟨l, hle _ _ q1, q2.move hle rfl⟩
  · rw [AH.get_push] at e1 e2
    unfold Mu.add at f1 f2
    by_cases e : d = H.next
    · rw [if_pos e] at e1; cases e1; simp at hk
    · rw [if_neg e] at e1 f1
      by_cases e' : d' = H.next
      · rw [if_pos e'] at f2; cases f2
        by_cases hdb : d = b
        · subst hdb
          rw [hb] at e1; cases e1
          rw [ho] at hk; cases hk
        · exact s.sep d b x k l l0 e1 hb hdb hk f1 g1
      · rw [if_neg e'] at e2 f2; exact s.sep d d' x x' l l' e1 e2 hne hk f1 f2
  · unfold Mu.add; rw [if_neg (by omega)]
  · rw [AH.get_push] at e1
    unfold Mu.add at e2
    by_cases e : d = H.next
    · rw [if_pos e] at e1 e2; cases e1; cases e2; exact .inr ⟨b, k, l0, hb, g1, rfl, fun e => by simp at e⟩
    · rw [if_neg e] at e1 e2; exact .inr ⟨d, x, l, e1, e2, rfl, id⟩
/-- A slice that may be nil; for nil itself a row without cells where block fk lies. -/
def looseOne (fk st : Nat) (c : AC) (v : AV) (H : AH) : AV × AH :=
  match v with
  | .sl b k j n c' _ => (.msl b k j n c', H.ro b)
  | .nils => match H.get fk with
    | some k => bif !k.own && !k.c.isMap && c.none0 then (.msl H.next 0 0 0 0, H.push ⟨false, st, c⟩) else (v, H)
    | none => (v, H)
  | _ => (v, H)
theorem looseOne_ok {μ : Mu} {H : AH} {w : World} {fk st : Nat} {c : AC} {v : AV} {x : Value} (hv : VRel μ v x) (s : Sat μ H w) : ∃ μ', VRel μ' (looseOne fk st c v H).1 x ∧ Sat μ' (looseOne fk st c v H).2 w ∧ Fr μ H μ' (looseOne fk st c v H).2 w w := by
  unfold looseOne
  split
  · rename_i b k j n c' ex
    obtain ⟨s1, f1⟩ := ro_ok s b
    obtain ⟨l, A, c2, h1, h2, h3, h4, h5, h6, h7⟩ := hv
    exact ⟨μ, .inr ⟨l, A, c2, h1, h2, h3, h4, h6⟩, s1, f1⟩
  · split
    · rename_i k hk
      rcases hb : (!k.own && !k.c.isMap && c.none0) with _ | _
      · exact ⟨μ, hv, s, Fr.refl _ _ _⟩
      · simp only [Bool.and_eq_true, Bool.not_eq_true'] at hb
        obtain ⟨l, s1, f1⟩ := fake_ok s hk hb.1.1 hb.1.2 st hb.2
        exact ⟨_, .inl ⟨hv, rfl, rfl⟩, s1, f1⟩
    · exact ⟨μ, hv, s, Fr.refl _ _ _⟩
  · exact ⟨μ, hv, s, Fr.refl _ _ _⟩
def looseCs (fk : Nat) : List (Nat × Nat × AC) → List AV → AH → List AV × AH
  | [], cs, H => (cs, H)
  | (i, st, c) :: l, cs, H => match looseOne fk st c (cs.getD i .any) H with
    | (v, H') => looseCs fk l (cs.set i v) H'
theorem looseCs_ok {fk : Nat} {w : World} {xs : List Value} : ∀ (l : List (Nat × Nat × AC)) {μ : Mu} {H : AH} {cs : List AV}, VRels μ cs xs → Sat μ H w → ∃ μ', VRels μ' (looseCs fk l cs H).1 xs ∧ Sat μ' (looseCs fk l cs H).2 w ∧ Fr μ H μ' (looseCs fk l cs H).2 w w
  | [], μ, H, cs, hv, s => ⟨μ, hv, s, Fr.refl _ _ _⟩
  | (i, st, c) :: l, μ, H, cs, hv, s => by
    rcases hx : xs[i]? with _ | x
    · -- the place is not there
      have hc : cs[i]? = none := by rw [List.getElem?_eq_none_iff] at *; rw [hv.len]; exact hx
      have e1 : cs.getD i .any = .any := by rw [List.getD_eq_getElem?_getD, hc]; rfl
      have e2 : ∀ v, cs.set i v = cs := fun v => List.set_eq_of_length_le (by rw [List.getElem?_eq_none_iff] at hc; exact hc)
      have e3 : looseOne fk st c (cs.getD i .any) H = (.any, H) := by rw [e1]; rfl
      simp only [looseCs, e3, e2]
      exact looseCs_ok l hv s
    · have h1 := hv.get i x hx
      obtain ⟨μ1, q1, q2, q3⟩ := looseOne_ok (fk := fk) (st := st) (c := c) h1 s
      have hv1 : VRels μ1 (cs.set i (looseOne fk st c (cs.getD i .any) H).1) xs := by
        have := (VRels.ext (q3.ext s) _ _ hv).set i q1
        have e : xs.set i x = xs := by
          refine List.ext_getElem? fun j => ?_
          rw [List.getElem?_set]
          split
          · rename_i e
            subst e
            rw [hx]
            split
            · rfl
            · rename_i hlt
              rw [List.getElem?_eq_none (by omega)] at hx
              cases hx
          · rfl
        rwa [e] at this
      obtain ⟨μ2, g1, g2, g3⟩ := looseCs_ok l (cs := cs.set i (looseOne fk st c (cs.getD i .any) H).1) hv1 q2
      exact ⟨μ2, g1, g2, q3.trans g3⟩
/-- The first argument, a row by value: its slices. -/
def looseArgs (at_ : Nat) (spec : List (Nat × Nat × AC)) : List AV → AH → Option (List AV × AH)
  | .agg cs :: as, H => match cs.getD at_ .any with
    | .sl b _ _ _ _ _ => match looseCs b spec cs H with
      | (cs', H') => some (.agg cs' :: as, H')
    | .msl b _ _ _ _ => match looseCs b spec cs H with
      | (cs', H') => some (.agg cs' :: as, H')
    | _ => none
  | .sl b k j n c ex :: as, H => some (.msl b k j n c :: as, H.ro b)
  | _, _ => none
theorem looseArgs_ok {at_ : Nat} {spec : List (Nat × Nat × AC)} {as as' : List AV} {H H' : AH} (h : looseArgs at_ spec as H = some (as', H')) {μ : Mu} {w : World} {xs : List Value} (hv : VRels μ as xs) (s : Sat μ H w) : ∃ μ', VRels μ' as' xs ∧ Sat μ' H' w ∧ Fr μ H μ' H' w w := by
  have go : ∀ b cs as xs, VRels μ (.agg cs :: as) xs → ∃ μ', VRels μ' (.agg (looseCs b spec cs H).1 :: as) xs ∧ Sat μ' (looseCs b spec cs H).2 w ∧ Fr μ H μ' (looseCs b spec cs H).2 w w := by
    intro b cs as xs hv
    cases xs with
    | nil => exact hv.elim
    | cons x xs =>
      obtain ⟨⟨cs', rfl, h1⟩, h2⟩ := hv
      obtain ⟨μ1, q1, q2, q3⟩ := looseCs_ok (fk := b) spec h1 s
      exact ⟨μ1, ⟨⟨cs', rfl, q1⟩, VRels.ext (q3.ext s) _ _ h2⟩, q2, q3⟩
  unfold looseArgs at h
  split at h
  · rename_i cs as
    split at h
    · cases h; exact go _ _ _ _ hv
    · cases h; exact go _ _ _ _ hv
    · cases h
  · rename_i b k j n c ex as
    cases h
    cases xs with
    | nil => exact hv.elim
    | cons x xs =>
      obtain ⟨⟨l, A, c2, h1, h2, h3, h4, h5, h6, h7⟩, hr⟩ := hv
      obtain ⟨s1, f1⟩ := ro_ok s b
      exact ⟨μ, ⟨.inr ⟨l, A, c2, h1, h2, h3, h4, h6⟩, hr⟩, s1, f1⟩
  · cases h
/-- A summary, its arguments told more loosely. -/
def looseK (f : FuncId) (at_ : Nat) (spec : List (Nat × Nat × AC)) (base : OrcK) : OrcK := fun g as H K =>
  bif Nat.beq g f then match looseArgs at_ spec as H with
    | some (as', H') => base g as' H' K
    | none => none else none
theorem looseK_ok {P : Program} {f : FuncId} {at_ : Nat} {spec : List (Nat × Nat × AC)} {base : OrcK} (hb : OrcKOK P base) : OrcKOK P (looseK f at_ spec base) := by
  intro g as H K p h hp
  unfold looseK at h
  cases hf : Nat.beq g f
  · rw [hf] at h; cases h
  · rw [hf] at h
    simp only [cond_true] at h
    split at h
    · rename_i as' H' hl
      intro μ w vs hv s
      obtain ⟨μ1, q1, q2, q3⟩ := looseArgs_ok hl hv s
      refine Calls.mono (hb g as' H' K p h hp μ1 w vs q1 q2) (fun e w' hq => ?_)
      obtain ⟨out, H2, μ2, k1, k2, k3, k4⟩ := hq
      refine ⟨out, H2, μ2, k1, k2, k3, (q3.fw (Nat.le_refl _)).trans ⟨fun b hb => k4.le b (Nat.lt_of_lt_of_le hb q3.nx), Nat.le_trans q3.nx k4.nx, k4.os, k4.tape, k4.output, k4.size, k4.same, k4.from_⟩⟩
    · cases h
/-- A contract that asks no less and says no more. -/
theorem Con.OK.to {X Y X' Y' : Type} {P : Program} {c : Con X Y} {c' : Con X' Y'} (h : c.OK P) (g : X' → X) (hf : c'.f = c.f) (hp : ∀ x, c'.pre x → c.pre (g x)) (ha : ∀ x, c'.args x = c.args (g x)) (hL : ∀ x, AH.of c'.n0 (c'.L0 x) = AH.of c.n0 (c.L0 (g x)))
    (ho : ∀ x, c'.pre x → ∀ out H, anyOut (c.outs (g x)) out H → anyOut (c'.outs x) out H) : c'.OK P := fun x hx => by
  rw [hf, ha, hL]
  exact RunsK.mono (h (g x) (hp x hx)) (ho x hx)
end
end Go.Eng
