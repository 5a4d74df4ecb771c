/- The engine, thirty-seventh part: a quick evaluator for known values: operations that turn the heap. -/
import Derived.Test.YtilmgiompalggaaGreatDoorEn23
namespace Go.Eng
open Go Go.RowKit
set_option linter.unusedVariables false
set_option linter.unusedSimpArgs false
noncomputable section
/-- Contents told in other words. -/
theorem Conv.blk {H H' : AH} (hn : H'.next = H.next) (h : ∀ b x', H'.get b = some x' → ∃ x, H.get b = some x ∧ x'.own = x.own ∧ x'.st = x.st ∧ (x'.c = x.c ∨ ((∀ es, x.c ≠ .map es) ∧ (∀ es, x'.c ≠ .map es) ∧ ∀ k j, x'.c.inb x.st k j = true → ∃ k2 j2, k2 * x.st + j2 = k * x.st + j ∧ x.c.inb x.st k2 j2 = true ∧ x.c.val x.st k2 j2 = x'.c.val x.st k j))) : Conv H H' := by
  intro B ts μ w tmps r s hB
  refine ⟨μ, r, ⟨fun b hb => s.fresh b (by rw [← hn]; exact hb), fun b x' hb => ?_, fun b b' k k' l l' h1 h2 hne ho g1 g2 => ?_⟩, ⟨fun _ _ => rfl, by rw [hn]; exact hB, rfl, rfl, rfl, Nat.le_refl _, fun _ _ _ => rfl, fun b x' l h1 h2 => ?_⟩⟩
  · obtain ⟨x, q1, q2, q3, q4⟩ := h b x' hb
    obtain ⟨l, g1, g2⟩ := s.blk b x q1
    refine ⟨l, g1, ?_⟩
    rcases q4 with q4 | ⟨q4, q5, q6⟩
    · obtain ⟨o1, s1, c1⟩ := x
      obtain ⟨o2, s2, c2⟩ := x'
      simp only [] at q2 q3 q4
      subst q2 q3 q4
      exact g2
    · obtain ⟨f1, C, t, fz, f2, f3, f4⟩ := g2.holds q4
      refine BSat.of_holds (fz := fz) (f1.trans q3.symm) f2 (fun ho => by rw [q3]; exact f3 (q2 ▸ ho)) ⟨q5, fun k j hi => ?_⟩
      rw [q3] at hi
      obtain ⟨k2, j2, p0, p1, p2⟩ := q6 k j hi
      obtain ⟨u, u1, u2, u3⟩ := f4.cell p1
      refine ⟨u, by rw [q3]; rw [show l.off + k * x.st + j = l.off + k2 * x.st + j2 by omega]; exact u1, ?_, u3⟩
      rw [q3, ← p2]; exact u2
  · obtain ⟨x, q1, q2, _⟩ := h b k h1
    obtain ⟨x', q1', _⟩ := h b' k' h2
    exact s.sep b b' x x' l l' q1 q1' hne (q2 ▸ ho) g1 g2
  · obtain ⟨x, q1, q2, _⟩ := h b x' h1
    exact .inr ⟨b, x, l, q1, h2, rfl, fun ho => q2 ▸ ho⟩
/-- A new block's content told in other words. -/
theorem Conv.push {H : AH} {st : Nat} {c c' : AC} (h1 : ∀ es, c ≠ .map es) (h2 : ∀ es, c' ≠ .map es) (h3 : ∀ k j, c'.inb st k j = true → ∃ k2 j2, k2 * st + j2 = k * st + j ∧ c.inb st k2 j2 = true ∧ c.val st k2 j2 = c'.val st k j) : Conv (H.push ⟨true, st, c⟩) (H.push ⟨true, st, c'⟩) := by
  refine Conv.blk rfl (fun b x' hx => ?_)
  rw [AH.get_push] at hx ⊢
  by_cases e : b = H.next
  · rw [if_pos e] at hx ⊢
    cases hx
    exact ⟨_, rfl, rfl, rfl, .inr ⟨h1, h2, h3⟩⟩
  · rw [if_neg e] at hx ⊢
    exact ⟨x', hx, rfl, rfl, .inl rfl⟩
/-! ### stores -/
def upd1 (y : ABlk) (k j : Nat) (u : AV) (f : AC → Prop) : Prop := @AC.rec (fun _ => Prop) (fun l => setL u l (Nat.add (Nat.mul k y.st) j) fun l => f (.cells l)) (fun q xs => chk (Nat.beq y.st 1) (asI u fun q' n => chk (kEq q q') (setL n xs (Nat.add k j) fun xs => f (.ints q xs))))
  (fun m g => chk (Nat.blt k m) (chk (Nat.blt j y.st) (f (.recs m fun i => bif Nat.beq i k then (g i).set j u else g i)))) (fun _ => False) (fun m t => frN (Nat.add (Nat.mul k y.st) j) fun i => chk (Nat.blt i m) (VT.putC (pathOf i) u t fun t => f (.tr m t))) y.c
theorem upd1_of {y : ABlk} {k j : Nat} {u : AV} {f : AC → Prop} (h : upd1 y k j u f) : y.c.inb y.st k j = true ∧ ∃ c', AC.upd y.st k j u y.c = some c' ∧ f c' := by
  obtain ⟨own, st, c⟩ := y
  cases c with
  | cells l =>
    obtain ⟨h1, h2⟩ := setL_of (f := fun l => f (.cells l)) h
    exact ⟨decide_eq_true h1, _, rfl, h2⟩
  | ints q xs =>
    obtain ⟨h0, h1⟩ := chk_of h
    obtain ⟨q', n, rfl, h2⟩ := asI_of h1
    obtain ⟨h3, h4⟩ := chk_of h2
    have := kEq_of h3
    subst this
    obtain ⟨h5, h6⟩ := setL_of (f := fun xs => f (.ints q xs)) h4
    refine ⟨?_, .ints q (xs.set (k + j) n), by simp [AC.upd], h6⟩
    simp only [AC.inb, Bool.and_eq_true]
    exact ⟨h0, decide_eq_true h5⟩
  | recs m g =>
    obtain ⟨h0, h1⟩ := chk_of h
    obtain ⟨h2, h3⟩ := chk_of h1
    refine ⟨?_, _, rfl, h3⟩
    simp only [AC.inb, Bool.and_eq_true]
    exact ⟨decide_eq_true (Nat.le_of_ble_eq_true h0), decide_eq_true (Nat.le_of_ble_eq_true h2)⟩
  | map es => exact h.elim
  | tr m t =>
    have h1 := frN_of (f := fun i => chk (Nat.blt i m) (VT.putC (pathOf i) u t fun t => f (.tr m t))) h
    obtain ⟨h2, h3⟩ := chk_of h1
    have h4 := VT.putC_of (f := fun t => f (.tr m t)) h3
    exact ⟨decide_eq_true (Nat.le_of_ble_eq_true h2 : k * st + j < m), _, rfl, h4⟩
def updL (vs : List AV) : ABlk → Nat → Nat → (AC → Prop) → Prop := @List.rec AV (fun _ => ABlk → Nat → Nat → (AC → Prop) → Prop) (fun y _ _ f => f y.c) (fun u _ ih y k j f => upd1 y k j u fun c => ih ⟨y.own, y.st, c⟩ k (Nat.succ j) f) vs
theorem updL_of : ∀ {vs : List AV} {y : ABlk} {k j : Nat} {f : AC → Prop}, updL vs y k j f → y.c.inbs y.st k j vs.length = true ∧ ∃ c', AC.upds y.st k vs j y.c = some c' ∧ f c'
  | [], y, k, j, f, h => ⟨by simp [AC.inbs], _, rfl, h⟩
  | u :: vs, y, k, j, f, h => by
    obtain ⟨h1, c1, h2, h3⟩ := upd1_of (f := fun c => updL vs ⟨y.own, y.st, c⟩ k (Nat.succ j) f) h
    obtain ⟨h4, c2, h5, h6⟩ := updL_of h3
    simp only [] at h4 h5
    rw [AC.upd_inbs h2] at h4
    refine ⟨?_, c2, by simp only [AC.upds, h2]; exact h5, h6⟩
    unfold AC.inbs at h4 ⊢
    rw [List.all_eq_true] at h4 ⊢
    intro i hi
    cases i with
    | zero => exact h1
    | succ i =>
      have := h4 i (by simp at hi ⊢; omega)
      rwa [show j + 1 + i = j + (i + 1) by omega] at this
def one1 (v : AV) : Bool := @AV.casesOn (fun _ => Bool) v false (fun _ _ => true) (fun _ => true) (fun _ => true) (fun _ _ _ => true) true (fun _ _ _ _ _ _ => true) true (fun _ _ _ _ _ => true) (fun _ => true) true (fun _ _ _ => true) true (fun _ _ => true) true (fun _ => false) (fun _ => false)
theorem one1_eq (v : AV) : one1 v = v.one := by cases v <;> rfl
def allOne (l : List AV) : Bool := @List.rec AV (fun _ => Bool) true (fun v _ ih => @Bool.rec (fun _ => Bool) false ih (one1 v)) l
theorem allOne_eq : ∀ l, allOne l = l.all AV.one
  | [] => rfl
  | v :: l => by
    show @Bool.rec (fun _ => Bool) false (allOne l) (one1 v) = _
    rw [List.all_cons, one1_eq, allOne_eq l]
    cases v.one <;> rfl
/-- The cells of a value. -/
def cellsC (v : AV) (f : List AV → Prop) : Prop := @AV.casesOn (fun _ => Prop) v False (fun _ _ => f [v]) (fun _ => f [v]) (fun _ => f [v]) (fun _ _ _ => f [v]) (f [v]) (fun _ _ _ _ _ _ => f [v]) (f [v]) (fun _ _ _ _ _ => f [v]) (fun _ => f [v]) (f [v]) (fun _ _ _ => f [v]) (f [v]) (fun _ _ => f [v]) (f [v]) (fun l => chk (allOne l) (f l)) (fun _ => False)
theorem cellsC_of {v : AV} {f : List AV → Prop} (h : cellsC v f) : ∃ cs, v.cellsOf = some cs ∧ f cs := by
  cases v with
  | any => exact h.elim
  | tup l => exact h.elim
  | agg l =>
    obtain ⟨h1, h2⟩ := chk_of h
    rw [allOne_eq] at h1
    exact ⟨l, by simp [AV.cellsOf, h1], h2⟩
  | _ => exact ⟨_, rfl, h⟩
def lenC {α : Type} (l : List α) : Nat := @List.rec α (fun _ => Nat) 0 (fun _ _ ih => Nat.succ ih) l
theorem lenC_eq {α : Type} : ∀ l : List α, lenC l = l.length
  | [] => rfl
  | _ :: l => congrArg Nat.succ (lenC_eq l)
def qStore (sz : Nat) (x v : CX) : EX := fun s H f => rdK x s fun p => asP p fun b k j => rdK v s fun u => cellsC u fun cs => chk (Nat.beq (lenC cs) sz) (getB H b fun y => chk y.own (updL cs y k j fun c => putB H b ⟨y.own, y.st, c⟩ fun H => f .any H))
theorem hint_same {c : COp} (h : ∀ m, c.hint m = c) : c.hint 0 = c := h 0
/-- .. the heap as it is. -/
def ESpecN (c : COp) (e : EX) : Prop := ∀ s H f, e s H f → ∃ m v H1, cstep (evG s.at) H (c.hint m) = some (v, H1, true) ∧ f v H1
theorem ESpecN.to {c : COp} {e : EX} (h : ESpecN c e) : ESpec c e := fun s H f q => by
  obtain ⟨m, v, H1, h1, h2⟩ := h s H f q
  exact ⟨m, v, H1, H1, h1, Conv.refl _, h2⟩
theorem qStore_okN (sz : Nat) (h0 : Nat.beq sz 0 = false) (x v : CX) : ESpecN (.store sz x v) (qStore sz x v) := fun s H f h => by
  obtain ⟨b, k, j, e1, h1⟩ := asP_of (rdK_of h)
  have h1 := rdK_of h1
  obtain ⟨cs, e2, h2⟩ := cellsC_of h1
  obtain ⟨h3, h4⟩ := chk_of h2
  obtain ⟨y, e3, h5⟩ := getB_of h4
  obtain ⟨h6, h7⟩ := chk_of h5
  obtain ⟨h8, c', e4, h9⟩ := updL_of (f := fun c => putB H b ⟨y.own, y.st, c⟩ fun H => f .any H) h7
  have h10 := putB_of (f := fun H => f .any H) h9
  rw [lenC_eq] at h3
  refine ⟨0, .any, _, ?_, h10⟩
  show cstep (evG s.at) H (.store sz x v) = _
  simp only [cstep, e1, e2, e3, e4, h6, h3, h0, h8]
  rfl
theorem qStore_ok (sz : Nat) (h0 : Nat.beq sz 0 = false) (x v : CX) : ESpec (.store sz x v) (qStore sz x v) := (qStore_okN sz h0 x v).to
/-! ### rows built -/
def setAllC (vs : List AV) : List AV → Nat → (List AV → Prop) → Prop := @List.rec AV (fun _ => List AV → Nat → (List AV → Prop) → Prop) (fun cs _ f => f cs) (fun v _ ih cs o f => setL v cs o fun cs => ih cs (Nat.succ o) f) vs
theorem setAllC_of : ∀ {vs cs : List AV} {o : Nat} {f : List AV → Prop}, setAllC vs cs o f → f (setAll cs o vs)
  | [], cs, o, f, h => by cases cs <;> exact h
  | v :: vs, cs, o, f, h => by
    obtain ⟨_, h2⟩ := setL_of (f := fun cs => setAllC vs cs (Nat.succ o) f) h
    have := setAllC_of h2
    simpa [setAll] using this
def fillB (ps : List (Nat × Nat × CX)) : VT → List AV → (List AV → Prop) → Prop := @List.rec (Nat × Nat × CX) (fun _ => VT → List AV → (List AV → Prop) → Prop) (fun _ cs f => f cs) (fun p _ ih s cs f => rdK p.2.2 s fun v => cellsC v fun vs => chk (Nat.beq (lenC vs) p.2.1) (chk (Nat.ble (Nat.add p.1 (lenC vs)) (lenC cs)) (setAllC vs cs p.1 fun cs => ih s cs f))) ps
theorem fillB_of : ∀ {ps : List (Nat × Nat × CX)} {s : VT} {cs : List AV} {f : List AV → Prop}, fillB ps s cs f → ∃ cs', cfill (evG s.at) ps cs = some cs' ∧ f cs'
  | [], s, cs, f, h => ⟨cs, rfl, h⟩
  | (off, sz, x) :: ps, s, cs, f, h => by
    have h := rdK_of (c := x) (s := s) h
    obtain ⟨vs, e1, h1⟩ := cellsC_of h
    obtain ⟨h2, h3⟩ := chk_of h1
    obtain ⟨h4, h5⟩ := chk_of h3
    rw [lenC_eq] at h2 h4
    rw [lenC_eq] at h4
    have h6 := setAllC_of (f := fun cs => fillB ps s cs f) h5
    obtain ⟨cs', h7, h8⟩ := fillB_of h6
    refine ⟨cs', ?_, h8⟩
    have h2 : Nat.beq vs.length sz = true := h2
    have h4 : Nat.ble (off + vs.length) cs.length = true := h4
    unfold cfill
    rw [e1]
    simp only [h2, h4, Bool.and_self, cond_true]
    exact h7
def qBuild (z : List AV) (ps : List (Nat × Nat × CX)) : EXp := fun s _ f => fillB ps s z fun cs => f (.agg cs)
theorem qBuild_ok (z : List AV) (ps : List (Nat × Nat × CX)) : PSpec (.build z ps) (qBuild z ps) := fun s H f h => by
  obtain ⟨cs, e1, h1⟩ := fillB_of (f := fun cs => f (.agg cs)) h
  simp only [cstep, e1]
  exact ⟨_, rfl, h1⟩
/-! ### new blocks -/
/-- A list laid into a tree. -/
def fillC (l : List AV) : Nat → VT → (VT → Prop) → Prop := @List.rec AV (fun _ => Nat → VT → (VT → Prop) → Prop) (fun _ t f => f t) (fun v _ ih o t f => frN o fun o => VT.putC (pathOf o) v t fun t => ih (Nat.succ o) t f) l
theorem fillC_of : ∀ {l : List AV} {o : Nat} {t : VT} {f : VT → Prop}, fillC l o t f → ∃ t', f t' ∧ ∀ i, t'.at i = if o ≤ i ∧ i < o + l.length then l.getD (i - o) .any else t.at i
  | [], o, t, f, h => ⟨t, h, fun i => by rw [if_neg (by simp)]⟩
  | v :: l, o, t, f, h => by
    have h1 := frN_of (f := fun o => VT.putC (pathOf o) v t fun t => fillC l (Nat.succ o) t f) h
    have h2 := VT.putC_of (f := fun t => fillC l (Nat.succ o) t f) h1
    obtain ⟨t', h3, h4⟩ := fillC_of (l := l) (o := o + 1) h2
    refine ⟨t', h3, fun i => ?_⟩
    rw [h4]
    have e : (VT.put v (pathOf o) t).at i = if i = o then v else t.at i := VT.at_put t o v i
    simp only [List.length_cons]
    by_cases q : i = o
    · subst q
      rw [if_neg (by omega), e, if_pos rfl, if_pos (by omega)]
      simp
    · rw [e, if_neg q]
      by_cases q2 : o + 1 ≤ i ∧ i < o + 1 + l.length
      · rw [if_pos q2, if_pos (by omega), show i - o = (i - (o + 1)) + 1 by omega]
        simp
      · rw [if_neg q2, if_neg (by omega)]
def pushC (st : Nat) (cs : List AV) (H : AH) (f : Nat → AH → Prop) : Prop := @Bool.rec (fun _ => Prop) (pushB H ⟨true, st, .cells cs⟩ f) (fillC cs 0 .e fun t => pushB H ⟨true, st, .tr st t⟩ f) (Nat.ble 8 st)
theorem cells_tr {st n : Nat} {cs : List AV} {t : VT} (hn : n = cs.length) (ht : ∀ i, t.at i = if 0 ≤ i ∧ i < 0 + cs.length then cs.getD (i - 0) .any else VT.at .e i) (k j : Nat) (hi : (AC.tr n t).inb st k j = true) : ∃ k2 j2, k2 * st + j2 = k * st + j ∧ (AC.cells cs).inb st k2 j2 = true ∧ (AC.cells cs).val st k2 j2 = (AC.tr n t).val st k j := by
  simp only [AC.inb, decide_eq_true_eq] at hi
  refine ⟨k, j, rfl, decide_eq_true (by omega), ?_⟩
  simp only [AC.val]
  rw [ht, if_pos (by omega), Nat.sub_zero]
theorem pushC_of {st : Nat} {cs : List AV} (hst : st = cs.length) {H : AH} {f : Nat → AH → Prop} (h : pushC st cs H f) : ∃ H2, Conv (H.push ⟨true, cs.length, .cells cs⟩) H2 ∧ f H.next H2 := by
  unfold pushC at h
  rw [← hst]
  rcases e : Nat.ble 8 st with _ | _
  · rw [e] at h
    exact ⟨_, Conv.refl _, pushB_of h⟩
  · rw [e] at h
    obtain ⟨t, h1, h2⟩ := fillC_of (f := fun t => pushB H ⟨true, st, .tr st t⟩ f) h
    exact ⟨_, Conv.push (fun _ e => by cases e) (fun _ e => by cases e) (cells_tr hst h2), pushB_of h1⟩
def qBox (x : CX) : EX := fun s H f => rdK x s fun u => cellsC u fun cs => frN (lenC cs) fun n => pushC n cs H fun b H => f (.ptr b 0 0) H
theorem qBox_ok (x : CX) : ESpec (.box x) (qBox x) := fun s H f h => by
  have h := rdK_of h
  obtain ⟨cs, e1, h1⟩ := cellsC_of h
  have h2 := frN_of (f := fun n => pushC n cs H fun b H => f (.ptr b 0 0) H) h1
  obtain ⟨H2, h3, h4⟩ := pushC_of (lenC_eq cs) (f := fun b H => f (.ptr b 0 0) H) h2
  refine ⟨0, _, _, H2, ?_, h3, h4⟩
  show cstep (evG s.at) H (.box x) = _
  simp only [cstep, e1]
def qAlloc (z : List AV) : EX := fun s H f => frN (lenC z) fun n => pushC n z H fun b H => f (.ptr b 0 0) H
theorem qAlloc_ok (z : List AV) : ESpec (.alloc z) (qAlloc z) := fun s H f h => by
  have h2 := frN_of (f := fun n => pushC n z H fun b H => f (.ptr b 0 0) H) h
  obtain ⟨H2, h3, h4⟩ := pushC_of (lenC_eq z) (f := fun b H => f (.ptr b 0 0) H) h2
  exact ⟨0, _, _, H2, rfl, h3, h4⟩
/-- A tree all of whose values are one. -/
def VT.rep (v : AV) (d : Nat) : VT := @Nat.rec (fun _ => VT) .e (fun _ t => .n t v t) d
def Pth.len : Pth → Nat
  | .z => 0
  | .l p => p.len + 1
  | .r p => p.len + 1
theorem VT.rep_get (v : AV) : ∀ (p : Pth) (d : Nat), p.len < d → VT.get p (VT.rep v d) = v
  | p, 0, h => by omega
  | .z, d + 1, h => rfl
  | .l p, d + 1, h => VT.rep_get v p d (by simp [Pth.len] at h; omega)
  | .r p, d + 1, h => VT.rep_get v p d (by simp [Pth.len] at h; omega)
theorem Pth.len_num : ∀ p : Pth, 2 ^ p.len ≤ p.num + 1
  | .z => by simp [Pth.len, Pth.num]
  | .l p => by have := Pth.len_num p; simp only [Pth.len, Pth.num, Nat.pow_succ]; omega
  | .r p => by have := Pth.len_num p; simp only [Pth.len, Pth.num, Nat.pow_succ]; omega
theorem VT.rep_at (v : AV) (n i : Nat) (h : i < n) : (VT.rep v (Nat.log2 n + 1)).at i = v := by
  refine VT.rep_get v _ _ ?_
  have h1 := Pth.len_num (pathOf i)
  rw [pathOf_num] at h1
  have h2 : n < 2 ^ (Nat.log2 n + 1) := Nat.lt_log2_self
  have h3 : 2 ^ (pathOf i).len < 2 ^ (Nat.log2 n + 1) := by omega
  exact (Nat.pow_lt_pow_iff_right (by decide)).1 h3
/-- n elements z each, as a tree; numbers stay numbers where they are few. -/
def pushZ (es : Nat) (z : List AV) (n : Nat) (H : AH) (f : Nat → AH → Prop) : Prop := @Bool.rec (fun _ => Prop)
  (fillC (flat z n) 0 .e fun t => frN (Nat.mul n es) fun m => pushB H ⟨true, es, .tr m t⟩ f)
  (@List.rec AV (fun _ => Prop) False (fun v _ _ => pushB H ⟨true, es, .tr n (VT.rep v (Nat.add (Nat.log2 n) 1))⟩ f) z) (Nat.beq es 1)
theorem zeros_inb {es : Nat} {z : List AV} (hz : z.length = es) (n k j : Nat) (h0 : 0 < es) : (AC.zeros es z n).inb es k j = true ↔ ((es = 1 ∧ (∃ q x, z = [.int q x]) ∧ k + j < n) ∨ ((∀ q x, z ≠ [.int q x]) ∧ k < n ∧ j < es)) := by
  unfold AC.zeros
  split
  · rename_i q x
    simp only [AC.inb, Bool.and_eq_true, decide_eq_true_eq, List.length_replicate]
    constructor
    · rintro ⟨h1, h2⟩
      exact .inl ⟨Nat.eq_of_beq_eq_true h1, ⟨q, x, rfl⟩, h2⟩
    · rintro (⟨h1, _, h2⟩ | ⟨h1, _⟩)
      · exact ⟨by rw [h1]; rfl, h2⟩
      · exact absurd rfl (h1 q x)
  · rename_i hne
    simp only [AC.inb, Bool.and_eq_true, decide_eq_true_eq]
    constructor
    · rintro ⟨h1, h2⟩
      exact .inr ⟨fun q x e => hne q x e, h1, h2⟩
    · rintro (⟨_, ⟨q, x, e⟩, _⟩ | ⟨_, h1, h2⟩)
      · exact absurd e (hne q x)
      · exact ⟨h1, h2⟩
theorem flat_getD {z : List AV} {es : Nat} (hz : z.length = es) (h0 : 0 < es) : ∀ (n k j : Nat), k < n → j < es → (flat z n).getD (k * es + j) .any = z.getD j .any
  | 0, k, j, h, _ => by omega
  | n + 1, 0, j, _, hj => by
    rw [Nat.zero_mul, Nat.zero_add, flat, List.getD_eq_getElem?_getD, List.getElem?_append_left (by omega), ← List.getD_eq_getElem?_getD]
  | n + 1, k + 1, j, h, hj => by
    have ih := flat_getD hz h0 n k j (by omega) hj
    rw [flat, List.getD_eq_getElem?_getD, List.getElem?_append_right (by rw [Nat.add_mul]; omega), ← List.getD_eq_getElem?_getD, ← ih]
    congr 1
    rw [Nat.add_mul]; omega
theorem flat_length {z : List AV} {es : Nat} (hz : z.length = es) : ∀ n, (flat z n).length = n * es
  | 0 => by simp [flat]
  | n + 1 => by rw [flat, List.length_append, flat_length hz n, Nat.add_mul]; omega
theorem pushZ_of {es : Nat} {z : List AV} {n : Nat} (hz : z.length = es) (h0 : 0 < es) {H : AH} {f : Nat → AH → Prop} (h : pushZ es z n H f) : ∃ H2, Conv (H.push ⟨true, es, AC.zeros es z n⟩) H2 ∧ f H.next H2 := by
  have nm : ∀ l, AC.zeros es z n ≠ .map l := fun l e => by unfold AC.zeros at e; split at e <;> cases e
  unfold pushZ at h
  rcases e : Nat.beq es 1 with _ | _
  · rw [e] at h
    obtain ⟨t, h1, h2⟩ := fillC_of (f := fun t => frN (Nat.mul n es) fun m => pushB H ⟨true, es, .tr m t⟩ f) h
    have h3 := frN_of (f := fun m => pushB H ⟨true, es, .tr m t⟩ f) h1
    refine ⟨_, Conv.push nm (fun _ e => by cases e) (fun k j hi => ?_), pushB_of h3⟩
    have hne : es ≠ 1 := fun q => by rw [q] at e; cases e
    have hz1 : ∀ q x, z ≠ [.int q x] := fun q x q1 => by rw [q1] at hz; exact hne hz.symm
    have hi : k * es + j < n * es := by simpa [AC.inb] using hi
    have hm := Nat.div_add_mod (k * es + j) es
    have hlt := Nat.mod_lt (k * es + j) h0
    have hk : (k * es + j) / es < n := Nat.div_lt_of_lt_mul (by rw [Nat.mul_comm es n]; exact hi)
    have ec : (k * es + j) / es * es + (k * es + j) % es = k * es + j := by rw [Nat.mul_comm]; exact hm
    refine ⟨(k * es + j) / es, (k * es + j) % es, ec, (zeros_inb hz n _ _ h0).2 (.inr ⟨hz1, hk, hlt⟩), ?_⟩
    have hzr : AC.zeros es z n = .recs n (fun _ => z) := by
      unfold AC.zeros
      split
      · exact absurd rfl (hz1 _ _)
      · rfl
    rw [hzr]
    simp only [AC.val]
    have fg := flat_getD hz h0 n _ _ hk hlt
    rw [ec] at fg
    rw [h2, flat_length hz, if_pos (by omega), Nat.sub_zero]
    exact fg.symm
  · rw [e] at h
    have e1 := Nat.eq_of_beq_eq_true e
    subst e1
    match z, hz, h with
    | [v], _, h =>
      refine ⟨_, Conv.push nm (fun _ e => by cases e) (fun k j hi => ?_), pushB_of h⟩
      have hi : k * 1 + j < n := by simpa [AC.inb] using hi
      refine ⟨k * 1 + j, 0, by omega, ?_, ?_⟩
      · refine (zeros_inb (es := 1) (z := [v]) rfl n _ _ (by decide)).2 ?_
        by_cases q : ∃ q x, [v] = [AV.int q x]
        · exact .inl ⟨rfl, q, by omega⟩
        · exact .inr ⟨fun a x e => q ⟨a, x, e⟩, hi, by decide⟩
      · have e1 : (AC.tr n (VT.rep v (Nat.add (Nat.log2 n) 1))).val 1 k j = v := VT.rep_at v n _ hi
        rw [e1]
        unfold AC.zeros
        split
        · rename_i q x e
          cases e
          simp only [AC.val, List.getD_eq_getElem?_getD, List.getElem?_replicate]
          rw [if_pos (by omega)]
          rfl
        · rfl
theorem and4 {a b c d : Bool} (h1 : a = true) (h2 : b = true) (h3 : c = true) (h4 : d = true) : (a && b && c && d) = true := by subst h1 h2 h3 h4; rfl
/-- A row made. -/
def qMks (es bytes : Nat) (z : List AV) (l c : CX) : EX := fun s H f => rdK l s fun u => asI u fun _ l => rdK c s fun v => asI v fun _ c =>
  chk (isNN l) (chk (isNN c) (chk (Nat.ble (Int.toNat l) (Int.toNat c)) (chk (Nat.ble (Nat.mul bytes (Int.toNat c)) 281474976710656) (chk (Nat.ble (Int.toNat c) 9223372036854775807) (frN (Int.toNat l) fun l => frN (Int.toNat c) fun c => pushZ es z c H fun b H => f (.sl b 0 0 l c true) H)))))
theorem qMks_ok (es bytes : Nat) (z : List AV) (hz : z.length = es) (h0 : 0 < es) (l c : CX) : ESpec (.mks es bytes z l c) (qMks es bytes z l c) := fun s H f h => by
  obtain ⟨k1, n, e1, h1⟩ := asI_of (rdK_of h)
  obtain ⟨k2, m, e2, h2⟩ := asI_of (rdK_of h1)
  obtain ⟨a1, h3⟩ := chk_of h2
  obtain ⟨a2, h4⟩ := chk_of h3
  obtain ⟨a3, h5⟩ := chk_of h4
  obtain ⟨a4, h6⟩ := chk_of h5
  obtain ⟨a5, h7⟩ := chk_of h6
  have h8 := frN_of (f := fun l => frN (Int.toNat m) fun c => pushZ es z c H fun b H => f (.sl b 0 0 l c true) H) h7
  have h9 := frN_of (f := fun c => pushZ es z c H fun b H => f (.sl b 0 0 (Int.toNat n) c true) H) h8
  obtain ⟨H2, g1, g2⟩ := pushZ_of hz h0 (f := fun b H => f (.sl b 0 0 (Int.toNat n) (Int.toNat m) true) H) h9
  rw [isNN_eq] at a1 a2
  have b1 : 0 ≤ n := of_decide_eq_true a1
  have b2 : 0 ≤ m := of_decide_eq_true a2
  have b3 : n.toNat ≤ m.toNat := Nat.le_of_ble_eq_true a3
  have b4 : bytes * m.toNat ≤ 281474976710656 := Nat.le_of_ble_eq_true a4
  have b5 : m.toNat ≤ 9223372036854775807 := Nat.le_of_ble_eq_true a5
  refine ⟨0, _, _, H2, ?_, g1, g2⟩
  show cstep (evG s.at) H (.mks es bytes z l c) = _
  simp only [cstep, e1, e2]
  have c4 : (bytes : Int) * m ≤ 281474976710656 := by
    have e : (m : Int) = ((m.toNat : Nat) : Int) := by omega
    have p : ((bytes * m.toNat : Nat) : Int) = (bytes : Int) * ((m.toNat : Nat) : Int) := Int.natCast_mul _ _
    rw [e, ← p]
    generalize bytes * m.toNat = q at b4
    omega
  have q : (decide (0 ≤ n) && decide (n ≤ m) && decide ((bytes : Int) * m ≤ 281474976710656) && decide (m ≤ 9223372036854775807)) = true := by
    exact and4 (decide_eq_true b1) (decide_eq_true (by omega)) (decide_eq_true c4) (decide_eq_true (by omega))
  rw [q]
/-- A heap, its root made plain. -/
def frH (H : AH) (f : AH → Prop) : Prop := @AH.rec (fun _ => Prop) (fun nx t => frN nx fun nx => @T.rec (fun _ => Prop) (f ⟨nx, .e⟩) (fun l x r _ _ => f ⟨nx, .n l x r⟩) t) H
theorem frH_of {H : AH} {f : AH → Prop} (h : frH H f) : f H := by
  obtain ⟨nx, t⟩ := H
  have := frN_of (f := fun nx => @T.rec (fun _ => Prop) (f ⟨nx, .e⟩) (fun l x r _ _ => f ⟨nx, .n l x r⟩) t) h
  cases t <;> exact this
/-- Any operation. -/
def qE0 (c : COp) : EX := fun s H f => match cstep (evG s.at) H c with
  | some (v, H', ok) => chk ok (frV v fun v => frH H' fun H' => f v H')
  | none => False
theorem qE0_okN (c : COp) : ESpecN c (qE0 c) := fun s H f h => by
  unfold qE0 at h
  split at h
  · rename_i v H1 ok hst
    obtain ⟨h1, h2⟩ := chk_of h
    subst h1
    obtain ⟨m, hm⟩ := COp.hint0 c
    exact ⟨m, v, H1, by rw [hm]; exact hst, frH_of (f := fun H' => f v H') (frV_of (f := fun v => frH H1 fun H' => f v H') h2)⟩
  · exact h.elim
theorem qE0_ok (c : COp) : ESpec c (qE0 c) := (qE0_okN c).to
def pureE (e : EXp) : EX := fun s H f => e s H fun v => f v H
theorem pureE_okN {c : COp} {e : EXp} (h : PSpec c e) : ESpecN c (pureE e) := fun s H f q => by
  obtain ⟨v, h1, h2⟩ := h s H _ q
  obtain ⟨m, hm⟩ := COp.hint0 c
  exact ⟨m, v, H, by rw [hm]; exact h1, h2⟩
theorem pureE_ok {c : COp} {e : EXp} (h : PSpec c e) : ESpec c (pureE e) := (pureE_okN h).to
/-- A quick step in a box: the kernel keeps what is in it. -/
inductive OX where
  | mk (e : EX)
inductive OXp where
  | mk (e : EXp)
/-- Of an operation that reads alone. -/
def qp (c : COp) : Option OXp :=
  match c with
  | .mv x => some ⟨qMv x⟩
  | .pick a b d => some ⟨qPick a b d⟩
  | .load sz x => some ⟨qLoad sz x⟩
  | .nilc x => some ⟨qNil x⟩
  | .bin op x y => some ⟨qBin op x y⟩
  | .eq neg q x y => some ⟨qEq neg q x y⟩
  | .un .not x => some ⟨qNot x⟩
  | .conv k x => some ⟨qConv k x⟩
  | .mki t x => some ⟨qMki t x⟩
  | .fa off x => some ⟨qFa off x⟩
  | .fld off sz x => some ⟨qFld off sz x⟩
  | .ias es x i => some ⟨qIas es x i⟩
  | .iaa n es x i => some ⟨qIaa n es x i⟩
  | .ixa n es sz x i => some ⟨qIxa n es sz x i⟩
  | .ext i x => some ⟨qExt i x⟩
  | .lens x => some ⟨qLens x⟩
  | .build z ps => some ⟨qBuild z ps⟩
  | _ => none
theorem qp_ok {c : COp} {e : EXp} (h : qp c = some ⟨e⟩) : PSpec c e := by
  unfold qp at h
  split at h <;> first | (cases h; done) | skip
  · cases h; exact qMv_ok _
  · cases h; exact qPick_ok _ _ _
  · cases h; exact qLoad_ok _ _
  · cases h; exact qNil_ok _
  · cases h; exact qBin_ok _ _ _
  · cases h; exact qEq_ok _ _ _ _
  · cases h; exact qNot_ok _
  · cases h; exact qConv_ok _ _
  · cases h; exact qMki_ok _ _
  · cases h; exact qFa_ok _ _
  · cases h; exact qFld_ok _ _ _
  · cases h; exact qIas_ok _ _ _
  · cases h; exact qIaa_ok _ _ _ _
  · cases h; exact qIxa_ok _ _ _ _ _
  · cases h; exact qExt_ok _ _
  · cases h; exact qLens_ok _
  · cases h; exact qBuild_ok _ _
def qx (c : COp) : OX :=
  match qp c with
  | some ⟨e⟩ => ⟨pureE e⟩
  | none => match c with
    | .box x => ⟨qBox x⟩
    | .alloc z => ⟨qAlloc z⟩
    | .store sz x v => bif Nat.beq sz 0 then ⟨qE0 c⟩ else ⟨qStore sz x v⟩
    | .mks es bytes z l n => bif Nat.beq (lenC z) es && !Nat.beq es 0 then ⟨qMks es bytes z l n⟩ else ⟨qE0 c⟩
    | c => ⟨qE0 c⟩
/-- .. that leaves contents as they are told. -/
def qy (c : COp) : OX :=
  match qp c with
  | some ⟨e⟩ => ⟨pureE e⟩
  | none => match c with
    | .store sz x v => bif Nat.beq sz 0 then ⟨qE0 c⟩ else ⟨qStore sz x v⟩
    | c => ⟨qE0 c⟩
theorem qy_ok {c : COp} {e : EX} (h : qy c = ⟨e⟩) : ESpecN c e := by
  unfold qy at h
  split at h
  · rename_i e1 h1
    cases h
    exact pureE_okN (qp_ok h1)
  · split at h
    · rename_i sz x v _
      rcases hb : Nat.beq sz 0 with _ | _
      · rw [hb] at h; cases h; exact qStore_okN _ hb _ _
      · rw [hb] at h; cases h; exact qE0_okN _
    · cases h; exact qE0_okN _
theorem qx_ok {c : COp} {e : EX} (h : qx c = ⟨e⟩) : ESpec c e := by
  unfold qx at h
  split at h
  · rename_i e1 h1
    cases h
    exact pureE_ok (qp_ok h1)
  · split at h
    · cases h; exact qBox_ok _
    · cases h; exact qAlloc_ok _
    · rename_i sz x v _
      rcases hb : Nat.beq sz 0 with _ | _
      · rw [hb] at h; cases h; exact qStore_ok _ hb _ _
      · rw [hb] at h; cases h; exact qE0_ok _
    · rename_i es bytes z l n _
      rcases hb : (Nat.beq (lenC z) es && !Nat.beq es 0) with _ | _
      · rw [hb] at h; cases h; exact qE0_ok _
      · rw [hb] at h; cases h
        simp only [Bool.and_eq_true, Bool.not_eq_true'] at hb
        refine qMks_ok _ _ _ ((lenC_eq z).symm.trans (Nat.eq_of_beq_eq_true hb.1)) (Nat.pos_of_ne_zero fun e => by rw [e] at hb; exact absurd hb.2 (by decide)) _ _
    · cases h; exact qE0_ok _
end
end Go.Eng
