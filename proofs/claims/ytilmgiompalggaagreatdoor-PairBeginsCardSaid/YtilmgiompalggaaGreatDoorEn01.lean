/- The engine, second part: a new block, a store, what is read; loads and stores of several cells. -/
import Derived.Test.YtilmgiompalggaaGreatDoorEn00
import Derived.Deep.MidRow
import Derived.Deep.AppendSrc
import Derived.Laws.MakeOwn
import Derived.Laws.IdiomCopy
namespace Go.Eng
open Go Go.RowKit
set_option linter.unusedVariables false
set_option linter.unusedSimpArgs false
theorem Sat.heap {μ : Mu} {H : AH} {w w' : World} (s : Sat μ H w) (h : w'.heap = w.heap) : Sat μ H w' :=
  ⟨s.fresh, fun b k hb => by
    obtain ⟨l, h1, h2⟩ := s.blk b k hb
    exact ⟨l, h1, h2.move (fun _ _ q => q) (by rw [h])⟩, s.sep⟩
theorem Fr.drew (μ : Mu) (H : AH) (w : World) : Fr μ H μ H w w.drew :=
  ⟨fun _ _ => rfl, Nat.le_refl _, rfl, rfl, rfl, Nat.le_refl _, fun _ _ _ => rfl, fun b x l h1 h2 => .inr ⟨b, x, l, h1, h2, rfl, id⟩⟩
/-- A number more. -/
def Mu.add (μ : Mu) (n : Nat) (l : Loc) : Mu := fun b => if b = n then some l else μ b
theorem Mu.add_le {μ : Mu} {n : Nat} (h : μ n = none) (l : Loc) : MuLe μ (μ.add n l) := fun b l' hb => by
  unfold Mu.add
  rw [if_neg (by rintro rfl; rw [h] at hb; cases hb)]
  exact hb
/-- The block's cells, read as the abstract content says. -/
def Holds (μ : Mu) (c : AC) (st off : Nat) (C : Array Value) : Prop :=
  (∀ es, c ≠ .map es) ∧ ∀ k j, c.inb st k j = true → ∃ x, C[off + k * st + j]? = some x ∧ VRel μ (c.val st k j) x ∧ x.oneCell' = true
theorem Holds.ext {μ μ' : Mu} (h : MuLe μ μ') {c : AC} {st off : Nat} {C : Array Value} (q : Holds μ c st off C) : Holds μ' c st off C :=
  ⟨q.1, fun k j hk => by obtain ⟨x, h1, h2, h3⟩ := q.2 k j hk; exact ⟨x, h1, VRel.ext h _ _ h2, h3⟩⟩
theorem BSat.of_holds {μ : Mu} {b : ABlk} {l : Loc} {w : World} {C : Array Value} {t : TypeId} {fz : Nat × Nat} (hst : l.st = b.st) (hh : w.heap[l.blk]? = some (.cells C t fz)) (hf : b.own = true → (fz.1 = fz.2 ∨ C.size ≤ fz.1) ∧ l.off + l.cap * b.st ≤ C.size) (hq : Holds μ b.c b.st l.off C) : BSat μ b l w := by
  unfold BSat
  split
  · rename_i es he; exact absurd he (hq.1 es)
  · exact ⟨hst, C, t, fz, hh, hf, hq.2⟩
theorem BSat.holds {μ : Mu} {b : ABlk} {l : Loc} {w : World} (h : BSat μ b l w) (hm : ∀ es, b.c ≠ .map es) : l.st = b.st ∧ ∃ C t fz, w.heap[l.blk]? = some (.cells C t fz) ∧ (b.own = true → (fz.1 = fz.2 ∨ C.size ≤ fz.1) ∧ l.off + l.cap * b.st ≤ C.size) ∧ Holds μ b.c b.st l.off C := by
  unfold BSat at h
  split at h
  · rename_i es he; exact absurd he (hm es)
  · obtain ⟨h0, C, t, fz, h1, h2, h3⟩ := h
    exact ⟨h0, C, t, fz, h1, h2, hm, h3⟩
theorem AC.not_map {c : AC} {st k j : Nat} (h : c.inb st k j = true) : ∀ es, c ≠ .map es := by
  rintro es rfl
  simp [AC.inb] at h
/-- A new block. -/
theorem Sat.alloc {μ : Mu} {H : AH} {w : World} (s : Sat μ H w) (b : ABlk) (C : Array Value) (t : TypeId) (hq : Holds μ b.c b.st 0 C) (cap : Nat := 0) (hcap : cap * b.st ≤ C.size := by simp) :
    Sat (μ.add H.next ⟨w.heap.size, 0, b.st, cap⟩) (H.push b) (w.alloc (.cells C t)) ∧ Fr μ H (μ.add H.next ⟨w.heap.size, 0, b.st, cap⟩) (H.push b) w (w.alloc (.cells C t)) := by
  have hn := s.fresh H.next (Nat.le_refl _)
  have hle := Mu.add_le hn ⟨w.heap.size, 0, b.st, cap⟩
  have hat : (w.alloc (.cells C t)).heap[w.heap.size]? = some (.cells C t) := by
    show (w.heap.push _)[w.heap.size]? = _
    rw [Array.getElem?_push_size]
  refine ⟨⟨fun c hc => ?_, fun c k hk => ?_, fun c c' k k' l l' h1 h2 hne ho g1 g2 => ?_⟩, ⟨fun c hc => ?_, Nat.le_succ _, rfl, rfl, rfl, by simp, fun k hk _ => Below.heap_alloc _ _ _ hk, fun c x l h1 h2 => ?_⟩⟩
  · have hc' : H.next + 1 ≤ c := hc
    unfold Mu.add
    rw [if_neg (by omega)]
    exact s.fresh c (by omega)
  · rw [AH.get_push] at hk
    by_cases e : c = H.next
    · rw [if_pos e] at hk
      cases hk
      exact ⟨⟨w.heap.size, 0, b.st, cap⟩, if_pos e, BSat.of_holds (fz := (0, 0)) rfl hat (fun _ => ⟨.inl rfl, by simpa using hcap⟩) (hq.ext hle)⟩
    · rw [if_neg e] at hk
      obtain ⟨l, g1, g2⟩ := s.blk c k hk
      exact ⟨l, hle _ _ g1, g2.move hle (Below.heap_alloc _ _ _ g2.blk_lt)⟩
  · rw [AH.get_push] at h1 h2
    unfold Mu.add at g1 g2
    by_cases e : c = H.next
    · rw [if_pos e] at g1
      cases g1
      have e' : ¬ c' = H.next := fun h => hne (e.trans h.symm)
      rw [if_neg e'] at h2 g2
      obtain ⟨l2, q1, q2⟩ := s.blk c' k' h2
      rw [g2] at q1; cases q1
      have := q2.blk_lt
      show w.heap.size ≠ _
      omega
    · rw [if_neg e] at h1 g1
      by_cases e' : c' = H.next
      · rw [if_pos e'] at g2
        cases g2
        obtain ⟨l2, q1, q2⟩ := s.blk c k h1
        rw [g1] at q1; cases q1
        have := q2.blk_lt
        show _ ≠ w.heap.size
        omega
      · rw [if_neg e'] at h2 g2
        exact s.sep c c' k k' l l' h1 h2 hne ho g1 g2
  · unfold Mu.add; rw [if_neg (by omega)]
  · rw [AH.get_push] at h1
    unfold Mu.add at h2
    by_cases e : c = H.next
    · rw [if_pos e] at h2; cases h2; exact .inl (Nat.le_refl _)
    · rw [if_neg e] at h1 h2; exact .inr ⟨c, x, l, h1, h2, rfl, id⟩
/-- A block's content turned. -/
theorem Sat.turn {μ : Mu} {H : AH} {w w' : World} (s : Sat μ H w) {b : Nat} {x : ABlk} {l : Loc} (hb : H.get b = some x) (hl : μ b = some l) (ho : x.own = true) (c : AC)
    (hsame : ∀ k, k ≠ l.blk → w'.heap[k]? = w.heap[k]?) (hs : w'.heap.size = w.heap.size) (h1 : w'.os = w.os) (h2 : w'.tape = w.tape) (h3 : w'.output = w.output) (hx : BSat μ { x with c := c } l w') :
    Sat μ (H.set b { x with c := c }) w' ∧ Fr μ H μ (H.set b { x with c := c }) w w' := by
  refine ⟨⟨s.fresh, fun d k hk => ?_, fun d d' k k' m m' e1 e2 hne hk g1 g2 => ?_⟩, ⟨fun _ _ => rfl, Nat.le_refl _, h1, h2, h3, Nat.le_of_eq hs.symm, fun k hk hn => hsame k (fun e => hn b x l hb ho hl e.symm), fun d y m e1 e2 => ?_⟩⟩
  · rw [AH.get_set] at hk
    by_cases e : d = b
    · rw [if_pos e] at hk; cases hk; subst e; exact ⟨l, hl, hx⟩
    · rw [if_neg e] at hk
      obtain ⟨m, g1, g2⟩ := s.blk d k hk
      exact ⟨m, g1, g2.move (fun _ _ q => q) (hsame _ (fun he => s.sep b d x k l m hb hk (Ne.symm e) ho hl g1 he.symm))⟩
  · rw [AH.get_set] at e1 e2
    have q1 : ∃ k0, H.get d = some k0 ∧ k0.own = true := by
      by_cases e : d = b
      · rw [if_pos e] at e1; cases e1; exact ⟨x, e ▸ hb, ho⟩
      · rw [if_neg e] at e1; exact ⟨k, e1, hk⟩
    have q2 : ∃ k0, H.get d' = some k0 := by
      by_cases e : d' = b
      · exact ⟨x, e ▸ hb⟩
      · rw [if_neg e] at e2; exact ⟨k', e2⟩
    obtain ⟨k0, q1, q1'⟩ := q1
    obtain ⟨k1, q2⟩ := q2
    exact s.sep d d' k0 k1 m m' q1 q2 hne q1' g1 g2
  · rw [AH.get_set] at e1
    by_cases e : d = b
    · rw [if_pos e] at e1; cases e1; exact .inr ⟨b, x, l, hb, hl, by rw [e] at e2; rw [hl] at e2; cases e2; rfl, fun _ => ho⟩
    · rw [if_neg e] at e1; exact .inr ⟨d, y, m, e1, e2, rfl, id⟩
/-- Blocks are let go. -/
theorem Sat.sub {μ : Mu} {H H' : AH} {w : World} (s : Sat μ H w) (hn : H'.next = H.next) (h : ∀ b x, H'.get b = some x → H.get b = some x) : Sat μ H' w ∧ Fr μ H μ H' w w :=
  ⟨⟨fun b hb => s.fresh b (hn ▸ hb), fun b k hk => s.blk b k (h b k hk), fun b b' k k' l l' h1 h2 => s.sep b b' k k' l l' (h _ _ h1) (h _ _ h2)⟩,
   ⟨fun _ _ => rfl, Nat.le_of_eq hn.symm, rfl, rfl, rfl, Nat.le_refl _, fun _ _ _ => rfl, fun b x l h1 h2 => .inr ⟨b, x, l, h _ _ h1, h2, rfl, id⟩⟩⟩
/-! ### reading -/
theorem Holds.cell {μ : Mu} {c : AC} {st off : Nat} {C : Array Value} (h : Holds μ c st off C) {k j : Nat} (hi : c.inb st k j = true) : ∃ x, C[off + k * st + j]? = some x ∧ VRel μ (c.val st k j) x ∧ x.oneCell' = true := h.2 k j hi
theorem cell_of {w : World} {l : Loc} {C : Array Value} {t : TypeId} {fz : Nat × Nat} (h : w.heap[l.blk]? = some (.cells C t fz)) (k j : Nat) : w.cell? (l.at k j) = C[l.off + k * l.st + j]? := by
  simp [World.cell?, Loc.at, h]
/-- n cells from a place on. -/
noncomputable def AC.vals (st : Nat) (c : AC) (k j n : Nat) : List AV := (List.range n).map fun i => c.val st k (j + i)
def AC.inbs (st : Nat) (c : AC) (k j n : Nat) : Bool := (List.range n).all fun i => c.inb st k (j + i)
theorem Sat.read {μ : Mu} {H : AH} {w : World} (s : Sat μ H w) {b : Nat} {x : ABlk} {l : Loc} (hb : H.get b = some x) (hl : μ b = some l) {k j : Nat} (hi : x.c.inb x.st k j = true) :
    ∃ v, w.cell? (l.at k j) = some v ∧ VRel μ (x.c.val x.st k j) v ∧ v.oneCell' = true := by
  obtain ⟨l', g1, g2⟩ := s.blk b x hb
  rw [hl] at g1; cases g1
  obtain ⟨h0, C, t, fz, h1, _, h3⟩ := g2.holds (AC.not_map hi)
  obtain ⟨v, q1, q2, q3⟩ := h3.cell hi
  exact ⟨v, by rw [cell_of h1, h0]; exact q1, q2, q3⟩
theorem Sat.reads {μ : Mu} {H : AH} {w : World} (s : Sat μ H w) {b : Nat} {x : ABlk} {l : Loc} (hb : H.get b = some x) (hl : μ b = some l) {k j n : Nat} (hi : x.c.inbs x.st k j n = true) :
    ∃ vs : List Value, vs.length = n ∧ (∀ i v, vs[i]? = some v → w.cell? (l.at k (j + i)) = some v) ∧ VRels μ (x.c.vals x.st k j n) vs ∧ ∀ v ∈ vs, v.oneCell' = true := by
  induction n generalizing j with
  | zero => exact ⟨[], rfl, by simp, by simp [AC.vals, VRels], by simp⟩
  | succ n ih =>
    have h0 : x.c.inb x.st k j = true := by
      have := List.all_eq_true.1 hi 0 (by simp)
      simpa using this
    have h1 : x.c.inbs x.st k (j + 1) n = true := by
      unfold AC.inbs
      rw [List.all_eq_true]
      intro i hi'
      have := List.all_eq_true.1 hi (i + 1) (by simp at hi' ⊢; omega)
      simpa [Nat.add_assoc, Nat.add_comm 1 i] using this
    obtain ⟨v, q1, q2, q3⟩ := s.read hb hl h0
    obtain ⟨vs, g1, g2, g3, g4⟩ := ih h1
    refine ⟨v :: vs, by simp [g1], ?_, ?_, ?_⟩
    · intro i u hu
      cases i with
      | zero => simp at hu; subst hu; simpa using q1
      | succ i => have := g2 i u (by simpa using hu); rwa [show j + 1 + i = j + (i + 1) by omega] at this
    · have : x.c.vals x.st k j (n + 1) = x.c.val x.st k j :: x.c.vals x.st k (j + 1) n := by
        unfold AC.vals
        rw [List.range_succ_eq_map]
        simp [Nat.add_assoc, Nat.add_comm 1]
      rw [this]
      exact ⟨q2, g3⟩
    · intro u hu
      rcases List.mem_cons.1 hu with rfl | hu
      · exact q3
      · exact g4 u hu
/-! ### writing -/
noncomputable def AC.upd (st : Nat) (k j : Nat) (v : AV) : AC → Option AC
  | .cells l => some (.cells (l.set (k * st + j) v))
  | .ints q xs => match v with
    | .int q' n => bif decide (q = q') then some (.ints q (xs.set (k + j) n)) else none
    | _ => none
  | .recs n f => some (.recs n (fun i => bif Nat.beq i k then (f i).set j v else f i))
  | .map _ => none
  | .tr n t => some (.tr n (t.putAt (k * st + j) v))
theorem AC.upd_inb {st k j : Nat} {v : AV} {c c' : AC} (h : c.upd st k j v = some c') (k' j' : Nat) : c'.inb st k' j' = c.inb st k' j' := by
  cases c with
  | cells l => simp only [AC.upd, Option.some.injEq] at h; subst h; simp [AC.inb]
  | ints q xs =>
    cases v with
    | int q' n =>
      simp only [AC.upd] at h
      by_cases e : q = q'
      · simp [e] at h; subst h; simp [AC.inb]
      · simp [e] at h
    | _ => simp [AC.upd] at h
  | recs n f => simp only [AC.upd, Option.some.injEq] at h; subst h; rfl
  | map es => simp [AC.upd] at h
  | tr n t => simp only [AC.upd, Option.some.injEq] at h; subst h; rfl
theorem getD_set_av (l : List AV) (p q : Nat) (v : AV) : (l.set p v).getD q .any = if q = p ∧ p < l.length then v else l.getD q .any := by
  rw [List.getD_eq_getElem?_getD, List.getElem?_set, List.getD_eq_getElem?_getD]
  by_cases e : p = q
  · subst e
    by_cases h : p < l.length
    · simp [h]
    · simp [h]
  · rw [if_neg e, if_neg (fun h => e h.1.symm)]
theorem AC.upd_val {st k j : Nat} {v : AV} {c c' : AC} (h : c.upd st k j v = some c') (hi : c.inb st k j = true) {k' j' : Nat} (hi' : c.inb st k' j' = true) :
    if k' * st + j' = k * st + j then c'.val st k' j' = v ∨ c'.val st k' j' = .any else c'.val st k' j' = c.val st k' j' := by
  cases c with
  | cells l =>
    simp only [AC.upd, Option.some.injEq] at h
    subst h
    simp only [AC.inb, decide_eq_true_eq] at hi
    simp only [AC.val, getD_set_av]
    by_cases e : k' * st + j' = k * st + j
    · rw [if_pos e, if_pos ⟨e, hi⟩]; exact .inl rfl
    · rw [if_neg e, if_neg (fun h => e h.1)]
  | ints q xs =>
    cases v with
    | int q' n =>
      simp only [AC.upd] at h
      by_cases e : q = q'
      · subst e
        simp at h
        subst h
        simp only [AC.inb, Bool.and_eq_true, decide_eq_true_eq, Nat.beq_eq_true_eq] at hi hi'
        obtain ⟨hst, hi⟩ := hi
        obtain rfl : st = 1 := Nat.eq_of_beq_eq_true hst
        simp only [AC.val, Nat.mul_one]
        by_cases e : k' + j' = k + j
        · rw [if_pos e, e, List.getD_eq_getElem?_getD, List.getElem?_set_self hi]; exact .inl rfl
        · rw [if_neg e, List.getD_eq_getElem?_getD, List.getElem?_set_ne (Ne.symm e), ← List.getD_eq_getElem?_getD]
      · simp [e] at h
    | _ => simp [AC.upd] at h
  | recs n f =>
    simp only [AC.upd, Option.some.injEq] at h
    subst h
    simp only [AC.inb, Bool.and_eq_true, decide_eq_true_eq] at hi hi'
    have hk : k' * st + j' = k * st + j ↔ k' = k ∧ j' = j := by
      constructor
      · intro e
        have h1 : (k' * st + j') / st = k' := by rw [Nat.mul_comm, Nat.mul_add_div (by omega), Nat.div_eq_of_lt hi'.2]; omega
        have h2 : (k * st + j) / st = k := by rw [Nat.mul_comm, Nat.mul_add_div (by omega), Nat.div_eq_of_lt hi.2]; omega
        have : k' = k := by rw [← h1, e, h2]
        subst this
        exact ⟨rfl, by omega⟩
      · rintro ⟨rfl, rfl⟩; rfl
    simp only [AC.val]
    by_cases e : k' * st + j' = k * st + j
    · rw [if_pos e]
      obtain ⟨rfl, rfl⟩ := hk.1 e
      simp only [Nat.beq_refl, cond_true, getD_set_av]
      by_cases hl : j' < (f k').length
      · exact .inl (by simp [hl])
      · rw [if_neg (fun h => hl h.2), List.getD_eq_getElem?_getD, List.getElem?_eq_none (by omega)]; exact .inr rfl
    · rw [if_neg e]
      by_cases ek : k' = k
      · subst ek
        simp only [Nat.beq_refl, cond_true, getD_set_av]
        rw [if_neg (fun h => e (by rw [h.1]))]
      · have : Nat.beq k' k = false := by
          rcases hq : Nat.beq k' k with _ | _
          · rfl
          · exact absurd (Nat.eq_of_beq_eq_true hq) ek
        simp [this]
  | map es => simp [AC.upd] at h
  | tr n t =>
    simp only [AC.upd, Option.some.injEq] at h
    subst h
    simp only [AC.val, VT.at_put]
    by_cases e : k' * st + j' = k * st + j
    · rw [if_pos e, if_pos e]; exact .inl rfl
    · rw [if_neg e, if_neg e]
theorem Holds.upd {μ : Mu} {c c' : AC} {st off : Nat} {C : Array Value} (h : Holds μ c st off C) {k j : Nat} {v : AV} {u : Value} (hi : c.inb st k j = true) (hu : c.upd st k j v = some c') (hv : VRel μ v u) (h1 : u.oneCell' = true) :
    Holds μ c' st off (C.setIfInBounds (off + k * st + j) u) := by
  refine ⟨?_, fun k' j' hi' => ?_⟩
  · rintro es rfl
    have := AC.upd_inb hu k j
    rw [hi] at this
    simp [AC.inb] at this
  · rw [AC.upd_inb hu] at hi'
    have q := AC.upd_val hu hi hi'
    by_cases e : k' * st + j' = k * st + j
    · rw [if_pos e] at q
      obtain ⟨x, hx, _, _⟩ := h.cell hi
      have hlt := (Array.getElem?_eq_some_iff.1 hx).1
      refine ⟨u, ?_, ?_, h1⟩
      · rw [show off + k' * st + j' = off + k * st + j by omega, Array.getElem?_setIfInBounds_self]; simp [hlt]
      · rcases q with q | q <;> rw [q]
        · exact hv
        · trivial
    · rw [if_neg e] at q
      obtain ⟨x, hx, hx2, hx3⟩ := h.cell hi'
      exact ⟨x, by rw [Array.getElem?_setIfInBounds_ne (by omega)]; exact hx, by rw [q]; exact hx2, hx3⟩
/-- Several cells. -/
noncomputable def AC.upds (st : Nat) (k : Nat) : List AV → Nat → AC → Option AC
  | [], _, c => some c
  | v :: vs, j, c => match AC.upd st k j v c with
    | some c' => AC.upds st k vs (j + 1) c'
    | none => none
def setFrom : Nat → List Value → Array Value → Array Value
  | _, [], C => C
  | o, u :: us, C => setFrom (o + 1) us (C.setIfInBounds o u)
theorem setFrom_size : ∀ (us : List Value) (o : Nat) (C : Array Value), (setFrom o us C).size = C.size
  | [], _, _ => rfl
  | u :: us, o, C => by rw [setFrom, setFrom_size us]; simp
theorem AC.inbs_succ {st : Nat} {c : AC} {k j n : Nat} (h : c.inbs st k j (n + 1) = true) : c.inb st k j = true ∧ c.inbs st k (j + 1) n = true := by
  refine ⟨by have := List.all_eq_true.1 h 0 (by simp); simpa using this, ?_⟩
  unfold AC.inbs
  rw [List.all_eq_true]
  intro i hi
  have := List.all_eq_true.1 h (i + 1) (by simp at hi ⊢; omega)
  simpa [Nat.add_assoc, Nat.add_comm 1 i] using this
theorem AC.upd_inbs {st k j : Nat} {v : AV} {c c' : AC} (h : c.upd st k j v = some c') (k' j' n : Nat) : c'.inbs st k' j' n = c.inbs st k' j' n := by
  unfold AC.inbs
  congr 1
  funext i
  exact AC.upd_inb h _ _
theorem Holds.upds {μ : Mu} {st off k : Nat} : ∀ (vs : List AV) (us : List Value) (j : Nat) (c c' : AC) (C : Array Value), Holds μ c st off C → c.inbs st k j vs.length = true → AC.upds st k vs j c = some c' → VRels μ vs us → (∀ u ∈ us, u.oneCell' = true) →
    Holds μ c' st off (setFrom (off + k * st + j) us C)
  | [], [], j, c, c', C, h, _, hu, _, _ => by simp only [AC.upds, Option.some.injEq] at hu; subst hu; exact h
  | v :: vs, u :: us, j, c, c', C, h, hi, hu, hv, h1 => by
    obtain ⟨i1, i2⟩ := AC.inbs_succ (n := vs.length) hi
    simp only [AC.upds] at hu
    split at hu
    · rename_i c1 hc1
      have := Holds.upds vs us (j + 1) c1 c' _ (h.upd i1 hc1 hv.1 (h1 u (by simp))) (by rw [AC.upd_inbs hc1]; exact i2) hu hv.2 (fun x hx => h1 x (by simp [hx]))
      rw [setFrom]
      exact this
    · cases hu
  | [], _ :: _, _, _, _, _, _, _, _, q, _ => q.elim
  | _ :: _, [], _, _, _, _, _, _, _, q, _ => q.elim
theorem setCells_heap (b : Nat) : ∀ (us : List Value) (o : Nat) (w : World) (C : Array Value) (t : TypeId) (fz : Nat × Nat), w.heap[b]? = some (.cells C t fz) → (w.setCells b o us).heap[b]? = some (.cells (setFrom o us C) t fz)
  | [], _, _, _, _, _, h => h
  | u :: us, o, w, C, t, fz, h => by
    rw [World.setCells, setFrom]
    refine setCells_heap b us (o + 1) _ _ t fz ?_
    simp [World.setCell, Array.getElem?_modify, h]
theorem setCells_other (b : Nat) : ∀ (us : List Value) (o : Nat) (w : World) (k : Nat), k ≠ b → (w.setCells b o us).heap[k]? = w.heap[k]?
  | [], _, _, _, _ => rfl
  | u :: us, o, w, k, h => by rw [World.setCells, setCells_other b us _ _ k h]; exact Below.heap_setCell w ⟨b, o, none⟩ u k h
theorem setCells_rest (b : Nat) : ∀ (us : List Value) (o : Nat) (w : World), (w.setCells b o us).heap.size = w.heap.size ∧ (w.setCells b o us).os = w.os ∧ (w.setCells b o us).tape = w.tape ∧ (w.setCells b o us).output = w.output
  | [], _, _ => ⟨rfl, rfl, rfl, rfl⟩
  | u :: us, o, w => by
    obtain ⟨h1, h2, h3, h4⟩ := setCells_rest b us (o + 1) (w.setCell ⟨b, o, none⟩ u)
    exact ⟨h1.trans (by simp [World.setCell]), h2, h3, h4⟩
/-- A store. -/
theorem Sat.stores {μ : Mu} {H : AH} {w : World} (s : Sat μ H w) {b : Nat} {x : ABlk} {l : Loc} (hb : H.get b = some x) (hl : μ b = some l) (ho : x.own = true) {k j : Nat} {vs : List AV} {us : List Value} {c' : AC}
    (hi : x.c.inbs x.st k j vs.length = true) (hne : ∀ es, x.c ≠ .map es) (hu : AC.upds x.st k vs j x.c = some c') (hv : VRels μ vs us) (h1 : ∀ u ∈ us, u.oneCell' = true) :
    Sat μ (H.set b { x with c := c' }) (w.setCells l.blk (l.off + k * l.st + j) us) ∧ Fr μ H μ (H.set b { x with c := c' }) w (w.setCells l.blk (l.off + k * l.st + j) us) ∧
      (∀ i, i < us.length → (w.cell? ⟨l.blk, l.off + k * l.st + j + i, none⟩).isSome = true ∧ w.frozen? ⟨l.blk, l.off + k * l.st + j + i, none⟩ = false) := by
  obtain ⟨l', g1, g2⟩ := s.blk b x hb
  rw [hl] at g1; cases g1
  obtain ⟨h0, C, t, fz, e1, e2, e3⟩ := g2.holds hne
  obtain ⟨r1, r2, r3, r4⟩ := setCells_rest l.blk us (l.off + k * l.st + j) w
  have q := Holds.upds vs us j x.c c' C e3 hi hu hv h1
  obtain ⟨t1, t2⟩ := s.turn hb hl ho c' (setCells_other l.blk us _ w) r1 r2 r3 r4 (BSat.of_holds (fz := fz) h0 (setCells_heap l.blk us _ w C t fz e1) (fun ho => by rw [setFrom_size]; exact e2 ho) (by rw [h0]; exact q))
  refine ⟨t1, t2, fun i hlt => ?_⟩
  have hin : x.c.inb x.st k (j + i) = true := by
    have := List.all_eq_true.1 hi i (by rw [← hv.len] at hlt; simpa using hlt)
    exact this
  obtain ⟨u, p1, _, _⟩ := e3.cell hin
  have hlt2 := (Array.getElem?_eq_some_iff.1 p1).1
  constructor
  · simp only [World.cell?, e1]
    rw [show l.off + k * l.st + j + i = l.off + k * x.st + (j + i) by rw [h0]; omega, p1]; rfl
  · have := (e2 ho).1
    simp only [World.frozen?, e1]
    rw [h0]
    rcases this with hz | hz
    · simp; omega
    · simp; omega
end Go.Eng
