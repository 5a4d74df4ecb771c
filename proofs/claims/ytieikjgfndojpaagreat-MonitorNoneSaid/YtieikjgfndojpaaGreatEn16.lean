/- The engine, fifteenth part: heaps by lists; renamings, calls and weakenings by what can be reckoned. -/
import Derived.Test.YtieikjgfndojpaaGreatEn15
namespace Go.Eng
open Go Go.RowKit
set_option linter.unusedVariables false
set_option linter.unusedSimpArgs false
noncomputable section
abbrev LH := List (Nat × ABlk)
theorem foldl_next : ∀ (l : LH) (H : AH), (l.foldl (fun H p => H.set p.1 p.2) H).next = H.next
  | [], _ => rfl
  | p :: l, H => by rw [List.foldl_cons, foldl_next l]; rfl
theorem foldl_get : ∀ (l : LH) (H : AH) (b : Nat) (k : ABlk), (l.foldl (fun H p => H.set p.1 p.2) H).get b = some k → (∃ p ∈ l, p.1 = b ∧ p.2 = k) ∨ H.get b = some k
  | [], _, _, _, h => .inr h
  | p :: l, H, b, k, h => by
    rw [List.foldl_cons] at h
    rcases foldl_get l _ b k h with ⟨q, h1, h2⟩ | h
    · exact .inl ⟨q, List.mem_cons_of_mem _ h1, h2⟩
    · rw [AH.get_set] at h
      by_cases e : b = p.1
      · rw [if_pos e] at h; cases h; exact .inl ⟨p, List.mem_cons_self, e.symm, rfl⟩
      · rw [if_neg e] at h; exact .inr h
theorem AH.of_next (n : Nat) (l : LH) : (AH.of n l).next = n := foldl_next l _
theorem AH.of_get {n : Nat} {l : LH} {b : Nat} {k : ABlk} (h : (AH.of n l).get b = some k) : ∃ p ∈ l, p.1 = b ∧ p.2 = k := by
  rcases foldl_get l _ b k h with h | h
  · exact h
  · simp [AH.get, T.get] at h
/-- Other numbers, by a list; what is not in it goes beyond. -/
def sig (σ : List Nat) (n : Nat) : Nat → Nat := fun b => σ.getD b n
def BlkOK (σ : Nat → Nat) (H : AH) : LH → Prop
  | [] => True
  | p :: l => H.get (σ p.1) = some (p.2.ren σ) ∧ BlkOK σ H l
theorem BlkOK.mem {σ : Nat → Nat} {H : AH} : ∀ {l : LH}, BlkOK σ H l → ∀ p ∈ l, H.get (σ p.1) = some (p.2.ren σ)
  | [], _, p, hp => by cases hp
  | q :: l, h, p, hp => by
    rcases List.mem_cons.1 hp with rfl | hp
    · exact h.1
    · exact BlkOK.mem h.2 p hp
/-- No number twice. -/
def noDup : List Nat → Bool
  | [] => true
  | x :: l => !l.contains x && noDup l
theorem noDup_ne : ∀ {l : List Nat}, noDup l = true → ∀ (i j : Nat), i < j → ∀ (x y : Nat), l[i]? = some x → l[j]? = some y → x ≠ y
  | [], _, i, j, _, x, y, h, _ => by simp at h
  | a :: l, h, i, j, hij, x, y, hx, hy => by
    simp only [noDup, Bool.and_eq_true, Bool.not_eq_true'] at h
    cases j with
    | zero => omega
    | succ j =>
      simp at hy
      cases i with
      | zero =>
        simp at hx
        subst hx
        rintro rfl
        have : a ∈ l := List.mem_of_getElem? hy
        have h2 := List.contains_iff_mem.2 this
        rw [h2] at h
        exact absurd h.1 (by simp)
      | succ i => exact noDup_ne h.2 i j (by omega) x y (by simpa using hx) hy
theorem emb_of {σ : List Nat} {n0 : Nat} {L0 : LH} {H : AH} (hl : σ.length ≤ n0) (hb : BlkOK (sig σ H.next) H L0) (hd : noDup (L0.map (fun p => sig σ H.next p.1)) = true) : Emb (sig σ H.next) (AH.of n0 L0) H where
  out b h := by
    rw [AH.of_next] at h
    unfold sig
    rw [List.getD_eq_getElem?_getD, List.getElem?_eq_none (by omega)]
    exact Nat.le_refl _
  blk b k h := by
    obtain ⟨p, hp, rfl, rfl⟩ := AH.of_get h
    exact hb.mem p hp
  inj b b' k k' h h' hne := by
    obtain ⟨p, hp, rfl, rfl⟩ := AH.of_get h
    obtain ⟨q, hq, rfl, rfl⟩ := AH.of_get h'
    obtain ⟨i, hi⟩ := List.getElem?_of_mem hp
    obtain ⟨j, hj⟩ := List.getElem?_of_mem hq
    have e1 : (L0.map (fun p => sig σ H.next p.1))[i]? = some (sig σ H.next p.1) := by simp [hi]
    have e2 : (L0.map (fun p => sig σ H.next p.1))[j]? = some (sig σ H.next q.1) := by simp [hj]
    rcases Nat.lt_trichotomy i j with h | h | h
    · exact noDup_ne hd i j h _ _ e1 e2
    · subst h; rw [hi] at hj; cases hj; exact absurd rfl hne
    · exact (noDup_ne hd j i h _ _ e2 e1).symm
/-- The heap behind a call. -/
def callRes (σ : Nat → Nat) (n0 : Nat) (L0 : LH) (H : AH) (n0' : Nat) (L0' : LH) : AH :=
  let τ : Nat → Nat := fun b => bif Nat.blt b n0 then σ b else H.next + (b - n0)
  let H1 := L0.foldl (fun H p => H.del (σ p.1)) H
  let H2 := L0'.foldl (fun H p => H.set (τ p.1) (p.2.ren τ)) H1
  { next := H.next + (n0' - n0), t := H2.t }
theorem dels_get (σ : Nat → Nat) : ∀ (l : LH) (H : AH) (c : Nat) (k : ABlk), (l.foldl (fun H p => H.del (σ p.1)) H).get c = some k → H.get c = some k ∧ ∀ p ∈ l, σ p.1 ≠ c
  | [], _, _, _, h => ⟨h, fun p hp => by cases hp⟩
  | p :: l, H, c, k, h => by
    rw [List.foldl_cons] at h
    obtain ⟨h1, h2⟩ := dels_get σ l _ c k h
    rw [AH.get_del] at h1
    by_cases e : c = σ p.1
    · rw [if_pos e] at h1; cases h1
    · rw [if_neg e] at h1
      exact ⟨h1, fun q hq => by
        rcases List.mem_cons.1 hq with rfl | hq
        · exact Ne.symm e
        · exact h2 q hq⟩
theorem sets_get (τ : Nat → Nat) : ∀ (l : LH) (H : AH) (c : Nat) (k : ABlk), (l.foldl (fun H p => H.set (τ p.1) (p.2.ren τ)) H).get c = some k → H.get c = some k ∨ ∃ p ∈ l, c = τ p.1 ∧ k = p.2.ren τ
  | [], _, _, _, h => .inl h
  | p :: l, H, c, k, h => by
    rw [List.foldl_cons] at h
    rcases sets_get τ l _ c k h with h | ⟨q, h1, h2⟩
    · rw [AH.get_set] at h
      by_cases e : c = τ p.1
      · rw [if_pos e] at h; cases h; exact .inr ⟨p, List.mem_cons_self, e, rfl⟩
      · rw [if_neg e] at h; exact .inl h
    · exact .inr ⟨q, List.mem_cons_of_mem _ h1, h2⟩
theorem of_mem : ∀ (l : LH) (H : AH) (p : Nat × ABlk), p ∈ l → noDup (l.map (·.1)) = true → (l.foldl (fun H p => H.set p.1 p.2) H).get p.1 = some p.2
  | [], _, p, hp, _ => by cases hp
  | q :: l, H, p, hp, hd => by
    rw [List.foldl_cons]
    simp only [List.map_cons, noDup, Bool.and_eq_true, Bool.not_eq_true'] at hd
    rcases List.mem_cons.1 hp with rfl | hp
    · have hnot : ∀ r ∈ l, r.1 ≠ p.1 := by
        intro r hr he
        have : p.1 ∈ l.map (·.1) := by rw [← he]; exact List.mem_map_of_mem hr
        rw [List.contains_iff_mem.2 this] at hd
        exact absurd hd.1 (by simp)
      have key : ∀ (l : LH) (H : AH), (∀ r ∈ l, r.1 ≠ p.1) → (l.foldl (fun H p => H.set p.1 p.2) H).get p.1 = H.get p.1 := by
        intro l
        induction l with
        | nil => intro _ _; rfl
        | cons r l ih =>
          intro H hr
          rw [List.foldl_cons, ih _ (fun s hs => hr s (List.mem_cons_of_mem _ hs)), AH.get_set, if_neg (fun e => hr r List.mem_cons_self e.symm)]
      rw [key l _ hnot, AH.get_set, if_pos rfl]
    · exact of_mem l _ p hp hd.2
theorem after_of {σ : Nat → Nat} {n0 n0' : Nat} {L0 L0' : LH} {H : AH} (hd : noDup (L0.map (·.1)) = true) (hd' : noDup (L0'.map (·.1)) = true) : After σ (AH.of n0 L0) H (AH.of n0' L0') (callRes σ n0 L0 H n0' L0') := by
  have ht : (fun b => bif Nat.blt b n0 then σ b else H.next + (b - n0)) = tau σ (AH.of n0 L0) H := by
    funext b
    unfold tau
    rw [AH.of_next]
    by_cases h : b < n0
    · rw [blt_true h, if_pos h]; rfl
    · rw [blt_false h, if_neg h]; rfl
  refine ⟨by rw [AH.of_next, AH.of_next]; rfl, fun c k hc => ?_⟩
  have hc' : (L0'.foldl (fun H p => H.set ((fun b => bif Nat.blt b n0 then σ b else H.next + (b - n0)) p.1) (p.2.ren (fun b => bif Nat.blt b n0 then σ b else H.next + (b - n0)))) (L0.foldl (fun H p => H.del (σ p.1)) H)).get c = some k → True := fun _ => trivial
  have h0 : (callRes σ n0 L0 H n0' L0').get c = (L0'.foldl (fun H' p => H'.set (tau σ (AH.of n0 L0) H p.1) (p.2.ren (tau σ (AH.of n0 L0) H))) (L0.foldl (fun H p => H.del (σ p.1)) H)).get c := by
    rw [← ht]; rfl
  rw [h0] at hc
  rcases sets_get _ L0' _ c k hc with h | ⟨p, h1, h2, h3⟩
  · obtain ⟨g1, g2⟩ := dels_get σ L0 H c k h
    refine .inl ⟨g1, fun b k0 hb => ?_⟩
    obtain ⟨p, hp, rfl, rfl⟩ := AH.of_get hb
    exact g2 p hp
  · exact .inr ⟨p.1, p.2, of_mem L0' _ p h1 hd', h2, h3⟩
/-- A call in a region, by lists. -/
theorem Seg.calls {P : Program} {B : Nat} {ops : Array Oper} {o : Oper} {l : List Oper} {ts : List AV} {H H1 : AH} {Q : Post} {f : FuncId} {args0 as : List AV} {n0 n0' : Nat} {L0 L0' : LH} {v0 v : AV} (run : Runs P f args0 (AH.of n0 L0) (.ret v0) (AH.of n0' L0')) (σ : List Nat)
    (hc : (match guardOf ops o with | some g => goesOn ts g | none => none) = some true ∧ callOf ts o = some (f, as) ∧ isGo P f = true ∧ Nat.ble σ.length n0 = true ∧ noDup (L0.map (fun p => sig σ H.next p.1)) = true ∧ noDup (L0.map (·.1)) = true ∧ noDup (L0'.map (·.1)) = true)
    (ha : AV.rens (sig σ H.next) args0 = as) (hb : BlkOK (sig σ H.next) H L0) (hr : callRes (sig σ H.next) n0 L0 H n0' L0' = H1) (hv : v0.ren (fun b => bif Nat.blt b n0 then sig σ H.next b else H.next + (b - n0)) = v)
    (hn : Seg P B ops l (putT ts o.dst v) H1 Q) : Seg P B ops (o :: l) ts H Q := by
  obtain ⟨h1, h2, h3, h4, h5, h6, h7⟩ := hc
  subst hr hv
  split at h1
  · rename_i g hg
    have ht : (fun b => bif Nat.blt b n0 then sig σ H.next b else H.next + (b - n0)) = tau (sig σ H.next) (AH.of n0 L0) H := by
      funext b
      unfold tau
      rw [AH.of_next]
      by_cases h : b < n0
      · rw [blt_true h, if_pos h]; rfl
      · rw [blt_false h, if_neg h]; rfl
    rw [ht] at hn
    exact Seg.call (sig σ H.next) hg h1 h2 h3 run ha (emb_of (Nat.le_of_ble_eq_true h4) hb h5) (after_of h6 h7) hn
  · cases h1
/-- .. one that panics. -/
theorem Seg.callp {P : Program} {B : Nat} {ops : Array Oper} {o : Oper} {l : List Oper} {ts : List AV} {H H1 : AH} {Q : Post} {f : FuncId} {args0 as : List AV} {n0 n0' : Nat} {L0 L0' : LH} {v0 v : AV} (run : Runs P f args0 (AH.of n0 L0) (.panic v0) (AH.of n0' L0')) (σ : List Nat)
    (hc : (match guardOf ops o with | some g => goesOn ts g | none => none) = some true ∧ callOf ts o = some (f, as) ∧ isGo P f = true ∧ Nat.ble σ.length n0 = true ∧ noDup (L0.map (fun p => sig σ H.next p.1)) = true ∧ noDup (L0.map (·.1)) = true ∧ noDup (L0'.map (·.1)) = true)
    (ha : AV.rens (sig σ H.next) args0 = as) (hb : BlkOK (sig σ H.next) H L0) (hr : callRes (sig σ H.next) n0 L0 H n0' L0' = H1) (hv : v0.ren (fun b => bif Nat.blt b n0 then sig σ H.next b else H.next + (b - n0)) = v)
    (hn : Q (.panic v) ts H1) : Seg P B ops (o :: l) ts H Q := by
  obtain ⟨h1, h2, h3, h4, h5, h6, h7⟩ := hc
  subst hr hv
  split at h1
  · rename_i g hg
    have ht : (fun b => bif Nat.blt b n0 then sig σ H.next b else H.next + (b - n0)) = tau (sig σ H.next) (AH.of n0 L0) H := by
      funext b
      unfold tau
      rw [AH.of_next]
      by_cases h : b < n0
      · rw [blt_true h, if_pos h]; rfl
      · rw [blt_false h, if_neg h]; rfl
    rw [ht] at hn
    exact Seg.call (sig σ H.next) hg h1 h2 h3 run ha (emb_of (Nat.le_of_ble_eq_true h4) hb h5) (after_of h6 h7) hn
  · cases h1
/-- Slots, renamed; 'any' where nothing is to be known. -/
def merge (σ : Nat → Nat) : List AV → List AV → List AV
  | v' :: vs', v :: vs => (match v' with
    | .any => v
    | v' => v'.ren σ) :: merge σ vs' vs
  | _, _ => []
theorem merge_rel {μ : Mu} {σ : Nat → Nat} : ∀ {vs' vs : List AV} {xs : List Value}, merge σ vs' vs = vs → vs'.length = vs.length → VRels μ vs xs → VRels (fun b => μ (σ b)) vs' xs
  | [], [], [], _, _, _ => trivial
  | v' :: vs', v :: vs, x :: xs, h, hl, hr => by
    simp only [merge, List.cons.injEq] at h
    refine ⟨?_, merge_rel h.2 (by simpa using hl) hr.2⟩
    have h1 := h.1
    split at h1
    · trivial
    · have := hr.1
      rw [← h1] at this
      exact VRel.unren (fun _ _ h => h) _ _ this
  | [], _ :: _, _, _, hl, _ => by simp at hl
  | _ :: _, [], _, _, hl, _ => by simp at hl
  | [], [], _ :: _, _, _, q => q.elim
  | _ :: _, _ :: _, [], _, _, q => q.elim
/-- A weaker state, by lists. -/
theorem weak_of {B : Nat} {ts ts' : List AV} {H : AH} {n' : Nat} {L' : LH} (σ : List Nat) (hc : Nat.ble σ.length n' = true ∧ Nat.ble B n' = true ∧ Nat.ble B σ.length = true ∧ (List.range B).all (fun b => Nat.beq (sig σ H.next b) b) = true ∧ noDup (L'.map (fun p => sig σ H.next p.1)) = true ∧ Nat.beq ts'.length ts.length = true)
    (ht : merge (sig σ H.next) ts' ts = ts) (hb : BlkOK (sig σ H.next) H L') : Weak B ts H ts' (AH.of n' L') := fun μ w tmps r s hB => by
  obtain ⟨h1, h2, h3, h4, h5, h6⟩ := hc
  have em := emb_of (n0 := n') (Nat.le_of_ble_eq_true h1) hb h5
  refine ⟨fun b => μ (sig σ H.next b), merge_rel ht (Nat.eq_of_beq_eq_true h6) r, em.sat s, ⟨fun b hb' => ?_, by rw [AH.of_next]; exact Nat.le_of_ble_eq_true h2, rfl, rfl, rfl, Nat.le_refl _, fun _ _ _ => rfl, fun b x l g1 g2 => .inr ⟨sig σ H.next b, x.ren (sig σ H.next), l, em.blk b x g1, g2, rfl, fun h => h⟩⟩⟩
  have := List.all_eq_true.1 h4 b (List.mem_range.2 hb')
  show μ (sig σ H.next b) = μ b
  rw [Nat.eq_of_beq_eq_true this]
end
end Go.Eng
