/- The engine, thirteenth part: functions: what a call comes to, and calls in regions. -/
import Derived.Test.YtmbcpmbpkdeioaaGreatDoorEn12
namespace Go.Eng
open Go Go.RowKit
set_option linter.unusedVariables false
set_option linter.unusedSimpArgs false
inductive AOut where
  | ret (v : AV)
  | panic (v : AV)
def OutRel (μ : Mu) : AOut → Ending → Prop
  | .ret v, e => ∃ x, e = .returned x ∧ VRel μ v x
  | .panic v, e => ∃ x, e = .panicked [{ v := x, recovered := false }] ∧ VRel μ v x
/-- A result variable's value. -/
def rv (tmps : Array Value) : ResultVar → Sem Value
  | .tmp t => pure (tmps.getD t undef)
  | .cell a t => do loadVar t (← asAddr (tmps.getD a undef))
theorem results_eq (fn : Func) (tmps : Array Value) : results fn tmps = (do let vs ← fn.results.mapM (rv tmps); pure (if h : vs.size = 1 then vs[0] else .tuple vs)) := by
  unfold results
  have : ∀ f g : ResultVar → Sem Value, f = g → ∀ k : Array Value → Sem Value, (fn.results.mapM f >>= k) = (fn.results.mapM g >>= k) := by rintro f g rfl k; rfl
  refine this _ _ ?_ _
  funext r
  cases r <;> rfl
/-- What a function's result variables hold. -/
def resOne (P : Program) (ts : List AV) (H : AH) : ResultVar → Option (AV × Bool)
  | .tmp t => some (ts.getD t .any, true)
  | .cell t ty => match ts.getD t .any with
    | .ptr b k j => match H.get b, aggSz P ty with
      | some y, some none => some (y.c.val y.st k j, y.c.inb y.st k j)
      | some y, some (some n) => some (.agg (y.c.vals y.st k j n), y.c.inbs y.st k j n)
      | _, _ => none
    | _ => none
def resList (P : Program) (ts : List AV) (H : AH) : List ResultVar → Option (List AV × Bool)
  | [] => some ([], true)
  | r :: rs => match resOne P ts H r, resList P ts H rs with
    | some (v, a), some (vs, b) => some (v :: vs, a && b)
    | _, _ => none
def oneOf : List AV → AV
  | [v] => v
  | vs => .tup vs
def resOf (P : Program) (fn : Func) (ts : List AV) (H : AH) : Option (AV × Bool) :=
  match resList P ts H fn.results.toList with
  | some (vs, b) => some (oneOf vs, b)
  | none => none
theorem resOne_ok {P : Program} {ts : List AV} {H : AH} {r : ResultVar} {v : AV} {μ : Mu} {tmps : Array Value} {w : World} (h : resOne P ts H r = some (v, true)) (hr : Rel μ ts tmps) (s : Sat μ H w) :
    ∃ x, (rv tmps r).run P w = .ok x w ∧ VRel μ v x := by
  cases r with
  | tmp t =>
    simp only [resOne, Option.some.injEq, Prod.mk.injEq] at h
    obtain ⟨rfl, _⟩ := h
    exact ⟨_, rfl, hr.get t⟩
  | cell t ty =>
    simp only [resOne] at h
    split at h
    · rename_i b k j e1
      have hv := hr.get t
      rw [e1] at hv
      obtain ⟨l, hl, hp⟩ := hv
      split at h
      · rename_i y hy hz
        simp only [Option.some.injEq, Prod.mk.injEq] at h
        obtain ⟨rfl, hi⟩ := h
        obtain ⟨d, i, h1, h2, h3⟩ := aggSz_spec hz
        rcases h3 with ⟨_, hc⟩ | ⟨h3, _⟩
        · cases hc
        · obtain ⟨u, g1, g2, g3⟩ := s.read hy hl hi
          refine ⟨u, ?_, g2⟩
          simp [rv, hp, asAddr, loadVar, run_isAgg h1, h3, g1]
      · rename_i y n hy hz
        simp only [Option.some.injEq, Prod.mk.injEq] at h
        obtain ⟨rfl, hi⟩ := h
        obtain ⟨d, i, h1, h2, h3⟩ := aggSz_spec hz
        rcases h3 with ⟨h3, hc⟩ | ⟨_, hc⟩
        · cases hc
          obtain ⟨vs, g1, g2, g3, g4⟩ := s.reads hy hl hi
          refine ⟨.agg vs.toArray, ?_, vs.toArray, rfl, by simpa using g3⟩
          have := run_loadVar_mid (P := P) w l.blk (l.off + k * l.st + j) ty vs d (fun q u hu => by have := g2 q u hu; simpa [Loc.at, Nat.add_assoc] using this) h1 h3 (by simp [h2, g1])
          simp only [rv, hp, asAddr, Sem.run_bind, Sem.run_pure, Result.andThen_ok, at_eq, this]
        · cases hc
      · cases h
    · cases h
theorem resList_ok {P : Program} {ts : List AV} {H : AH} {μ : Mu} {tmps : Array Value} {w : World} (hr : Rel μ ts tmps) (s : Sat μ H w) : ∀ {rs : List ResultVar} {vs : List AV}, resList P ts H rs = some (vs, true) →
    ∃ xs : List Value, (rs.mapM (rv tmps)).run P w = .ok xs w ∧ VRels μ vs xs
  | [], vs, h => by
    simp only [resList, Option.some.injEq, Prod.mk.injEq] at h
    obtain ⟨rfl, _⟩ := h
    exact ⟨[], by simp, trivial⟩
  | r :: rs, vs, h => by
    simp only [resList] at h
    split at h
    · rename_i v a vs' b e1 e2
      simp only [Option.some.injEq, Prod.mk.injEq, Bool.and_eq_true] at h
      obtain ⟨rfl, rfl, rfl⟩ := h
      obtain ⟨x, h1, h2⟩ := resOne_ok e1 hr s
      obtain ⟨xs, h3, h4⟩ := resList_ok hr s e2
      refine ⟨x :: xs, ?_, h2, h4⟩
      rw [List.mapM_cons, Sem.run_bind, h1, Result.andThen_ok, Sem.run_bind, h3, Result.andThen_ok]
      rfl
    · cases h
theorem resOf_ok {P : Program} {fn : Func} {ts : List AV} {H : AH} {μ : Mu} {tmps : Array Value} {w : World} {v : AV} (h : resOf P fn ts H = some (v, true)) (hr : Rel μ ts tmps) (s : Sat μ H w) : ∃ x, (results fn tmps).run P w = .ok x w ∧ VRel μ v x := by
  unfold resOf at h
  split at h
  · rename_i vs b e
    simp only [Option.some.injEq, Prod.mk.injEq] at h
    obtain ⟨rfl, rfl⟩ := h
    obtain ⟨xs, h1, h2⟩ := resList_ok hr s e
    have hm : (fn.results.mapM (rv tmps)).run P w = .ok xs.toArray w := by
      rw [Array.mapM_eq_mapM_toList, Sem.run_map, h1]
      rfl
    rw [results_eq, Sem.run_bind, hm, Result.andThen_ok]
    match vs, xs, h2 with
    | [v], [x], h2 => exact ⟨x, by simp, h2.1⟩
    | [], [], h2 => exact ⟨.tuple #[], by simp, #[], rfl, trivial⟩
    | v :: v2 :: vs, x :: x2 :: xs, h2 => exact ⟨.tuple (x :: x2 :: xs).toArray, by simp, _, rfl, by simpa using h2⟩
    | [], _ :: _, h2 => exact h2.elim
    | [_], [], h2 => exact h2.elim
    | [_], _ :: _ :: _, h2 => exact h2.2.elim
    | _ :: _ :: _, [], h2 => exact h2.elim
    | _ :: _ :: _, [_], h2 => exact h2.2.elim
  · cases h
/-! ### a call, in a greater heap -/
structure Emb (σ : Nat → Nat) (H0 H : AH) : Prop where
  out : ∀ b, H0.next ≤ b → H.next ≤ σ b
  blk : ∀ b k, H0.get b = some k → H.get (σ b) = some (k.ren σ)
  inj : ∀ b b' k k', H0.get b = some k → H0.get b' = some k' → b ≠ b' → σ b ≠ σ b'
def tau (σ : Nat → Nat) (H0 H : AH) : Nat → Nat := fun b => if b < H0.next then σ b else H.next + (b - H0.next)
/-- The heap behind a call. -/
structure After (σ : Nat → Nat) (H0 H H0' H1 : AH) : Prop where
  next : H1.next = H.next + (H0'.next - H0.next)
  blk : ∀ c k, H1.get c = some k → (H.get c = some k ∧ ∀ b k0, H0.get b = some k0 → σ b ≠ c) ∨ (∃ b k0, H0'.get b = some k0 ∧ c = tau σ H0 H b ∧ k = k0.ren (tau σ H0 H))
theorem MRel.unren {μ μ' : Mu} {σ : Nat → Nat} (h : ∀ b l, μ' (σ b) = some l → μ b = some l) {es : List (AV × AV)} {en : List MapEntry} (q : MRel μ' (es.map fun p => (p.1.ren σ, p.2.ren σ)) en) : MRel μ es en := by
  have key : ∀ l : List AV, l.map (·.ren σ) = AV.rens σ l := by
    intro l; induction l with
    | nil => rfl
    | cons v l ih => simp [AV.rens, ih]
  obtain ⟨h1, h2⟩ := q
  simp only [List.map_map] at h1 h2
  refine ⟨VRels.unren h _ _ ?_, VRels.unren h _ _ ?_⟩
  · rw [← key, List.map_map]; exact h1
  · rw [← key, List.map_map]; exact h2
theorem MRel.ren {μ μ' : Mu} {σ : Nat → Nat} (h : ∀ b l, μ b = some l → μ' (σ b) = some l) {es : List (AV × AV)} {en : List MapEntry} (q : MRel μ es en) : MRel μ' (es.map fun p => (p.1.ren σ, p.2.ren σ)) en := by
  have key : ∀ l : List AV, l.map (·.ren σ) = AV.rens σ l := by
    intro l; induction l with
    | nil => rfl
    | cons v l ih => simp [AV.rens, ih]
  obtain ⟨h1, h2⟩ := q
  refine ⟨?_, ?_⟩
  · have := VRels.ren h _ _ h1; rw [← key, List.map_map] at this; rw [List.map_map]; exact this
  · have := VRels.ren h _ _ h2; rw [← key, List.map_map] at this; rw [List.map_map]; exact this
theorem BSat.unren {μ μ' : Mu} {σ : Nat → Nat} (h : ∀ b l, μ' (σ b) = some l → μ b = some l) {k : ABlk} {l : Loc} {w : World} (q : BSat μ' (k.ren σ) l w) : BSat μ k l w := by
  obtain ⟨own, st, c⟩ := k
  cases c with
  | map es =>
    simp only [BSat, ABlk.ren, AC.ren] at q ⊢
    obtain ⟨en, ck, h1, h2⟩ := q
    exact ⟨en, ck, h1, h2.unren h⟩
  | cells _ | ints _ _ | recs _ _ =>
    obtain ⟨h0, C, t, fz, h1, h2, h3⟩ := q.holds (by intro es; simp [ABlk.ren, AC.ren])
    refine BSat.of_holds h0 h1 h2 ⟨(fun es e => by cases e), fun i j hi => ?_⟩
    obtain ⟨x, g1, g2, g3⟩ := h3.cell (k := i) (j := j) (by simp only [ABlk.ren]; rw [AC.inb_ren]; exact hi)
    refine ⟨x, g1, ?_, g3⟩
    simp only [ABlk.ren] at g2
    rw [AC.val_ren] at g2
    exact VRel.unren h _ _ g2
theorem BSat.ren {μ μ' : Mu} {σ : Nat → Nat} (h : ∀ b l, μ b = some l → μ' (σ b) = some l) {k : ABlk} {l : Loc} {w : World} (q : BSat μ k l w) : BSat μ' (k.ren σ) l w := by
  obtain ⟨own, st, c⟩ := k
  cases c with
  | map es =>
    simp only [BSat, ABlk.ren, AC.ren] at q ⊢
    obtain ⟨en, ck, h1, h2⟩ := q
    exact ⟨en, ck, h1, h2.ren h⟩
  | cells _ | ints _ _ | recs _ _ =>
    obtain ⟨h0, C, t, fz, h1, h2, h3⟩ := q.holds (by intro es e; cases e)
    refine BSat.of_holds (b := ABlk.ren σ _) h0 h1 h2 ⟨(fun es e => by simp [ABlk.ren, AC.ren] at e), fun i j hi => ?_⟩
    simp only [ABlk.ren] at hi ⊢
    rw [AC.inb_ren] at hi
    obtain ⟨x, g1, g2, g3⟩ := h3.cell hi
    refine ⟨x, g1, ?_, g3⟩
    rw [AC.val_ren]
    exact VRel.ren h _ _ g2
end Go.Eng
