/- The engine, thirteenth part: functions: what a call comes to, and calls in regions. -/
import Derived.Test.YtilmgiompalggaaGreatDoorEn11
namespace Go.Eng
open Go Go.RowKit
set_option linter.unusedVariables false
set_option linter.unusedSimpArgs false
noncomputable section
inductive AOut where
  | ret (v : AV)
  | panic (v : AV)
def OutRel (μ : Mu) : AOut → Ending → Prop
  | .ret v, e => ∃ x, e = .returned x ∧ VRel μ v x
  | .panic v, e => ∃ x, e = .panicked [{ v := x, recovered := false }] ∧ VRel μ v x
/-- A call of f, with such arguments and heap, comes to that. -/
def Runs (P : Program) (f : FuncId) (args : List AV) (H : AH) (out : AOut) (H' : AH) : Prop :=
  ∀ μ w (vs : Array Value), VRels μ args vs.toList → Sat μ H w → Calls P f vs w (fun e w' => ∃ μ', OutRel μ' out e ∧ Sat μ' H' w' ∧ Fw H.next μ H μ' H' w w')
/-- A result variable's value. -/
def rv (tmps : Array Value) : ResultVar → Sem Value
  | .tmp t => pure (tmps.getD t undef)
  | .cell a t => do loadVar t (← asAddr (tmps.getD a undef))
theorem results_eq (fn : Func) (tmps : Array Value) : results fn tmps = (do let vs ← fn.results.mapM (rv tmps); pure (if h : vs.size = 1 then vs[0] else .tuple vs)) := by
  unfold results
  have : ∀ f g : ResultVar → Sem Value, f = g → ∀ k : Array Value → Sem Value, (fn.results.mapM f >>= k) = (fn.results.mapM g >>= k) := by rintro f g rfl k; rfl
  refine this _ _ ?_ _
  funext r
  cases r <;> rfl
/-- What a function's result variables hold. -/
def resOne (P : Program) (ts : List AV) (H : AH) : ResultVar → Option (AV × Bool)
  | .tmp t => some (ts.getD t .any, true)
  | .cell t ty => match ts.getD t .any with
    | .ptr b k j => match H.get b, aggSz P ty with
      | some y, some none => some (y.c.val y.st k j, y.c.inb y.st k j)
      | some y, some (some n) => some (.agg (y.c.vals y.st k j n), y.c.inbs y.st k j n)
      | _, _ => none
    | _ => none
def resList (P : Program) (ts : List AV) (H : AH) : List ResultVar → Option (List AV × Bool)
  | [] => some ([], true)
  | r :: rs => match resOne P ts H r, resList P ts H rs with
    | some (v, a), some (vs, b) => some (v :: vs, a && b)
    | _, _ => none
def oneOf : List AV → AV
  | [v] => v
  | vs => .tup vs
def resOf (P : Program) (fn : Func) (ts : List AV) (H : AH) : Option (AV × Bool) :=
  match resList P ts H fn.results.toList with
  | some (vs, b) => some (oneOf vs, b)
  | none => none
theorem resOne_ok {P : Program} {ts : List AV} {H : AH} {r : ResultVar} {v : AV} {μ : Mu} {tmps : Array Value} {w : World} (h : resOne P ts H r = some (v, true)) (hr : Rel μ ts tmps) (s : Sat μ H w) :
    ∃ x, (rv tmps r).run P w = .ok x w ∧ VRel μ v x := by
  cases r with
  | tmp t =>
    simp only [resOne, Option.some.injEq, Prod.mk.injEq] at h
    obtain ⟨rfl, _⟩ := h
    exact ⟨_, rfl, hr.get t⟩
  | cell t ty =>
    simp only [resOne] at h
    split at h
    · rename_i b k j e1
      have hv := hr.get t
      rw [e1] at hv
      obtain ⟨l, hl, hp⟩ := hv
      split at h
      · rename_i y hy hz
        simp only [Option.some.injEq, Prod.mk.injEq] at h
        obtain ⟨rfl, hi⟩ := h
        obtain ⟨d, i, h1, h2, h3⟩ := aggSz_spec hz
        rcases h3 with ⟨_, hc⟩ | ⟨h3, _⟩
        · cases hc
        · obtain ⟨u, g1, g2, g3⟩ := s.read hy hl hi
          refine ⟨u, ?_, g2⟩
          simp [rv, hp, asAddr, loadVar, run_isAgg h1, h3, g1]
      · rename_i y n hy hz
        simp only [Option.some.injEq, Prod.mk.injEq] at h
        obtain ⟨rfl, hi⟩ := h
        obtain ⟨d, i, h1, h2, h3⟩ := aggSz_spec hz
        rcases h3 with ⟨h3, hc⟩ | ⟨_, hc⟩
        · cases hc
          obtain ⟨vs, g1, g2, g3, g4⟩ := s.reads hy hl hi
          refine ⟨.agg vs.toArray, ?_, vs.toArray, rfl, by simpa using g3⟩
          have := run_loadVar_mid (P := P) w l.blk (l.off + k * l.st + j) ty vs d (fun q u hu => by have := g2 q u hu; simpa [Loc.at, Nat.add_assoc] using this) h1 h3 (by simp [h2, g1])
          simp only [rv, hp, asAddr, Sem.run_bind, Sem.run_pure, Result.andThen_ok, at_eq, this]
        · cases hc
      · cases h
    · cases h
theorem resList_ok {P : Program} {ts : List AV} {H : AH} {μ : Mu} {tmps : Array Value} {w : World} (hr : Rel μ ts tmps) (s : Sat μ H w) : ∀ {rs : List ResultVar} {vs : List AV}, resList P ts H rs = some (vs, true) →
    ∃ xs : List Value, (rs.mapM (rv tmps)).run P w = .ok xs w ∧ VRels μ vs xs
  | [], vs, h => by
    simp only [resList, Option.some.injEq, Prod.mk.injEq] at h
    obtain ⟨rfl, _⟩ := h
    exact ⟨[], by simp, trivial⟩
  | r :: rs, vs, h => by
    simp only [resList] at h
    split at h
    · rename_i v a vs' b e1 e2
      simp only [Option.some.injEq, Prod.mk.injEq, Bool.and_eq_true] at h
      obtain ⟨rfl, rfl, rfl⟩ := h
      obtain ⟨x, h1, h2⟩ := resOne_ok e1 hr s
      obtain ⟨xs, h3, h4⟩ := resList_ok hr s e2
      refine ⟨x :: xs, ?_, h2, h4⟩
      rw [List.mapM_cons, Sem.run_bind, h1, Result.andThen_ok, Sem.run_bind, h3, Result.andThen_ok]
      rfl
    · cases h
theorem resOf_ok {P : Program} {fn : Func} {ts : List AV} {H : AH} {μ : Mu} {tmps : Array Value} {w : World} {v : AV} (h : resOf P fn ts H = some (v, true)) (hr : Rel μ ts tmps) (s : Sat μ H w) : ∃ x, (results fn tmps).run P w = .ok x w ∧ VRel μ v x := by
  unfold resOf at h
  split at h
  · rename_i vs b e
    simp only [Option.some.injEq, Prod.mk.injEq] at h
    obtain ⟨rfl, rfl⟩ := h
    obtain ⟨xs, h1, h2⟩ := resList_ok hr s e
    have hm : (fn.results.mapM (rv tmps)).run P w = .ok xs.toArray w := by
      rw [Array.mapM_eq_mapM_toList, Sem.run_map, h1]
      rfl
    rw [results_eq, Sem.run_bind, hm, Result.andThen_ok]
    match vs, xs, h2 with
    | [v], [x], h2 => exact ⟨x, by simp, h2.1⟩
    | [], [], h2 => exact ⟨.tuple #[], by simp, #[], rfl, trivial⟩
    | v :: v2 :: vs, x :: x2 :: xs, h2 => exact ⟨.tuple (x :: x2 :: xs).toArray, by simp, _, rfl, by simpa using h2⟩
    | [], _ :: _, h2 => exact h2.elim
    | [_], [], h2 => exact h2.elim
    | [_], _ :: _ :: _, h2 => exact h2.2.elim
    | _ :: _ :: _, [], h2 => exact h2.elim
    | _ :: _ :: _, [_], h2 => exact h2.2.elim
  · cases h
/-- The post of a function's body. -/
def bodyX (P : Program) (fn : Func) (B : Nat) (out : AOut) (H' : AH) : Post
  | .normal, ts, H | .ret, ts, H => ∃ v v', resOf P fn ts H = some (v, true) ∧ out = .ret v' ∧ Weak B [v] H [v'] H'
  | .panic v, ts, H => ∃ v', out = .panic v' ∧ Weak B [v] H [v'] H'
  | _, _, _ => False
theorem Runs.body {P : Program} {f : FuncId} {fn : Func} {c : Code} {args : List AV} {H H' : AH} {out : AOut} (hf : P.funcs[f]? = some fn) (hb : fn.body = some c)
    (h : Tri P H.next c (args ++ List.replicate (fn.ntmps - args.length) .any) H (bodyX P fn H.next out H')) : Runs P f args H out H' := fun μ w vs hv s => by
  have hl : args.length = vs.size := by simpa using hv.len
  refine calls_of_wp hf hb ?_
  have hrel : Rel μ (args ++ List.replicate (fn.ntmps - args.length) .any) (vs ++ Array.replicate (fn.ntmps - vs.size) undef) := by
    unfold Rel
    rw [Array.toList_append, Array.toList_replicate, hl]
    exact hv.append (VRels.replicate (v := .any) (x := undef) (by simp [VRel]) _)
  refine wp_mono (h μ w { tmps := vs ++ Array.replicate (fn.ntmps - vs.size) undef, defers := [] } hrel s (Nat.le_refl _)) (fun e a1 w1 hq => ?_)
  obtain ⟨x, ts, H1, μ1, h1, h2, h3, h4, h5, h6⟩ := hq
  have fin : ∀ v v', resOf P fn ts H1 = some (v, true) → out = .ret v' → Weak H.next [v] H1 [v'] H' → ∃ x, (results fn a1.tmps).run P w1 = .ok x w1 ∧ ∃ μ', OutRel μ' out (.returned x) ∧ Sat μ' H' w1 ∧ Fw H.next μ H μ' H' w w1 := by
    intro v v' e1 e2 e3
    obtain ⟨x, r1, r2⟩ := resOf_ok e1 h3 h4
    obtain ⟨μ2, q1, q2, q3⟩ := e3 μ1 w1 #[x] ⟨r2, trivial⟩ h4 h5.nx
    exact ⟨x, r1, μ2, by rw [e2]; exact ⟨x, rfl, q1.1⟩, q2, h5.trans q3⟩
  cases x with
  | normal =>
    simp only [XRel] at h2
    subst h2
    obtain ⟨v, v', e1, e2, e3⟩ := h1
    obtain ⟨x, r1, r2⟩ := fin v v' e1 e2 e3
    exact ⟨h6, x, r1, r2⟩
  | ret =>
    simp only [XRel] at h2
    subst h2
    obtain ⟨v, v', e1, e2, e3⟩ := h1
    obtain ⟨x, r1, r2⟩ := fin v v' e1 e2 e3
    exact ⟨h6, x, r1, r2⟩
  | panic v =>
    obtain ⟨xv, rfl, hv'⟩ := h2
    obtain ⟨v', e2, e3⟩ := h1
    obtain ⟨μ2, q1, q2, q3⟩ := e3 μ1 w1 #[xv] ⟨hv', trivial⟩ h4 h5.nx
    exact ⟨h6, μ2, by rw [e2]; exact ⟨xv, rfl, q1.1⟩, q2, h5.trans q3⟩
  | exit id => exact h1.elim
  | goto l => exact h1.elim
/-! ### a call, in a greater heap -/
structure Emb (σ : Nat → Nat) (H0 H : AH) : Prop where
  out : ∀ b, H0.next ≤ b → H.next ≤ σ b
  blk : ∀ b k, H0.get b = some k → H.get (σ b) = some (k.ren σ)
  inj : ∀ b b' k k', H0.get b = some k → H0.get b' = some k' → b ≠ b' → σ b ≠ σ b'
def tau (σ : Nat → Nat) (H0 H : AH) : Nat → Nat := fun b => if b < H0.next then σ b else H.next + (b - H0.next)
/-- The heap behind a call. -/
structure After (σ : Nat → Nat) (H0 H H0' H1 : AH) : Prop where
  next : H1.next = H.next + (H0'.next - H0.next)
  blk : ∀ c k, H1.get c = some k → (H.get c = some k ∧ ∀ b k0, H0.get b = some k0 → σ b ≠ c) ∨ (∃ b k0, H0'.get b = some k0 ∧ c = tau σ H0 H b ∧ k = k0.ren (tau σ H0 H))
theorem MRel.unren {μ μ' : Mu} {σ : Nat → Nat} (h : ∀ b l, μ' (σ b) = some l → μ b = some l) {es : List (AV × AV)} {en : List MapEntry} (q : MRel μ' (es.map fun p => (p.1.ren σ, p.2.ren σ)) en) : MRel μ es en := by
  have key : ∀ l : List AV, l.map (·.ren σ) = AV.rens σ l := by
    intro l; induction l with
    | nil => rfl
    | cons v l ih => simp [AV.rens, ih]
  obtain ⟨h1, h2⟩ := q
  simp only [List.map_map] at h1 h2
  refine ⟨VRels.unren h _ _ ?_, VRels.unren h _ _ ?_⟩
  · rw [← key, List.map_map]; exact h1
  · rw [← key, List.map_map]; exact h2
theorem MRel.ren {μ μ' : Mu} {σ : Nat → Nat} (h : ∀ b l, μ b = some l → μ' (σ b) = some l) {es : List (AV × AV)} {en : List MapEntry} (q : MRel μ es en) : MRel μ' (es.map fun p => (p.1.ren σ, p.2.ren σ)) en := by
  have key : ∀ l : List AV, l.map (·.ren σ) = AV.rens σ l := by
    intro l; induction l with
    | nil => rfl
    | cons v l ih => simp [AV.rens, ih]
  obtain ⟨h1, h2⟩ := q
  refine ⟨?_, ?_⟩
  · have := VRels.ren h _ _ h1; rw [← key, List.map_map] at this; rw [List.map_map]; exact this
  · have := VRels.ren h _ _ h2; rw [← key, List.map_map] at this; rw [List.map_map]; exact this
theorem BSat.unren {μ μ' : Mu} {σ : Nat → Nat} (h : ∀ b l, μ' (σ b) = some l → μ b = some l) {k : ABlk} {l : Loc} {w : World} (q : BSat μ' (k.ren σ) l w) : BSat μ k l w := by
  obtain ⟨own, st, c⟩ := k
  cases c with
  | map es =>
    simp only [BSat, ABlk.ren, AC.ren] at q ⊢
    obtain ⟨en, ck, h1, h2⟩ := q
    exact ⟨en, ck, h1, h2.unren h⟩
  | cells _ | ints _ _ | recs _ _ | tr _ _ =>
    obtain ⟨h0, C, t, fz, h1, h2, h3⟩ := q.holds (by intro es; simp [ABlk.ren, AC.ren])
    refine BSat.of_holds h0 h1 h2 ⟨(fun es e => by cases e), fun i j hi => ?_⟩
    obtain ⟨x, g1, g2, g3⟩ := h3.cell (k := i) (j := j) (by simp only [ABlk.ren]; rw [AC.inb_ren]; exact hi)
    refine ⟨x, g1, ?_, g3⟩
    simp only [ABlk.ren] at g2
    rw [AC.val_ren] at g2
    exact VRel.unren h _ _ g2
theorem BSat.ren {μ μ' : Mu} {σ : Nat → Nat} (h : ∀ b l, μ b = some l → μ' (σ b) = some l) {k : ABlk} {l : Loc} {w : World} (q : BSat μ k l w) : BSat μ' (k.ren σ) l w := by
  obtain ⟨own, st, c⟩ := k
  cases c with
  | map es =>
    simp only [BSat, ABlk.ren, AC.ren] at q ⊢
    obtain ⟨en, ck, h1, h2⟩ := q
    exact ⟨en, ck, h1, h2.ren h⟩
  | cells _ | ints _ _ | recs _ _ | tr _ _ =>
    obtain ⟨h0, C, t, fz, h1, h2, h3⟩ := q.holds (by intro es e; cases e)
    refine BSat.of_holds (b := ABlk.ren σ _) h0 h1 h2 ⟨(fun es e => by simp [ABlk.ren, AC.ren] at e), fun i j hi => ?_⟩
    simp only [ABlk.ren] at hi ⊢
    rw [AC.inb_ren] at hi
    obtain ⟨x, g1, g2, g3⟩ := h3.cell hi
    refine ⟨x, g1, ?_, g3⟩
    rw [AC.val_ren]
    exact VRel.ren h _ _ g2
end
end Go.Eng
/- The engine, fourteenth part: calls in regions. -/
namespace Go.Eng
open Go Go.RowKit
set_option linter.unusedVariables false
set_option linter.unusedSimpArgs false
noncomputable section
theorem Emb.sat {σ : Nat → Nat} {H0 H : AH} {μ : Mu} {w : World} (em : Emb σ H0 H) (s : Sat μ H w) : Sat (fun b => μ (σ b)) H0 w where
  fresh b hb := s.fresh _ (em.out b hb)
  blk b k hb := by
    obtain ⟨l, h1, h2⟩ := s.blk _ _ (em.blk b k hb)
    exact ⟨l, h1, h2.unren (μ := fun b => μ (σ b)) (fun _ _ h => h)⟩
  sep b b' k k' l l' h1 h2 hne ho g1 g2 := s.sep (σ b) (σ b') (k.ren σ) (k'.ren σ) l l' (em.blk b k h1) (em.blk b' k' h2) (em.inj b b' k k' h1 h2 hne) ho g1 g2
theorem call_frame {σ : Nat → Nat} {H0 H H0' H1 : AH} {μ μ0' : Mu} {w w' : World} (em : Emb σ H0 H) (af : After σ H0 H H0' H1) (s : Sat μ H w) (s0 : Sat μ0' H0' w') (f : Fw H0.next (fun b => μ (σ b)) H0 μ0' H0' w w') :
    ∃ μ1, MuLe μ μ1 ∧ (∀ v x, VRel μ0' v x → VRel μ1 (v.ren (tau σ H0 H)) x) ∧ Sat μ1 H1 w' ∧ Fr μ H μ1 H1 w w' := by
  let μ1 : Mu := fun c => if c < H.next then μ c else μ0' (H0.next + (c - H.next))
  have hle : MuLe μ μ1 := fun b l h => by show (if b < H.next then _ else _) = _; rw [if_pos (s.lt h)]; exact h
  have hmap : ∀ b l, μ0' b = some l → μ1 (tau σ H0 H b) = some l := by
    intro b l h
    show (if _ then _ else _) = _
    unfold tau
    by_cases hb : b < H0.next
    · rw [if_pos hb]
      rw [f.le b hb] at h
      rw [if_pos (s.lt h)]; exact h
    · rw [if_neg hb, if_neg (by omega), show H0.next + (H.next + (b - H0.next) - H.next) = b by omega]; exact h
  have htau : ∀ b k0 c l, H0'.get b = some k0 → c = tau σ H0 H b → μ1 c = some l → μ0' b = some l := by
    intro b k0 c l hb hc hl
    obtain ⟨l', h1, _⟩ := s0.blk b k0 hb
    have := hmap b l' h1
    rw [← hc, hl] at this
    cases this
    exact h1
  have old : ∀ c k l, H.get c = some k → μ1 c = some l → μ c = some l := by
    intro c k l hc hl
    obtain ⟨l', h1, _⟩ := s.blk c k hc
    have := hle c l' h1
    rw [hl] at this; cases this
    exact h1
  have stays : ∀ c k l, H.get c = some k → (∀ b k0, H0.get b = some k0 → σ b ≠ c) → μ c = some l → w'.heap[l.blk]? = w.heap[l.blk]? := by
    intro c k l hc hn hl
    obtain ⟨l', h1, h2⟩ := s.blk c k hc
    rw [hl] at h1; cases h1
    refine f.same _ h2.blk_lt (fun b x l0 g1 g2 g3 he => ?_)
    exact s.sep (σ b) c (x.ren σ) k l0 l (em.blk b x g1) hc (hn b x g1) g2 g3 hl he
  -- where a block of the callee's comes from
  have from0 : ∀ b x l, H0'.get b = some x → μ0' b = some l → w.heap.size ≤ l.blk ∨ ∃ b0 x0 l0, H0.get b0 = some x0 ∧ H.get (σ b0) = some (x0.ren σ) ∧ μ (σ b0) = some l0 ∧ l0.blk = l.blk ∧ (x.own = true → x0.own = true) := by
    intro b x l h1 h2
    rcases f.from_ b x l h1 h2 with h | ⟨b0, x0, l0, g1, g2, g3, g4⟩
    · exact .inl h
    · exact .inr ⟨b0, x0, l0, g1, em.blk b0 x0 g1, g2, g3, g4⟩
  have apart : ∀ c k l, H.get c = some k → (∀ b k0, H0.get b = some k0 → σ b ≠ c) → μ c = some l → ∀ b x l', H0'.get b = some x → μ0' b = some l' → (k.own = true ∨ x.own = true) → l.blk ≠ l'.blk := by
    intro c k l hc hn hl b x l' hb hl' ho he
    rcases from0 b x l' hb hl' with h | ⟨b0, x0, l0, g1, g2, g3, g4, g5⟩
    · obtain ⟨l2, h1, h2⟩ := s.blk c k hc
      rw [hl] at h1; cases h1
      have := h2.blk_lt
      omega
    · rcases ho with ho | ho
      · exact s.sep c (σ b0) k (x0.ren σ) l l0 hc g2 (Ne.symm (hn b0 x0 g1)) ho hl g3 (he.trans g4.symm)
      · exact s.sep (σ b0) c (x0.ren σ) k l0 l g2 hc (hn b0 x0 g1) (g5 ho) g3 hl (g4.trans he.symm)
  refine ⟨μ1, hle, fun v x h => VRel.ren hmap v x h, ⟨fun c hc => ?_, fun c k hc => ?_, fun c c' k k' l l' h1 h2 hne ho g1 g2 => ?_⟩, ⟨fun c hc => if_pos hc, ?_, f.os, f.tape, f.output, f.size, fun k hk hn => f.same k hk (fun b x l g1 g2 g3 => hn (σ b) (x.ren σ) l (em.blk b x g1) g2 g3), fun c x l h1 h2 => ?_⟩⟩
  · rw [af.next] at hc
    show (if c < H.next then _ else _) = none
    rw [if_neg (by omega)]
    exact s0.fresh _ (by omega)
  · rcases af.blk c k hc with ⟨h1, h2⟩ | ⟨b, k0, h1, h2, h3⟩
    · obtain ⟨l, g1, g2⟩ := s.blk c k h1
      exact ⟨l, hle _ _ g1, g2.move hle (stays c k l h1 h2 g1)⟩
    · obtain ⟨l, g1, g2⟩ := s0.blk b k0 h1
      subst h3
      exact ⟨l, by rw [h2]; exact hmap b l g1, g2.ren hmap⟩
  · rcases af.blk c k h1 with ⟨a1, a2⟩ | ⟨b, k0, a1, a2, a3⟩
    · rcases af.blk c' k' h2 with ⟨d1, d2⟩ | ⟨b', k0', d1, d2, d3⟩
      · exact s.sep c c' k k' l l' a1 d1 hne ho (old _ _ _ a1 g1) (old _ _ _ d1 g2)
      · exact apart c k l a1 a2 (old _ _ _ a1 g1) b' k0' l' d1 (htau _ _ _ _ d1 d2 g2) (.inl ho)
    · subst a3
      rcases af.blk c' k' h2 with ⟨d1, d2⟩ | ⟨b', k0', d1, d2, d3⟩
      · exact Ne.symm (apart c' k' l' d1 d2 (old _ _ _ d1 g2) b k0 l a1 (htau _ _ _ _ a1 a2 g1) (.inr ho))
      · subst d3
        exact s0.sep b b' k0 k0' l l' a1 d1 (fun e => hne (by rw [a2, d2, e])) ho (htau _ _ _ _ a1 a2 g1) (htau _ _ _ _ d1 d2 g2)
  · rw [af.next]; omega
  · rcases af.blk c x h1 with ⟨a1, a2⟩ | ⟨b, k0, a1, a2, a3⟩
    · exact .inr ⟨c, x, l, a1, old _ _ _ a1 h2, rfl, id⟩
    · subst a3
      rcases from0 b k0 l a1 (htau _ _ _ _ a1 a2 h2) with h | ⟨b0, x0, l0, g1, g2, g3, g4, g5⟩
      · exact .inl h
      · exact .inr ⟨σ b0, x0.ren σ, l0, g2, g3, g4, g5⟩
/-- Whom an operation calls, with what. -/
def callOf (ts : List AV) (o : Oper) : Option (FuncId × List AV) :=
  match o.op with
  | .call c => match c.callee, opds c.args.toList with
    | .value x, some cs => match opd x with
      | some cx => match cx.ev ts with
        | .fn (.func f) first cap => some (f, first ++ cs.map (·.ev ts) ++ cap)
        | _ => none
      | none => none
    | _, _ => none
  | _ => none
/-- A function with a body. -/
def isGo (P : Program) (f : FuncId) : Bool :=
  match P.funcs[f]? with
  | some fn => fn.body.isSome && !(fn.name == "runtime.NumGoroutine")
  | none => false
theorem call_run {P : Program} {o : Oper} {a : Act} {ts : List AV} {μ : Mu} {f : FuncId} {as : List AV} (r : Rel μ ts a.tmps) (h : callOf ts o = some (f, as)) (hg : isGo P f = true) (w : World) : ∃ vs : Array Value, VRels μ as vs.toList ∧ (execOp a.eval o).run P w = .ok (.enter f vs) w := by
  unfold callOf at h
  split at h
  · rename_i c ho
    split at h
    · rename_i x cs e1 e2
      split at h
      · rename_i cx e3
        split at h
        · rename_i f' first cap e4
          simp only [Option.some.injEq, Prod.mk.injEq] at h
          obtain ⟨rfl, rfl⟩ := h
          have hx := opd_rel e3 r
          rw [e4] at hx
          obtain ⟨a', c', g1, g2, g3⟩ := hx
          have hargs := opds_rel r e2
          unfold isGo at hg
          split at hg
          · rename_i fn hfn
            simp only [Bool.and_eq_true, Bool.not_eq_true'] at hg
            refine ⟨a' ++ c.args.map a.eval ++ c', ?_, ?_⟩
            · simp only [Array.toList_append, Array.toList_map]
              exact (g2.append hargs).append g3
            · have hb : fn.body.isNone = false := by
                rcases hq : fn.body with _ | q
                · rw [hq] at hg; simp at hg
                · rfl
              simp only [execOp, ho, resolve, e1, Sem.run_bind, Deferred.ofValue, g1, Sem.run_pure, Result.andThen_ok, invoke, callFunc, run_program, hfn, hg.2, hb]
              simp
          · cases hg
        · cases h
      · cases h
    · cases h
  · cases h
theorem Seg.call {P : Program} {B : Nat} {ops : Array Oper} {o : Oper} {l : List Oper} {ts : List AV} {H H0 H0' H1 : AH} {Q : Post} {f : FuncId} {as args0 : List AV} {out : AOut} (σ : Nat → Nat) {g : Option (Nat × Bool)} (hgd : guardOf ops o = some g) (hgo : goesOn ts g = some true)
    (hc : callOf ts o = some (f, as)) (hf : isGo P f = true) (run : Runs P f args0 H0 out H0') (ha : AV.rens σ args0 = as) (em : Emb σ H0 H) (af : After σ H0 H H0' H1)
    (hn : match out with
      | .ret v => Seg P B ops l (putT ts o.dst (v.ren (tau σ H0 H))) H1 Q
      | .panic v => Q (.panic (v.ren (tau σ H0 H))) ts H1) : Seg P B ops (o :: l) ts H Q := fun μ w a r s hB => by
  refine wpList_step fun K hK => ?_
  rw [guard_ok r hgd hgo]
  simp only [if_true]
  obtain ⟨vs, h1, h2⟩ := call_run r hc hf w
  unfold Oper.wp
  rw [h2, Oper.upon_enter]
  subst ha
  refine Calls.mono (run (fun b => μ (σ b)) w vs (VRels.unren (fun _ _ h => h) _ _ h1) (em.sat s)) (fun e w' hq => ?_)
  obtain ⟨μ0', k1, k2, k3⟩ := hq
  obtain ⟨μ1, q1, q2, q3, q4⟩ := call_frame em af s k2 k3
  have f1 := q4.fw hB
  cases out with
  | ret v =>
    obtain ⟨x, rfl, hx⟩ := k1
    simp only [] at hn ⊢
    refine hK _ _ ?_
    have hd : (a.put o.dst x).defers = a.defers := by cases o.dst <;> rfl
    have := hn μ1 w' (a.put o.dst x) ((r.ext q1).put o.dst (q2 v x hx)) q3 f1.nx
    rw [hd] at this
    exact wpList_mono (fun e a1 w1 hq => Lift.trans f1 hq) l _ _ this
  | panic v =>
    obtain ⟨x, rfl, hx⟩ := k1
    simp only [] at hn ⊢
    exact ⟨.panic _, ts, H1, μ1, hn, ⟨x, rfl, q2 v x hx⟩, r.ext q1, q3, f1, rfl⟩
end
end Go.Eng
/- The engine, fifteenth part: heaps by lists; renamings, calls and weakenings by what can be reckoned. -/
namespace Go.Eng
open Go Go.RowKit
set_option linter.unusedVariables false
set_option linter.unusedSimpArgs false
noncomputable section
abbrev LH := List (Nat × ABlk)
theorem foldl_next : ∀ (l : LH) (H : AH), (l.foldl (fun H p => H.set p.1 p.2) H).next = H.next
  | [], _ => rfl
  | p :: l, H => by rw [List.foldl_cons, foldl_next l]; rfl
theorem foldl_get : ∀ (l : LH) (H : AH) (b : Nat) (k : ABlk), (l.foldl (fun H p => H.set p.1 p.2) H).get b = some k → (∃ p ∈ l, p.1 = b ∧ p.2 = k) ∨ H.get b = some k
  | [], _, _, _, h => .inr h
  | p :: l, H, b, k, h => by
    rw [List.foldl_cons] at h
    rcases foldl_get l _ b k h with ⟨q, h1, h2⟩ | h
    · exact .inl ⟨q, List.mem_cons_of_mem _ h1, h2⟩
    · rw [AH.get_set] at h
      by_cases e : b = p.1
      · rw [if_pos e] at h; cases h; exact .inl ⟨p, List.mem_cons_self, e.symm, rfl⟩
      · rw [if_neg e] at h; exact .inr h
theorem AH.of_next (n : Nat) (l : LH) : (AH.of n l).next = n := foldl_next l _
theorem AH.of_get {n : Nat} {l : LH} {b : Nat} {k : ABlk} (h : (AH.of n l).get b = some k) : ∃ p ∈ l, p.1 = b ∧ p.2 = k := by
  rcases foldl_get l _ b k h with h | h
  · exact h
  · simp [AH.get, T.get] at h
/-- Other numbers, by a list; what is not in it goes beyond. -/
def sig (σ : List Nat) (n : Nat) : Nat → Nat := fun b => σ.getD b n
def BlkOK (σ : Nat → Nat) (H : AH) : LH → Prop
  | [] => True
  | p :: l => H.get (σ p.1) = some (p.2.ren σ) ∧ BlkOK σ H l
theorem BlkOK.mem {σ : Nat → Nat} {H : AH} : ∀ {l : LH}, BlkOK σ H l → ∀ p ∈ l, H.get (σ p.1) = some (p.2.ren σ)
  | [], _, p, hp => by cases hp
  | q :: l, h, p, hp => by
    rcases List.mem_cons.1 hp with rfl | hp
    · exact h.1
    · exact BlkOK.mem h.2 p hp
/-- No number twice. -/
def noDup : List Nat → Bool
  | [] => true
  | x :: l => !l.contains x && noDup l
theorem noDup_ne : ∀ {l : List Nat}, noDup l = true → ∀ (i j : Nat), i < j → ∀ (x y : Nat), l[i]? = some x → l[j]? = some y → x ≠ y
  | [], _, i, j, _, x, y, h, _ => by simp at h
  | a :: l, h, i, j, hij, x, y, hx, hy => by
    simp only [noDup, Bool.and_eq_true, Bool.not_eq_true'] at h
    cases j with
    | zero => omega
    | succ j =>
      simp at hy
      cases i with
      | zero =>
        simp at hx
        subst hx
        rintro rfl
        have : a ∈ l := List.mem_of_getElem? hy
        have h2 := List.contains_iff_mem.2 this
        rw [h2] at h
        exact absurd h.1 (by simp)
      | succ i => exact noDup_ne h.2 i j (by omega) x y (by simpa using hx) hy
theorem emb_of {σ : List Nat} {n0 : Nat} {L0 : LH} {H : AH} (hl : σ.length ≤ n0) (hb : BlkOK (sig σ H.next) H L0) (hd : noDup (L0.map (fun p => sig σ H.next p.1)) = true) : Emb (sig σ H.next) (AH.of n0 L0) H where
  out b h := by
    rw [AH.of_next] at h
    unfold sig
    rw [List.getD_eq_getElem?_getD, List.getElem?_eq_none (by omega)]
    exact Nat.le_refl _
  blk b k h := by
    obtain ⟨p, hp, rfl, rfl⟩ := AH.of_get h
    exact hb.mem p hp
  inj b b' k k' h h' hne := by
    obtain ⟨p, hp, rfl, rfl⟩ := AH.of_get h
    obtain ⟨q, hq, rfl, rfl⟩ := AH.of_get h'
    obtain ⟨i, hi⟩ := List.getElem?_of_mem hp
    obtain ⟨j, hj⟩ := List.getElem?_of_mem hq
    have e1 : (L0.map (fun p => sig σ H.next p.1))[i]? = some (sig σ H.next p.1) := by simp [hi]
    have e2 : (L0.map (fun p => sig σ H.next p.1))[j]? = some (sig σ H.next q.1) := by simp [hj]
    rcases Nat.lt_trichotomy i j with h | h | h
    · exact noDup_ne hd i j h _ _ e1 e2
    · subst h; rw [hi] at hj; cases hj; exact absurd rfl hne
    · exact (noDup_ne hd j i h _ _ e2 e1).symm
/-- The heap behind a call. -/
def callRes (σ : Nat → Nat) (n0 : Nat) (L0 : LH) (H : AH) (n0' : Nat) (L0' : LH) : AH :=
  let τ : Nat → Nat := fun b => bif Nat.blt b n0 then σ b else H.next + (b - n0)
  let H1 := L0.foldl (fun H p => H.del (σ p.1)) H
  let H2 := L0'.foldl (fun H p => H.set (τ p.1) (p.2.ren τ)) H1
  { next := H.next + (n0' - n0), t := H2.t }
theorem dels_get (σ : Nat → Nat) : ∀ (l : LH) (H : AH) (c : Nat) (k : ABlk), (l.foldl (fun H p => H.del (σ p.1)) H).get c = some k → H.get c = some k ∧ ∀ p ∈ l, σ p.1 ≠ c
  | [], _, _, _, h => ⟨h, fun p hp => by cases hp⟩
  | p :: l, H, c, k, h => by
    rw [List.foldl_cons] at h
    obtain ⟨h1, h2⟩ := dels_get σ l _ c k h
    rw [AH.get_del] at h1
    by_cases e : c = σ p.1
    · rw [if_pos e] at h1; cases h1
    · rw [if_neg e] at h1
      exact ⟨h1, fun q hq => by
        rcases List.mem_cons.1 hq with rfl | hq
        · exact Ne.symm e
        · exact h2 q hq⟩
theorem sets_get (τ : Nat → Nat) : ∀ (l : LH) (H : AH) (c : Nat) (k : ABlk), (l.foldl (fun H p => H.set (τ p.1) (p.2.ren τ)) H).get c = some k → H.get c = some k ∨ ∃ p ∈ l, c = τ p.1 ∧ k = p.2.ren τ
  | [], _, _, _, h => .inl h
  | p :: l, H, c, k, h => by
    rw [List.foldl_cons] at h
    rcases sets_get τ l _ c k h with h | ⟨q, h1, h2⟩
    · rw [AH.get_set] at h
      by_cases e : c = τ p.1
      · rw [if_pos e] at h; cases h; exact .inr ⟨p, List.mem_cons_self, e, rfl⟩
      · rw [if_neg e] at h; exact .inl h
    · exact .inr ⟨q, List.mem_cons_of_mem _ h1, h2⟩
theorem of_mem : ∀ (l : LH) (H : AH) (p : Nat × ABlk), p ∈ l → noDup (l.map (·.1)) = true → (l.foldl (fun H p => H.set p.1 p.2) H).get p.1 = some p.2
  | [], _, p, hp, _ => by cases hp
  | q :: l, H, p, hp, hd => by
    rw [List.foldl_cons]
    simp only [List.map_cons, noDup, Bool.and_eq_true, Bool.not_eq_true'] at hd
    rcases List.mem_cons.1 hp with rfl | hp
    · have hnot : ∀ r ∈ l, r.1 ≠ p.1 := by
        intro r hr he
        have : p.1 ∈ l.map (·.1) := by rw [← he]; exact List.mem_map_of_mem hr
        rw [List.contains_iff_mem.2 this] at hd
        exact absurd hd.1 (by simp)
      have key : ∀ (l : LH) (H : AH), (∀ r ∈ l, r.1 ≠ p.1) → (l.foldl (fun H p => H.set p.1 p.2) H).get p.1 = H.get p.1 := by
        intro l
        induction l with
        | nil => intro _ _; rfl
        | cons r l ih =>
          intro H hr
          rw [List.foldl_cons, ih _ (fun s hs => hr s (List.mem_cons_of_mem _ hs)), AH.get_set, if_neg (fun e => hr r List.mem_cons_self e.symm)]
      rw [key l _ hnot, AH.get_set, if_pos rfl]
    · exact of_mem l _ p hp hd.2
theorem after_of {σ : Nat → Nat} {n0 n0' : Nat} {L0 L0' : LH} {H : AH} (hd : noDup (L0.map (·.1)) = true) (hd' : noDup (L0'.map (·.1)) = true) : After σ (AH.of n0 L0) H (AH.of n0' L0') (callRes σ n0 L0 H n0' L0') := by
  have ht : (fun b => bif Nat.blt b n0 then σ b else H.next + (b - n0)) = tau σ (AH.of n0 L0) H := by
    funext b
    unfold tau
    rw [AH.of_next]
    by_cases h : b < n0
    · rw [blt_true h, if_pos h]; rfl
    · rw [blt_false h, if_neg h]; rfl
  refine ⟨by rw [AH.of_next, AH.of_next]; rfl, fun c k hc => ?_⟩
  have hc' : (L0'.foldl (fun H p => H.set ((fun b => bif Nat.blt b n0 then σ b else H.next + (b - n0)) p.1) (p.2.ren (fun b => bif Nat.blt b n0 then σ b else H.next + (b - n0)))) (L0.foldl (fun H p => H.del (σ p.1)) H)).get c = some k → True := fun _ => trivial
  have h0 : (callRes σ n0 L0 H n0' L0').get c = (L0'.foldl (fun H' p => H'.set (tau σ (AH.of n0 L0) H p.1) (p.2.ren (tau σ (AH.of n0 L0) H))) (L0.foldl (fun H p => H.del (σ p.1)) H)).get c := by
    rw [← ht]; rfl
  rw [h0] at hc
  rcases sets_get _ L0' _ c k hc with h | ⟨p, h1, h2, h3⟩
  · obtain ⟨g1, g2⟩ := dels_get σ L0 H c k h
    refine .inl ⟨g1, fun b k0 hb => ?_⟩
    obtain ⟨p, hp, rfl, rfl⟩ := AH.of_get hb
    exact g2 p hp
  · exact .inr ⟨p.1, p.2, of_mem L0' _ p h1 hd', h2, h3⟩
/-- A call in a region, by lists. -/
theorem Seg.calls {P : Program} {B : Nat} {ops : Array Oper} {o : Oper} {l : List Oper} {ts : List AV} {H H1 : AH} {Q : Post} {f : FuncId} {args0 as : List AV} {n0 n0' : Nat} {L0 L0' : LH} {v0 v : AV} (run : Runs P f args0 (AH.of n0 L0) (.ret v0) (AH.of n0' L0')) (σ : List Nat)
    (hc : (match guardOf ops o with | some g => goesOn ts g | none => none) = some true ∧ callOf ts o = some (f, as) ∧ isGo P f = true ∧ Nat.ble σ.length n0 = true ∧ noDup (L0.map (fun p => sig σ H.next p.1)) = true ∧ noDup (L0.map (·.1)) = true ∧ noDup (L0'.map (·.1)) = true)
    (ha : AV.rens (sig σ H.next) args0 = as) (hb : BlkOK (sig σ H.next) H L0) (hr : callRes (sig σ H.next) n0 L0 H n0' L0' = H1) (hv : v0.ren (fun b => bif Nat.blt b n0 then sig σ H.next b else H.next + (b - n0)) = v)
    (hn : Seg P B ops l (putT ts o.dst v) H1 Q) : Seg P B ops (o :: l) ts H Q := by
  obtain ⟨h1, h2, h3, h4, h5, h6, h7⟩ := hc
  subst hr hv
  split at h1
  · rename_i g hg
    have ht : (fun b => bif Nat.blt b n0 then sig σ H.next b else H.next + (b - n0)) = tau (sig σ H.next) (AH.of n0 L0) H := by
      funext b
      unfold tau
      rw [AH.of_next]
      by_cases h : b < n0
      · rw [blt_true h, if_pos h]; rfl
      · rw [blt_false h, if_neg h]; rfl
    rw [ht] at hn
    exact Seg.call (sig σ H.next) hg h1 h2 h3 run ha (emb_of (Nat.le_of_ble_eq_true h4) hb h5) (after_of h6 h7) hn
  · cases h1
/-- .. one that panics. -/
theorem Seg.callp {P : Program} {B : Nat} {ops : Array Oper} {o : Oper} {l : List Oper} {ts : List AV} {H H1 : AH} {Q : Post} {f : FuncId} {args0 as : List AV} {n0 n0' : Nat} {L0 L0' : LH} {v0 v : AV} (run : Runs P f args0 (AH.of n0 L0) (.panic v0) (AH.of n0' L0')) (σ : List Nat)
    (hc : (match guardOf ops o with | some g => goesOn ts g | none => none) = some true ∧ callOf ts o = some (f, as) ∧ isGo P f = true ∧ Nat.ble σ.length n0 = true ∧ noDup (L0.map (fun p => sig σ H.next p.1)) = true ∧ noDup (L0.map (·.1)) = true ∧ noDup (L0'.map (·.1)) = true)
    (ha : AV.rens (sig σ H.next) args0 = as) (hb : BlkOK (sig σ H.next) H L0) (hr : callRes (sig σ H.next) n0 L0 H n0' L0' = H1) (hv : v0.ren (fun b => bif Nat.blt b n0 then sig σ H.next b else H.next + (b - n0)) = v)
    (hn : Q (.panic v) ts H1) : Seg P B ops (o :: l) ts H Q := by
  obtain ⟨h1, h2, h3, h4, h5, h6, h7⟩ := hc
  subst hr hv
  split at h1
  · rename_i g hg
    have ht : (fun b => bif Nat.blt b n0 then sig σ H.next b else H.next + (b - n0)) = tau (sig σ H.next) (AH.of n0 L0) H := by
      funext b
      unfold tau
      rw [AH.of_next]
      by_cases h : b < n0
      · rw [blt_true h, if_pos h]; rfl
      · rw [blt_false h, if_neg h]; rfl
    rw [ht] at hn
    exact Seg.call (sig σ H.next) hg h1 h2 h3 run ha (emb_of (Nat.le_of_ble_eq_true h4) hb h5) (after_of h6 h7) hn
  · cases h1
/-- Slots, renamed; 'any' where nothing is to be known. -/
def merge (σ : Nat → Nat) : List AV → List AV → List AV
  | v' :: vs', v :: vs => (match v' with
    | .any => v
    | v' => v'.ren σ) :: merge σ vs' vs
  | _, _ => []
theorem merge_rel {μ : Mu} {σ : Nat → Nat} : ∀ {vs' vs : List AV} {xs : List Value}, merge σ vs' vs = vs → vs'.length = vs.length → VRels μ vs xs → VRels (fun b => μ (σ b)) vs' xs
  | [], [], [], _, _, _ => trivial
  | v' :: vs', v :: vs, x :: xs, h, hl, hr => by
    simp only [merge, List.cons.injEq] at h
    refine ⟨?_, merge_rel h.2 (by simpa using hl) hr.2⟩
    have h1 := h.1
    split at h1
    · trivial
    · have := hr.1
      rw [← h1] at this
      exact VRel.unren (fun _ _ h => h) _ _ this
  | [], _ :: _, _, _, hl, _ => by simp at hl
  | _ :: _, [], _, _, hl, _ => by simp at hl
  | [], [], _ :: _, _, _, q => q.elim
  | _ :: _, _ :: _, [], _, _, q => q.elim
/-- A weaker state, by lists. -/
theorem weak_of {B : Nat} {ts ts' : List AV} {H : AH} {n' : Nat} {L' : LH} (σ : List Nat) (hc : Nat.ble σ.length n' = true ∧ Nat.ble B n' = true ∧ Nat.ble B σ.length = true ∧ (List.range B).all (fun b => Nat.beq (sig σ H.next b) b) = true ∧ noDup (L'.map (fun p => sig σ H.next p.1)) = true ∧ Nat.beq ts'.length ts.length = true)
    (ht : merge (sig σ H.next) ts' ts = ts) (hb : BlkOK (sig σ H.next) H L') : Weak B ts H ts' (AH.of n' L') := fun μ w tmps r s hB => by
  obtain ⟨h1, h2, h3, h4, h5, h6⟩ := hc
  have em := emb_of (n0 := n') (Nat.le_of_ble_eq_true h1) hb h5
  refine ⟨fun b => μ (sig σ H.next b), merge_rel ht (Nat.eq_of_beq_eq_true h6) r, em.sat s, ⟨fun b hb' => ?_, by rw [AH.of_next]; exact Nat.le_of_ble_eq_true h2, rfl, rfl, rfl, Nat.le_refl _, fun _ _ _ => rfl, fun b x l g1 g2 => .inr ⟨sig σ H.next b, x.ren (sig σ H.next), l, em.blk b x g1, g2, rfl, fun h => h⟩⟩⟩
  have := List.all_eq_true.1 h4 b (List.mem_range.2 hb')
  show μ (sig σ H.next b) = μ b
  rw [Nat.eq_of_beq_eq_true this]
end
end Go.Eng
