/- The engine, seventh part: slicing, elements, lengths; all operations together. -/
import Derived.Test.YtieikjgfndojpaaGreatEn05
namespace Go.Eng
open Go Go.RowKit
set_option linter.unusedVariables false
set_option linter.unusedSimpArgs false
section
variable {P : Program} {o : Oper} {a : Act} {μ : Mu} {H H' : AH} {w : World} {ev : CX → AV} {v : AV}
/-- Bounds, given or not. -/
def ORel (μ : Mu) : Option AV → Option Value → Prop
  | none, none => True
  | some v, some x => VRel μ v x
  | _, _ => False
theorem optd_rel {x : Option Operand} {c : Option CX} (h : optd x = some c) (he : Ev μ ev a) : ORel μ (c.map ev) (x.map a.eval) := by
  cases x with
  | none => simp only [optd, Option.some.injEq] at h; subst h; trivial
  | some x =>
    simp only [optd] at h
    rcases hq : opd x with _ | d
    · simp [hq] at h
    · simp [hq] at h; subst h; exact he x d hq
theorem bnd_spec {b : Option AV} {x : Option Value} {d l : Nat} (h : bnd b d = some (l, true)) (hr : ORel μ b x) : (x = none ∧ l = d) ∨ ∃ k i, x = some (.int k i) ∧ 0 ≤ i ∧ i.toNat = l := by
  unfold bnd at h
  split at h
  · cases h
    cases x with
    | none => exact .inl ⟨rfl, rfl⟩
    | some x => exact hr.elim
  · rename_i k i
    simp only [Option.some.injEq, Prod.mk.injEq, decide_eq_true_eq] at h
    cases x with
    | none => exact hr.elim
    | some x => exact .inr ⟨k, i, by rw [show x = _ from hr], h.2, h.1⟩
  · cases h
theorem run_bound (k : IntKind) (i : Int) (y : Nat) (code : BoundsCode) (h0 : 0 ≤ i) (h1 : i.toNat ≤ y) (w : World) : (Instr.sliceBound (.int k i) y code).run P w = .ok i.toNat w := by
  have : 0 ≤ i ∧ i ≤ y := ⟨h0, by omega⟩
  simp [Instr.sliceBound, asIntOf, this]
theorem segs_spec {lo hi mx : Option AV} {n c l h m : Nat} (hs : segs lo hi mx n c = some (l, h, m, true)) : (mx.isSome = true → hi.isSome = true) ∧ bnd lo 0 = some (l, true) ∧ bnd hi n = some (h, true) ∧ bnd mx c = some (m, true) ∧ l ≤ h ∧ h ≤ m ∧ m ≤ c := by
  have key : (match bnd lo 0, bnd hi n, bnd mx c with
    | some (l, a), some (h, b), some (m, d) => some (l, h, m, a && b && d && decide (l ≤ h) && decide (h ≤ m) && decide (m ≤ c))
    | _, _, _ => none) = some (l, h, m, true) ∧ (mx.isSome = true → hi.isSome = true) := by
    cases hi <;> cases mx <;> simp only [segs] at hs <;> first | exact ⟨hs, by simp⟩ | cases hs
  obtain ⟨k1, k2⟩ := key
  refine ⟨k2, ?_⟩
  split at k1
  · rename_i l' a h' b m' d e1 e2 e3
    simp only [Option.some.injEq, Prod.mk.injEq, Bool.and_eq_true, decide_eq_true_eq] at k1
    obtain ⟨rfl, rfl, rfl, ⟨⟨⟨⟨rfl, rfl⟩, rfl⟩, b1⟩, b2⟩, b3⟩ := k1
    exact ⟨e1, e2, e3, b1, b2, b3⟩
  · cases k1
theorem orel_none {b : Option AV} (h : ORel μ b none) : b = none := by cases b with | none => rfl | some q => exact (show False from h).elim
theorem orel_some {b : Option AV} {x : Value} (h : ORel μ b (some x)) : b.isSome = true := by cases b with | none => exact (show False from h).elim | some q => rfl
theorem segs_run {lo hi mx : Option AV} {x y z : Option Value} {n c c' l h m : Nat} {sl : Bool} (hs : segs lo hi mx n c = some (l, h, m, true)) (h1 : ORel μ lo x) (h2 : ORel μ hi y) (h3 : ORel μ mx z) (hc : c ≤ c') (w : World) :
    (Instr.sliceBounds sl n c' x y z).run P w = .ok (l, h, if mx.isSome then m else c') w ∧ l ≤ h ∧ h ≤ m ∧ m ≤ c ∧ (mx = none → m = c) := by
  obtain ⟨hne, e1, e2, e3, b1, b2, b3⟩ := segs_spec hs
  refine ⟨?_, b1, b2, b3, fun hm => by subst hm; simp [bnd] at e3; exact e3.symm⟩
  rcases bnd_spec e3 h3 with ⟨rfl, rfl⟩ | ⟨k3, i3, rfl, p3, rfl⟩
  · obtain rfl := orel_none h3
    rcases bnd_spec e2 h2 with ⟨rfl, rfl⟩ | ⟨k2, i2, rfl, p2, rfl⟩
    · rcases bnd_spec e1 h1 with ⟨rfl, rfl⟩ | ⟨k1, i1, rfl, p1, rfl⟩
      · simp [Instr.sliceBounds]
      · simp [Instr.sliceBounds, run_bound k1 i1 _ _ p1 b1]
    · rcases bnd_spec e1 h1 with ⟨rfl, rfl⟩ | ⟨k1, i1, rfl, p1, rfl⟩
      · simp [Instr.sliceBounds, run_bound k2 i2 c' _ p2 (by omega)]
      · simp [Instr.sliceBounds, run_bound k2 i2 c' _ p2 (by omega), run_bound k1 i1 _ _ p1 b1]
  · have hmx := orel_some h3
    rcases bnd_spec e2 h2 with ⟨rfl, rfl⟩ | ⟨k2, i2, rfl, p2, rfl⟩
    · exfalso
      have := hne hmx
      rw [orel_none h2] at this
      cases this
    · rcases bnd_spec e1 h1 with ⟨rfl, rfl⟩ | ⟨k1, i1, rfl, p1, rfl⟩
      · simp [Instr.sliceBounds, hmx, run_bound k3 i3 c' _ p3 (by omega), run_bound k2 i2 _ _ p2 b2]
      · simp [Instr.sliceBounds, hmx, run_bound k3 i3 c' _ p3 (by omega), run_bound k2 i2 _ _ p2 b2, run_bound k1 i1 _ _ p1 b1]
theorem stepTo_at (l : Loc) (es k j n : Nat) : l.at (stepTo l.st es k j n).1 (stepTo l.st es k j n).2 = (l.at k j).add (n * es) := by
  unfold stepTo
  rcases hq : Nat.beq es l.st with _ | _
  · simp [at_eq, Addr.add_mid, Nat.add_assoc]
  · have : es = l.st := Nat.eq_of_beq_eq_true hq
    simp [at_eq, Addr.add_mid, this, Nat.add_mul, Nat.add_assoc, Nat.add_comm]
theorem Sat.loc {b : Nat} {y : ABlk} {l : Loc} (s : Sat μ H w) (hb : H.get b = some y) (hl : μ b = some l) (hm : ∀ es, y.c ≠ .map es) : l.st = y.st := by
  obtain ⟨l', g1, g2⟩ := s.blk b y hb
  rw [hl] at g1; cases g1
  exact (g2.holds hm).1
theorem ok_sli {t e : TypeId} {es : Nat} {x : Operand} {lo hi mx : Option Operand} {c : CX} {cl ch cm : Option CX} (ho : o.op = .slice t x lo hi mx) (ht : P.underlying t = some (.slice e)) (hs : szOf P e = some es) (hx : opd x = some c) (hl : optd lo = some cl) (hh : optd hi = some ch) (hm : optd mx = some cm)
    (he : Ev μ ev a) (s : Sat μ H w) (h : cstep ev H (.sli es c cl ch cm) = some (v, H', true)) : OpOK P o a μ H w v H' := by
  have h1 := he x c hx
  obtain ⟨i', hi', hs'⟩ : ∃ i', P.info? e = some i' ∧ i'.size = es := by
    unfold szOf at hs
    rcases hq : P.info? e with _ | i'
    · simp [hq] at hs
    · exact ⟨i', rfl, by simpa [hq] using hs⟩
  simp only [cstep] at h
  split at h
  · rename_i b k j n c0 ex e1
    split at h
    · rename_i l r m ok y q1 q2
      simp only [Option.some.injEq, Prod.mk.injEq, Bool.and_eq_true, Bool.not_eq_true'] at h
      obtain ⟨rfl, rfl, ⟨rfl, hmap⟩, hes⟩ := h
      rw [e1] at h1
      obtain ⟨lc, A, c', g1, g2, g3, g4, g5, g6, g7⟩ := h1
      obtain ⟨r1, r2, r3, r4, r5⟩ := segs_run (P := P) (sl := true) q1 (optd_rel hl he) (optd_rel hh he) (optd_rel hm he) g4 w
      have hst := s.loc q2 g1 (by rintro es' e'; rw [e'] at hmap; cases hmap)
      have hrun : (Instr.sliceAt t (a.eval x) (lo.map a.eval) (hi.map a.eval) (mx.map a.eval)).run P w =
          .ok (.slice (some (if (if cm.isSome then m else c') = l then A else A.add (l * es))) (r - l) ((if cm.isSome then m else c') - l)) w := by
        unfold Instr.sliceAt
        rw [Sem.run_bind, run_underlying ht, Result.andThen_ok]
        simp only [Instr.slice, Sem.run_bind, run_underlying ht, Result.andThen_ok, g2, r1, run_sizeOf hi', hs', Sem.run_pure]
        have : (cm.map ev).isSome = cm.isSome := by cases cm <;> rfl
        simp only [this]
        split <;> (simp only [Option.map_some]; split <;> rfl)
      refine OpOK.pure s (by simp [execOp, ho, hrun]; rfl) ?_
      refine ⟨lc, _, _, g1, rfl, by omega, ?_, ?_, ?_, ?_⟩
      · cases cm with
        | none => simp only [Option.isSome_none, Bool.false_eq_true, if_false]; have := r5 rfl; omega
        | some q => simp
      · intro hex
        cases cm with
        | none =>
          simp only [Option.isSome_none, Bool.false_or] at hex
          have := r5 rfl
          simp only [Option.isSome_none, Bool.false_eq_true, if_false]
          rw [g5 hex, this]
        | some q => simp
      · rw [← hst, stepTo_at]
        have hM : (if cm.isSome = true then m else c') = l ∨ c' ≠ 0 := by
          cases cm with
          | none => have := r5 rfl; simp; omega
          | some q => simp; omega
        generalize (if cm.isSome = true then m else c') = M at *
        by_cases hML : M = l
        · right; omega
        · left
          rw [if_neg hML]
          rcases g6 with rfl | g6
          · rfl
          · exact absurd g6 (hM.resolve_left hML)
      · intro hex
        cases cm with
        | none =>
          simp only [Option.isSome_none, Bool.false_or] at hex
          have hes' : Nat.beq es y.st = true := by
            simp only [Bool.or_eq_true] at hes
            rcases hes with hes | hes
            · rcases hes with hes | hes
              · simp at hes
              · rw [hex] at hes; cases hes
            · exact hes
          obtain ⟨q1, q2⟩ := g7 hex
          have := r5 rfl
          simp only [Option.isSome_none, Bool.false_eq_true, if_false, stepTo, hes', cond_true]
          exact ⟨q1, by omega⟩
        | some q => simp at hex
    · cases h
  · rename_i b k j n c0 e1
    split at h
    · rename_i l r m ok y q1 q2
      simp only [Option.some.injEq, Prod.mk.injEq, Bool.and_eq_true, Bool.not_eq_true'] at h
      obtain ⟨rfl, rfl, rfl, hmap⟩ := h
      rw [e1] at h1
      rcases h1 with ⟨h1, rfl, rfl⟩ | ⟨lc, A, c', g1, g2, g3, g4, g6⟩
      · obtain ⟨r1, r2, r3, r4, r5⟩ := segs_run (P := P) (sl := true) q1 (optd_rel hl he) (optd_rel hh he) (optd_rel hm he) (Nat.le_refl 0) w
        obtain rfl : m = 0 := by omega
        obtain rfl : r = 0 := by omega
        obtain rfl : l = 0 := by omega
        have hrun : (Instr.sliceAt t (a.eval x) (lo.map a.eval) (hi.map a.eval) (mx.map a.eval)).run P w = .ok (.slice none 0 0) w := by
          unfold Instr.sliceAt
          rw [Sem.run_bind, run_underlying ht, Result.andThen_ok]
          simp only [Instr.slice, Sem.run_bind, run_underlying ht, Result.andThen_ok, h1, r1, run_sizeOf hi', hs', Sem.run_pure]
          simp
        exact OpOK.pure (x := .slice none 0 0) s (by simp [execOp, ho, hrun]) (.inl ⟨rfl, by omega, by omega⟩)
      · obtain ⟨r1, r2, r3, r4, r5⟩ := segs_run (P := P) (sl := true) q1 (optd_rel hl he) (optd_rel hh he) (optd_rel hm he) g4 w
        have hst := s.loc q2 g1 (by rintro es' e'; rw [e'] at hmap; cases hmap)
        have hmi : (cm.map ev).isSome = cm.isSome := by cases cm <;> rfl
        have hmm : m - l ≤ (if cm.isSome = true then m else c') - l := by
          cases cm with
          | none => have := r5 rfl; simp; omega
          | some q => simp
        have hrun : (Instr.sliceAt t (a.eval x) (lo.map a.eval) (hi.map a.eval) (mx.map a.eval)).run P w =
            .ok (.slice (some (if (if cm.isSome then m else c') = l then A else A.add (l * es))) (r - l) ((if cm.isSome then m else c') - l)) w := by
          unfold Instr.sliceAt
          rw [Sem.run_bind, run_underlying ht, Result.andThen_ok]
          simp only [Instr.slice, Sem.run_bind, run_underlying ht, Result.andThen_ok, g2, r1, run_sizeOf hi', hs', Sem.run_pure]
          simp only [hmi]
          split <;> (simp only [Option.map_some]; split <;> rfl)
        refine OpOK.pure s (by simp [execOp, ho, hrun]; rfl) (.inr ⟨lc, _, _, g1, rfl, by omega, hmm, ?_⟩)
        rw [← hst, stepTo_at]
        have hM : (if cm.isSome = true then m else c') = l ∨ c' ≠ 0 := by
          cases cm with
          | none => have := r5 rfl; simp; omega
          | some q => simp; omega
        generalize (if cm.isSome = true then m else c') = M at *
        by_cases hML : M = l
        · right; omega
        · left
          rw [if_neg hML]
          rcases g6 with rfl | g6
          · rfl
          · exact absurd g6 (hM.resolve_left hML)
    · cases h
  · rename_i e1
    split at h
    · rename_i l r m ok q1
      simp only [Option.some.injEq, Prod.mk.injEq] at h
      obtain ⟨rfl, rfl, rfl⟩ := h
      rw [e1] at h1
      simp only [VRel] at h1
      obtain ⟨r1, r2, r3, r4, r5⟩ := segs_run (P := P) (sl := true) q1 (optd_rel hl he) (optd_rel hh he) (optd_rel hm he) (Nat.le_refl 0) w
      obtain rfl : m = 0 := by omega
      obtain rfl : r = 0 := by omega
      obtain rfl : l = 0 := by omega
      have hrun : (Instr.sliceAt t (a.eval x) (lo.map a.eval) (hi.map a.eval) (mx.map a.eval)).run P w = .ok (.slice none 0 0) w := by
        unfold Instr.sliceAt
        rw [Sem.run_bind, run_underlying ht, Result.andThen_ok]
        simp only [Instr.slice, Sem.run_bind, run_underlying ht, Result.andThen_ok, h1, r1, run_sizeOf hi', hs', Sem.run_pure]
        simp
      exact OpOK.pure (x := .slice none 0 0) s (by simp [execOp, ho, hrun]) rfl
    · cases h
  · cases h
end
end Go.Eng
