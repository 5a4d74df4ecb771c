/- The engine, fourteenth part: calls in regions. -/
import Derived.Test.YtmbcpmbpkdeioaaGreatDoorEn13
namespace Go.Eng
open Go Go.RowKit
set_option linter.unusedVariables false
set_option linter.unusedSimpArgs false
theorem Emb.sat {σ : Nat → Nat} {H0 H : AH} {μ : Mu} {w : World} (em : Emb σ H0 H) (s : Sat μ H w) : Sat (fun b => μ (σ b)) H0 w where
  fresh b hb := s.fresh _ (em.out b hb)
  blk b k hb := by
    obtain ⟨l, h1, h2⟩ := s.blk _ _ (em.blk b k hb)
    exact ⟨l, h1, h2.unren (μ := fun b => μ (σ b)) (fun _ _ h => h)⟩
  sep b b' k k' l l' h1 h2 hne ho g1 g2 := s.sep (σ b) (σ b') (k.ren σ) (k'.ren σ) l l' (em.blk b k h1) (em.blk b' k' h2) (em.inj b b' k k' h1 h2 hne) ho g1 g2
theorem call_frame {σ : Nat → Nat} {H0 H H0' H1 : AH} {μ μ0' : Mu} {w w' : World} (em : Emb σ H0 H) (af : After σ H0 H H0' H1) (s : Sat μ H w) (s0 : Sat μ0' H0' w') (f : Fw H0.next (fun b => μ (σ b)) H0 μ0' H0' w w') :
    ∃ μ1, MuLe μ μ1 ∧ (∀ v x, VRel μ0' v x → VRel μ1 (v.ren (tau σ H0 H)) x) ∧ Sat μ1 H1 w' ∧ Fr μ H μ1 H1 w w' := by
  let μ1 : Mu := fun c => if c < H.next then μ c else μ0' (H0.next + (c - H.next))
  have hle : MuLe μ μ1 := fun b l h => by show (if b < H.next then _ else _) = _; rw [if_pos (s.lt h)]; exact h
  have hmap : ∀ b l, μ0' b = some l → μ1 (tau σ H0 H b) = some l := by
    intro b l h
    show (if _ then _ else _) = _
    unfold tau
    by_cases hb : b < H0.next
    · rw [if_pos hb]
      rw [f.le b hb] at h
      rw [if_pos (s.lt h)]; exact h
    · rw [if_neg hb, if_neg (by omega), show H0.next + (H.next + (b - H0.next) - H.next) = b by omega]; exact h
  have htau : ∀ b k0 c l, H0'.get b = some k0 → c = tau σ H0 H b → μ1 c = some l → μ0' b = some l := by
    intro b k0 c l hb hc hl
    obtain ⟨l', h1, _⟩ := s0.blk b k0 hb
    have := hmap b l' h1
    rw [← hc, hl] at this
    cases this
    exact h1
  have old : ∀ c k l, H.get c = some k → μ1 c = some l → μ c = some l := by
    intro c k l hc hl
    obtain ⟨l', h1, _⟩ := s.blk c k hc
    have := hle c l' h1
    rw [hl] at this; cases this
    exact h1
  have stays : ∀ c k l, H.get c = some k → (∀ b k0, H0.get b = some k0 → σ b ≠ c) → μ c = some l → w'.heap[l.blk]? = w.heap[l.blk]? := by
    intro c k l hc hn hl
    obtain ⟨l', h1, h2⟩ := s.blk c k hc
    rw [hl] at h1; cases h1
    refine f.same _ h2.blk_lt (fun b x l0 g1 g2 g3 he => ?_)
    exact s.sep (σ b) c (x.ren σ) k l0 l (em.blk b x g1) hc (hn b x g1) g2 g3 hl he
  -- where a block of the callee's comes from
  have from0 : ∀ b x l, H0'.get b = some x → μ0' b = some l → w.heap.size ≤ l.blk ∨ ∃ b0 x0 l0, H0.get b0 = some x0 ∧ H.get (σ b0) = some (x0.ren σ) ∧ μ (σ b0) = some l0 ∧ l0.blk = l.blk ∧ (x.own = true → x0.own = true) := by
    intro b x l h1 h2
    rcases f.from_ b x l h1 h2 with h | ⟨b0, x0, l0, g1, g2, g3, g4⟩
    · exact .inl h
    · exact .inr ⟨b0, x0, l0, g1, em.blk b0 x0 g1, g2, g3, g4⟩
  have apart : ∀ c k l, H.get c = some k → (∀ b k0, H0.get b = some k0 → σ b ≠ c) → μ c = some l → ∀ b x l', H0'.get b = some x → μ0' b = some l' → (k.own = true ∨ x.own = true) → l.blk ≠ l'.blk := by
    intro c k l hc hn hl b x l' hb hl' ho he
    rcases from0 b x l' hb hl' with h | ⟨b0, x0, l0, g1, g2, g3, g4, g5⟩
    · obtain ⟨l2, h1, h2⟩ := s.blk c k hc
      rw [hl] at h1; cases h1
      have := h2.blk_lt
      omega
    · rcases ho with ho | ho
      · exact s.sep c (σ b0) k (x0.ren σ) l l0 hc g2 (Ne.symm (hn b0 x0 g1)) ho hl g3 (he.trans g4.symm)
      · exact s.sep (σ b0) c (x0.ren σ) k l0 l g2 hc (hn b0 x0 g1) (g5 ho) g3 hl (g4.trans he.symm)
  refine ⟨μ1, hle, fun v x h => VRel.ren hmap v x h, ⟨fun c hc => ?_, fun c k hc => ?_, fun c c' k k' l l' h1 h2 hne ho g1 g2 => ?_⟩, ⟨fun c hc => if_pos hc, ?_, f.os, f.tape, f.output, f.size, fun k hk hn => f.same k hk (fun b x l g1 g2 g3 => hn (σ b) (x.ren σ) l (em.blk b x g1) g2 g3), fun c x l h1 h2 => ?_⟩⟩
  · rw [af.next] at hc
    show (if c < H.next then _ else _) = none
    rw [if_neg (by omega)]
    exact s0.fresh _ (by omega)
  · rcases af.blk c k hc with ⟨h1, h2⟩ | ⟨b, k0, h1, h2, h3⟩
    · obtain ⟨l, g1, g2⟩ := s.blk c k h1
      exact ⟨l, hle _ _ g1, g2.move hle (stays c k l h1 h2 g1)⟩
    · obtain ⟨l, g1, g2⟩ := s0.blk b k0 h1
      subst h3
      exact ⟨l, by rw [h2]; exact hmap b l g1, g2.ren hmap⟩
  · rcases af.blk c k h1 with ⟨a1, a2⟩ | ⟨b, k0, a1, a2, a3⟩
    · rcases af.blk c' k' h2 with ⟨d1, d2⟩ | ⟨b', k0', d1, d2, d3⟩
      · exact s.sep c c' k k' l l' a1 d1 hne ho (old _ _ _ a1 g1) (old _ _ _ d1 g2)
      · exact apart c k l a1 a2 (old _ _ _ a1 g1) b' k0' l' d1 (htau _ _ _ _ d1 d2 g2) (.inl ho)
    · subst a3
      rcases af.blk c' k' h2 with ⟨d1, d2⟩ | ⟨b', k0', d1, d2, d3⟩
      · exact Ne.symm (apart c' k' l' d1 d2 (old _ _ _ d1 g2) b k0 l a1 (htau _ _ _ _ a1 a2 g1) (.inr ho))
      · subst d3
        exact s0.sep b b' k0 k0' l l' a1 d1 (fun e => hne (by rw [a2, d2, e])) ho (htau _ _ _ _ a1 a2 g1) (htau _ _ _ _ d1 d2 g2)
  · rw [af.next]; omega
  · rcases af.blk c x h1 with ⟨a1, a2⟩ | ⟨b, k0, a1, a2, a3⟩
    · exact .inr ⟨c, x, l, a1, old _ _ _ a1 h2, rfl, id⟩
    · subst a3
      rcases from0 b k0 l a1 (htau _ _ _ _ a1 a2 h2) with h | ⟨b0, x0, l0, g1, g2, g3, g4, g5⟩
      · exact .inl h
      · exact .inr ⟨σ b0, x0.ren σ, l0, g2, g3, g4, g5⟩
/-- Whom an operation calls, with what. -/
def callOf (ts : List AV) (o : Oper) : Option (FuncId × List AV) :=
  match o.op with
  | .call c => match c.callee, opds c.args.toList with
    | .value x, some cs => match opd x with
      | some cx => match cx.ev ts with
        | .fn (.func f) first cap => some (f, first ++ cs.map (·.ev ts) ++ cap)
        | _ => none
      | none => none
    | _, _ => none
  | _ => none
/-- A function with a body. -/
def isGo (P : Program) (f : FuncId) : Bool :=
  match P.funcs[f]? with
  | some fn => fn.body.isSome && !(fn.name == "runtime.NumGoroutine")
  | none => false
theorem call_run {P : Program} {o : Oper} {a : Act} {ts : List AV} {μ : Mu} {f : FuncId} {as : List AV} (r : Rel μ ts a.tmps) (h : callOf ts o = some (f, as)) (hg : isGo P f = true) (w : World) : ∃ vs : Array Value, VRels μ as vs.toList ∧ (execOp a.eval o).run P w = .ok (.enter f vs) w := by
  unfold callOf at h
  split at h
  · rename_i c ho
    split at h
    · rename_i x cs e1 e2
      split at h
      · rename_i cx e3
        split at h
        · rename_i f' first cap e4
          simp only [Option.some.injEq, Prod.mk.injEq] at h
          obtain ⟨rfl, rfl⟩ := h
          have hx := opd_rel e3 r
          rw [e4] at hx
          obtain ⟨a', c', g1, g2, g3⟩ := hx
          have hargs := opds_rel r e2
          unfold isGo at hg
          split at hg
          · rename_i fn hfn
            simp only [Bool.and_eq_true, Bool.not_eq_true'] at hg
            refine ⟨a' ++ c.args.map a.eval ++ c', ?_, ?_⟩
            · simp only [Array.toList_append, Array.toList_map]
              exact (g2.append hargs).append g3
            · have hb : fn.body.isNone = false := by
                rcases hq : fn.body with _ | q
                · rw [hq] at hg; simp at hg
                · rfl
              simp only [execOp, ho, resolve, e1, Sem.run_bind, Deferred.ofValue, g1, Sem.run_pure, Result.andThen_ok, invoke, callFunc, run_program, hfn, hg.2, hb]
              simp
          · cases hg
        · cases h
      · cases h
    · cases h
  · cases h
end Go.Eng
