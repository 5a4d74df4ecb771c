/- The engine, eighth part: arrays sliced, elements' places, lengths, least and greatest. -/
import Derived.Test.YtilmgiompalggaaGreatDoorEn04
import Derived.Laws.IdiomCopy
namespace Go.Eng
open Go Go.RowKit
set_option linter.unusedVariables false
set_option linter.unusedSimpArgs false
section
variable {P : Program} {o : Oper} {a : Act} {μ : Mu} {H H' : AH} {w : World} {ev : CX → AV} {v : AV}
theorem szOf_spec {e : TypeId} {es : Nat} (hs : szOf P e = some es) : ∃ i', P.info? e = some i' ∧ i'.size = es := by
  unfold szOf at hs
  rcases hq : P.info? e with _ | i'
  · simp [hq] at hs
  · exact ⟨i', rfl, by simpa [hq] using hs⟩
theorem ok_sla {t e : TypeId} {n es : Nat} {x : Operand} {lo hi : Option Operand} {c : CX} {cl ch : Option CX} (ho : o.op = .slice t x lo hi none) (ht : P.underlying t = some (.array n e)) (hs : szOf P e = some es) (hx : opd x = some c) (hl : optd lo = some cl) (hh : optd hi = some ch)
    (he : Ev μ ev a) (s : Sat μ H w) (h : cstep ev H (.sla n es c cl ch) = some (v, H', true)) : OpOK P o a μ H w v H' := by
  have h1 := he x c hx
  obtain ⟨i', hi', hs'⟩ := szOf_spec hs
  simp only [cstep] at h
  split at h
  · rename_i b k j e1
    split at h
    · rename_i l r m ok q1
      simp only [Option.some.injEq, Prod.mk.injEq] at h
      obtain ⟨rfl, rfl, rfl⟩ := h
      rw [e1] at h1
      obtain ⟨lc, g1, g2⟩ := h1
      obtain ⟨r1, r2, r3, r4, r5⟩ := segs_run (P := P) (sl := false) (z := none) q1 (optd_rel hl he) (optd_rel hh he) trivial (Nat.le_refl n) w
      have hm := r5 rfl
      subst hm
      have hrun : (Instr.sliceAt t (a.eval x) (lo.map a.eval) (hi.map a.eval) none).run P w = .ok (.slice (some (if m = l then lc.at k j else (lc.at k j).add (l * es))) (r - l) (m - l)) w := by
        unfold Instr.sliceAt
        rw [Sem.run_bind, run_underlying ht, Result.andThen_ok]
        simp only [g2, Instr.sureAddr, Sem.run_bind, Sem.run_pure, Result.andThen_ok, r1, run_sizeOf hi', hs', Option.isSome_none, Bool.false_eq_true, if_false]
      refine OpOK.pure s (by simp [execOp, ho, hrun]; rfl) ?_
      refine ⟨lc, _, _, g1, rfl, by omega, Nat.le_refl _, fun _ => rfl, ?_, (fun h => by cases h)⟩
      by_cases hml : m = l
      · right; omega
      · left
        rw [if_neg hml]
        simp [at_eq, Addr.add_mid, Nat.add_assoc]
    · cases h
  · cases h
theorem ok_ias {t e : TypeId} {es : Nat} {x y : Operand} {c d : CX} (ho : o.op = .indexAddr t x y) (ht : P.underlying t = some (.slice e)) (hs : szOf P e = some es) (hx : opd x = some c) (hy : opd y = some d) (he : Ev μ ev a) (s : Sat μ H w) (h : cstep ev H (.ias es c d) = some (v, H', true)) : OpOK P o a μ H w v H' := by
  have h1 := he x c hx
  have h2 := he y d hy
  obtain ⟨i', hi', hs'⟩ := szOf_spec hs
  simp only [cstep] at h
  split at h
  · rename_i b k j n c0 ex q i e1 e2
    split at h
    · rename_i z hz
      simp only [Option.some.injEq, Prod.mk.injEq, Bool.and_eq_true, decide_eq_true_eq, Bool.not_eq_true'] at h
      obtain ⟨rfl, rfl, ⟨b1, b2⟩, hmap⟩ := h
      rw [e1] at h1
      rw [e2] at h2
      obtain ⟨lc, A, c', g1, g2, g3, g4, g5, g6, g7⟩ := h1
      simp only [VRel] at h2
      have hst := s.loc hz g1 (by rintro es' e'; rw [e'] at hmap; cases hmap)
      have hA : A = lc.at k j := by rcases g6 with g6 | g6; exact g6; omega
      subst hA
      have hrun : (Instr.indexAt t (a.eval x) (a.eval y)).run P w = .ok (.pointer (some ((lc.at k j).add (i.toNat * es)))) w := by
        simp [Instr.indexAt, asIntOf, run_underlying ht, g2, h2, b1, b2, run_sizeOf hi', hs']
      exact OpOK.pure s (by simp [execOp, ho, hrun]; rfl) ⟨lc, g1, by rw [← hst, stepTo_at]⟩
    · cases h
  · rename_i b k j n c0 q i e1 e2
    split at h
    · rename_i z hz
      simp only [Option.some.injEq, Prod.mk.injEq, Bool.and_eq_true, decide_eq_true_eq, Bool.not_eq_true'] at h
      obtain ⟨rfl, rfl, ⟨b1, b2⟩, hmap⟩ := h
      rw [e1] at h1
      rw [e2] at h2
      simp only [VRel] at h2
      rcases h1 with ⟨h1, rfl, rfl⟩ | ⟨lc, A, c', g1, g2, g3, g4, g6⟩
      · omega
      · have hst := s.loc hz g1 (by rintro es' e'; rw [e'] at hmap; cases hmap)
        have hA : A = lc.at k j := by rcases g6 with g6 | g6; exact g6; omega
        subst hA
        have hrun : (Instr.indexAt t (a.eval x) (a.eval y)).run P w = .ok (.pointer (some ((lc.at k j).add (i.toNat * es)))) w := by
          simp [Instr.indexAt, asIntOf, run_underlying ht, g2, h2, b1, b2, run_sizeOf hi', hs']
        exact OpOK.pure s (by simp [execOp, ho, hrun]; rfl) ⟨lc, g1, by rw [← hst, stepTo_at]⟩
    · cases h
  · cases h
theorem ok_iaa {t e : TypeId} {n es : Nat} {x y : Operand} {c d : CX} (ho : o.op = .indexAddr t x y) (ht : P.underlying t = some (.array n e)) (hs : szOf P e = some es) (hx : opd x = some c) (hy : opd y = some d) (he : Ev μ ev a) (s : Sat μ H w) (h : cstep ev H (.iaa n es c d) = some (v, H', true)) : OpOK P o a μ H w v H' := by
  have h1 := he x c hx
  have h2 := he y d hy
  obtain ⟨i', hi', hs'⟩ := szOf_spec hs
  simp only [cstep] at h
  split at h
  · rename_i b k j q i e1 e2
    simp only [Option.some.injEq, Prod.mk.injEq, Bool.and_eq_true, decide_eq_true_eq] at h
    obtain ⟨rfl, rfl, b1, b2⟩ := h
    rw [e1] at h1
    rw [e2] at h2
    obtain ⟨lc, g1, g2⟩ := h1
    simp only [VRel] at h2
    have hrun : (Instr.indexAt t (a.eval x) (a.eval y)).run P w = .ok (.pointer (some ((lc.at k j).add (i.toNat * es)))) w := by
      simp [Instr.indexAt, asIntOf, run_underlying ht, Instr.sureAddr, g2, h2, b1, b2, run_sizeOf hi', hs']
    exact OpOK.pure s (by simp [execOp, ho, hrun]; rfl) ⟨lc, g1, by simp [at_eq, Addr.add_mid, Nat.add_assoc]⟩
  · cases h
/-- A call of a builtin, its arguments' values. -/
theorem run_builtin {b : Builtin} {args : Array Operand} {ts : Array TypeId} (ho : o.op = .call { callee := .builtin b, args := args, argTypes := ts }) {r : Next} {w' : World}
    (h : (builtin b ts o.type (args.map fun | .const _ => true | _ => false) (args.map a.eval)).run P w = .ok r w') : (execOp a.eval o).run P w = .ok r w' := by
  simp only [execOp, ho, resolve, Sem.run_bind, Sem.run_pure, Result.andThen_ok, invoke]
  exact h
theorem ok_lens {t e : TypeId} {x : Operand} {c : CX} (ho : o.op = .call { callee := .builtin .len, args := #[x], argTypes := #[t] }) (ht : P.underlying t = some (.slice e)) (hx : opd x = some c) (he : Ev μ ev a) (s : Sat μ H w)
    (h : cstep ev H (.lens c) = some (v, H', true)) : OpOK P o a μ H w v H' := by
  have h1 := he x c hx
  simp only [cstep] at h
  have key : ∀ n : Nat, (Builtin.len_ #[t] o.type #[a.eval x]).run P w = .ok (goInt n) w → v = .int .i64 n → H' = H → OpOK P o a μ H w v H' := by
    rintro n hn rfl rfl
    refine OpOK.pure (x := goInt n) s (run_builtin ho ?_) rfl
    simp [builtin, hn]
  split at h
  · rename_i b k j n c0 ex e1
    cases h
    rw [e1] at h1
    obtain ⟨lc, A, c', g1, g2, _⟩ := h1
    exact key n (by simp [Builtin.len_, run_underlying ht, g2]) rfl rfl
  · rename_i b k j n c0 e1
    cases h
    rw [e1] at h1
    rcases h1 with ⟨h1, rfl, rfl⟩ | ⟨lc, A, c', g1, g2, _⟩
    · exact key 0 (by simp [Builtin.len_, run_underlying ht, h1]) rfl rfl
    · exact key n (by simp [Builtin.len_, run_underlying ht, g2]) rfl rfl
  · rename_i e1
    cases h
    rw [e1] at h1
    simp only [VRel] at h1
    exact key 0 (by simp [Builtin.len_, run_underlying ht, h1]) rfl rfl
  · cases h
theorem ok_lenb {t : TypeId} {x : Operand} {c : CX} (ho : o.op = .call { callee := .builtin .len, args := #[x], argTypes := #[t] }) (ht : P.underlying t = some .string) (hx : opd x = some c) (he : Ev μ ev a) (s : Sat μ H w)
    (h : cstep ev H (.lenb c) = some (v, H', true)) : OpOK P o a μ H w v H' := by
  have h1 := he x c hx
  simp only [cstep] at h
  split at h
  · rename_i q e1
    cases h
    rw [e1] at h1
    simp only [VRel] at h1
    have hn : (Builtin.len_ #[t] o.type #[a.eval x]).run P w = .ok (goInt q.size) w := by simp [Builtin.len_, run_underlying ht, h1]
    refine OpOK.pure (x := goInt q.size) s (run_builtin ho ?_) rfl
    simp [builtin, hn]
  · cases h
theorem ok_lenn {t e : TypeId} {n : Nat} {x : Operand} (ho : o.op = .call { callee := .builtin .len, args := #[x], argTypes := #[t] }) (ht : P.underlying t = some (.array n e)) (s : Sat μ H w) : OpOK P o a μ H w (.int .i64 n) H := by
  refine OpOK.pure (x := goInt n) s (run_builtin ho ?_) rfl
  have : (Builtin.len_ #[t] o.type #[a.eval x]).run P w = .ok (goInt n) w := by
    unfold Builtin.len_
    simp only [List.getElem?_toArray, List.getElem?_cons_zero, Sem.run_bind, run_underlying ht, Result.andThen_ok]
    cases a.eval x <;> rfl
  simp [builtin, this]
theorem ok_mm {mx : Bool} {x y : Operand} {ts : Array TypeId} {c d : CX} (ho : o.op = .call { callee := .builtin (if mx then .max else .min), args := #[x, y], argTypes := ts }) (hx : opd x = some c) (hy : opd y = some d) (he : Ev μ ev a) (s : Sat μ H w) (h : cstep ev H (.mm mx c d) = some (v, H', true)) : OpOK P o a μ H w v H' := by
  have h1 := he x c hx
  have h2 := he y d hy
  simp only [cstep] at h
  split at h
  · rename_i k m k' n e1 e2
    rw [e1] at h1
    rw [e2] at h2
    simp only [VRel] at h1 h2
    cases mx
    · simp only [cond_false, Option.some.injEq, Prod.mk.injEq, decide_eq_true_eq] at h
      obtain ⟨rfl, rfl, rfl⟩ := h
      exact OpOK.pure (x := .int k (if n < m then n else m)) s (run_builtin ho (by simp [builtin, Builtin.min_, Builtin.min2, h1, h2])) rfl
    · simp only [cond_true, Option.some.injEq, Prod.mk.injEq, decide_eq_true_eq] at h
      obtain ⟨rfl, rfl, rfl⟩ := h
      exact OpOK.pure (x := .int k (if n > m then n else m)) s (run_builtin ho (by simp [builtin, Builtin.max_, Builtin.max2, h1, h2])) rfl
  · cases h
theorem spl_set {t : IntKind} {st k : Nat} : ∀ (zs : List Int) (j : Nat) (xs : List Int), k + j + zs.length ≤ xs.length → AC.upds st k (zs.map (AV.int t)) j (.ints t xs) = some (.ints t (spl xs (k + j) zs))
  | [], j, xs, _ => by simp [AC.upds, spl]
  | z :: zs, j, xs, h => by
    simp only [List.length_cons] at h
    simp only [List.map_cons, AC.upds, AC.upd, decide_true, cond_true]
    rw [spl_set zs (j + 1) (xs.set (k + j) z) (by simp; omega)]
    refine congrArg some (congrArg (AC.ints t) ?_)
    have hx : xs.set (k + j) z = (xs.take (k + j) ++ [z]) ++ xs.drop (k + j + 1) := by
      rw [List.set_eq_take_append_cons_drop, if_pos (by omega)]; simp
    have hl : (xs.take (k + j) ++ [z]).length = k + (j + 1) := by simp; omega
    unfold spl
    rw [hx, List.take_left' hl, ← hl, ← List.drop_drop, List.drop_left, List.drop_drop]
    simp only [List.append_assoc, List.cons_append, List.nil_append, List.length_cons]
    rw [show k + j + 1 + zs.length = k + j + (zs.length + 1) by omega]
theorem copInts_ok {q q2 q' : ABlk} {k j k2 j2 m : Nat} (h : copInts q q2 k j k2 j2 m = some (q', true)) : ∃ c', q' = { q with c := c' } ∧ q.own = true ∧ q.c.inbs q.st k j m = true ∧ q2.c.inbs q2.st k2 j2 m = true ∧ AC.upds q.st k (q2.c.vals q2.st k2 j2 m) j q.c = some c' ∧ ∀ es, q.c ≠ .map es := by
  unfold copInts at h
  split at h
  · rename_i t xs t2 ys e1 e2
    simp only [Option.some.injEq, Prod.mk.injEq, Bool.and_eq_true, decide_eq_true_eq] at h
    obtain ⟨rfl, ⟨⟨⟨⟨rfl, h1⟩, h2⟩, h3⟩, h4⟩, h5⟩ := h
    refine ⟨_, rfl, h3, ?_, ?_, ?_, by rw [e1]; intro es e; cases e⟩
    · rw [e1]; unfold AC.inbs
      rw [List.all_eq_true]
      intro i hi
      simp only [List.mem_range] at hi
      simp [AC.inb, h1]; omega
    · rw [e2]; unfold AC.inbs
      rw [List.all_eq_true]
      intro i hi
      simp only [List.mem_range] at hi
      simp [AC.inb, h2]; omega
    · have hv : AC.vals q2.st (.ints t ys) k2 j2 m = ((ys.drop (k2 + j2)).take m).map (AV.int t) := by
        unfold AC.vals
        refine List.ext_getElem? fun i => ?_
        simp only [List.getElem?_map, List.getElem?_take, List.getElem?_drop]
        by_cases c : i < m
        · rw [List.getElem?_range c, if_pos c]
          have : k2 + (j2 + i) < ys.length := by omega
          simp [AC.val, List.getD_eq_getElem?_getD, ← Nat.add_assoc]
          rw [List.getElem?_eq_getElem (by omega)]
          simp
        · rw [List.getElem?_eq_none (by simp; omega), if_neg c]; rfl
      rw [e1, e2, hv]
      exact spl_set _ _ _ (by simp; omega)
  · cases h
theorem ok_cop {t tx e : TypeId} {x y : Operand} {c d : CX} {hint : Nat} (ho : o.op = .call { callee := .builtin .copy, args := #[x, y], argTypes := #[t, tx] }) (ht : P.underlying t = some (.slice e)) (hs : szOf P e = some 1) (hx : opd x = some c) (hy : opd y = some d) (he : Ev μ ev a) (s : Sat μ H w)
    (h : cstep ev H (.cop hint c d) = some (v, H', true)) : OpOK P o a μ H w v H' := by
  have h1 := he x c hx
  have h2 := he y d hy
  have hsz : (P.info? e).map (·.size) = some 1 := hs
  have hrun : ∀ r w', (Builtin.copy_ #[t, tx] o.type #[a.eval x, a.eval y]).run P w = .ok r w' → (execOp a.eval o).run P w = .ok (.value r) w' := by
    intro r w' hr
    simp only [execOp, ho, resolve, Sem.run_bind, Sem.run_pure, Result.andThen_ok, invoke, builtin]
    simp [hr]
  have none_ : ∀ (p q : Option Addr) (n c0 n2 c2 : Nat), a.eval x = .slice p n c0 → a.eval y = .slice q n2 c2 → Nat.min n2 n = 0 → OpOK P o a μ H w (.int .i64 0) H := by
    intro p q n c0 n2 c2 g1 g2 g3
    refine OpOK.pure (x := goInt 0) s (hrun _ _ ?_) rfl
    rw [g1, g2]
    exact run_copy_none w t tx o.type e p q n c0 n2 c2 ht hsz g3
  have big : ∀ (b k j n : Nat) (q q2 q' : ABlk) (b2 k2 j2 n2 : Nat) (l l2 : Loc) (A A2 : Addr) (c' c2' : Nat), H.get b = some q → H.get b2 = some q2 → μ b = some l → μ b2 = some l2 → a.eval x = .slice (some A) n c' → a.eval y = .slice (some A2) n2 c2' →
      (0 < n → A = l.at k j) → (0 < n2 → A2 = l2.at k2 j2) → copInts q q2 k j k2 j2 (Nat.min n2 n) = some (q', true) → OpOK P o a μ H w (.int .i64 (Nat.min n2 n : Nat)) (H.set b q') := by
    intro b k j n q q2 q' b2 k2 j2 n2 l l2 A A2 c' c2' hq hq2 p1 r1 p2 r2 p6 r6 hci
    obtain ⟨c'', rfl, hown, hin, hin2, hu, hmap⟩ := copInts_ok hci
    have hm1 : Nat.min n2 n ≤ n := Nat.min_le_right _ _
    have hm2 : Nat.min n2 n ≤ n2 := Nat.min_le_left _ _
    obtain ⟨us, u1, u2, u3, u4⟩ := s.reads hq2 r1 hin2
    obtain ⟨m1, m2, m3⟩ := s.stores hq p1 hown (vs := q2.c.vals q2.st k2 j2 (Nat.min n2 n)) (by simpa [AC.vals] using hin) hmap hu u3 u4
    rcases Nat.eq_zero_or_pos (Nat.min n2 n) with e0 | e0
    · have hus : us = [] := List.eq_nil_of_length_eq_zero (by rw [u1, e0])
      subst hus
      refine ⟨_, goInt 0, _, _, hrun _ _ ?_, .inl rfl, by rw [e0]; rfl, m1, m2⟩
      rw [p2, r2]
      exact run_copy_none w t tx o.type e (some A) (some A2) n c' n2 c2' ht hsz e0
    · have hA := p6 (by omega)
      have hA2 := r6 (by omega)
      refine ⟨_, goInt (Nat.min n2 n), _, _, hrun _ _ ?_, .inl rfl, rfl, m1, m2⟩
      rw [p2, r2, hA, hA2]
      have := run_copy_cells (P := P) w t tx o.type e l.blk (l.off + k * l.st + j) n c' (l2.at k2 j2) n2 c2' us ht hsz (by rw [u1]) (fun i v hv => by
        have := u2 i v hv
        rw [at_eq, Addr.add_mid]
        simpa [Loc.at, Nat.add_assoc] using this) (fun i hi => (m3 i hi).1) (fun i hi => (m3 i hi).2) u4
      rw [u1] at this
      exact this
  simp only [cstep] at h
  split at h
  · rename_i b k j n c0 ex b2 k2 j2 n2 c2 ex2 e1 e2
    rw [e1] at h1
    rw [e2] at h2
    obtain ⟨l, A, c', p1, p2, p3, p4, p5, p6, p7⟩ := h1
    obtain ⟨l2, A2, c2', r1, r2, r3, r4, r5, r6, r7⟩ := h2
    split at h
    · rename_i q q2 hq hq2
      split at h
      · rename_i q' ok hci
        simp only [Option.some.injEq, Prod.mk.injEq] at h
        obtain ⟨rfl, rfl, rfl⟩ := h
        exact big b k j n q q2 q' b2 k2 j2 n2 l l2 A A2 c' c2' hq hq2 p1 r1 p2 r2 (fun h0 => p6.resolve_right (by omega)) (fun h0 => r6.resolve_right (by omega)) hci
      rcases hz : Nat.beq (Nat.min n2 n) 0 with _ | _
      · rw [hz] at h
        simp only [cond_false] at h
        have hpos : 0 < Nat.min n2 n := by
          rcases Nat.eq_zero_or_pos (Nat.min n2 n) with e0 | e0
          · rw [e0] at hz; cases hz
          · exact e0
        have hm1 : Nat.min n2 n ≤ n := Nat.min_le_right _ _
        have hm2 : Nat.min n2 n ≤ n2 := Nat.min_le_left _ _
        split at h
        · rename_i c'' hu
          simp only [Option.some.injEq, Prod.mk.injEq, Bool.and_eq_true] at h
          obtain ⟨rfl, rfl, ⟨hown, hin⟩, hin2⟩ := h
          have hA : A = l.at k j := p6.resolve_right (by omega)
          have hA2 : A2 = l2.at k2 j2 := r6.resolve_right (by omega)
          obtain ⟨us, u1, u2, u3, u4⟩ := s.reads hq2 r1 hin2
          have hmap : ∀ es, q.c ≠ .map es := by
            have : q.c.inb q.st k j = true := by
              obtain ⟨m, hm⟩ : ∃ m, Nat.min n2 n = m + 1 := ⟨Nat.min n2 n - 1, by omega⟩
              rw [hm] at hin
              exact (AC.inbs_succ hin).1
            exact AC.not_map this
          obtain ⟨m1, m2, m3⟩ := s.stores hq p1 hown (vs := q2.c.vals q2.st k2 j2 (Nat.min n2 n)) (by simpa [AC.vals] using hin) hmap hu u3 u4
          refine ⟨_, goInt (Nat.min n2 n), _, _, hrun _ _ ?_, .inl rfl, rfl, m1, m2⟩
          rw [p2, r2, hA, hA2]
          have := run_copy_cells (P := P) w t tx o.type e l.blk (l.off + k * l.st + j) n c' (l2.at k2 j2) n2 c2' us ht hsz (by rw [u1]) (fun i v hv => by
            have := u2 i v hv
            rw [at_eq, Addr.add_mid]
            simpa [Loc.at, Nat.add_assoc] using this) (fun i hi => (m3 i hi).1) (fun i hi => (m3 i hi).2) u4
          rw [u1] at this
          exact this
        · cases h
      · rw [hz] at h
        simp only [cond_true, Option.some.injEq, Prod.mk.injEq] at h
        obtain ⟨rfl, rfl, _⟩ := h
        exact none_ _ _ _ _ _ _ p2 r2 (Nat.eq_of_beq_eq_true hz)
    · cases h
  · rename_i b k j n c0 ex b2 k2 j2 n2 c2 e1 e2
    rw [e1] at h1
    rw [e2] at h2
    obtain ⟨l, A, c', p1, p2, p3, p4, p5, p6, p7⟩ := h1
    split at h
    · rename_i q q2 hq hq2
      split at h
      · rename_i q' ok hci
        simp only [Option.some.injEq, Prod.mk.injEq] at h
        obtain ⟨rfl, rfl, rfl⟩ := h
        rcases h2 with ⟨h2, rfl, rfl⟩ | ⟨l2, A2, c2', r1, r2, r3, r4, r6⟩
        · obtain ⟨l2, r1, _⟩ := s.blk b2 q2 hq2
          obtain ⟨c'', rfl, hown, hin, hin2, hu, hmap⟩ := copInts_ok hci
          have e0 : Nat.min 0 n = 0 := Nat.zero_min _
          rw [e0] at hu hin ⊢
          obtain ⟨m1, m2, m3⟩ := s.stores (us := []) hq p1 hown (vs := q2.c.vals q2.st k2 j2 0) (by simpa [AC.vals] using hin) hmap hu trivial (by simp)
          refine ⟨_, goInt 0, _, _, hrun _ _ ?_, .inl rfl, rfl, m1, m2⟩
          rw [p2, h2]
          exact run_copy_none w t tx o.type e (some A) none n c' 0 0 ht hsz e0
        · exact big b k j n q q2 q' b2 k2 j2 n2 l l2 A A2 c' c2' hq hq2 p1 r1 p2 r2 (fun h0 => p6.resolve_right (by omega)) (fun h0 => r6.resolve_right (by omega)) hci
      · cases h
    · cases h
  · rename_i e1 e2
    rw [e1] at h1
    rw [e2] at h2
    simp only [Option.some.injEq, Prod.mk.injEq] at h
    obtain ⟨rfl, rfl, _⟩ := h
    exact none_ _ _ _ _ _ _ h1 h2 (Nat.min_zero _)
  · rename_i e1 e2
    rw [e1] at h1
    rw [e2] at h2
    obtain ⟨l2, A2, c2', r1, r2, r3⟩ := h2
    simp only [Option.some.injEq, Prod.mk.injEq] at h
    obtain ⟨rfl, rfl, _⟩ := h
    exact none_ _ _ _ _ _ _ h1 r2 (Nat.min_zero _)
  · rename_i e1 e2
    rw [e1] at h1
    rw [e2] at h2
    obtain ⟨l, A, c', p1, p2, p3⟩ := h1
    simp only [Option.some.injEq, Prod.mk.injEq] at h
    obtain ⟨rfl, rfl, _⟩ := h
    exact none_ _ _ _ _ _ _ p2 h2 (Nat.zero_min _)
  · cases h
end
end Go.Eng
