/- The engine, fourth part: the model does what the engine's operations do. -/
import Derived.Test.YtieikjgfndojpaaGreatEn02
import Derived.Laws.Slices
import Derived.Laws.Small
namespace Go.Eng
open Go Go.RowKit
set_option linter.unusedVariables false
set_option linter.unusedSimpArgs false
theorem eqk_in {P : Program} {t : TypeId} {x y : Operand} {q : EK} {p r : AV} {u v : Value} {b : Bool} {μ : Mu} (hq : ekOf P t x y = some q) (h : eqk q p r = some b) (hu : VRel μ p u) (hv : VRel μ r v) (w : World) (d : Nat) :
    (Op.equalIn (d + 1) t u v).run P w = .ok b w := by
  unfold eqk at h
  split at h <;> first
    | (cases h; done)
    | skip
  all_goals
    cases h
    simp only [VRel] at hu hv
    unfold ekOf at hq
    split at hq <;> first
      | (cases hq; done)
      | skip
    rename_i ht
    first
      | subst hu
      | (obtain ⟨_, _, rfl⟩ := hu)
      | (obtain ⟨_, _, _, _, rfl, _⟩ := hu)
      | (obtain ⟨_, _, rfl, _, _⟩ := hu)
      | (obtain ⟨_, rfl, _⟩ := hu)
    first
      | subst hv
      | (obtain ⟨_, _, rfl⟩ := hv)
      | (obtain ⟨_, _, _, _, rfl, _⟩ := hv)
      | (obtain ⟨_, _, rfl, _, _⟩ := hv)
      | (obtain ⟨_, rfl, _⟩ := hv)
    simp [Op.equalIn, run_underlying ht]
theorem eqk_guard {P : Program} {t : TypeId} {x y : Operand} {q : EK} {p r : AV} {u v : Value} {b : Bool} {μ : Mu} (hq : ekOf P t x y = some q) (h : eqk q p r = some b) (hu : VRel μ p u) (hv : VRel μ r v) (w : World) (op : BinOp) :
    (eqGuard op t x y u v).run P w = .ok () w := by
  unfold eqk at h
  split at h <;> first
    | (cases h; done)
    | skip
  all_goals
    cases h
    simp only [VRel] at hu hv
    first
      | subst hu
      | (obtain ⟨_, _, rfl⟩ := hu)
      | (obtain ⟨_, _, _, _, rfl, _⟩ := hu)
      | (obtain ⟨_, _, rfl, _, _⟩ := hu)
      | (obtain ⟨_, rfl, _⟩ := hu)
    first
      | subst hv
      | (obtain ⟨_, _, rfl⟩ := hv)
      | (obtain ⟨_, _, _, _, rfl, _⟩ := hv)
      | (obtain ⟨_, _, rfl, _, _⟩ := hv)
      | (obtain ⟨_, rfl, _⟩ := hv)
    first
      | (cases op <;> simp [eqGuard]; done)
      | (unfold ekOf at hq
         split at hq <;> first
           | (cases hq; done)
           | skip
         simp only [Option.some.injEq, EK.ifc.injEq] at hq
         split at hq <;> first
           | (cases hq; done)
           | (cases op <;> simp [eqGuard]))
section
variable {P : Program} {o : Oper} {a : Act} {μ : Mu} {H H' : AH} {w : World} {ev : CX → AV} {v : AV}
abbrev Ev (μ : Mu) (ev : CX → AV) (a : Act) : Prop := ∀ x c, opd x = some c → VRel μ (ev c) (a.eval x)
theorem ok_mv {x : Operand} {c : CX} (ho : o.op = .move x ∨ o.op = .assign x) (hx : opd x = some c) (he : Ev μ ev a) (s : Sat μ H w) : OpOK P o a μ H w (ev c) H := by
  refine OpOK.pure (x := a.eval x) s ?_ (he x c hx)
  rcases ho with ho | ho <;> simp [execOp, ho]
theorem ok_pick {x y z : Operand} {c d e : CX} (ho : o.op = .pick x y z) (hx : opd x = some c) (hy : opd y = some d) (hz : opd z = some e) (he : Ev μ ev a) (s : Sat μ H w) (h : cpick (ev c) (ev d) (ev e) = some v) : OpOK P o a μ H w v H := by
  have h1 := he x c hx
  have h2 := he y d hy
  have h3 := he z e hz
  unfold cpick at h
  split at h
  · rename_i p q r e1 e2 e3
    cases h
    rw [e1] at h1; rw [e2] at h2; rw [e3] at h3
    simp only [VRel] at h1 h2 h3
    refine OpOK.pure (x := if p then a.eval y else a.eval z) s ?_ ?_
    · simp [execOp, ho, h1, asBool]
    · simp only [VRel, h2, h3]; cases p <;> rfl
  · rename_i _ _ p e1 _
    cases h
    rw [e1] at h1
    simp only [VRel] at h1
    refine OpOK.pure (x := if p then a.eval y else a.eval z) s ?_ ?_
    · simp [execOp, ho, h1, asBool]
    · cases p
      · exact h3
      · exact h2
  · cases h
/-- The block of several cells. -/
theorem holds_cells {cs : List AV} {xs : List Value} (st : Nat) (h : VRels μ cs xs) (h1 : ∀ u ∈ xs, u.oneCell' = true) : Holds μ (.cells cs) st 0 xs.toArray := by
  refine ⟨(fun es e => by cases e), fun k j hk => ?_⟩
  simp only [AC.inb, decide_eq_true_eq] at hk
  have hl := h.len
  have hx : xs[k * st + j]? = some (xs[k * st + j]'(by omega)) := List.getElem?_eq_getElem _
  refine ⟨xs[k * st + j]'(by omega), by simp, ?_, h1 _ (List.getElem_mem _)⟩
  exact h.get _ _ hx
theorem ok_box {t : TypeId} {x : Operand} {c : CX} {cs : List AV} (ho : o.op = .box t x) (hx : opd x = some c) (he : Ev μ ev a) (s : Sat μ H w) (h : (ev c).cellsOf = some cs) :
    OpOK P o a μ H w (.ptr H.next 0 0) (H.push ⟨true, cs.length, .cells cs⟩) := by
  obtain ⟨h1, h2⟩ := AV.cellsOf_rel h (he x c hx)
  obtain ⟨q1, q2⟩ := s.alloc ⟨true, cs.length, .cells cs⟩ (a.eval x).cells t (by simpa using holds_cells cs.length h1 h2)
  refine ⟨_, .pointer (some ⟨w.heap.size, 0, none⟩), _, _, ?_, .inl rfl, ?_, q1, q2⟩
  · simp [execOp, ho, Instr.box, newVar, newRow]
  · exact ⟨⟨w.heap.size, 0, cs.length, 0⟩, if_pos rfl, by simp [Loc.at]⟩
theorem zeroOf_spec {t : TypeId} {z : List AV} (h : zeroOf P t = some z) (μ : Mu) : ∃ i zv, P.info? t = some i ∧ i.zero = some zv ∧ VRels μ z zv.cells.toList ∧ ∀ u ∈ zv.cells.toList, u.oneCell' = true := by
  unfold zeroOf at h
  split at h
  · rename_i i hi
    split at h
    · rename_i zv hz
      split at h
      · rename_i b hb
        obtain ⟨h1, h2⟩ := AV.cellsOf_rel h (AV.ofV_rel hb μ)
        exact ⟨i, zv, hi, hz, h1, h2⟩
      · cases h
    · cases h
  · cases h
theorem ok_alloc {t : TypeId} {z : List AV} (ho : o.op = .alloc t) (hz : zeroOf P t = some z) (s : Sat μ H w) : OpOK P o a μ H w (.ptr H.next 0 0) (H.push ⟨true, z.length, .cells z⟩) := by
  obtain ⟨i, zv, h1, h2, h3, h4⟩ := zeroOf_spec hz μ
  obtain ⟨q1, q2⟩ := s.alloc ⟨true, z.length, .cells z⟩ zv.cells t (by simpa using holds_cells z.length h3 h4)
  refine ⟨_, .pointer (some ⟨w.heap.size, 0, none⟩), _, _, ?_, .inl rfl, ?_, q1, q2⟩
  · simp [execOp, ho, Instr.alloc, newVar, newRow, zeroValue, typeInfo, h1, h2]
  · exact ⟨⟨w.heap.size, 0, z.length, 0⟩, if_pos rfl, by simp [Loc.at]⟩
theorem aggSz_spec {t : TypeId} {sz : Option Nat} (h : aggSz P t = some sz) : ∃ d i, P.underlying t = some d ∧ P.info? t = some i ∧ ((d.isRow = true ∧ sz = some i.size) ∨ (d.isRow = false ∧ sz = none)) := by
  unfold aggSz at h
  split at h
  · rename_i d i h1 h2
    cases h
    refine ⟨d, i, h1, h2, ?_⟩
    cases d <;> simp [isRowB, TypeDesc.isRow]
  · cases h
theorem run_isAgg {t : TypeId} {d : TypeDesc} (h : P.underlying t = some d) (w : World) : (isAgg t).run P w = .ok d.isRow w := by
  unfold isAgg
  rw [Sem.run_bind, run_underlying h w]
  cases d <;> rfl
theorem at_eq (l : Loc) (k j : Nat) : l.at k j = ⟨l.blk, l.off + k * l.st + j, none⟩ := rfl
theorem ok_load {t : TypeId} {x : Operand} {c : CX} {sz : Option Nat} (ho : o.op = .load t x) (hx : opd x = some c) (hz : aggSz P t = some sz) (he : Ev μ ev a) (s : Sat μ H w) (h : cstep ev H (.load sz c) = some (v, H', true)) :
    OpOK P o a μ H w v H' := by
  obtain ⟨d, i, h1, h2, h3⟩ := aggSz_spec hz
  have hv := he x c hx
  simp only [cstep] at h
  split at h
  · rename_i b k j e1
    rw [e1] at hv
    obtain ⟨l, hl, hp⟩ := hv
    split at h
    · rename_i y hy
      split at h
      · simp only [Option.some.injEq, Prod.mk.injEq] at h
        obtain ⟨rfl, rfl, hi⟩ := h
        rcases h3 with ⟨_, hc⟩ | ⟨h3, _⟩
        · cases hc
        · obtain ⟨u, g1, g2, g3⟩ := s.read hy hl hi
          refine OpOK.pure (x := u) s ?_ g2
          simp [execOp, ho, hp, Instr.loadAt, Instr.sureAddr, loadVar, run_isAgg h1, h3, g1]
      · rename_i n
        simp only [Option.some.injEq, Prod.mk.injEq] at h
        obtain ⟨rfl, rfl, hi⟩ := h
        rcases h3 with ⟨h3, hc⟩ | ⟨_, hc⟩
        · cases hc
          obtain ⟨vs, g1, g2, g3, g4⟩ := s.reads hy hl hi
          refine OpOK.pure (x := .agg vs.toArray) s ?_ ⟨vs.toArray, rfl, by simpa using g3⟩
          have := run_loadAt_mid (P := P) w l.blk (l.off + k * l.st + j) t vs d (fun q u hu => by have := g2 q u hu; simpa [Loc.at, Nat.add_assoc] using this) h1 h3 (by simp [h2, g1])
          simp only [execOp, ho, hp, at_eq]
          simp [this]
        · cases hc
    · cases h
  · cases h
theorem ok_store {t : TypeId} {x y : Operand} {c d : CX} {sz : Nat} (ho : o.op = .store t x y) (hx : opd x = some c) (hy : opd y = some d) (hz : szOf P t = some sz) (he : Ev μ ev a) (s : Sat μ H w) (h : cstep ev H (.store sz c d) = some (v, H', true)) :
    OpOK P o a μ H w v H' := by
  have hv := he x c hx
  have hu := he y d hy
  simp only [cstep] at h
  split at h
  · rename_i b k j cs e1 e2
    rw [e1] at hv
    obtain ⟨l, hl, hp⟩ := hv
    obtain ⟨g1, g2⟩ := AV.cellsOf_rel e2 hu
    split at h
    · rename_i y' hy'
      split at h
      · rename_i c' hc'
        simp only [Option.some.injEq, Prod.mk.injEq, Bool.and_eq_true, Bool.not_eq_true'] at h
        obtain ⟨rfl, rfl, ⟨⟨hown, hsz⟩, hz0⟩, hin⟩ := h
        have hsz : cs.length = sz := Nat.eq_of_beq_eq_true hsz
        have hpos : 0 < cs.length := by
          rcases Nat.eq_zero_or_pos cs.length with e | e
          · rw [← hsz, e] at hz0; cases hz0
          · exact e
        have hmap : ∀ es, y'.c ≠ .map es := by
          have : y'.c.inb y'.st k j = true := by
            obtain ⟨m, hm⟩ : ∃ m, cs.length = m + 1 := ⟨cs.length - 1, by omega⟩
            rw [hm] at hin
            exact (AC.inbs_succ hin).1
          exact AC.not_map this
        obtain ⟨q1, q2, q3⟩ := s.stores hy' hl hown hin hmap hc' g1 g2
        have hi : (P.info? t).map (·.size) = some (a.eval y).cells.size := by
          have := g1.len
          simp only [szOf] at hz
          rw [hz]; simp at this; rw [← this, hsz]
        have hrun := run_storeAt_mid (P := P) w l.blk (l.off + k * l.st + j) t (a.eval y).cells (fun q hq => q3 q (by simpa using hq)) hi (Array.all_eq_true_iff_forall_mem.2 (fun u hu' => g2 u (by simpa using hu')))
        refine ⟨_, undef, _, μ, ?_, .inr ⟨rfl, rfl⟩, trivial, q1, q2⟩
        have : (Instr.storeAt t (.pointer (some (l.at k j))) (a.eval y)).run P w = .ok () (w.setCells l.blk (l.off + k * l.st + j) (a.eval y).cells.toList) := by
          rw [← hrun, at_eq]
          simp only [Instr.storeAt, Instr.sureAddr, Sem.run_bind, Sem.run_pure, Result.andThen_ok, storeVar]
          rfl
        simp only [execOp, ho, hp]
        simp [this]
      · cases h
    · cases h
  · cases h
theorem ok_nilc {x : Operand} {c : CX} (ho : o.op = .nilCheck x) (hx : opd x = some c) (he : Ev μ ev a) (s : Sat μ H w) (h : cstep ev H (.nilc c) = some (v, H', true)) : OpOK P o a μ H w v H' := by
  have hv := he x c hx
  simp only [cstep] at h
  split at h
  · rename_i b k j e1
    cases h
    rw [e1] at hv
    obtain ⟨l, hl, hp⟩ := hv
    exact OpOK.pure (x := a.eval x) s (by simp [execOp, ho, hp]) ⟨l, hl, hp⟩
  · cases h
theorem binv_run {op : BinOp} {p q r : AV} {x y : Value} (h : binv op p q = some (r, true)) (hx : VRel μ p x) (hy : VRel μ q y) (t : TypeId) (w : World) : ∃ z, (binOp op t x y).run P w = .ok z w ∧ VRel μ r z := by
  unfold binv at h
  split at h
  · rename_i k m k' n
    simp only [VRel] at hx hy
    subst hx; subst hy
    cases op <;> simp only [Option.some.injEq, Prod.mk.injEq, Bool.and_eq_true, decide_eq_true_eq, Bool.not_eq_true', beq_eq_false_iff_ne] at h <;> obtain ⟨rfl, hk⟩ := h
    case quo => obtain ⟨hk, hn⟩ := hk; subst hk; exact ⟨_, by simp [binOp, Op.intDiv, hn], rfl⟩
    case rem => obtain ⟨hk, hn⟩ := hk; subst hk; exact ⟨_, by simp [binOp, Op.intDiv, hn], rfl⟩
    case shl => have hk' : ¬ n < 0 := by omega
                exact ⟨_, by simp [binOp, Op.shift, hk'], rfl⟩
    case shr => have hk' : ¬ n < 0 := by omega
                exact ⟨_, by simp [binOp, Op.shift, hk'], rfl⟩
    all_goals
      subst hk
      exact ⟨_, by simp [binOp, Op.intArith, Op.intCmp, Op.intBits, bits], rfl⟩
  · cases h
theorem ok_bin {op : BinOp} {t u : TypeId} {x y : Operand} {c d : CX} (ho : o.op = .binOp op t x y u) (hx : opd x = some c) (hy : opd y = some d) (he : Ev μ ev a) (s : Sat μ H w) (h : cstep ev H (.bin op c d) = some (v, H', true)) : OpOK P o a μ H w v H' := by
  have h1 := he x c hx
  have h2 := he y d hy
  simp only [cstep] at h
  split at h
  · rename_i r ok e
    cases h
    have hg : ∃ k n, a.eval x = .int k n := by
      unfold binv at e
      split at e
      · rename_i k m k' n e1 e2
        rw [e1] at h1
        exact ⟨k, m, h1⟩
      · cases e
    obtain ⟨k, n, hg⟩ := hg
    obtain ⟨z, hz, hr⟩ := binv_run (P := P) e h1 h2 t w
    refine OpOK.pure (x := z) s ?_ hr
    have : eqGuard op t x y (a.eval x) (a.eval y) = pure () := by rw [hg]; exact eqGuard_at_int ..
    simp [execOp, ho, this, hz]
  · cases h
theorem ok_eq {op : BinOp} {t ut : TypeId} {x y : Operand} {c d : CX} {q : EK} {neg : Bool} (ho : o.op = .binOp op t x y ut) (hop : (op = .eql ∧ neg = false) ∨ (op = .neq ∧ neg = true)) (hx : opd x = some c) (hy : opd y = some d) (hq : ekOf P t x y = some q) (he : Ev μ ev a) (s : Sat μ H w) (h : cstep ev H (.eq neg q c d) = some (v, H', true)) : OpOK P o a μ H w v H' := by
  have h1 := he x c hx
  have h2 := he y d hy
  simp only [cstep] at h
  split at h
  · rename_i b e
    cases h
    have hg := eqk_guard hq e h1 h2 w op
    have hr : (Op.equal t (a.eval x) (a.eval y)).run P w = .ok b w := eqk_in hq e h1 h2 w 9999
    have hb : binOp op t (a.eval x) (a.eval y) = (Op.equal t (a.eval x) (a.eval y) >>= fun r => pure (.bool (bif neg then !r else r))) := by
      clear hg hr
      unfold eqk at e
      split at e <;> first
        | (cases e; done)
        | skip
      all_goals
        rename_i g1 g2
        rw [g1] at h1
        rw [g2] at h2
        simp only [VRel] at h1 h2
        first
          | rw [h1]
          | (obtain ⟨_, _, g⟩ := h1; rw [g])
          | (obtain ⟨_, _, _, _, g, _⟩ := h1; rw [g])
          | (obtain ⟨_, _, g, _, _⟩ := h1; rw [g])
          | (obtain ⟨_, g, _⟩ := h1; rw [g])
        first
          | rw [h2]
          | (obtain ⟨_, _, g⟩ := h2; rw [g])
          | (obtain ⟨_, _, _, _, g, _⟩ := h2; rw [g])
          | (obtain ⟨_, _, g, _, _⟩ := h2; rw [g])
          | (obtain ⟨_, g, _⟩ := h2; rw [g])
        rcases hop with ⟨rfl, rfl⟩ | ⟨rfl, rfl⟩ <;> rfl
    refine OpOK.pure (x := .bool (bif neg then !b else b)) s ?_ rfl
    simp only [execOp, ho, Sem.run_bind, hg, Result.andThen_ok, hb]
    cases neg <;> simp [hr]
  · cases h
theorem ok_un {op : UnOp} {t : TypeId} {x : Operand} {c : CX} (ho : o.op = .unOp op t x) (hx : opd x = some c) (he : Ev μ ev a) (s : Sat μ H w) (h : cstep ev H (.un op c) = some (v, H', true)) : OpOK P o a μ H w v H' := by
  have h1 := he x c hx
  simp only [cstep] at h
  split at h
  · rename_i r e
    cases h
    unfold unv at e
    split at e
    · rename_i k n e1
      rw [e1] at h1
      simp only [VRel] at h1
      split at e
      · cases e; exact OpOK.pure (x := .int k (k.wrap (0 - n))) s (by simp [execOp, ho, h1, Op.unary, Op.intArith]) rfl
      · cases e; exact OpOK.pure (x := .int k (bits .xor k (if k.signed then -1 else k.max) n)) s (by simp [execOp, ho, h1, Op.unary, Op.intBits, bits]) rfl
      · cases e
    · rename_i b e1
      rw [e1] at h1
      simp only [VRel] at h1
      split at e
      · cases e; exact OpOK.pure (x := .bool (!b)) s (by simp [execOp, ho, h1, Op.unary]) rfl
      · cases e
    · cases e
  · cases h
theorem ok_conv {t u : TypeId} {q k : IntKind} {x : Operand} {c : CX} (ho : o.op = .convert t u x) (ht : P.underlying t = some (.int q)) (hu : P.underlying u = some (.int k)) (hx : opd x = some c) (he : Ev μ ev a) (s : Sat μ H w) (h : cstep ev H (.conv k c) = some (v, H', true)) :
    OpOK P o a μ H w v H' := by
  have h1 := he x c hx
  simp only [cstep] at h
  split at h
  · rename_i r n e1
    cases h
    rw [e1] at h1
    simp only [VRel] at h1
    exact OpOK.pure (x := .int k (k.wrap n)) s (by simp [execOp, ho, h1, convert, run_underlying ht, run_underlying hu, Conv.intToInt]) rfl
  · cases h
end
end Go.Eng
