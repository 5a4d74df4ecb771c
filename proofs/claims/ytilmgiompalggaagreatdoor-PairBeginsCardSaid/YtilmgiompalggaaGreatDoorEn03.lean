/- The engine, fourth part: the model does what the engine's operations do. -/
import Derived.Test.YtilmgiompalggaaGreatDoorEn02
import Derived.Laws.Slices
import Derived.Laws.Small
namespace Go.Eng
open Go Go.RowKit
set_option linter.unusedVariables false
set_option linter.unusedSimpArgs false
theorem eqk_in {P : Program} {t : TypeId} {x y : Operand} {q : EK} {p r : AV} {u v : Value} {b : Bool} {μ : Mu} (hq : ekOf P t x y = some q) (h : eqk q p r = some b) (hu : VRel μ p u) (hv : VRel μ r v) (w : World) (d : Nat) :
    (Op.equalIn (d + 1) t u v).run P w = .ok b w := by
  unfold eqk at h
  split at h <;> first
    | (cases h; done)
    | skip
  all_goals
    cases h
    simp only [VRel] at hu hv
    unfold ekOf at hq
    split at hq <;> first
      | (cases hq; done)
      | skip
    rename_i ht
    first
      | subst hu
      | (obtain ⟨_, _, rfl⟩ := hu)
      | (obtain ⟨_, _, _, _, rfl, _⟩ := hu)
      | (obtain ⟨_, _, rfl, _, _⟩ := hu)
      | (obtain ⟨_, rfl, _⟩ := hu)
    first
      | subst hv
      | (obtain ⟨_, _, rfl⟩ := hv)
      | (obtain ⟨_, _, _, _, rfl, _⟩ := hv)
      | (obtain ⟨_, _, rfl, _, _⟩ := hv)
      | (obtain ⟨_, rfl, _⟩ := hv)
    simp [Op.equalIn, run_underlying ht]
theorem eqk_guard {P : Program} {t : TypeId} {x y : Operand} {q : EK} {p r : AV} {u v : Value} {b : Bool} {μ : Mu} (hq : ekOf P t x y = some q) (h : eqk q p r = some b) (hu : VRel μ p u) (hv : VRel μ r v) (w : World) (op : BinOp) :
    (eqGuard op t x y u v).run P w = .ok () w := by
  unfold eqk at h
  split at h <;> first
    | (cases h; done)
    | skip
  all_goals
    cases h
    simp only [VRel] at hu hv
    first
      | subst hu
      | (obtain ⟨_, _, rfl⟩ := hu)
      | (obtain ⟨_, _, _, _, rfl, _⟩ := hu)
      | (obtain ⟨_, _, rfl, _, _⟩ := hu)
      | (obtain ⟨_, rfl, _⟩ := hu)
    first
      | subst hv
      | (obtain ⟨_, _, rfl⟩ := hv)
      | (obtain ⟨_, _, _, _, rfl, _⟩ := hv)
      | (obtain ⟨_, _, rfl, _, _⟩ := hv)
      | (obtain ⟨_, rfl, _⟩ := hv)
    first
      | (cases op <;> simp [eqGuard]; done)
      | (unfold ekOf at hq
         split at hq <;> first
           | (cases hq; done)
           | skip
         simp only [Option.some.injEq, EK.ifc.injEq] at hq
         split at hq <;> first
           | (cases hq; done)
           | (cases op <;> simp [eqGuard]))
section
variable {P : Program} {o : Oper} {a : Act} {μ : Mu} {H H' : AH} {w : World} {ev : CX → AV} {v : AV}
abbrev Ev (μ : Mu) (ev : CX → AV) (a : Act) : Prop := ∀ x c, opd x = some c → VRel μ (ev c) (a.eval x)
theorem ok_mv {x : Operand} {c : CX} (ho : o.op = .move x ∨ o.op = .assign x) (hx : opd x = some c) (he : Ev μ ev a) (s : Sat μ H w) : OpOK P o a μ H w (ev c) H := by
  refine OpOK.pure (x := a.eval x) s ?_ (he x c hx)
  rcases ho with ho | ho <;> simp [execOp, ho]
theorem ok_pick {x y z : Operand} {c d e : CX} (ho : o.op = .pick x y z) (hx : opd x = some c) (hy : opd y = some d) (hz : opd z = some e) (he : Ev μ ev a) (s : Sat μ H w) (h : cpick (ev c) (ev d) (ev e) = some v) : OpOK P o a μ H w v H := by
  have h1 := he x c hx
  have h2 := he y d hy
  have h3 := he z e hz
  unfold cpick at h
  split at h
  · rename_i p q r e1 e2 e3
    cases h
    rw [e1] at h1; rw [e2] at h2; rw [e3] at h3
    simp only [VRel] at h1 h2 h3
    refine OpOK.pure (x := if p then a.eval y else a.eval z) s ?_ ?_
    · simp [execOp, ho, h1, asBool]
    · simp only [VRel, h2, h3]; cases p <;> rfl
  · rename_i _ _ p e1 _
    cases h
    rw [e1] at h1
    simp only [VRel] at h1
    refine OpOK.pure (x := if p then a.eval y else a.eval z) s ?_ ?_
    · simp [execOp, ho, h1, asBool]
    · cases p
      · exact h3
      · exact h2
  · cases h
/-- The block of several cells. -/
theorem holds_cells {cs : List AV} {xs : List Value} (st : Nat) (h : VRels μ cs xs) (h1 : ∀ u ∈ xs, u.oneCell' = true) : Holds μ (.cells cs) st 0 xs.toArray := by
  refine ⟨(fun es e => by cases e), fun k j hk => ?_⟩
  simp only [AC.inb, decide_eq_true_eq] at hk
  have hl := h.len
  have hx : xs[k * st + j]? = some (xs[k * st + j]'(by omega)) := List.getElem?_eq_getElem _
  refine ⟨xs[k * st + j]'(by omega), by simp, ?_, h1 _ (List.getElem_mem _)⟩
  exact h.get _ _ hx
theorem ok_box {t : TypeId} {x : Operand} {c : CX} {cs : List AV} (ho : o.op = .box t x) (hx : opd x = some c) (he : Ev μ ev a) (s : Sat μ H w) (h : (ev c).cellsOf = some cs) :
    OpOK P o a μ H w (.ptr H.next 0 0) (H.push ⟨true, cs.length, .cells cs⟩) := by
  obtain ⟨h1, h2⟩ := AV.cellsOf_rel h (he x c hx)
  obtain ⟨q1, q2⟩ := s.alloc ⟨true, cs.length, .cells cs⟩ (a.eval x).cells t (by simpa using holds_cells cs.length h1 h2)
  refine ⟨_, .pointer (some ⟨w.heap.size, 0, none⟩), _, _, ?_, .inl rfl, ?_, q1, q2⟩
  · simp [execOp, ho, Instr.box, newVar, newRow]
  · exact ⟨⟨w.heap.size, 0, cs.length, 0⟩, if_pos rfl, by simp [Loc.at]⟩
theorem zeroOf_spec {t : TypeId} {z : List AV} (h : zeroOf P t = some z) (μ : Mu) : ∃ i zv, P.info? t = some i ∧ i.zero = some zv ∧ VRels μ z zv.cells.toList ∧ ∀ u ∈ zv.cells.toList, u.oneCell' = true := by
  unfold zeroOf at h
  split at h
  · rename_i i hi
    split at h
    · rename_i zv hz
      split at h
      · rename_i b hb
        obtain ⟨h1, h2⟩ := AV.cellsOf_rel h (AV.ofV_rel hb μ)
        exact ⟨i, zv, hi, hz, h1, h2⟩
      · cases h
    · cases h
  · cases h
theorem ok_alloc {t : TypeId} {z : List AV} (ho : o.op = .alloc t) (hz : zeroOf P t = some z) (s : Sat μ H w) : OpOK P o a μ H w (.ptr H.next 0 0) (H.push ⟨true, z.length, .cells z⟩) := by
  obtain ⟨i, zv, h1, h2, h3, h4⟩ := zeroOf_spec hz μ
  obtain ⟨q1, q2⟩ := s.alloc ⟨true, z.length, .cells z⟩ zv.cells t (by simpa using holds_cells z.length h3 h4)
  refine ⟨_, .pointer (some ⟨w.heap.size, 0, none⟩), _, _, ?_, .inl rfl, ?_, q1, q2⟩
  · simp [execOp, ho, Instr.alloc, newVar, newRow, zeroValue, typeInfo, h1, h2]
  · exact ⟨⟨w.heap.size, 0, z.length, 0⟩, if_pos rfl, by simp [Loc.at]⟩
theorem aggSz_spec {t : TypeId} {sz : Option Nat} (h : aggSz P t = some sz) : ∃ d i, P.underlying t = some d ∧ P.info? t = some i ∧ ((d.isRow = true ∧ sz = some i.size) ∨ (d.isRow = false ∧ sz = none)) := by
  unfold aggSz at h
  split at h
  · rename_i d i h1 h2
    cases h
    refine ⟨d, i, h1, h2, ?_⟩
    cases d <;> simp [isRowB, TypeDesc.isRow]
  · cases h
theorem run_isAgg {t : TypeId} {d : TypeDesc} (h : P.underlying t = some d) (w : World) : (isAgg t).run P w = .ok d.isRow w := by
  unfold isAgg
  rw [Sem.run_bind, run_underlying h w]
  cases d <;> rfl
theorem at_eq (l : Loc) (k j : Nat) : l.at k j = ⟨l.blk, l.off + k * l.st + j, none⟩ := rfl
theorem ok_load {t : TypeId} {x : Operand} {c : CX} {sz : Option Nat} (ho : o.op = .load t x) (hx : opd x = some c) (hz : aggSz P t = some sz) (he : Ev μ ev a) (s : Sat μ H w) (h : cstep ev H (.load sz c) = some (v, H', true)) :
    OpOK P o a μ H w v H' := by
  obtain ⟨d, i, h1, h2, h3⟩ := aggSz_spec hz
  have hv := he x c hx
  simp only [cstep] at h
  split at h
  · rename_i b k j e1
    rw [e1] at hv
    obtain ⟨l, hl, hp⟩ := hv
    split at h
    · rename_i y hy
      split at h
      · simp only [Option.some.injEq, Prod.mk.injEq] at h
        obtain ⟨rfl, rfl, hi⟩ := h
        rcases h3 with ⟨_, hc⟩ | ⟨h3, _⟩
        · cases hc
        · obtain ⟨u, g1, g2, g3⟩ := s.read hy hl hi
          refine OpOK.pure (x := u) s ?_ g2
          simp [execOp, ho, hp, Instr.loadAt, Instr.sureAddr, loadVar, run_isAgg h1, h3, g1]
      · rename_i n
        simp only [Option.some.injEq, Prod.mk.injEq] at h
        obtain ⟨rfl, rfl, hi⟩ := h
        rcases h3 with ⟨h3, hc⟩ | ⟨_, hc⟩
        · cases hc
          obtain ⟨vs, g1, g2, g3, g4⟩ := s.reads hy hl hi
          refine OpOK.pure (x := .agg vs.toArray) s ?_ ⟨vs.toArray, rfl, by simpa using g3⟩
          have := run_loadAt_mid (P := P) w l.blk (l.off + k * l.st + j) t vs d (fun q u hu => by have := g2 q u hu; simpa [Loc.at, Nat.add_assoc] using this) h1 h3 (by simp [h2, g1])
          simp only [execOp, ho, hp, at_eq]
          simp [this]
        · cases hc
    · cases h
  · cases h
theorem ok_store {t : TypeId} {x y : Operand} {c d : CX} {sz : Nat} (ho : o.op = .store t x y) (hx : opd x = some c) (hy : opd y = some d) (hz : szOf P t = some sz) (he : Ev μ ev a) (s : Sat μ H w) (h : cstep ev H (.store sz c d) = some (v, H', true)) :
    OpOK P o a μ H w v H' := by
  have hv := he x c hx
  have hu := he y d hy
  simp only [cstep] at h
  split at h
  · rename_i b k j cs e1 e2
    rw [e1] at hv
    obtain ⟨l, hl, hp⟩ := hv
    obtain ⟨g1, g2⟩ := AV.cellsOf_rel e2 hu
    split at h
    · rename_i y' hy'
      split at h
      · rename_i c' hc'
        simp only [Option.some.injEq, Prod.mk.injEq, Bool.and_eq_true, Bool.not_eq_true'] at h
        obtain ⟨rfl, rfl, ⟨⟨hown, hsz⟩, hz0⟩, hin⟩ := h
        have hsz : cs.length = sz := Nat.eq_of_beq_eq_true hsz
        have hpos : 0 < cs.length := by
          rcases Nat.eq_zero_or_pos cs.length with e | e
          · rw [← hsz, e] at hz0; cases hz0
          · exact e
        have hmap : ∀ es, y'.c ≠ .map es := by
          have : y'.c.inb y'.st k j = true := by
            obtain ⟨m, hm⟩ : ∃ m, cs.length = m + 1 := ⟨cs.length - 1, by omega⟩
            rw [hm] at hin
            exact (AC.inbs_succ hin).1
          exact AC.not_map this
        obtain ⟨q1, q2, q3⟩ := s.stores hy' hl hown hin hmap hc' g1 g2
        have hi : (P.info? t).map (·.size) = some (a.eval y).cells.size := by
          have := g1.len
          simp only [szOf] at hz
          rw [hz]; simp at this; rw [← this, hsz]
        have hrun := run_storeAt_mid (P := P) w l.blk (l.off + k * l.st + j) t (a.eval y).cells (fun q hq => q3 q (by simpa using hq)) hi (Array.all_eq_true_iff_forall_mem.2 (fun u hu' => g2 u (by simpa using hu')))
        refine ⟨_, undef, _, μ, ?_, .inr ⟨rfl, rfl⟩, trivial, q1, q2⟩
        have : (Instr.storeAt t (.pointer (some (l.at k j))) (a.eval y)).run P w = .ok () (w.setCells l.blk (l.off + k * l.st + j) (a.eval y).cells.toList) := by
          rw [← hrun, at_eq]
          simp only [Instr.storeAt, Instr.sureAddr, Sem.run_bind, Sem.run_pure, Result.andThen_ok, storeVar]
          rfl
        simp only [execOp, ho, hp]
        simp [this]
      · cases h
    · cases h
  · cases h
theorem ok_nilc {x : Operand} {c : CX} (ho : o.op = .nilCheck x) (hx : opd x = some c) (he : Ev μ ev a) (s : Sat μ H w) (h : cstep ev H (.nilc c) = some (v, H', true)) : OpOK P o a μ H w v H' := by
  have hv := he x c hx
  simp only [cstep] at h
  split at h
  · rename_i b k j e1
    cases h
    rw [e1] at hv
    obtain ⟨l, hl, hp⟩ := hv
    exact OpOK.pure (x := a.eval x) s (by simp [execOp, ho, hp]) ⟨l, hl, hp⟩
  · cases h
theorem binv_run {op : BinOp} {p q r : AV} {x y : Value} (h : binv op p q = some (r, true)) (hx : VRel μ p x) (hy : VRel μ q y) (t : TypeId) (w : World) : ∃ z, (binOp op t x y).run P w = .ok z w ∧ VRel μ r z := by
  unfold binv at h
  split at h
  · rename_i k m k' n
    simp only [VRel] at hx hy
    subst hx; subst hy
    cases op <;> simp only [Option.some.injEq, Prod.mk.injEq, Bool.and_eq_true, decide_eq_true_eq, Bool.not_eq_true', beq_eq_false_iff_ne] at h <;> obtain ⟨rfl, hk⟩ := h
    case quo => obtain ⟨hk, hn⟩ := hk; subst hk; exact ⟨_, by simp [binOp, Op.intDiv, hn], rfl⟩
    case rem => obtain ⟨hk, hn⟩ := hk; subst hk; exact ⟨_, by simp [binOp, Op.intDiv, hn], rfl⟩
    case shl => have hk' : ¬ n < 0 := by omega
                exact ⟨_, by simp [binOp, Op.shift, hk'], rfl⟩
    case shr => have hk' : ¬ n < 0 := by omega
                exact ⟨_, by simp [binOp, Op.shift, hk'], rfl⟩
    all_goals
      subst hk
      exact ⟨_, by simp [binOp, Op.intArith, Op.intCmp, Op.intBits, bits], rfl⟩
  · cases h
theorem ok_bin {op : BinOp} {t u : TypeId} {x y : Operand} {c d : CX} (ho : o.op = .binOp op t x y u) (hx : opd x = some c) (hy : opd y = some d) (he : Ev μ ev a) (s : Sat μ H w) (h : cstep ev H (.bin op c d) = some (v, H', true)) : OpOK P o a μ H w v H' := by
  have h1 := he x c hx
  have h2 := he y d hy
  simp only [cstep] at h
  split at h
  · rename_i r ok e
    cases h
    have hg : ∃ k n, a.eval x = .int k n := by
      unfold binv at e
      split at e
      · rename_i k m k' n e1 e2
        rw [e1] at h1
        exact ⟨k, m, h1⟩
      · cases e
    obtain ⟨k, n, hg⟩ := hg
    obtain ⟨z, hz, hr⟩ := binv_run (P := P) e h1 h2 t w
    refine OpOK.pure (x := z) s ?_ hr
    have : eqGuard op t x y (a.eval x) (a.eval y) = pure () := by rw [hg]; exact eqGuard_at_int ..
    simp [execOp, ho, this, hz]
  · cases h
theorem ok_eq {op : BinOp} {t ut : TypeId} {x y : Operand} {c d : CX} {q : EK} {neg : Bool} (ho : o.op = .binOp op t x y ut) (hop : (op = .eql ∧ neg = false) ∨ (op = .neq ∧ neg = true)) (hx : opd x = some c) (hy : opd y = some d) (hq : ekOf P t x y = some q) (he : Ev μ ev a) (s : Sat μ H w) (h : cstep ev H (.eq neg q c d) = some (v, H', true)) : OpOK P o a μ H w v H' := by
  have h1 := he x c hx
  have h2 := he y d hy
  simp only [cstep] at h
  split at h
  · rename_i b e
    cases h
    have hg := eqk_guard hq e h1 h2 w op
    have hr : (Op.equal t (a.eval x) (a.eval y)).run P w = .ok b w := eqk_in hq e h1 h2 w 9999
    have hb : binOp op t (a.eval x) (a.eval y) = (Op.equal t (a.eval x) (a.eval y) >>= fun r => pure (.bool (bif neg then !r else r))) := by
      clear hg hr
      unfold eqk at e
      split at e <;> first
        | (cases e; done)
        | skip
      all_goals
        rename_i g1 g2
        rw [g1] at h1
        rw [g2] at h2
        simp only [VRel] at h1 h2
        first
          | rw [h1]
          | (obtain ⟨_, _, g⟩ := h1; rw [g])
          | (obtain ⟨_, _, _, _, g, _⟩ := h1; rw [g])
          | (obtain ⟨_, _, g, _, _⟩ := h1; rw [g])
          | (obtain ⟨_, g, _⟩ := h1; rw [g])
        first
          | rw [h2]
          | (obtain ⟨_, _, g⟩ := h2; rw [g])
          | (obtain ⟨_, _, _, _, g, _⟩ := h2; rw [g])
          | (obtain ⟨_, _, g, _, _⟩ := h2; rw [g])
          | (obtain ⟨_, g, _⟩ := h2; rw [g])
        rcases hop with ⟨rfl, rfl⟩ | ⟨rfl, rfl⟩ <;> rfl
    refine OpOK.pure (x := .bool (bif neg then !b else b)) s ?_ rfl
    simp only [execOp, ho, Sem.run_bind, hg, Result.andThen_ok, hb]
    cases neg <;> simp [hr]
  · cases h
theorem ok_un {op : UnOp} {t : TypeId} {x : Operand} {c : CX} (ho : o.op = .unOp op t x) (hx : opd x = some c) (he : Ev μ ev a) (s : Sat μ H w) (h : cstep ev H (.un op c) = some (v, H', true)) : OpOK P o a μ H w v H' := by
  have h1 := he x c hx
  simp only [cstep] at h
  split at h
  · rename_i r e
    cases h
    unfold unv at e
    split at e
    · rename_i k n e1
      rw [e1] at h1
      simp only [VRel] at h1
      split at e
      · cases e; exact OpOK.pure (x := .int k (k.wrap (0 - n))) s (by simp [execOp, ho, h1, Op.unary, Op.intArith]) rfl
      · cases e; exact OpOK.pure (x := .int k (bits .xor k (if k.signed then -1 else k.max) n)) s (by simp [execOp, ho, h1, Op.unary, Op.intBits, bits]) rfl
      · cases e
    · rename_i b e1
      rw [e1] at h1
      simp only [VRel] at h1
      split at e
      · cases e; exact OpOK.pure (x := .bool (!b)) s (by simp [execOp, ho, h1, Op.unary]) rfl
      · cases e
    · cases e
  · cases h
theorem ok_conv {t u : TypeId} {q k : IntKind} {x : Operand} {c : CX} (ho : o.op = .convert t u x) (ht : P.underlying t = some (.int q)) (hu : P.underlying u = some (.int k)) (hx : opd x = some c) (he : Ev μ ev a) (s : Sat μ H w) (h : cstep ev H (.conv k c) = some (v, H', true)) :
    OpOK P o a μ H w v H' := by
  have h1 := he x c hx
  simp only [cstep] at h
  split at h
  · rename_i r n e1
    cases h
    rw [e1] at h1
    simp only [VRel] at h1
    exact OpOK.pure (x := .int k (k.wrap n)) s (by simp [execOp, ho, h1, convert, run_underlying ht, run_underlying hu, Conv.intToInt]) rfl
  · cases h
end
end Go.Eng
/- The engine, fifth part: the other operations. -/
namespace Go.Eng
open Go Go.RowKit
set_option linter.unusedVariables false
set_option linter.unusedSimpArgs false
section
variable {P : Program} {o : Oper} {a : Act} {μ : Mu} {H H' : AH} {w : World} {ev : CX → AV} {v : AV}
theorem setAll_rel {μ : Mu} : ∀ {vs : List AV} {us : List Value} (o : Nat) {cs : List AV} {xs : Array Value}, VRels μ vs us → VRels μ cs xs.toList → VRels μ (setAll cs o vs) (setFrom o us xs).toList
  | [], [], _, _, _, _, h => h
  | v :: vs, u :: us, o, cs, xs, h, h2 => by
    rw [setAll, setFrom]
    refine setAll_rel (o + 1) h.2 ?_
    rw [Array.toList_setIfInBounds]
    exact VRels.set h2 o h.1
  | [], _ :: _, _, _, _, q, _ => q.elim
  | _ :: _, [], _, _, _, q, _ => q.elim
theorem foldl_setFrom : ∀ (us : List Value) (off k : Nat) (cs : Array Value), ((us.zipIdx k).foldl (fun cs (p : Value × Nat) => cs.setIfInBounds (off + p.2) p.1) cs) = setFrom (off + k) us cs
  | [], _, _, _ => rfl
  | u :: us, off, k, cs => by
    simp only [List.zipIdx_cons, List.foldl_cons, setFrom]
    rw [foldl_setFrom us off (k + 1)]
    rfl
theorem setFrom_one : ∀ (us : List Value) (o : Nat) (C : Array Value), (∀ u ∈ us, u.oneCell' = true) → (∀ u ∈ C.toList, u.oneCell' = true) → ∀ u ∈ (setFrom o us C).toList, u.oneCell' = true
  | [], _, _, _, h => h
  | u :: us, o, C, h1, h2 => by
    rw [setFrom]
    refine setFrom_one us (o + 1) _ (fun x hx => h1 x (by simp [hx])) (fun x hx => ?_)
    rw [Array.toList_setIfInBounds] at hx
    rcases List.mem_or_eq_of_mem_set hx with hx | rfl
    · exact h2 x hx
    · exact h1 x (by simp)
theorem setFrom_len (us : List Value) (o : Nat) (C : Array Value) : (setFrom o us C).toList.length = C.size := by simp [setFrom_size]
theorem cfill_rel {place : Nat → Option (Nat × Nat)} (he : Ev μ ev a) : ∀ {ps : List (Nat × Operand)} {qs : List (Nat × Nat × CX)} {cs : List AV} {xs : Array Value} {ds : List AV}, partsOf place ps = some qs → VRels μ cs xs.toList → (∀ u ∈ xs.toList, u.oneCell' = true) → cfill ev qs cs = some ds →
    ∃ ys, Instr.fill place xs (ps.map fun p => (p.1, a.eval p.2)) = some ys ∧ VRels μ ds ys.toList ∧ (∀ u ∈ ys.toList, u.oneCell' = true)
  | [], qs, cs, xs, ds, h, h2, h3, h4 => by
    simp only [partsOf, Option.some.injEq] at h
    subst h
    simp only [cfill, Option.some.injEq] at h4
    subst h4
    exact ⟨xs, rfl, h2, h3⟩
  | (i, x) :: ps, qs, cs, xs, ds, h, h2, h3, h4 => by
    simp only [partsOf] at h
    split at h
    · rename_i off sz c r e1 e2 e3
      simp only [Option.some.injEq] at h
      subst h
      simp only [cfill] at h4
      split at h4
      · rename_i vs hvs
        rcases hb : (Nat.beq vs.length sz && Nat.ble (off + vs.length) cs.length) with _ | _
        · rw [hb] at h4; cases h4
        · rw [hb] at h4
          simp only [cond_true] at h4
          simp only [Bool.and_eq_true] at hb
          have hb1 : vs.length = sz := Nat.eq_of_beq_eq_true hb.1
          have hb2 := Nat.le_of_ble_eq_true hb.2
          obtain ⟨g1, g2⟩ := AV.cellsOf_rel hvs (he x c e2)
          have hl1 : (a.eval x).cells.size = vs.length := by have := g1.len; simpa using this.symm
          have hl2 : xs.size = cs.length := by have := h2.len; simpa using this.symm
          obtain ⟨ys, y1, y2, y3⟩ := cfill_rel he e3 (xs := setFrom off (a.eval x).cells.toList xs) (setAll_rel off g1 h2) (setFrom_one _ _ _ g2 h3) h4
          refine ⟨ys, ?_, y2, y3⟩
          simp only [List.map_cons, Instr.fill, e1]
          rw [if_neg (by simp [hl1, hb1, hl2]; omega), ← y1]
          congr 1
          have := foldl_setFrom (a.eval x).cells.toList off 0 xs
          rw [Nat.add_zero] at this
          rw [← this, ← Array.foldl_toList, Array.toList_zipIdx]
      · cases h4
    · cases h
theorem partsOf_congr {p q : Nat → Option (Nat × Nat)} (h : ∀ i r, p i = some r → q i = some r) : ∀ {ps : List (Nat × Operand)} {qs}, partsOf p ps = some qs → partsOf q ps = some qs
  | [], _, e => e
  | (i, x) :: ps, qs, e => by
    simp only [partsOf] at e ⊢
    split at e
    · rename_i off sz c r e1 e2 e3
      cases e
      rw [h _ _ e1, e2, partsOf_congr h e3]
    · cases e
theorem mapM_run {α β : Type} {g : α → Sem β} {f : α → β} (w : World) : ∀ (l : List α), (∀ x ∈ l, (g x).run P w = .ok (f x) w) → (l.mapM g).run P w = .ok (l.map f) w
  | [], _ => by simp
  | x :: l, h => by
    rw [List.mapM_cons, Sem.run_bind, h x (by simp), Result.andThen_ok, Sem.run_bind, mapM_run w l (fun y hy => h y (by simp [hy]))]
    rfl
theorem run_sizeOf {t : TypeId} {i : TypeInfo} (h : P.info? t = some i) (w : World) : (sizeOf t).run P w = .ok i.size w := by simp [sizeOf, typeInfo, h]
theorem run_place_fields (fs : Array Field) (w : World) (h : ∀ f ∈ fs.toList, (P.info? f.type).isSome = true) :
    (fs.mapM (m := Sem) fun f => do pure (f.offset, ← sizeOf f.type)).run P w = .ok (fs.map fun f => (f.offset, ((P.info? f.type).map (·.size)).getD 0)) w := by
  rw [Array.mapM_eq_mapM_toList, Sem.run_map, mapM_run (f := fun f => (f.offset, ((P.info? f.type).map (·.size)).getD 0)) w fs.toList]
  · rw [Result.andThen_ok]; congr 1; apply Array.ext'; simp
  · intro f hf
    obtain ⟨i, hi⟩ := Option.isSome_iff_exists.1 (h f hf)
    rw [Sem.run_bind, run_sizeOf hi]
    simp [hi]
theorem fill_congr {p q : Nat → Option (Nat × Nat)} : ∀ {l : List (Nat × Value)} {cs : Array Value}, (∀ x ∈ l, p x.1 = q x.1) → Instr.fill p cs l = Instr.fill q cs l
  | [], _, _ => rfl
  | (i, v) :: l, cs, h => by
    have e : p i = q i := h (i, v) (by simp)
    simp only [Instr.fill, e]
    rcases q i with _ | ⟨off, size⟩
    · rfl
    · simp only []
      split
      · rfl
      · exact fill_congr (fun x hx => h x (by simp [hx]))
theorem partsOf_place {place : Nat → Option (Nat × Nat)} : ∀ {ps : List (Nat × Operand)} {qs}, partsOf place ps = some qs → ∀ x ∈ ps, (place x.1).isSome = true
  | [], _, _, x, hx => by cases hx
  | (i, y) :: ps, qs, e, x, hx => by
    simp only [partsOf] at e
    split at e
    · rename_i off sz c r e1 e2 e3
      rcases List.mem_cons.1 hx with rfl | hx
      · simp [e1]
      · exact partsOf_place e3 x hx
    · cases e
/-- Each field's type is one that the program has. -/
def fieldsOk (P : Program) (fs : Array Field) : Bool := fs.toList.all fun f => (P.info? f.type).isSome
theorem ok_build_struct {t : TypeId} {ps : Array (Nat × Operand)} {fs : Array Field} {z : List AV} {qs} (ho : o.op = .build t ps) (hz : zeroOf P t = some z) (ht : P.underlying t = some (.struct fs)) (hf : fieldsOk P fs = true) (hp : partsOf (fieldsAt P fs) ps.toList = some qs)
    (he : Ev μ ev a) (s : Sat μ H w) (h : cstep ev H (.build z qs) = some (v, H', true)) : OpOK P o a μ H w v H' := by
  obtain ⟨i, zv, h1, h2, h3, h4⟩ := zeroOf_spec hz μ
  simp only [cstep] at h
  split at h
  · rename_i cs hcs
    cases h
    obtain ⟨ys, y1, y2, y3⟩ := cfill_rel he hp h3 h4 hcs
    refine OpOK.pure (x := .agg ys) s ?_ ⟨ys, rfl, y2⟩
    have hm : ((fs.mapM (m := Sem) fun f => do pure (f.offset, ← sizeOf f.type))).run P w = _ := run_place_fields fs w (fun f hf' => List.all_eq_true.1 hf f hf')
    have hfill : Instr.fill (fun i => (fs.map fun f => (f.offset, ((P.info? f.type).map (·.size)).getD 0))[i]?) zv.cells (ps.toList.map fun p => (p.1, a.eval p.2)) = some ys := by
      rw [← y1]
      refine fill_congr (fun x hx => ?_)
      obtain ⟨p, hp1, rfl⟩ := List.mem_map.1 hx
      have := partsOf_place hp p hp1
      obtain ⟨r, hr⟩ := Option.isSome_iff_exists.1 this
      show _ = fieldsAt P fs p.1
      rw [hr]
      unfold fieldsAt at hr
      split at hr
      · rename_i f hf'
        split at hr
        · rename_i q hq
          cases hr
          simp [hf', hq]
        · cases hr
      · cases hr
    simp only [execOp, ho]
    have hzv : (zeroValue t).run P w = .ok zv w := by simp [zeroValue, typeInfo, h1, h2]
    have hb : (Instr.build t (ps.map fun p => (p.1, a.eval p.2))).run P w = .ok (.agg ys) w := by
      unfold Instr.build
      rw [Sem.run_bind, hzv, Result.andThen_ok, Sem.run_bind, run_underlying ht, Result.andThen_ok]
      simp only []
      rw [Sem.run_bind, hm, Result.andThen_ok]
      simp only [Array.toList_map, hfill]
      rfl
    simp [hb]
  · cases h
theorem ok_build_array {t e : TypeId} {n es : Nat} {ps : Array (Nat × Operand)} {z : List AV} {qs} (ho : o.op = .build t ps) (hz : zeroOf P t = some z) (ht : P.underlying t = some (.array n e)) (hs : szOf P e = some es) (hp : partsOf (fun i => some (i * es, es)) ps.toList = some qs)
    (he : Ev μ ev a) (s : Sat μ H w) (h : cstep ev H (.build z qs) = some (v, H', true)) : OpOK P o a μ H w v H' := by
  obtain ⟨i, zv, h1, h2, h3, h4⟩ := zeroOf_spec hz μ
  simp only [cstep] at h
  split at h
  · rename_i cs hcs
    cases h
    obtain ⟨ys, y1, y2, y3⟩ := cfill_rel he hp h3 h4 hcs
    refine OpOK.pure (x := .agg ys) s ?_ ⟨ys, rfl, y2⟩
    obtain ⟨i', hi', hs'⟩ : ∃ i', P.info? e = some i' ∧ i'.size = es := by
      unfold szOf at hs
      rcases hq : P.info? e with _ | i'
      · simp [hq] at hs
      · exact ⟨i', rfl, by simpa [hq] using hs⟩
    simp only [execOp, ho]
    simp [Instr.build, zeroValue, sizeOf, typeInfo, h1, h2, run_underlying ht, hi', hs', y1]
  · cases h
theorem flat_rel {z : List AV} {zs : List Value} (h : VRels μ z zs) : ∀ n, VRels μ (flat z n) ((List.replicate n zs).flatten)
  | 0 => trivial
  | n + 1 => by rw [List.replicate_succ, List.flatten_cons]; exact h.append (flat_rel h n)
theorem zeros_list (z : Array Value) (es : Nat) (h : z.size = es) (h0 : 0 < es) (n : Nat) : ((Array.range (n * es)).map (fun i => z[i % z.size]!)).toList = (List.replicate n z.toList).flatten := by
  apply List.ext_getElem?
  intro i
  rw [Array.toList_map, Array.toList_range, List.getElem?_map]
  have key : ∀ (n i : Nat), ((List.replicate n z.toList).flatten)[i]? = if i < n * es then some (z[i % es]!) else none := by
    intro n
    induction n with
    | zero => intro i; simp
    | succ n ih =>
      intro i
      rw [List.replicate_succ, List.flatten_cons]
      rcases Nat.lt_or_ge i es with hi | hi
      · rw [List.getElem?_append_left (by simpa [h] using hi), if_pos (by rw [Nat.succ_mul]; omega), Nat.mod_eq_of_lt hi]
        have : i < z.size := by omega
        simp [this]
      · rw [List.getElem?_append_right (by simpa [h] using hi)]
        simp only [Array.length_toList, h]
        rw [ih, Nat.succ_mul]
        have e2 : (i - es) % es = i % es := by rw [Nat.mod_eq_sub_mod hi]
        rw [e2]
        by_cases hlt : i < n * es + es
        · rw [if_pos hlt, if_pos (by omega)]
        · rw [if_neg hlt, if_neg (by omega)]
  rw [key, h]
  by_cases hlt : i < n * es
  · simp [hlt]
  · rw [if_neg hlt, List.getElem?_eq_none (by simpa using hlt)]
    rfl
theorem toInts_spec {k : IntKind} : ∀ {cs : List AV} {xs : List Int}, toInts k cs = some xs → cs = xs.map (AV.int k)
  | [], xs, h => by simp only [toInts, Option.some.injEq] at h; subst h; rfl
  | v :: vs, xs, h => by
    cases v with
    | int q n =>
      simp only [toInts] at h
      by_cases e : q = k
      · subst e
        simp only [decide_true, cond_true] at h
        split at h
        · rename_i ys hys
          cases h
          rw [toInts_spec hys]; rfl
        · cases h
      · simp [e] at h
    | _ => simp [toInts] at h
theorem row_holds {es : Nat} {z cs : List AV} {xs : List Value} (h0 : 0 < es) (hz : z.length = es) (h : VRels μ cs xs) (h1 : ∀ u ∈ xs, u.oneCell' = true) : Holds μ (AC.row es z cs) es 0 xs.toArray := by
  unfold AC.row
  split
  · rename_i k n
    split
    · rename_i ys hys
      have e := toInts_spec hys
      subst e
      refine ⟨(fun es e => by cases e), fun i j hi => ?_⟩
      simp only [AC.inb, Bool.and_eq_true, decide_eq_true_eq] at hi
      obtain ⟨hst, hi⟩ := hi
      obtain rfl : es = 1 := Nat.eq_of_beq_eq_true hst
      have hl := h.len
      rw [List.length_map] at hl
      have hx : xs[i + j]? = some (xs[i + j]'(by omega)) := List.getElem?_eq_getElem _
      refine ⟨xs[i + j]'(by omega), by simp, ?_, h1 _ (List.getElem_mem _)⟩
      have := h.get _ _ hx
      rw [List.getD_eq_getElem?_getD, List.getElem?_map, List.getElem?_eq_getElem hi] at this
      simp only [AC.val]
      rw [List.getD_eq_getElem?_getD, List.getElem?_eq_getElem hi]
      exact this
    · exact holds_cells es h h1
  · exact holds_cells es h h1
theorem ok_buildS {t e : TypeId} {es len : Nat} {ps : Array (Nat × Operand)} {z : List AV} {qs} (ho : o.op = .buildSlice t len ps) (ht : P.underlying t = some (.slice e)) (hs : szOf P e = some es) (hz : zeroOf P e = some z) (hl : z.length = es) (hm : len * es ≤ 16777216) (h0 : 0 < es)
    (hp : partsOf (fun i => some (i * es, es)) ps.toList = some qs) (he : Ev μ ev a) (s : Sat μ H w) (h : cstep ev H (.buildS es len z qs) = some (v, H', true)) : OpOK P o a μ H w v H' := by
  obtain ⟨i, zv, h1, h2, h3, h4⟩ := zeroOf_spec hz μ
  have hzl : zv.cells.size = es := by have := h3.len; simp at this; omega
  have hie : i.size = es := by simpa [szOf, h1] using hs
  simp only [cstep] at h
  split at h
  · rename_i cs hcs
    cases h
    have hzl' := zeros_list zv.cells es hzl h0 len
    have hzz : VRels μ (flat z len) ((Array.range (len * es)).map (fun i => zv.cells[i % zv.cells.size]!)).toList := by rw [hzl']; exact flat_rel h3 len
    have hz1 : ∀ u ∈ ((Array.range (len * es)).map (fun i => zv.cells[i % zv.cells.size]!)).toList, u.oneCell' = true := by
      rw [hzl']
      intro u hu
      obtain ⟨l, hl', hu'⟩ := List.mem_flatten.1 hu
      rw [(List.mem_replicate.1 hl').2] at hu'
      exact h4 u hu'
    obtain ⟨ys, y1, y2, y3⟩ := cfill_rel he hp hzz hz1 hcs
    obtain ⟨q1, q2⟩ := s.alloc ⟨true, es, AC.row es z cs⟩ ys e (by simpa using row_holds h0 hl y2 y3)
    refine ⟨_, .slice (some ⟨w.heap.size, 0, none⟩) len len, _, _, ?_, .inl rfl, ?_, q1, q2⟩
    · have hm' : ¬ (16777216 < len * es) := by omega
      simp only [execOp, ho]
      by_cases hn : len * es = 0
      · have e0 : (Array.range (len * es)).map (fun i => zv.cells[i % zv.cells.size]!) = #[] := by rw [hn, Array.range_zero']; simp
        rw [e0] at y1
        have e1 : ∀ Z : Array Value, (Array.range (len * es)).map (fun i => Z[i % Z.size]!) = #[] := fun Z => by rw [hn, Array.range_zero']; simp
        simp [Instr.buildSlice, run_underlying ht, sizeOf, typeInfo, h1, hie, hm', hn, newRow, Array.range_zero', y1]
      · simp [Instr.buildSlice, run_underlying ht, sizeOf, zeroValue, typeInfo, h1, h2, hie, hm', hn, newRow, y1]
    · exact ⟨⟨w.heap.size, 0, es, 0⟩, _, len, if_pos rfl, rfl, Nat.le_refl _, Nat.le_refl _, fun _ => rfl, .inl (by simp [Loc.at]), (fun h => by cases h)⟩
  · cases h
end
end Go.Eng
