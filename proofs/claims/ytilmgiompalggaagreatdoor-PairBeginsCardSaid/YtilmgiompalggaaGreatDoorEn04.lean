/- The engine, sixth part: slices, fields, elements, lengths. -/
import Derived.Test.YtilmgiompalggaaGreatDoorEn03
import Derived.Laws.Strings
namespace Go.Eng
open Go Go.RowKit
set_option linter.unusedVariables false
set_option linter.unusedSimpArgs false
section
variable {P : Program} {o : Oper} {a : Act} {μ : Mu} {H H' : AH} {w : World} {ev : CX → AV} {v : AV}
theorem ok_s2a {t e : TypeId} {n : Nat} {x : Operand} {c : CX} (ho : o.op = .sliceToArrayPointer t x) (ht : P.underlying t = some (.array n e)) (hn : 0 < n) (hx : opd x = some c) (he : Ev μ ev a) (s : Sat μ H w) (h : cstep ev H (.s2a n c) = some (v, H', true)) : OpOK P o a μ H w v H' := by
  have h1 := he x c hx
  simp only [cstep] at h
  split at h
  · rename_i b k j m q ex e1
    simp only [Option.some.injEq, Prod.mk.injEq, decide_eq_true_eq] at h
    obtain ⟨rfl, rfl, hle⟩ := h
    rw [e1] at h1
    obtain ⟨l, A, c', g1, g2, g3, g4, g5, g6, g7⟩ := h1
    rcases g6 with rfl | g6
    · have hlt : ¬ m < n := by omega
      exact OpOK.pure (x := .pointer (some (l.at k j))) s (by simp [execOp, ho, g2, Instr.arrayAt, run_underlying ht, hlt]) ⟨l, g1, rfl⟩
    · omega
  · rename_i b k j m q e1
    simp only [Option.some.injEq, Prod.mk.injEq, decide_eq_true_eq] at h
    obtain ⟨rfl, rfl, hle⟩ := h
    rw [e1] at h1
    rcases h1 with ⟨_, h0, _⟩ | ⟨l, A, c', g1, g2, g3, g4, g6⟩
    · omega
    · rcases g6 with rfl | g6
      · have hlt : ¬ m < n := by omega
        exact OpOK.pure (x := .pointer (some (l.at k j))) s (by simp [execOp, ho, g2, Instr.arrayAt, run_underlying ht, hlt]) ⟨l, g1, rfl⟩
      · omega
  · cases h
theorem ok_mki {t : TypeId} {d : TypeDesc} {x : Operand} {c : CX} (ho : o.op = .makeInterface t x) (ht : P.underlying t = some d) (hd : ∀ ms, d ≠ .interface ms) (hx : opd x = some c) (he : Ev μ ev a) (s : Sat μ H w) : OpOK P o a μ H w (.ifc t (ev c)) H := by
  refine OpOK.pure (x := .iface t (a.eval x)) s ?_ ⟨_, rfl, he x c hx⟩
  have : (Instr.makeInterface t (a.eval x)).run P w = .ok (.iface t (a.eval x)) w := by
    unfold Instr.makeInterface
    rw [Sem.run_bind, run_underlying ht, Result.andThen_ok]
    cases d <;> first | rfl | exact absurd rfl (hd _)
  simp [execOp, ho, this]
theorem ok_mkf {f : Fn} {x y : Array Operand} {c d : List CX} (ho : o.op = .makeFunc f x y) (hx : opds x.toList = some c) (hy : opds y.toList = some d) (he : Ev μ ev a) (s : Sat μ H w) : OpOK P o a μ H w (.fn f (c.map ev) (d.map ev)) H := by
  have key : ∀ {xs : List Operand} {cs : List CX}, opds xs = some cs → VRels μ (cs.map ev) (xs.map a.eval) := by
    intro xs
    induction xs with
    | nil => intro cs h; simp only [opds, Option.some.injEq] at h; subst h; trivial
    | cons x xs ih =>
      intro cs h
      simp only [opds] at h
      split at h
      · rename_i c cs' h1 h2
        cases h
        exact ⟨he x c h1, ih h2⟩
      · cases h
  exact OpOK.pure (x := .func f (x.map a.eval) (y.map a.eval)) s (by simp [execOp, ho, Instr.makeFunc]) ⟨_, _, rfl, by simpa using key hx, by simpa using key hy⟩
theorem replicate_flat_get (es : Nat) (h0 : 0 < es) (z : List Value) (hz : z.length = es) : ∀ (n k j : Nat), k < n → j < es → ((List.replicate n z).flatten)[k * es + j]? = z[j]?
  | 0, _, _, h, _ => absurd h (Nat.not_lt_zero _)
  | n + 1, 0, j, _, hj => by
    rw [List.replicate_succ, List.flatten_cons, Nat.zero_mul, Nat.zero_add, List.getElem?_append_left (by omega)]
  | n + 1, k + 1, j, hk, hj => by
    rw [List.replicate_succ, List.flatten_cons, List.getElem?_append_right (by rw [Nat.succ_mul]; omega), hz, show (k + 1) * es + j - es = k * es + j by rw [Nat.succ_mul]; omega]
    exact replicate_flat_get es h0 z hz n k j (by omega) hj
theorem zeros_holds {es : Nat} {z : List AV} {zs : List Value} (h0 : 0 < es) (hz : z.length = es) (h : VRels μ z zs) (h1 : ∀ u ∈ zs, u.oneCell' = true) (n : Nat) : Holds μ (AC.zeros es z n) es 0 ((List.replicate n zs).flatten).toArray := by
  have hl : zs.length = es := by rw [← h.len]; exact hz
  have key : ∀ k j, k < n → j < es → ∃ x, ((List.replicate n zs).flatten).toArray[0 + k * es + j]? = some x ∧ VRel μ (z.getD j .any) x ∧ x.oneCell' = true := by
    intro k j hk hj
    have hx : zs[j]? = some (zs[j]'(by omega)) := List.getElem?_eq_getElem _
    refine ⟨zs[j]'(by omega), ?_, h.get _ _ hx, h1 _ (List.getElem_mem _)⟩
    rw [Nat.zero_add, List.getElem?_toArray, replicate_flat_get es h0 zs hl n k j hk hj, hx]
  unfold AC.zeros
  split
  · rename_i q x
    refine ⟨(fun es e => by cases e), fun i j hi => ?_⟩
    simp only [AC.inb, Bool.and_eq_true, decide_eq_true_eq] at hi
    obtain ⟨hst, hi⟩ := hi
    obtain rfl : es = 1 := Nat.eq_of_beq_eq_true hst
    simp only [List.length_replicate] at hi
    obtain ⟨u, g1, g2, g3⟩ := key (i + j) 0 hi (by omega)
    refine ⟨u, by rw [← g1]; congr 1; omega, ?_, g3⟩
    simp only [AC.val]
    rw [List.getD_eq_getElem?_getD, List.getElem?_replicate, if_pos hi]
    exact g2
  · refine ⟨(fun es e => by cases e), fun i j hi => ?_⟩
    simp only [AC.inb, Bool.and_eq_true, decide_eq_true_eq] at hi
    exact key i j hi.1 hi.2
theorem ok_mks {t e : TypeId} {i : TypeInfo} {z : List AV} {x y : Operand} {c d : CX} (ho : o.op = .makeSlice t x y) (ht : P.underlying t = some (.slice e)) (hi : P.info? e = some i) (hz : zeroOf P e = some z) (hl : z.length = i.size) (h0 : 0 < i.size)
    (hx : opd x = some c) (hy : opd y = some d) (he : Ev μ ev a) (s : Sat μ H w) (h : cstep ev H (.mks i.size i.bytes z c d) = some (v, H', true)) : OpOK P o a μ H w v H' := by
  have h1 := he x c hx
  have h2 := he y d hy
  obtain ⟨i', zv, g1, g2, g3, g4⟩ := zeroOf_spec hz μ
  rw [hi] at g1
  cases g1
  have hzl : zv.cells.size = i.size := by have := g3.len; simp at this; omega
  simp only [cstep] at h
  split at h
  · rename_i q l q' n e1 e2
    simp only [Option.some.injEq, Prod.mk.injEq, decide_eq_true_eq, Bool.and_eq_true] at h
    obtain ⟨rfl, rfl, ⟨⟨b1, b2⟩, b3⟩, b4⟩ := h
    rw [e1] at h1
    rw [e2] at h2
    simp only [VRel] at h1 h2
    have hr := run_make (P := P) w t e i zv ht hi g2 q q' l n b1 b2 b3 b4
    have hm : madeCells zv.cells (n.toNat * i.size) = ((List.replicate n.toNat zv.cells.toList).flatten).toArray := by
      unfold madeCells
      apply Array.ext'
      rw [zeros_list zv.cells i.size hzl h0]
    rw [hm] at hr
    obtain ⟨q1, q2⟩ := s.alloc ⟨true, i.size, AC.zeros i.size z n.toNat⟩ _ e (zeros_holds h0 hl g3 g4 n.toNat)
    refine ⟨_, .slice (some ⟨w.heap.size, 0, none⟩) l.toNat n.toNat, _, _, ?_, .inl rfl, ?_, q1, q2⟩
    · simp only [execOp, ho, h1, h2]
      simp [hr]
    · exact ⟨⟨w.heap.size, 0, i.size, 0⟩, _, _, if_pos rfl, rfl, by omega, Nat.le_refl _, fun _ => rfl, .inl (by simp [Loc.at]), (fun h => by cases h)⟩
  · cases h
theorem ok_fa {t : TypeId} {fs : Array Field} {f off sz : Nat} {x : Operand} {c : CX} (ho : o.op = .fieldAddr t x f) (ht : P.underlying t = some (.struct fs)) (hf : fieldsAt P fs f = some (off, sz)) (h0 : 0 < sz) (hx : opd x = some c) (he : Ev μ ev a) (s : Sat μ H w) (h : cstep ev H (.fa off c) = some (v, H', true)) :
    OpOK P o a μ H w v H' := by
  have h1 := he x c hx
  simp only [cstep] at h
  split at h
  · rename_i b k j e1
    cases h
    rw [e1] at h1
    obtain ⟨l, g1, g2⟩ := h1
    unfold fieldsAt at hf
    split at hf
    · rename_i q hq
      split at hf
      · rename_i i hi
        simp only [Option.some.injEq, Prod.mk.injEq] at hf
        obtain ⟨rfl, rfl⟩ := hf
        refine OpOK.pure (x := .pointer (some (l.at k (j + q.offset)))) s ?_ ⟨l, g1, rfl⟩
        have : (Instr.fieldAt t (a.eval x) f).run P w = .ok (.pointer (some (l.at k (j + q.offset)))) w := by
          unfold Instr.fieldAt
          rw [Sem.run_bind, run_underlying ht, Result.andThen_ok]
          simp only [hq, g2, Instr.sureAddr, fieldPlace, Sem.run_bind, Sem.run_pure, Result.andThen_ok, run_sizeOf hi]
          rw [if_neg (by omega)]
          simp [at_eq, Addr.add_mid, Nat.add_assoc]
        simp [execOp, ho, this]
      · cases hf
    · cases hf
  · cases h
theorem run_part {t : TypeId} {sz : Option Nat} {cs : Array Value} {off : Nat} {r : AV} {as : List AV} (hz : aggSz P t = some sz) (hr : VRels μ as cs.toList) (w : World)
    (h : match sz with
      | none => off < as.length ∧ r = as.getD off .any
      | some n => r = .agg ((as.drop off).take n)) : ∃ x, (part t cs off).run P w = .ok x w ∧ VRel μ r x := by
  obtain ⟨d, i, h1, h2, h3⟩ := aggSz_spec hz
  have hl := hr.len
  rcases h3 with ⟨h3, rfl⟩ | ⟨h3, rfl⟩
  · subst h
    refine ⟨.agg (cs.extract off (off + i.size)), by simp [part, run_isAgg h1, h3, run_sizeOf h2], _, rfl, ?_⟩
    have : (cs.extract off (off + i.size)).toList = (cs.toList.drop off).take i.size := by simp
    rw [this]
    exact (hr.drop off).take i.size
  · obtain ⟨hlt, rfl⟩ := h
    have hx : cs[off]? = some (cs[off]'(by simp at hl; omega)) := Array.getElem?_eq_getElem _
    refine ⟨cs[off]'(by simp at hl; omega), ?_, hr.get off _ (by simp)⟩
    simp [part, run_isAgg h1, h3, hx]
theorem ok_fld {t : TypeId} {fs : Array Field} {f : Nat} {q : Field} {sz : Option Nat} {x : Operand} {c : CX} (ho : o.op = .field t x f) (ht : P.underlying t = some (.struct fs)) (hf : fs[f]? = some q) (hz : aggSz P q.type = some sz) (hx : opd x = some c) (he : Ev μ ev a) (s : Sat μ H w) (h : cstep ev H (.fld q.offset sz c) = some (v, H', true)) :
    OpOK P o a μ H w v H' := by
  have h1 := he x c hx
  simp only [cstep] at h
  split at h
  · rename_i as e1
    rw [e1] at h1
    obtain ⟨cs, g1, g2⟩ := h1
    have key : ∃ x', (part q.type cs q.offset).run P w = .ok x' w ∧ VRel μ v x' ∧ H' = H := by
      split at h
      · simp only [Option.some.injEq, Prod.mk.injEq, decide_eq_true_eq] at h
        obtain ⟨rfl, rfl, hlt⟩ := h
        obtain ⟨x', y1, y2⟩ := run_part (P := P) (off := q.offset) (r := as.getD q.offset .any) hz g2 w ⟨hlt, rfl⟩
        exact ⟨x', y1, y2, rfl⟩
      · rename_i n
        cases h
        obtain ⟨x', y1, y2⟩ := run_part (P := P) (off := q.offset) (r := .agg ((as.drop q.offset).take n)) hz g2 w rfl
        exact ⟨x', y1, y2, rfl⟩
    obtain ⟨x', y1, y2, rfl⟩ := key
    refine OpOK.pure (x := x') s ?_ y2
    have : (Instr.field t (a.eval x) f).run P w = .ok x' w := by
      unfold Instr.field
      rw [Sem.run_bind, run_underlying ht, Result.andThen_ok]
      simp only [hf, g1, asAgg, Sem.run_bind, Sem.run_pure, Result.andThen_ok, y1]
    simp [execOp, ho, this]
  · cases h
theorem ok_ixa {t e : TypeId} {n es : Nat} {sz : Option Nat} {x y : Operand} {c d : CX} (ho : o.op = .index t x y) (ht : P.underlying t = some (.array n e)) (hs : szOf P e = some es) (hz : aggSz P e = some sz) (hx : opd x = some c) (hy : opd y = some d) (he : Ev μ ev a) (s : Sat μ H w)
    (h : cstep ev H (.ixa n es sz c d) = some (v, H', true)) : OpOK P o a μ H w v H' := by
  have h1 := he x c hx
  have h2 := he y d hy
  obtain ⟨i', hi', hs'⟩ : ∃ i', P.info? e = some i' ∧ i'.size = es := by
    unfold szOf at hs
    rcases hq : P.info? e with _ | i'
    · simp [hq] at hs
    · exact ⟨i', rfl, by simpa [hq] using hs⟩
  simp only [cstep] at h
  split at h
  · rename_i as k i e1 e2
    rw [e1] at h1
    rw [e2] at h2
    obtain ⟨cs, g1, g2⟩ := h1
    simp only [VRel] at h2
    have key : ∃ x', (part e cs (i.toNat * es)).run P w = .ok x' w ∧ VRel μ v x' ∧ H' = H ∧ 0 ≤ i ∧ i < n := by
      split at h
      · simp only [Option.some.injEq, Prod.mk.injEq, decide_eq_true_eq, Bool.and_eq_true] at h
        obtain ⟨rfl, rfl, ⟨b1, b2⟩, hlt⟩ := h
        obtain ⟨x', y1, y2⟩ := run_part (P := P) (off := i.toNat * es) (r := as.getD (i.toNat * es) .any) hz g2 w ⟨hlt, rfl⟩
        exact ⟨x', y1, y2, rfl, b1, b2⟩
      · rename_i m
        simp only [Option.some.injEq, Prod.mk.injEq, decide_eq_true_eq, Bool.and_eq_true] at h
        obtain ⟨rfl, rfl, b1, b2⟩ := h
        have : m = es := by
          obtain ⟨d', i2, q1, q2, q3⟩ := aggSz_spec hz
          rw [hi'] at q2; cases q2
          rcases q3 with ⟨_, q3⟩ | ⟨_, q3⟩
          · injection q3 with q3; rw [q3, hs']
          · cases q3
        subst this
        obtain ⟨x', y1, y2⟩ := run_part (P := P) (off := i.toNat * m) (r := .agg ((as.drop (i.toNat * m)).take m)) hz g2 w rfl
        exact ⟨x', y1, y2, rfl, b1, b2⟩
    obtain ⟨x', y1, y2, rfl, b1, b2⟩ := key
    refine OpOK.pure (x := x') s ?_ y2
    have : (Instr.index t (a.eval x) (a.eval y)).run P w = .ok x' w := by
      unfold Instr.index
      simp [asIntOf, h2, run_underlying ht, g1, b1, b2, run_sizeOf hi', hs', y1]
    simp [execOp, ho, this]
  · cases h
theorem ok_ixs {t : TypeId} {x y : Operand} {c d : CX} (ho : o.op = .index t x y) (ht : P.underlying t = some .string) (hx : opd x = some c) (hy : opd y = some d) (he : Ev μ ev a) (s : Sat μ H w)
    (h : cstep ev H (.ixs c d) = some (v, H', true)) : OpOK P o a μ H w v H' := by
  have h1 := he x c hx
  have h2 := he y d hy
  simp only [cstep] at h
  split at h
  · rename_i b k i e1 e2
    rw [e1] at h1
    rw [e2] at h2
    simp only [VRel] at h1 h2
    simp only [Option.some.injEq, Prod.mk.injEq, decide_eq_true_eq, Bool.and_eq_true] at h
    obtain ⟨rfl, rfl, b1, b2⟩ := h
    have hlt : i.toNat < b.size := by omega
    have hi := run_index_string (P := P) (w := w) t b k i ht
    rw [dif_pos ⟨b1, b2⟩] at hi
    have hb : (b[i.toNat]'hlt) = b.data.toList.getD i.toNat 0 := by
      have hlt' : i.toNat < b.data.toList.length := by simpa using hlt
      rw [List.getD_eq_getElem?_getD, List.getElem?_eq_getElem hlt']
      rfl
    refine OpOK.pure (x := .int .u8 ((b.data.toList.getD i.toNat 0).toNat : Nat)) s ?_ rfl
    rw [← hb]
    simp [execOp, ho, h1, h2, hi]
  · cases h
theorem ok_ext {x : Operand} {i : Nat} {c : CX} (ho : o.op = .extract x i) (hx : opd x = some c) (he : Ev μ ev a) (s : Sat μ H w) (h : cstep ev H (.ext i c) = some (v, H', true)) : OpOK P o a μ H w v H' := by
  have h1 := he x c hx
  simp only [cstep] at h
  split at h
  · rename_i vs e1
    simp only [Option.some.injEq, Prod.mk.injEq, decide_eq_true_eq] at h
    obtain ⟨rfl, rfl, hlt⟩ := h
    rw [e1] at h1
    obtain ⟨cs, g1, g2⟩ := h1
    have hl := g2.len
    have hx : cs[i]? = some (cs[i]'(by simp at hl; omega)) := Array.getElem?_eq_getElem _
    exact OpOK.pure (x := cs[i]'(by simp at hl; omega)) s (by simp [execOp, ho, g1, Instr.extract, hx]) (g2.get i _ (by simp))
  · cases h
end
end Go.Eng
/- The engine, seventh part: slicing, elements, lengths; all operations together. -/
namespace Go.Eng
open Go Go.RowKit
set_option linter.unusedVariables false
set_option linter.unusedSimpArgs false
section
variable {P : Program} {o : Oper} {a : Act} {μ : Mu} {H H' : AH} {w : World} {ev : CX → AV} {v : AV}
/-- Bounds, given or not. -/
def ORel (μ : Mu) : Option AV → Option Value → Prop
  | none, none => True
  | some v, some x => VRel μ v x
  | _, _ => False
theorem optd_rel {x : Option Operand} {c : Option CX} (h : optd x = some c) (he : Ev μ ev a) : ORel μ (c.map ev) (x.map a.eval) := by
  cases x with
  | none => simp only [optd, Option.some.injEq] at h; subst h; trivial
  | some x =>
    simp only [optd] at h
    rcases hq : opd x with _ | d
    · simp [hq] at h
    · simp [hq] at h; subst h; exact he x d hq
theorem bnd_spec {b : Option AV} {x : Option Value} {d l : Nat} (h : bnd b d = some (l, true)) (hr : ORel μ b x) : (x = none ∧ l = d) ∨ ∃ k i, x = some (.int k i) ∧ 0 ≤ i ∧ i.toNat = l := by
  unfold bnd at h
  split at h
  · cases h
    cases x with
    | none => exact .inl ⟨rfl, rfl⟩
    | some x => exact hr.elim
  · rename_i k i
    simp only [Option.some.injEq, Prod.mk.injEq, decide_eq_true_eq] at h
    cases x with
    | none => exact hr.elim
    | some x => exact .inr ⟨k, i, by rw [show x = _ from hr], h.2, h.1⟩
  · cases h
theorem run_bound (k : IntKind) (i : Int) (y : Nat) (code : BoundsCode) (h0 : 0 ≤ i) (h1 : i.toNat ≤ y) (w : World) : (Instr.sliceBound (.int k i) y code).run P w = .ok i.toNat w := by
  have : 0 ≤ i ∧ i ≤ y := ⟨h0, by omega⟩
  simp [Instr.sliceBound, asIntOf, this]
theorem segs_spec {lo hi mx : Option AV} {n c l h m : Nat} (hs : segs lo hi mx n c = some (l, h, m, true)) : (mx.isSome = true → hi.isSome = true) ∧ bnd lo 0 = some (l, true) ∧ bnd hi n = some (h, true) ∧ bnd mx c = some (m, true) ∧ l ≤ h ∧ h ≤ m ∧ m ≤ c := by
  have key : (match bnd lo 0, bnd hi n, bnd mx c with
    | some (l, a), some (h, b), some (m, d) => some (l, h, m, a && b && d && decide (l ≤ h) && decide (h ≤ m) && decide (m ≤ c))
    | _, _, _ => none) = some (l, h, m, true) ∧ (mx.isSome = true → hi.isSome = true) := by
    cases hi <;> cases mx <;> simp only [segs] at hs <;> first | exact ⟨hs, by simp⟩ | cases hs
  obtain ⟨k1, k2⟩ := key
  refine ⟨k2, ?_⟩
  split at k1
  · rename_i l' a h' b m' d e1 e2 e3
    simp only [Option.some.injEq, Prod.mk.injEq, Bool.and_eq_true, decide_eq_true_eq] at k1
    obtain ⟨rfl, rfl, rfl, ⟨⟨⟨⟨rfl, rfl⟩, rfl⟩, b1⟩, b2⟩, b3⟩ := k1
    exact ⟨e1, e2, e3, b1, b2, b3⟩
  · cases k1
theorem orel_none {b : Option AV} (h : ORel μ b none) : b = none := by cases b with | none => rfl | some q => exact (show False from h).elim
theorem orel_some {b : Option AV} {x : Value} (h : ORel μ b (some x)) : b.isSome = true := by cases b with | none => exact (show False from h).elim | some q => rfl
theorem segs_run {lo hi mx : Option AV} {x y z : Option Value} {n c c' l h m : Nat} {sl : Bool} (hs : segs lo hi mx n c = some (l, h, m, true)) (h1 : ORel μ lo x) (h2 : ORel μ hi y) (h3 : ORel μ mx z) (hc : c ≤ c') (w : World) :
    (Instr.sliceBounds sl n c' x y z).run P w = .ok (l, h, if mx.isSome then m else c') w ∧ l ≤ h ∧ h ≤ m ∧ m ≤ c ∧ (mx = none → m = c) := by
  obtain ⟨hne, e1, e2, e3, b1, b2, b3⟩ := segs_spec hs
  refine ⟨?_, b1, b2, b3, fun hm => by subst hm; simp [bnd] at e3; exact e3.symm⟩
  rcases bnd_spec e3 h3 with ⟨rfl, rfl⟩ | ⟨k3, i3, rfl, p3, rfl⟩
  · obtain rfl := orel_none h3
    rcases bnd_spec e2 h2 with ⟨rfl, rfl⟩ | ⟨k2, i2, rfl, p2, rfl⟩
    · rcases bnd_spec e1 h1 with ⟨rfl, rfl⟩ | ⟨k1, i1, rfl, p1, rfl⟩
      · simp [Instr.sliceBounds]
      · simp [Instr.sliceBounds, run_bound k1 i1 _ _ p1 b1]
    · rcases bnd_spec e1 h1 with ⟨rfl, rfl⟩ | ⟨k1, i1, rfl, p1, rfl⟩
      · simp [Instr.sliceBounds, run_bound k2 i2 c' _ p2 (by omega)]
      · simp [Instr.sliceBounds, run_bound k2 i2 c' _ p2 (by omega), run_bound k1 i1 _ _ p1 b1]
  · have hmx := orel_some h3
    rcases bnd_spec e2 h2 with ⟨rfl, rfl⟩ | ⟨k2, i2, rfl, p2, rfl⟩
    · exfalso
      have := hne hmx
      rw [orel_none h2] at this
      cases this
    · rcases bnd_spec e1 h1 with ⟨rfl, rfl⟩ | ⟨k1, i1, rfl, p1, rfl⟩
      · simp [Instr.sliceBounds, hmx, run_bound k3 i3 c' _ p3 (by omega), run_bound k2 i2 _ _ p2 b2]
      · simp [Instr.sliceBounds, hmx, run_bound k3 i3 c' _ p3 (by omega), run_bound k2 i2 _ _ p2 b2, run_bound k1 i1 _ _ p1 b1]
theorem stepTo_at (l : Loc) (es k j n : Nat) : l.at (stepTo l.st es k j n).1 (stepTo l.st es k j n).2 = (l.at k j).add (n * es) := by
  unfold stepTo
  rcases hq : Nat.beq es l.st with _ | _
  · simp [at_eq, Addr.add_mid, Nat.add_assoc]
  · have : es = l.st := Nat.eq_of_beq_eq_true hq
    simp [at_eq, Addr.add_mid, this, Nat.add_mul, Nat.add_assoc, Nat.add_comm]
theorem Sat.loc {b : Nat} {y : ABlk} {l : Loc} (s : Sat μ H w) (hb : H.get b = some y) (hl : μ b = some l) (hm : ∀ es, y.c ≠ .map es) : l.st = y.st := by
  obtain ⟨l', g1, g2⟩ := s.blk b y hb
  rw [hl] at g1; cases g1
  exact (g2.holds hm).1
theorem ok_sli {t e : TypeId} {es : Nat} {x : Operand} {lo hi mx : Option Operand} {c : CX} {cl ch cm : Option CX} (ho : o.op = .slice t x lo hi mx) (ht : P.underlying t = some (.slice e)) (hs : szOf P e = some es) (hx : opd x = some c) (hl : optd lo = some cl) (hh : optd hi = some ch) (hm : optd mx = some cm)
    (he : Ev μ ev a) (s : Sat μ H w) (h : cstep ev H (.sli es c cl ch cm) = some (v, H', true)) : OpOK P o a μ H w v H' := by
  have h1 := he x c hx
  obtain ⟨i', hi', hs'⟩ : ∃ i', P.info? e = some i' ∧ i'.size = es := by
    unfold szOf at hs
    rcases hq : P.info? e with _ | i'
    · simp [hq] at hs
    · exact ⟨i', rfl, by simpa [hq] using hs⟩
  simp only [cstep] at h
  split at h
  · rename_i b k j n c0 ex e1
    split at h
    · rename_i l r m ok y q1 q2
      simp only [Option.some.injEq, Prod.mk.injEq, Bool.and_eq_true, Bool.not_eq_true'] at h
      obtain ⟨rfl, rfl, ⟨rfl, hmap⟩, hes⟩ := h
      rw [e1] at h1
      obtain ⟨lc, A, c', g1, g2, g3, g4, g5, g6, g7⟩ := h1
      obtain ⟨r1, r2, r3, r4, r5⟩ := segs_run (P := P) (sl := true) q1 (optd_rel hl he) (optd_rel hh he) (optd_rel hm he) g4 w
      have hst := s.loc q2 g1 (by rintro es' e'; rw [e'] at hmap; cases hmap)
      have hrun : (Instr.sliceAt t (a.eval x) (lo.map a.eval) (hi.map a.eval) (mx.map a.eval)).run P w =
          .ok (.slice (some (if (if cm.isSome then m else c') = l then A else A.add (l * es))) (r - l) ((if cm.isSome then m else c') - l)) w := by
        unfold Instr.sliceAt
        rw [Sem.run_bind, run_underlying ht, Result.andThen_ok]
        simp only [Instr.slice, Sem.run_bind, run_underlying ht, Result.andThen_ok, g2, r1, run_sizeOf hi', hs', Sem.run_pure]
        have : (cm.map ev).isSome = cm.isSome := by cases cm <;> rfl
        simp only [this]
        split <;> (simp only [Option.map_some]; split <;> rfl)
      refine OpOK.pure s (by simp [execOp, ho, hrun]; rfl) ?_
      refine ⟨lc, _, _, g1, rfl, by omega, ?_, ?_, ?_, ?_⟩
      · cases cm with
        | none => simp only [Option.isSome_none, Bool.false_eq_true, if_false]; have := r5 rfl; omega
        | some q => simp
      · intro hex
        cases cm with
        | none =>
          simp only [Option.isSome_none, Bool.false_or] at hex
          have := r5 rfl
          simp only [Option.isSome_none, Bool.false_eq_true, if_false]
          rw [g5 hex, this]
        | some q => simp
      · rw [← hst, stepTo_at]
        have hM : (if cm.isSome = true then m else c') = l ∨ c' ≠ 0 := by
          cases cm with
          | none => have := r5 rfl; simp; omega
          | some q => simp; omega
        generalize (if cm.isSome = true then m else c') = M at *
        by_cases hML : M = l
        · right; omega
        · left
          rw [if_neg hML]
          rcases g6 with rfl | g6
          · rfl
          · exact absurd g6 (hM.resolve_left hML)
      · intro hex
        cases cm with
        | none =>
          simp only [Option.isSome_none, Bool.false_or] at hex
          have hes' : Nat.beq es y.st = true := by
            simp only [Bool.or_eq_true] at hes
            rcases hes with hes | hes
            · rcases hes with hes | hes
              · simp at hes
              · rw [hex] at hes; cases hes
            · exact hes
          obtain ⟨q1, q2⟩ := g7 hex
          have := r5 rfl
          simp only [Option.isSome_none, Bool.false_eq_true, if_false, stepTo, hes', cond_true]
          exact ⟨q1, by omega⟩
        | some q => simp at hex
    · cases h
  · rename_i b k j n c0 e1
    split at h
    · rename_i l r m ok y q1 q2
      simp only [Option.some.injEq, Prod.mk.injEq, Bool.and_eq_true, Bool.not_eq_true'] at h
      obtain ⟨rfl, rfl, rfl, hmap⟩ := h
      rw [e1] at h1
      rcases h1 with ⟨h1, rfl, rfl⟩ | ⟨lc, A, c', g1, g2, g3, g4, g6⟩
      · obtain ⟨r1, r2, r3, r4, r5⟩ := segs_run (P := P) (sl := true) q1 (optd_rel hl he) (optd_rel hh he) (optd_rel hm he) (Nat.le_refl 0) w
        obtain rfl : m = 0 := by omega
        obtain rfl : r = 0 := by omega
        obtain rfl : l = 0 := by omega
        have hrun : (Instr.sliceAt t (a.eval x) (lo.map a.eval) (hi.map a.eval) (mx.map a.eval)).run P w = .ok (.slice none 0 0) w := by
          unfold Instr.sliceAt
          rw [Sem.run_bind, run_underlying ht, Result.andThen_ok]
          simp only [Instr.slice, Sem.run_bind, run_underlying ht, Result.andThen_ok, h1, r1, run_sizeOf hi', hs', Sem.run_pure]
          simp
        exact OpOK.pure (x := .slice none 0 0) s (by simp [execOp, ho, hrun]) (.inl ⟨rfl, by omega, by omega⟩)
      · obtain ⟨r1, r2, r3, r4, r5⟩ := segs_run (P := P) (sl := true) q1 (optd_rel hl he) (optd_rel hh he) (optd_rel hm he) g4 w
        have hst := s.loc q2 g1 (by rintro es' e'; rw [e'] at hmap; cases hmap)
        have hmi : (cm.map ev).isSome = cm.isSome := by cases cm <;> rfl
        have hmm : m - l ≤ (if cm.isSome = true then m else c') - l := by
          cases cm with
          | none => have := r5 rfl; simp; omega
          | some q => simp
        have hrun : (Instr.sliceAt t (a.eval x) (lo.map a.eval) (hi.map a.eval) (mx.map a.eval)).run P w =
            .ok (.slice (some (if (if cm.isSome then m else c') = l then A else A.add (l * es))) (r - l) ((if cm.isSome then m else c') - l)) w := by
          unfold Instr.sliceAt
          rw [Sem.run_bind, run_underlying ht, Result.andThen_ok]
          simp only [Instr.slice, Sem.run_bind, run_underlying ht, Result.andThen_ok, g2, r1, run_sizeOf hi', hs', Sem.run_pure]
          simp only [hmi]
          split <;> (simp only [Option.map_some]; split <;> rfl)
        refine OpOK.pure s (by simp [execOp, ho, hrun]; rfl) (.inr ⟨lc, _, _, g1, rfl, by omega, hmm, ?_⟩)
        rw [← hst, stepTo_at]
        have hM : (if cm.isSome = true then m else c') = l ∨ c' ≠ 0 := by
          cases cm with
          | none => have := r5 rfl; simp; omega
          | some q => simp; omega
        generalize (if cm.isSome = true then m else c') = M at *
        by_cases hML : M = l
        · right; omega
        · left
          rw [if_neg hML]
          rcases g6 with rfl | g6
          · rfl
          · exact absurd g6 (hM.resolve_left hML)
    · cases h
  · rename_i e1
    split at h
    · rename_i l r m ok q1
      simp only [Option.some.injEq, Prod.mk.injEq] at h
      obtain ⟨rfl, rfl, rfl⟩ := h
      rw [e1] at h1
      simp only [VRel] at h1
      obtain ⟨r1, r2, r3, r4, r5⟩ := segs_run (P := P) (sl := true) q1 (optd_rel hl he) (optd_rel hh he) (optd_rel hm he) (Nat.le_refl 0) w
      obtain rfl : m = 0 := by omega
      obtain rfl : r = 0 := by omega
      obtain rfl : l = 0 := by omega
      have hrun : (Instr.sliceAt t (a.eval x) (lo.map a.eval) (hi.map a.eval) (mx.map a.eval)).run P w = .ok (.slice none 0 0) w := by
        unfold Instr.sliceAt
        rw [Sem.run_bind, run_underlying ht, Result.andThen_ok]
        simp only [Instr.slice, Sem.run_bind, run_underlying ht, Result.andThen_ok, h1, r1, run_sizeOf hi', hs', Sem.run_pure]
        simp
      exact OpOK.pure (x := .slice none 0 0) s (by simp [execOp, ho, hrun]) rfl
    · cases h
  · cases h
end
end Go.Eng
