/- The engine, fifth part: the other operations. -/
import Derived.Test.YtieikjgfndojpaaGreatEn03
namespace Go.Eng
open Go Go.RowKit
set_option linter.unusedVariables false
set_option linter.unusedSimpArgs false
section
variable {P : Program} {o : Oper} {a : Act} {μ : Mu} {H H' : AH} {w : World} {ev : CX → AV} {v : AV}
theorem setAll_rel {μ : Mu} : ∀ {vs : List AV} {us : List Value} (o : Nat) {cs : List AV} {xs : Array Value}, VRels μ vs us → VRels μ cs xs.toList → VRels μ (setAll cs o vs) (setFrom o us xs).toList
  | [], [], _, _, _, _, h => h
  | v :: vs, u :: us, o, cs, xs, h, h2 => by
    rw [setAll, setFrom]
    refine setAll_rel (o + 1) h.2 ?_
    rw [Array.toList_setIfInBounds]
    exact VRels.set h2 o h.1
  | [], _ :: _, _, _, _, q, _ => q.elim
  | _ :: _, [], _, _, _, q, _ => q.elim
theorem foldl_setFrom : ∀ (us : List Value) (off k : Nat) (cs : Array Value), ((us.zipIdx k).foldl (fun cs (p : Value × Nat) => cs.setIfInBounds (off + p.2) p.1) cs) = setFrom (off + k) us cs
  | [], _, _, _ => rfl
  | u :: us, off, k, cs => by
    simp only [List.zipIdx_cons, List.foldl_cons, setFrom]
    rw [foldl_setFrom us off (k + 1)]
    rfl
theorem setFrom_one : ∀ (us : List Value) (o : Nat) (C : Array Value), (∀ u ∈ us, u.oneCell' = true) → (∀ u ∈ C.toList, u.oneCell' = true) → ∀ u ∈ (setFrom o us C).toList, u.oneCell' = true
  | [], _, _, _, h => h
  | u :: us, o, C, h1, h2 => by
    rw [setFrom]
    refine setFrom_one us (o + 1) _ (fun x hx => h1 x (by simp [hx])) (fun x hx => ?_)
    rw [Array.toList_setIfInBounds] at hx
    rcases List.mem_or_eq_of_mem_set hx with hx | rfl
    · exact h2 x hx
    · exact h1 x (by simp)
theorem setFrom_len (us : List Value) (o : Nat) (C : Array Value) : (setFrom o us C).toList.length = C.size := by simp [setFrom_size]
theorem cfill_rel {place : Nat → Option (Nat × Nat)} (he : Ev μ ev a) : ∀ {ps : List (Nat × Operand)} {qs : List (Nat × Nat × CX)} {cs : List AV} {xs : Array Value} {ds : List AV}, partsOf place ps = some qs → VRels μ cs xs.toList → (∀ u ∈ xs.toList, u.oneCell' = true) → cfill ev qs cs = some ds →
    ∃ ys, Instr.fill place xs (ps.map fun p => (p.1, a.eval p.2)) = some ys ∧ VRels μ ds ys.toList ∧ (∀ u ∈ ys.toList, u.oneCell' = true)
  | [], qs, cs, xs, ds, h, h2, h3, h4 => by
    simp only [partsOf, Option.some.injEq] at h
    subst h
    simp only [cfill, Option.some.injEq] at h4
    subst h4
    exact ⟨xs, rfl, h2, h3⟩
  | (i, x) :: ps, qs, cs, xs, ds, h, h2, h3, h4 => by
    simp only [partsOf] at h
    split at h
    · rename_i off sz c r e1 e2 e3
      simp only [Option.some.injEq] at h
      subst h
      simp only [cfill] at h4
      split at h4
      · rename_i vs hvs
        rcases hb : (Nat.beq vs.length sz && Nat.ble (off + vs.length) cs.length) with _ | _
        · rw [hb] at h4; cases h4
        · rw [hb] at h4
          simp only [cond_true] at h4
          simp only [Bool.and_eq_true] at hb
          have hb1 : vs.length = sz := Nat.eq_of_beq_eq_true hb.1
          have hb2 := Nat.le_of_ble_eq_true hb.2
          obtain ⟨g1, g2⟩ := AV.cellsOf_rel hvs (he x c e2)
          have hl1 : (a.eval x).cells.size = vs.length := by have := g1.len; simpa using this.symm
          have hl2 : xs.size = cs.length := by have := h2.len; simpa using this.symm
          obtain ⟨ys, y1, y2, y3⟩ := cfill_rel he e3 (xs := setFrom off (a.eval x).cells.toList xs) (setAll_rel off g1 h2) (setFrom_one _ _ _ g2 h3) h4
          refine ⟨ys, ?_, y2, y3⟩
          simp only [List.map_cons, Instr.fill, e1]
          rw [if_neg (by simp [hl1, hb1, hl2]; omega), ← y1]
          congr 1
          have := foldl_setFrom (a.eval x).cells.toList off 0 xs
          rw [Nat.add_zero] at this
          rw [← this, ← Array.foldl_toList, Array.toList_zipIdx]
      · cases h4
    · cases h
theorem partsOf_congr {p q : Nat → Option (Nat × Nat)} (h : ∀ i r, p i = some r → q i = some r) : ∀ {ps : List (Nat × Operand)} {qs}, partsOf p ps = some qs → partsOf q ps = some qs
  | [], _, e => e
  | (i, x) :: ps, qs, e => by
    simp only [partsOf] at e ⊢
    split at e
    · rename_i off sz c r e1 e2 e3
      cases e
      rw [h _ _ e1, e2, partsOf_congr h e3]
    · cases e
theorem mapM_run {α β : Type} {g : α → Sem β} {f : α → β} (w : World) : ∀ (l : List α), (∀ x ∈ l, (g x).run P w = .ok (f x) w) → (l.mapM g).run P w = .ok (l.map f) w
  | [], _ => by simp
  | x :: l, h => by
    rw [List.mapM_cons, Sem.run_bind, h x (by simp), Result.andThen_ok, Sem.run_bind, mapM_run w l (fun y hy => h y (by simp [hy]))]
    rfl
theorem run_sizeOf {t : TypeId} {i : TypeInfo} (h : P.info? t = some i) (w : World) : (sizeOf t).run P w = .ok i.size w := by simp [sizeOf, typeInfo, h]
theorem run_place_fields (fs : Array Field) (w : World) (h : ∀ f ∈ fs.toList, (P.info? f.type).isSome = true) :
    (fs.mapM (m := Sem) fun f => do pure (f.offset, ← sizeOf f.type)).run P w = .ok (fs.map fun f => (f.offset, ((P.info? f.type).map (·.size)).getD 0)) w := by
  rw [Array.mapM_eq_mapM_toList, Sem.run_map, mapM_run (f := fun f => (f.offset, ((P.info? f.type).map (·.size)).getD 0)) w fs.toList]
  · rw [Result.andThen_ok]; congr 1; apply Array.ext'; simp
  · intro f hf
    obtain ⟨i, hi⟩ := Option.isSome_iff_exists.1 (h f hf)
    rw [Sem.run_bind, run_sizeOf hi]
    simp [hi]
theorem fill_congr {p q : Nat → Option (Nat × Nat)} : ∀ {l : List (Nat × Value)} {cs : Array Value}, (∀ x ∈ l, p x.1 = q x.1) → Instr.fill p cs l = Instr.fill q cs l
  | [], _, _ => rfl
  | (i, v) :: l, cs, h => by
    have e : p i = q i := h (i, v) (by simp)
    simp only [Instr.fill, e]
    rcases q i with _ | ⟨off, size⟩
    · rfl
    · simp only []
      split
      · rfl
      · exact fill_congr (fun x hx => h x (by simp [hx]))
theorem partsOf_place {place : Nat → Option (Nat × Nat)} : ∀ {ps : List (Nat × Operand)} {qs}, partsOf place ps = some qs → ∀ x ∈ ps, (place x.1).isSome = true
  | [], _, _, x, hx => by cases hx
  | (i, y) :: ps, qs, e, x, hx => by
    simp only [partsOf] at e
    split at e
    · rename_i off sz c r e1 e2 e3
      rcases List.mem_cons.1 hx with rfl | hx
      · simp [e1]
      · exact partsOf_place e3 x hx
    · cases e
/-- Each field's type is one that the program has. -/
def fieldsOk (P : Program) (fs : Array Field) : Bool := fs.toList.all fun f => (P.info? f.type).isSome
theorem ok_build_struct {t : TypeId} {ps : Array (Nat × Operand)} {fs : Array Field} {z : List AV} {qs} (ho : o.op = .build t ps) (hz : zeroOf P t = some z) (ht : P.underlying t = some (.struct fs)) (hf : fieldsOk P fs = true) (hp : partsOf (fieldsAt P fs) ps.toList = some qs)
    (he : Ev μ ev a) (s : Sat μ H w) (h : cstep ev H (.build z qs) = some (v, H', true)) : OpOK P o a μ H w v H' := by
  obtain ⟨i, zv, h1, h2, h3, h4⟩ := zeroOf_spec hz μ
  simp only [cstep] at h
  split at h
  · rename_i cs hcs
    cases h
    obtain ⟨ys, y1, y2, y3⟩ := cfill_rel he hp h3 h4 hcs
    refine OpOK.pure (x := .agg ys) s ?_ ⟨ys, rfl, y2⟩
    have hm : ((fs.mapM (m := Sem) fun f => do pure (f.offset, ← sizeOf f.type))).run P w = _ := run_place_fields fs w (fun f hf' => List.all_eq_true.1 hf f hf')
    have hfill : Instr.fill (fun i => (fs.map fun f => (f.offset, ((P.info? f.type).map (·.size)).getD 0))[i]?) zv.cells (ps.toList.map fun p => (p.1, a.eval p.2)) = some ys := by
      rw [← y1]
      refine fill_congr (fun x hx => ?_)
      obtain ⟨p, hp1, rfl⟩ := List.mem_map.1 hx
      have := partsOf_place hp p hp1
      obtain ⟨r, hr⟩ := Option.isSome_iff_exists.1 this
      show _ = fieldsAt P fs p.1
      rw [hr]
      unfold fieldsAt at hr
      split at hr
      · rename_i f hf'
        split at hr
        · rename_i q hq
          cases hr
          simp [hf', hq]
        · cases hr
      · cases hr
    simp only [execOp, ho]
    have hzv : (zeroValue t).run P w = .ok zv w := by simp [zeroValue, typeInfo, h1, h2]
    have hb : (Instr.build t (ps.map fun p => (p.1, a.eval p.2))).run P w = .ok (.agg ys) w := by
      unfold Instr.build
      rw [Sem.run_bind, hzv, Result.andThen_ok, Sem.run_bind, run_underlying ht, Result.andThen_ok]
      simp only []
      rw [Sem.run_bind, hm, Result.andThen_ok]
      simp only [Array.toList_map, hfill]
      rfl
    simp [hb]
  · cases h
theorem ok_build_array {t e : TypeId} {n es : Nat} {ps : Array (Nat × Operand)} {z : List AV} {qs} (ho : o.op = .build t ps) (hz : zeroOf P t = some z) (ht : P.underlying t = some (.array n e)) (hs : szOf P e = some es) (hp : partsOf (fun i => some (i * es, es)) ps.toList = some qs)
    (he : Ev μ ev a) (s : Sat μ H w) (h : cstep ev H (.build z qs) = some (v, H', true)) : OpOK P o a μ H w v H' := by
  obtain ⟨i, zv, h1, h2, h3, h4⟩ := zeroOf_spec hz μ
  simp only [cstep] at h
  split at h
  · rename_i cs hcs
    cases h
    obtain ⟨ys, y1, y2, y3⟩ := cfill_rel he hp h3 h4 hcs
    refine OpOK.pure (x := .agg ys) s ?_ ⟨ys, rfl, y2⟩
    obtain ⟨i', hi', hs'⟩ : ∃ i', P.info? e = some i' ∧ i'.size = es := by
      unfold szOf at hs
      rcases hq : P.info? e with _ | i'
      · simp [hq] at hs
      · exact ⟨i', rfl, by simpa [hq] using hs⟩
    simp only [execOp, ho]
    simp [Instr.build, zeroValue, sizeOf, typeInfo, h1, h2, run_underlying ht, hi', hs', y1]
  · cases h
theorem flat_rel {z : List AV} {zs : List Value} (h : VRels μ z zs) : ∀ n, VRels μ (flat z n) ((List.replicate n zs).flatten)
  | 0 => trivial
  | n + 1 => by rw [List.replicate_succ, List.flatten_cons]; exact h.append (flat_rel h n)
theorem zeros_list (z : Array Value) (es : Nat) (h : z.size = es) (h0 : 0 < es) (n : Nat) : ((Array.range (n * es)).map (fun i => z[i % z.size]!)).toList = (List.replicate n z.toList).flatten := by
  apply List.ext_getElem?
  intro i
  rw [Array.toList_map, Array.toList_range, List.getElem?_map]
  have key : ∀ (n i : Nat), ((List.replicate n z.toList).flatten)[i]? = if i < n * es then some (z[i % es]!) else none := by
    intro n
    induction n with
    | zero => intro i; simp
    | succ n ih =>
      intro i
      rw [List.replicate_succ, List.flatten_cons]
      rcases Nat.lt_or_ge i es with hi | hi
      · rw [List.getElem?_append_left (by simpa [h] using hi), if_pos (by rw [Nat.succ_mul]; omega), Nat.mod_eq_of_lt hi]
        have : i < z.size := by omega
        simp [this]
      · rw [List.getElem?_append_right (by simpa [h] using hi)]
        simp only [Array.length_toList, h]
        rw [ih, Nat.succ_mul]
        have e2 : (i - es) % es = i % es := by rw [Nat.mod_eq_sub_mod hi]
        rw [e2]
        by_cases hlt : i < n * es + es
        · rw [if_pos hlt, if_pos (by omega)]
        · rw [if_neg hlt, if_neg (by omega)]
  rw [key, h]
  by_cases hlt : i < n * es
  · simp [hlt]
  · rw [if_neg hlt, List.getElem?_eq_none (by simpa using hlt)]
    rfl
theorem toInts_spec {k : IntKind} : ∀ {cs : List AV} {xs : List Int}, toInts k cs = some xs → cs = xs.map (AV.int k)
  | [], xs, h => by simp only [toInts, Option.some.injEq] at h; subst h; rfl
  | v :: vs, xs, h => by
    cases v with
    | int q n =>
      simp only [toInts] at h
      by_cases e : q = k
      · subst e
        simp only [decide_true, cond_true] at h
        split at h
        · rename_i ys hys
          cases h
          rw [toInts_spec hys]; rfl
        · cases h
      · simp [e] at h
    | _ => simp [toInts] at h
theorem row_holds {es : Nat} {z cs : List AV} {xs : List Value} (h0 : 0 < es) (hz : z.length = es) (h : VRels μ cs xs) (h1 : ∀ u ∈ xs, u.oneCell' = true) : Holds μ (AC.row es z cs) es 0 xs.toArray := by
  unfold AC.row
  split
  · rename_i k n
    split
    · rename_i ys hys
      have e := toInts_spec hys
      subst e
      refine ⟨(fun es e => by cases e), fun i j hi => ?_⟩
      simp only [AC.inb, Bool.and_eq_true, decide_eq_true_eq] at hi
      obtain ⟨hst, hi⟩ := hi
      obtain rfl : es = 1 := Nat.eq_of_beq_eq_true hst
      have hl := h.len
      rw [List.length_map] at hl
      have hx : xs[i + j]? = some (xs[i + j]'(by omega)) := List.getElem?_eq_getElem _
      refine ⟨xs[i + j]'(by omega), by simp, ?_, h1 _ (List.getElem_mem _)⟩
      have := h.get _ _ hx
      rw [List.getD_eq_getElem?_getD, List.getElem?_map, List.getElem?_eq_getElem hi] at this
      simp only [AC.val]
      rw [List.getD_eq_getElem?_getD, List.getElem?_eq_getElem hi]
      exact this
    · exact holds_cells es h h1
  · exact holds_cells es h h1
theorem ok_buildS {t e : TypeId} {es len : Nat} {ps : Array (Nat × Operand)} {z : List AV} {qs} (ho : o.op = .buildSlice t len ps) (ht : P.underlying t = some (.slice e)) (hs : szOf P e = some es) (hz : zeroOf P e = some z) (hl : z.length = es) (hm : len * es ≤ 16777216) (h0 : 0 < es)
    (hp : partsOf (fun i => some (i * es, es)) ps.toList = some qs) (he : Ev μ ev a) (s : Sat μ H w) (h : cstep ev H (.buildS es len z qs) = some (v, H', true)) : OpOK P o a μ H w v H' := by
  obtain ⟨i, zv, h1, h2, h3, h4⟩ := zeroOf_spec hz μ
  have hzl : zv.cells.size = es := by have := h3.len; simp at this; omega
  have hie : i.size = es := by simpa [szOf, h1] using hs
  simp only [cstep] at h
  split at h
  · rename_i cs hcs
    cases h
    have hzl' := zeros_list zv.cells es hzl h0 len
    have hzz : VRels μ (flat z len) ((Array.range (len * es)).map (fun i => zv.cells[i % zv.cells.size]!)).toList := by rw [hzl']; exact flat_rel h3 len
    have hz1 : ∀ u ∈ ((Array.range (len * es)).map (fun i => zv.cells[i % zv.cells.size]!)).toList, u.oneCell' = true := by
      rw [hzl']
      intro u hu
      obtain ⟨l, hl', hu'⟩ := List.mem_flatten.1 hu
      rw [(List.mem_replicate.1 hl').2] at hu'
      exact h4 u hu'
    obtain ⟨ys, y1, y2, y3⟩ := cfill_rel he hp hzz hz1 hcs
    obtain ⟨q1, q2⟩ := s.alloc ⟨true, es, AC.row es z cs⟩ ys e (by simpa using row_holds h0 hl y2 y3)
    refine ⟨_, .slice (some ⟨w.heap.size, 0, none⟩) len len, _, _, ?_, .inl rfl, ?_, q1, q2⟩
    · have hm' : ¬ (16777216 < len * es) := by omega
      simp only [execOp, ho]
      by_cases hn : len * es = 0
      · have e0 : (Array.range (len * es)).map (fun i => zv.cells[i % zv.cells.size]!) = #[] := by rw [hn, Array.range_zero']; simp
        rw [e0] at y1
        have e1 : ∀ Z : Array Value, (Array.range (len * es)).map (fun i => Z[i % Z.size]!) = #[] := fun Z => by rw [hn, Array.range_zero']; simp
        simp [Instr.buildSlice, run_underlying ht, sizeOf, typeInfo, h1, hie, hm', hn, newRow, Array.range_zero', y1]
      · simp [Instr.buildSlice, run_underlying ht, sizeOf, zeroValue, typeInfo, h1, h2, hie, hm', hn, newRow, y1]
    · exact ⟨⟨w.heap.size, 0, es, 0⟩, _, len, if_pos rfl, rfl, Nat.le_refl _, Nat.le_refl _, fun _ => rfl, .inl (by simp [Loc.at]), (fun h => by cases h)⟩
  · cases h
end
end Go.Eng
