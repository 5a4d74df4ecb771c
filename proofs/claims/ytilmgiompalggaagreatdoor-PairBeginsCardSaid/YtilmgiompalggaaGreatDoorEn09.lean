/- The engine, tenth part, maps: made, asked, filled, emptied. -/
import Derived.Test.YtilmgiompalggaaGreatDoorEn08
import Derived.MapKept
import Derived.WideKeyRuns
namespace Go.Eng
open Go Go.RowKit
set_option linter.unusedVariables false
set_option linter.unusedSimpArgs false
theorem VRels.cons_left {μ : Mu} {v : AV} {vs : List AV} {xs : List Value} (h : VRels μ (v :: vs) xs) : ∃ x ys, xs = x :: ys ∧ VRel μ v x ∧ VRels μ vs ys := by
  cases xs with
  | nil => exact h.elim
  | cons x ys => exact ⟨x, ys, rfl, h.1, h.2⟩
/-! ### keys -/
theorem leaf_int {u v : AV} {b : Bool} (h : eqLeaf .i u v = some b) : ∃ k a a', u = .int k a ∧ v = .int k a' ∧ b = (a == a') := by
  unfold eqLeaf at h
  split at h
  · rename_i k a k' a' _
    rcases hk : (decide (k = k')) with _ | _
    · rw [hk] at h; cases h
    · rw [hk] at h
      have := of_decide_eq_true hk
      subst this
      cases h
      exact ⟨k, a, a', rfl, rfl, rfl⟩
  · rename_i q; cases q
  · rename_i q; cases q
  · cases h
theorem now_ok {kk : IntKind} {μ : Mu} {u : AV} {x : Value} (hx : VRel μ u x) : ∀ (es : List (AV × AV)) (en : List MapEntry) (i : Nat) (r : Option Nat), VRels μ (es.map (·.1)) (en.map (·.key)) → mfind (.one .i) u es i = some r →
    match r with
    | none => Instr.findNow (.int kk) x en i = some none
    | some n => ∃ m e, n = i + m ∧ en[m]? = some e ∧ Instr.findNow (.int kk) x en i = some (some (n, e.val))
  | [], en, i, r, hv, h => by
    cases en with
    | nil => simp only [mfind, Option.some.injEq] at h; subst h; rfl
    | cons e en => exact hv.elim
  | p :: es, en, i, r, hv, h => by
    cases en with
    | nil => exact hv.elim
    | cons e en =>
      obtain ⟨h1, h2⟩ := hv
      unfold mfind at h
      simp only [eqS] at h
      split at h
      · rename_i hq
        cases h
        obtain ⟨k, a, a', rfl, e1, e2⟩ := leaf_int hq
        have h1 : VRel μ p.1 e.key := h1
        rw [e1] at h1
        simp only [VRel] at hx h1
        refine ⟨0, e, rfl, rfl, ?_⟩
        simp [Instr.findNow, Instr.sameNow, hx, h1, ← e2]
      · rename_i hq
        obtain ⟨k, a, a', rfl, e1, e2⟩ := leaf_int hq
        have ih := now_ok (kk := kk) hx es en (i + 1) r h2 h
        have h1 : VRel μ p.1 e.key := h1
        rw [e1] at h1
        simp only [VRel] at hx h1
        have st : Instr.findNow (.int kk) x (e :: en) i = Instr.findNow (.int kk) x en (i + 1) := by
          simp [Instr.findNow, Instr.sameNow, hx, h1, ← e2]
        cases r with
        | none => exact st.trans ih
        | some n =>
          obtain ⟨m, e', q1, q2, q3⟩ := ih
          exact ⟨m + 1, e', by omega, by simpa using q2, st.trans q3⟩
      · cases h
theorem ask_ok {P : Program} {kt : TypeId} {s : ES} (hs : esOf P 8 kt = some s) {μ : Mu} {u : AV} {x : Value} (hx : VRel μ u x) (w : World) : ∀ (es : List (AV × AV)) (en : List MapEntry) (i : Nat) (r : Option Nat), VRels μ (es.map (·.1)) (en.map (·.key)) → mfind s u es i = some r →
    match r with
    | none => (Instr.findAsking kt x en i).run P w = .ok none w
    | some n => ∃ m e, n = i + m ∧ en[m]? = some e ∧ (Instr.findAsking kt x en i).run P w = .ok (some (n, e.val)) w
  | [], en, i, r, hv, h => by
    cases en with
    | nil => simp only [mfind, Option.some.injEq] at h; subst h; simp [Instr.findAsking]
    | cons e en => exact hv.elim
  | p :: es, en, i, r, hv, h => by
    cases en with
    | nil => exact hv.elim
    | cons e en =>
      obtain ⟨h1, h2⟩ := hv
      unfold mfind at h
      split at h
      · rename_i hq
        cases h
        have hr : (Op.equal kt x e.key).run P w = .ok true w := eqS_ok 8 kt s hs 10000 (by omega) μ _ _ _ _ _ w hx h1 hq
        exact ⟨0, e, rfl, rfl, by simp [Instr.findAsking, hr]⟩
      · rename_i hq
        have hr : (Op.equal kt x e.key).run P w = .ok false w := eqS_ok 8 kt s hs 10000 (by omega) μ _ _ _ _ _ w hx h1 hq
        have ih := ask_ok hs hx w es en (i + 1) r h2 h
        have st : (Instr.findAsking kt x (e :: en) i).run P w = (Instr.findAsking kt x en (i + 1)).run P w := by simp [Instr.findAsking, hr]
        cases r with
        | none => exact st.trans ih
        | some n =>
          obtain ⟨m, e', q1, q2, q3⟩ := ih
          exact ⟨m + 1, e', by omega, by simpa using q2, st.trans q3⟩
      · cases h
/-- Where a key is found. -/
theorem find_ok {P : Program} {kt : TypeId} {s : ES} (hk : keyES P kt = some s) {μ : Mu} {u : AV} {x : Value} (hx : VRel μ u x) (w : World) {es : List (AV × AV)} {en : List MapEntry} {r : Option Nat} (hv : VRels μ (es.map (·.1)) (en.map (·.key))) (h : mfind s u es 0 = some r) :
    match r with
    | none => (Instr.findKey kt x en).run P w = .ok none w
    | some n => ∃ e, en[n]? = some e ∧ (Instr.findKey kt x en).run P w = .ok (some (n, e.val)) w := by
  unfold keyES at hk
  split at hk
  · rename_i kk hu
    cases hk
    have q := now_ok (kk := kk) hx es en 0 r hv h
    cases r with
    | none => exact MapKept.run_findKey hu q
    | some n =>
      obtain ⟨m, e, q1, q2, q3⟩ := q
      have : n = m := by omega
      subst this
      exact ⟨e, q2, MapKept.run_findKey hu q3⟩
  · rename_i fs hu
    have hk : esOf P 8 kt = some s := by
      rcases hb : fs.toList.all (intFld P) with _ | _
      · rw [hb] at hk; cases hk
      · rw [hb] at hk; exact hk
    have e0 : (Instr.findKey kt x en).run P w = (Instr.findAsking kt x en).run P w := run_findKey_eq w (by simp [hu]) x en
    have q := ask_ok hk hx w es en 0 r hv h
    cases r with
    | none => exact e0.trans q
    | some n =>
      obtain ⟨m, e, q1, q2, q3⟩ := q
      have : n = m := by omega
      subst this
      exact ⟨e, q2, e0.trans q3⟩
  · cases hk
theorem fits_parts {P : Program} {f : TypeId → Option ES} {as : List AV} : ∀ (fs : List Field) {l : EL} {b : Bool}, elOf P f (fs.map fun g => (g.offset, g.type)) = some l → eqL l as as = some b → ∀ g ∈ fs, ∃ sz, aggSz P g.type = some sz ∧ partA g.offset sz as ≠ .any
  | [], _, _, _, _ => fun g hg => by cases hg
  | h :: fs, l, b, hl, hb => by
    simp only [List.map_cons, elOf] at hl
    split at hl
    · rename_i sz s r e1 e2 e3
      cases hl
      simp only [eqL] at hb
      split at hb
      · rename_i b1 b2 q1 q2
        intro g hg
        rcases List.mem_cons.1 hg with rfl | hg
        · exact ⟨sz, e1, fun h => by rw [h, eqS_any] at q1; cases q1⟩
        · exact fits_parts fs e3 q2 g hg
      · cases hb
    · cases hl
theorem check_int {P : Program} {w : World} {t : TypeId} {kk : IntKind} (hu : P.underlying t = some (.int kk)) (x : Value) (em : Bool) (n : Nat) : (Instr.checkKey em (n + 1) t x).run P w = .ok () w := by
  unfold Instr.checkKey
  simp [run_underlying hu, Result.andThen]
/-- A key may be one. -/
theorem check_ok {P : Program} {kt : TypeId} {s : ES} (hk : keyES P kt = some s) {μ : Mu} {u : AV} {x : Value} (hx : VRel μ u x) (hf : keyFits s u = true) (w : World) (em : Bool) : (Instr.checkKey em 10000 kt x).run P w = .ok () w := by
  unfold keyES at hk
  split at hk
  · rename_i kk hu
    exact check_int hu x em 9999
  · rename_i fs hu
    rcases hb : fs.toList.all (intFld P) with _ | _
    · rw [hb] at hk; cases hk
    · rw [hb] at hk
      have hall := List.all_eq_true.1 hb
      have hk : esOf P 8 kt = some s := hk
      unfold esOf at hk
      rw [hu] at hk
      simp only [] at hk
      rcases hc : (P.stoodInHeld kt || fs.toList.any (fun f => f.name == "_")) with _ | _
      · rw [hc] at hk
        simp only [cond_false, Option.map_eq_some_iff] at hk
        obtain ⟨l, hl, rfl⟩ := hk
        unfold keyFits at hf
        split at hf
        · rename_i b hb2
          have hu2 : ∃ as, u = .agg as ∧ eqL l as as = some b := by
            cases u with
            | agg as => exact ⟨as, rfl, by simpa [eqS] using hb2⟩
            | _ => simp [eqS] at hb2
          obtain ⟨as, rfl, hb2⟩ := hu2
          obtain ⟨xs, rfl, hxs⟩ := hx
          · have parts := fits_parts fs.toList hl hb2
            unfold Instr.checkKey
            simp only [Sem.run_bind, run_underlying hu, Result.andThen_ok]
            rw [← Array.forIn_toList]
            generalize fs.toList = L at parts hall
            clear hb2 hl
            induction L with
            | nil => simp
            | cons f L ih =>
              obtain ⟨sz, p1, p2⟩ := parts f (by simp)
              obtain ⟨y, y1, y2⟩ := partA_run (P := P) p1 hxs w p2
              have hi : ∃ kk, P.underlying f.type = some (.int kk) := by
                have := hall f (by simp)
                unfold intFld at this
                split at this
                · rename_i kk h1; exact ⟨kk, h1⟩
                · cases this
              obtain ⟨kk, hi⟩ := hi
              have c := check_int (w := w) hi y em 9998
              have ih := ih (fun g hg => parts g (by simp [hg])) (fun g hg => hall g (by simp [hg]))
              by_cases hn : f.name = "_"
              · simp only [List.forIn_cons, Sem.run_bind, hn, ne_eq, not_true_eq_false, if_false, Sem.run_pure, Result.andThen_ok]
                exact ih
              · simp only [List.forIn_cons, Sem.run_bind, hn, ne_eq, not_false_eq_true, if_true, Result.andThen_ok, y1, c, Sem.run_pure]
                exact ih
        · cases hf
      · rw [hc] at hk; cases hk
  · cases hk
/-! ### blocks -/
theorem Sat.allocMap {μ : Mu} {H : AH} {w : World} (s : Sat μ H w) :
    Sat (μ.add H.next ⟨w.heap.size, 0, 1, 0⟩) (H.push ⟨true, 1, .map []⟩) (w.alloc (.map #[] 0)) ∧ Fr μ H (μ.add H.next ⟨w.heap.size, 0, 1, 0⟩) (H.push ⟨true, 1, .map []⟩) w (w.alloc (.map #[] 0)) := by
  have hn := s.fresh H.next (Nat.le_refl _)
  have hle := Mu.add_le hn ⟨w.heap.size, 0, 1, 0⟩
  have hat : (w.alloc (.map #[] 0)).heap[w.heap.size]? = some (.map #[] 0) := by
    show (w.heap.push _)[w.heap.size]? = _
    rw [Array.getElem?_push_size]
  refine ⟨⟨fun c hc => ?_, fun c k hk => ?_, fun c c' k k' l l' h1 h2 hne ho g1 g2 => ?_⟩, ⟨fun c hc => ?_, Nat.le_succ _, rfl, rfl, rfl, by simp, fun k hk _ => Below.heap_alloc _ _ _ hk, fun c x l h1 h2 => ?_⟩⟩
  · have hc' : H.next + 1 ≤ c := hc
    unfold Mu.add
    rw [if_neg (by omega)]
    exact s.fresh c (by omega)
  · rw [AH.get_push] at hk
    by_cases e : c = H.next
    · rw [if_pos e] at hk
      cases hk
      exact ⟨⟨w.heap.size, 0, 1, 0⟩, if_pos e, #[], 0, hat, trivial, trivial⟩
    · rw [if_neg e] at hk
      obtain ⟨l, g1, g2⟩ := s.blk c k hk
      exact ⟨l, hle _ _ g1, g2.move hle (Below.heap_alloc _ _ _ g2.blk_lt)⟩
  · rw [AH.get_push] at h1 h2
    unfold Mu.add at g1 g2
    by_cases e : c = H.next
    · rw [if_pos e] at g1
      cases g1
      have e' : ¬ c' = H.next := fun h => hne (e.trans h.symm)
      rw [if_neg e'] at h2 g2
      obtain ⟨l2, q1, q2⟩ := s.blk c' k' h2
      rw [g2] at q1; cases q1
      have := q2.blk_lt
      show w.heap.size ≠ _
      omega
    · rw [if_neg e] at h1 g1
      by_cases e' : c' = H.next
      · rw [if_pos e'] at g2
        cases g2
        obtain ⟨l2, q1, q2⟩ := s.blk c k h1
        rw [g1] at q1; cases q1
        have := q2.blk_lt
        show _ ≠ w.heap.size
        omega
      · rw [if_neg e'] at h2 g2
        exact s.sep c c' k k' l l' h1 h2 hne ho g1 g2
  · unfold Mu.add; rw [if_neg (by omega)]
  · rw [AH.get_push] at h1
    unfold Mu.add at h2
    by_cases e : c = H.next
    · rw [if_pos e] at h2; cases h2; exact .inl (Nat.le_refl _)
    · rw [if_neg e] at h1 h2; exact .inr ⟨c, x, l, h1, h2, rfl, id⟩
theorem Sat.mapBlk {μ : Mu} {H : AH} {w : World} (s : Sat μ H w) {b : Nat} {y : ABlk} {es : List (AV × AV)} (hb : H.get b = some y) (hc : y.c = .map es) : ∃ l en ck, μ b = some l ∧ w.heap[l.blk]? = some (.map en ck) ∧ MRel μ es en.toList := by
  obtain ⟨l, h1, h2⟩ := s.blk b y hb
  unfold BSat at h2
  rw [hc] at h2
  obtain ⟨en, ck, q1, q2⟩ := h2
  exact ⟨l, en, ck, h1, q1, q2⟩
theorem entry_val {μ : Mu} {es : List (AV × AV)} {en : List MapEntry} (h : MRel μ es en) {n : Nat} {e : MapEntry} (he : en[n]? = some e) : VRel μ (es.getD n default).2 e.val ∧ VRel μ (es.getD n default).1 e.key ∧ n < es.length := by
  have hl : es.length = en.length := by have := h.1.len; simpa using this
  have hn : n < en.length := (List.getElem?_eq_some_iff.1 he).1
  have h2 := h.2.get n e.val (by simp [he])
  have h1 := h.1.get n e.key (by simp [he])
  have g : es[n]? = some es[n] := List.getElem?_eq_getElem (by omega)
  refine ⟨?_, ?_, by omega⟩
  · rw [List.getD_eq_getElem?_getD, g]
    simpa [List.getD_eq_getElem?_getD, g] using h2
  · rw [List.getD_eq_getElem?_getD, g]
    simpa [List.getD_eq_getElem?_getD, g] using h1
section
variable {P : Program} {o : Oper} {a : Act} {μ : Mu} {H H' : AH} {w : World} {ev : CX → AV} {v : AV}
theorem ok_mkmap {t : TypeId} (ho : o.op = .makeMap t none) (s : Sat μ H w) : OpOK P o a μ H w (.map H.next) (H.push ⟨true, 1, .map []⟩) := by
  obtain ⟨s1, f1⟩ := s.allocMap
  refine ⟨.value (.map (some w.heap.size)), _, w.alloc (.map #[] 0), _, ?_, .inl rfl, ⟨_, if_pos rfl, rfl⟩, s1, f1⟩
  simp [execOp, ho, Instr.makeMap, newObj, Sem.run]
theorem ok_lkmap {t kt vt : TypeId} {x i : Operand} {ok : Bool} {s : ES} {z : AV} {cx ci : CX} (ho : o.op = .lookup t x i ok) (hu : P.underlying t = some (.map kt vt)) (hk : keyES P kt = some s) (hz : zeroAV P vt = some z) (hx : opd x = some cx) (hi : opd i = some ci) (he : Ev μ ev a) (sa : Sat μ H w) (h : mstep ev H (.lk s z ok cx ci) = some (v, H', true)) : OpOK P o a μ H w v H' := by
  have h1 := he x cx hx
  have h2 := he i ci hi
  obtain ⟨ti, zv, q1, q2, q3⟩ := zeroAV_spec hz
  have hzr := AV.ofV_rel q3 μ
  have hzv : (zeroValue vt).run P w = .ok zv w := by simp [zeroValue, typeInfo, q1, q2]
  have tup : ∀ v x b, VRel μ v x → VRel μ (bif ok then .tup [v, .bool b] else v) (if ok = true then .tuple #[x, .bool b] else x) := fun v x b hv => by
    cases ok
    · exact hv
    · exact ⟨_, rfl, hv, rfl, trivial⟩
  simp only [mstep] at h
  split at h
  · rename_i hq
    simp only [Option.some.injEq, Prod.mk.injEq] at h
    obtain ⟨rfl, rfl, hf⟩ := h
    rw [hq] at h1
    simp only [VRel] at h1
    have hc := check_ok hk h2 hf w true
    have hfd := find_ok (P := P) (kt := kt) hk h2 w (es := []) (en := []) (r := none) trivial rfl
    simp only [] at hfd
    refine OpOK.pure (x := if ok = true then .tuple #[zv, .bool false] else zv) sa ?_ (tup z zv false hzr)
    simp [execOp, ho, Instr.lookup, run_underlying hu, h1, hc, hfd, hzv, Result.andThen]
  · rename_i b hq
    rw [hq] at h1
    obtain ⟨l1, g1, g2⟩ := h1
    split at h
    · rename_i y hy
      split at h
      · rename_i es hes
        obtain ⟨l, en, ck, k1, k2, k3⟩ := sa.mapBlk hy hes
        rw [g1] at k1
        cases k1
        split at h
        · rename_i n hm
          simp only [Option.some.injEq, Prod.mk.injEq] at h
          obtain ⟨rfl, rfl, hf⟩ := h
          have hc := check_ok hk h2 hf w en.isEmpty
          obtain ⟨e, e1, e2⟩ := find_ok hk h2 w k3.1 hm
          have hv := (entry_val k3 e1).1
          refine OpOK.pure (x := if ok = true then .tuple #[e.val, .bool true] else e.val) sa ?_ (tup _ _ true hv)
          simp [execOp, ho, Instr.lookup, run_underlying hu, g2, MapKept.run_getObj_map k2, hc, e2, Result.andThen]
        · rename_i hm
          simp only [Option.some.injEq, Prod.mk.injEq] at h
          obtain ⟨rfl, rfl, hf⟩ := h
          have hc := check_ok hk h2 hf w en.isEmpty
          have e2 := find_ok hk h2 w k3.1 hm
          simp only [] at e2
          refine OpOK.pure (x := if ok = true then .tuple #[zv, .bool false] else zv) sa ?_ (tup z zv false hzr)
          simp [execOp, ho, Instr.lookup, run_underlying hu, g2, MapKept.run_getObj_map k2, hc, e2, hzv, Result.andThen]
        · cases h
      · cases h
    · cases h
  · cases h
theorem sameLeaf_val {x y : Value} {u v : AV} (h : sameLeaf u v = true) (hx : VRel μ u x) (hy : VRel μ v y) : x = y ∧ ∀ n, Instr.sameBits n x y = true := by
  unfold sameLeaf at h
  split at h
  · simp only [Bool.and_eq_true, decide_eq_true_eq] at h
    obtain ⟨rfl, rfl⟩ := h
    simp only [VRel] at hx hy
    subst hx hy
    exact ⟨rfl, fun n => by cases n <;> simp [Instr.sameBits]⟩
  · cases h
theorem sameLeaves_val : ∀ {us vs : List AV} {xs ys : List Value}, sameLeaves us vs = true → VRels μ us xs → VRels μ vs ys → xs.length = ys.length ∧ ∀ n, (xs.zip ys).all (fun p => Instr.sameBits n p.1 p.2) = true
  | [], [], [], [], _, _, _ => ⟨rfl, fun _ => rfl⟩
  | [], [], _ :: _, _, _, h, _ => h.elim
  | [], [], [], _ :: _, _, _, h => h.elim
  | _ :: _, _ :: _, [], _, _, h, _ => h.elim
  | _ :: _, _ :: _, _ :: _, [], _, _, h => h.elim
  | u :: us, v :: vs, x :: xs, y :: ys, h, h1, h2 => by
    simp only [sameLeaves, Bool.and_eq_true] at h
    obtain ⟨q1, q2⟩ := sameLeaves_val h.2 h1.2 h2.2
    have q3 := (sameLeaf_val h.1 h1.1 h2.1).2
    exact ⟨by simp [q1], fun n => by simp only [List.zip_cons_cons, List.all_cons, Bool.and_eq_true]; exact ⟨q3 n, q2 n⟩⟩
  | [], _ :: _, _, _, h, _, _ => by simp [sameLeaves] at h
  | _ :: _, [], _, _, h, _, _ => by simp [sameLeaves] at h
theorem sameKey_bits {x y : Value} {u v : AV} (h : sameKey u v = true) (hx : VRel μ u x) (hy : VRel μ v y) : Instr.sameBits 10000 x y = true := by
  unfold sameKey at h
  split at h
  · obtain ⟨xs, rfl, h1⟩ := hx
    obtain ⟨ys, rfl, h2⟩ := hy
    obtain ⟨q1, q2⟩ := sameLeaves_val h h1 h2
    have q1 : xs.size = ys.size := by simpa using q1
    have q2 := q2 9999
    rw [show (10000 : Nat) = 9999 + 1 from rfl]
    unfold Instr.sameBits
    simp only [Bool.and_eq_true, beq_iff_eq]
    exact ⟨q1, q2⟩
  · exact (sameLeaf_val h hx hy).2 10000
theorem mrel_push {es : List (AV × AV)} {en : Array MapEntry} (h : MRel μ es en.toList) {u v : AV} {k x : Value} {c : Nat} (hk : VRel μ u k) (hv : VRel μ v x) : MRel μ (es ++ [(u, v)]) (en.push { key := k, val := x, born := c }).toList := by
  have app : ∀ {us : List AV} {xs : List Value} {u : AV} {x : Value}, VRels μ us xs → VRel μ u x → VRels μ (us ++ [u]) (xs ++ [x]) := by
    intro us
    induction us with
    | nil => intro xs u x h1 h2; cases xs with
      | nil => exact ⟨h2, trivial⟩
      | cons _ _ => exact h1.elim
    | cons a us ih => intro xs u x h1 h2; cases xs with
      | nil => exact h1.elim
      | cons y ys => exact ⟨h1.1, ih h1.2 h2⟩
  constructor
  · simpa using app h.1 hk
  · simpa using app h.2 hv
theorem mrel_set {es : List (AV × AV)} {en : Array MapEntry} (h : MRel μ es en.toList) {u v : AV} {k x : Value} (n : Nat) (hk : VRel μ u k) (hv : VRel μ v x) : MRel μ (es.set n (u, v)) (en.modify n fun e => { e with key := k, val := x }).toList := by
  constructor
  · have e : (en.modify n fun e => { e with key := k, val := x }).toList.map (·.key) = (en.toList.map (·.key)).set n k := by
      refine List.ext_getElem? fun j => ?_
      simp only [Array.toList_modify, List.getElem?_map, List.getElem?_modify, List.getElem?_set, List.length_map]
      by_cases hj : n = j
      · subst hj
        cases hn : en.toList[n]? with
        | none =>
          have : en.size ≤ n := by simpa using List.getElem?_eq_none_iff.1 hn
          simp [this]
        | some e =>
          have : n < en.size := by simpa using (List.getElem?_eq_some_iff.1 hn).1
          simp [this]
      · simp [hj]
    rw [e, List.map_set]
    exact h.1.set n hk
  · have e : (en.modify n fun e => { e with key := k, val := x }).toList.map (·.val) = (en.toList.map (·.val)).set n x := by
      refine List.ext_getElem? fun j => ?_
      simp only [Array.toList_modify, List.getElem?_map, List.getElem?_modify, List.getElem?_set, List.length_map]
      by_cases hj : n = j
      · subst hj
        cases hn : en.toList[n]? with
        | none =>
          have : en.size ≤ n := by simpa using List.getElem?_eq_none_iff.1 hn
          simp [this]
        | some e =>
          have : n < en.size := by simpa using (List.getElem?_eq_some_iff.1 hn).1
          simp [this]
      · simp [hj]
    rw [e, List.map_set]
    exact h.2.set n hv
theorem setMap {b : Nat} {y : ABlk} {l : Loc} {es : List (AV × AV)} {en : Array MapEntry} {ck : Nat} (sa : Sat μ H w) (hy : H.get b = some y) (hl : μ b = some l) (ho : y.own = true) (hw : w.heap[l.blk]? = some (.map en ck)) (en' : Array MapEntry) (ck' : Nat) (hm : MRel μ es en'.toList) :
    Sat μ (H.set b { y with c := .map es }) { w with heap := w.heap.setIfInBounds l.blk (.map en' ck') } ∧ Fr μ H μ (H.set b { y with c := .map es }) w { w with heap := w.heap.setIfInBounds l.blk (.map en' ck') } := by
  obtain ⟨q1, q2⟩ := MapKept.heap_set (o' := .map en' ck') hw
  exact sa.turn hy hl ho (.map es) (fun k hk => q2 k hk) (by simp) rfl rfl rfl ⟨en', ck', q1, hm⟩
theorem ok_upmap {t kt vt : TypeId} {m k x : Operand} {s : ES} {cm ck cx : CX} (ho : o.op = .mapUpdate t m k x ∨ o.op = .insert t m k x) (hu : P.underlying t = some (.map kt vt)) (hk : keyES P kt = some s) (hm : opd m = some cm) (hkk : opd k = some ck) (hx : opd x = some cx) (he : Ev μ ev a) (sa : Sat μ H w) (h : mstep ev H (.up s cm ck cx) = some (v, H', true)) : OpOK P o a μ H w v H' := by
  have h1 := he m cm hm
  have h2 := he k ck hkk
  have h3 := he x cx hx
  simp only [mstep] at h
  split at h
  · rename_i b hq
    rw [hq] at h1
    obtain ⟨l1, g1, g2⟩ := h1
    split at h
    · rename_i y hy
      split at h
      · rename_i es hes
        obtain ⟨l, en, clk, k1, k2, k3⟩ := sa.mapBlk hy hes
        rw [g1] at k1
        cases k1
        simp only [Option.some.injEq, Prod.mk.injEq, Bool.and_eq_true] at h
        obtain ⟨rfl, rfl, ⟨hown, hf⟩, hs⟩ := h
        have hc := check_ok hk h2 hf w false
        rcases hmf : mfind s (ev ck) es 0 with _ | _ | n
        · unfold mupOK at hs
          rw [hmf] at hs
          cases hs
        · have e0 : mup s (ev ck) (ev cx) es = es ++ [(ev ck, ev cx)] := by unfold mup; rw [hmf]
          rw [e0]
          have e2 := find_ok hk h2 w k3.1 hmf
          simp only [] at e2
          obtain ⟨s1, f1⟩ := setMap sa hy g1 hown k2 _ (clk + 1) (mrel_push (c := clk) k3 h2 h3)
          refine ⟨.skip, undef, _, μ, ?_, .inr ⟨rfl, rfl⟩, trivial, s1, f1⟩
          rcases ho with ho | ho <;> simp [execOp, ho, Instr.mapUpdate, run_underlying hu, g2, MapKept.run_getObj_map k2, MapKept.run_setObj_map _ k2, hc, e2, Result.andThen]
        · have e0 : mup s (ev ck) (ev cx) es = es.set n (ev ck, ev cx) := by unfold mup; rw [hmf]
          rw [e0]
          have hs : sameKey (es.getD n default).1 (ev ck) = true := by
            unfold mupOK at hs
            rw [hmf] at hs
            exact hs
          obtain ⟨e, e1, e2⟩ := find_ok hk h2 w k3.1 hmf
          have hb := sameKey_bits hs (entry_val k3 e1).2.1 h2
          have hg : en[n]? = some e := by simpa using e1
          obtain ⟨s1, f1⟩ := setMap sa hy g1 hown k2 _ clk (mrel_set k3 n h2 h3)
          refine ⟨.skip, undef, _, μ, ?_, .inr ⟨rfl, rfl⟩, trivial, s1, f1⟩
          rcases ho with ho | ho <;> simp [execOp, ho, Instr.mapUpdate, Instr.keyThatStays, run_underlying hu, g2, MapKept.run_getObj_map k2, MapKept.run_setObj_map _ k2, hc, e2, hg, hb, Result.andThen]
      · cases h
    · cases h
  · cases h
theorem VRels.erase {μ : Mu} : ∀ {vs : List AV} {xs : List Value}, VRels μ vs xs → ∀ n, VRels μ (vs.eraseIdx n) (xs.eraseIdx n)
  | [], [], _, n => by simp [VRels]
  | _ :: _, _ :: _, q, 0 => q.2
  | _ :: _, _ :: _, q, n + 1 => ⟨q.1, VRels.erase q.2 n⟩
  | [], _ :: _, q, _ => q.elim
  | _ :: _, [], q, _ => q.elim
theorem erase_map {α β : Type} (f : α → β) : ∀ (l : List α) (n : Nat), (l.eraseIdx n).map f = (l.map f).eraseIdx n
  | [], _ => rfl
  | _ :: _, 0 => rfl
  | a :: l, n + 1 => congrArg (f a :: ·) (erase_map f l n)
theorem mrel_erase {es : List (AV × AV)} {en : Array MapEntry} (h : MRel μ es en.toList) (n : Nat) : MRel μ (es.eraseIdx n) (en.eraseIdxIfInBounds n).toList := by
  have e : (en.eraseIdxIfInBounds n).toList = en.toList.eraseIdx n := by simp
  rw [e]
  constructor
  · rw [erase_map, erase_map]
    exact h.1.erase n
  · rw [erase_map, erase_map]
    exact h.2.erase n
theorem ok_lnmap {t kt vt : TypeId} {x : Operand} {c : CX} (ho : o.op = .call { callee := .builtin .len, args := #[x], argTypes := #[t] }) (ht : P.underlying t = some (.map kt vt)) (hx : opd x = some c) (he : Ev μ ev a) (s : Sat μ H w) (h : mstep ev H (.ln c) = some (v, H', true)) : OpOK P o a μ H w v H' := by
  have h1 := he x c hx
  have key : ∀ n : Nat, (Builtin.len_ #[t] o.type #[a.eval x]).run P w = .ok (goInt n) w → v = .int .i64 n → H' = H → OpOK P o a μ H w v H' := by
    rintro n hn rfl rfl
    refine OpOK.pure (x := goInt n) s (run_builtin ho ?_) rfl
    simp [builtin, hn]
  simp only [mstep] at h
  split at h
  · rename_i hq
    simp only [Option.some.injEq, Prod.mk.injEq] at h
    obtain ⟨rfl, rfl, _⟩ := h
    rw [hq] at h1
    simp only [VRel] at h1
    exact key 0 (by simp [Builtin.len_, run_underlying ht, h1, Result.andThen]) rfl rfl
  · rename_i b hq
    rw [hq] at h1
    obtain ⟨l1, g1, g2⟩ := h1
    split at h
    · rename_i y hy
      split at h
      · rename_i es hes
        simp only [Option.some.injEq, Prod.mk.injEq] at h
        obtain ⟨rfl, rfl, _⟩ := h
        obtain ⟨l, en, ck, k1, k2, k3⟩ := s.mapBlk hy hes
        rw [g1] at k1
        cases k1
        have hl : es.length = en.size := by have := k3.1.len; simpa using this
        exact key es.length (by simp [Builtin.len_, run_underlying ht, g2, MapKept.run_getObj_map k2, Result.andThen, hl]) rfl rfl
      · cases h
    · cases h
  · cases h
theorem ok_dlmap {t kt vt u : TypeId} {m k : Operand} {s : ES} {cm ck : CX} (ho : o.op = .call { callee := .builtin .delete, args := #[m, k], argTypes := #[t, u] }) (hu : P.underlying t = some (.map kt vt)) (hk : keyES P kt = some s) (hm : opd m = some cm) (hkk : opd k = some ck) (he : Ev μ ev a) (sa : Sat μ H w) (h : mstep ev H (.dl s cm ck) = some (v, H', true)) : OpOK P o a μ H w v H' := by
  have h1 := he m cm hm
  have h2 := he k ck hkk
  have fin : ∀ {w' : World} {μ' : Mu}, (Builtin.delete_ #[t, u] o.type #[a.eval m, a.eval k]).run P w = .ok (.tuple #[]) w' → Sat μ' H' w' → Fr μ H μ' H' w w' → v = .any → OpOK P o a μ H w v H' := by
    intro w' μ' hn s1 f1 hv
    subst hv
    exact ⟨.value (.tuple #[]), .tuple #[], w', μ', run_builtin ho (by simp [builtin, hn]), .inl rfl, trivial, s1, f1⟩
  simp only [mstep] at h
  split at h
  · rename_i hq
    simp only [Option.some.injEq, Prod.mk.injEq] at h
    obtain ⟨rfl, rfl, hf⟩ := h
    rw [hq] at h1
    simp only [VRel] at h1
    have hc := check_ok hk h2 hf w true
    exact fin (by simp [Builtin.delete_, run_underlying hu, h1, hc, Result.andThen]) sa (Fr.refl _ _ _) rfl
  · rename_i b hq
    rw [hq] at h1
    obtain ⟨l1, g1, g2⟩ := h1
    split at h
    · rename_i y hy
      split at h
      · rename_i es hes
        obtain ⟨l, en, clk, k1, k2, k3⟩ := sa.mapBlk hy hes
        rw [g1] at k1
        cases k1
        split at h
        · rename_i n hmf
          simp only [Option.some.injEq, Prod.mk.injEq, Bool.and_eq_true] at h
          obtain ⟨rfl, rfl, hown, hf⟩ := h
          have hc := check_ok hk h2 hf w en.isEmpty
          obtain ⟨e, e1, e2⟩ := find_ok hk h2 w k3.1 hmf
          obtain ⟨s1, f1⟩ := setMap sa hy g1 hown k2 _ clk (mrel_erase k3 n)
          exact fin (by simp [Builtin.delete_, run_underlying hu, g2, MapKept.run_getObj_map k2, MapKept.run_setObj_map _ k2, hc, e2, Result.andThen]) s1 f1 rfl
        · rename_i hmf
          simp only [Option.some.injEq, Prod.mk.injEq, Bool.and_eq_true] at h
          obtain ⟨rfl, rfl, hown, hf⟩ := h
          have hc := check_ok hk h2 hf w en.isEmpty
          have e2 := find_ok hk h2 w k3.1 hmf
          simp only [] at e2
          obtain ⟨s1, f1⟩ := setMap sa hy g1 hown k2 en clk k3
          have eh : H.set b { y with c := .map es } = H.set b y := by rw [← hes]
          rw [eh] at s1 f1
          obtain ⟨s2, f2⟩ := Sat.sub s1 (H' := H) rfl (fun d x hd => by
            rw [AH.get_set]
            by_cases hdb : d = b
            · subst hdb; rw [if_pos rfl]; rw [hy] at hd; exact hd
            · rw [if_neg hdb]; exact hd)
          exact fin (by simp [Builtin.delete_, run_underlying hu, g2, MapKept.run_getObj_map k2, MapKept.run_setObj_map _ k2, hc, e2, Result.andThen]) s2 (f1.trans f2) rfl
        · cases h
      · cases h
    · cases h
  · cases h
theorem setFrom_get : ∀ (us : List Value) (o : Nat) (C : Array Value) (p : Nat) (u : Value), o + us.length ≤ C.size → us[p]? = some u → (setFrom o us C)[o + p]? = some u
  | [], _, _, p, _, _, hp => by simp at hp
  | u0 :: us, o, C, p, u, hle, hp => by
    rw [setFrom]
    simp only [List.length_cons] at hle
    cases p with
    | zero =>
      simp at hp; subst hp
      have hother : ∀ (us : List Value) (o : Nat) (C : Array Value) (p : Nat), p < o → (setFrom o us C)[p]? = C[p]? := by
        intro us
        induction us with
        | nil => intro _ _ _ _; rfl
        | cons u1 us ih => intro o C p hp; rw [setFrom, ih _ _ _ (by omega), Array.getElem?_setIfInBounds_ne (by omega)]
      show (setFrom (o + 1) us (C.setIfInBounds o u0))[o]? = some u0
      rw [hother us (o + 1) _ o (by omega), Array.getElem?_setIfInBounds_self]
      simp; omega
    | succ p =>
      have := setFrom_get us (o + 1) (C.setIfInBounds o u0) p u (by simp; omega) (by simpa using hp)
      rwa [show o + 1 + p = o + (p + 1) by omega] at this
theorem ok_clrmap {t kt vt : TypeId} {x : Operand} {c : CX} (ho : o.op = .call { callee := .builtin .clear, args := #[x], argTypes := #[t] }) (hu : P.underlying t = some (.map kt vt)) (hx : opd x = some c) (he : Ev μ ev a) (sa : Sat μ H w) (h : mstep ev H (.clm c) = some (v, H', true)) : OpOK P o a μ H w v H' := by
  have h1 := he x c hx
  have fin : ∀ {w' : World} {μ' : Mu}, (Builtin.clear_ #[t] o.type #[a.eval x]).run P w = .ok (.tuple #[]) w' → Sat μ' H' w' → Fr μ H μ' H' w w' → v = .any → OpOK P o a μ H w v H' := by
    intro w' μ' hn s1 f1 hv
    subst hv
    exact ⟨.value (.tuple #[]), .tuple #[], w', μ', run_builtin ho (by simp [builtin, hn]), .inl rfl, trivial, s1, f1⟩
  simp only [mstep] at h
  split at h
  · rename_i hq
    simp only [Option.some.injEq, Prod.mk.injEq] at h
    obtain ⟨rfl, rfl, _⟩ := h
    rw [hq] at h1
    simp only [VRel] at h1
    exact fin (by simp [Builtin.clear_, run_underlying hu, h1, Result.andThen]) sa (Fr.refl _ _ _) rfl
  · rename_i b hq
    rw [hq] at h1
    obtain ⟨l1, g1, g2⟩ := h1
    split at h
    · rename_i y hy
      split at h
      · rename_i es hes
        simp only [Option.some.injEq, Prod.mk.injEq] at h
        obtain ⟨rfl, rfl, hown⟩ := h
        obtain ⟨l, en, clk, k1, k2, k3⟩ := sa.mapBlk hy hes
        rw [g1] at k1
        cases k1
        obtain ⟨s1, f1⟩ := setMap sa hy g1 hown k2 #[] clk (es := []) ⟨trivial, trivial⟩
        exact fin (by simp [Builtin.clear_, run_underlying hu, g2, MapKept.run_getObj_map k2, MapKept.run_setObj_map _ k2, Result.andThen]) s1 f1 rfl
      · cases h
    · cases h
  · cases h
theorem ok_clrsl {t e : TypeId} {i : TypeInfo} {z : List AV} {x : Operand} {c : CX} (ho : o.op = .call { callee := .builtin .clear, args := #[x], argTypes := #[t] }) (ht : P.underlying t = some (.slice e)) (hi : P.info? e = some i) (hz : zeroOf P e = some z) (hzl : z.length = i.size) (h0 : 0 < i.size) (hx : opd x = some c) (he : Ev μ ev a) (sa : Sat μ H w) (h : mstep ev H (.clr i.size z c) = some (v, H', true)) : OpOK P o a μ H w v H' := by
  have h1 := he x c hx
  have fin : ∀ {w' : World} {μ' : Mu}, (Builtin.clear_ #[t] o.type #[a.eval x]).run P w = .ok (.tuple #[]) w' → Sat μ' H' w' → Fr μ H μ' H' w w' → v = .any → OpOK P o a μ H w v H' := by
    intro w' μ' hn s1 f1 hv
    subst hv
    exact ⟨.value (.tuple #[]), .tuple #[], w', μ', run_builtin ho (by simp [builtin, hn]), .inl rfl, trivial, s1, f1⟩
  obtain ⟨i', zv, q1, q2, q3, q4⟩ := zeroOf_spec hz μ
  rw [hi] at q1; cases q1
  have hzs : zv.cells.size = i.size := by have := q3.len; simp at this; omega
  have hzv : (zeroValue e).run P w = .ok zv w := by simp [zeroValue, typeInfo, hi, q2]
  simp only [mstep] at h
  split at h
  · rename_i hq
    simp only [Option.some.injEq, Prod.mk.injEq] at h
    obtain ⟨rfl, rfl, _⟩ := h
    rw [hq] at h1
    simp only [VRel] at h1
    exact fin (by simp [Builtin.clear_, run_underlying ht, h1, Result.andThen]) sa (Fr.refl _ _ _) rfl
  · rename_i b k j n c0 ex hq
    rw [hq] at h1
    obtain ⟨l, A, cp, g1, g2, g3, g4, g5, g6, g7⟩ := h1
    rcases hb : Nat.beq n 0 with _ | _
    · rw [hb] at h
      simp only [cond_false] at h
      have hn : n ≠ 0 := fun e => by subst e; simp at hb
      have hA : A = l.at k j := g6.resolve_right (by omega)
      obtain ⟨n', rfl⟩ := Nat.exists_eq_succ_of_ne_zero hn
      split at h
      · rename_i y hy
        split at h
        · rename_i c' ok hw
          simp only [Option.some.injEq, Prod.mk.injEq, Bool.and_eq_true] at h
          obtain ⟨rfl, rfl, rfl, hown⟩ := h
          have hzz : (Builtin.zeroCells zv.cells (n' + 1)).toList = (List.replicate (n' + 1) zv.cells.toList).flatten := by
            unfold Builtin.zeroCells
            rw [hzs]
            have := zeros_list zv.cells i.size hzs h0 (n' + 1)
            rwa [hzs] at this
          have hrel : VRels μ (flat z (n' + 1)) (Builtin.zeroCells zv.cells (n' + 1)).toList := by rw [hzz]; exact flat_rel q3 _
          have hone : ∀ u ∈ (Builtin.zeroCells zv.cells (n' + 1)).toList, u.oneCell' = true := by
            rw [hzz]
            intro u hu
            obtain ⟨l0, hl0, hu⟩ := List.mem_flatten.1 hu
            rw [(List.mem_replicate.1 hl0).2] at hu
            exact q4 u hu
          have runs : ∀ (o' : Nat), A = ⟨l.blk, o', none⟩ → (∀ p, p < (Builtin.zeroCells zv.cells (n' + 1)).toList.length → (w.cell? ⟨l.blk, o' + p, none⟩).isSome = true ∧ w.frozen? ⟨l.blk, o' + p, none⟩ = false) →
              (Builtin.clear_ #[t] o.type #[a.eval x]).run P w = .ok (.tuple #[]) (w.setCells l.blk o' (Builtin.zeroCells zv.cells (n' + 1)).toList) := by
            intro o' hA hp
            have := run_storeCells_cells (P := P) l.blk o' (Builtin.zeroCells zv.cells (n' + 1)).toList 0 w (fun p hq => by simpa using (hp p hq).1) (fun p hq => by simpa using (hp p hq).2) hone
            rw [Nat.add_zero] at this
            simp [Builtin.clear_, run_underlying ht, g2, hA, hzv, this, Result.andThen]
          have upd : AC.upds y.st k (flat z (n' + 1)) j y.c = some c' → y.c.inbs y.st k j (flat z (n' + 1)).length = true → (∀ es, y.c ≠ .map es) → OpOK P o a μ H w .any (H.set b { y with c := c' }) := by
            intro u1 u2 u3
            obtain ⟨r1, r2, r3⟩ := sa.stores hy g1 hown u2 u3 u1 hrel hone
            exact fin (runs (l.off + k * l.st + j) hA (fun p hp => r3 p hp)) r1 r2 rfl
          have hpos : 0 < (flat z (n' + 1)).length := by
            simp only [flat, List.length_append]; omega
          unfold wipe at hw
          split at hw
          · rename_i m f hyc
            rcases hc : (Nat.beq k 0 && Nat.beq j 0 && Nat.beq (n' + 1) m && Nat.beq i.size y.st) with _ | _
            · rw [hc] at hw
              simp only [cond_false, Option.map_eq_some_iff, Prod.mk.injEq] at hw
              obtain ⟨c1, u1, rfl, u2⟩ := hw
              exact upd (by rw [hyc]; exact u1) (by rw [hyc]; exact u2) (by rw [hyc]; exact fun _ e => by cases e)
            · rw [hc] at hw
              simp only [cond_true, Option.some.injEq, Prod.mk.injEq] at hw
              obtain ⟨rfl, _⟩ := hw
              simp only [Bool.and_eq_true] at hc
              obtain ⟨⟨⟨c1, c2⟩, c3⟩, c4⟩ := hc
              obtain rfl := Nat.eq_of_beq_eq_true c1
              obtain rfl := Nat.eq_of_beq_eq_true c2
              obtain rfl := Nat.eq_of_beq_eq_true c3
              have hst := Nat.eq_of_beq_eq_true c4
              obtain ⟨l', m1, m2⟩ := sa.blk b y hy
              rw [g1] at m1
              cases m1
              have hmap : ∀ es, y.c ≠ .map es := by rw [hyc]; exact fun _ e => by cases e
              obtain ⟨hlst, C, t', fz, r1, r2, r3⟩ := m2.holds hmap
              obtain ⟨hfz, hcap⟩ := r2 hown
              rw [hyc, ← hst] at r3
              have hlen : (Builtin.zeroCells zv.cells (n' + 1)).toList.length = (n' + 1) * i.size := by simp [Builtin.zeroCells, hzs]
              have hroom : l.off + (n' + 1) * i.size ≤ C.size := by
                obtain ⟨u, p1, _⟩ := r3.cell (k := n') (j := i.size - 1) (by simp only [AC.inb, Bool.and_eq_true, decide_eq_true_eq]; omega)
                have := (Array.getElem?_eq_some_iff.1 p1).1
                have e : (n' + 1) * i.size = n' * i.size + i.size := Nat.succ_mul _ _
                omega
              have hA0 : A = ⟨l.blk, l.off, none⟩ := by rw [hA]; simp [Loc.at]
              have hrun := runs l.off hA0 (fun p hp => by
                rw [hlen] at hp
                constructor
                · simp only [World.cell?, r1]
                  simp; omega
                · simp only [World.frozen?, r1]
                  rcases hfz with h8 | h8
                  · simp; omega
                  · simp; omega)
              have hset := setCells_heap l.blk (Builtin.zeroCells zv.cells (n' + 1)).toList l.off w C t' fz r1
              obtain ⟨m1, m2, m3, m4⟩ := setCells_rest l.blk (Builtin.zeroCells zv.cells (n' + 1)).toList l.off w
              obtain ⟨s1, f1⟩ := sa.turn hy g1 hown (.recs (n' + 1) (fun _ => z)) (setCells_other l.blk _ _ w) m1 m2 m3 m4
                (BSat.of_holds (fz := fz) hlst hset (fun _ => ⟨by rw [setFrom_size]; exact hfz, by rw [setFrom_size]; exact hcap⟩) ⟨(fun _ e => by cases e), fun k1 j1 hin => by
                  simp only [AC.inb, Bool.and_eq_true, decide_eq_true_eq] at hin
                  show ∃ x, (setFrom l.off _ C)[l.off + k1 * y.st + j1]? = some x ∧ VRel μ (z.getD j1 .any) x ∧ x.oneCell' = true
                  have hin : k1 < n' + 1 ∧ j1 < y.st := hin
                  have hz2 : (Builtin.zeroCells zv.cells (n' + 1)).toList[k1 * i.size + j1]? = zv.cells.toList[j1]? := by
                    rw [hzz]
                    exact replicate_flat_get i.size h0 zv.cells.toList (by simpa using hzs) (n' + 1) k1 j1 hin.1 (by omega)
                  have hj : j1 < zv.cells.toList.length := by simp; omega
                  have hg : zv.cells.toList[j1]? = some zv.cells.toList[j1] := List.getElem?_eq_getElem hj
                  rw [hg] at hz2
                  refine ⟨zv.cells.toList[j1], ?_, q3.get j1 _ hg, q4 _ (List.getElem_mem hj)⟩
                  have := setFrom_get _ l.off C (k1 * i.size + j1) _ (by rw [hlen]; exact hroom) hz2
                  rwa [← Nat.add_assoc, hst] at this⟩)
              exact fin hrun s1 f1 rfl
          · rename_i hne
            simp only [Option.map_eq_some_iff, Prod.mk.injEq] at hw
            obtain ⟨c1, u1, rfl, u2⟩ := hw
            refine upd u1 u2 (fun es hes => ?_)
            exact AC.not_map (AC.inbs_succ (n := (flat z (n' + 1)).length - 1) (by rw [Nat.sub_add_cancel hpos]; exact u2)).1 es hes
        · cases h
      · cases h
    · rw [hb] at h
      simp only [cond_true, Option.some.injEq, Prod.mk.injEq] at h
      obtain ⟨rfl, rfl, _⟩ := h
      obtain rfl := Nat.eq_of_beq_eq_true hb
      exact fin (by simp [Builtin.clear_, run_underlying ht, g2, Result.andThen]) sa (Fr.refl _ _ _) rfl
  · cases h
theorem call_eqm {o : Oper} {c : Call} (ho : o.op = .call c) {b : Builtin} {args : List Operand} {ts : List TypeId} (h1 : c.callee = .builtin b) (h2 : c.args.toList = args) (h3 : c.argTypes.toList = ts) : o.op = .call { callee := .builtin b, args := args.toArray, argTypes := ts.toArray } := by
  rw [ho]
  cases c
  simp at h1 h2 h3
  subst h1 h2 h3
  simp
/-- Maps. -/
theorem ok_mo {p : MO} {n : Nat} (hp : compM P o = some p) (he : Ev μ ev a) (s : Sat μ H w) (h : cstep ev H ((COp.mo p).hint n) = some (v, H', true)) : OpOK P o a μ H w v H' := by
  have h : mstep ev H p = some (v, H', true) := h
  unfold compM at hp
  split at hp
  · rename_i t ho
    cases hp
    simp only [mstep, Option.some.injEq, Prod.mk.injEq] at h
    obtain ⟨rfl, rfl, _⟩ := h
    exact ok_mkmap ho s
  · rename_i t x i ok ho
    split at hp
    · rename_i kt vt hu
      split at hp
      · rename_i s0 z cx ci e1 e2 e3 e4
        cases hp
        exact ok_lkmap ho hu e1 e2 e3 e4 he s h
      · cases hp
    · cases hp
  · rename_i t m k x ho
    split at hp
    · rename_i kt vt hu
      split at hp
      · rename_i s0 cm ck cx e1 e2 e3 e4
        cases hp
        exact ok_upmap (.inl ho) hu e1 e2 e3 e4 he s h
      · cases hp
    · cases hp
  · rename_i t m k x ho
    split at hp
    · rename_i kt vt hu
      split at hp
      · rename_i s0 cm ck cx e1 e2 e3 e4
        cases hp
        exact ok_upmap (.inr ho) hu e1 e2 e3 e4 he s h
      · cases hp
    · cases hp
  · rename_i c ho
    split at hp
    · rename_i m k t u g1 g2 g3
      split at hp
      · rename_i kt vt hu
        split at hp
        · rename_i s0 cm ck e1 e2 e3
          cases hp
          exact ok_dlmap (call_eqm ho g1 g2 g3) hu e1 e2 e3 he s h
        · cases hp
      · cases hp
    · rename_i x t g1 g2 g3
      split at hp
      · rename_i kt vt cx hu e1
        cases hp
        exact ok_lnmap (call_eqm ho g1 g2 g3) hu e1 he s h
      · cases hp
    · rename_i x t g1 g2 g3
      split at hp
      · rename_i kt vt hu
        split at hp
        · rename_i cx e1
          cases hp
          exact ok_clrmap (call_eqm ho g1 g2 g3) hu e1 he s h
        · cases hp
      · rename_i e hu
        split at hp
        · rename_i i z cx e1 e2 e3
          rcases hb : (decide (z.length = i.size) && !Nat.beq i.size 0) with _ | _
          · rw [hb] at hp; cases hp
          · rw [hb] at hp
            cases hp
            simp only [Bool.and_eq_true, decide_eq_true_eq, Bool.not_eq_true'] at hb
            exact ok_clrsl (call_eqm ho g1 g2 g3) hu e1 e2 hb.1 (Nat.pos_of_ne_zero (fun e => by rw [e] at hb; simp at hb)) e3 he s h
        · cases hp
      · cases hp
    · cases hp
  · cases hp
end
end Go.Eng
