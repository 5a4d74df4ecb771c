/- The engine, tenth part, the second half: operations that only read, of the second kind. -/
import Derived.Test.YtilmgiompalggaaGreatDoorEn07
import Derived.Laws.LoneSync
import Derived.ChangeKeysEq
import Derived.Laws.StructEq
namespace Go.Eng
open Go Go.RowKit
set_option linter.unusedVariables false
set_option linter.unusedSimpArgs false
theorem eqS_any (s : ES) (v : AV) : eqS s .any v = none := by
  cases s with
  | one k => cases k <;> rfl
  | row l => rfl
theorem partA_run {P : Program} {t : TypeId} {sz : Option Nat} {cs : Array Value} {off : Nat} {as : List AV} {μ : Mu} (hz : aggSz P t = some sz) (hr : VRels μ as cs.toList) (w : World) (h : partA off sz as ≠ .any) :
    ∃ x, (part t cs off).run P w = .ok x w ∧ VRel μ (partA off sz as) x := by
  refine run_part hz hr w ?_
  cases sz with
  | none =>
    refine ⟨?_, rfl⟩
    rcases Nat.lt_or_ge off as.length with h1 | h1
    · exact h1
    · refine (h ?_).elim
      show as.getD off .any = .any
      rw [List.getD_eq_getElem?_getD, List.getElem?_eq_none h1]; rfl
  | some n => rfl
theorem eqLeaf_ok {P : Program} {t : TypeId} {d : TypeDesc} {k : LK} (hu : P.underlying t = some d) (hd : match k, d with | .b, .bool | .i, .int _ | .s, .string => True | _, _ => False) {μ : Mu} {u v : AV} {x y : Value} {b : Bool} (w : World) (hx : VRel μ u x) (hy : VRel μ v y) (h : eqLeaf k u v = some b) (D : Nat) :
    (Op.equalIn (D + 1) t x y).run P w = .ok b w := by
  unfold eqLeaf at h
  split at h
  · rename_i k a k' a'
    simp only [VRel] at hx hy
    subst hx hy
    rcases hk : (decide (k = k')) with _ | _
    · rw [hk] at h; cases h
    · rw [hk] at h
      have hk := of_decide_eq_true hk
      subst hk
      cases h
      cases d <;> first | exact hd.elim | exact run_equalIn_int w D t k _ a a' hu
  · simp only [VRel] at hx hy
    subst hx hy
    cases h
    cases d <;> first | exact hd.elim | exact run_equalIn_bool w D t _ _ hu
  · simp only [VRel] at hx hy
    subst hx hy
    cases h
    cases d <;> first | exact hd.elim | (rw [run_equalIn_string w D t _ _ hu, beq_toListBytes])
  · cases h
theorem eqL_parts {P : Program} {f : TypeId → Option ES} {D : Nat} {c : Nat} {e : TypeId} {xs ys : Array Value} {as bs : List AV} {μ : Mu} {w : World}
    (ih : ∀ t s, f t = some s → ∀ μ u v x y b w, VRel μ u x → VRel μ v y → eqS s u v = some b → (Op.equalIn D t x y).run P w = .ok b w) (hx : VRels μ as xs.toList) (hy : VRels μ bs ys.toList) :
    ∀ (is : List Nat) {l : EL} {b : Bool}, elOf P f (is.map fun i => (i * c, e)) = some l → eqL l as bs = some b → (Op.eqItems D e c xs ys is).run P w = .ok b w
  | [], l, b, hl, hb => by
    simp only [List.map_nil, elOf, Option.some.injEq] at hl
    subst hl
    simp only [eqL, Option.some.injEq] at hb
    subst hb
    simp [Op.eqItems]
  | i :: is, l, b, hl, hb => by
    simp only [List.map_cons, elOf] at hl
    split at hl
    · rename_i sz s r e1 e2 e3
      cases hl
      simp only [eqL] at hb
      split at hb
      · rename_i b1 b2 q1 q2
        cases hb
        have n1 : partA (i * c) sz as ≠ .any := by
          intro h
          rw [h, eqS_any] at q1
          cases q1
        have n2 : partA (i * c) sz bs ≠ .any := by
          intro h
          rw [h] at q1
          cases s with
          | one k => cases k <;> (simp only [eqS] at q1; generalize partA (i * c) sz as = z at q1; cases z <;> simp [eqLeaf] at q1)
          | row l => generalize partA (i * c) sz as = z at q1; cases z <;> simp [eqS] at q1
        obtain ⟨x, x1, x2⟩ := partA_run (P := P) e1 hx w n1
        obtain ⟨y, y1, y2⟩ := partA_run (P := P) e1 hy w n2
        have h1 := ih e s e2 μ _ _ x y b1 w x2 y2 q1
        have h2 := eqL_parts (w := w) ih hx hy is e3 q2
        simp only [Op.eqItems, Sem.run_bind, x1, y1, h1, Result.andThen_ok]
        cases b1
        · simp
        · simpa using h2
      · cases hb
    · cases hl
theorem eqL_fields {P : Program} {f : TypeId → Option ES} {D : Nat} {xs ys : Array Value} {as bs : List AV} {μ : Mu} {w : World}
    (ih : ∀ t s, f t = some s → ∀ μ u v x y b w, VRel μ u x → VRel μ v y → eqS s u v = some b → (Op.equalIn D t x y).run P w = .ok b w) (hx : VRels μ as xs.toList) (hy : VRels μ bs ys.toList) :
    ∀ (fs : List Field) {l : EL} {b : Bool}, fs.any (fun f => f.name == "_") = false → elOf P f (fs.map fun f => (f.offset, f.type)) = some l → eqL l as bs = some b → (Op.eqFields D xs ys fs).run P w = .ok b w
  | [], l, b, hn, hl, hb => by
    simp only [List.map_nil, elOf, Option.some.injEq] at hl
    subst hl
    simp only [eqL, Option.some.injEq] at hb
    subst hb
    simp [Op.eqFields]
  | g :: fs, l, b, hn, hl, hb => by
    simp only [List.any_cons, Bool.or_eq_false_iff] at hn
    have hne : g.name ≠ "_" := by have := hn.1; simpa using this
    simp only [List.map_cons, elOf] at hl
    split at hl
    · rename_i sz s r e1 e2 e3
      cases hl
      simp only [eqL] at hb
      split at hb
      · rename_i b1 b2 q1 q2
        cases hb
        have n1 : partA g.offset sz as ≠ .any := by
          intro h
          rw [h, eqS_any] at q1
          cases q1
        have n2 : partA g.offset sz bs ≠ .any := by
          intro h
          rw [h] at q1
          cases s with
          | one k => cases k <;> (simp only [eqS] at q1; generalize partA g.offset sz as = z at q1; cases z <;> simp [eqLeaf] at q1)
          | row l => generalize partA g.offset sz as = z at q1; cases z <;> simp [eqS] at q1
        obtain ⟨x, x1, x2⟩ := partA_run (P := P) e1 hx w n1
        obtain ⟨y, y1, y2⟩ := partA_run (P := P) e1 hy w n2
        have h1 := ih g.type s e2 μ _ _ x y b1 w x2 y2 q1
        have h2 := eqL_fields (w := w) ih hx hy fs hn.2 e3 q2
        simp only [Op.eqFields, hne, ne_eq, not_false_eq_true, if_true, Sem.run_bind, x1, y1, h1, Result.andThen_ok]
        cases b1
        · simp
        · simpa using h2
      · cases hb
    · cases hl
theorem eqS_ok {P : Program} : ∀ (d : Nat) (t : TypeId) (s : ES), esOf P d t = some s → ∀ D, d ≤ D → ∀ μ u v x y b w, VRel μ u x → VRel μ v y → eqS s u v = some b → (Op.equalIn D t x y).run P w = .ok b w
  | 0, t, s, h => by cases h
  | d + 1, t, s, h => by
    intro D hD μ u v x y b w hx hy hb
    obtain ⟨D, rfl⟩ : ∃ n, D = n + 1 := ⟨D - 1, by omega⟩
    have ih := fun t s h => eqS_ok (P := P) d t s h D (by omega)
    unfold esOf at h
    split at h
    · rename_i hu; cases h; exact eqLeaf_ok (k := .b) hu trivial w hx hy hb D
    · rename_i hu; cases h; exact eqLeaf_ok (k := .i) hu trivial w hx hy hb D
    · rename_i hu; cases h; exact eqLeaf_ok (k := .s) hu trivial w hx hy hb D
    · rename_i fs hu
      rcases hc : (P.stoodInHeld t || fs.toList.any (fun f => f.name == "_")) with _ | _
      · rw [hc] at h
        simp only [cond_false, Option.map_eq_some_iff] at h
        obtain ⟨l, hl, rfl⟩ := h
        simp only [Bool.or_eq_false_iff] at hc
        unfold eqS at hb
        split at hb
        · rename_i hq; cases hq
        · rename_i l' as bs hq
          cases hq
          obtain ⟨xs, rfl, hx⟩ := hx
          obtain ⟨ys, rfl, hy⟩ := hy
          have hf : P.fieldsOf t = fs := by simp [Program.fieldsOf, hu]
          rw [run_equalIn_struct w D t xs ys (by rw [hf]; exact hu) hc.1, hf]
          exact eqL_fields ih hx hy fs.toList hc.2 hl hb
        · cases hb
      · rw [hc] at h; cases h
    · rename_i n e hu
      split at h
      · rename_i es hes
        simp only [Option.map_eq_some_iff] at h
        obtain ⟨l, hl, rfl⟩ := h
        unfold eqS at hb
        split at hb
        · rename_i hq; cases hq
        · rename_i l' as bs hq
          cases hq
          obtain ⟨xs, rfl, hx⟩ := hx
          obtain ⟨ys, rfl, hy⟩ := hy
          unfold szOf at hes
          rcases hi : P.info? e with _ | i
          · rw [hi] at hes; cases hes
          · rw [hi] at hes
            simp only [Option.map_some, Option.some.injEq] at hes
            subst hes
            have hce : P.cellsOf e = i.size := by simp [Program.cellsOf, hi]
            rw [run_equalIn_array w D xs ys hu hi, hce]
            exact eqL_parts ih hx hy (List.range n) hl hb
        · cases hb
      · cases h
    · cases h
section
variable {P : Program} {o : Oper} {a : Act} {μ : Mu} {H H' : AH} {w : World} {ev : CX → AV} {v : AV}
theorem zeroAV_spec {t : TypeId} {z : AV} (h : zeroAV P t = some z) : ∃ i zv, P.info? t = some i ∧ i.zero = some zv ∧ AV.ofV zv = some z := by
  unfold zeroAV at h
  split at h
  · rename_i i hi
    split at h
    · rename_i zv hz; exact ⟨i, zv, hi, hz, h⟩
    · cases h
  · cases h
theorem ok_eqt {op : BinOp} {t ut : TypeId} {x y : Operand} {c d : CX} {s : ES} {neg : Bool} (ho : o.op = .binOp op t x y ut) (hop : (op = .eql ∧ neg = false) ∨ (op = .neq ∧ neg = true)) (ht : isEqT P t = true) (hx : opd x = some c) (hy : opd y = some d) (hs : esOf P 8 t = some s) (he : Ev μ ev a) (sa : Sat μ H w) {b : Bool} (h : eqS s (ev c) (ev d) = some b) :
    OpOK P o a μ H w (.bool (bif neg then !b else b)) H := by
  have h1 := he x c hx
  have h2 := he y d hy
  have hr : (Op.equal t (a.eval x) (a.eval y)).run P w = .ok b w := eqS_ok 8 t s hs 10000 (by omega) μ _ _ _ _ b w h1 h2 h
  refine OpOK.pure (x := .bool (bif neg then !b else b)) sa ?_ rfl
  unfold isEqT at ht
  split at ht
  · rename_i hu
    have hs8 : s = .one .s := by
      unfold esOf at hs
      rw [hu] at hs
      exact (Option.some.inj hs).symm
    subst hs8
    simp only [eqS] at h
    generalize ev c = u at h h1
    generalize ev d = v' at h h2
    cases u <;> cases v' <;> simp [eqLeaf] at h
    simp only [VRel] at h1 h2
    subst h
    rw [h1, h2] at hr
    rcases hop with ⟨rfl, rfl⟩ | ⟨rfl, rfl⟩ <;> simp [execOp, ho, h1, h2, eqGuard, binOp, Op.stringOp, beq_toListBytes]
  · rename_i fs hu
    have : ∃ l, s = .row l := by
      unfold esOf at hs
      rw [hu] at hs
      simp only [] at hs
      rcases hc : (P.stoodInHeld t || fs.toList.any (fun f => f.name == "_")) with _ | _
      · rw [hc] at hs
        simp only [cond_false, Option.map_eq_some_iff] at hs
        obtain ⟨l, _, rfl⟩ := hs
        exact ⟨l, rfl⟩
      · rw [hc] at hs; cases hs
    obtain ⟨l, rfl⟩ := this
    generalize ev c = u at h h1
    generalize ev d = v' at h h2
    cases u <;> cases v' <;> simp [eqS] at h
    obtain ⟨xs, g1, _⟩ := h1
    obtain ⟨ys, g2, _⟩ := h2
    rw [g1, g2] at hr
    have hg := run_eqGuard_agg (P := P) w op t x y xs ys (by simpa using ht)
    rcases hop with ⟨rfl, rfl⟩ | ⟨rfl, rfl⟩
    · simp [execOp, ho, g1, g2, hg, run_eql_struct, show (Op.equalIn 10000 t (.agg xs) (.agg ys)).run P w = .ok b w from hr]
    · simp [execOp, ho, g1, g2, hg, run_neq_struct, show (Op.equalIn 10000 t (.agg xs) (.agg ys)).run P w = .ok b w from hr]
  · rename_i n e hu
    have : ∃ l, s = .row l := by
      unfold esOf at hs
      rw [hu] at hs
      simp only [] at hs
      split at hs
      · simp only [Option.map_eq_some_iff] at hs
        obtain ⟨l, _, rfl⟩ := hs
        exact ⟨l, rfl⟩
      · cases hs
    obtain ⟨l, rfl⟩ := this
    generalize ev c = u at h h1
    generalize ev d = v' at h h2
    cases u <;> cases v' <;> simp [eqS] at h
    obtain ⟨xs, g1, _⟩ := h1
    obtain ⟨ys, g2, _⟩ := h2
    rw [g1, g2] at hr
    have hg := run_eqGuard_agg (P := P) w op t x y xs ys (by simpa using ht)
    rcases hop with ⟨rfl, rfl⟩ | ⟨rfl, rfl⟩
    · simp [execOp, ho, g1, g2, hg, run_eql_struct, show (Op.equalIn 10000 t (.agg xs) (.agg ys)).run P w = .ok b w from hr]
    · simp [execOp, ho, g1, g2, hg, run_neq_struct, show (Op.equalIn 10000 t (.agg xs) (.agg ys)).run P w = .ok b w from hr]
  · cases ht
theorem conv_b2s {P : Program} (w : World) {src dst e : TypeId} (hs : P.underlying src = some (.slice e)) (he : P.underlying e = some (.int .u8)) (hd : P.underlying dst = some .string) (A : Addr) (cap : Nat) (xs : List Int) (hc : ∀ i, i < xs.length → w.cell? (A.add i) = some (.int .u8 (xs.getD i 0))) :
    (convert src dst (.slice (some A) xs.length cap)).run P w = .ok (.string (strOfNums xs)) w := by
  have hl : (loadCells A xs.length).run P w = .ok (xs.map (Value.int .u8)).toArray w := by
    have := run_loadCells_list (P := P) w A (xs.map (Value.int .u8)) (fun j v hj => by
      have hjl : j < xs.length := by
        rcases Nat.lt_or_ge j xs.length with h | h
        · exact h
        · simp [List.getElem?_eq_none (show (xs.map (Value.int .u8)).length ≤ j by simpa using h)] at hj
      rw [hc j hjl]
      simp [List.getElem?_eq_getElem hjl] at hj
      subst hj
      simp [List.getD, List.getElem?_eq_getElem hjl])
    simpa using this
  rw [run_convert_bytes_string w src dst e _ _ _ hs he hd, run_bytesToString w A xs.length cap xs hl, foldl_push_bytes]
  simp [strOfNums, ByteArray.empty, ByteArray.emptyWithCapacity]
  rfl
theorem ok_p2u {src dst t : TypeId} {i : TypeInfo} {x : Operand} {c : CX} (ho : o.op = .convert src dst x) (hs : P.underlying src = some (.pointer t)) (hd : P.underlying dst = some .unsafePointer) (hi : P.info? t = some i) (hz : Nat.beq i.size 0 = false) (hx : opd x = some c) (hev : Ev μ ev a) (s : Sat μ H w) (h : pstep ev H (.p2u c) = some (v, true)) : OpOK P o a μ H w v H := by
  have h1 := hev x c hx
  simp only [pstep] at h
  split at h
  · rename_i b k j e1
    rw [e1] at h1
    have h1' := h1
    obtain ⟨l, g1, g2⟩ := h1
    split at h
    · rename_i y hy
      simp only [Option.some.injEq, Prod.mk.injEq] at h
      obtain ⟨rfl, hin⟩ := h
      obtain ⟨u, q1, _, _⟩ := s.read hy g1 hin
      refine OpOK.pure s ?_ h1'
      have hz' : i.size ≠ 0 := fun e => by rw [e] at hz; cases hz
      have := run_convert_to_unsafe (P := P) hs hd (by simp [hi, hz']) q1
      simp [execOp, ho, g2, this]
    · cases h
  · cases h
theorem ok_b2s {src dst e : TypeId} {x : Operand} {c : CX} (ho : o.op = .convert src dst x) (hs : P.underlying src = some (.slice e)) (he : P.underlying e = some (.int .u8)) (hd : P.underlying dst = some .string) (hx : opd x = some c) (hev : Ev μ ev a) (s : Sat μ H w) (h : pstep ev H (.b2s c) = some (v, true)) : OpOK P o a μ H w v H := by
  have h1 := hev x c hx
  have key : ∀ (b k j n cap : Nat) (l : Loc) (A : Addr) (y : ABlk) (xs : List Int), μ b = some l → a.eval x = .slice (some A) n cap → (A = l.at k j ∨ cap = 0) → n ≤ cap → H.get b = some y → y.c = .ints .u8 xs → (decide (y.st = 1) && decide (k + j + n ≤ xs.length)) = true → OpOK P o a μ H w (.str (strOfNums ((xs.drop (k + j)).take n))) H := by
    intro b k j n cap l A y xs hl hax hA hn hy hyc hok
    simp only [Bool.and_eq_true, decide_eq_true_eq] at hok
    obtain ⟨k1, k2⟩ := hok
    have hlen : ((xs.drop (k + j)).take n).length = n := by simp; omega
    refine OpOK.pure (x := .string (strOfNums ((xs.drop (k + j)).take n))) s ?_ rfl
    have hc : ∀ i, i < ((xs.drop (k + j)).take n).length → w.cell? (A.add i) = some (.int .u8 (((xs.drop (k + j)).take n).getD i 0)) := by
      intro i hi
      rw [hlen] at hi
      rcases hA with rfl | h0
      · obtain ⟨u, g1, g2, _⟩ := s.read hy hl (k := k) (j := j + i) (by rw [hyc, k1]; simp [AC.inb]; omega)
        rw [hyc] at g2
        simp only [AC.val, VRel] at g2
        have e1 : (l.at k j).add i = l.at k (j + i) := by
          unfold Addr.add Loc.at
          split
          · rename_i h; subst h; rfl
          · simp [Nat.add_assoc]
        rw [e1, g1, g2]
        congr 2
        rw [List.getD_eq_getElem?_getD, List.getD_eq_getElem?_getD, List.getElem?_take_of_lt hi, List.getElem?_drop, Nat.add_assoc]
      · omega
    have := conv_b2s (P := P) w hs he hd A cap ((xs.drop (k + j)).take n) hc
    rw [hlen] at this
    simp [execOp, ho, hax, this]
  simp only [pstep] at h
  split at h
  · rename_i e1
    cases h
    rw [e1] at h1
    simp only [VRel] at h1
    exact OpOK.pure (x := .string ByteArray.empty) s (by simp [execOp, ho, h1, run_convert_bytes_nil w src e hs he 0 0 dst hd]) rfl
  · rename_i b k j n c0 ex e1
    rw [e1] at h1
    obtain ⟨l, A, c', q1, q2, q3, q4, q5, q6, _⟩ := h1
    split at h
    · rename_i y hy
      split at h
      · rename_i xs hyc
        simp only [Option.some.injEq, Prod.mk.injEq] at h
        obtain ⟨rfl, hok⟩ := h
        exact key b k j n c' l A y xs q1 q2 q6 (by omega) hy hyc hok
      · cases h
    · cases h
  · rename_i b k j n c0 e1
    rw [e1] at h1
    split at h
    · rename_i y hy
      split at h
      · rename_i xs hyc
        simp only [Option.some.injEq, Prod.mk.injEq] at h
        obtain ⟨rfl, hok⟩ := h
        rcases h1 with ⟨h1, rfl, rfl⟩ | ⟨l, A, c', q1, q2, q3, q4, q6⟩
        · rw [List.take_zero]
          exact OpOK.pure (x := .string ByteArray.empty) s (by simp [execOp, ho, h1, run_convert_bytes_nil w src e hs he 0 0 dst hd]) rfl
        · exact key b k j n c' l A y xs q1 q2 q6 (by omega) hy hyc hok
      · cases h
    · cases h
  · cases h
theorem ok_pl {p : PO} {n : Nat} (hp : compP P o = some p) (he : Ev μ ev a) (s : Sat μ H w) (h : cstep ev H ((COp.pl p).hint n) = some (v, H', true)) : OpOK P o a μ H w v H' := by
  simp only [COp.hint, cstep] at h
  split at h
  · rename_i v0 ok hps
    cases h
    unfold compP at hp
    split at hp
    · rename_i op t x y ut ho
      rcases ht : isEqT P t with _ | _
      · rw [ht] at hp; cases hp
      · rw [ht] at hp
        simp only [cond_true] at hp
        split at hp
        · rename_i cx cy sh e1 e2 e3
          split at hp
          · cases hp
            simp only [pstep] at hps
            split at hps
            · rename_i b hb
              cases hps
              exact ok_eqt (neg := false) ho (.inl ⟨rfl, rfl⟩) ht e1 e2 e3 he s hb
            · cases hps
          · cases hp
            simp only [pstep] at hps
            split at hps
            · rename_i b hb
              cases hps
              exact ok_eqt (neg := true) ho (.inr ⟨rfl, rfl⟩) ht e1 e2 e3 he s hb
            · cases hps
          · split at hp
            · rename_i hu
              cases hp
              simp only [pstep] at hps
              split at hps
              · rename_i a1 b1 g1 g2
                have h1 := he x cx e1
                have h2 := he y cy e2
                rw [g1] at h1
                rw [g2] at h2
                simp only [VRel] at h1 h2
                simp only [Option.some.injEq, Prod.mk.injEq, decide_eq_true_eq] at hps
                obtain ⟨rfl, hsz⟩ := hps
                refine OpOK.pure (x := .string (a1 ++ b1)) s ?_ rfl
                have : ¬ ((a1.size + b1.size : Nat) : Int) > IntKind.i64.max := by
                  have : IntKind.i64.max = 9223372036854775807 := rfl
                  omega
                have t2 : ¬ (IntKind.i64.max < (a1.size : Int) + b1.size) := by
                  intro h; exact this (by push_cast; exact h)
                have t3 : (a1.size : Int) + b1.size ≤ 9223372036854775807 := by omega
                simp [execOp, ho, h1, h2, eqGuard, binOp, Op.stringOp, t2]
                exact t3
              · cases hps
            · cases hp
          · cases hp
        · cases hp
    · rename_i x xt u ok0 ho
      split at hp
      · cases hp
      · rename_i d cx z hne e1 e2 e3
        cases hp
        have h1 := he x cx e2
        obtain ⟨i, zv, q1, q2, q3⟩ := zeroAV_spec e3
        have hz := AV.ofV_rel q3 μ
        have hzv : (zeroValue u).run P w = .ok zv w := by simp [zeroValue, typeInfo, q1, q2]
        have tup : ∀ v x b, VRel μ v x → VRel μ (.tup [v, .bool b]) (.tuple #[x, .bool b]) := fun v x b hv => ⟨_, rfl, hv, rfl, trivial⟩
        simp only [pstep] at hps
        split at hps
        · rename_i t' v' g1
          rw [g1] at h1
          obtain ⟨x', hx', hv'⟩ := h1
          rcases hb : Nat.beq t' u with _ | _
          · rw [hb] at hps
            simp only [cond_false] at hps
            cases ok0 with
            | false => cases hps
            | true =>
              simp only [cond_true, Option.some.injEq, Prod.mk.injEq] at hps
              obtain ⟨rfl, _⟩ := hps
              refine OpOK.pure (x := .tuple #[zv, .bool false]) s ?_ (tup _ _ _ hz)
              have hne' : ¬ t' = u := fun e => by rw [e] at hb; simp at hb
              cases d <;> first
                | (exact (hne _ rfl).elim)
                | simp [execOp, ho, hx', Instr.typeAssert, run_underlying e1, hne', hzv]
          · rw [hb] at hps
            simp only [cond_true, Option.some.injEq, Prod.mk.injEq] at hps
            obtain ⟨rfl, _⟩ := hps
            have he' := Nat.eq_of_beq_eq_true hb
            subst he'
            cases ok0 with
            | false =>
              refine OpOK.pure (x := x') s ?_ hv'
              cases d <;> first
                | (exact (hne _ rfl).elim)
                | simp [execOp, ho, hx', Instr.typeAssert, run_underlying e1]
            | true =>
              refine OpOK.pure (x := .tuple #[x', .bool true]) s ?_ (tup _ _ _ hv')
              cases d <;> first
                | (exact (hne _ rfl).elim)
                | simp [execOp, ho, hx', Instr.typeAssert, run_underlying e1]
        · rename_i g1
          rw [g1] at h1
          simp only [VRel] at h1
          cases ok0 with
          | false => cases hps
          | true =>
            simp only [cond_true, Option.some.injEq, Prod.mk.injEq] at hps
            obtain ⟨rfl, _⟩ := hps
            refine OpOK.pure (x := .tuple #[zv, .bool false]) s ?_ (tup _ _ _ hz)
            cases d <;> first
              | (exact (hne _ rfl).elim)
              | simp [execOp, ho, h1, Instr.typeAssert, run_underlying e1, hzv]
        · cases hps
      · cases hp
    · rename_i src dst x ho
      split at hp
      · rename_i e cx e1 e2 e3
        split at hp
        · rename_i e4
          cases hp
          exact ok_b2s ho e1 e4 e2 e3 he s hps
        · cases hp
      · rename_i t cx e1 e2 e3
        split at hp
        · rename_i i e4
          rcases hz : Nat.beq i.size 0 with _ | _
          · rw [hz] at hp
            cases hp
            exact ok_p2u ho e1 e2 e4 hz e3 he s hps
          · rw [hz] at hp; cases hp
        · cases hp
      · cases hp
    · rename_i c ho
      split at hp
      · rename_i x t g1 g2 g3
        split at hp
        · rename_i e cx e1 e2
          cases hp
          have h1 := he x cx e2
          have ho' : o.op = .call { callee := .builtin .cap, args := #[x], argTypes := #[t] } := by
            rw [ho]
            cases c
            simp only [] at g1 g2 g3
            subst g1
            congr 2
            · exact Array.toList_inj.1 g2
            · exact Array.toList_inj.1 g3
          have key : ∀ m : Nat, (Builtin.cap_ #[t] o.type #[a.eval x]).run P w = .ok (goInt m) w → OpOK P o a μ H w (.int .i64 m) H := by
            intro m hm
            refine OpOK.pure (x := goInt m) s (run_builtin ho' ?_) rfl
            simp [builtin, hm]
          simp only [pstep] at hps
          split at hps
          · rename_i b k j m c1 g
            cases hps
            rw [g] at h1
            obtain ⟨lc, A, c', q1, q2, q3, q4, q5, _⟩ := h1
            have := q5 rfl
            subst this
            exact key _ (by simp [Builtin.cap_, run_underlying e1, q2])
          · rename_i g
            cases hps
            rw [g] at h1
            simp only [VRel] at h1
            exact key 0 (by simp [Builtin.cap_, run_underlying e1, h1])
          · cases hps
        · cases hp
      · cases hp
    · cases hp
  · cases h
end
end Go.Eng
