/- The engine, tenth part: append, the model's side. -/
import Derived.Test.YtilmgiompalggaaGreatDoorEn06
namespace Go.Eng
open Go Go.RowKit
set_option linter.unusedVariables false
set_option linter.unusedSimpArgs false
/-- A block goes on under another number, in place. -/
theorem Sat.retarget {μ : Mu} {H : AH} {w w1 : World} (s : Sat μ H w) {b : Nat} {q : ABlk} {l : Loc} (hb : H.get b = some q) (hl : μ b = some l) (ho : q.own = true) (D : AC) (es off cap : Nat) {C : Array Value} {t : TypeId} {fz : Nat × Nat}
    (hsame : ∀ k, k ≠ l.blk → w1.heap[k]? = w.heap[k]?) (hs : w1.heap.size = w.heap.size) (h1 : w1.os = w.os) (h2 : w1.tape = w.tape) (h3 : w1.output = w.output)
    (hC : w1.heap[l.blk]? = some (.cells C t fz)) (hfz : fz.1 = fz.2 ∨ C.size ≤ fz.1) (hcap : off + cap * es ≤ C.size) (hq : Holds μ D es off C) :
    Sat (μ.add H.next ⟨l.blk, off, es, cap⟩) ((H.del b).push ⟨true, es, D⟩) w1 ∧ Fr μ H (μ.add H.next ⟨l.blk, off, es, cap⟩) ((H.del b).push ⟨true, es, D⟩) w w1 := by
  have hn := s.fresh H.next (Nat.le_refl _)
  have hle := Mu.add_le hn ⟨l.blk, off, es, cap⟩
  have hget : ∀ c, ((H.del b).push ⟨true, es, D⟩).get c = if c = H.next then some ⟨true, es, D⟩ else if c = b then none else H.get c := by
    intro c
    rw [AH.get_push]
    show (if c = H.next then _ else (H.del b).get c) = _
    rw [AH.get_del]
  refine ⟨⟨fun c hc => ?_, fun c k hk => ?_, fun c c' k k' m m' e1 e2 hne hk g1 g2 => ?_⟩, ⟨fun c hc => ?_, Nat.le_succ _, h1, h2, h3, Nat.le_of_eq hs.symm, fun k hk hn' => hsame k (fun e => hn' b q l hb ho hl e.symm), fun c x m e1 e2 => ?_⟩⟩
  · have hc' : H.next + 1 ≤ c := hc
    unfold Mu.add
    rw [if_neg (by omega)]
    exact s.fresh c (by omega)
  · rw [hget] at hk
    by_cases e : c = H.next
    · rw [if_pos e] at hk
      cases hk
      exact ⟨⟨l.blk, off, es, cap⟩, if_pos e, BSat.of_holds (fz := fz) rfl hC (fun _ => ⟨hfz, hcap⟩) (hq.ext hle)⟩
    · rw [if_neg e] at hk
      by_cases e' : c = b
      · rw [if_pos e'] at hk; cases hk
      · rw [if_neg e'] at hk
        obtain ⟨m, g1, g2⟩ := s.blk c k hk
        exact ⟨m, hle _ _ g1, g2.move hle (hsame _ (fun he => s.sep b c q k l m hb hk (Ne.symm e') ho hl g1 he.symm))⟩
  · rw [hget] at e1 e2
    unfold Mu.add at g1 g2
    by_cases e : c = H.next
    · rw [if_pos e] at g1
      cases g1
      have e' : ¬ c' = H.next := fun h => hne (e.trans h.symm)
      rw [if_neg e'] at e2 g2
      by_cases e'' : c' = b
      · rw [if_pos e''] at e2; cases e2
      · rw [if_neg e''] at e2
        exact s.sep b c' q k' l m' hb e2 (Ne.symm e'') ho hl g2
    · rw [if_neg e] at e1 g1
      by_cases eb : c = b
      · rw [if_pos eb] at e1; cases e1
      · rw [if_neg eb] at e1
        by_cases e' : c' = H.next
        · rw [if_pos e'] at g2
          cases g2
          exact fun he => s.sep b c q k l m hb e1 (Ne.symm eb) ho hl g1 he.symm
        · rw [if_neg e'] at e2 g2
          by_cases e'' : c' = b
          · rw [if_pos e''] at e2; cases e2
          · rw [if_neg e''] at e2
            exact s.sep c c' k k' m m' e1 e2 hne hk g1 g2
  · unfold Mu.add; rw [if_neg (by omega)]
  · rw [hget] at e1
    unfold Mu.add at e2
    by_cases e : c = H.next
    · rw [if_pos e] at e2; cases e2; exact .inr ⟨b, q, l, hb, hl, rfl, fun _ => ho⟩
    · rw [if_neg e] at e1 e2
      by_cases e' : c = b
      · rw [if_pos e'] at e1; cases e1
      · rw [if_neg e'] at e1; exact .inr ⟨c, x, m, e1, e2, rfl, id⟩
theorem Holds.sub {μ : Mu} {A : AC} {es n o : Nat} {vs : List Value} {E : Array Value} (h : Holds μ A es 0 vs.toArray) (he : ∀ p v, vs[p]? = some v → E[o + p]? = some v) : Holds μ A es o E :=
  ⟨h.1, fun k j hk => by
    obtain ⟨x, h1, h2, h3⟩ := h.cell hk
    rw [Nat.zero_add, List.getElem?_toArray] at h1
    exact ⟨x, by rw [Nat.add_assoc]; exact he _ _ h1, h2, h3⟩⟩
section
variable {P : Program} {o : Oper} {a : Act} {μ : Mu} {H H' : AH} {w : World} {ev : CX → AV} {v : AV}
/-- What a slice's elements are. -/
theorem slice_read {b k j n c es : Nat} {ex wh : Bool} {x : Value} {q : ABlk} {B : AC} (s : Sat μ H w) (hv : VRel μ (.sl b k j n c ex) x) (hq : H.get b = some q) (hseg : AC.seg wh q.st es k j n q.c = some (B, true)) (h0 : 0 < es) :
    ∃ (l : Loc) (A : Addr) (c' : Nat) (news : List Value) (C : Array Value) (t : TypeId) (fz : Nat × Nat), x = .slice (some A) n c' ∧ μ b = some l ∧ w.heap[l.blk]? = some (.cells C t fz) ∧ l.st = q.st ∧ (q.own = true → (fz.1 = fz.2 ∨ C.size ≤ fz.1) ∧ l.off + l.cap * q.st ≤ C.size) ∧ n ≤ c ∧ c ≤ c' ∧ (ex = true → c' = c) ∧ (A = l.at k j ∨ c' = 0) ∧ (ex = false → j = 0 ∧ c' + k ≤ l.cap) ∧
      news.length = n * es ∧ (∀ p u, news[p]? = some u → w.cell? (A.add p) = some u) ∧ (∀ u ∈ news, u.oneCell' = true) ∧ Holds μ B es 0 news.toArray ∧ Holds μ B es (l.off + k * q.st + j) C ∧ Full B es n := by
  obtain ⟨l, A, c', g1, g2, g3, g4, g5, g6, g7⟩ := hv
  obtain ⟨l', e1, e2⟩ := s.blk b q hq
  rw [g1] at e1
  cases e1
  have hmap : ∀ es, q.c ≠ .map es := by
    rintro es' e
    rw [e] at hseg
    simp [AC.seg] at hseg
  obtain ⟨hst, C, t, fz, f1, f2, f3⟩ := e2.holds hmap
  obtain ⟨i1, i2⟩ := seg_spec hseg f3
  obtain ⟨news, n1, n2, n3, n4⟩ := i2.list h0 i1
  refine ⟨l, A, c', news, C, t, fz, g2, g1, f1, hst, f2, g3, g4, g5, g6, g7, n1, fun p u hu => ?_, n3, n4, i1, i2⟩
  have hpos : 0 < n := by
    rcases Nat.eq_zero_or_pos n with e | e
    · subst e
      rw [Nat.zero_mul] at n1
      rw [List.eq_nil_of_length_eq_zero n1] at hu
      simp at hu
    · exact e
  rcases g6 with rfl | g6
  · rw [at_eq, Addr.add_mid]
    simp only [World.cell?, f1]
    have := n2 p u hu
    rw [hst]
    simpa using this
  · omega
theorem src_spec {wh : Bool} {es n : Nat} {y : Operand} {c : CX} {B : AC} {tx e' : TypeId} (hk : P.underlying tx = some (.slice e')) (hy : opd y = some c) (he : Ev μ ev a) (s : Sat μ H w) (h0 : 0 < es) (h : srcOf wh ev H es c = some (B, n, true)) :
    ∃ news, Src P es tx (a.eval y) n news w ∧ Holds μ B es 0 news.toArray ∧ Full B es n := by
  have hv := he y c hy
  unfold srcOf at h
  split at h
  · rename_i e1
    cases h
    rw [e1] at hv
    simp only [VRel] at hv
    rw [hv]
    exact ⟨[], Src.ofNil w hk 0, ⟨(fun _ e => by cases e), fun i j hi => by simp [AC.inb] at hi⟩, by simp [AC.size], (fun _ _ e => by cases e), (fun _ e => by cases e)⟩
  · rename_i b k j m c0 ex e1
    split at h
    · rename_i q hq
      split at h
      · rename_i A ok hseg
        cases h
        rw [e1] at hv
        obtain ⟨l, A', c', news, C, t, fz, r1, r2, r3, r4, r5, r6, r7, r8, r9, r10, r11, r12, r13, r14, r15, r16⟩ := slice_read s hv hq hseg h0
        rw [r1]
        exact ⟨news, Src.ofSlice w hk A' _ c' news r11 r12 r13, r14, r16⟩
      · cases h
    · cases h
  · rename_i b k j m c0 e1
    split at h
    · rename_i q hq
      split at h
      · rename_i A ok hseg
        cases h
        rw [e1] at hv
        rcases hv with ⟨hv, rfl, rfl⟩ | ⟨l, A', c1, g1, g2, g3, g4, g6⟩
        · rw [hv]
          obtain ⟨l', e1, e2⟩ := s.blk b q hq
          have hmap : ∀ es, q.c ≠ .map es := by
            rintro es' e
            rw [e] at hseg
            simp [AC.seg] at hseg
          obtain ⟨hst, C, t, fz, f1, f2, f3⟩ := e2.holds hmap
          obtain ⟨i1, i2⟩ := seg_spec hseg f3
          obtain ⟨news, n1, n2, n3, n4⟩ := i2.list h0 i1
          rw [Nat.zero_mul] at n1
          obtain rfl := List.eq_nil_of_length_eq_zero n1
          exact ⟨[], Src.ofNil w hk 0, n4, i2⟩
        · have hv2 : VRel μ (.sl b k j n c1 true) (a.eval y) := ⟨l, A', c1, g1, g2, by omega, Nat.le_refl _, fun _ => rfl, g6, fun e => by cases e⟩
          obtain ⟨l, A', c', news, C, t, fz, r1, r2, r3, r4, r5, r6, r7, r8, r9, r10, r11, r12, r13, r14, r15, r16⟩ := slice_read s hv2 hq hseg h0
          rw [r1]
          exact ⟨news, Src.ofSlice w hk A' _ c' news r11 r12 r13, r14, r16⟩
      · cases h
    · cases h
  · cases h
theorem zeroCells_size (z : Array Value) (n : Nat) : (Builtin.zeroCells z n).size = n * z.size := by simp [Builtin.zeroCells]
theorem E_get {olds news : List Value} {Z : Array Value} (p : Nat) (u : Value) (h : (olds ++ news)[p]? = some u) : ((olds ++ news).toArray ++ Z)[0 + p]? = some u := by
  have hlt := (List.getElem?_eq_some_iff.1 h).1
  rw [Nat.zero_add, Array.getElem?_append_left (by simpa using hlt)]
  simpa using h
/-- A row that grows. -/
theorem app_grow {t tx e : TypeId} {i : TypeInfo} {z : List AV} {base : Option Addr} {n cap n' : Nat} {x : Value} {olds news : List Value} {D A B : AC} (s : Sat μ H w)
    (ho : (execOp a.eval o).run P w = ((Builtin.append_ #[t, tx] o.type #[.slice base n cap, x]).run P w).andThen fun v w' => .ok (.value v) w')
    (ht : P.underlying t = some (.slice e)) (hi : P.info? e = some i) (hz : zeroOf P e = some z) (hzl : z.length = i.size) (h0 : 0 < i.size)
    (hold : (Builtin.firstCells i.size n (.slice base n cap)).run P w.drew = .ok olds.toArray w.drew) (hol : olds.length = n * i.size) (hs : Src P i.size tx x n' news w) (hg : cap < n + n')
    (hb : (n + n') * i.bytes ≤ 140737488355328) (h63 : n + n' ≤ 9223372036854775807) (hA : Holds μ A i.size 0 olds.toArray) (hB : Holds μ B i.size 0 news.toArray) (fA : Full A i.size n) (fB : Full B i.size n') (hD : AC.cat i.size n A B = some D) :
    OpOK P o a μ H w (.sl H.next 0 0 (n + n') (n + n') false) (H.push ⟨true, i.size, D⟩) := by
  obtain ⟨i', zv, g1, g2, g3, g4⟩ := zeroOf_spec hz μ
  rw [hi] at g1; cases g1
  have hzs : zv.cells.size = i.size := by have := g3.len; simp at this; omega
  have hrun := run_append_grow_src (P := P) w t tx o.type e i zv ht hi g2 base n cap olds hold x n' news hs hg (by omega) (growslice_fits hg hb)
  have hge := grownCap_ge w (n + n') cap e
  generalize grownCap w (n + n') cap e = G at *
  have hnl := hs.newsLen
  have h1 : Holds μ A i.size 0 ((olds ++ news).toArray ++ Builtin.zeroCells zv.cells (G - (n + n'))) := hA.sub (n := n) (fun p u hu => by
    have : (olds ++ news)[p]? = some u := by rw [List.getElem?_append_left (List.getElem?_eq_some_iff.1 hu).1]; exact hu
    exact E_get p u this)
  have h2 : Holds μ B i.size (0 + n * i.size) ((olds ++ news).toArray ++ Builtin.zeroCells zv.cells (G - (n + n'))) := hB.sub (n := n') (fun p u hu => by
    have : (olds ++ news)[n * i.size + p]? = some u := by
      rw [List.getElem?_append_right (by omega), ← hu]; congr 1; omega
    have := E_get (Z := Builtin.zeroCells zv.cells (G - (n + n'))) _ u this
    rwa [Nat.add_assoc])
  obtain ⟨k1, k2⟩ := cat_spec hD h0 fA fB h1 h2
  have hsz : G * i.size ≤ ((olds ++ news).toArray ++ Builtin.zeroCells zv.cells (G - (n + n'))).size := by
    rw [Array.size_append, zeroCells_size, hzs]
    simp only [List.size_toArray, List.length_append, hol, hnl]
    rw [← Nat.add_mul, ← Nat.add_mul]
    exact Nat.mul_le_mul_right _ (by omega)
  obtain ⟨q1, q2⟩ := (s.heap (w' := w.drew) rfl).alloc ⟨true, i.size, D⟩ _ e k1 G hsz
  refine ⟨_, .slice (some ⟨w.heap.size, 0, none⟩) (n + n') G, _, _, by rw [ho, hrun]; rfl, .inl rfl, ?_, q1, (Fr.drew μ H w).trans q2⟩
  exact ⟨⟨w.heap.size, 0, i.size, G⟩, _, _, if_pos rfl, rfl, Nat.le_refl _, hge, (fun h => by cases h), .inl (by simp [Loc.at]), fun _ => ⟨rfl, Nat.le_refl _⟩⟩
theorem app_run {t tx : TypeId} {x y : Operand} (ho : o.op = .call { callee := .builtin .append, args := #[x, y], argTypes := #[t, tx] }) : (execOp a.eval o).run P w = ((Builtin.append_ #[t, tx] o.type #[a.eval x, a.eval y]).run P w).andThen fun v w' => .ok (.value v) w' := by
  simp only [execOp, ho, resolve, Sem.run_bind, Sem.run_pure, Result.andThen_ok, invoke, builtin]
  simp
theorem full_room {μ : Mu} {A : AC} {es n off : Nat} {C : Array Value} (h : Full A es n) (h0 : 0 < es) (hn : 0 < n) (hq : Holds μ A es off C) : off + n * es ≤ C.size := by
  obtain ⟨x, g1, _⟩ := hq.cell (h.inb (i := n - 1) (j := es - 1) (by omega) (by omega))
  have := (Array.getElem?_eq_some_iff.1 g1).1
  have e : n * es = (n - 1) * es + es := by rw [← Nat.succ_mul]; congr 1; omega
  omega
theorem copInts_st {q q2 q' : ABlk} {k j k2 j2 m : Nat} (h : copInts q q2 k j k2 j2 m = some (q', true)) : q.st = 1 ∧ q2.st = 1 := by
  unfold copInts at h
  split at h
  · simp only [Option.some.injEq, Prod.mk.injEq, Bool.and_eq_true, decide_eq_true_eq] at h
    exact ⟨h.2.1.1.1.1.2, h.2.1.1.1.2⟩
  · cases h
theorem ok_appHere {t tx e e' : TypeId} {i : TypeInfo} {x y : Operand} {c d : CX} (ho : o.op = .call { callee := .builtin .append, args := #[x, y], argTypes := #[t, tx] }) (ht : P.underlying t = some (.slice e)) (hk : P.underlying tx = some (.slice e')) (hi : P.info? e = some i)
    (hx : opd x = some c) (hy : opd y = some d) (he : Ev μ ev a) (s : Sat μ H w) (h : appHere i.size (ev c) (ev d) H = some (v, H', true)) : OpOK P o a μ H w v H' := by
  have h1 := he x c hx
  have h2 := he y d hy
  have hrun := app_run (P := P) (a := a) (w := w) ho
  unfold appHere at h
  split at h
  · rename_i b k j n c0 ex b2 k2 j2 n2 c2 ex2 e1 e2
    rcases hb1 : Nat.beq b b2 with _ | _
    · rw [hb1] at h; cases h
    rw [hb1] at h
    simp only [cond_true] at h
    rcases hb4 : Nat.beq n2 0 with _ | _
    rotate_left
    · rw [hb4] at h
      simp only [cond_true, Option.some.injEq, Prod.mk.injEq] at h
      obtain ⟨rfl, rfl, _⟩ := h
      obtain rfl := Nat.eq_of_beq_eq_true hb4
      rw [e1] at h1
      rw [e2] at h2
      have h1' := h1
      obtain ⟨l, A, cp, g1, g2, g3, g4, g5, g6, g7⟩ := h1
      obtain ⟨l2, A2, cp2, f1, f2, f3, f4, f5, f6, f7⟩ := h2
      refine OpOK.pure s ?_ h1'
      have hs : Src P i.size tx (a.eval y) 0 [] w := by
        rw [f2]
        exact Src.ofSlice w hk (some A2 |>.getD A2) _ cp2 [] (by simp) (fun p u hp => by simp at hp) (fun u hu => by cases hu)
      rw [hrun, g2, run_append_nothing (P := P) w t tx o.type e i ht hi (some A) n cp (by omega) _ hs]
      rfl
    rw [hb4] at h
    simp only [cond_false] at h
    rcases hb : (Nat.beq i.size 1 && Nat.ble (n + n2) c0) with _ | _
    · rw [hb] at h; cases h
    · rw [hb] at h
      simp only [cond_true] at h
      simp only [Bool.and_eq_true] at hb
      obtain ⟨hb2, hb3⟩ := hb
      obtain rfl := Nat.eq_of_beq_eq_true hb1
      have hes := Nat.eq_of_beq_eq_true hb2
      have hroom := Nat.le_of_ble_eq_true hb3
      have hn0 : n2 ≠ 0 := fun e => by subst e; simp at hb4
      split at h
      · rename_i q hq
        split at h
        · rename_i q' ok hc
          simp only [Option.some.injEq, Prod.mk.injEq] at h
          obtain ⟨rfl, rfl, rfl⟩ := h
          obtain ⟨c', rfl, hown, hin, hin2, hu, hmap⟩ := copInts_ok hc
          obtain ⟨hst, _⟩ := copInts_st hc
          rw [e1] at h1
          rw [e2] at h2
          obtain ⟨l, A, cp, g1, g2, g3, g4, g5, g6, g7⟩ := h1
          obtain ⟨l2, A2, cp2, f1, f2, f3, f4, f5, f6, f7⟩ := h2
          rw [g1] at f1
          cases f1
          have hA : A = l.at k j := g6.resolve_right (by omega)
          have hA2 : A2 = l.at k2 j2 := f6.resolve_right (by omega)
          obtain ⟨us, u1, u2, u3, u4⟩ := s.reads hq g1 hin2
          have hvl : (q.c.vals q.st k2 j2 n2).length = n2 := by rw [u3.len, u1]
          obtain ⟨q1, q2, q3⟩ := s.stores hq g1 hown (k := k) (j := j + n) (vs := q.c.vals q.st k2 j2 n2) (us := us) (c' := c') (by rw [hvl]; exact hin) hmap hu u3 u4
          have hsrc : Src P i.size tx (a.eval y) n2 us w := by
            rw [f2]
            refine Src.ofSlice w hk A2 _ cp2 us (by rw [hes, Nat.mul_one, u1]) (fun p u hp => ?_) u4
            rw [hA2, at_eq, Addr.add_mid]
            have := u2 p u hp
            rw [at_eq] at this
            rw [← this]
            congr 2
            omega
          obtain ⟨l', m1, m2⟩ := s.blk b q hq
          rw [g1] at m1
          cases m1
          obtain ⟨hlst, C, t', fz, r1, r2, r3⟩ := m2.holds hmap
          rw [hst] at hlst
          have hrm := run_append_room_src (P := P) w t tx o.type e i ht hi l.blk (l.off + k * l.st + j) n cp (a.eval y) n2 us hsrc (by omega) (fun p hp => by
              rw [hes, Nat.mul_one]
              have := (q3 p hp).1
              rwa [show l.off + k * l.st + (j + n) + p = l.off + k * l.st + j + n + p by omega] at this) (fun p hp => by
              rw [hes, Nat.mul_one]
              have := (q3 p hp).2
              rwa [show l.off + k * l.st + (j + n) + p = l.off + k * l.st + j + n + p by omega] at this)
          rw [hes, Nat.mul_one] at hrm
          refine ⟨_, .slice (some A) (n + n2) cp, _, μ, by rw [hrun, g2, hA, at_eq, hrm]; rfl, .inl rfl, ?_, by rwa [show l.off + k * l.st + (j + n) = l.off + k * l.st + j + n by omega] at q1, by rwa [show l.off + k * l.st + (j + n) = l.off + k * l.st + j + n by omega] at q2⟩
          exact ⟨l, A, cp, g1, rfl, hroom, g4, g5, g6, g7⟩
        · cases h
      · cases h
  · cases h
theorem ok_app {t tx e e' : TypeId} {i : TypeInfo} {z : List AV} {x y : Operand} {c d : CX} {hint : Nat} (ho : o.op = .call { callee := .builtin .append, args := #[x, y], argTypes := #[t, tx] }) (ht : P.underlying t = some (.slice e)) (hk : P.underlying tx = some (.slice e')) (hi : P.info? e = some i) (hz : zeroOf P e = some z)
    (hzl : z.length = i.size) (h0 : 0 < i.size) (hx : opd x = some c) (hy : opd y = some d) (he : Ev μ ev a) (s : Sat μ H w) (h : cstep ev H (.app hint i.size i.bytes z c d) = some (v, H', true)) : OpOK P o a μ H w v H' := by
  have h1 := he x c hx
  have hrun := app_run (P := P) (a := a) (w := w) ho
  simp only [cstep] at h
  split at h
  · rename_i r hr
    cases h
    exact ok_appHere ho ht hk hi hx hy he s hr
  split at h
  · rename_i B n' okb hsrc
    obtain ⟨ok, h9, hk1, hk2⟩ : ∃ ok, appStep hint i.size i.bytes (ev c) H B n' = some (v, H', ok) ∧ ok = true ∧ okb = true := by
      split at h
      · rename_i v1 H1 ok h1
        simp only [Option.some.injEq, Prod.mk.injEq, Bool.and_eq_true] at h
        obtain ⟨rfl, rfl, g1, g2⟩ := h
        exact ⟨ok, h1, g2, g1⟩
      · cases h
    clear h
    have h := h9
    clear h9
    subst hk1 hk2
    simp only [appStep] at h
    have main : True → OpOK P o a μ H w v H' := by
      rintro -
      obtain ⟨news, hs, hB, fB⟩ := src_spec hk hy he s h0 hsrc
      split at h
      · rename_i e1
        rw [e1] at h1
        simp only [VRel] at h1
        rw [h1] at hrun
        rcases hb : (Nat.testBit hint 3 || !Nat.beq n' 0) with _ | _
        · rw [hb] at h
          simp only [cond_false, Option.some.injEq, Prod.mk.injEq, Bool.true_and] at h
          obtain ⟨rfl, rfl, hn⟩ := h
          obtain rfl : n' = 0 := Nat.eq_of_beq_eq_true hn
          have hnn : news = [] := List.eq_nil_of_length_eq_zero (by rw [hs.newsLen, Nat.zero_mul])
          subst hnn
          refine OpOK.pure (x := .slice none 0 0) s ?_ rfl
          rw [hrun, run_append_nothing (P := P) w t tx o.type e i ht hi none 0 0 (Nat.le_refl _) _ hs]
          rfl
        · rw [hb] at h
          simp only [cond_true, Option.some.injEq, Prod.mk.injEq, Bool.and_eq_true, decide_eq_true_eq] at h
          obtain ⟨rfl, rfl, ⟨b1, b2⟩, b3⟩ := h
          have hD : AC.cat i.size 0 (.cells []) B = some B := by
            cases B with
            | cells l => rfl
            | ints q xs => rfl
            | recs n f => rfl
            | map l => exact absurd rfl (fB.nomap l)
            | tr n t => rfl
          have := app_grow (P := P) (o := o) (a := a) (base := none) (n := 0) (cap := 0) (olds := []) (A := .cells []) (D := B) s hrun ht hi hz hzl h0 (run_firstCells_none w.drew i.size 0 0 0) (by simp) hs (by omega) (by rwa [Nat.zero_add]) (by rwa [Nat.zero_add])
            ⟨(fun _ e => by cases e), fun i j hi => by simp [AC.inb] at hi⟩ hB ⟨by simp [AC.size], (fun _ _ e => by cases e), (fun _ e => by cases e)⟩ fB hD
          rwa [Nat.zero_add] at this
      · rename_i b k j n c0 ex e1
        rw [e1] at h1
        split at h
        · rename_i q hq
          split at h
          · rename_i A oka hseg
            split at h
            · rename_i D hD
              have grow : oka = true → c0 < n + n' → (n + n') * i.bytes ≤ 140737488355328 → n + n' ≤ 9223372036854775807 → ex = true → OpOK P o a μ H w (.sl H.next 0 0 (n + n') (n + n') false) (H.push ⟨true, i.size, D⟩) := by
                rintro rfl hlt b2 b3 hex
                obtain ⟨l, A', c', olds, C, t', fz, r1, r2, r3, r4, r5, r6, r7, r8, r9, r10, r11, r12, r13, r14, r15, r16⟩ := slice_read s h1 hq hseg h0
                rw [r1] at hrun
                have hce := r8 hex
                exact app_grow s hrun ht hi hz hzl h0 (run_firstCells_some w.drew i.size n A' n c' olds r11 (by simpa using r12)) r11 hs (by omega) b2 b3 r14 hB r16 fB hD
              rcases hb : (Nat.testBit hint 0 || !ex || Nat.ble (n + n') c0) with _ | _
              · rw [hb] at h
                simp only [cond_false] at h
                rcases hb2 : Nat.blt c0 (n + n') with _ | _
                · rw [hb2] at h; cases h
                · rw [hb2] at h
                  simp only [cond_true, Option.some.injEq, Prod.mk.injEq, Bool.and_eq_true, decide_eq_true_eq] at h
                  obtain ⟨rfl, rfl, ⟨b1, b2⟩, b3⟩ := h
                  refine grow b1 (Nat.le_of_ble_eq_true hb2) b2 b3 ?_
                  simp only [Bool.or_eq_false_iff, Bool.not_eq_false'] at hb
                  exact hb.1.2
              · rw [hb] at h
                simp only [cond_true, Option.some.injEq, Prod.mk.injEq, Bool.and_eq_true, decide_eq_true_eq, Bool.or_eq_true, Bool.not_eq_true'] at h
                obtain ⟨rfl, rfl, ⟨⟨⟨⟨⟨b1, b2⟩, b3⟩, b4⟩, b5⟩, b6⟩, b7⟩ := h
                subst b1
                obtain rfl : j = 0 := Nat.eq_of_beq_eq_true b3
                obtain ⟨l, A', c', olds, C, t', fz, r1, r2, r3, r4, r5, r6, r7, r8, r9, r10, r11, r12, r13, r14, r15, r16⟩ := slice_read s h1 hq hseg h0
                obtain ⟨r5a, r5b⟩ := r5 b2
                rw [r1] at hrun
                rw [b4] at r5b r15
                rw [b4] at r4
                by_cases hroom : n + n' ≤ c'
                · -- in place
                  have hcc : c' = 0 ∨ l.off + k * i.size + c' * i.size ≤ C.size := by
                    rcases Nat.eq_zero_or_pos c' with e0 | e0
                    · exact .inl e0
                    · right
                      cases hex : ex with
                      | false =>
                        obtain ⟨_, hr⟩ := r10 hex
                        have : (c' + k) * i.size ≤ l.cap * i.size := Nat.mul_le_mul_right _ hr
                        rw [Nat.add_mul] at this
                        omega
                      | true =>
                        have hce := r8 hex
                        rcases b5 with (b5 | b5) | b5
                        · rw [hex] at b5; cases b5
                        · have hcn : c0 = n := b5
                          have := full_room r16 h0 (by omega) r15
                          rw [hce, hcn]
                          simpa using this
                        · unfold AC.holds at b5
                          split at b5
                          · rename_i A2 ok2 hs2
                            subst b5
                            obtain ⟨l'', m1, m2⟩ := s.blk b q hq
                            rw [r2] at m1
                            cases m1
                            have hmap : ∀ es, q.c ≠ .map es := by
                              rintro es' e
                              rw [e] at hs2
                              simp [AC.seg] at hs2
                            obtain ⟨_, C', t'', fz'', f1, f2, f3⟩ := m2.holds hmap
                            rw [r3] at f1
                            cases f1
                            rw [b4] at hs2 f3
                            obtain ⟨i1, i2⟩ := seg_spec hs2 f3
                            have := full_room i2 h0 (by omega) i1
                            rw [hce]
                            simpa using this
                          · cases b5
                  have hres : (Builtin.append_ #[t, tx] o.type #[.slice (some A') n c', a.eval y]).run P w = .ok (.slice (some A') (n + n') c') (w.setCells l.blk (l.off + k * i.size + n * i.size) news) := by
                    rcases Nat.eq_zero_or_pos n' with e0 | e0
                    · subst e0
                      have hnn : news = [] := List.eq_nil_of_length_eq_zero (by rw [hs.newsLen, Nat.zero_mul])
                      subst hnn
                      exact run_append_nothing (P := P) w t tx o.type e i ht hi (some A') n c' (by omega) _ hs
                    · have hA : A' = l.at k 0 := by rcases r9 with r9 | r9; exact r9; omega
                      subst hA
                      have hC := hcc.resolve_left (by omega)
                      have hin : ∀ p, p < news.length → l.off + k * i.size + n * i.size + p < C.size := by
                        intro p hp
                        rw [hs.newsLen] at hp
                        have : (n + n') * i.size ≤ c' * i.size := Nat.mul_le_mul_right _ hroom
                        rw [Nat.add_mul] at this
                        omega
                      have := run_append_room_src (P := P) w t tx o.type e i ht hi l.blk (l.off + k * l.st) n c' (a.eval y) n' news hs hroom (fun p hp => by
                        have := hin p hp
                        simp only [World.cell?, r3, r4]
                        simp [this]) (fun p hp => by
                        have h7 := hin p hp
                        simp only [World.frozen?, r3, r4]
                        rcases r5a with h8 | h8
                        · simp; omega
                        · simp; omega)
                      rw [r4] at this
                      simpa [at_eq, r4] using this
                  have hset := setCells_heap l.blk news (l.off + k * i.size + n * i.size) w C t' fz r3
                  obtain ⟨m1, m2, m3, m4⟩ := setCells_rest l.blk news (l.off + k * i.size + n * i.size) w
                  -- what stands there now
                  have hgetN : ∀ (us : List Value) (o' : Nat) (C0 : Array Value) (p : Nat) (u : Value), o' + us.length ≤ C0.size → us[p]? = some u → (setFrom o' us C0)[o' + p]? = some u := by
                    intro us
                    induction us with
                    | nil => intro o' C0 p u _ hp; simp at hp
                    | cons u0 us ih =>
                      intro o' C0 p u hle hp
                      rw [setFrom]
                      simp only [List.length_cons] at hle
                      cases p with
                      | zero =>
                        simp at hp; subst hp
                        have hother : ∀ (us : List Value) (o' : Nat) (C0 : Array Value) (p : Nat), p < o' → (setFrom o' us C0)[p]? = C0[p]? := by
                          intro us
                          induction us with
                          | nil => intro _ _ _ _; rfl
                          | cons u1 us ih => intro o' C0 p hp; rw [setFrom, ih _ _ _ (by omega), Array.getElem?_setIfInBounds_ne (by omega)]
                        show (setFrom (o' + 1) us (C0.setIfInBounds o' u0))[o']? = some u0
                        rw [hother us (o' + 1) _ o' (by omega), Array.getElem?_setIfInBounds_self]
                        simp; omega
                      | succ p =>
                        have := ih (o' + 1) (C0.setIfInBounds o' u0) p u (by simp; omega) (by simpa using hp)
                        rwa [show o' + 1 + p = o' + (p + 1) by omega] at this
                  have hgetO : ∀ (us : List Value) (o' : Nat) (C0 : Array Value) (p : Nat), p < o' → (setFrom o' us C0)[p]? = C0[p]? := by
                    intro us
                    induction us with
                    | nil => intro _ _ _ _; rfl
                    | cons u1 us ih => intro o' C0 p hp; rw [setFrom, ih _ _ _ (by omega), Array.getElem?_setIfInBounds_ne (by omega)]
                  have holds : Holds μ D i.size (l.off + k * i.size) (setFrom (l.off + k * i.size + n * i.size) news C) := by
                    refine (cat_spec hD h0 r16 fB (r14.sub (n := n) (fun p u hu => ?_)) (hB.sub (n := n') (fun p u hu => ?_))).1
                    · have hp : p < n * i.size := by rw [← r11]; exact (List.getElem?_eq_some_iff.1 hu).1
                      rw [hgetO _ _ _ _ (by omega)]
                      have := r12 p u hu
                      have hA : A' = l.at k 0 := by
                        rcases r9 with r9 | r9
                        · exact r9
                        · exfalso
                          have : n = 0 := by omega
                          subst this
                          simp at hp
                      rw [hA, at_eq, Addr.add_mid] at this
                      simp only [World.cell?, r3, r4] at this
                      simpa using this
                    · refine hgetN news _ C p u ?_ hu
                      have hp : p < n' * i.size := by rw [← hs.newsLen]; exact (List.getElem?_eq_some_iff.1 hu).1
                      have hn' : 0 < n' := by
                        rcases Nat.eq_zero_or_pos n' with e0 | e0
                        · subst e0; simp at hp
                        · exact e0
                      have hC := hcc.resolve_left (by omega)
                      have : (n + n') * i.size ≤ c' * i.size := Nat.mul_le_mul_right _ hroom
                      rw [Nat.add_mul] at this
                      rw [hs.newsLen]
                      omega
                  have hDz : c' = 0 → Holds μ D i.size 0 (setFrom (l.off + k * i.size + n * i.size) news C) := by
                    intro e0
                    refine ⟨holds.1, fun p u hpu => ?_⟩
                    exfalso
                    have hn : n = 0 := by omega
                    have hn' : n' = 0 := by omega
                    have hf := (cat_spec hD h0 r16 fB (r14.sub (n := n) (o := 0) (E := olds.toArray ++ news.toArray) (fun p u hu => by
                      rw [Nat.zero_add, Array.getElem?_append_left (by simpa using (List.getElem?_eq_some_iff.1 hu).1)]; simpa using hu)) (hB.sub (n := n') (fun p u hu => by
                        rw [Nat.zero_add, ← r11, Array.getElem?_append_right (by simp)]; simpa using hu))).2
                    have hsz := hf.size
                    rw [hn, hn'] at hsz
                    cases D with
                    | cells l => simp only [AC.size, AC.inb, decide_eq_true_eq] at hsz hpu; omega
                    | ints q xs => simp only [AC.size, AC.inb, Bool.and_eq_true, decide_eq_true_eq] at hsz hpu; omega
                    | recs m f =>
                      simp only [AC.size, AC.inb, Bool.and_eq_true, decide_eq_true_eq] at hsz hpu
                      rcases Nat.eq_zero_or_pos m with e | e
                      · omega
                      · have := Nat.mul_pos e h0; omega
                    | map l => exact hf.nomap l rfl
                    | tr m t => simp only [AC.size, AC.inb, decide_eq_true_eq] at hsz hpu; omega
                  rcases Nat.eq_zero_or_pos c' with e0 | e0
                  · obtain ⟨q1, q2⟩ := s.retarget hq r2 b2 D i.size 0 0 (setCells_other l.blk news _ w) m1 m2 m3 m4 hset (by rw [setFrom_size]; exact r5a) (by simp) (hDz e0)
                    refine ⟨_, .slice (some A') (n + n') c', _, _, by rw [hrun, hres]; rfl, .inl rfl, ?_, q1, q2⟩
                    exact ⟨⟨l.blk, 0, i.size, 0⟩, _, _, if_pos rfl, rfl, Nat.le_refl _, hroom, (fun h => by cases h), .inr e0, fun _ => ⟨rfl, by show c' + 0 ≤ 0; omega⟩⟩
                  · have hA : A' = l.at k 0 := by rcases r9 with r9 | r9; exact r9; omega
                    obtain ⟨q1, q2⟩ := s.retarget hq r2 b2 D i.size (l.off + k * i.size) c' (setCells_other l.blk news _ w) m1 m2 m3 m4 hset (by rw [setFrom_size]; exact r5a) (by rw [setFrom_size]; exact hcc.resolve_left (by omega)) holds
                    refine ⟨_, .slice (some A') (n + n') c', _, _, by rw [hrun, hres]; rfl, .inl rfl, ?_, q1, q2⟩
                    exact ⟨⟨l.blk, l.off + k * i.size, i.size, c'⟩, _, _, if_pos rfl, rfl, Nat.le_refl _, hroom, (fun h => by cases h), .inl (by rw [hA]; simp [at_eq, r4]), fun _ => ⟨rfl, Nat.le_refl _⟩⟩
                · -- a new row
                  obtain ⟨r, xv, w', μ', k1, k2, k3, k4, k5⟩ := app_grow s hrun ht hi hz hzl h0 (run_firstCells_some w.drew i.size n A' n c' olds r11 (by simpa using r12)) r11 hs (by omega) b6 b7 r14 hB r16 fB hD
                  have hbn : b ≠ H.next := fun e => by have := s.lt r2; omega
                  obtain ⟨u1, u2⟩ := k4.sub (H' := (H.del b).push ⟨true, i.size, D⟩) rfl (fun c x hc => by
                    rw [AH.get_push] at hc ⊢
                    by_cases ec : c = H.next
                    · rw [if_pos ec]
                      have : c = (H.del b).next := ec
                      rw [if_pos this] at hc
                      exact hc
                    · rw [if_neg ec]
                      have : ¬ c = (H.del b).next := ec
                      rw [if_neg this, AH.get_del] at hc
                      by_cases ecb : c = b
                      · rw [if_pos ecb] at hc; cases hc
                      · rw [if_neg ecb] at hc; exact hc)
                  exact ⟨r, xv, w', μ', k1, k2, k3, u1, k5.trans u2⟩
            · cases h
          · cases h
        · cases h
      · cases h
    exact main trivial
  · cases h
end
end Go.Eng
