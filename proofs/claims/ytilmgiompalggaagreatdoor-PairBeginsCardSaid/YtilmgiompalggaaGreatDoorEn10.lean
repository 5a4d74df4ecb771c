/- The engine, tenth part, functions without a body: numbers read and written at once, marks. -/
import Derived.Test.YtilmgiompalggaaGreatDoorEn09
import Derived.Laws.LoneSync
namespace Go.Eng
open Go Go.RowKit
set_option linter.unusedVariables false
set_option linter.unusedSimpArgs false
/-- What the model runs for it. -/
def XKe : XK → (Array Value → Sem Value) → Prop
  | .ld k, e => e = Extern.Atomic.loadT (.int k)
  | .st, e => e = Extern.Atomic.storeT
  | .add k, e => e = Extern.Atomic.update (Op.intArith .add) k true
  | .cas k, e => e = Extern.Atomic.casT (.int k)
  | .m1, e => ∃ m, e = Extern.Race.marked m
  | .m0, e => ∃ m, e = fun _ => do mark m; pure Extern.Race.none_
/-- A row of the model's table. -/
structure XRow (n : String) (k : XK) : Prop where
  e : ∃ e, Extern.allRows.lookup n = some e ∧ XKe k e
  g : (Extern.allGenericRows.lookup n).isNone = true
  t : (Extern.allTypedRows.lookup n).isNone = true
  x : (Extern.allNextRows.lookup n).isNone = true
  d : (n == "runtime.NumGoroutine") = false
theorem xr1 : XRow "sync/atomic.AddInt64" (.add .i64) := ⟨⟨_, (by kernel_rfl : Extern.allRows.lookup "sync/atomic.AddInt64" = some (Extern.Atomic.update (Op.intArith .add) .i64 true)), rfl⟩, by kernel_rfl, by kernel_rfl, by kernel_rfl, by kernel_rfl⟩
theorem xr2 : XRow "sync/atomic.AddInt32" (.add .i32) := ⟨⟨_, (by kernel_rfl : Extern.allRows.lookup "sync/atomic.AddInt32" = some (Extern.Atomic.update (Op.intArith .add) .i32 true)), rfl⟩, by kernel_rfl, by kernel_rfl, by kernel_rfl, by kernel_rfl⟩
theorem xr3 : XRow "sync/atomic.LoadInt64" (.ld .i64) := ⟨⟨_, (by kernel_rfl : Extern.allRows.lookup "sync/atomic.LoadInt64" = some (Extern.Atomic.loadT (.int .i64))), rfl⟩, by kernel_rfl, by kernel_rfl, by kernel_rfl, by kernel_rfl⟩
theorem xr4 : XRow "sync/atomic.LoadInt32" (.ld .i32) := ⟨⟨_, (by kernel_rfl : Extern.allRows.lookup "sync/atomic.LoadInt32" = some (Extern.Atomic.loadT (.int .i32))), rfl⟩, by kernel_rfl, by kernel_rfl, by kernel_rfl, by kernel_rfl⟩
theorem xr5 : XRow "sync/atomic.LoadUint32" (.ld .u32) := ⟨⟨_, (by kernel_rfl : Extern.allRows.lookup "sync/atomic.LoadUint32" = some (Extern.Atomic.loadT (.int .u32))), rfl⟩, by kernel_rfl, by kernel_rfl, by kernel_rfl, by kernel_rfl⟩
theorem xr6 : XRow "sync/atomic.StoreUint32" .st := ⟨⟨_, (by kernel_rfl : Extern.allRows.lookup "sync/atomic.StoreUint32" = some Extern.Atomic.storeT), rfl⟩, by kernel_rfl, by kernel_rfl, by kernel_rfl, by kernel_rfl⟩
theorem xr7 : XRow "sync/atomic.CompareAndSwapInt32" (.cas .i32) := ⟨⟨_, (by kernel_rfl : Extern.allRows.lookup "sync/atomic.CompareAndSwapInt32" = some (Extern.Atomic.casT (.int .i32))), rfl⟩, by kernel_rfl, by kernel_rfl, by kernel_rfl, by kernel_rfl⟩
theorem xr8 : XRow "internal/race.Acquire" .m1 := ⟨⟨_, (by kernel_rfl : Extern.allRows.lookup "internal/race.Acquire" = some (Extern.Race.marked .acquire)), _, rfl⟩, by kernel_rfl, by kernel_rfl, by kernel_rfl, by kernel_rfl⟩
theorem xr9 : XRow "internal/race.Release" .m1 := ⟨⟨_, (by kernel_rfl : Extern.allRows.lookup "internal/race.Release" = some (Extern.Race.marked .release)), _, rfl⟩, by kernel_rfl, by kernel_rfl, by kernel_rfl, by kernel_rfl⟩
theorem xr10 : XRow "internal/race.Disable" .m0 := ⟨⟨_, (by kernel_rfl : Extern.allRows.lookup "internal/race.Disable" = some (fun _ => do mark .disable; pure Extern.Race.none_)), _, rfl⟩, by kernel_rfl, by kernel_rfl, by kernel_rfl, by kernel_rfl⟩
theorem xr11 : XRow "internal/race.Enable" .m0 := ⟨⟨_, (by kernel_rfl : Extern.allRows.lookup "internal/race.Enable" = some (fun _ => do mark .enable; pure Extern.Race.none_)), _, rfl⟩, by kernel_rfl, by kernel_rfl, by kernel_rfl, by kernel_rfl⟩
theorem xr12 : XRow "internal/race.ReleaseMerge" .m1 := ⟨⟨_, (by kernel_rfl : Extern.allRows.lookup "internal/race.ReleaseMerge" = some (Extern.Race.marked .releaseMerge)), _, rfl⟩, by kernel_rfl, by kernel_rfl, by kernel_rfl, by kernel_rfl⟩
theorem xr13 : XRow "sync/atomic.StoreInt32" .st := ⟨⟨_, (by kernel_rfl : Extern.allRows.lookup "sync/atomic.StoreInt32" = some Extern.Atomic.storeT), rfl⟩, by kernel_rfl, by kernel_rfl, by kernel_rfl, by kernel_rfl⟩
theorem xr14 : XRow "sync/atomic.StoreInt64" .st := ⟨⟨_, (by kernel_rfl : Extern.allRows.lookup "sync/atomic.StoreInt64" = some Extern.Atomic.storeT), rfl⟩, by kernel_rfl, by kernel_rfl, by kernel_rfl, by kernel_rfl⟩
theorem bifT {α : Type} {b : Bool} {x y z : α} (h : (bif b then x else y) = z) : (b = true ∧ x = z) ∨ y = z := by
  cases b
  · exact .inr h
  · exact .inl ⟨rfl, h⟩
theorem xkOf_row {n : String} {k : XK} (h : xkOf n = some k) : XRow n k := by
  unfold xkOf at h
  rcases bifT h with ⟨e, q⟩ | h
  · rw [beq_iff_eq] at e; cases q; subst e; exact xr1
  rcases bifT h with ⟨e, q⟩ | h
  · rw [beq_iff_eq] at e; cases q; subst e; exact xr2
  rcases bifT h with ⟨e, q⟩ | h
  · rw [beq_iff_eq] at e; cases q; subst e; exact xr3
  rcases bifT h with ⟨e, q⟩ | h
  · rw [beq_iff_eq] at e; cases q; subst e; exact xr4
  rcases bifT h with ⟨e, q⟩ | h
  · rw [beq_iff_eq] at e; cases q; subst e; exact xr5
  rcases bifT h with ⟨e, q⟩ | h
  · rw [beq_iff_eq] at e; cases q; subst e; exact xr6
  rcases bifT h with ⟨e, q⟩ | h
  · rw [beq_iff_eq] at e; cases q; subst e; exact xr7
  rcases bifT h with ⟨e, q⟩ | h
  · rw [beq_iff_eq] at e; cases q; subst e; exact xr8
  rcases bifT h with ⟨e, q⟩ | h
  · rw [beq_iff_eq] at e; cases q; subst e; exact xr9
  rcases bifT h with ⟨e, q⟩ | h
  · rw [beq_iff_eq] at e; cases q; subst e; exact xr10
  rcases bifT h with ⟨e, q⟩ | h
  · rw [beq_iff_eq] at e; cases q; subst e; exact xr11
  rcases bifT h with ⟨e, q⟩ | h
  · rw [beq_iff_eq] at e; cases q; subst e; exact xr12
  rcases bifT h with ⟨e, q⟩ | h
  · rw [beq_iff_eq] at e; cases q; subst e; exact xr13
  rcases bifT h with ⟨e, q⟩ | h
  · rw [beq_iff_eq] at e; cases q; subst e; exact xr14
  cases h
theorem next0 : (Extern.allNextRows.lookup "").isNone = true := by kernel_rfl
theorem extOf_spec {P : Program} {f : FuncId} {k : XK} (h : extOf P f = some k) : ∃ fn e, P.funcs[f]? = some fn ∧ (fn.name == "runtime.NumGoroutine") = false ∧ fn.body.isNone = true ∧ Extern.findNext fn = none ∧ Extern.find fn = some e ∧ XKe k e := by
  unfold extOf at h
  split at h
  · rename_i fn hf
    split at h
    · rename_i hb
      rcases bifT h with ⟨e, q⟩ | h
      · rw [beq_iff_eq] at e
        have r := xkOf_row q
        obtain ⟨ex, e1, e2⟩ := r.e
        refine ⟨fn, ex, hf, r.d, by simp [hb], ?_, ?_, e2⟩
        · have a1 : Extern.allNextRows.lookup fn.name = none := by simpa using r.x
          have a2 : Extern.allNextRows.lookup "" = none := by simpa using next0
          simp [Extern.findNext, a1, e, a2]
        · have a1 : Extern.allGenericRows.lookup fn.name = none := by simpa using r.g
          have a2 : Extern.allTypedRows.lookup fn.name = none := by simpa using r.t
          simp [Extern.find, a1, a2, e1]
      · cases h
    · cases h
  · cases h
section
variable {P : Program} {o : Oper} {a : Act} {μ : Mu} {H H' : AH} {w : World} {ev : CX → AV} {v : AV}
theorem cellN_spec {u : AV} {b : Nat} {y : ABlk} {k j : Nat} {q : IntKind} {n : Int} (h : cellN H u = some (b, y, k, j, q, n)) : u = .ptr b k j ∧ H.get b = some y ∧ y.c.inb y.st k j = true ∧ y.c.val y.st k j = .int q n := by
  unfold cellN at h
  split at h
  · rename_i b' k' j'
    split at h
    · rename_i y' hy
      rcases hb : y'.c.inb y'.st k' j' with _ | _
      · rw [hb] at h; cases h
      · rw [hb] at h
        simp only [cond_true] at h
        split at h
        · rename_i q' n' hv
          simp only [Option.some.injEq, Prod.mk.injEq] at h
          obtain ⟨rfl, rfl, rfl, rfl, rfl, rfl⟩ := h
          exact ⟨rfl, hy, hb, hv⟩
        · cases h
    · cases h
  · cases h
/-- The cell behind a pointer. -/
theorem cell_at {u : AV} {x : Value} {b : Nat} {y : ABlk} {k j : Nat} {q : IntKind} {n : Int} (h : cellN H u = some (b, y, k, j, q, n)) (hx : VRel μ u x) (s : Sat μ H w) : ∃ l, μ b = some l ∧ x = .pointer (some (l.at k j)) ∧ w.cell? (l.at k j) = some (.int q n) := by
  obtain ⟨rfl, h1, h2, h3⟩ := cellN_spec h
  obtain ⟨l, g1, g2⟩ := hx
  obtain ⟨z, z1, z2, _⟩ := s.read h1 g1 h2
  rw [h3] at z2
  simp only [VRel] at z2
  subst z2
  exact ⟨l, g1, g2, z1⟩
theorem put_at {u : AV} {b : Nat} {y : ABlk} {k j : Nat} {q : IntKind} {n : Int} {l : Loc} (h : cellN H u = some (b, y, k, j, q, n)) (hl : μ b = some l) (s : Sat μ H w) {q' : IntKind} {m : Int} {H' : AH} (hp : putN1 H b y k j q' m = some (H', true)) :
    Sat μ H' (w.setCell (l.at k j) (.int q' m)) ∧ Fr μ H μ H' w (w.setCell (l.at k j) (.int q' m)) ∧ w.frozen? (l.at k j) = false := by
  obtain ⟨rfl, h1, h2, h3⟩ := cellN_spec h
  unfold putN1 at hp
  rcases hc : AC.upds y.st k [.int q' m] j y.c with _ | c'
  · rw [hc] at hp; cases hp
  · rw [hc] at hp
    simp only [Option.map_some, Option.some.injEq, Prod.mk.injEq] at hp
    obtain ⟨rfl, ho⟩ := hp
    have hi : y.c.inbs y.st k j [AV.int q' m].length = true := by
      simp [AC.inbs, List.range_succ, h2]
    obtain ⟨q1, q2, q3⟩ := s.stores (us := [.int q' m]) h1 hl ho hi (AC.not_map h2) hc ⟨rfl, trivial⟩ (fun u hu => by simp at hu; subst hu; rfl)
    exact ⟨q1, q2, (q3 0 (by simp)).2⟩
theorem exec_ext {c : Call} {f : FuncId} (ho : o.op = .call c) (hc : c.callee = .value (.func f)) : execOp a.eval o = callFunc f (c.args.map a.eval) := by
  have ef : a.eval (.func f) = .func (.func f) #[] #[] := rfl
  unfold execOp
  simp [ho, hc, resolve, Deferred.ofValue, invoke, ef]
/-- Functions without a body. -/
theorem ok_xo {p : XO} {n : Nat} (hp : compX P o = some p) (he : Ev μ ev a) (s : Sat μ H w) (h : cstep ev H ((COp.xo p).hint n) = some (v, H', true)) : OpOK P o a μ H w v H' := by
  change xstep ev H p = some (v, H', true) at h
  unfold compX at hp
  split at hp
  · rename_i c ho
    split at hp
    · rename_i f hcal
      split at hp
      · rename_i k hk
        split at hp
        · rename_i as has
          cases hp
          obtain ⟨fn, e, f1, f2, f3, f4, f5, f6⟩ := extOf_spec hk
          have ex : execOp a.eval o = callFunc f (c.args.map a.eval) := exec_ext ho hcal
          have rel : ∀ (l : List Operand) (cs : List CX), opds l = some cs → VRels μ (cs.map ev) (l.map a.eval) := by
            intro l
            induction l with
            | nil => intro cs q; simp only [opds, Option.some.injEq] at q; subst q; trivial
            | cons x l ih =>
              intro cs q
              simp only [opds] at q
              split at q
              · rename_i c1 cs1 q1 q2
                cases q
                exact ⟨he x c1 q1, ih cs1 q2⟩
              · cases q
          have hr := rel _ _ has
          have hargs : (c.args.map a.eval).toList = c.args.toList.map a.eval := by simp
          generalize hA : c.args.map a.eval = A at ex hargs
          generalize c.args.toList.map a.eval = L at hr hargs
          have val : ∀ {x : Value} {w' : World} {μ' : Mu}, (callFunc f A).run P w = .ok (.value x) w' → VRel μ' v x → Sat μ' H' w' → Fr μ H μ' H' w w' → OpOK P o a μ H w v H' := fun r1 r2 r3 r4 => ⟨_, _, _, _, by rw [ex]; exact r1, .inl rfl, r2, r3, r4⟩
          unfold xstep at h
          split at h
          · -- m0
            rename_i e1 e2
            dsimp only at e1 e2
            subst e1 e2
            simp only [Option.some.injEq, Prod.mk.injEq] at h
            obtain ⟨rfl, rfl, _⟩ := h
            obtain ⟨m, rfl⟩ := f6
            have hL : L = [] := by cases L with | nil => rfl | cons _ _ => exact hr.elim
            have hA2 : A = #[] := Array.toList_inj.1 (by rw [hargs, hL])
            subst hA2
            exact val (run_call_mark0 f1 f2 f3 f4 m f5 w) trivial s (Fr.refl _ _ _)
          · -- m1
            rename_i x e1 e2
            dsimp only at e1 e2
            subst e1 e2
            obtain ⟨y, ys, rfl, r1, r2⟩ := VRels.cons_left (show VRels μ (ev x :: []) L from hr)
            obtain rfl : ys = [] := by cases ys with | nil => rfl | cons _ _ => exact r2.elim
            split at h
            · rename_i b k j hq
              simp only [Option.some.injEq, Prod.mk.injEq] at h
              obtain ⟨rfl, rfl, _⟩ := h
              obtain ⟨m, rfl⟩ := f6
              rw [hq] at r1
              obtain ⟨l, g1, rfl⟩ := r1
              have hA2 : A = #[.pointer (some (l.at k j))] := Array.toList_inj.1 (by rw [hargs])
              subst hA2
              exact val (run_call_marked f1 f2 f3 f4 m f5 _ w) trivial s (Fr.refl _ _ _)
            · cases h
          · -- ld
            rename_i kk x e1 e2
            dsimp only at e1 e2
            subst e1 e2
            obtain ⟨y, ys, rfl, r1, r2⟩ := VRels.cons_left (show VRels μ (ev x :: []) L from hr)
            obtain rfl : ys = [] := by cases ys with | nil => rfl | cons _ _ => exact r2.elim
            split at h
            · rename_i b y' k j q n' hq
              simp only [Option.some.injEq, Prod.mk.injEq, decide_eq_true_eq] at h
              obtain ⟨rfl, rfl, rfl⟩ := h
              cases f6
              obtain ⟨l, g1, rfl, g3⟩ := cell_at hq r1 s
              have hA2 : A = #[.pointer (some (l.at k j))] := Array.toList_inj.1 (by rw [hargs])
              subst hA2
              exact val (run_call_load f1 f2 f3 f4 _ f5 g3) rfl s (Fr.refl _ _ _)
            · cases h
          · -- st
            rename_i x x2 e1 e2
            dsimp only at e1 e2
            subst e1 e2
            obtain ⟨y, ys, rfl, r1, r2⟩ := VRels.cons_left (show VRels μ (ev x :: [ev x2]) L from hr)
            obtain ⟨z, zs, rfl, r3, r4⟩ := VRels.cons_left r2
            obtain rfl : zs = [] := by cases zs with | nil => rfl | cons _ _ => exact r4.elim
            split at h
            · rename_i b y' k j q n' q2 n2 hq hv
              split at h
              · rename_i H2 ok hp2
                simp only [Option.some.injEq, Prod.mk.injEq] at h
                obtain ⟨rfl, rfl, rfl⟩ := h
                cases f6
                rw [hv] at r3
                simp only [VRel] at r3
                subst r3
                obtain ⟨l, g1, rfl, g3⟩ := cell_at hq r1 s
                obtain ⟨s1, fr1, fz⟩ := put_at hq g1 s hp2
                have hA2 : A = #[.pointer (some (l.at k j)), .int q2 n2] := Array.toList_inj.1 (by rw [hargs])
                subst hA2
                exact val (run_call_store f1 f2 f3 f4 f5 g3 fz) trivial s1 fr1
              · cases h
            · cases h
          · -- add
            rename_i kk x x2 e1 e2
            dsimp only at e1 e2
            subst e1 e2
            obtain ⟨y, ys, rfl, r1, r2⟩ := VRels.cons_left (show VRels μ (ev x :: [ev x2]) L from hr)
            obtain ⟨z, zs, rfl, r3, r4⟩ := VRels.cons_left r2
            obtain rfl : zs = [] := by cases zs with | nil => rfl | cons _ _ => exact r4.elim
            split at h
            · rename_i b y' k j q n' q2 n2 hq hv
              split at h
              · rename_i H2 ok hp2
                simp only [Option.some.injEq, Prod.mk.injEq, Bool.and_eq_true, decide_eq_true_eq] at h
                obtain ⟨rfl, rfl, ⟨rfl, rfl⟩, rfl⟩ := h
                cases f6
                rw [hv] at r3
                simp only [VRel] at r3
                subst r3
                obtain ⟨l, g1, rfl, g3⟩ := cell_at hq r1 s
                obtain ⟨s1, fr1, fz⟩ := put_at hq g1 s hp2
                have hA2 : A = #[.pointer (some (l.at k j)), .int q2 n2] := Array.toList_inj.1 (by rw [hargs])
                subst hA2
                exact val (run_call_add f1 f2 f3 f4 _ f5 g3 fz (by simp [Op.intArith])) rfl s1 fr1
              · cases h
            · cases h
          · -- cas
            rename_i kk x x2 x3 e1 e2
            dsimp only at e1 e2
            subst e1 e2
            obtain ⟨y, ys, rfl, r1, r2⟩ := VRels.cons_left (show VRels μ (ev x :: [ev x2, ev x3]) L from hr)
            obtain ⟨z, zs, rfl, r3, r4⟩ := VRels.cons_left r2
            obtain ⟨u, us, rfl, r5, r6⟩ := VRels.cons_left r4
            obtain rfl : us = [] := by cases us with | nil => rfl | cons _ _ => exact r6.elim
            split at h
            · rename_i b y' k j q n' q1 n1 q2 n2 hq hv hv2
              split at h
              · rename_i H2 ok hp2
                simp only [Option.some.injEq, Prod.mk.injEq, Bool.and_eq_true, decide_eq_true_eq] at h
                obtain ⟨rfl, rfl, ⟨⟨rfl, rfl⟩, rfl⟩, rfl⟩ := h
                cases f6
                rw [hv] at r3
                rw [hv2] at r5
                simp only [VRel] at r3 r5
                subst r3 r5
                obtain ⟨l, g1, rfl, g3⟩ := cell_at hq r1 s
                obtain ⟨s1, fr1, fz⟩ := put_at hq g1 s hp2
                have hA2 : A = #[.pointer (some (l.at k j)), .int _ n1, .int _ n2] := Array.toList_inj.1 (by rw [hargs])
                subst hA2
                by_cases hn : n' = n1
                · subst hn
                  exact val (run_call_cas_hit f1 f2 f3 f4 _ f5 g3 fz) (by rw [decide_eq_true rfl]; rfl) (by rw [decide_eq_true rfl]; exact s1) (by rw [decide_eq_true rfl]; exact fr1)
                · exact val (run_call_cas_miss f1 f2 f3 f4 _ f5 g3 fz hn) (by rw [decide_eq_false hn]; rfl) (by rw [decide_eq_false hn]; exact s) (by rw [decide_eq_false hn]; exact Fr.refl _ _ _)
              · cases h
            · cases h
          · cases h
        · cases hp
      · cases hp
    · cases hp
  · cases hp
end
end Go.Eng
/- The engine, eleventh part: all operations together. -/
namespace Go.Eng
open Go Go.RowKit
set_option linter.unusedVariables false
set_option linter.unusedSimpArgs false
theorem map_some {α β : Type} {f : α → β} {x : Option α} {y : β} (h : x.map f = some y) : ∃ a, x = some a ∧ f a = y := by
  cases x with
  | none => simp at h
  | some a => exact ⟨a, rfl, by simpa using h⟩
theorem call_eq {o : Oper} {c : Call} (ho : o.op = .call c) {b : Builtin} {args : List Operand} {ts : List TypeId} (h1 : c.callee = .builtin b) (h2 : c.args.toList = args) (h3 : c.argTypes.toList = ts) : o.op = .call { callee := .builtin b, args := args.toArray, argTypes := ts.toArray } := by
  rw [ho]
  cases c
  simp at h1 h2 h3
  subst h1 h2 h3
  simp
theorem cstep_ok {P : Program} {o : Oper} {a : Act} {μ : Mu} {H H' : AH} {w : World} {ev : CX → AV} {v : AV} {c : COp} (hc : comp P o = some c) (he : Ev μ ev a) (s : Sat μ H w) (n : Nat) (h : cstep ev H (c.hint n) = some (v, H', true)) : OpOK P o a μ H w v H' := by
  unfold comp at hc
  split at hc
  · rename_i p hp
    cases hc
    exact ok_pl hp he s h
  split at hc
  · rename_i p hp
    cases hc
    exact ok_mo hp he s h
  split at hc
  · rename_i p hp
    cases hc
    exact ok_xo hp he s h
  split at hc
  · rename_i x ho
    obtain ⟨y, h1, rfl⟩ := map_some hc
    simp only [COp.hint, cstep, Option.some.injEq, Prod.mk.injEq] at h
    obtain ⟨rfl, rfl, _⟩ := h
    exact ok_mv (.inl ho) h1 he s
  · rename_i x ho
    obtain ⟨y, h1, rfl⟩ := map_some hc
    simp only [COp.hint, cstep, Option.some.injEq, Prod.mk.injEq] at h
    obtain ⟨rfl, rfl, _⟩ := h
    exact ok_mv (.inr ho) h1 he s
  · rename_i x y z ho
    split at hc
    · rename_i c1 c2 c3 e1 e2 e3
      cases hc
      simp only [COp.hint, cstep] at h
      split at h
      · rename_i r hr
        cases h
        exact ok_pick ho e1 e2 e3 he s hr
      · cases h
    · cases hc
  · rename_i t x ho
    obtain ⟨y, h1, rfl⟩ := map_some hc
    simp only [COp.hint, cstep] at h
    split at h
    · rename_i cs hcs
      cases h
      exact ok_box ho h1 he s hcs
    · cases h
  · rename_i t ho
    obtain ⟨y, h1, rfl⟩ := map_some hc
    simp only [COp.hint, cstep, Option.some.injEq, Prod.mk.injEq] at h
    obtain ⟨rfl, rfl, _⟩ := h
    exact ok_alloc ho h1 s
  · rename_i t ps ho
    split at hc
    · rename_i z fs e1 e2
      rcases hf : fs.toList.all (fun f => (P.info? f.type).isSome) with _ | _
      · rw [hf] at hc; cases hc
      · rw [hf] at hc
        obtain ⟨y, h1, rfl⟩ := map_some hc
        exact ok_build_struct ho e1 e2 hf h1 he s h
    · rename_i z m e e1 e2
      split at hc
      · rename_i es e3
        obtain ⟨y, h1, rfl⟩ := map_some hc
        exact ok_build_array ho e1 e2 e3 h1 he s h
      · cases hc
    · cases hc
  · rename_i t len ps ho
    split at hc
    · rename_i e e1
      split at hc
      · rename_i es z e2 e3
        rcases hf : (decide (z.length = es) && decide (len * es ≤ 16777216) && !Nat.beq es 0) with _ | _
        · rw [hf] at hc; cases hc
        · rw [hf] at hc
          obtain ⟨y, h1, rfl⟩ := map_some hc
          simp only [Bool.and_eq_true, decide_eq_true_eq, Bool.not_eq_true'] at hf
          refine ok_buildS ho e1 e2 e3 hf.1.1 hf.1.2 ?_ h1 he s h
          rcases Nat.eq_zero_or_pos es with e0 | e0
          · rw [e0] at hf; cases hf.2
          · exact e0
      · cases hc
    · cases hc
  · rename_i t x ho
    split at hc
    · rename_i sz y e1 e2
      cases hc
      exact ok_load ho e2 e1 he s h
    · cases hc
  · rename_i t x y ho
    split at hc
    · rename_i sz x' y' e1 e2 e3
      cases hc
      exact ok_store ho e2 e3 e1 he s h
    · cases hc
  · rename_i x ho
    obtain ⟨y, h1, rfl⟩ := map_some hc
    exact ok_nilc ho h1 he s h
  · rename_i op t x y u ho
    split at hc
    · rename_i x' y' e1 e2
      split at hc
      · rename_i q hq
        split at hc
        · cases hc
          exact ok_eq ho (.inl ⟨rfl, rfl⟩) e1 e2 hq he s h
        · cases hc
          exact ok_eq ho (.inr ⟨rfl, rfl⟩) e1 e2 hq he s h
        · cases hc
      · cases hc
        exact ok_bin ho e1 e2 he s h
    · cases hc
  · rename_i op t x ho
    obtain ⟨y, h1, rfl⟩ := map_some hc
    exact ok_un ho h1 he s h
  · rename_i src dst x ho
    split at hc
    · rename_i q k y e1 e2 e3
      cases hc
      exact ok_conv ho e1 e2 e3 he s h
    · cases hc
  · rename_i t x ho
    split at hc
    · rename_i m e y e1 e2
      rcases hf : Nat.beq m 0 with _ | _
      · rw [hf] at hc
        cases hc
        refine ok_s2a ho e1 ?_ e2 he s h
        rcases Nat.eq_zero_or_pos m with e0 | e0
        · rw [e0] at hf; cases hf
        · exact e0
      · rw [hf] at hc; cases hc
    · cases hc
  · rename_i t x ho
    split at hc
    · cases hc
    · rename_i d y hne e1 e2
      cases hc
      simp only [COp.hint, cstep, Option.some.injEq, Prod.mk.injEq] at h
      obtain ⟨rfl, rfl, _⟩ := h
      exact ok_mki ho e1 (fun ms hms => hne ms hms) e2 he s
    · cases hc
  · rename_i f x y ho
    split at hc
    · rename_i a1 b1 e1 e2
      cases hc
      simp only [COp.hint, cstep, Option.some.injEq, Prod.mk.injEq] at h
      obtain ⟨rfl, rfl, _⟩ := h
      exact ok_mkf ho e1 e2 he s
    · cases hc
  · rename_i t l c ho
    split at hc
    · rename_i e e1
      split at hc
      · rename_i i z l' c' e2 e3 e4 e5
        rcases hf : (decide (z.length = i.size) && !Nat.beq i.size 0) with _ | _
        · rw [hf] at hc; cases hc
        · rw [hf] at hc
          cases hc
          simp only [Bool.and_eq_true, decide_eq_true_eq, Bool.not_eq_true'] at hf
          refine ok_mks ho e1 e2 e3 hf.1 ?_ e4 e5 he s h
          rcases Nat.eq_zero_or_pos i.size with e0 | e0
          · rw [e0] at hf; cases hf.2
          · exact e0
      · cases hc
    · cases hc
  · rename_i t x lo hi mx ho
    split at hc
    · rename_i e e1
      split at hc
      · rename_i es x' lo' hi' mx' e2 e3 e4 e5 e6
        cases hc
        exact ok_sli ho e1 e2 e3 e4 e5 e6 he s h
      · cases hc
    · rename_i m e e1
      split at hc
      · rename_i es x' lo' hi' e2 e3 e4 e5
        cases hc
        exact ok_sla ho e1 e2 e3 e4 e5 he s h
      · cases hc
    · cases hc
  · rename_i t x f ho
    split at hc
    · rename_i fs e1
      split at hc
      · rename_i off sz y e2 e3
        rcases hf : Nat.beq sz 0 with _ | _
        · rw [hf] at hc
          cases hc
          refine ok_fa ho e1 e2 ?_ e3 he s h
          rcases Nat.eq_zero_or_pos sz with e0 | e0
          · rw [e0] at hf; cases hf
          · exact e0
        · rw [hf] at hc; cases hc
      · cases hc
    · cases hc
  · rename_i t x f ho
    split at hc
    · rename_i fs e1
      split at hc
      · rename_i q y e2 e3
        obtain ⟨sz, h1, rfl⟩ := map_some hc
        exact ok_fld ho e1 e2 h1 e3 he s h
      · cases hc
    · cases hc
  · rename_i t x i ho
    split at hc
    · rename_i e x' i' e1 e2 e3
      obtain ⟨es, h1, rfl⟩ := map_some hc
      exact ok_ias ho e1 h1 e2 e3 he s h
    · rename_i m e x' i' e1 e2 e3
      obtain ⟨es, h1, rfl⟩ := map_some hc
      exact ok_iaa ho e1 h1 e2 e3 he s h
    · cases hc
  · rename_i t x i ho
    split at hc
    · rename_i m e x' i' e1 e2 e3
      split at hc
      · rename_i es sz e4 e5
        cases hc
        exact ok_ixa ho e1 e4 e5 e2 e3 he s h
      · cases hc
    · rename_i x' i' e1 e2 e3
      cases hc
      exact ok_ixs ho e1 e2 e3 he s h
    · cases hc
  · rename_i x i ho
    obtain ⟨y, h1, rfl⟩ := map_some hc
    exact ok_ext ho h1 he s h
  · rename_i cl ho
    split at hc
    · rename_i x t e1 e2 e3
      have ho' := call_eq ho e1 e2 e3
      split at hc
      · rename_i e y q1 q2
        cases hc
        exact ok_lens ho' q1 q2 he s h
      · rename_i y q1 q2
        cases hc
        exact ok_lenb ho' q1 q2 he s h
      · rename_i m e q1
        cases hc
        simp only [COp.hint, cstep, Option.some.injEq, Prod.mk.injEq] at h
        obtain ⟨rfl, rfl, _⟩ := h
        exact ok_lenn ho' q1 s
      · cases hc
    · rename_i x y t u e1 e2 e3
      have ho' := call_eq ho e1 e2 e3
      split at hc
      · rename_i e e' q1 q2
        split at hc
        · rename_i i z x' y' q3 q4 q5 q6
          rcases hf : (decide (z.length = i.size) && !Nat.beq i.size 0) with _ | _
          · rw [hf] at hc; cases hc
          · rw [hf] at hc
            cases hc
            simp only [Bool.and_eq_true, decide_eq_true_eq, Bool.not_eq_true'] at hf
            refine ok_app (hint := n) ho' q1 q2 q3 q4 hf.1 ?_ q5 q6 he s h
            rcases Nat.eq_zero_or_pos i.size with e0 | e0
            · rw [e0] at hf; cases hf.2
            · exact e0
        · cases hc
      · cases hc
    · rename_i x y t u e1 e2 e3
      split at hc
      · rename_i e' q1
        split at hc
        · rename_i x' y' q2 q3 q4
          cases hc
          exact ok_cop (hint := n) (call_eq ho e1 e2 e3) q1 q2 q3 q4 he s h
        · cases hc
      · cases hc
    · rename_i x y e1 e2
      split at hc
      · rename_i x' y' q1 q2
        cases hc
        exact ok_mm (mx := false) (call_eq ho e1 e2 rfl) q1 q2 he s h
      · cases hc
    · rename_i x y e1 e2
      split at hc
      · rename_i x' y' q1 q2
        cases hc
        exact ok_mm (mx := true) (call_eq ho e1 e2 rfl) q1 q2 he s h
      · cases hc
    · cases hc
  · cases hc
end Go.Eng
