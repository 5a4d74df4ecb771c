/- The engine, eleventh part: all operations together. -/
import Derived.Test.YtieikjgfndojpaaGreatEn12
namespace Go.Eng
open Go Go.RowKit
set_option linter.unusedVariables false
set_option linter.unusedSimpArgs false
theorem map_some {α β : Type} {f : α → β} {x : Option α} {y : β} (h : x.map f = some y) : ∃ a, x = some a ∧ f a = y := by
  cases x with
  | none => simp at h
  | some a => exact ⟨a, rfl, by simpa using h⟩
theorem call_eq {o : Oper} {c : Call} (ho : o.op = .call c) {b : Builtin} {args : List Operand} {ts : List TypeId} (h1 : c.callee = .builtin b) (h2 : c.args.toList = args) (h3 : c.argTypes.toList = ts) : o.op = .call { callee := .builtin b, args := args.toArray, argTypes := ts.toArray } := by
  rw [ho]
  cases c
  simp at h1 h2 h3
  subst h1 h2 h3
  simp
theorem cstep_ok {P : Program} {o : Oper} {a : Act} {μ : Mu} {H H' : AH} {w : World} {ev : CX → AV} {v : AV} {c : COp} (hc : comp P o = some c) (he : Ev μ ev a) (s : Sat μ H w) (n : Nat) (h : cstep ev H (c.hint n) = some (v, H', true)) : OpOK P o a μ H w v H' := by
  unfold comp at hc
  split at hc
  · rename_i p hp
    cases hc
    exact ok_pl hp he s h
  split at hc
  · rename_i p hp
    cases hc
    exact ok_mo hp he s h
  split at hc
  · rename_i p hp
    cases hc
    exact ok_xo hp he s h
  split at hc
  · rename_i x ho
    obtain ⟨y, h1, rfl⟩ := map_some hc
    simp only [COp.hint, cstep, Option.some.injEq, Prod.mk.injEq] at h
    obtain ⟨rfl, rfl, _⟩ := h
    exact ok_mv (.inl ho) h1 he s
  · rename_i x ho
    obtain ⟨y, h1, rfl⟩ := map_some hc
    simp only [COp.hint, cstep, Option.some.injEq, Prod.mk.injEq] at h
    obtain ⟨rfl, rfl, _⟩ := h
    exact ok_mv (.inr ho) h1 he s
  · rename_i x y z ho
    split at hc
    · rename_i c1 c2 c3 e1 e2 e3
      cases hc
      simp only [COp.hint, cstep] at h
      split at h
      · rename_i r hr
        cases h
        exact ok_pick ho e1 e2 e3 he s hr
      · cases h
    · cases hc
  · rename_i t x ho
    obtain ⟨y, h1, rfl⟩ := map_some hc
    simp only [COp.hint, cstep] at h
    split at h
    · rename_i cs hcs
      cases h
      exact ok_box ho h1 he s hcs
    · cases h
  · rename_i t ho
    obtain ⟨y, h1, rfl⟩ := map_some hc
    simp only [COp.hint, cstep, Option.some.injEq, Prod.mk.injEq] at h
    obtain ⟨rfl, rfl, _⟩ := h
    exact ok_alloc ho h1 s
  · rename_i t ps ho
    split at hc
    · rename_i z fs e1 e2
      rcases hf : fs.toList.all (fun f => (P.info? f.type).isSome) with _ | _
      · rw [hf] at hc; cases hc
      · rw [hf] at hc
        obtain ⟨y, h1, rfl⟩ := map_some hc
        exact ok_build_struct ho e1 e2 hf h1 he s h
    · rename_i z m e e1 e2
      split at hc
      · rename_i es e3
        obtain ⟨y, h1, rfl⟩ := map_some hc
        exact ok_build_array ho e1 e2 e3 h1 he s h
      · cases hc
    · cases hc
  · rename_i t len ps ho
    split at hc
    · rename_i e e1
      split at hc
      · rename_i es z e2 e3
        rcases hf : (decide (z.length = es) && decide (len * es ≤ 16777216) && !Nat.beq es 0) with _ | _
        · rw [hf] at hc; cases hc
        · rw [hf] at hc
          obtain ⟨y, h1, rfl⟩ := map_some hc
          simp only [Bool.and_eq_true, decide_eq_true_eq, Bool.not_eq_true'] at hf
          refine ok_buildS ho e1 e2 e3 hf.1.1 hf.1.2 ?_ h1 he s h
          rcases Nat.eq_zero_or_pos es with e0 | e0
          · rw [e0] at hf; cases hf.2
          · exact e0
      · cases hc
    · cases hc
  · rename_i t x ho
    split at hc
    · rename_i sz y e1 e2
      cases hc
      exact ok_load ho e2 e1 he s h
    · cases hc
  · rename_i t x y ho
    split at hc
    · rename_i sz x' y' e1 e2 e3
      cases hc
      exact ok_store ho e2 e3 e1 he s h
    · cases hc
  · rename_i x ho
    obtain ⟨y, h1, rfl⟩ := map_some hc
    exact ok_nilc ho h1 he s h
  · rename_i op t x y u ho
    split at hc
    · rename_i x' y' e1 e2
      split at hc
      · rename_i q hq
        split at hc
        · cases hc
          exact ok_eq ho (.inl ⟨rfl, rfl⟩) e1 e2 hq he s h
        · cases hc
          exact ok_eq ho (.inr ⟨rfl, rfl⟩) e1 e2 hq he s h
        · cases hc
      · cases hc
        exact ok_bin ho e1 e2 he s h
    · cases hc
  · rename_i op t x ho
    obtain ⟨y, h1, rfl⟩ := map_some hc
    exact ok_un ho h1 he s h
  · rename_i src dst x ho
    split at hc
    · rename_i q k y e1 e2 e3
      cases hc
      exact ok_conv ho e1 e2 e3 he s h
    · cases hc
  · rename_i t x ho
    split at hc
    · rename_i m e y e1 e2
      rcases hf : Nat.beq m 0 with _ | _
      · rw [hf] at hc
        cases hc
        refine ok_s2a ho e1 ?_ e2 he s h
        rcases Nat.eq_zero_or_pos m with e0 | e0
        · rw [e0] at hf; cases hf
        · exact e0
      · rw [hf] at hc; cases hc
    · cases hc
  · rename_i t x ho
    split at hc
    · cases hc
    · rename_i d y hne e1 e2
      cases hc
      simp only [COp.hint, cstep, Option.some.injEq, Prod.mk.injEq] at h
      obtain ⟨rfl, rfl, _⟩ := h
      exact ok_mki ho e1 (fun ms hms => hne ms hms) e2 he s
    · cases hc
  · rename_i f x y ho
    split at hc
    · rename_i a1 b1 e1 e2
      cases hc
      simp only [COp.hint, cstep, Option.some.injEq, Prod.mk.injEq] at h
      obtain ⟨rfl, rfl, _⟩ := h
      exact ok_mkf ho e1 e2 he s
    · cases hc
  · rename_i t l c ho
    split at hc
    · rename_i e e1
      split at hc
      · rename_i i z l' c' e2 e3 e4 e5
        rcases hf : (decide (z.length = i.size) && !Nat.beq i.size 0) with _ | _
        · rw [hf] at hc; cases hc
        · rw [hf] at hc
          cases hc
          simp only [Bool.and_eq_true, decide_eq_true_eq, Bool.not_eq_true'] at hf
          refine ok_mks ho e1 e2 e3 hf.1 ?_ e4 e5 he s h
          rcases Nat.eq_zero_or_pos i.size with e0 | e0
          · rw [e0] at hf; cases hf.2
          · exact e0
      · cases hc
    · cases hc
  · rename_i t x lo hi mx ho
    split at hc
    · rename_i e e1
      split at hc
      · rename_i es x' lo' hi' mx' e2 e3 e4 e5 e6
        cases hc
        exact ok_sli ho e1 e2 e3 e4 e5 e6 he s h
      · cases hc
    · rename_i m e e1
      split at hc
      · rename_i es x' lo' hi' e2 e3 e4 e5
        cases hc
        exact ok_sla ho e1 e2 e3 e4 e5 he s h
      · cases hc
    · cases hc
  · rename_i t x f ho
    split at hc
    · rename_i fs e1
      split at hc
      · rename_i off sz y e2 e3
        rcases hf : Nat.beq sz 0 with _ | _
        · rw [hf] at hc
          cases hc
          refine ok_fa ho e1 e2 ?_ e3 he s h
          rcases Nat.eq_zero_or_pos sz with e0 | e0
          · rw [e0] at hf; cases hf
          · exact e0
        · rw [hf] at hc; cases hc
      · cases hc
    · cases hc
  · rename_i t x f ho
    split at hc
    · rename_i fs e1
      split at hc
      · rename_i q y e2 e3
        obtain ⟨sz, h1, rfl⟩ := map_some hc
        exact ok_fld ho e1 e2 h1 e3 he s h
      · cases hc
    · cases hc
  · rename_i t x i ho
    split at hc
    · rename_i e x' i' e1 e2 e3
      obtain ⟨es, h1, rfl⟩ := map_some hc
      exact ok_ias ho e1 h1 e2 e3 he s h
    · rename_i m e x' i' e1 e2 e3
      obtain ⟨es, h1, rfl⟩ := map_some hc
      exact ok_iaa ho e1 h1 e2 e3 he s h
    · cases hc
  · rename_i t x i ho
    split at hc
    · rename_i m e x' i' e1 e2 e3
      split at hc
      · rename_i es sz e4 e5
        cases hc
        exact ok_ixa ho e1 e4 e5 e2 e3 he s h
      · cases hc
    · rename_i x' i' e1 e2 e3
      cases hc
      exact ok_ixs ho e1 e2 e3 he s h
    · cases hc
  · rename_i x i ho
    obtain ⟨y, h1, rfl⟩ := map_some hc
    exact ok_ext ho h1 he s h
  · rename_i cl ho
    split at hc
    · rename_i x t e1 e2 e3
      have ho' := call_eq ho e1 e2 e3
      split at hc
      · rename_i e y q1 q2
        cases hc
        exact ok_lens ho' q1 q2 he s h
      · rename_i y q1 q2
        cases hc
        exact ok_lenb ho' q1 q2 he s h
      · rename_i m e q1
        cases hc
        simp only [COp.hint, cstep, Option.some.injEq, Prod.mk.injEq] at h
        obtain ⟨rfl, rfl, _⟩ := h
        exact ok_lenn ho' q1 s
      · cases hc
    · rename_i x y t u e1 e2 e3
      have ho' := call_eq ho e1 e2 e3
      split at hc
      · rename_i e e' q1 q2
        split at hc
        · rename_i i z x' y' q3 q4 q5 q6
          rcases hf : (decide (z.length = i.size) && !Nat.beq i.size 0) with _ | _
          · rw [hf] at hc; cases hc
          · rw [hf] at hc
            cases hc
            simp only [Bool.and_eq_true, decide_eq_true_eq, Bool.not_eq_true'] at hf
            refine ok_app (hint := n) ho' q1 q2 q3 q4 hf.1 ?_ q5 q6 he s h
            rcases Nat.eq_zero_or_pos i.size with e0 | e0
            · rw [e0] at hf; cases hf.2
            · exact e0
        · cases hc
      · cases hc
    · rename_i x y t u e1 e2 e3
      split at hc
      · rename_i e' q1
        split at hc
        · rename_i x' y' q2 q3 q4
          cases hc
          exact ok_cop (hint := n) (call_eq ho e1 e2 e3) q1 q2 q3 q4 he s h
        · cases hc
      · cases hc
    · rename_i x y e1 e2
      split at hc
      · rename_i x' y' q1 q2
        cases hc
        exact ok_mm (mx := false) (call_eq ho e1 e2 rfl) q1 q2 he s h
      · cases hc
    · rename_i x y e1 e2
      split at hc
      · rename_i x' y' q1 q2
        cases hc
        exact ok_mm (mx := true) (call_eq ho e1 e2 rfl) q1 q2 he s h
      · cases hc
    · cases hc
  · cases hc
end Go.Eng
