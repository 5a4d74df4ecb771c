/- The engine, forty-third part: functions with a range over a function that gives nothing, as boxes. -/
import Derived.Test.YtieikjgfndojpaaGreatEn41
namespace Go.Eng
open Go Go.RowKit
set_option linter.unusedVariables false
set_option linter.unusedSimpArgs false
noncomputable section
/-- A function that ranges over a function that gives nothing. -/
def rangeB (P : Program) (m : Nat) (f : FuncId) : FB :=
  match P.funcs[f]? with
  | none => ⟨fun _ _ _ _ => False⟩
  | some fn => match fn.body with
    | none => ⟨fun _ _ _ _ => False⟩
    | some c => ⟨fun call as H K => chk (Nat.ble (lenC as) fn.ntmps) (fillC as 0 .e fun s => (xCM P fn.ntmps m c).go call s H false (fun x s H _ => finQ P fn.results.toList K x s H))⟩
theorem rangeB_ok {P : Program} (hm : P.follows .mixedOrders = true) (m : Nat) (f : FuncId) : FBOK P f (rangeB P m f) := by
  intro call as H K hc h
  unfold rangeB at h
  split at h
  · exact h.elim
  · rename_i fn hf
    split at h
    · exact h.elim
    · rename_i c hb
      obtain ⟨h1, h2⟩ := chk_of h
      rw [lenC_eq] at h1
      obtain ⟨s, h3, h4⟩ := fillC_of (f := fun s => (xCM P fn.ntmps m c).go call s H false (fun x s H _ => finQ P fn.results.toList K x s H)) h2
      intro μ w vs hv sa
      have key := xCM_ok hm hc (B := H.next) (N := w.heap.size) c (SRV.start (Nat.le_of_ble_eq_true h1) h4) h3 (Q := fun x ts H' _ => bodyK P fn K x ts H') (fun x ts' s' H' fl' q1 q2 => finQ_ok x ts' s' H' q1 q2)
      have hl : as.length = vs.size := by simpa using hv.len
      have hrel : Rel μ (as ++ List.replicate (fn.ntmps - as.length) .any) (vs ++ Array.replicate (fn.ntmps - vs.size) undef) := by
        unfold Rel
        rw [Array.toList_append, Array.toList_replicate, hl]
        exact hv.append (VRels.replicate (v := .any) (x := undef) (by simp [VRel]) _)
      refine (callsIn_wide (n := 0)).1 (callsIn_of_wp_marks hf hb trivial (wpIn_wide.2 ?_))
      refine wp_mono (key μ w { tmps := vs ++ Array.replicate (fn.ntmps - vs.size) undef, defers := [] } hrel sa (Nat.le_refl _) ⟨rfl, Nat.le_refl _⟩) (fun e a1 w1 hq => ?_)
      obtain ⟨x, ts, H1, fl, μ1, h1, h2, h3, h4, h5, h6⟩ := hq
      -- the mark, if there is one, is come to
      have leave : ∀ (u : FrameMode), u ≠ .run → (∀ w2, Sat μ1 H1 w2 → Fw H.next μ H μ1 H1 w w2 → LeavesIn Fence.wide 0 P fn a1.tmps (fun e w' => ∃ out H' μ', K out H' ∧ OutRel μ' out e ∧ Sat μ' H' w' ∧ Fw H.next μ H μ' H' w w') [] u w2) →
          LeavesInM Fence.wide 0 P fn a1.tmps (fun e w' => ∃ out H' μ', K out H' ∧ OutRel μ' out e ∧ Sat μ' H' w' ∧ Fw H.next μ H μ' H' w w') a1.defers u w1 := by
        intro u hu hq
        cases fl with
        | false =>
          rw [h6.1]
          exact hq w1 h4 h5
        | true =>
          obtain ⟨r, hr1, hr2, hr3⟩ := h6
          rw [hr1]
          refine ⟨hu, .inl ⟨r, w1.putObj r (.deferred none), rfl, run_takeDeferred hr2, hq _ ?_ ?_⟩⟩
          · exact h4.besides (fun b x l hb hl => World.putObj_heap_other (not_blk h4 hr2 (fun _ _ _ e => by cases e) (fun _ _ e => by cases e) hb hl))
          · refine ⟨h5.le, h5.nx, h5.os, h5.tape, h5.output, by rw [World.putObj_size]; exact h5.size, fun k hk hno => ?_, h5.from_⟩
            rw [World.putObj_heap_other (by omega)]
            exact h5.same k hk hno
      have fin : ∀ w2, Sat μ1 H1 w2 → Fw H.next μ H μ1 H1 w w2 → (∃ v, resOf P fn ts H1 = some (v, true) ∧ K (.ret v) H1) → ∃ x, (results fn a1.tmps).run P w2 = .ok x w2 ∧ ∃ out H' μ', K out H' ∧ OutRel μ' out (.returned x) ∧ Sat μ' H' w2 ∧ Fw H.next μ H μ' H' w w2 := by
        rintro w2 s2 f2 ⟨v, e1, e2⟩
        obtain ⟨x, r1, r2⟩ := resOf_ok e1 h3 s2
        exact ⟨x, r1, _, _, μ1, e2, ⟨x, rfl, r2⟩, s2, f2⟩
      cases x with
      | normal =>
        simp only [XRel] at h2
        subst h2
        exact leave .returning (by simp) (fun w2 s2 f2 => fin w2 s2 f2 h1)
      | ret =>
        simp only [XRel] at h2
        subst h2
        exact leave .returning (by simp) (fun w2 s2 f2 => fin w2 s2 f2 h1)
      | panic v =>
        obtain ⟨xv, rfl, hv'⟩ := h2
        exact leave (.panicking _) (by simp) (fun w2 s2 f2 => ⟨_, _, μ1, h1, ⟨xv, rfl, hv'⟩, s2, f2⟩)
      | exit id => exact h1.elim
      | goto l => exact h1.elim
end
end Go.Eng
