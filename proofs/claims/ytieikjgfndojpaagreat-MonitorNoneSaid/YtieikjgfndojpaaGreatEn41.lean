/- The engine, forty-first part: functions that defer calls, as boxes. -/
import Derived.Test.YtieikjgfndojpaaGreatEn40
namespace Go.Eng
open Go Go.RowKit
set_option linter.unusedVariables false
set_option linter.unusedSimpArgs false
noncomputable section
/-- A body's walk. -/
theorem body_wp {P : Program} {fn : Func} {c : Code} {args : List AV} {H : AH} {K : AOut → AH → Prop} (h : Tri P H.next c (args ++ List.replicate (fn.ntmps - args.length) .any) H (bodyK P fn K)) {μ : Mu} {w : World} {vs : Array Value} (hv : VRels μ args vs.toList) (s : Sat μ H w) :
    c.wp P (bodyPost P fn (fun e w' => ∃ out H' μ', K out H' ∧ OutRel μ' out e ∧ Sat μ' H' w' ∧ Fw H.next μ H μ' H' w w')) { tmps := vs ++ Array.replicate (fn.ntmps - vs.size) undef, defers := [] } w := by
  have hl : args.length = vs.size := by simpa using hv.len
  have hrel : Rel μ (args ++ List.replicate (fn.ntmps - args.length) .any) (vs ++ Array.replicate (fn.ntmps - vs.size) undef) := by
    unfold Rel
    rw [Array.toList_append, Array.toList_replicate, hl]
    exact hv.append (VRels.replicate (v := .any) (x := undef) (by simp [VRel]) _)
  refine wp_mono (h μ w { tmps := vs ++ Array.replicate (fn.ntmps - vs.size) undef, defers := [] } hrel s (Nat.le_refl _)) (fun e a1 w1 hq => ?_)
  obtain ⟨x, ts, H1, μ1, h1, h2, h3, h4, h5, h6⟩ := hq
  have fin : ∀ v, resOf P fn ts H1 = some (v, true) → K (.ret v) H1 → ∃ x, (results fn a1.tmps).run P w1 = .ok x w1 ∧ ∃ out H' μ', K out H' ∧ OutRel μ' out (.returned x) ∧ Sat μ' H' w1 ∧ Fw H.next μ H μ' H' w w1 := by
    intro v e1 e2
    obtain ⟨x, r1, r2⟩ := resOf_ok e1 h3 h4
    exact ⟨x, r1, _, _, μ1, e2, ⟨x, rfl, r2⟩, h4, h5⟩
  cases x with
  | normal =>
    simp only [XRel] at h2
    subst h2
    obtain ⟨v, e1, e2⟩ := h1
    obtain ⟨x, r1, r2⟩ := fin v e1 e2
    exact ⟨h6, x, r1, r2⟩
  | ret =>
    simp only [XRel] at h2
    subst h2
    obtain ⟨v, e1, e2⟩ := h1
    obtain ⟨x, r1, r2⟩ := fin v e1 e2
    exact ⟨h6, x, r1, r2⟩
  | panic v =>
    obtain ⟨xv, rfl, hv'⟩ := h2
    exact ⟨h6, _, _, μ1, h1, ⟨xv, rfl, hv'⟩, h4, h5⟩
  | exit id => exact h1.elim
  | goto l => exact h1.elim
/-- A plain function's body. -/
def plainB (P : Program) (m : Nat) (f : FuncId) : FB :=
  match P.funcs[f]? with
  | none => ⟨fun _ _ _ _ => False⟩
  | some fn => match fn.body with
    | none => ⟨fun _ _ _ _ => False⟩
    | some c => ⟨fun call as H K => chk (Nat.ble (lenC as) fn.ntmps) (fillC as 0 .e fun s => (xC P fn.ntmps m c).go call s H (finQ P fn.results.toList K))⟩
def callO (call : CallQ) : OrcK := fun f as H K => some (call f as H K)
theorem callO_ok {P : Program} {call : CallQ} (hc : CallQOK P call) : OrcKOK P (callO call) := fun f as H K p e q => by cases e; exact hc f as H K q
theorem plainB_ok {P : Program} (hm : P.follows .mixedOrders = true) {m : Nat} {f : FuncId} {call : CallQ} (hc : CallQOK P call) {as : List AV} {u : UM} {H : AH} {K : UM → AH → Prop} (h : (plainB P m f).go call as H (fun out H' => outC out (fun _ => K u H') (fun _ => False))) : RunsD P f as u H K := by
  unfold plainB at h
  split at h
  · exact h.elim
  · rename_i fn hf
    split at h
    · exact h.elim
    · rename_i c hb
      obtain ⟨h1, h2⟩ := chk_of h
      rw [lenC_eq] at h1
      obtain ⟨s, h3, h4⟩ := fillC_of (f := fun s => (xC P fn.ntmps m c).go call s H (finQ P fn.results.toList (fun out H' => outC out (fun _ => K u H') (fun _ => False)))) h2
      intro μ w vs md hv sa hu
      have tri := xC_ok hm hc (B := H.next) c (SRV.start (Nat.le_of_ble_eq_true h1) h4) h3 (finQ_ok (fn := fn))
      refine CallsD.mono (callsD_of_wp (u := md) hf hb (body_wp tri hv sa)) (fun e m' w' hq => ?_)
      obtain ⟨rfl, out, H', μ', k1, k2, k3, k4⟩ := hq
      cases out with
      | ret v =>
        obtain ⟨x, rfl, hx⟩ := k2
        exact ⟨⟨x, rfl⟩, u, H', μ', k1, hu.ext (VRel.keep sa k4), k3, k4⟩
      | panic v => exact k1.elim
/-- A deferred function: one that recovers in its first region, or a plain one. -/
def dkQ (P : Program) (m : Nat) (call : CallQ) : OrcD := fun f as u H K =>
  match vRD sp P (callO call) (drP sp P (callO call)) (fun _ => noLo) m f as u H K with
  | some p => some p
  | none => bif isGo P f then some ((plainB P m f).go call as H (fun out H' => outC out (fun _ => K u H') (fun _ => False))) else none
theorem dkQ_ok {P : Program} (hm : P.follows .mixedOrders = true) {m : Nat} {call : CallQ} (hc : CallQOK P call) : OrcDOK P (dkQ P m call) := by
  intro f as u H K p h hp
  unfold dkQ at h
  split at h
  · rename_i q hq
    cases h
    exact vRD_ok (callO_ok hc) (drP_ok hm _ (callO_ok hc)) (fun _ => noLo_ok P) m f as u H K _ hq hp
  · rcases hg : isGo P f with _ | _
    · rw [hg] at h; cases h
    · rw [hg] at h
      cases h
      exact ⟨rfl, plainB_ok hm hc hp⟩
def frOut (K : AOut → AH → Prop) : AOut → AH → Prop := fun out H => outC out (fun v => frV v fun v => frH H fun H => K (.ret v) H) (fun v => frH H fun H => K (.panic v) H)
theorem frOut_of {K : AOut → AH → Prop} {out : AOut} {H : AH} (h : frOut K out H) : K out H := by
  cases out with
  | ret v => exact frH_of (f := fun H => K (.ret v) H) (frV_of (f := fun v => frH H fun H => K (.ret v) H) h)
  | panic v => exact frH_of (f := fun H => K (.panic v) H) h
def slotsL (n : Nat) (s : VT) : SL := SL.lay ((List.range n).map s.at) 0 (SL.mk 10)
theorem slotsL_ok {n : Nat} {ts : List AV} {s : VT} (hs : SRV n ts s) (hn : n < 1023) : SR n ts (slotsL n s) := by
  unfold slotsL
  rw [hs.list]
  have := SR.start (as := ts) (n := n) (by rw [hs.len]; exact Nat.le_refl _) hn
  rwa [show n - ts.length = 0 by rw [hs.len]; omega, List.replicate_zero, List.append_nil] at this
/-- How a function that defers calls ends. -/
def finKD (P : Program) (m : Nat) (call : CallQ) (fn : Func) (K : AOut → AH → Prop) : KVD := fun x s H ds => @AX.casesOn (fun _ => Prop) x (finD sp P fn (dkQ P m call) (frOut K) ds .ret (slotsL fn.ntmps s) H) (fun _ => False) (fun _ => False) (finD sp P fn (dkQ P m call) (frOut K) ds .ret (slotsL fn.ntmps s) H) (fun v => finD sp P fn (dkQ P m call) (frOut K) ds (.pan v false) (slotsL fn.ntmps s) H)
/-- A function that defers calls. -/
def defB (P : Program) (m : Nat) (f : FuncId) : FB :=
  match P.funcs[f]? with
  | none => ⟨fun _ _ _ _ => False⟩
  | some fn => match fn.body with
    | none => ⟨fun _ _ _ _ => False⟩
    | some c => bif Nat.blt fn.ntmps 1023 then ⟨fun call as H K => chk (Nat.ble (lenC as) fn.ntmps) (fillC as 0 .e fun s => (xCD P fn.ntmps m c).go call s H [] (finKD P m call fn K))⟩ else ⟨fun _ _ _ _ => False⟩
theorem defB_ok {P : Program} (hm : P.follows .mixedOrders = true) (m : Nat) (f : FuncId) : FBOK P f (defB P m f) := by
  intro call as H K hc h
  unfold defB at h
  split at h
  · exact h.elim
  · rename_i fn hf
    split at h
    · exact h.elim
    · rename_i c hb
      rcases hlt : Nat.blt fn.ntmps 1023 with _ | _
      · rw [hlt] at h; exact h.elim
      · rw [hlt] at h
        have hn : fn.ntmps < 1023 := Nat.le_of_ble_eq_true hlt
        obtain ⟨h1, h2⟩ := chk_of h
        rw [lenC_eq] at h1
        obtain ⟨s, h3, h4⟩ := fillC_of (f := fun s => (xCD P fn.ntmps m c).go call s H [] (finKD P m call fn K)) h2
        have key := xCD_ok hm hc (B := H.next) c (SRV.start (Nat.le_of_ble_eq_true h1) h4) h3 (Q := fun x ts H' ds => ∃ s, SRV fn.ntmps ts s ∧ finKD P m call fn K x s H' ds) (fun x ts' s' H' ds' q1 q2 => ⟨s', q1, q2⟩)
        intro μ w vs hv s
        have hl : as.length = vs.size := by simpa using hv.len
        refine calls_of_wp_defers hf hb ?_
        have hrel : Rel μ (as ++ List.replicate (fn.ntmps - as.length) .any) (vs ++ Array.replicate (fn.ntmps - vs.size) undef) := by
          unfold Rel
          rw [Array.toList_append, Array.toList_replicate, hl]
          exact hv.append (VRels.replicate (v := .any) (x := undef) (by simp [VRel]) _)
        refine wp_mono (key μ w { tmps := vs ++ Array.replicate (fn.ntmps - vs.size) undef, defers := [] } hrel s (Nat.le_refl _) trivial) (fun e a1 w1 hq => ?_)
        obtain ⟨x, ts, H1, ds, μ1, ⟨s1, hs1, h1⟩, h2, h3, h4, h5, h6⟩ := hq
        have mono : ∀ (xs : List Deferred) (m : FrameMode) (w2 : World) {R R' : Ending → World → Prop}, (∀ e w, R e w → R' e w) → Leaves P fn a1.tmps R xs m w2 → Leaves P fn a1.tmps R' xs m w2 := by
          intro xs
          induction xs with
          | nil =>
            intro m w2 R R' hr hl
            cases m with
            | run => exact hl
            | returning => obtain ⟨v, q1, q2⟩ := hl; exact ⟨v, q1, hr _ _ q2⟩
            | panicking c => exact hr _ _ hl
          | cons x xs ih =>
            intro m w2 R R' hr hl
            obtain ⟨q1, fv, cap, f, args, q2, q3, q4⟩ := hl
            refine ⟨q1, fv, cap, f, args, q2, q3, CallsD.mono q4 (fun e u w he => ?_)⟩
            cases e with
            | returned v => exact ih _ _ hr he
            | panicked c => exact ih _ _ hr he
            | outgrown => exact hr _ _ he
        have fin : ∀ u md, URel μ1 u md → finD sp P fn (dkQ P m call) (frOut K) ds u (slotsL fn.ntmps s1) H1 → Leaves P fn a1.tmps (fun e w' => ∃ out H' μ', K out H' ∧ OutRel μ' out e ∧ Sat μ' H' w' ∧ Fw H.next μ H μ' H' w w') a1.defers md w1 := by
          intro u md hu hq
          refine mono _ _ _ (fun e w2 hq => ?_) (finD_ok (dkQ_ok hm hc) ds (slotsL_ok hs1 hn) h3 h4 hu h6 hq)
          obtain ⟨out, H2, μ2, j1, j2, j3, j4⟩ := hq
          exact ⟨out, H2, μ2, frOut_of j1, j2, j3, h5.trans (j4.low h5.nx)⟩
        cases x with
        | normal => simp only [XRel] at h2; subst h2; exact fin .ret .returning rfl h1
        | ret => simp only [XRel] at h2; subst h2; exact fin .ret .returning rfl h1
        | panic v => obtain ⟨xv, rfl, hv'⟩ := h2; exact fin (.pan v false) _ ⟨xv, rfl, hv'⟩ h1
        | exit id => exact h1.elim
        | goto l => exact h1.elim
end
end Go.Eng
