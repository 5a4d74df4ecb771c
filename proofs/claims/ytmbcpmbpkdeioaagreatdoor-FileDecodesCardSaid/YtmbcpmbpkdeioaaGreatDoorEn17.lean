/- The engine, seventeenth part: a run that the kernel reckons: regions in the text's order, code, functions. -/
import Derived.Test.YtmbcpmbpkdeioaaGreatDoorEn16
namespace Go.Eng
open Go Go.RowKit
set_option linter.unusedVariables false
set_option linter.unusedSimpArgs false
/-- At most n rounds of a loop. -/
def TriL (P : Program) (B : Nat) (c : Code) (n : Nat) (ts : List AV) (H : AH) (Q : Post) : Prop :=
  ∀ μ w a, Rel μ ts a.tmps → Sat μ H w → B ≤ H.next → Code.rounds P c (Lift B Q μ H w a.defers) n a w
theorem rounds_mono {P : Program} {c : Code} {Q Q' : Exit → Act → World → Prop} (h : ∀ e a w, Q e a w → Q' e a w) : ∀ (n : Nat) {a : Act} {w : World}, Code.rounds P c Q n a w → Code.rounds P c Q' n a w
  | 0, _, _, q => q.elim
  | n + 1, a, w, q => by
    rw [rounds_succ] at q ⊢
    refine wp_mono q (fun e a1 w1 hq => ?_)
    cases e <;> first | exact rounds_mono h n hq | exact h _ _ _ hq
theorem TriL.loop {P : Program} {B : Nat} {c : Code} {n : Nat} {ts : List AV} {H : AH} {Q : Post} (h : TriL P B c n ts H Q) : Tri P B (.loop c) ts H Q := fun μ w a r s hB => wp_loop_rounds n (h μ w a r s hB)
theorem TriL.round {P : Program} {B : Nat} {c : Code} {n : Nat} {ts : List AV} {H : AH} {Q : Post} (h : Tri P B c ts H (thenX (fun ts H => TriL P B c n ts H Q) Q)) : TriL P B c (n + 1) ts H Q := fun μ w a r s hB => by
  rw [rounds_succ]
  refine wp_mono (h μ w a r s hB) (fun e a1 w1 hq => ?_)
  obtain ⟨x, ts1, H1, μ1, g1, g2, g3, g4, g5, g6⟩ := hq
  cases x with
  | normal =>
    simp only [XRel] at g2
    subst g2
    have h2 := g1 μ1 w1 a1 g3 g4 g5.nx
    rw [g6] at h2
    exact rounds_mono (fun e a w hl => Lift.trans g5 hl) n h2
  | exit id => simp only [XRel] at g2; subst g2; exact ⟨.exit id, ts1, H1, μ1, g1, rfl, g3, g4, g5, g6⟩
  | goto l => simp only [XRel] at g2; subst g2; exact ⟨.goto l, ts1, H1, μ1, g1, rfl, g3, g4, g5, g6⟩
  | ret => simp only [XRel] at g2; subst g2; exact ⟨.ret, ts1, H1, μ1, g1, rfl, g3, g4, g5, g6⟩
  | panic v => obtain ⟨xv, rfl, hv⟩ := g2; exact ⟨.panic v, ts1, H1, μ1, g1, ⟨xv, rfl, hv⟩, g3, g4, g5, g6⟩
end Go.Eng
