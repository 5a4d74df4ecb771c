/- The engine, thirty-second part: results retold by any sound rule; a row that may be nil or a part of one that is only read. -/
import Derived.Test.YtmbcpmbpkdeioaaGreatDoorEn31
namespace Go.Eng
open Go Go.RowKit
set_option linter.unusedVariables false
set_option linter.unusedSimpArgs false
def FixOK (g : AOut → AH → AOut × AH) : Prop := ∀ (out : AOut) (H : AH) (μ : Mu) (w : World) (e : Ending), OutRel μ out e → Sat μ H w → ∃ μ', OutRel μ' (g out H).1 e ∧ Sat μ' (g out H).2 w ∧ Fr μ H μ' (g out H).2 w w
def Con.KF {X Y : Type} (S : SPf) (g : AOut → AH → AOut × AH) (c : Con X Y) (x : X) : AOut → AH → Prop := fun out H =>
  match g out H with
  | (o, h) => c.K S x o h
theorem Con.okF_of {X Y : Type} {P : Program} {c : Con X Y} {g : AOut → AH → AOut × AH} (hg : FixOK g) (h : ∀ x, c.pre x → RunsK P c.f (c.args x) (AH.of c.n0 (c.L0 x)) (c.KF sp g x)) : c.OK P := fun x hx μ w vs hv s =>
  Calls.mono (h x hx μ w vs hv s) (fun e w' hq => by
    obtain ⟨out, H', μ', h1, h2, h3, h4⟩ := hq
    obtain ⟨μ1, r1, r2, r3⟩ := hg out H' μ' w' e h2 h3
    unfold Con.KF at h1
    simp only [] at h1
    obtain ⟨o, n, L, g1, g2⟩ := disjO_ok h1
    rw [AH.of_next] at h4
    have h5 := h4.trans (r3.fw h4.nx)
    obtain ⟨μ2, k1, k2, k3⟩ := isOut_weak g1 r1 r2 h5
    exact ⟨o, _, μ2, g2 _ rfl, k1, k2, by rw [AH.of_next]; exact k3⟩)
def Con.condF {X Y : Type} (S : SPf) (P : Program) (g : AOut → AH → AOut × AH) (dr : OrcK → DroK) (lo : FuncId → LoK) (base : OrcK) (m n : Nat) (c : Con X Y) (x : X) : Option Prop := vF S P dr lo base m n c.f (c.args x) (AH.of c.n0 (c.L0 x)) (c.KF S g x)
theorem Con.byF {X Y : Type} {P : Program} (hm : P.follows .mixedOrders = true) {g : AOut → AH → AOut × AH} (hg : FixOK g) {lo : FuncId → LoK} (hl : ∀ f, LoKOK P (lo f)) {base : OrcK} (hb : OrcKOK P base) {m n : Nat} {c : Con X Y} (p : X → Prop) (h : ∀ x, some (p x) = c.condF sp P g (drP sp P) lo base m n x) (hp : ∀ x, c.pre x → p x) : c.OK P :=
  Con.okF_of hg (fun x hx => vF_ok (fun c hc => drP_ok hm c hc) hl hb m n c.f _ _ _ _ (h x).symm (hp x hx))
/-- A row that may be nil (then one without cells where block fk lies), or a part of one that is only read. -/
def rowOne (fk : Nat) (v : AV) (H : AH) : AV × AH :=
  match v with
  | .nils => looseOne fk 1 (.ints .u8 []) .nils H
  | .msl b k j n c => viewOne (.msl b k j n c) H
  | _ => (v, H)
theorem rowOne_ok {fk : Nat} {μ : Mu} {H : AH} {w : World} {v : AV} {x : Value} (hv : VRel μ v x) (s : Sat μ H w) : ∃ μ', VRel μ' (rowOne fk v H).1 x ∧ Sat μ' (rowOne fk v H).2 w ∧ Fr μ H μ' (rowOne fk v H).2 w w := by
  unfold rowOne
  split
  · exact looseOne_ok hv s
  · exact viewOne_ok hv s
  · exact ⟨μ, hv, s, Fr.refl _ _ _⟩
def rowOut (fk : Nat) : AOut → AH → AOut × AH
  | .ret (.tup (v :: vs)), H => match rowOne fk v H with
    | (v', H') => (.ret (.tup (v' :: vs)), H')
  | .ret v, H => match rowOne fk v H with
    | (v', H') => (.ret v', H')
  | out, H => (out, H)
theorem rowOut_ok (fk : Nat) : FixOK (rowOut fk) := by
  intro out H μ w e ho s
  unfold rowOut
  split
  · rename_i v vs H
    obtain ⟨x, rfl, cs', rfl, h1⟩ := ho
    obtain ⟨xs⟩ := cs'
    cases xs with
    | nil => exact h1.elim
    | cons x xs =>
      obtain ⟨h2, h3⟩ := h1
      obtain ⟨μ1, q1, q2, q3⟩ := rowOne_ok (fk := fk) h2 s
      exact ⟨μ1, ⟨_, rfl, _, rfl, q1, VRels.ext (q3.ext s) _ _ h3⟩, q2, q3⟩
  · obtain ⟨x, rfl, h1⟩ := ho
    obtain ⟨μ1, q1, q2, q3⟩ := rowOne_ok (fk := fk) h1 s
    exact ⟨μ1, ⟨_, rfl, q1⟩, q2, q3⟩
  · exact ⟨μ, ho, s, Fr.refl _ _ _⟩
/-- A summary, one of its arguments a slice: a part of a row that is only read, or one's own. -/
def viewA (f : FuncId) (i : Nat) (base : OrcK) : OrcK := fun g as H K =>
  bif Nat.beq g f then match viewOne (as.getD i .any) H with
    | (v, H') => base g (as.set i v) H' K else none
theorem viewA_ok {P : Program} {f : FuncId} {i : Nat} {base : OrcK} (hb : OrcKOK P base) : OrcKOK P (viewA f i base) := by
  intro g as H K p h hp
  unfold viewA at h
  cases hf : Nat.beq g f
  · rw [hf] at h; cases h
  · rw [hf] at h
    simp only [cond_true] at h
    intro μ w vs hv s
    obtain ⟨μ1, q1, q2, q3⟩ := viewCs_ok [i] hv s
    have e1 : viewCs [i] as H = (as.set i (viewOne (as.getD i .any) H).1, (viewOne (as.getD i .any) H).2) := rfl
    rw [e1] at q1 q2 q3
    refine Calls.mono (hb g _ _ K p h hp μ1 w vs q1 q2) (fun e w' hq => ?_)
    obtain ⟨out, H2, μ2, k1, k2, k3, k4⟩ := hq
    exact ⟨out, H2, μ2, k1, k2, k3, (q3.fw (Nat.le_refl _)).trans ⟨fun b hb => k4.le b (Nat.lt_of_lt_of_le hb q3.nx), Nat.le_trans q3.nx k4.nx, k4.os, k4.tape, k4.output, k4.size, k4.same, k4.from_⟩⟩
end Go.Eng
