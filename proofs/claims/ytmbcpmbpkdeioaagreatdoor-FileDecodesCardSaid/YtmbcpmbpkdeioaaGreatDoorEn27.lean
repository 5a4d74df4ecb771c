/- The engine, twenty-seventh part: results told more loosely. -/
import Derived.Test.YtmbcpmbpkdeioaaGreatDoorEn26
namespace Go.Eng
open Go Go.RowKit
set_option linter.unusedVariables false
set_option linter.unusedSimpArgs false
/-- A result that is a row by value (or one and more): its slices. -/
def looseOut (at_ : Nat) (spec : List (Nat × Nat × AC)) : AOut → AH → AOut × AH
  | .ret (.agg cs), H => match cs.getD at_ .any with
    | .sl b _ _ _ _ _ => match looseCs b spec cs H with
      | (cs', H') => (.ret (.agg cs'), H')
    | _ => (.ret (.agg cs), H)
  | .ret (.tup (.agg cs :: vs)), H => match cs.getD at_ .any with
    | .sl b _ _ _ _ _ => match looseCs b spec cs H with
      | (cs', H') => (.ret (.tup (.agg cs' :: vs)), H')
    | _ => (.ret (.tup (.agg cs :: vs)), H)
  | out, H => (out, H)
theorem looseOut_ok {at_ : Nat} {spec : List (Nat × Nat × AC)} {out : AOut} {H : AH} {μ : Mu} {w : World} {e : Ending} (ho : OutRel μ out e) (s : Sat μ H w) : ∃ μ', OutRel μ' (looseOut at_ spec out H).1 e ∧ Sat μ' (looseOut at_ spec out H).2 w ∧ Fr μ H μ' (looseOut at_ spec out H).2 w w := by
  unfold looseOut
  split
  · rename_i cs H
    split
    · obtain ⟨x, rfl, cs', rfl, h1⟩ := ho
      obtain ⟨μ1, q1, q2, q3⟩ := looseCs_ok (fk := _) spec h1 s
      exact ⟨μ1, ⟨_, rfl, cs', rfl, q1⟩, q2, q3⟩
    · exact ⟨μ, ho, s, Fr.refl _ _ _⟩
  · rename_i cs vs H
    split
    · obtain ⟨x, rfl, cs', rfl, h1⟩ := ho
      obtain ⟨xs⟩ := cs'
      cases xs with
      | nil => exact h1.elim
      | cons x xs =>
        obtain ⟨⟨c2, rfl, h2⟩, h3⟩ := h1
        obtain ⟨μ1, q1, q2, q3⟩ := looseCs_ok (fk := _) spec h2 s
        exact ⟨μ1, ⟨_, rfl, _, rfl, ⟨c2, rfl, q1⟩, VRels.ext (q3.ext s) _ _ h3⟩, q2, q3⟩
    · exact ⟨μ, ho, s, Fr.refl _ _ _⟩
  · exact ⟨μ, ho, s, Fr.refl _ _ _⟩
def Con.KL {X Y : Type} (S : SPf) (at_ : Nat) (spec : List (Nat × Nat × AC)) (c : Con X Y) (x : X) : AOut → AH → Prop := fun out H =>
  match looseOut at_ spec out H with
  | (o, h) => c.K S x o h
theorem Con.okL_of {X Y : Type} {P : Program} {c : Con X Y} {at_ : Nat} {spec : List (Nat × Nat × AC)} (h : ∀ x, c.pre x → RunsK P c.f (c.args x) (AH.of c.n0 (c.L0 x)) (c.KL sp at_ spec x)) : c.OK P := fun x hx μ w vs hv s =>
  Calls.mono (h x hx μ w vs hv s) (fun e w' hq => by
    obtain ⟨out, H', μ', h1, h2, h3, h4⟩ := hq
    obtain ⟨μ1, r1, r2, r3⟩ := looseOut_ok (at_ := at_) (spec := spec) h2 h3
    unfold Con.KL at h1
    simp only [] at h1
    obtain ⟨o, n, L, g1, g2⟩ := disjO_ok h1
    rw [AH.of_next] at h4
    have h5 := h4.trans (r3.fw h4.nx)
    obtain ⟨μ2, k1, k2, k3⟩ := isOut_weak g1 r1 r2 h5
    exact ⟨o, _, μ2, g2 _ rfl, k1, k2, by rw [AH.of_next]; exact k3⟩)
def Con.condL {X Y : Type} (S : SPf) (P : Program) (at_ : Nat) (spec : List (Nat × Nat × AC)) (dr : OrcK → DroK) (lo : FuncId → LoK) (base : OrcK) (m n : Nat) (c : Con X Y) (x : X) : Option Prop := vF S P dr lo base m n c.f (c.args x) (AH.of c.n0 (c.L0 x)) (c.KL S at_ spec x)
theorem Con.byL {X Y : Type} {P : Program} (hm : P.follows .mixedOrders = true) {at_ : Nat} {spec : List (Nat × Nat × AC)} {lo : FuncId → LoK} (hl : ∀ f, LoKOK P (lo f)) {base : OrcK} (hb : OrcKOK P base) {m n : Nat} {c : Con X Y} (p : X → Prop) (h : ∀ x, some (p x) = c.condL sp P at_ spec (drP sp P) lo base m n x) (hp : ∀ x, c.pre x → p x) : c.OK P :=
  Con.okL_of (at_ := at_) (spec := spec) (fun x hx => vF_ok (fun c hc => drP_ok hm c hc) hl hb m n c.f _ _ _ _ (h x).symm (hp x hx))
end Go.Eng
