/- The engine, thirty-fourth part: a loop's summary of which what it comes to has a name of its own. -/
import Derived.Test.YtmbcpmbpkdeioaaGreatDoorEn33
namespace Go.Eng
open Go Go.RowKit
set_option linter.unusedVariables false
set_option linter.unusedSimpArgs false
def Lp.loV {ι R : Type} (S : SPf) (P : Program) (id : Code → Bool) (nm : Code) (c : Lp ι) (rel : ι → R → Prop) (outs : ι → R → List (Bool × LOut)) : LoK := fun B n cd s H K =>
  bif id cd then match c.fit s H with
    | some i => some (same cd nm ∧ c.pre i ∧ S (Nat.beq B c.B && Nat.beq n c.n) (wkS S B n s H (c.slots i) (c.nx i) (c.L i) ∧ ∀ y, rel i y → casesX S (fun o => K o.x (layS n o.slots) (AH.of o.n o.L)) (outs i y)) False)
    | none => none else none
theorem Lp.loV_ok {ι R : Type} {P : Program} {id : Code → Bool} {nm : Code} {c : Lp ι} {rel : ι → R → Prop} {outs : ι → R → List (Bool × LOut)} (hc : c.OK P) (hnm : nm = c.code) (hr : ∀ i, c.pre i → ∃ y, rel i y ∧ c.outs i = outs i y) : LoKOK P (c.loV sp P id nm rel outs) := by
  intro B n cd ts s H K p Q hs h hp q
  refine Lp.lo_ok (id := id) (nm := nm) hc hnm B n cd ts s H K (match c.fit s H with
    | some i => same cd nm ∧ c.pre i ∧ sp (Nat.beq B c.B && Nat.beq n c.n) (wkS sp B n s H (c.slots i) (c.nx i) (c.L i) ∧ casesX sp (fun o => K o.x (layS n o.slots) (AH.of o.n o.L)) (c.outs i)) False
    | none => p) Q hs ?_ ?_ q
  · unfold Lp.loV at h
    unfold Lp.lo
    rcases hi : id cd with _ | _
    · rw [hi] at h; cases h
    · rw [hi] at h
      simp only [cond_true] at h ⊢
      split at h
      · rename_i i hf
        rw [hf]
      · cases h
  · unfold Lp.loV at h
    rcases hi : id cd with _ | _
    · rw [hi] at h; cases h
    · rw [hi] at h
      simp only [cond_true] at h
      split at h
      · rename_i i hf
        cases h
        obtain ⟨h1, h0, h2⟩ := hp
        refine ⟨h1, h0, ?_⟩
        obtain ⟨y, g1, g2⟩ := hr i h0
        obtain ⟨k1, k2⟩ := sp_iff.1 h2
        refine sp_iff.2 ⟨fun e => ?_, fun e => k2 e⟩
        obtain ⟨r1, r2⟩ := k1 e
        exact ⟨r1, by rw [g2]; exact r2 y g1⟩
      · cases h
end Go.Eng
