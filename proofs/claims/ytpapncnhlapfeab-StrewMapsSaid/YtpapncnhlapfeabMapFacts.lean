/- What is known of a map of frames that was made. -/
import Derived.Test.YtpapncnhlapfeabStrewAsk
namespace Go.Proofs.Ytpapncnhlapfeab.MapFacts
open Go Go.RowKit Go.Proofs.Ytpapncnhlapfeab.Order Go.Proofs.Ytpapncnhlapfeab.RefOrder Go.Proofs.YtpapncnhlapfeabW.PrintWords Go.Proofs.YtpapncnhlapfeabW.PrintLast Go.Proofs.YtpapncnhlapfeabW.PrintMore Go.Proofs.Ytpapncnhlapfeab.Perm Go.Proofs.Ytpapncnhlapfeab.PStrewOrders Go.Proofs.Ytpapncnhlapfeab.StrewMap Go.Maps

/-- What is known of a map of frames, of a row that is good and moved by f. -/
theorem map_cells {w : World} {base p : Nat} {l : List Int} (h : MapAt w base p l) : ∃ g cap b, w.cell? ⟨p, 0, none⟩ = some (.slice (some ⟨g, 0, none⟩) l.length cap) ∧ w.cell? ⟨p, 1, none⟩ = some (.map (some b)) ∧
    (∀ k : Nat, k < l.length → w.cell? ⟨g, k, none⟩ = some (.int .i64 (rd l (k : Int)))) ∧ w.ownsMap Try.prog 3 (plainElem (H := Unit) Try.prog 3) b l.length (mpk l l.length) ∧ p < w.heap.size ∧ Kd.C (Kd.int .i64) w (some ⟨g, 0, none⟩) l.length l := by
  obtain ⟨_, g, cap, b, hp, hr, _, hm⟩ := h
  exact ⟨g, cap, b, by simp [World.cell?, hp], by simp [World.cell?, hp], fun k hk => (Kd.R_celln 0 hr (k : Int) (by omega) (by omega)).1, hm, lt_of_block hp, (Kd.R_reads' hr).2.2⟩
theorem addk_inj (l : List Int) (f : Int) (n : Nat) (hg : Perm.Good n l) : ∀ i j : Nat, i < n → j < n → rd (addk l f n) (i : Int) = rd (addk l f n) (j : Int) → i = j := by
  intro i j hi hj h
  rw [addk_rd l f n i (by rw [hg.1]; exact hi), addk_rd l f n j (by rw [hg.1]; exact hj), if_pos hi, if_pos hj] at h
  exact hg.2.2 i j hi hj (by omega)
theorem addk_bd (l : List Int) (f : Int) (n : Nat) (hg : Perm.Good n l) (i : Nat) (hi : i < n) : f ≤ rd (addk l f n) (i : Int) ∧ rd (addk l f n) (i : Int) < f + n := by
  rw [addk_rd l f n i (by rw [hg.1]; exact hi), if_pos hi]
  have := hg.2.1 i hi; omega

end Go.Proofs.Ytpapncnhlapfeab.MapFacts
