/- The engine, thirtieth part: a part of a row of numbers that is only read, as a row of its own. -/
import Derived.Test.YtmbcpmbpkdeioaaGreatDoorEn29
namespace Go.Eng
open Go Go.RowKit
set_option linter.unusedVariables false
set_option linter.unusedSimpArgs false
theorem view_ok {μ : Mu} {H : AH} {w : World} (s : Sat μ H w) {b : Nat} {k : ABlk} (hb : H.get b = some k) (ho : k.own = false) {l : Loc} (hl : μ b = some l) {nl : Loc} (hblk : nl.blk = l.blk) {st : Nat} {c : AC} (hst : nl.st = st)
    {C : Array Value} {t : TypeId} {fz : Nat × Nat} (hC : w.heap[l.blk]? = some (.cells C t fz)) (hq : Holds μ c st nl.off C) :
    Sat (μ.add H.next nl) (H.push ⟨false, st, c⟩) w ∧ Fr μ H (μ.add H.next nl) (H.push ⟨false, st, c⟩) w w := by
  have hn := s.fresh H.next (Nat.le_refl _)
  have hle := Mu.add_le hn nl
  refine ⟨⟨fun d hd => ?_, fun d x hx => ?_, fun d d' x x' l1 l2 e1 e2 hne hk f1 f2 => ?_⟩, ⟨fun d hd => ?_, Nat.le_succ _, rfl, rfl, rfl, Nat.le_refl _, fun _ _ _ => rfl, fun d x l1 e1 e2 => ?_⟩⟩
  · have : H.next + 1 ≤ d := hd
    unfold Mu.add
    rw [if_neg (by omega)]
    exact s.fresh d (by omega)
  · rw [AH.get_push] at hx
    by_cases e : d = H.next
    · rw [if_pos e] at hx
      cases hx
      exact ⟨nl, if_pos e, BSat.of_holds (fz := fz) hst (by rw [hblk]; exact hC) (fun e => by simp at e) (hq.ext hle)⟩
    · rw [if_neg e] at hx
      obtain ⟨l1, q1, q2⟩ := s.blk d x hx
      exact ⟨l1, hle _ _ q1, q2.move hle rfl⟩
  · rw [AH.get_push] at e1 e2
    unfold Mu.add at f1 f2
    by_cases e : d = H.next
    · rw [if_pos e] at e1; cases e1; simp at hk
    · rw [if_neg e] at e1 f1
      by_cases e' : d' = H.next
      · rw [if_pos e'] at f2; cases f2
        rw [hblk]
        by_cases hdb : d = b
        · subst hdb
          rw [hb] at e1; cases e1
          rw [ho] at hk; cases hk
        · exact s.sep d b x k l1 l e1 hb hdb hk f1 hl
      · rw [if_neg e'] at e2 f2; exact s.sep d d' x x' l1 l2 e1 e2 hne hk f1 f2
  · unfold Mu.add; rw [if_neg (by omega)]
  · rw [AH.get_push] at e1
    unfold Mu.add at e2
    by_cases e : d = H.next
    · rw [if_pos e] at e1 e2; cases e1; cases e2; exact .inr ⟨b, k, l, hb, hl, hblk.symm, fun e => by simp at e⟩
    · rw [if_neg e] at e1 e2; exact .inr ⟨d, x, l1, e1, e2, rfl, id⟩
/-- A part of a row of numbers that is only read: as a row of its own. -/
def viewOne (v : AV) (H : AH) : AV × AH :=
  match v with
  | .msl b k 0 n c => match H.get b with
    | some ⟨false, 1, .ints q xs⟩ => (.msl H.next 0 0 n c, H.push ⟨false, 1, .ints q ((xs.drop k).take n)⟩)
    | _ => (v, H)
  | _ => (v, H)
theorem viewOne_ok {μ : Mu} {H : AH} {w : World} {v : AV} {x : Value} (hv : VRel μ v x) (s : Sat μ H w) : ∃ μ', VRel μ' (viewOne v H).1 x ∧ Sat μ' (viewOne v H).2 w ∧ Fr μ H μ' (viewOne v H).2 w w := by
  unfold viewOne
  split
  · rename_i b k n c
    split
    · rename_i q xs hb
      obtain ⟨l0, g1, g2⟩ := s.blk b _ hb
      obtain ⟨h0, C, t, fz, h1, _, h3⟩ := g2.holds (fun es e => by cases e)
      have h0 : l0.st = 1 := h0
      have hq : Holds μ (.ints q ((xs.drop k).take n)) 1 (l0.off + k) C := by
        refine ⟨fun es e => (by cases e), fun i j hi => ?_⟩
        have hi : i + j < ((xs.drop k).take n).length := by simpa [AC.inb] using hi
        simp only [List.length_take, List.length_drop] at hi
        obtain ⟨y, y1, y2, y3⟩ := h3.2 (k + i) j (by simp [AC.inb]; omega)
        refine ⟨y, by rw [← y1, show l0.off + k + i * 1 + j = l0.off + (k + i) * 1 + j by omega], ?_, y3⟩
        have e : AC.val 1 (.ints q ((xs.drop k).take n)) i j = AC.val 1 (.ints q xs) (k + i) j := by
          simp only [AC.val]
          rw [List.getD_eq_getElem?_getD, List.getD_eq_getElem?_getD, List.getElem?_take, if_pos (by omega), List.getElem?_drop, show k + (i + j) = k + i + j by omega]
        rw [e]
        exact y2
      obtain ⟨s1, f1⟩ := view_ok (nl := ⟨l0.blk, l0.off + k, 1, 0⟩) s hb rfl g1 rfl rfl h1 hq
      refine ⟨_, ?_, s1, f1⟩
      rcases hv with ⟨e1, e2, e3⟩ | ⟨l, A, c', e1, e2, e3, e4, e5⟩
      · exact .inl ⟨e1, e2, e3⟩
      · rw [g1] at e1
        cases e1
        refine .inr ⟨⟨l0.blk, l0.off + k, 1, 0⟩, A, c', if_pos rfl, e2, e3, e4, ?_⟩
        rcases e5 with e5 | e5
        · left
          rw [e5]
          simp [Loc.at, h0]
        · exact .inr e5
    · exact ⟨μ, hv, s, Fr.refl _ _ _⟩
  · exact ⟨μ, hv, s, Fr.refl _ _ _⟩
end Go.Eng
