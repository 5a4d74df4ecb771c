/- The engine, thirty-eighth part, beside: blocks told by other numbers in a region that draws. -/
import Derived.Test.YtilmgiompalggaaGreatDoorEn25
import Derived.Test.YtilmgiompalggaaGreatDoorEn26
import Derived.Test.YtilmgiompalggaaGreatDoorEn19
namespace Go.Eng
open Go Go.RowKit
set_option linter.unusedVariables false
set_option linter.unusedSimpArgs false
noncomputable section
/-- The same blocks by other numbers. -/
theorem Sat.phi {μ μ' : Mu} {G Hc : AH} {w : World} {B : Nat} (s : Sat μ G w) (φ : Nat → Nat) (hle : MuLe μ μ') (hB : B ≤ Hc.next) (hlow : ∀ b, b < B → μ' b = μ b) (hfresh : ∀ b, Hc.next ≤ b → μ' b = none) (hget : ∀ b x, Hc.get b = some x → G.get (φ b) = some x ∧ μ' b = μ (φ b))
    (hinj : ∀ b b' x x', Hc.get b = some x → Hc.get b' = some x' → b ≠ b' → φ b ≠ φ b') : Sat μ' Hc w ∧ Fw B μ G μ' Hc w w := by
  refine ⟨⟨hfresh, fun b x hb => ?_, fun b b' x x' l l' h1 h2 hne ho g1 g2 => ?_⟩, ⟨hlow, hB, rfl, rfl, rfl, Nat.le_refl _, fun _ _ _ => rfl, fun b x l h1 h2 => ?_⟩⟩
  · obtain ⟨q1, q2⟩ := hget b x hb
    obtain ⟨l, r1, r2⟩ := s.blk _ _ q1
    exact ⟨l, q2.trans r1, r2.move hle rfl⟩
  · obtain ⟨q1, q2⟩ := hget b x h1
    obtain ⟨p1, p2⟩ := hget b' x' h2
    exact s.sep _ _ x x' l l' q1 p1 (hinj b b' x x' h1 h2 hne) ho (q2 ▸ g1) (p2 ▸ g2)
  · obtain ⟨q1, q2⟩ := hget b x h1
    exact .inr ⟨φ b, x, l, q1, q2 ▸ h2, rfl, id⟩
/-- Two new blocks, whatever their numbers. -/
theorem DA.ren {P : Program} {B : Nat} {ops : Array Oper} {M L : List Nat} {ts1 ts2 : List AV} {G H' : AH} {Q : Post} {n1 n2 d1 d2 : Nat} {b1 b2 : ABlk} {mk1 mk2 : Nat → AV} (m1 : MkOK mk1) (m2 : MkOK mk2) (hg1 : G.get n1 = some b1) (hg2 : G.get n2 = some b2) (hn : n1 ≠ n2)
    (hH : ∀ b x, H'.get b = some x → G.get b = some x ∧ b ≠ n1 ∧ b ≠ n2) (hnx : G.next ≤ H'.next + 2) (hlen : ts2.length = ts1.length) (hd : d1 ≠ d2)
    (h0 : ∀ t, t ≠ d1 → t ≠ d2 → ts1.getD t .any = ts2.getD t .any) (h1 : ts1.getD d1 .any = mk1 n1) (h1' : ts2.getD d1 .any = mk1 (H'.next + 2)) (h2 : ts1.getD d2 .any = mk2 n2) (h2' : ts2.getD d2 .any = mk2 (H'.next + 3))
    (h : DA P B ops M L ts2 ((H'.keep.keep.push b1).push b2) Q) : DA P B ops M L ts1 G Q := by
  refine DA.weak (fun μ w s hB => ?_) hlen h
  obtain ⟨l1, q1, _⟩ := s.blk n1 b1 hg1
  obtain ⟨l2, q2, _⟩ := s.blk n2 b2 hg2
  have f1 : μ (H'.next + 2) = none := s.fresh _ hnx
  have f2 : μ (H'.next + 3) = none := s.fresh _ (by omega)
  let μ' : Mu := fun b => if b = H'.next + 2 then μ n1 else if b = H'.next + 3 then μ n2 else μ b
  have e1 : μ' (H'.next + 2) = μ n1 := if_pos rfl
  have e2 : μ' (H'.next + 3) = μ n2 := by show (if _ then _ else _) = _; rw [if_neg (by omega), if_pos rfl]
  have e0 : ∀ b, b ≠ H'.next + 2 → b ≠ H'.next + 3 → μ' b = μ b := fun b x y => by show (if _ then _ else _) = _; rw [if_neg x, if_neg y]
  have hle : MuLe μ μ' := fun b l hb => by
    by_cases x : b = H'.next + 2
    · rw [x, f1] at hb; cases hb
    · by_cases y : b = H'.next + 3
      · rw [y, f2] at hb; cases hb
      · rw [e0 b x y]; exact hb
  let φ : Nat → Nat := fun b => if b = H'.next + 2 then n1 else if b = H'.next + 3 then n2 else b
  have p1 : φ (H'.next + 2) = n1 := if_pos rfl
  have p2 : φ (H'.next + 3) = n2 := by show (if _ then _ else _) = _; rw [if_neg (by omega), if_pos rfl]
  have p0 : ∀ b, b ≠ H'.next + 2 → b ≠ H'.next + 3 → φ b = b := fun b x y => by show (if _ then _ else _) = _; rw [if_neg x, if_neg y]
  have hc : ∀ b, ((H'.keep.keep.push b1).push b2).get b = if b = H'.next + 3 then some b2 else if b = H'.next + 2 then some b1 else H'.get b := fun b => by
    rw [AH.get_push, AH.get_push]
    rfl
  have gx : ∀ b x, ((H'.keep.keep.push b1).push b2).get b = some x → G.get (φ b) = some x ∧ μ' b = μ (φ b) := by
    intro b x hb
    rw [hc] at hb
    by_cases y : b = H'.next + 3
    · subst y
      rw [if_pos rfl] at hb
      rw [p2, e2]
      exact ⟨hb ▸ hg2, rfl⟩
    · rw [if_neg y] at hb
      by_cases z : b = H'.next + 2
      · subst z
        rw [if_pos rfl] at hb
        rw [p1, e1]
        exact ⟨hb ▸ hg1, rfl⟩
      · rw [if_neg z] at hb
        rw [p0 b z y, e0 b z y]
        exact ⟨(hH b x hb).1, rfl⟩
  have nn : ∀ b x, ((H'.keep.keep.push b1).push b2).get b = some x → b ≠ H'.next + 2 → b ≠ H'.next + 3 → b ≠ n1 ∧ b ≠ n2 := by
    intro b x hb z y
    rw [hc, if_neg y, if_neg z] at hb
    exact (hH b x hb).2
  obtain ⟨r1, r2⟩ := s.phi (μ' := μ') (Hc := (H'.keep.keep.push b1).push b2) (B := B) φ hle (by show B ≤ H'.next + 4; omega) (fun b hb => e0 b (by omega) (by omega)) (fun b hb => by
    have hb : H'.next + 4 ≤ b := hb
    rw [e0 b (by omega) (by omega)]
    exact s.fresh b (by omega)) gx (fun b b' x x' hb hb' hne => by
    by_cases y : b = H'.next + 3
    · subst y
      rw [p2]
      by_cases z' : b' = H'.next + 2
      · subst z'; rw [p1]; exact Ne.symm hn
      · rw [p0 b' z' (Ne.symm hne)]
        exact Ne.symm (nn b' x' hb' z' (Ne.symm hne)).2
    · by_cases z : b = H'.next + 2
      · subst z
        rw [p1]
        by_cases y' : b' = H'.next + 3
        · subst y'; rw [p2]; exact hn
        · rw [p0 b' (Ne.symm hne) y']
          exact Ne.symm (nn b' x' hb' (Ne.symm hne) y').1
      · rw [p0 b z y]
        by_cases y' : b' = H'.next + 3
        · subst y'; rw [p2]; exact (nn b x hb z y).2
        · by_cases z' : b' = H'.next + 2
          · subst z'; rw [p1]; exact (nn b x hb z y).1
          · rw [p0 b' z' y']; exact hne)
  refine ⟨μ', r1, r2, fun t x hx => ?_⟩
  by_cases t1 : t = d1
  · subst t1
    rw [h1] at hx
    rw [h1']
    exact m1 μ μ' x n1 _ hx e1
  · by_cases t2 : t = d2
    · subst t2
      rw [h2] at hx
      rw [h2']
      exact m2 μ μ' x n2 _ hx e2
    · rw [h0 t t1 t2] at hx
      exact VRel.ext hle _ _ hx
end
end Go.Eng
/- The engine, thirty-eighth part, beside: what was reckoned early holds where more blocks lie. -/
namespace Go.Eng
open Go Go.RowKit
set_option linter.unusedVariables false
set_option linter.unusedSimpArgs false
noncomputable section
theorem stepV_more {P : Program} {ops : Array Oper} {o : Oper} {ts us : List AV} {H H2 : AH} {v : AV} (hp : ∃ c, comp P o = some c ∧ isPure (c.hint 0) = true) (hg : ∀ b x, H.get b = some x → H2.get b = some x) (hr : ∀ t ∈ readsG P ops o, ts.getD t .any = us.getD t .any) (h : stepV P ops 0 o ts H = some (v, H, true)) : stepV P ops 0 o us H2 = some (v, H2, true) := by
  obtain ⟨c, hc, hp⟩ := hp
  rw [stepV_congrG hc hp hr] at h
  unfold stepV at h ⊢
  split at h
  · cases h
  · rename_i g hgd
    split at h
    · cases h
    · rename_i hb
      simp only [Option.some.injEq, Prod.mk.injEq] at h ⊢
      simp [h]
    · rename_i hb
      simp only [hc] at h ⊢
      exact cstep_more hg hp h
/-- Static: what is reckoned early, and the slots ds, have nothing to do with each other. -/
def apartOK (P : Program) (ops : Array Oper) (M ds : List Nat) : Bool := M.all fun k => match ops[k]? with
  | some o => ((readsG P ops o).all fun t => !ds.contains t && (besides ops M k).all fun j => !isDst ops t j) && ds.all fun d => !isDst ops d k
  | none => true
theorem valid_more {P : Program} {ops : Array Oper} {M M' ds : List Nat} {ts ts' : List AV} {H H2 : AH} (ha : apartOK P ops M ds = true) (hM : ∀ k ∈ M, PureAt P ops k) (hsub : ∀ k, k ∈ M' → k ∈ M) (ht : ∀ t, t ∉ ds → ts'.getD t .any = ts.getD t .any) (hg : ∀ b x, H.get b = some x → H2.get b = some x)
    (hv : ValidL P ops M ts H M) : ValidL P ops M' ts' H2 M' := by
  suffices ∀ l, (∀ k ∈ l, k ∈ M') → ValidL P ops M' ts' H2 l from this M' (fun k hk => hk)
  intro l
  induction l with
  | nil => intro _; trivial
  | cons k l ih =>
    intro hl
    refine ⟨?_, ih (fun q hq => hl q (List.mem_cons_of_mem _ hq))⟩
    have hk' := hl k List.mem_cons_self
    have hk := hsub k hk'
    have hvk := hv.mem k hk
    have hak := List.all_eq_true.1 ha k hk
    unfold ValidOne at hvk ⊢
    cases hok : ops[k]? with
    | none => trivial
    | some o =>
      simp only [hok] at hvk hak ⊢
      rw [Bool.and_eq_true] at hak
      have hdk : dstOf ops k = o.dst := by simp [dstOf, hok]
      have hval : valAt ts' o.dst = valAt ts o.dst := by
        cases hd : o.dst with
        | none => rfl
        | some d =>
          simp only [valAt]
          refine ht d (fun hmem => ?_)
          have := List.all_eq_true.1 hak.2 d hmem
          simp only [Bool.not_eq_true'] at this
          exact isDst_no this (by rw [hdk, hd])
      rw [hval]
      refine stepV_more (hM k hk o hok) hg (fun t ht' => ?_) hvk
      have h1 := List.all_eq_true.1 hak.1 t ht'
      simp only [Bool.and_eq_true, Bool.not_eq_true'] at h1
      obtain ⟨h1, h2⟩ := h1
      have h2 : ∀ j ∈ besides ops M k, dstOf ops j ≠ some t := fun j hj => isDst_no (by
        have := List.all_eq_true.1 h2 j hj
        simpa using this)
      rw [scrub_same _ _ _ _ h2, scrub_same _ _ _ _ (fun j hj => h2 j (by
        unfold besides at hj ⊢
        rw [List.mem_filter] at hj ⊢
        exact ⟨hsub j hj.1, hj.2⟩))]
      refine (ht t (fun hmem => ?_)).symm
      rw [List.contains_iff_mem.2 hmem] at h1
      cases h1
end
end Go.Eng
