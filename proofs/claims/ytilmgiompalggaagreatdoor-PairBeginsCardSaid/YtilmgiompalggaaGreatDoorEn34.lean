/- The engine, forty-fourth part: slices.AppendSeq of nil and slices.Values of one number, in a box. -/
import Derived.Test.YtilmgiompalggaaGreatDoorEn33
import Derived.Shelf.SlIterI.Collect
namespace Go.Eng
open Go Go.RowKit Go.Shelf Go.Sort Go.Maps Go.Proofs
set_option linter.unusedVariables false
set_option linter.unusedSimpArgs false
noncomputable section
/-- A function that gives a slice's only number. -/
def GivesOne (P : Program) (g : FuncId) : Prop := ∀ (w : World) (B o b off c' : Nat) (x : Int), B < w.heap.size → b < w.heap.size → w.cell? ⟨B, o, none⟩ = some (.slice (some ⟨b, off, none⟩) 1 c') → w.cell? ⟨b, off, none⟩ = some (.int .i64 x) →
  SeqGives Fence.wide 1 P g #[.pointer (some ⟨B, o, none⟩)] encZ (fun ss => ss = [x]) 1 w
/-- A block that lay nowhere is told. -/
theorem Sat.fresh_blk {μ : Mu} {H : AH} {w w' : World} (s : Sat μ H w) (bl : Below w.heap.size w w') {l : Loc} {x : ABlk} (hl : w.heap.size ≤ l.blk) (hx : BSat (μ.add H.next l) x l w') : Sat (μ.add H.next l) (H.push x) w' ∧ Fw H.next μ H (μ.add H.next l) (H.push x) w w' := by
  have hno : μ H.next = none := s.fresh _ (Nat.le_refl _)
  have hle := Mu.add_le hno l
  have at_ : (μ.add H.next l) H.next = some l := by unfold Mu.add; rw [if_pos rfl]
  have off : ∀ b, b ≠ H.next → (μ.add H.next l) b = μ b := fun b hb => by unfold Mu.add; rw [if_neg hb]
  have lt : ∀ b y l', H.get b = some y → μ b = some l' → l'.blk < w.heap.size := fun b y l' h1 h2 => by
    obtain ⟨l0, q1, q2⟩ := s.blk b y h1
    rw [h2] at q1; cases q1
    exact q2.blk_lt
  refine ⟨⟨fun b hb => ?_, fun b y hy => ?_, fun b b' y y' l1 l2 h1 h2 hne ho g1 g2 => ?_⟩, ⟨fun b hb => off b (by omega), Nat.le_succ _, bl.os, bl.tape, bl.output, bl.size, fun k hk _ => bl.block k hk, fun b y l' h1 h2 => ?_⟩⟩
  · have hb : H.next + 1 ≤ b := hb
    rw [off b (by omega)]
    exact s.fresh b (by omega)
  · rw [AH.get_push] at hy
    by_cases e : b = H.next
    · rw [if_pos e] at hy
      cases hy
      exact ⟨l, by rw [e]; exact at_, hx⟩
    · rw [if_neg e] at hy
      obtain ⟨l0, q1, q2⟩ := s.blk b y hy
      exact ⟨l0, by rw [off b e]; exact q1, q2.move hle (bl.block _ q2.blk_lt)⟩
  · rw [AH.get_push] at h1 h2
    by_cases e : b = H.next
    · subst e
      rw [at_] at g1
      cases g1
      rw [if_neg (Ne.symm hne)] at h2
      rw [off b' (Ne.symm hne)] at g2
      have := lt b' y' l2 h2 g2
      omega
    · rw [if_neg e] at h1
      rw [off b e] at g1
      by_cases e' : b' = H.next
      · subst e'
        rw [at_] at g2
        cases g2
        have := lt b y l1 h1 g1
        omega
      · rw [if_neg e'] at h2
        rw [off b' e'] at g2
        exact s.sep b b' y y' l1 l2 h1 h2 hne ho g1 g2
  · rw [AH.get_push] at h1
    by_cases e : b = H.next
    · subst e
      rw [at_] at h2
      cases h2
      exact .inl hl
    · rw [if_neg e] at h1
      rw [off b e] at h2
      exact .inr ⟨b, y, l', h1, h2, rfl, id⟩
def asqI (v : AV) (f : Int → Prop) : Prop := match v with
  | .int .i64 x => f x
  | _ => False
theorem asqI_of {v : AV} {f : Int → Prop} (h : asqI v f) : ∃ x, v = .int .i64 x ∧ f x := by
  unfold asqI at h
  split at h
  · exact ⟨_, rfl, h⟩
  · exact h.elim
def asqS (v : AV) (f : Nat → Nat → Nat → Prop) : Prop := match v with
  | .sl b k j n _ _ => chk (Nat.beq n 1) (f b k j)
  | _ => False
theorem asqS_of {v : AV} {f : Nat → Nat → Nat → Prop} (h : asqS v f) : ∃ b k j c ex, v = .sl b k j 1 c ex ∧ f b k j := by
  unfold asqS at h
  split at h
  · obtain ⟨h1, h2⟩ := chk_of h
    have := Nat.eq_of_beq_eq_true h1
    subst this
    exact ⟨_, _, _, _, _, rfl, h2⟩
  · exact h.elim
def asqA (g : FuncId) (ars : List AV) (f : Nat → Nat → Nat → Prop) : Prop := match ars with
  | [.nils, .fn (.func g') [] [.ptr b k j]] => chk (Nat.beq g' g) (f b k j)
  | _ => False
theorem asqA_of {g : FuncId} {ars : List AV} {f : Nat → Nat → Nat → Prop} (h : asqA g ars f) : ∃ b k j, ars = [.nils, .fn (.func g) [] [.ptr b k j]] ∧ f b k j := by
  unfold asqA at h
  split at h
  · obtain ⟨h1, h2⟩ := chk_of h
    have := Nat.eq_of_beq_eq_true h1
    subst this
    exact ⟨_, _, _, rfl, h2⟩
  · exact h.elim
def asqB (g : FuncId) : FB := ⟨fun call ars H K => asqA g ars fun b k j => getB H b fun y => rdCell y k j fun v => asqS v fun b2 k2 j2 => getB H b2 fun z => rdCell z k2 j2 fun u => asqI u fun x => frN H.next fun m => frH (H.push ⟨true, 1, .ints .i64 [x]⟩) fun H2 => K (.ret (.sl m 0 0 1 1 false)) H2⟩
theorem asqB_ok {P : Program} {ρ : Ren} (L : SlLaysZI.n11 P ρ) {g : FuncId} (hg : isGo P g = true) (h1 : GivesOne P g) : FBOK P (ρ.f 11) (asqB g) := by
  intro call ars H K hc h μ w vs hv s
  obtain ⟨b, k, j, e0, hA⟩ := asqA_of (f := fun b k j => getB H b fun y => rdCell y k j fun v => asqS v fun b2 k2 j2 => getB H b2 fun z => rdCell z k2 j2 fun u => asqI u fun x => frN H.next fun m => frH (H.push ⟨true, 1, .ints .i64 [x]⟩) fun H2 => K (.ret (.sl m 0 0 1 1 false)) H2) h
  subst e0
  obtain ⟨y, hy, hB⟩ := getB_of hA
  obtain ⟨hi, hC⟩ := rdCell_of hB
  obtain ⟨b2, k2, j2, c, ex, hvv, h⟩ := asqS_of hC
  obtain ⟨z, hz, h⟩ := getB_of h
  obtain ⟨hi2, h⟩ := rdCell_of h
  obtain ⟨x, hu, h⟩ := asqI_of h
  have h := frH_of (f := fun H2 => K (.ret (.sl H.next 0 0 1 1 false)) H2) (frN_of (f := fun m => frH (H.push ⟨true, 1, .ints .i64 [x]⟩) fun H2 => K (.ret (.sl m 0 0 1 1 false)) H2) h)
  obtain ⟨l, hl, hb⟩ := s.blk b y hy
  obtain ⟨v, c1, c2, _⟩ := s.read hy hl hi
  rw [hvv] at c2
  obtain ⟨l2, A, c', r1, rfl, r3, r4, r5, r6, r7⟩ := c2
  have hA : A = l2.at k2 j2 := by
    rcases r6 with q | q
    · exact q
    · omega
  subst hA
  obtain ⟨v2, d1, d2, _⟩ := s.read hz r1 hi2
  rw [hu] at d2
  have d2 : v2 = .int .i64 x := d2
  subst d2
  have hb2 : BSat μ z l2 w := by
    obtain ⟨l', q1, q2⟩ := s.blk b2 z hz
    rw [r1] at q1; cases q1
    exact q2
  have hs := h1 w l.blk (l.off + k * l.st + j) l2.blk (l2.off + k2 * l2.st + j2) c' x hb.blk_lt hb2.blk_lt c1 d1
  have hvs : vs = #[.slice none 0 0, .func (.func g) #[] #[.pointer (some (l.at k j))]] := by
    obtain ⟨vs⟩ := vs
    match vs, hv with
    | [x1, x2], ⟨q1, q2, _⟩ =>
      have q1 : x1 = .slice none 0 0 := q1
      obtain ⟨a', c0, rfl, e2, e3⟩ := q2
      obtain ⟨a'⟩ := a'
      obtain ⟨c0⟩ := c0
      match a', e2 with
      | [], _ =>
        match c0, e3 with
        | [x3], ⟨⟨l', g1, g2⟩, _⟩ =>
          rw [hl] at g1
          cases g1
          rw [q1, g2]
  subst hvs
  have key := AnyZI.appendSeq_in L Fence.wide 2 trivial rfl (by omega) g #[.pointer (some (l.at k j))] trivial (fun args w => run_callFunc (P := P) (vs := args) hg w) (fun ss => ss = [x]) 1 (by unfold maxLen; omega) (by omega) w hs
  refine Calls.mono (callsIn_wide.1 key) (fun e w' hq => ?_)
  obtain ⟨v, ss, rfl, rfl, hrow, _, hbl⟩ := hq
  obtain ⟨_, ⟨_, e0⟩ | ⟨gb, cap, cur, rfl, hbase, hgb, t1, t2, t3, t4⟩⟩ := hrow
  · cases e0
  · have hbs : BSat (μ.add H.next ⟨gb, 0, 1, cap⟩) ⟨true, 1, .ints .i64 [x]⟩ ⟨gb, 0, 1, cap⟩ w' := by
      refine ⟨rfl, cur, _, _, hgb, fun _ => ⟨.inl rfl, by show 0 + cap * 1 ≤ cur.size; omega⟩, fun k j hkj => ?_⟩
      simp only [AC.inb, Bool.and_eq_true] at hkj
      have hk : k = 0 ∧ j = 0 := by
        have := hkj
        simp [Nat.blt_eq] at this
        omega
      obtain ⟨rfl, rfl⟩ := hk
      have hc0 : cur.toList[0]? = some (encZ x) := by
        have : (cur.toList.take (1 * 1))[0]? = ([x].map encZ)[0]? := by
          have t4 : cur.toList.take (1 * 1) = [x].map encZ := t4
          rw [t4]
        rw [List.getElem?_take] at this
        simpa using this
      refine ⟨encZ x, by simpa using hc0, ?_, rfl⟩
      simp [AC.val, VRel, encZ]
    obtain ⟨g1, g2⟩ := s.fresh_blk hbl hbase hbs
    refine ⟨_, _, _, h, ⟨_, rfl, ⟨gb, 0, 1, cap⟩, ⟨gb, 0, none⟩, cap, ?_, rfl, Nat.le_refl _, by simpa using t1, fun e => (by cases e), .inl rfl, fun _ => ⟨rfl, Nat.le_refl _⟩⟩, g1, g2⟩
    unfold Mu.add; rw [if_pos rfl]
end
end Go.Eng
