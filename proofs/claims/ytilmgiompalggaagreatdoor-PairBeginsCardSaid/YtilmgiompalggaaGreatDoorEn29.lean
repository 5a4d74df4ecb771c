/- The engine, thirty-eighth part, beside: operations that make blocks, done at whatever place. -/
import Derived.Test.YtilmgiompalggaaGreatDoorEn28
namespace Go.Eng
open Go Go.RowKit
set_option linter.unusedVariables false
set_option linter.unusedSimpArgs false
noncomputable section
/-- An operation that makes a block: its number, its slot, the block, what points to it. -/
structure LB where
  a : Nat
  d : Nat
  b : ABlk
  pt : Nat → AV
abbrev LD := List (LB × Nat)
def tsL (D : LD) (ts : List AV) : List AV := D.foldr (fun p ts => putT ts (some p.1.d) (p.1.pt p.2)) ts
def HL (D : LD) (H : AH) : AH := D.foldr (fun p H => H.set p.2 p.1.b) H
def ML (ops : Array Oper) (D : LD) (M : List Nat) : List Nat := D.foldr (fun p M => besides ops M p.1.a) M
def LL (D : LD) (L : List Nat) : List Nat := D.map (·.1.a) ++ L
def AH.keeps (H : AH) (k : Nat) : AH := ⟨H.next + k, H.t⟩
structure SubL (A : List LB) (H : AH) (D : LD) : Prop where
  mem : ∀ p ∈ D, p.1 ∈ A
  nda : (D.map (·.1.a)).Nodup
  ndm : (D.map (·.2)).Nodup
  free : ∀ p ∈ D, H.get p.2 = none
structure AOK (P : Program) (n : Nat) (ops : Array Oper) (A : List LB) : Prop where
  adf : ∀ e ∈ A, ADF P n ops e.a e.d e.b e.pt
  nda : (A.map (·.a)).Nodup
  ndd : (A.map (·.d)).Nodup
/-- Those of A that are not done. -/
def undone (A : List LB) (D : LD) : List LB := A.filter fun e => !(D.map (·.1.a)).contains e.a
/-- Whichever of A is done already. -/
def DG (P : Program) (B : Nat) (ops : Array Oper) (A : List LB) (M L : List Nat) (ts : List AV) (H : AH) (Q : Post) : Prop :=
  ∀ D, SubL A H D → ∀ m, H.next ≤ m → m + (undone A D).length ≤ H.next + A.length → (∀ p ∈ D, p.2 < m) → DA P B ops (ML ops D M) (LL D L) (tsL D ts) (HL D ⟨m, H.t⟩) Q
theorem tsL_cons (p : LB × Nat) (D : LD) (ts : List AV) : tsL (p :: D) ts = putT (tsL D ts) (some p.1.d) (p.1.pt p.2) := rfl
theorem HL_cons (p : LB × Nat) (D : LD) (H : AH) : HL (p :: D) H = (HL D H).set p.2 p.1.b := rfl
theorem ML_cons (ops : Array Oper) (p : LB × Nat) (D : LD) (M : List Nat) : ML ops (p :: D) M = besides ops (ML ops D M) p.1.a := rfl
theorem tsL_len : ∀ (D : LD) (ts : List AV), (tsL D ts).length = ts.length
  | [], _ => rfl
  | p :: D, ts => by rw [tsL_cons, putT_len, tsL_len D ts]
theorem tsL_off {t : Nat} : ∀ {D : LD} {ts : List AV}, (∀ p ∈ D, p.1.d ≠ t) → (tsL D ts).getD t .any = ts.getD t .any
  | [], _, _ => rfl
  | p :: D, ts, h => by
    rw [tsL_cons, putT_get, if_neg (fun q => h p List.mem_cons_self (Option.some.inj q.1))]
    exact tsL_off (fun q hq => h q (List.mem_cons_of_mem _ hq))
theorem tsL_at : ∀ {D : LD} {ts : List AV}, (D.map (·.1.d)).Nodup → ∀ p ∈ D, p.1.d < ts.length → (tsL D ts).getD p.1.d .any = p.1.pt p.2
  | [], _, _, p, hp, _ => by cases hp
  | q :: D, ts, hn, p, hp, hl => by
    rw [List.map_cons, List.nodup_cons] at hn
    rw [tsL_cons, putT_get, tsL_len]
    rcases List.mem_cons.1 hp with rfl | hp
    · rw [if_pos ⟨rfl, hl⟩]
    · rw [if_neg (fun e : some q.1.d = some p.1.d ∧ p.1.d < ts.length => hn.1 (Option.some.inj e.1 ▸ List.mem_map.2 ⟨p, hp, rfl⟩))]
      exact tsL_at hn.2 p hp hl
theorem HL_off {b : Nat} : ∀ {D : LD} {H : AH}, (∀ p ∈ D, p.2 ≠ b) → (HL D H).get b = H.get b
  | [], _, _ => rfl
  | p :: D, H, h => by
    rw [HL_cons, AH.get_set, if_neg (fun q => h p List.mem_cons_self q.symm)]
    exact HL_off (fun q hq => h q (List.mem_cons_of_mem _ hq))
theorem HL_at : ∀ {D : LD} {H : AH}, (D.map (·.2)).Nodup → ∀ p ∈ D, (HL D H).get p.2 = some p.1.b
  | [], _, _, p, hp => by cases hp
  | q :: D, H, hn, p, hp => by
    rw [List.map_cons, List.nodup_cons] at hn
    rw [HL_cons, AH.get_set]
    rcases List.mem_cons.1 hp with rfl | hp
    · rw [if_pos rfl]
    · rw [if_neg (fun e : p.2 = q.2 => hn.1 (e ▸ List.mem_map.2 ⟨p, hp, rfl⟩))]
      exact HL_at hn.2 p hp
theorem HL_next : ∀ (D : LD) (H : AH), (HL D H).next = H.next
  | [], _ => rfl
  | _ :: D, H => HL_next D H
theorem HL_t : ∀ (D : LD) (t : T) (m m' : Nat), (HL D ⟨m, t⟩).t = (HL D ⟨m', t⟩).t
  | [], _, _, _ => rfl
  | p :: D, t, m, m' => by
    show T.put _ _ (HL D ⟨m, t⟩).t _ = T.put _ _ (HL D ⟨m', t⟩).t _
    rw [HL_t D t m m']
theorem HL_eq (D : LD) (t : T) (m m' : Nat) : HL D ⟨m, t⟩ = ⟨m, (HL D ⟨m', t⟩).t⟩ := by
  have h1 : (HL D ⟨m, t⟩).next = m := HL_next D _
  have h2 := HL_t D t m m'
  generalize HL D ⟨m, t⟩ = X at *
  cases X
  simp only at h1 h2
  rw [h1, h2]
theorem HL_up {D : LD} {H H' : AH} (ht : H'.t = H.t) (hf : ∀ p ∈ D, H.get p.2 = none) : ∀ b x, H.get b = some x → (HL D H').get b = some x := fun b x hb => by
  rw [HL_off (fun p hp e => by rw [← e, hf p hp] at hb; cases hb)]
  unfold AH.get at hb ⊢
  rw [ht]; exact hb
theorem mem_LL {D : LD} {L : List Nat} {j : Nat} : j ∈ LL D L ↔ (∃ p ∈ D, p.1.a = j) ∨ j ∈ L := by
  unfold LL
  rw [List.mem_append, List.mem_map]
theorem mem_besides {ops : Array Oper} {M : List Nat} {j k : Nat} : k ∈ besides ops M j ↔ k ∈ M ∧ (waitsFor ops ops.size j).contains k = false := by
  unfold besides
  rw [List.mem_filter]
  simp
theorem ML_sub {ops : Array Oper} : ∀ {D : LD} {M : List Nat} {k : Nat}, k ∈ ML ops D M → k ∈ M
  | [], _, _, h => h
  | _ :: D, _, _, h => ML_sub (D := D) (mem_besides.1 h).1
theorem ML_comm {ops : Array Oper} (j : Nat) : ∀ (D : LD) (M : List Nat), ML ops D (besides ops M j) = besides ops (ML ops D M) j
  | [], _ => rfl
  | p :: D, M => by
    show besides ops (ML ops D (besides ops M j)) p.1.a = besides ops (besides ops (ML ops D M) p.1.a) j
    rw [ML_comm j D M, besides_comm]
theorem mem_ML {ops : Array Oper} {k : Nat} : ∀ {D : LD} {M : List Nat}, k ∈ ML ops D M ↔ k ∈ M ∧ ∀ p ∈ D, (waitsFor ops ops.size p.1.a).contains k = false
  | [], M => ⟨fun h => ⟨h, fun p hp => by cases hp⟩, fun h => h.1⟩
  | p :: D, M => by
    show k ∈ besides ops (ML ops D M) p.1.a ↔ _
    rw [mem_besides, mem_ML (D := D)]
    constructor
    · rintro ⟨⟨h1, h2⟩, h3⟩
      refine ⟨h1, fun q hq => ?_⟩
      rcases List.mem_cons.1 hq with rfl | hq
      · exact h3
      · exact h2 q hq
    · rintro ⟨h1, h2⟩
      exact ⟨⟨h1, fun q hq => h2 q (List.mem_cons_of_mem _ hq)⟩, h2 p List.mem_cons_self⟩
theorem inj_of_nodup {α β : Type} {f : α → β} : ∀ {A : List α}, (A.map f).Nodup → ∀ x ∈ A, ∀ y ∈ A, f x = f y → x = y
  | [], _, x, hx, _, _, _ => by cases hx
  | z :: A, hn, x, hx, y, hy, e => by
    rw [List.map_cons, List.nodup_cons] at hn
    rcases List.mem_cons.1 hx with q | hx
    · rcases List.mem_cons.1 hy with r | hy
      · rw [q, r]
      · exact absurd (List.mem_map.2 ⟨y, hy, by rw [← e, q]⟩) hn.1
    · rcases List.mem_cons.1 hy with r | hy
      · exact absurd (List.mem_map.2 ⟨x, hx, by rw [e, r]⟩) hn.1
      · exact inj_of_nodup hn.2 x hx y hy e
section
variable {P : Program} {B n : Nat} {ops : Array Oper} {A : List LB} {M L : List Nat} {ts : List AV} {H : AH} {Q : Post} {D : LD}
theorem SubL.ndd (h : SubL A H D) (ok : AOK P n ops A) : (D.map (·.1.d)).Nodup := by
  have h1 := h.nda
  have h2 := h.mem
  clear h
  induction D with
  | nil => exact List.nodup_nil
  | cons p D ih =>
    rw [List.map_cons, List.nodup_cons] at h1 ⊢
    refine ⟨fun hm => h1.1 ?_, ih h1.2 (fun q hq => h2 q (List.mem_cons_of_mem _ hq))⟩
    obtain ⟨q, hq, e⟩ := List.mem_map.1 hm
    have := inj_of_nodup ok.ndd q.1 (h2 q (List.mem_cons_of_mem _ hq)) p.1 (h2 p List.mem_cons_self) e
    exact List.mem_map.2 ⟨q, hq, congrArg LB.a this⟩
/-- Of a heap it may be taken that it says nothing above its next number. -/
theorem DA.wf (h : (∀ b, H.next ≤ b → H.get b = none) → DA P B ops M L ts H Q) : DA P B ops M L ts H Q := fun n Lc μ w a hn d =>
  h (fun b hb => by
    cases hg : H.get b with
    | none => rfl
    | some x =>
      obtain ⟨l, h1, _⟩ := d.sat.blk b x hg
      rw [d.sat.fresh b hb] at h1; cases h1) n Lc μ w a hn d
/-- The slots may be told in other words, or less. -/
theorem DA.slots {ts1 ts2 : List AV} (hl : ts2.length = ts1.length) (hs : ∀ t, ts2.getD t .any = .any ∨ ts2.getD t .any = ts1.getD t .any) (h : DA P B ops M L ts2 H Q) : DA P B ops M L ts1 H Q := fun n Lc μ w a hn d =>
  h n Lc μ w a hn ⟨d.size, d.closed, d.sub, d.pend, hl.trans d.len, fun t ht => by
    rcases hs t with e | e
    · rw [e]; simp [VRel]
    · rw [e]; exact d.rel t ht, d.sat, d.nx⟩
theorem DA.permM {M' : List Nat} (hp : ∀ j, j ∈ M ↔ j ∈ M') (h : DA P B ops M L ts H Q) : DA P B ops M' L ts H Q := fun n Lc μ w a hn d =>
  h n Lc μ w a hn ⟨d.size, d.closed, d.sub, fun j hj hl => (hp j).2 (d.pend j hj hl), d.len, fun t ht => d.rel t (fun j hj hl => ht j ((hp j).2 hj) hl), d.sat, d.nx⟩
theorem DG.da (h : DG P B ops [] M L ts H Q) : DA P B ops M L ts H Q :=
  h [] ⟨(fun p hp => by cases hp), List.nodup_nil, List.nodup_nil, (fun p hp => by cases hp)⟩ H.next (Nat.le_refl _) (Nat.le_refl _) (fun p hp => by cases hp)
theorem DG.of (h : DA P B ops M L ts H Q) (hA : A = []) : DG P B ops A M L ts H Q := by
  subst hA
  intro D s m h1 h2 h3
  cases D with
  | cons p D => have := s.mem p List.mem_cons_self; cases this
  | nil =>
    have h2 : m ≤ H.next := h2
    have : m = H.next := by omega
    subst this
    exact h
theorem tsL_any {d : Nat} (t : Nat) : (tsL D (putT ts (some d) .any)).getD t .any = .any ∨ (tsL D (putT ts (some d) .any)).getD t .any = (tsL D ts).getD t .any := by
  induction D with
  | nil =>
    show (putT ts (some d) .any).getD t .any = .any ∨ (putT ts (some d) .any).getD t .any = ts.getD t .any
    rw [putT_get]
    split
    · exact .inl rfl
    · exact .inr rfl
  | cons p D ih =>
    rw [tsL_cons, tsL_cons, putT_get, putT_get, tsL_len, tsL_len, putT_len]
    by_cases q : some p.1.d = some t ∧ t < ts.length
    · rw [if_pos q, if_pos q]; exact .inr rfl
    · rw [if_neg q, if_neg q]; exact ih
/-- It is to be done later. -/
theorem DG.defer {e : LB} (h : DG P B ops (e :: A) M L (putT ts (some e.d) .any) H Q) : DG P B ops A M L ts H Q := by
  intro D s m h1 h2 h3
  have s' : SubL (e :: A) H D := ⟨fun p hp => List.mem_cons_of_mem _ (s.mem p hp), s.nda, s.ndm, s.free⟩
  refine DA.slots (by rw [tsL_len, tsL_len, putT_len]) (fun t => tsL_any t) (h D s' m h1 ?_ h3)
  unfold undone at h2 ⊢
  rw [List.filter_cons]
  simp only [List.length_cons]
  split
  · simp only [List.length_cons]; omega
  · omega
theorem tsL_putT {d : Option Nat} {v : AV} (hd : ∀ p ∈ D, d ≠ some p.1.d) (t : Nat) : (tsL D (putT ts d v)).getD t .any = (putT (tsL D ts) d v).getD t .any := by
  induction D with
  | nil => rfl
  | cons p D ih =>
    rw [tsL_cons, tsL_cons, putT_get, tsL_len, putT_len, ih (fun q hq => hd q (List.mem_cons_of_mem _ hq)), putT_get, putT_get, putT_get, putT_len, tsL_len]
    by_cases q : some p.1.d = some t ∧ t < ts.length
    · rw [if_pos q, if_pos q, if_neg]
      intro r
      exact hd p List.mem_cons_self (r.1.trans q.1.symm)
    · rw [if_neg q, if_neg q]
/-- A read, taken early. -/
theorem DG.take (i : Nat) (v : AV) (hi : L.contains i = false) (hA : ∀ e ∈ A, e.a ≠ i ∧ (waitsFor ops ops.size e.a).contains i = false ∧ dstOf ops i ≠ some e.d) (h : DG P B ops A (i :: M) (i :: L) (putT ts (dstOf ops i) v) H Q) : DG P B ops A M L ts H Q := by
  intro D s m h1 h2 h3
  have hiL : i ∉ L := fun hm => by rw [List.contains_iff_mem.2 hm] at hi; cases hi
  refine DA.take i v ?_ ?_
  · rcases hq : (LL D L).contains i with _ | _
    · rfl
    · exfalso
      rcases mem_LL.1 (List.contains_iff_mem.1 hq) with ⟨p, hp, e⟩ | hm
      · exact (hA p.1 (s.mem p hp)).1 e
      · exact hiL hm
  · refine DA.slots (by rw [putT_len, tsL_len, tsL_len, putT_len]) (fun t => .inr (tsL_putT (fun p hp => (hA p.1 (s.mem p hp)).2.2) t)) (DA.perm (L := LL D (i :: L)) (fun j => ?_) (DA.permM (M := ML ops D (i :: M)) (fun j => ?_) (h D s m h1 h2 h3)))
    · rw [mem_LL, List.mem_cons, List.mem_cons, mem_LL]
      constructor
      · rintro (h | h | h)
        · exact .inr (.inl h)
        · exact .inl h
        · exact .inr (.inr h)
      · rintro (h | h | h)
        · exact .inr (.inl h)
        · exact .inl h
        · exact .inr (.inr h)
    · rw [mem_ML, List.mem_cons, List.mem_cons, mem_ML]
      constructor
      · rintro ⟨h | h, h'⟩
        · exact .inl h
        · exact .inr ⟨h, h'⟩
      · rintro (h | ⟨h, h'⟩)
        · exact ⟨.inl h, fun p hp => h ▸ (hA p.1 (s.mem p hp)).2.1⟩
        · exact ⟨.inr h, h'⟩
/-! ### frames -/
theorem OpJ.frame' {j : Nat} {tss : List AV} {K : AV → AH → Prop} {nx : Nat} {blk : ABlk} (hn : nx < H.next) (hg : H.get nx = none) (ho : blk.own = true) (h : OpJ P B ops (fun _ _ _ => False) j tss H K) :
    OpJ P B ops (fun _ _ _ => False) j tss (H.set nx blk) (fun v H2 => ∃ H', K v H' ∧ H'.get nx = none ∧ H.next ≤ H'.next ∧ H2 = H'.set nx blk) := by
  intro μ w a Kc Qc r s hB hQ hK
  have s0 := frame_less hg s
  refine h μ w a Kc Qc r s0 hB (fun v H1 x w' μ1 q1 q2 q3 q4 q5 => q1.elim) (fun v H1 x w' μ1 q1 q2 q3 q4 q5 => ?_)
  obtain ⟨f1, f2⟩ := frame_step hn hg ho s q3 q4 q5
  refine hK v (H1.set nx blk) x w' μ1 ⟨H1, q1, ?_, q5.nx, rfl⟩ q2 f1 q4 f2
  cases hx : H1.get nx with
  | none => rfl
  | some y =>
    exfalso
    have hnx : (H.set nx blk).get nx = some blk := by rw [AH.get_set, if_pos rfl]
    obtain ⟨l, hl, hb⟩ := s.blk nx blk hnx
    have hlt := hb.blk_lt
    rcases q5.from_ nx y l hx (q4 _ _ hl) with h1 | ⟨b0, x0, l0, r1, r2, r3, _⟩
    · omega
    · have hne : b0 ≠ nx := fun e => by rw [e, hg] at r1; cases r1
      exact s.sep nx b0 blk x0 l l0 hnx (by rw [AH.get_set, if_neg hne]; exact r1) (Ne.symm hne) ho hl r2 r3.symm
theorem OpJ.frames {j : Nat} {tss : List AV} {K : AV → AH → Prop} : ∀ {D : LD}, (D.map (·.2)).Nodup → (∀ p ∈ D, p.2 < H.next ∧ H.get p.2 = none ∧ p.1.b.own = true) → OpJ P B ops (fun _ _ _ => False) j tss H K →
    OpJ P B ops (fun _ _ _ => False) j tss (HL D H) (fun v H2 => ∃ H', K v H' ∧ (∀ p ∈ D, H'.get p.2 = none) ∧ H.next ≤ H'.next ∧ H2 = HL D H')
  | [], _, _, h => by
    intro μ w a Kc Qc r s hB hQ hK
    exact h μ w a Kc Qc r s hB hQ (fun v H1 x w' μ1 q1 q2 q3 q4 q5 => hK v H1 x w' μ1 ⟨H1, q1, (fun p hp => by cases hp), q5.nx, rfl⟩ q2 q3 q4 q5)
  | p :: D, hn, hD, h => by
    rw [List.map_cons, List.nodup_cons] at hn
    have off : ∀ q ∈ D, q.2 ≠ p.2 := fun q hq e => hn.1 (e ▸ List.mem_map.2 ⟨q, hq, rfl⟩)
    obtain ⟨h1, h2, h3⟩ := hD p List.mem_cons_self
    have ih := OpJ.frames (D := D) hn.2 (fun q hq => hD q (List.mem_cons_of_mem _ hq)) h
    refine OpJ.monoK (OpJ.frame' (nx := p.2) (blk := p.1.b) (show p.2 < (HL D H).next by rw [HL_next]; exact h1) (show (HL D H).get p.2 = none by rw [HL_off off]; exact h2) h3 ih) (fun v H2 q => ?_)
    obtain ⟨H1, ⟨H', k1, k2, k3, rfl⟩, g1, _, rfl⟩ := q
    refine ⟨H', k1, fun q hq => ?_, k3, rfl⟩
    rcases List.mem_cons.1 hq with rfl | hq
    · rw [HL_off off] at g1; exact g1
    · exact k2 q hq
theorem OpJ.low {H2 : AH} {j : Nat} {tss : List AV} {K : AV → AH → Prop} (ht : H2.t = H.t) (hx : H.next ≤ H2.next) (h : OpJ P B ops Q j tss H2 K) : OpJ P B ops Q j tss H K := by
  intro μ w a Kc Qc r s hB hQ hK
  have ge : ∀ b, H2.get b = H.get b := fun b => by unfold AH.get; rw [ht]
  have s' : Sat μ H2 w := ⟨fun b hb => s.fresh b (Nat.le_trans hx hb), fun b k hk => s.blk b k (by rw [← ge]; exact hk), fun b b' k k' l l' h1 h2 => s.sep b b' k k' l l' (by rw [← ge]; exact h1) (by rw [← ge]; exact h2)⟩
  have low : ∀ {μ1 : Mu} {H1 : AH} {w' : World}, Fr μ H2 μ1 H1 w w' → Fr μ H μ1 H1 w w' := fun f =>
    ⟨fun b hb => f.le b (Nat.lt_of_lt_of_le hb hx), Nat.le_trans hx f.nx, f.os, f.tape, f.output, f.size, fun k hk hh => f.same k hk (fun b x l h1 => hh b x l (by rw [← ge]; exact h1)), fun b x l h1 h2 => by
      rcases f.from_ b x l h1 h2 with q | ⟨b0, x0, l0, r1, r2⟩
      · exact .inl q
      · exact .inr ⟨b0, x0, l0, by rw [← ge]; exact r1, r2⟩⟩
  exact h μ w a Kc Qc r s' (Nat.le_trans hB hx) (fun v H1 x w' μ1 q1 q2 q3 q4 q5 => hQ v H1 x w' μ1 q1 q2 q3 q4 (low q5)) (fun v H1 x w' μ1 q1 q2 q3 q4 q5 => hK v H1 x w' μ1 q1 q2 q3 q4 (low q5))
/-! ### what may come next, whichever are done -/
def subsN : List Nat → List (List Nat)
  | [] => [[]]
  | a :: l => subsN l ++ (subsN l).map (a :: ·)
theorem filter_subsN (p : Nat → Bool) : ∀ l, l.filter p ∈ subsN l
  | [] => List.mem_singleton.2 rfl
  | a :: l => by
    rw [List.filter_cons]
    show _ ∈ subsN l ++ (subsN l).map (a :: ·)
    split
    · exact List.mem_append_right _ (List.mem_map.2 ⟨_, filter_subsN p l, rfl⟩)
    · exact List.mem_append_left _ (filter_subsN p l)
def subB (l xs : List Nat) : Bool := (l.all fun j => xs.contains j) && !l.isEmpty
theorem subB_of {l xs : List Nat} (h : subB l xs = true) : (∀ j ∈ l, j ∈ xs) ∧ l.isEmpty = false := by
  unfold subB at h
  rw [Bool.and_eq_true] at h
  exact ⟨fun j hj => List.contains_iff_mem.1 (List.all_eq_true.1 h.1 j hj), by simpa using h.2⟩
/-- Whichever of those of as are done: what may come next is of them, or of xs. -/
def lateOK (ops : Array Oper) (L as xs : List Nat) : Bool := (subsN as).all fun S => (xs.isEmpty && as.all fun a => S.contains a) || subB (readyAbs ops (S ++ L)) (xs ++ as)
theorem readyAbs_perm {L L' : List Nat} (h : ∀ j, j ∈ L ↔ j ∈ L') : readyAbs ops L = readyAbs ops L' := by
  have e : L.contains = L'.contains := by
    funext j
    rcases h1 : L.contains j with _ | _ <;> rcases h2 : L'.contains j with _ | _
    · rfl
    · rw [List.contains_iff_mem.2 ((h j).2 (List.contains_iff_mem.1 h2))] at h1; cases h1
    · rw [List.contains_iff_mem.2 ((h j).1 (List.contains_iff_mem.1 h1))] at h2; cases h2
    · rfl
  unfold readyAbs
  rw [e]
theorem late_of {xs : List Nat} (h : lateOK ops L (A.map (·.a)) xs = true) (s : SubL A H D) : (xs = [] ∧ undone A D = []) ∨ ((readyAbs ops (LL D L)).isEmpty = false ∧ ∀ i ∈ readyAbs ops (LL D L), i ∈ xs ∨ ∃ e ∈ undone A D, e.a = i) := by
  have h1 := List.all_eq_true.1 h _ (filter_subsN (fun a => (D.map (·.1.a)).contains a) (A.map (·.a)))
  have hm : ∀ a, a ∈ (A.map (·.a)).filter (fun a => (D.map (·.1.a)).contains a) ↔ ∃ p ∈ D, p.1.a = a := by
    intro a
    rw [List.mem_filter, List.contains_iff_mem, List.mem_map (l := D)]
    constructor
    · exact fun h => h.2
    · rintro ⟨p, hp, rfl⟩
      exact ⟨List.mem_map.2 ⟨p.1, s.mem p hp, rfl⟩, p, hp, rfl⟩
  rcases Bool.or_eq_true _ _ ▸ h1 with h1 | h1
  · left
    rw [Bool.and_eq_true] at h1
    refine ⟨List.isEmpty_iff.1 h1.1, ?_⟩
    unfold undone
    rw [List.filter_eq_nil_iff]
    intro e he hc
    have := List.contains_iff_mem.1 (List.all_eq_true.1 h1.2 e.a (List.mem_map.2 ⟨e, he, rfl⟩))
    have := (List.mem_filter.1 this).2
    rw [this] at hc
    cases hc
  · right
    have e : readyAbs ops ((A.map (·.a)).filter (fun a => (D.map (·.1.a)).contains a) ++ L) = readyAbs ops (LL D L) := readyAbs_perm (fun j => by
      rw [List.mem_append, hm, mem_LL])
    rw [e] at h1
    obtain ⟨k1, k2⟩ := subB_of h1
    refine ⟨k2, fun i hi => ?_⟩
    rcases List.mem_append.1 (k1 i hi) with q | q
    · exact .inl q
    · right
      obtain ⟨e, he, rfl⟩ := List.mem_map.1 q
      refine ⟨e, List.mem_filter.2 ⟨he, ?_⟩, rfl⟩
      have hno : e.a ∉ LL D L := by
        unfold readyAbs at hi
        have := (List.mem_filter.1 hi).2
        rw [Bool.and_eq_true] at this
        intro hm
        rw [List.contains_iff_mem.2 hm] at this
        cases this.1
      rcases hc : (D.map (·.1.a)).contains e.a with _ | _
      · rw [hc]; rfl
      · exfalso
        refine hno (mem_LL.2 (.inl ?_))
        exact List.mem_map.1 (List.contains_iff_mem.1 hc)
theorem filter_lt {α : Type} {p q : α → Bool} : ∀ {l : List α}, (∀ x, p x = true → q x = true) → ∀ e ∈ l, q e = true → p e = false → (l.filter p).length < (l.filter q).length
  | [], _, e, he, _, _ => by cases he
  | x :: l, h, e, he, h1, h2 => by
    have le : ∀ l : List α, (l.filter p).length ≤ (l.filter q).length := fun l => by
      induction l with
      | nil => exact Nat.le_refl _
      | cons y l ih =>
        rw [List.filter_cons, List.filter_cons]
        by_cases hp : p y = true
        · rw [if_pos hp, if_pos (h y hp)]; simp only [List.length_cons]; omega
        · rw [if_neg hp]
          split
          · simp only [List.length_cons]; omega
          · exact ih
    rw [List.filter_cons, List.filter_cons]
    rcases List.mem_cons.1 he with rfl | he
    · rw [if_neg (by rw [h2]; simp), if_pos h1]
      have := le l
      simp only [List.length_cons]; omega
    · have := filter_lt (l := l) h e he h1 h2
      by_cases hp : p x = true
      · rw [if_pos hp, if_pos (h x hp)]; simp only [List.length_cons]; omega
      · rw [if_neg hp]
        split
        · simp only [List.length_cons]; omega
        · exact this
theorem undone_cons {e : LB} {m : Nat} (he : e ∈ undone A D) : (undone A ((e, m) :: D)).length < (undone A D).length := by
  obtain ⟨h1, h2⟩ := List.mem_filter.1 he
  refine filter_lt (fun x hx => ?_) e h1 h2 ?_
  · rw [List.map_cons, List.contains_cons] at hx
    simp only [Bool.not_eq_true', Bool.or_eq_false_iff] at hx ⊢
    exact hx.2
  · rw [List.map_cons, List.contains_cons]
    simp
theorem HL_push (D : LD) (t : T) (m : Nat) (b : ABlk) : (HL D ⟨m, t⟩).push b = (HL D ⟨m + 1, t⟩).set m b := by
  rw [HL_eq D t (m + 1) m]
  have h : (HL D ⟨m, t⟩).next = m := HL_next D _
  generalize HL D ⟨m, t⟩ = X at *
  cases X
  simp only at h
  subst h
  rfl
theorem scrub_late (ok : AOK P n ops A) (s : SubL A H D) (hany : ∀ e ∈ A, ts.getD e.d .any = .any) {j : Nat} {μ : Mu} {tmps : Array Value} (r : Rel μ (scrub ops (besides ops (ML ops D M) j) (tsL D ts)) tmps) : Rel μ (scrub ops (besides ops M j) ts) tmps := by
  refine Rel.of_get ?_ (fun t => ?_)
  · have h1 := r.len
    simp only [scrub_len, tsL_len] at h1 ⊢
    simpa using h1
  · by_cases e2 : ∃ i ∈ besides ops M j, dstOf ops i = some t
    · rw [scrub_any _ _ _ _ e2]; simp [VRel]
    · have e3 : ∀ i ∈ besides ops M j, dstOf ops i ≠ some t := fun i hi hd => e2 ⟨i, hi, hd⟩
      have hr := r.get t
      rw [scrub_same _ _ _ _ e3]
      rw [scrub_same _ _ _ _ (fun i hi => e3 i (mem_besides.2 ⟨ML_sub (mem_besides.1 hi).1, (mem_besides.1 hi).2⟩))] at hr
      by_cases et : ∃ e ∈ A, e.d = t
      · obtain ⟨e, he, rfl⟩ := et
        rw [hany e he]; simp [VRel]
      · rw [tsL_off (fun p hp e => et ⟨p.1, s.mem p hp, e⟩)] at hr
        exact hr
theorem valid_late (s : SubL A H D) (hap : apartOK P ops M (A.map (·.d)) = true) (hM : ∀ k ∈ M, PureAt P ops k) {H' : AH} (ht : H'.t = H.t) (hv : ValidL P ops M ts H M) : ValidL P ops (ML ops D M) (tsL D ts) (HL D H') (ML ops D M) :=
  valid_more hap hM (fun k hk => ML_sub hk) (fun t ht => tsL_off (fun p hp e => ht (List.mem_map.2 ⟨p.1, s.mem p hp, e⟩))) (HL_up ht s.free) hv
theorem undone_le : (undone A D).length ≤ A.length := List.length_filter_le _ _
theorem DG.exec.go {j m : Nat} (ok : AOK P n ops A) (hd : ∀ e ∈ A, dstOf ops j ≠ some e.d) (hany : ∀ e ∈ A, ts.getD e.d .any = .any) (s : SubL A H D) (h1 : H.next ≤ m) (h2 : m + (undone A D).length ≤ H.next + A.length) (h3 : ∀ p ∈ D, p.2 < m)
    (hc : OpJ P B ops (fun _ _ _ => False) j (scrub ops (besides ops M j) ts) (H.keeps A.length) (fun v H' => DG P B ops A (besides ops M j) (j :: L) (putT ts (dstOf ops j) v) H' Q)) :
    OpJ P B ops Q j (scrub ops (besides ops (ML ops D M) j) (tsL D ts)) (HL D ⟨m, H.t⟩) (fun v H' => DA P B ops (besides ops (ML ops D M) j) (j :: LL D L) (putT (tsL D ts) (dstOf ops j) v) H' Q) := by
  have hf := OpJ.frames (H := H.keeps A.length) (D := D) s.ndm (fun p hp => ⟨by have := h3 p hp; show p.2 < H.next + A.length; omega, s.free p hp, (ok.adf p.1 (s.mem p hp)).own⟩) hc
  refine OpJ.slots (fun μ tmps r => scrub_late ok s hany r) (fun x H1 q => q.elim) (OpJ.low (H2 := HL D (H.keeps A.length)) (HL_t D H.t _ _) (by rw [HL_next, HL_next]; show m ≤ H.next + A.length; omega) (OpJ.monoK hf (fun v H2 q => ?_)))
  obtain ⟨H', k1, k2, k3, rfl⟩ := q
  have k3 : H.next + A.length ≤ H'.next := k3
  have := k1 D ⟨s.mem, s.nda, s.ndm, k2⟩ H'.next (Nat.le_refl _) (by
    have := undone_le (A := A) (D := D); omega) (fun p hp => by have := h3 p hp; omega)
  refine DA.slots (by rw [putT_len, tsL_len, tsL_len, putT_len]) (fun t => .inr (tsL_putT (fun p hp => hd p.1 (s.mem p hp)) t)) ?_
  rw [← ML_comm]
  refine DA.perm (L := LL D (j :: L)) (fun i => ?_) this
  rw [mem_LL, List.mem_cons, List.mem_cons, mem_LL]
  constructor
  · rintro (h | h | h)
    · exact .inr (.inl h)
    · exact .inl h
    · exact .inr (.inr h)
  · rintro (h | h | h)
    · exact .inr (.inl h)
    · exact .inl h
    · exact .inr (.inr h)
theorem DG.alloc {e : LB} {m : Nat} {uss : List AV} (ok : AOK P n ops A) (s : SubL A H D) (hw : ∀ b, (HL D ⟨m, H.t⟩).next ≤ b → (HL D ⟨m, H.t⟩).get b = none) (h3 : ∀ p ∈ D, p.2 < m) (he : e ∈ undone A D)
    (h : SubL A H ((e, m) :: D) → DA P B ops (ML ops ((e, m) :: D) M) (LL ((e, m) :: D) L) (tsL ((e, m) :: D) ts) (HL ((e, m) :: D) ⟨m + 1, H.t⟩) Q) :
    OpJ P B ops Q e.a uss (HL D ⟨m, H.t⟩) (fun v H' => DA P B ops (besides ops (ML ops D M) e.a) (e.a :: LL D L) (putT (tsL D ts) (dstOf ops e.a) v) H' Q) := by
  obtain ⟨q1, q2⟩ := List.mem_filter.1 he
  have s' : SubL A H ((e, m) :: D) := by
    refine ⟨fun p hp => ?_, ?_, ?_, fun p hp => ?_⟩
    · rcases List.mem_cons.1 hp with rfl | hp
      · exact q1
      · exact s.mem p hp
    · rw [List.map_cons, List.nodup_cons]
      refine ⟨fun hm => ?_, s.nda⟩
      rw [List.contains_iff_mem.2 hm] at q2
      cases q2
    · rw [List.map_cons, List.nodup_cons]
      refine ⟨fun hm => ?_, s.ndm⟩
      obtain ⟨p, hp, e⟩ := List.mem_map.1 hm
      have := h3 p hp
      have e : p.2 = m := e
      omega
    · rcases List.mem_cons.1 hp with rfl | hp
      · have := hw m (by rw [HL_next]; exact Nat.le_refl _)
        rw [HL_off (fun p hp e => by have := h3 p hp; omega)] at this
        exact this
      · exact s.free p hp
  refine OpJ.alloc (ok.adf e q1) ?_
  rw [HL_next, HL_push]
  exact h s'
/-- An effect, beside those that are to be done later. -/
theorem DG.exec {j : Nat} (ok : AOK P n ops A) (hbk : backB ops = true) (hL : lateOK ops L (A.map (·.a)) [j] = true) (hap : apartOK P ops M (A.map (·.d)) = true) (hd : ∀ e ∈ A, dstOf ops j ≠ some e.d) (hany : ∀ e ∈ A, ts.getD e.d .any = .any) (hM : ∀ k ∈ M, PureAt P ops k) (hv : ValidL P ops M ts H M)
    (hc : OpJ P B ops (fun _ _ _ => False) j (scrub ops (besides ops M j) ts) (H.keeps A.length) (fun v H' => DG P B ops A (besides ops M j) (j :: L) (putT ts (dstOf ops j) v) H' Q)) : DG P B ops A M L ts H Q := by
  suffices ∀ u D, (undone A D).length ≤ u → SubL A H D → ∀ m, H.next ≤ m → m + (undone A D).length ≤ H.next + A.length → (∀ p ∈ D, p.2 < m) → DA P B ops (ML ops D M) (LL D L) (tsL D ts) (HL D ⟨m, H.t⟩) Q from
    fun D s m h1 h2 h3 => this _ D (Nat.le_refl _) s m h1 h2 h3
  intro u
  induction u with
  | zero =>
    intro D hu s m h1 h2 h3
    rcases late_of hL s with ⟨e, _⟩ | ⟨k1, k2⟩
    · cases e
    · refine DA.exec _ ⟨rfl, k1, hbk⟩ (valid_late s hap hM rfl hv) (branches_of (fun i hi => ?_))
      rcases k2 i hi with q | ⟨e, he, _⟩
      · rw [List.mem_singleton] at q
        subst q
        exact DG.exec.go ok hd hany s h1 h2 h3 hc
      · have := List.length_pos_of_mem he
        omega
  | succ u ih =>
    intro D hu s m h1 h2 h3
    refine DA.wf (fun hw => ?_)
    rcases late_of hL s with ⟨e, _⟩ | ⟨k1, k2⟩
    · cases e
    · refine DA.exec _ ⟨rfl, k1, hbk⟩ (valid_late s hap hM rfl hv) (branches_of (fun i hi => ?_))
      rcases k2 i hi with q | ⟨e, he, rfl⟩
      · rw [List.mem_singleton] at q
        subst q
        exact DG.exec.go ok hd hany s h1 h2 h3 hc
      · exact DG.alloc ok s hw h3 he (fun s' => ih ((e, m) :: D) (by have := undone_cons (m := m) he; omega) s' (m + 1) (by omega) (by have := undone_cons (m := m) he; omega) (fun p hp => by
          rcases List.mem_cons.1 hp with rfl | hp
          · exact Nat.lt_succ_self _
          · exact Nat.lt_succ_of_lt (h3 p hp)))
/-! ### all of them done -/
def canon : List LB → Nat → LD
  | [], _ => []
  | e :: A, m => (e, m) :: canon A (m + 1)
theorem canon_fst : ∀ (A : List LB) (m : Nat), (canon A m).map (·.1) = A
  | [], _ => rfl
  | e :: A, m => by show e :: (canon A (m + 1)).map (·.1) = e :: A; rw [canon_fst A (m + 1)]
theorem canon_mem : ∀ {A : List LB} {m : Nat}, ∀ p ∈ canon A m, p.1 ∈ A ∧ m ≤ p.2 ∧ p.2 < m + A.length
  | [], _, p, hp => by cases hp
  | e :: A, m, p, hp => by
    rcases List.mem_cons.1 hp with rfl | hp
    · exact ⟨List.mem_cons_self, Nat.le_refl _, by simp only [List.length_cons]; omega⟩
    · obtain ⟨h1, h2, h3⟩ := canon_mem (A := A) p hp
      exact ⟨List.mem_cons_of_mem _ h1, by omega, by simp only [List.length_cons]; omega⟩
theorem canon_nodup : ∀ (A : List LB) (m : Nat), ((canon A m).map (·.2)).Nodup
  | [], _ => List.nodup_nil
  | e :: A, m => by
    show ((m :: (canon A (m + 1)).map (·.2))).Nodup
    rw [List.nodup_cons]
    refine ⟨fun h => ?_, canon_nodup A (m + 1)⟩
    obtain ⟨p, hp, e⟩ := List.mem_map.1 h
    have := (canon_mem p hp).2.1
    have e : p.2 = m := e
    omega
theorem canon_has {A : List LB} (m : Nat) {e : LB} (he : e ∈ A) : ∃ p ∈ canon A m, p.1 = e := by
  rw [← canon_fst A m] at he
  exact List.mem_map.1 he
theorem canon_map {β : Type} (f : LB → β) (A : List LB) (m : Nat) : (canon A m).map (fun p => f p.1) = A.map f := by
  have : (canon A m).map (fun p => f p.1) = ((canon A m).map (·.1)).map f := by rw [List.map_map]; rfl
  rw [this, canon_fst]
theorem canon_sub (ok : AOK P n ops A) {m : Nat} (hf : ∀ b, m ≤ b → H.get b = none) : SubL A H (canon A m) :=
  ⟨fun p hp => (canon_mem p hp).1, by rw [canon_map (fun e => e.a)]; exact ok.nda, canon_nodup A m, fun p hp => hf _ (canon_mem p hp).2.1⟩
/-- The number that a block has, by the number that it is told by. -/
def phiL (D C : LD) (b : Nat) : Nat := match C.find? (fun p => Nat.beq p.2 b) with
  | some p => match D.find? (fun q => Nat.beq q.1.a p.1.a) with
    | some q => q.2
    | none => b
  | none => b
theorem phi_off {C : LD} {b : Nat} (h : ∀ p ∈ C, p.2 ≠ b) : phiL D C b = b := by
  unfold phiL
  rw [List.find?_eq_none.2 (fun p hp hb => h p hp (Nat.eq_of_beq_eq_true hb))]
theorem phi_at {C : LD} (hC : (C.map (·.2)).Nodup) (hD : (D.map (·.1.a)).Nodup) {p q : LB × Nat} (hp : p ∈ C) (hq : q ∈ D) (e : q.1.a = p.1.a) : phiL D C p.2 = q.2 := by
  unfold phiL
  cases h1 : C.find? (fun r => Nat.beq r.2 p.2) with
  | none => exact absurd (Nat.beq_refl _) (List.find?_eq_none.1 h1 p hp)
  | some r =>
    have r1 := List.mem_of_find?_eq_some h1
    have r2 : r.2 = p.2 := Nat.eq_of_beq_eq_true (List.find?_some (p := fun r : LB × Nat => Nat.beq r.2 p.2) h1)
    have r3 : r = p := inj_of_nodup hC r r1 p hp r2
    subst r3
    simp only []
    cases h2 : D.find? (fun q => Nat.beq q.1.a r.1.a) with
    | none =>
      have := List.find?_eq_none.1 h2 q hq
      rw [e] at this
      exact absurd (Nat.beq_refl _) this
    | some q' =>
      have q1 := List.mem_of_find?_eq_some h2
      have q2 : q'.1.a = r.1.a := Nat.eq_of_beq_eq_true (List.find?_some (p := fun q : LB × Nat => Nat.beq q.1.a r.1.a) h2)
      have q3 : q' = q := inj_of_nodup hD q' q1 q hq (q2.trans e.symm)
      rw [q3]
theorem undone_nil (h : undone A D = []) {e : LB} (he : e ∈ A) (s : SubL A H D) (ok : AOK P n ops A) : ∃ q ∈ D, q.1 = e := by
  unfold undone at h
  rw [List.filter_eq_nil_iff] at h
  have := h e he
  have hc : (D.map (·.1.a)).contains e.a = true := by
    rcases hq : (D.map (·.1.a)).contains e.a with _ | _
    · rw [hq] at this; exact absurd rfl this
    · rw [hq]
  obtain ⟨q, hq, hqe⟩ := List.mem_map.1 (List.contains_iff_mem.1 hc)
  exact ⟨q, hq, inj_of_nodup ok.nda q.1 (s.mem q hq) e he hqe⟩
/-- All are done: their blocks are told by other numbers. -/
theorem DA.renL {k m : Nat} (ok : AOK P n ops A) (hn : ts.length = n) (s : SubL A H D) (hu : undone A D = []) (h1 : H.next ≤ m) (h2 : m ≤ H.next + k) (h3 : ∀ p ∈ D, p.2 < m) (hk : k = A.length)
    (h : DA P B ops M L (tsL (canon A (H.next + k)) ts) (HL (canon A (H.next + k)) (H.keeps (k + k))) Q) : DA P B ops M L (tsL D ts) (HL D ⟨m, H.t⟩) Q := by
  refine DA.wf (fun hw => ?_)
  have hfree : ∀ b, m ≤ b → H.get b = none := fun b hb => by
    have := hw b (by rw [HL_next]; exact hb)
    rwa [HL_off (fun p hp e => by have := h3 p hp; omega)] at this
  have sc : SubL A H (canon A (H.next + k)) := canon_sub ok (fun b hb => hfree b (by omega))
  refine DA.weak (fun μ w sat hB => ?_) (by rw [tsL_len, tsL_len]) h
  rw [HL_next] at hB
  have hB : B ≤ m := hB
  have cm := fun p hp => canon_mem (A := A) (m := H.next + k) p hp
  have off : ∀ b, b < H.next + k → phiL D (canon A (H.next + k)) b = b := fun b hb => phi_off (fun p hp e => by have := (cm p hp).2.1; omega)
  have off2 : ∀ b, H.next + (k + k) ≤ b → phiL D (canon A (H.next + k)) b = b := fun b hb => phi_off (fun p hp e => by have := (cm p hp).2.2; omega)
  have at_ : ∀ p ∈ canon A (H.next + k), ∃ q ∈ D, q.1 = p.1 ∧ phiL D (canon A (H.next + k)) p.2 = q.2 := fun p hp => by
    obtain ⟨q, hq, e⟩ := undone_nil hu (cm p hp).1 s ok
    exact ⟨q, hq, e, phi_at sc.ndm s.nda hp hq (congrArg LB.a e)⟩
  have hle : MuLe μ (fun b => μ (phiL D (canon A (H.next + k)) b)) := fun b l hb => by
    have hlt := sat.lt hb
    rw [HL_next] at hlt
    have hlt : b < m := hlt
    show μ _ = _
    rw [off b (by omega)]; exact hb
  have cases_ : ∀ b x, (HL (canon A (H.next + k)) (H.keeps (k + k))).get b = some x → (∃ p ∈ canon A (H.next + k), ∃ q ∈ D, p.2 = b ∧ q.1 = p.1 ∧ phiL D (canon A (H.next + k)) b = q.2 ∧ x = q.1.b) ∨ (phiL D (canon A (H.next + k)) b = b ∧ H.get b = some x) := by
    intro b x hb
    by_cases hc : ∃ p ∈ canon A (H.next + k), p.2 = b
    · obtain ⟨p, hp, rfl⟩ := hc
      obtain ⟨q, hq, e1, e2⟩ := at_ p hp
      rw [HL_at sc.ndm p hp] at hb
      cases hb
      exact .inl ⟨p, hp, q, hq, rfl, e1, e2, by rw [e1]⟩
    · have hc' : ∀ p ∈ canon A (H.next + k), p.2 ≠ b := fun p hp e => hc ⟨p, hp, e⟩
      rw [HL_off hc'] at hb
      exact .inr ⟨phi_off hc', hb⟩
  obtain ⟨r1, r2⟩ := Sat.phi (B := B) sat (φ := phiL D (canon A (H.next + k))) (μ' := fun b => μ (phiL D (canon A (H.next + k)) b)) (Hc := HL (canon A (H.next + k)) (H.keeps (k + k))) hle (by rw [HL_next]; show B ≤ H.next + (k + k); omega) (fun b hb => by
    show μ _ = _
    rw [off b (by omega)]) (fun b hb => by
    rw [HL_next] at hb
    have hb : H.next + (k + k) ≤ b := hb
    show μ _ = _
    rw [off2 b hb]
    exact sat.fresh b (by rw [HL_next]; show m ≤ b; omega)) (fun b x hb => by
    refine ⟨?_, rfl⟩
    rcases cases_ b x hb with ⟨p, hp, q, hq, rfl, e1, e2, rfl⟩ | ⟨e1, e2⟩
    · rw [e2]
      exact HL_at s.ndm q hq
    · rw [e1]
      exact HL_up (H' := ⟨m, H.t⟩) rfl s.free b x e2) (fun b b' x x' hb hb' hne => by
    rcases cases_ b x hb with ⟨p, hp, q, hq, rfl, e1, e2, rfl⟩ | ⟨e1, e2⟩
    · rcases cases_ b' x' hb' with ⟨p', hp', q', hq', rfl, e1', e2', rfl⟩ | ⟨e1', e2'⟩
      · rw [e2, e2']
        intro e
        have eq : q = q' := inj_of_nodup s.ndm q hq q' hq' e
        subst eq
        have ea : p.1 = p'.1 := e1.symm.trans e1'
        exact hne (congrArg (·.2) (inj_of_nodup sc.nda p hp p' hp' (congrArg LB.a ea)))
      · rw [e2, e1']
        intro e
        have := s.free q hq
        rw [e, e2'] at this
        cases this
    · rcases cases_ b' x' hb' with ⟨p', hp', q', hq', rfl, e1', e2', rfl⟩ | ⟨e1', e2'⟩
      · rw [e1, e2']
        intro e
        have := s.free q' hq'
        rw [← e, e2] at this
        cases this
      · rw [e1, e1']; exact hne)
  refine ⟨_, r1, r2, fun t x hx => ?_⟩
  by_cases ht : ∃ e ∈ A, e.d = t
  · obtain ⟨e, he, rfl⟩ := ht
    obtain ⟨p, hp, rfl⟩ := canon_has (H.next + k) he
    obtain ⟨q, hq, e1, e2⟩ := at_ p hp
    have hl : p.1.d < ts.length := by rw [hn]; exact (ok.adf p.1 he).lt
    rw [tsL_at (sc.ndd ok) p hp hl]
    have hl' : q.1.d < ts.length := by rw [e1]; exact hl
    have := tsL_at (s.ndd ok) q hq hl'
    rw [e1] at this
    rw [this] at hx
    refine (ok.adf p.1 he).ok μ _ x q.2 p.2 hx ?_
    show μ _ = _
    rw [e2]
  · rw [tsL_off (fun p hp e => ht ⟨p.1, s.mem p hp, e⟩)] at hx
    rw [tsL_off (fun p hp e => ht ⟨p.1, (cm p hp).1, e⟩)]
    exact VRel.ext hle _ _ hx
theorem DG.commit (ok : AOK P n ops A) (hn : ts.length = n) (hbk : backB ops = true) (hL : lateOK ops L (A.map (·.a)) [] = true) (hap : apartOK P ops M (A.map (·.d)) = true) (hM : ∀ k ∈ M, PureAt P ops k) (hv : ValidL P ops M ts H M)
    (h : ValidL P ops (ML ops (canon A (H.next + A.length)) M) (tsL (canon A (H.next + A.length)) ts) (HL (canon A (H.next + A.length)) (H.keeps (A.length + A.length))) (ML ops (canon A (H.next + A.length)) M) →
      DA P B ops (ML ops (canon A (H.next + A.length)) M) (LL (canon A (H.next + A.length)) L) (tsL (canon A (H.next + A.length)) ts) (HL (canon A (H.next + A.length)) (H.keeps (A.length + A.length))) Q) : DG P B ops A M L ts H Q := by
  suffices ∀ u D, (undone A D).length ≤ u → SubL A H D → ∀ m, H.next ≤ m → m + (undone A D).length ≤ H.next + A.length → (∀ p ∈ D, p.2 < m) → DA P B ops (ML ops D M) (LL D L) (tsL D ts) (HL D ⟨m, H.t⟩) Q from
    fun D s m h1 h2 h3 => this _ D (Nat.le_refl _) s m h1 h2 h3
  have fin : ∀ D, SubL A H D → undone A D = [] → ∀ m, H.next ≤ m → m + (undone A D).length ≤ H.next + A.length → (∀ p ∈ D, p.2 < m) → DA P B ops (ML ops D M) (LL D L) (tsL D ts) (HL D ⟨m, H.t⟩) Q := by
    intro D s hu m h1 h2 h3
    refine DA.wf (fun hw => ?_)
    have hfree : ∀ b, m ≤ b → H.get b = none := fun b hb => by
      have := hw b (by rw [HL_next]; exact hb)
      rwa [HL_off (fun p hp e => by have := h3 p hp; omega)] at this
    have sc : SubL A H (canon A (H.next + A.length)) := canon_sub ok (fun b hb => hfree b (by omega))
    refine DA.renL ok hn s hu h1 (by omega) h3 rfl ?_
    have hh := h (valid_late sc hap hM rfl hv)
    have same : ∀ a, (∃ p ∈ canon A (H.next + A.length), p.1.a = a) ↔ ∃ q ∈ D, q.1.a = a := fun a => by
      constructor
      · rintro ⟨p, hp, rfl⟩
        obtain ⟨q, hq, e⟩ := undone_nil hu (canon_mem p hp).1 s ok
        exact ⟨q, hq, by rw [e]⟩
      · rintro ⟨q, hq, rfl⟩
        obtain ⟨p, hp, e⟩ := canon_has (H.next + A.length) (s.mem q hq)
        exact ⟨p, hp, by rw [e]⟩
    refine DA.perm (L := LL (canon A (H.next + A.length)) L) (fun j => by rw [mem_LL, mem_LL, same]) (DA.permM (M := ML ops (canon A (H.next + A.length)) M) (fun j => ?_) hh)
    rw [mem_ML, mem_ML]
    constructor
    · rintro ⟨q1, q2⟩
      refine ⟨q1, fun q hq => ?_⟩
      obtain ⟨p, hp, e⟩ := (same q.1.a).2 ⟨q, hq, rfl⟩
      rw [← e]; exact q2 p hp
    · rintro ⟨q1, q2⟩
      refine ⟨q1, fun p hp => ?_⟩
      obtain ⟨q, hq, e⟩ := (same p.1.a).1 ⟨p, hp, rfl⟩
      rw [← e]; exact q2 q hq
  intro u
  induction u with
  | zero =>
    intro D hu s m h1 h2 h3
    exact fin D s (List.eq_nil_of_length_eq_zero (by omega)) m h1 h2 h3
  | succ u ih =>
    intro D hu s m h1 h2 h3
    refine DA.wf (fun hw => ?_)
    rcases late_of hL s with ⟨_, e⟩ | ⟨k1, k2⟩
    · exact fin D s e m h1 h2 h3
    · refine DA.exec _ ⟨rfl, k1, hbk⟩ (valid_late s hap hM rfl hv) (branches_of (fun i hi => ?_))
      rcases k2 i hi with q | ⟨e, he, rfl⟩
      · cases q
      · exact DG.alloc ok s hw h3 he (fun s' => ih ((e, m) :: D) (by have := undone_cons (m := m) he; omega) s' (m + 1) (by omega) (by have := undone_cons (m := m) he; omega) (fun p hp => by
          rcases List.mem_cons.1 hp with rfl | hp
          · exact Nat.lt_succ_self _
          · exact Nat.lt_succ_of_lt (h3 p hp)))
end
end
end Go.Eng
