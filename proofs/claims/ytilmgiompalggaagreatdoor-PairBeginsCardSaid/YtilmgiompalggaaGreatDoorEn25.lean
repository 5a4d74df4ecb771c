/- The engine, thirty-eighth part, ahead: operations compiled, the program laid in once. -/
import Derived.Test.YtilmgiompalggaaGreatDoorEn24
namespace Go.Eng
open Go Go.RowKit
set_option linter.unusedVariables false
set_option linter.unusedSimpArgs false
noncomputable section
/-- A function in a box. -/
inductive BX (α β : Type) where
  | mk (f : α → β)
def BX.go {α β : Type} (b : BX α β) (a : α) : β := @BX.rec α β (fun _ => β) (fun f => f a) b
def compPB (P : Program) : BX Oper (Option PO) := ⟨fun o =>
  match o.op with
  | .binOp op t x y _ => bif isEqT P t then match opd x, opd y, esOf P 8 t with
      | some cx, some cy, some s => match op with
        | .eql => some (.eqt false s cx cy)
        | .neq => some (.eqt true s cx cy)
        | .add => match P.underlying t with
          | some .string => some (.cat cx cy)
          | _ => none
        | _ => none
      | _, _, _ => none else none
  | .typeAssert x _ u ok => match P.underlying u, opd x, zeroAV P u with
    | some (.interface _), _, _ => none
    | some _, some cx, some z => some (.tas u z ok cx)
    | _, _, _ => none
  | .convert src dst x => match P.underlying src, P.underlying dst, opd x with
    | some (.slice e), some .string, some cx => match P.underlying e with
      | some (.int .u8) => some (.b2s cx)
      | _ => none
    | some (.pointer t), some .unsafePointer, some cx => match P.info? t with
      | some i => bif Nat.beq i.size 0 then none else some (.p2u cx)
      | none => none
    | _, _, _ => none
  | .call c => match c.callee, c.args.toList, c.argTypes.toList with
    | .builtin .cap, [x], [t] => match P.underlying t, opd x with
      | some (.slice _), some x => some (.capn x)
      | _, _ => none
    | _, _, _ => none
  | _ => none⟩
theorem compPB_eq (P : Program) (o : Oper) : (compPB P).go o = compP P o := rfl
def compMB (P : Program) : BX Oper (Option MO) := ⟨fun o =>
  match o.op with
  | .makeMap _ none => some .mk
  | .lookup t x i ok => match P.underlying t with
    | some (.map kt vt) => match keyES P kt, zeroAV P vt, opd x, opd i with
      | some s, some z, some x, some i => some (.lk s z ok x i)
      | _, _, _, _ => none
    | _ => none
  | .mapUpdate t m k x | .insert t m k x => match P.underlying t with
    | some (.map kt _) => match keyES P kt, opd m, opd k, opd x with
      | some s, some m, some k, some x => some (.up s m k x)
      | _, _, _, _ => none
    | _ => none
  | .call c => match c.callee, c.args.toList, c.argTypes.toList with
    | .builtin .delete, [m, k], [t, _] => match P.underlying t with
      | some (.map kt _) => match keyES P kt, opd m, opd k with
        | some s, some m, some k => some (.dl s m k)
        | _, _, _ => none
      | _ => none
    | .builtin .len, [x], [t] => match P.underlying t, opd x with
      | some (.map _ _), some x => some (.ln x)
      | _, _ => none
    | .builtin .clear, [x], [t] => match P.underlying t with
      | some (.map _ _) => match opd x with
        | some x => some (.clm x)
        | none => none
      | some (.slice e) => match P.info? e, zeroOf P e, opd x with
        | some i, some z, some x => bif decide (z.length = i.size) && !Nat.beq i.size 0 then some (.clr i.size z x) else none
        | _, _, _ => none
      | _ => none
    | _, _, _ => none
  | _ => none⟩
theorem compMB_eq (P : Program) (o : Oper) : (compMB P).go o = compM P o := rfl
def compXB (P : Program) : BX Oper (Option XO) := ⟨fun o =>
  match o.op with
  | .call c => match c.callee with
    | .value (.func f) => match extOf P f with
      | some k => match opds c.args.toList with
        | some as => some ⟨k, as⟩
        | none => none
      | none => none
    | _ => none
  | _ => none⟩
theorem compXB_eq (P : Program) (o : Oper) : (compXB P).go o = compX P o := rfl
def compB (P : Program) : BX Oper (Option COp) := ⟨fun o =>
  match (compPB P).go o with
  | some p => some (.pl p)
  | none =>
  match (compMB P).go o with
  | some p => some (.mo p)
  | none =>
  match (compXB P).go o with
  | some p => some (.xo p)
  | none =>
  match o.op with
  | .move x | .assign x => (opd x).map .mv
  | .pick c a b => match opd c, opd a, opd b with
    | some c, some a, some b => some (.pick c a b)
    | _, _, _ => none
  | .box _ x => (opd x).map .box
  | .alloc e => (zeroOf P e).map .alloc
  | .build t ps => match zeroOf P t, P.underlying t with
    | some z, some (.struct fs) => bif fs.toList.all (fun f => (P.info? f.type).isSome) then (partsOf (fieldsAt P fs) ps.toList).map (.build z) else none
    | some z, some (.array _ e) => match szOf P e with
      | some es => (partsOf (fun i => some (i * es, es)) ps.toList).map (.build z)
      | none => none
    | _, _ => none
  | .buildSlice t len ps => match P.underlying t with
    | some (.slice e) => match szOf P e, zeroOf P e with
      | some es, some z => bif decide (z.length = es) && decide (len * es ≤ 16777216) && !Nat.beq es 0 then (partsOf (fun i => some (i * es, es)) ps.toList).map (.buildS es len z) else none
      | _, _ => none
    | _ => none
  | .load t x => match aggSz P t, opd x with
    | some sz, some x => some (.load sz x)
    | _, _ => none
  | .store t x v => match szOf P t, opd x, opd v with
    | some sz, some x, some v => some (.store sz x v)
    | _, _, _ => none
  | .nilCheck x => (opd x).map .nilc
  | .binOp op t x y _ => match opd x, opd y with
    | some cx, some cy => match ekOf P t x y with
      | some q => match op with
        | .eql => some (.eq false q cx cy)
        | .neq => some (.eq true q cx cy)
        | _ => none
      | none => some (.bin op cx cy)
    | _, _ => none
  | .unOp op _ x => (opd x).map (.un op)
  | .convert src dst x => match P.underlying src, P.underlying dst, opd x with
    | some (.int _), some (.int k), some x => some (.conv k x)
    | _, _, _ => none
  | .sliceToArrayPointer t x => match P.underlying t, opd x with
    | some (.array n _), some x => bif Nat.beq n 0 then none else some (.s2a n x)
    | _, _ => none
  | .makeInterface t x => match P.underlying t, opd x with
    | some (.interface _), _ => none
    | some _, some x => some (.mki t x)
    | _, _ => none
  | .makeFunc f first cap => match opds first.toList, opds cap.toList with
    | some a, some b => some (.mkf f a b)
    | _, _ => none
  | .makeSlice t l c => match P.underlying t with
    | some (.slice e) => match P.info? e, zeroOf P e, opd l, opd c with
      | some i, some z, some l, some c => bif decide (z.length = i.size) && !Nat.beq i.size 0 then some (.mks i.size i.bytes z l c) else none
      | _, _, _, _ => none
    | _ => none
  | .slice t x lo hi mx => match P.underlying t with
    | some (.slice e) => match szOf P e, opd x, optd lo, optd hi, optd mx with
      | some es, some x, some lo, some hi, some mx => some (.sli es x lo hi mx)
      | _, _, _, _, _ => none
    | some (.array n e) => match szOf P e, opd x, optd lo, optd hi, mx with
      | some es, some x, some lo, some hi, none => some (.sla n es x lo hi)
      | _, _, _, _, _ => none
    | _ => none
  | .fieldAddr t x f => match P.underlying t with
    | some (.struct fs) => match fieldsAt P fs f, opd x with
      | some (off, sz), some x => bif Nat.beq sz 0 then none else some (.fa off x)
      | _, _ => none
    | _ => none
  | .field t x f => match P.underlying t with
    | some (.struct fs) => match fs[f]?, opd x with
      | some q, some x => (aggSz P q.type).map fun sz => .fld q.offset sz x
      | _, _ => none
    | _ => none
  | .indexAddr t x i => match P.underlying t, opd x, opd i with
    | some (.slice e), some x, some i => (szOf P e).map fun es => .ias es x i
    | some (.array n e), some x, some i => (szOf P e).map fun es => .iaa n es x i
    | _, _, _ => none
  | .index t x i => match P.underlying t, opd x, opd i with
    | some (.array n e), some x, some i => match szOf P e, aggSz P e with
      | some es, some sz => some (.ixa n es sz x i)
      | _, _ => none
    | some .string, some x, some i => some (.ixs x i)
    | _, _, _ => none
  | .extract x i => (opd x).map (.ext i)
  | .call c => match c.callee, c.args.toList, c.argTypes.toList with
    | .builtin .len, [x], [t] => match P.underlying t, opd x with
      | some (.slice _), some x => some (.lens x)
      | some .string, some x => some (.lenb x)
      | some (.array n _), _ => some (.lenn n)
      | _, _ => none
    | .builtin .append, [x, y], [t, u] => match P.underlying t, P.underlying u with
      | some (.slice e), some (.slice _) => match P.info? e, zeroOf P e, opd x, opd y with
        | some i, some z, some x, some y => bif decide (z.length = i.size) && !Nat.beq i.size 0 then some (.app 0 i.size i.bytes z x y) else none
        | _, _, _, _ => none
      | _, _ => none
    | .builtin .copy, [x, y], [t, _] => match P.underlying t with
      | some (.slice e) => match szOf P e, opd x, opd y with
        | some 1, some x, some y => some (.cop 0 x y)
        | _, _, _ => none
      | _ => none
    | .builtin .min, [x, y], _ => match opd x, opd y with
      | some x, some y => some (.mm false x y)
      | _, _ => none
    | .builtin .max, [x, y], _ => match opd x, opd y with
      | some x, some y => some (.mm true x y)
      | _, _ => none
    | _, _, _ => none
  | _ => none⟩
theorem compB_eq (P : Program) (o : Oper) : (compB P).go o = comp P o := rfl
end
end Go.Eng
/- The engine, thirty-eighth part, beside: what an operation does, it does where one block more lies. -/
namespace Go.Eng
open Go Go.RowKit
set_option linter.unusedVariables false
set_option linter.unusedSimpArgs false
noncomputable section
section
variable {P : Program} {μ μ1 : Mu} {H H1 : AH} {w w' : World} {nx : Nat} {blk : ABlk}
theorem frame_less (hg : H.get nx = none) (s : Sat μ (H.set nx blk) w) : Sat μ H w := by
  refine (Sat.sub s (H' := H) rfl (fun b x hb => ?_)).1
  rw [AH.get_set]
  by_cases e : b = nx
  · subst e; rw [hg] at hb; cases hb
  · rw [if_neg e]; exact hb
theorem frame_step (hn : nx < H.next) (hg : H.get nx = none) (ho : blk.own = true) (s : Sat μ (H.set nx blk) w) (q3 : Sat μ1 H1 w') (q4 : MuLe μ μ1) (q5 : Fr μ H μ1 H1 w w') : Sat μ1 (H1.set nx blk) w' ∧ Fr μ (H.set nx blk) μ1 (H1.set nx blk) w w' := by
  have hnx : (H.set nx blk).get nx = some blk := by rw [AH.get_set, if_pos rfl]
  obtain ⟨l, hl, hb⟩ := s.blk nx blk hnx
  have hne : ∀ b x, H.get b = some x → b ≠ nx := fun b x h e => by subst e; rw [hg] at h; cases h
  have up : ∀ b x, H.get b = some x → (H.set nx blk).get b = some x := fun b x h => by rw [AH.get_set, if_neg (hne b x h)]; exact h
  have hl1 : μ1 nx = some l := q4 _ _ hl
  have apart : ∀ b' k' l', H1.get b' = some k' → μ1 b' = some l' → l.blk ≠ l'.blk := by
    intro b' k' l' g1 g2
    rcases q5.from_ b' k' l' g1 g2 with h | ⟨b0, x0, l0, r1, r2, r3, _⟩
    · have := hb.blk_lt; omega
    · rw [← r3]
      exact s.sep nx b0 blk x0 l l0 hnx (up b0 x0 r1) (Ne.symm (hne b0 x0 r1)) ho hl r2
  have hsame : w'.heap[l.blk]? = w.heap[l.blk]? := q5.same l.blk hb.blk_lt (fun b x l' h1 h2 h3 => Ne.symm (s.sep nx b blk x l l' hnx (up b x h1) (Ne.symm (hne b x h1)) ho hl h3))
  refine ⟨⟨q3.fresh, fun b k hk => ?_, fun b b' k k' l1 l2 h1 h2 hbb hk g1 g2 => ?_⟩, ⟨q5.le, q5.nx, q5.os, q5.tape, q5.output, q5.size, fun k hk hh => q5.same k hk (fun b x l0 h1 h2 h3 => hh b x l0 (up b x h1) h2 h3), fun b x l0 h1 h2 => ?_⟩⟩
  · rw [AH.get_set] at hk
    by_cases e : b = nx
    · subst e
      rw [if_pos rfl] at hk
      cases hk
      exact ⟨l, hl1, hb.move q4 hsame⟩
    · rw [if_neg e] at hk
      exact q3.blk b k hk
  · rw [AH.get_set] at h1 h2
    by_cases e : b = nx
    · subst e
      rw [hl1] at g1
      cases g1
      rw [if_neg (Ne.symm hbb)] at h2
      exact apart b' k' l2 h2 g2
    · rw [if_neg e] at h1
      by_cases e' : b' = nx
      · subst e'
        rw [hl1] at g2
        cases g2
        exact Ne.symm (apart b k l1 h1 g1)
      · rw [if_neg e'] at h2
        exact q3.sep b b' k k' l1 l2 h1 h2 hbb hk g1 g2
  · rw [AH.get_set] at h1
    by_cases e : b = nx
    · subst e
      rw [if_pos rfl] at h1
      cases h1
      rw [hl1] at h2
      cases h2
      exact .inr ⟨b, blk, l, hnx, hl, rfl, id⟩
    · rw [if_neg e] at h1
      rcases q5.from_ b x l0 h1 h2 with h | ⟨b0, x0, l1, r1, r2, r3, r4⟩
      · exact .inl h
      · exact .inr ⟨b0, x0, l1, up b0 x0 r1, r2, r3, r4⟩
/-- What is said of a heap, is said of it with one block more. -/
theorem OpJ.frame {B : Nat} {ops : Array Oper} {Q : Post} {j : Nat} {tss : List AV} {K : AV → AH → Prop} (hn : nx < H.next) (hg : H.get nx = none) (ho : blk.own = true) (h : OpJ P B ops Q j tss H K) :
    OpJ P B ops (fun x ts H2 => ∃ H', Q x ts H' ∧ H2 = H'.set nx blk) j tss (H.set nx blk) (fun v H2 => ∃ H', K v H' ∧ H2 = H'.set nx blk) := by
  intro μ w a Kc Qc r s hB hQ hK
  have s0 := frame_less hg s
  refine h μ w a Kc Qc r s0 hB (fun v H1 x w' μ1 q1 q2 q3 q4 q5 => ?_) (fun v H1 x w' μ1 q1 q2 q3 q4 q5 => ?_)
  · obtain ⟨f1, f2⟩ := frame_step hn hg ho s q3 q4 q5
    exact hQ v (H1.set nx blk) x w' μ1 ⟨H1, q1, rfl⟩ q2 f1 q4 f2
  · obtain ⟨f1, f2⟩ := frame_step hn hg ho s q3 q4 q5
    exact hK v (H1.set nx blk) x w' μ1 ⟨H1, q1, rfl⟩ q2 f1 q4 f2
/-- Less is said of the slots. -/
theorem OpJ.slots {B : Nat} {ops : Array Oper} {Q Q' : Post} {j : Nat} {ts ts' : List AV} {K : AV → AH → Prop} (hr : ∀ μ tmps, Rel μ ts tmps → Rel μ ts' tmps) (hq : ∀ x H, Q x ts' H → Q' x ts H) (h : OpJ P B ops Q j ts' H K) : OpJ P B ops Q' j ts H K := by
  intro μ w a Kc Qc r s hB hQ hK
  exact h μ w a Kc Qc (hr _ _ r) s hB (fun v H1 x w' μ1 q1 q2 q3 q4 q5 => hQ v H1 x w' μ1 (hq _ _ q1) q2 q3 q4 q5) hK
/-- A number is kept free. -/
def AH.keep (H : AH) : AH := ⟨Nat.succ H.next, H.t⟩
theorem OpJ.keep {B : Nat} {ops : Array Oper} {Q : Post} {j : Nat} {tss : List AV} {K : AV → AH → Prop} (h : OpJ P B ops Q j tss H.keep K) : OpJ P B ops Q j tss H K := by
  intro μ w a Kc Qc r s hB hQ hK
  have s' : Sat μ H.keep w := ⟨fun b hb => s.fresh b (Nat.le_of_succ_le hb), s.blk, s.sep⟩
  have low : ∀ {μ1 : Mu} {H1 : AH} {w' : World}, Fr μ H.keep μ1 H1 w w' → Fr μ H μ1 H1 w w' := fun f =>
    ⟨fun b hb => f.le b (Nat.lt_succ_of_lt hb), Nat.le_of_succ_le f.nx, f.os, f.tape, f.output, f.size, f.same, f.from_⟩
  exact h μ w a Kc Qc r s' (Nat.le_succ_of_le hB) (fun v H1 x w' μ1 q1 q2 q3 q4 q5 => hQ v H1 x w' μ1 q1 q2 q3 q4 (low q5)) (fun v H1 x w' μ1 q1 q2 q3 q4 q5 => hK v H1 x w' μ1 q1 q2 q3 q4 (low q5))
theorem DA.weak {B : Nat} {ops : Array Oper} {M L : List Nat} {ts1 ts2 : List AV} {H2 : AH} {Q : Post} (hw : ∀ μ w, Sat μ H1 w → B ≤ H1.next → ∃ μ', Sat μ' H2 w ∧ Fw B μ H1 μ' H2 w w ∧ ∀ t x, VRel μ (ts1.getD t .any) x → VRel μ' (ts2.getD t .any) x) (hl : ts2.length = ts1.length)
    (h : DA P B ops M L ts2 H2 Q) : DA P B ops M L ts1 H1 Q := fun n Lc μ w a hn d => by
  obtain ⟨μ', s', f, r⟩ := hw μ w d.sat d.nx
  have := h n Lc μ' w a hn ⟨d.size, d.closed, d.sub, d.pend, hl.trans d.len, fun t ht => r t _ (d.rel t ht), s', f.nx⟩
  exact wpAny_mono (fun e a w hq => Lift.trans f hq) n Lc a w this
theorem DA.perm {B : Nat} {ops : Array Oper} {M L L' : List Nat} {ts : List AV} {Q : Post} (hp : ∀ j, j ∈ L ↔ j ∈ L') (h : DA P B ops M L ts H Q) : DA P B ops M L' ts H Q := fun n Lc μ w a hn d =>
  h n Lc μ w a hn ⟨d.size, d.closed, fun j hj => (hp j).2 (d.sub j hj), fun j hj hl => d.pend j ((hp j).1 hj) hl, d.len, d.rel, d.sat, d.nx⟩
theorem besides_comm (ops : Array Oper) (M : List Nat) (i j : Nat) : besides ops (besides ops M i) j = besides ops (besides ops M j) i := by
  unfold besides
  rw [List.filter_filter, List.filter_filter]
  congr 1
  funext x
  exact Bool.and_comm _ _
/-- A block's pointer, whatever its number. -/
def MkOK (mk : Nat → AV) : Prop := ∀ (μ μ' : Mu) (x : Value) (n n' : Nat), VRel μ (mk n) x → μ' n' = μ n → VRel μ' (mk n') x
theorem mk_sl (l k : Nat) : MkOK (fun n => .sl n 0 0 l k true) := fun μ μ' x n n' h e => by
  obtain ⟨l0, A, c', r1, r2⟩ := h
  exact ⟨l0, A, c', e.trans r1, r2⟩
theorem mk_ptr : MkOK (fun n => .ptr n 0 0) := fun μ μ' x n n' h e => by
  obtain ⟨l0, r1, r2⟩ := h
  exact ⟨l0, e.trans r1, r2⟩
/-- An operation that makes a block. -/
structure ADF (P : Program) (n : Nat) (ops : Array Oper) (a d : Nat) (b : ABlk) (mk : Nat → AV) : Prop where
  hd : dstOf ops a = some d
  lt : d < n
  own : b.own = true
  ok : MkOK mk
  step : ∃ oa, ops[a]? = some oa ∧ ∀ us G, stepV P ops 0 oa us G = some (mk G.next, G.push b, true)
/-- A makeSlice of known length, an alloc: its block, and what points to it. -/
def allocS (c : COp) : Option (ABlk × (Nat → AV)) :=
  match c with
  | .mks es bytes z (.v (.int _ l)) (.v (.int _ c)) => bif decide (0 ≤ l) && decide (l ≤ c) && decide (bytes * c ≤ 281474976710656) && decide (c ≤ 9223372036854775807) then some (⟨true, es, AC.zeros es z c.toNat⟩, fun n => .sl n 0 0 l.toNat c.toNat true) else none
  | .alloc z => some (⟨true, z.length, .cells z⟩, fun n => .ptr n 0 0)
  | _ => none
theorem allocS_ok {c : COp} {b : ABlk} {mk : Nat → AV} (h : allocS c = some (b, mk)) : b.own = true ∧ MkOK mk ∧ ∀ us H m, cstep (CX.ev us) H (c.hint m) = some (mk H.next, H.push b, true) := by
  unfold allocS at h
  split at h
  · rename_i es bytes z q1 l0 q2 c0
    rcases hb : (decide (0 ≤ l0) && decide (l0 ≤ c0) && decide (bytes * c0 ≤ 281474976710656) && decide (c0 ≤ 9223372036854775807)) with _ | _
    · rw [hb] at h; cases h
    · rw [hb] at h
      cases h
      refine ⟨rfl, mk_sl _ _, fun us H m => ?_⟩
      show cstep (CX.ev us) H (.mks es bytes z (.v (.int q1 l0)) (.v (.int q2 c0))) = _
      simp only [cstep, CX.ev]
      rw [hb]
  · cases h
    exact ⟨rfl, mk_ptr, fun us H m => rfl⟩
  · cases h
/-- Two may come next, of which one makes a row: either way the same. -/
theorem DA.two {B n : Nat} {ops : Array Oper} {M L : List Nat} {ts : List AV} {Q : Post} {c a : Nat} {mk : Nat → AV} {dc da : Nat} (hbk : backB ops = true) (hr : readyAbs ops L = [c, a] ∨ readyAbs ops L = [a, c]) (hrc : readyAbs ops (c :: L) = [a]) (hra : readyAbs ops (a :: L) = [c])
    (hdc : dstOf ops c = some dc) (hne : dc ≠ da) (hn : ts.length = n) (hlc : dc < n) (A : ADF P n ops a da blk mk) (hv : ValidL P ops M ts H M) (hfree : H.get H.next = none)
    (hvA : ValidL P ops (besides ops M a) (putT ts (some da) (mk H.next)) (H.push blk) (besides ops M a))
    (hc : OpJ P B ops (fun _ _ _ => False) c (putT (scrub ops (besides ops M c) ts) (some da) .any) H.keep (fun v H' => H'.get H.next = none ∧ ValidL P ops (besides ops M c) (putT ts (some dc) v) H' (besides ops M c) ∧
      DA P B ops (besides ops (besides ops M c) a) (a :: c :: L) (putT (putT ts (some dc) v) (some da) (mk H'.next)) (H'.push blk) Q)) : DA P B ops M L ts H Q := by
  have hown := A.own
  have hda := A.hd
  have hla := A.lt
  obtain ⟨oa, hoa, stepA⟩ := A.step
  have less : ∀ (js : List Nat) (us : List AV), us.length = ts.length → (∀ t, t ≠ da → us.getD t .any = ts.getD t .any) → (∀ i, i ∈ js → i ∈ besides ops M c) → ∀ μ tmps, Rel μ (scrub ops js us) tmps → Rel μ (putT (scrub ops (besides ops M c) ts) (some da) .any) tmps := by
    intro js us hlen hsame hsub μ tmps r
    refine Rel.of_get ?_ (fun t => ?_)
    · have h1 : (scrub ops js us).length = tmps.size := by have := r.len; simpa using this
      rw [putT_len, scrub_len, ← h1, scrub_len, hlen]
    · rw [putT_get]
      by_cases e : some da = some t ∧ t < (scrub ops (besides ops M c) ts).length
      · rw [if_pos e]; simp [VRel]
      · rw [if_neg e]
        have hr := r.get t
        by_cases e2 : ∃ j ∈ besides ops M c, dstOf ops j = some t
        · rw [scrub_any _ _ _ _ e2]; simp [VRel]
        · have e3 : ∀ j ∈ besides ops M c, dstOf ops j ≠ some t := fun j hj hd => e2 ⟨j, hj, hd⟩
          rw [scrub_same _ _ _ _ e3]
          rw [scrub_same _ _ _ _ (fun j hj => e3 j (hsub j hj))] at hr
          by_cases et : t = da
          · subst et
            have : ts.getD t .any = .any := by
              rw [List.getD_eq_getElem?_getD, List.getElem?_eq_none]
              · rfl
              · rw [scrub_len] at e
                rcases Nat.lt_or_ge t ts.length with h | h
                · exact absurd ⟨rfl, h⟩ e
                · exact h
            rw [this]; simp [VRel]
          · rw [hsame t et] at hr
            exact hr
  have brC : OpJ P B ops Q c (scrub ops (besides ops M c) ts) H (fun v H' => DA P B ops (besides ops M c) (c :: L) (putT ts (dstOf ops c) v) H' Q) := by
    refine OpJ.slots (less _ ts rfl (fun _ _ => rfl) (fun _ h => h)) (fun x H1 q => q.elim) (OpJ.keep (OpJ.monoK hc (fun v H' q => ?_)))
    obtain ⟨_, q2, q3⟩ := q
    rw [hdc]
    refine DA.exec [a] ⟨hrc, rfl, hbk⟩ q2 ⟨?_, trivial⟩
    refine OpJ.step 0 hoa (stepA _ _) ?_
    rw [hda]
    exact q3
  have brA : OpJ P B ops Q a (scrub ops (besides ops M a) ts) H (fun v H' => DA P B ops (besides ops M a) (a :: L) (putT ts (dstOf ops a) v) H' Q) := by
    refine OpJ.step 0 hoa (stepA _ _) ?_
    rw [hda]
    refine DA.exec [c] ⟨hra, rfl, hbk⟩ hvA ⟨?_, trivial⟩
    have hf := OpJ.frame (H := H.keep) (nx := H.next) (blk := blk) (Nat.lt_succ_self _) (show H.keep.get H.next = none from hfree) hown hc
    have e : H.keep.set H.next blk = H.push blk := rfl
    rw [e] at hf
    refine OpJ.slots (less _ _ (by rw [putT_len]) (fun t ht => by
      rw [putT_get, if_neg]
      rintro ⟨q, _⟩
      cases q
      exact ht rfl) (fun i hi => by
        rw [besides_comm] at hi
        exact (List.mem_filter.1 hi).1)) (fun x H1 ⟨_, q, _⟩ => q.elim) (OpJ.monoK hf (fun v H2 q => ?_))
    obtain ⟨H', ⟨q1, q2, q3⟩, rfl⟩ := q
    rw [hdc, besides_comm]
    refine DA.perm (L := a :: c :: L) (fun j => by simp only [List.mem_cons]; exact ⟨fun h => by rcases h with h | h | h; exact .inr (.inl h); exact .inl h; exact .inr (.inr h), fun h => by rcases h with h | h | h; exact .inr (.inl h); exact .inl h; exact .inr (.inr h)⟩) ?_
    refine DA.weak (fun μ w s hB => ?_) (by simp [putT_len]) q3
    have hnx : (H'.set H.next blk).get H.next = some blk := by rw [AH.get_set, if_pos rfl]
    obtain ⟨l0, hl0, hb0⟩ := s.blk H.next blk hnx
    have hlt : H.next < H'.next := by
      rcases Nat.lt_or_ge H.next H'.next with h | h
      · exact h
      · have := s.fresh H.next h
        rw [hl0] at this; cases this
    have hnone : μ H'.next = none := s.fresh H'.next (Nat.le_refl _)
    have hle := Mu.add_le hnone l0
    have hnxne : ∀ b x, H'.get b = some x → b ≠ H.next := fun b x h e => by subst e; rw [q1] at h; cases h
    have up : ∀ b x, H'.get b = some x → (H'.set H.next blk).get b = some x := fun b x h => by rw [AH.get_set, if_neg (hnxne b x h)]; exact h
    have old : ∀ b, b ≠ H'.next → (μ.add H'.next l0) b = μ b := fun b hb => by unfold Mu.add; rw [if_neg hb]
    have new : (μ.add H'.next l0) H'.next = some l0 := by unfold Mu.add; rw [if_pos rfl]
    have nlt : ∀ b x, H'.get b = some x → b ≠ H'.next := fun b x h e => by
      obtain ⟨l1, g1, _⟩ := s.blk b x (up b x h)
      rw [e, hnone] at g1; cases g1
    refine ⟨μ.add H'.next l0, ⟨fun b hb => ?_, fun b x hx => ?_, fun b b' x x' l1 l2 h1 h2 hbb ho g1 g2 => ?_⟩, ⟨fun b hb => old b (by have : B ≤ H'.next := hB; omega), Nat.le_succ_of_le hB, rfl, rfl, rfl, Nat.le_refl _, fun _ _ _ => rfl, fun b x l1 h1 h2 => ?_⟩, fun t x hx => ?_⟩
    · have hb' : H'.next + 1 ≤ b := hb
      rw [old b (by omega)]
      exact s.fresh b (by show H'.next ≤ b; omega)
    · rw [AH.get_push] at hx
      by_cases e : b = H'.next
      · rw [if_pos e] at hx
        cases hx
        exact ⟨l0, by rw [e]; exact new, hb0.move hle rfl⟩
      · rw [if_neg e] at hx
        obtain ⟨l1, g1, g2⟩ := s.blk b x (up b x hx)
        exact ⟨l1, by rw [old b e]; exact g1, g2.move hle rfl⟩
    · rw [AH.get_push] at h1 h2
      by_cases e : b = H'.next
      · subst e
        rw [new] at g1
        cases g1
        rw [if_neg (Ne.symm hbb)] at h2
        rw [old b' (Ne.symm hbb)] at g2
        exact s.sep H.next b' blk x' l0 l2 hnx (up b' x' h2) (Ne.symm (hnxne b' x' h2)) hown hl0 g2
      · rw [if_neg e] at h1
        rw [old b e] at g1
        by_cases e' : b' = H'.next
        · subst e'
          rw [new] at g2
          cases g2
          exact s.sep b H.next x blk l1 l0 (up b x h1) hnx (hnxne b x h1) ho g1 hl0
        · rw [if_neg e'] at h2
          rw [old b' e'] at g2
          exact s.sep b b' x x' l1 l2 (up b x h1) (up b' x' h2) hbb ho g1 g2
    · rw [AH.get_push] at h1
      by_cases e : b = H'.next
      · subst e
        rw [if_pos rfl] at h1
        cases h1
        rw [new] at h2
        cases h2
        exact .inr ⟨H.next, blk, l0, hnx, hl0, rfl, id⟩
      · rw [if_neg e] at h1
        rw [old b e] at h2
        exact .inr ⟨b, x, l1, up b x h1, h2, rfl, id⟩
    · have g : ∀ (u : AV), (putT (putT ts (some dc) v) (some da) u).getD t .any = if t = da then u else if t = dc then v else ts.getD t .any := by
        intro u
        rw [putT_get, putT_get, putT_len]
        by_cases e : t = da
        · subst e
          rw [if_pos ⟨rfl, by omega⟩, if_pos rfl]
        · rw [if_neg (fun q => e (by cases q.1; rfl)), if_neg e]
          by_cases e' : t = dc
          · subst e'
            rw [if_pos ⟨rfl, by omega⟩, if_pos rfl]
          · rw [if_neg (fun q => e' (by cases q.1; rfl)), if_neg e']
      have g2 : ∀ (u : AV), (putT (putT ts (some da) u) (some dc) v).getD t .any = if t = da then u else if t = dc then v else ts.getD t .any := by
        intro u
        rw [putT_get, putT_get, putT_len]
        by_cases e : t = dc
        · subst e
          rw [if_pos ⟨rfl, by omega⟩, if_neg hne, if_pos rfl]
        · rw [if_neg (fun q => e (by cases q.1; rfl))]
          by_cases e' : t = da
          · subst e'
            rw [if_pos ⟨rfl, by omega⟩, if_pos rfl]
          · rw [if_neg (fun q => e' (by cases q.1; rfl)), if_neg e', if_neg e]
      rw [g2] at hx
      rw [g]
      by_cases e : t = da
      · rw [if_pos e] at hx ⊢
        exact A.ok μ _ x H.next _ hx (new.trans hl0.symm)
      · rw [if_neg e] at hx ⊢
        exact VRel.ext hle _ _ hx
  rcases hr with hr | hr
  · exact DA.exec [c, a] ⟨hr, rfl, hbk⟩ hv ⟨brC, brA, trivial⟩
  · exact DA.exec [a, c] ⟨hr, rfl, hbk⟩ hv ⟨brA, brC, trivial⟩
end
end
end Go.Eng
