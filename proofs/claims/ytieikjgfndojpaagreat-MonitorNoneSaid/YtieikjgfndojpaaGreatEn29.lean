/- The engine, thirty-eighth part, ahead: operations compiled, the program laid in once. -/
import Derived.Test.YtieikjgfndojpaaGreatEn28
namespace Go.Eng
open Go Go.RowKit
set_option linter.unusedVariables false
set_option linter.unusedSimpArgs false
noncomputable section
/-- A function in a box. -/
inductive BX (α β : Type) where
  | mk (f : α → β)
def BX.go {α β : Type} (b : BX α β) (a : α) : β := @BX.rec α β (fun _ => β) (fun f => f a) b
def compPB (P : Program) : BX Oper (Option PO) := ⟨fun o =>
  match o.op with
  | .binOp op t x y _ => bif isEqT P t then match opd x, opd y, esOf P 8 t with
      | some cx, some cy, some s => match op with
        | .eql => some (.eqt false s cx cy)
        | .neq => some (.eqt true s cx cy)
        | .add => match P.underlying t with
          | some .string => some (.cat cx cy)
          | _ => none
        | _ => none
      | _, _, _ => none else none
  | .typeAssert x _ u ok => match P.underlying u, opd x, zeroAV P u with
    | some (.interface _), _, _ => none
    | some _, some cx, some z => some (.tas u z ok cx)
    | _, _, _ => none
  | .convert src dst x => match P.underlying src, P.underlying dst, opd x with
    | some (.slice e), some .string, some cx => match P.underlying e with
      | some (.int .u8) => some (.b2s cx)
      | _ => none
    | some (.pointer t), some .unsafePointer, some cx => match P.info? t with
      | some i => bif Nat.beq i.size 0 then none else some (.p2u cx)
      | none => none
    | _, _, _ => none
  | .call c => match c.callee, c.args.toList, c.argTypes.toList with
    | .builtin .cap, [x], [t] => match P.underlying t, opd x with
      | some (.slice _), some x => some (.capn x)
      | _, _ => none
    | _, _, _ => none
  | _ => none⟩
theorem compPB_eq (P : Program) (o : Oper) : (compPB P).go o = compP P o := rfl
def compMB (P : Program) : BX Oper (Option MO) := ⟨fun o =>
  match o.op with
  | .makeMap _ none => some .mk
  | .lookup t x i ok => match P.underlying t with
    | some (.map kt vt) => match keyES P kt, zeroAV P vt, opd x, opd i with
      | some s, some z, some x, some i => some (.lk s z ok x i)
      | _, _, _, _ => none
    | _ => none
  | .mapUpdate t m k x | .insert t m k x => match P.underlying t with
    | some (.map kt _) => match keyES P kt, opd m, opd k, opd x with
      | some s, some m, some k, some x => some (.up s m k x)
      | _, _, _, _ => none
    | _ => none
  | .call c => match c.callee, c.args.toList, c.argTypes.toList with
    | .builtin .delete, [m, k], [t, _] => match P.underlying t with
      | some (.map kt _) => match keyES P kt, opd m, opd k with
        | some s, some m, some k => some (.dl s m k)
        | _, _, _ => none
      | _ => none
    | .builtin .len, [x], [t] => match P.underlying t, opd x with
      | some (.map _ _), some x => some (.ln x)
      | _, _ => none
    | .builtin .clear, [x], [t] => match P.underlying t with
      | some (.map _ _) => match opd x with
        | some x => some (.clm x)
        | none => none
      | some (.slice e) => match P.info? e, zeroOf P e, opd x with
        | some i, some z, some x => bif decide (z.length = i.size) && !Nat.beq i.size 0 then some (.clr i.size z x) else none
        | _, _, _ => none
      | _ => none
    | _, _, _ => none
  | _ => none⟩
theorem compMB_eq (P : Program) (o : Oper) : (compMB P).go o = compM P o := rfl
def compXB (P : Program) : BX Oper (Option XO) := ⟨fun o =>
  match o.op with
  | .call c => match c.callee with
    | .value (.func f) => match extOf P f with
      | some k => match opds c.args.toList with
        | some as => some ⟨k, as⟩
        | none => none
      | none => none
    | _ => none
  | _ => none⟩
theorem compXB_eq (P : Program) (o : Oper) : (compXB P).go o = compX P o := rfl
def compB (P : Program) : BX Oper (Option COp) := ⟨fun o =>
  match (compPB P).go o with
  | some p => some (.pl p)
  | none =>
  match (compMB P).go o with
  | some p => some (.mo p)
  | none =>
  match (compXB P).go o with
  | some p => some (.xo p)
  | none =>
  match o.op with
  | .move x | .assign x => (opd x).map .mv
  | .pick c a b => match opd c, opd a, opd b with
    | some c, some a, some b => some (.pick c a b)
    | _, _, _ => none
  | .box _ x => (opd x).map .box
  | .alloc e => (zeroOf P e).map .alloc
  | .build t ps => match zeroOf P t, P.underlying t with
    | some z, some (.struct fs) => bif fs.toList.all (fun f => (P.info? f.type).isSome) then (partsOf (fieldsAt P fs) ps.toList).map (.build z) else none
    | some z, some (.array _ e) => match szOf P e with
      | some es => (partsOf (fun i => some (i * es, es)) ps.toList).map (.build z)
      | none => none
    | _, _ => none
  | .buildSlice t len ps => match P.underlying t with
    | some (.slice e) => match szOf P e, zeroOf P e with
      | some es, some z => bif decide (z.length = es) && decide (len * es ≤ 16777216) && !Nat.beq es 0 then (partsOf (fun i => some (i * es, es)) ps.toList).map (.buildS es len z) else none
      | _, _ => none
    | _ => none
  | .load t x => match aggSz P t, opd x with
    | some sz, some x => some (.load sz x)
    | _, _ => none
  | .store t x v => match szOf P t, opd x, opd v with
    | some sz, some x, some v => some (.store sz x v)
    | _, _, _ => none
  | .nilCheck x => (opd x).map .nilc
  | .binOp op t x y _ => match opd x, opd y with
    | some cx, some cy => match ekOf P t x y with
      | some q => match op with
        | .eql => some (.eq false q cx cy)
        | .neq => some (.eq true q cx cy)
        | _ => none
      | none => some (.bin op cx cy)
    | _, _ => none
  | .unOp op _ x => (opd x).map (.un op)
  | .convert src dst x => match P.underlying src, P.underlying dst, opd x with
    | some (.int _), some (.int k), some x => some (.conv k x)
    | _, _, _ => none
  | .sliceToArrayPointer t x => match P.underlying t, opd x with
    | some (.array n _), some x => bif Nat.beq n 0 then none else some (.s2a n x)
    | _, _ => none
  | .makeInterface t x => match P.underlying t, opd x with
    | some (.interface _), _ => none
    | some _, some x => some (.mki t x)
    | _, _ => none
  | .makeFunc f first cap => match opds first.toList, opds cap.toList with
    | some a, some b => some (.mkf f a b)
    | _, _ => none
  | .makeSlice t l c => match P.underlying t with
    | some (.slice e) => match P.info? e, zeroOf P e, opd l, opd c with
      | some i, some z, some l, some c => bif decide (z.length = i.size) && !Nat.beq i.size 0 then some (.mks i.size i.bytes z l c) else none
      | _, _, _, _ => none
    | _ => none
  | .slice t x lo hi mx => match P.underlying t with
    | some (.slice e) => match szOf P e, opd x, optd lo, optd hi, optd mx with
      | some es, some x, some lo, some hi, some mx => some (.sli es x lo hi mx)
      | _, _, _, _, _ => none
    | some (.array n e) => match szOf P e, opd x, optd lo, optd hi, mx with
      | some es, some x, some lo, some hi, none => some (.sla n es x lo hi)
      | _, _, _, _, _ => none
    | _ => none
  | .fieldAddr t x f => match P.underlying t with
    | some (.struct fs) => match fieldsAt P fs f, opd x with
      | some (off, sz), some x => bif Nat.beq sz 0 then none else some (.fa off x)
      | _, _ => none
    | _ => none
  | .field t x f => match P.underlying t with
    | some (.struct fs) => match fs[f]?, opd x with
      | some q, some x => (aggSz P q.type).map fun sz => .fld q.offset sz x
      | _, _ => none
    | _ => none
  | .indexAddr t x i => match P.underlying t, opd x, opd i with
    | some (.slice e), some x, some i => (szOf P e).map fun es => .ias es x i
    | some (.array n e), some x, some i => (szOf P e).map fun es => .iaa n es x i
    | _, _, _ => none
  | .index t x i => match P.underlying t, opd x, opd i with
    | some (.array n e), some x, some i => match szOf P e, aggSz P e with
      | some es, some sz => some (.ixa n es sz x i)
      | _, _ => none
    | some .string, some x, some i => some (.ixs x i)
    | _, _, _ => none
  | .extract x i => (opd x).map (.ext i)
  | .call c => match c.callee, c.args.toList, c.argTypes.toList with
    | .builtin .len, [x], [t] => match P.underlying t, opd x with
      | some (.slice _), some x => some (.lens x)
      | some .string, some x => some (.lenb x)
      | some (.array n _), _ => some (.lenn n)
      | _, _ => none
    | .builtin .append, [x, y], [t, u] => match P.underlying t, P.underlying u with
      | some (.slice e), some (.slice _) => match P.info? e, zeroOf P e, opd x, opd y with
        | some i, some z, some x, some y => bif decide (z.length = i.size) && !Nat.beq i.size 0 then some (.app 0 i.size i.bytes z x y) else none
        | _, _, _, _ => none
      | _, _ => none
    | .builtin .copy, [x, y], [t, _] => match P.underlying t with
      | some (.slice e) => match szOf P e, opd x, opd y with
        | some 1, some x, some y => some (.cop 0 x y)
        | _, _, _ => none
      | _ => none
    | .builtin .min, [x, y], _ => match opd x, opd y with
      | some x, some y => some (.mm false x y)
      | _, _ => none
    | .builtin .max, [x, y], _ => match opd x, opd y with
      | some x, some y => some (.mm true x y)
      | _, _ => none
    | _, _, _ => none
  | _ => none⟩
theorem compB_eq (P : Program) (o : Oper) : (compB P).go o = comp P o := rfl
end
end Go.Eng
