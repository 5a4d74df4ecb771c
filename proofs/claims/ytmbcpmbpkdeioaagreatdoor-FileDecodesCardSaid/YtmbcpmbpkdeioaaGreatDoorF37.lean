/- A guest read: what is reckoned, and the loops' states. No condition. -/
import Derived.Test.YtmbcpmbpkdeioaaGreatDoorF36
import Derived.Test.YtmbcpmbpkdeioaaGreatDoorEn26
import Derived.KernelRfl
import Derived.Test.YtmbcpmbpkdeioaaGreatDoorEn27
namespace Go.Proofs.YtmbcpmbpkdeioaaGreatDoor.W
open Go Go.RowKit Go.Eng
set_option maxRecDepth 100000
set_option linter.unusedVariables false
set_option linter.unusedSimpArgs false
/-- What is read, and the place behind it; or why it is not. -/
inductive PR (α : Type) where
  | ok (a : α) (o : Nat)
  | no (e : Int)
def PR.bind {α β : Type} : PR α → (α → Nat → PR β) → PR β
  | .ok a o, f => f a o
  | .no e, _ => .no e
def PR.isOk {α : Type} : PR α → Bool
  | .ok _ _ => true
  | .no _ => false
def PR.val {α : Type} (d : α) : PR α → α
  | .ok a _ => a
  | .no _ => d
def PR.at_ {α : Type} : PR α → Nat
  | .ok _ o => o
  | .no _ => 0
def PR.err {α : Type} : PR α → Int
  | .ok _ _ => 0
  | .no e => e
def upP (bs : List Int) (most : Int) (o : Nat) : PR Int := match upN bs o most with
  | .ok n o => .ok n o
  | .no e => .no e
def cntP (bs : List Int) (most : Int) (o : Nat) : PR Int := match cntN bs o most with
  | .ok n o => .ok n o
  | .no e => .no e
def rowP (bs : List Int) (most : Int) (o : Nat) : PR (List Int) := match rowN (bs.drop o) most with
  | .ok u n => .ok ((bs.drop (o + u)).take n) (o + (u + n))
  | .no e => .no e
theorem upP_ok {bs : List Int} {most : Int} {o : Nat} {n : Int} {o' : Nat} (h : upN bs o most = .ok n o') : upP bs most o = .ok n o' := by unfold upP; rw [h]
theorem upP_no {bs : List Int} {most : Int} {o : Nat} {e : Int} (h : upN bs o most = .no e) : upP bs most o = .no e := by unfold upP; rw [h]
/-- One after the other. -/
def numsP (bs : List Int) : Nat → Nat → PR (List Int)
  | 0, o => .ok [] o
  | k + 1, o => (upP bs 4294967295 o).bind fun n o => (numsP bs k o).bind fun l o => .ok (n :: l) o
structure UpE where
  n : Int
  o : Nat
  e : Int
def numS (f : FuncId) (most : Int) (k : IntKind) : Con At UpE where
  f := f
  fit vs H := match vs with
    | [.ptr b _ _] => rdFit b H
    | _ => none
  n0 := 2
  pre x := x.o ≤ x.bs.length ∧ x.bs.length ≤ 140737488355328
  args x := [.ptr 0 0 0]
  L0 x := rdL x.bs x.o
  outs x := [(fun y => upP x.bs most x.o = .ok y.n y.o ∧ y.o ≤ x.bs.length ∧ 0 ≤ y.n ∧ y.n ≤ most, fun y => (.ret (.int k y.n), 2, rdL x.bs y.o)),
    (fun y => upP x.bs most x.o = .no y.e, fun y => (.panic (wrongAV y.e), 2, []))]
theorem numS_of {P : Program} {f : FuncId} {most : Int} {k : IntKind} (h : (numC f most k).OK P) : (numS f most k).OK P := by
  refine h.to id rfl (fun x hx => hx) (fun x => rfl) (fun x => rfl) (fun x hx out H q => ?_)
  rcases q with ⟨y, ⟨h1, h2⟩, rfl, rfl⟩ | ⟨y, h1, rfl, rfl⟩ | ⟨y, h1, rfl, rfl⟩ | q
  · exact .inl ⟨⟨y.n, y.o, 0⟩, ⟨upP_ok h1, h2⟩, rfl, rfl⟩
  · exact .inr (.inl ⟨⟨0, 0, 290⟩, upP_no h1, rfl, rfl⟩)
  · exact .inr (.inl ⟨⟨0, 0, 291⟩, upP_no h1, rfl, rfl⟩)
  · exact q.elim
def upToS : Con UpX UpE where
  f := F_file_reader_upTo
  fit vs H := match vs with
    | [.ptr b _ _, .int _ most] => (rdFit b H).map fun r => (r.1, ⟨r.2.bs, r.2.o, most⟩)
    | _ => none
  n0 := 2
  pre x := x.o ≤ x.bs.length ∧ x.bs.length ≤ 140737488355328
  args x := [.ptr 0 0 0, .int .u64 x.most]
  L0 x := rdL x.bs x.o
  outs x := [(fun y => upP x.bs x.most x.o = .ok y.n y.o ∧ y.o ≤ x.bs.length ∧ 0 ≤ y.n ∧ y.n ≤ x.most, fun y => (.ret (.int .u64 y.n), 2, rdL x.bs y.o)),
    (fun y => upP x.bs x.most x.o = .no y.e, fun y => (.panic (wrongAV y.e), 2, []))]
theorem upToS_ok {P : Program} (h : upToC.OK P) : upToS.OK P := by
  refine h.to id rfl (fun x hx => hx) (fun x => rfl) (fun x => rfl) (fun x hx out H q => ?_)
  rcases q with ⟨y, ⟨h1, h2⟩, rfl, rfl⟩ | ⟨y, h1, rfl, rfl⟩ | ⟨y, h1, rfl, rfl⟩ | q
  · exact .inl ⟨⟨y.n, y.o, 0⟩, ⟨upP_ok h1, h2⟩, rfl, rfl⟩
  · exact .inr (.inl ⟨⟨0, 0, 290⟩, upP_no h1, rfl, rfl⟩)
  · exact .inr (.inl ⟨⟨0, 0, 291⟩, upP_no h1, rfl, rfl⟩)
  · exact q.elim
def countS : Con UpX UpE where
  f := F_file_reader_count
  fit vs H := match vs with
    | [.ptr b _ _, .int _ most] => (rdFit b H).map fun r => (r.1, ⟨r.2.bs, r.2.o, most⟩)
    | _ => none
  n0 := 2
  pre x := x.o ≤ x.bs.length ∧ x.bs.length ≤ 140737488355328
  args x := [.ptr 0 0 0, .int .i64 x.most]
  L0 x := rdL x.bs x.o
  outs x := [(fun y => cntP x.bs x.most x.o = .ok y.n y.o ∧ y.o ≤ x.bs.length ∧ 0 ≤ y.n ∧ y.n ≤ x.most, fun y => (.ret (.int .i64 y.n), 2, rdL x.bs y.o)),
    (fun y => cntP x.bs x.most x.o = .no y.e, fun y => (.panic (wrongAV y.e), 2, []))]
theorem countS_of {P : Program} (h : countC.OK P) : countS.OK P := by
  refine h.to id rfl (fun x hx => hx) (fun x => rfl) (fun x => rfl) (fun x hx out H q => ?_)
  have a : ∀ {n o}, cntN x.bs x.o x.most = .ok n o → cntP x.bs x.most x.o = .ok n o := fun h => by unfold cntP; rw [h]
  have b : ∀ {e}, cntN x.bs x.o x.most = .no e → cntP x.bs x.most x.o = .no e := fun h => by unfold cntP; rw [h]
  rcases q with ⟨y, ⟨h1, h2⟩, rfl, rfl⟩ | ⟨y, h1, rfl, rfl⟩ | ⟨y, h1, rfl, rfl⟩ | ⟨y, h1, rfl, rfl⟩ | q
  · exact .inl ⟨⟨y.n, y.o, 0⟩, ⟨a h1, h2⟩, rfl, rfl⟩
  · exact .inr (.inl ⟨⟨0, 0, 290⟩, b h1, rfl, rfl⟩)
  · exact .inr (.inl ⟨⟨0, 0, 291⟩, b h1, rfl, rfl⟩)
  · exact .inr (.inl ⟨⟨0, 0, 3⟩, b h1, rfl, rfl⟩)
  · exact q.elim
structure RwE where
  l : List Int
  o : Nat
  e : Int
def rdRowS : Con UpX RwE where
  f := F_file_reader_row
  fit vs H := match vs with
    | [.ptr b _ _, .int _ most] => (rdFit b H).map fun r => (r.1, ⟨r.2.bs, r.2.o, most⟩)
    | _ => none
  n0 := 2
  pre x := x.o ≤ x.bs.length ∧ x.bs.length ≤ 140737488355328
  args x := [.ptr 0 0 0, .int .i64 x.most]
  L0 x := rdL x.bs x.o
  outs x := [(fun y => rowP x.bs x.most x.o = .ok y.l y.o ∧ y.o ≤ x.bs.length, fun y => (.ret (.sl 2 0 0 y.l.length y.l.length false), 3, [(0, ⟨true, 1, .cells [Rest x.bs y.o 1]⟩), (1, ⟨true, 1, .ints .u8 x.bs⟩), (2, ⟨true, 1, .ints .u8 y.l⟩)])),
    (fun y => rowP x.bs x.most x.o = .no y.e, fun y => (.panic (wrongAV y.e), 3, []))]
theorem rdRowS_of {P : Program} (h : rdRowC.OK P) : rdRowS.OK P := by
  refine h.to id rfl (fun x hx => hx) (fun x => rfl) (fun x => rfl) (fun x hx out H q => ?_)
  obtain ⟨p1, p2⟩ := hx
  have b : ∀ {e}, rowN (x.bs.drop x.o) x.most = .no e → rowP x.bs x.most x.o = .no e := fun h => by unfold rowP; rw [h]
  rcases q with ⟨y, h1, rfl, rfl⟩ | ⟨y, h1, rfl, rfl⟩ | ⟨y, h1, rfl, rfl⟩ | ⟨y, h1, rfl, rfl⟩ | q
  · have h1 : rowN (x.bs.drop x.o) x.most = .ok y.u y.n := h1
    have hl := rowN_ok (by simp; omega) h1
    simp only [List.length_drop] at hl
    have he : ((x.bs.drop (x.o + y.u)).take y.n).length = y.n := by simp; omega
    refine .inl ⟨⟨(x.bs.drop (x.o + y.u)).take y.n, x.o + (y.u + y.n), 0⟩, ⟨by unfold rowP; rw [h1], by show x.o + (y.u + y.n) ≤ x.bs.length; omega⟩, ?_, rfl⟩
    show AOut.ret (.sl 2 0 0 y.n y.n false) = _
    simp only [he]
  · exact .inr (.inl ⟨⟨[], 0, 290⟩, b h1, rfl, rfl⟩)
  · exact .inr (.inl ⟨⟨[], 0, 291⟩, b h1, rfl, rfl⟩)
  · exact .inr (.inl ⟨⟨[], 0, 3⟩, b h1, rfl, rfl⟩)
  · exact q.elim
/-! ### a state -/
def stL (l : List Int) (h : Int) : St := ⟨l.getD 0 0, l.getD 1 0, l.getD 2 0, l.getD 3 0, l.getD 4 0, l.getD 5 0, l.getD 6 0, l.getD 7 0, l.getD 8 0, l.getD 9 0, l.getD 10 0, l.getD 11 0, l.getD 12 0, l.getD 13 0, l.getD 14 0, l.getD 15 0, l.getD 16 0, l.getD 17 0, h == 1⟩
def stP (bs : List Int) (o : Nat) : PR St := (numsP bs 18 o).bind fun l o => (upP bs 1 o).bind fun h o => .ok (stL l h) o
instance : Inhabited St := ⟨stL [] 0⟩
structure StE where
  s : St
  o : Nat
  e : Int
def rdStC : Con At StE where
  f := F_file_reader_state
  fit vs H := match vs with
    | [.ptr b _ _] => rdFit b H
    | _ => none
  n0 := 2
  pre x := x.o ≤ x.bs.length ∧ x.bs.length ≤ 140737488355328
  args x := [.ptr 0 0 0]
  L0 x := rdL x.bs x.o
  outs x := [(fun y => stP x.bs x.o = .ok y.s y.o ∧ y.o ≤ x.bs.length, fun y => (.ret (.agg y.s.av), 4, rdL x.bs y.o)),
    (fun y => stP x.bs x.o = .no y.e, fun y => (.panic (wrongAV y.e), 4, []))]
/-! ### notes, events -/
structure N4 where
  a : Int
  c : Int
  b : Int
  d : Int
  deriving Inhabited
structure E3 where
  a : Int
  k : Int
  x : Int
  deriving Inhabited
def N4.av (n : N4) : List AV := [.int .i64 n.a, .int .i64 n.c, .int .u32 n.b, .int .u32 n.d]
def E3.av (n : E3) : List AV := [.int .i64 n.a, .int .i64 n.k, .int .u8 n.x]
def noteP (bs : List Int) (o : Nat) : PR N4 := (upP bs 1099511627776 o).bind fun a o => (upP bs 1099511627776 o).bind fun c o => (upP bs 4294967295 o).bind fun b o => (upP bs 4294967295 o).bind fun d o => .ok ⟨a, c, b, d⟩ o
def evP (bs : List Int) (o : Nat) : PR E3 := (upP bs 1099511627776 o).bind fun a o => (upP bs 1099511627776 o).bind fun k o => (upP bs 255 o).bind fun x o => .ok ⟨a, k, x⟩ o
def manyP {α : Type} (p : Nat → PR α) : Nat → Nat → PR (List α)
  | 0, o => .ok [] o
  | k + 1, o => (p o).bind fun n o => (manyP p k o).bind fun l o => .ok (n :: l) o
def PR.map {α β : Type} (f : α → β) : PR α → PR β
  | .ok a o => .ok (f a) o
  | .no e => .no e
structure NtI where
  bs : List Int
  o : Nat
  n : Nat
  k : Nat
  l : List N4
  s : Bool
def NtI.res (i : NtI) : PR (List N4) := (manyP (noteP i.bs) (i.n - i.k) i.o).map (i.l ++ ·)
def notesBlk (l : List N4) : ABlk := ⟨true, 4, .recs l.length (fun i => (l.getD i default).av)⟩
def rdNotesL (P : Program) : Lp NtI where
  B := 2
  n := ntmpsOf P F_file_reader_notes
  code := loopOf P F_file_reader_notes 0
  fit s H := match s.get 0, s.get 6 with
    | .ptr b _ _, .int _ n => (rdFit b H).map fun r => ⟨r.2.bs, r.2.o, n.toNat, 0, [], false⟩
    | _, _ => none
  pre i := i.o ≤ i.bs.length ∧ i.bs.length ≤ 140737488355328 ∧ i.n ≤ 100000 ∧ i.k ≤ i.n ∧ i.l.length = i.k ∧ (i.s = true → 1 ≤ i.k) ∧ (i.s = false → i.k = 0)
  slots i := [(0, .ptr 0 0 0), (3, bif i.s then .sl 2 0 0 i.l.length i.l.length false else .nils), (6, .int .i64 i.n), (7, .int .i64 i.k)]
  nx i := 3
  L i := bif i.s then [(0, ⟨true, 1, .cells [Rest i.bs i.o 1]⟩), (1, ⟨true, 1, .ints .u8 i.bs⟩), (2, notesBlk i.l)] else rdL i.bs i.o
  m i := i.n - i.k
  outs i := [(i.res.isOk && (i.res.val []).isEmpty, ⟨.exit 0, [(3, .nils)], 3, rdL i.bs i.res.at_⟩),
    (i.res.isOk, ⟨.exit 0, [(3, .sl 2 0 0 (i.res.val []).length (i.res.val []).length false)], 3, [(0, ⟨true, 1, .cells [Rest i.bs i.res.at_ 1]⟩), (1, ⟨true, 1, .ints .u8 i.bs⟩), (2, notesBlk (i.res.val []))]⟩),
    (true, ⟨.panic (wrongAV i.res.err), [], 3, []⟩)]
  sh j := { j with s := true }
def ntP (bs : List Int) (o : Nat) : PR (List N4) := (cntP bs 4096 o).bind fun n o => manyP (noteP bs) n.toNat o
structure NtE where
  l : List N4
  o : Nat
  e : Int
def rdNotesC : Con At NtE where
  f := F_file_reader_notes
  fit vs H := match vs with
    | [.ptr b _ _] => rdFit b H
    | _ => none
  n0 := 2
  pre x := x.o ≤ x.bs.length ∧ x.bs.length ≤ 140737488355328
  args x := [.ptr 0 0 0]
  L0 x := rdL x.bs x.o
  outs x := [(fun y => ntP x.bs x.o = .ok [] y.o ∧ y.o ≤ x.bs.length, fun y => (.ret .nils, 3, rdL x.bs y.o)),
    (fun y => ntP x.bs x.o = .ok y.l y.o ∧ y.o ≤ x.bs.length ∧ 0 < y.l.length ∧ y.l.length ≤ 4096, fun y => (.ret (.sl 2 0 0 y.l.length y.l.length false), 3, [(0, ⟨true, 1, .cells [Rest x.bs y.o 1]⟩), (1, ⟨true, 1, .ints .u8 x.bs⟩), (2, notesBlk y.l)])),
    (fun y => ntP x.bs x.o = .no y.e, fun y => (.panic (wrongAV y.e), 3, []))]
structure EvI where
  bs : List Int
  o : Nat
  n : Nat
  k : Nat
  l : List E3
  s : Bool
def EvI.res (i : EvI) : PR (List E3) := (manyP (evP i.bs) (i.n - i.k) i.o).map (i.l ++ ·)
def evsBlk (l : List E3) : ABlk := ⟨true, 3, .recs l.length (fun i => (l.getD i default).av)⟩
def rdEvsL (P : Program) : Lp EvI where
  B := 2
  n := ntmpsOf P F_file_reader_script
  code := loopOf P F_file_reader_script 0
  fit s H := match s.get 0, s.get 6 with
    | .ptr b _ _, .int _ n => (rdFit b H).map fun r => ⟨r.2.bs, r.2.o, n.toNat, 0, [], false⟩
    | _, _ => none
  pre i := i.o ≤ i.bs.length ∧ i.bs.length ≤ 140737488355328 ∧ i.n ≤ 100000 ∧ i.k ≤ i.n ∧ i.l.length = i.k ∧ (i.s = true → 1 ≤ i.k) ∧ (i.s = false → i.k = 0)
  slots i := [(0, .ptr 0 0 0), (3, bif i.s then .sl 2 0 0 i.l.length i.l.length false else .nils), (6, .int .i64 i.n), (7, .int .i64 i.k)]
  nx i := 3
  L i := bif i.s then [(0, ⟨true, 1, .cells [Rest i.bs i.o 1]⟩), (1, ⟨true, 1, .ints .u8 i.bs⟩), (2, evsBlk i.l)] else rdL i.bs i.o
  m i := i.n - i.k
  outs i := [(i.res.isOk && (i.res.val []).isEmpty, ⟨.exit 0, [(3, .nils)], 3, rdL i.bs i.res.at_⟩),
    (i.res.isOk, ⟨.exit 0, [(3, .sl 2 0 0 (i.res.val []).length (i.res.val []).length false)], 3, [(0, ⟨true, 1, .cells [Rest i.bs i.res.at_ 1]⟩), (1, ⟨true, 1, .ints .u8 i.bs⟩), (2, evsBlk (i.res.val []))]⟩),
    (true, ⟨.panic (wrongAV i.res.err), [], 3, []⟩)]
  sh j := { j with s := true }
def esP (bs : List Int) (o : Nat) : PR (List E3) := (cntP bs 64 o).bind fun n o => manyP (evP bs) n.toNat o
structure EsE where
  l : List E3
  o : Nat
  e : Int
def rdEvsC : Con At EsE where
  f := F_file_reader_script
  fit vs H := match vs with
    | [.ptr b _ _] => rdFit b H
    | _ => none
  n0 := 2
  pre x := x.o ≤ x.bs.length ∧ x.bs.length ≤ 140737488355328
  args x := [.ptr 0 0 0]
  L0 x := rdL x.bs x.o
  outs x := [(fun y => esP x.bs x.o = .ok [] y.o ∧ y.o ≤ x.bs.length, fun y => (.ret .nils, 3, rdL x.bs y.o)),
    (fun y => esP x.bs x.o = .ok y.l y.o ∧ y.o ≤ x.bs.length ∧ 0 < y.l.length ∧ y.l.length ≤ 64, fun y => (.ret (.sl 2 0 0 y.l.length y.l.length false), 3, [(0, ⟨true, 1, .cells [Rest x.bs y.o 1]⟩), (1, ⟨true, 1, .ints .u8 x.bs⟩), (2, evsBlk y.l)])),
    (fun y => esP x.bs x.o = .no y.e, fun y => (.panic (wrongAV y.e), 3, []))]
/-! ### places -/
theorem upP_le {bs : List Int} {most : Int} {o : Nat} {n : Int} {o' : Nat} (h : upP bs most o = .ok n o') (ho : o ≤ bs.length) : o' ≤ bs.length := by
  unfold upP upN at h
  rcases getN_range (bs.drop o) with ⟨n', u, e, h3, h4, h5⟩ | e | e
  · rw [e] at h
    simp only [List.length_drop] at h4
    simp only [ne_eq, not_true_eq_false, if_false] at h
    by_cases hm : n' > most
    · rw [if_pos hm] at h; cases h
    · rw [if_neg hm] at h
      simp only [Int.toNat_natCast, PR.ok.injEq] at h
      omega
  · rw [e] at h; simp at h
  · rw [e] at h; simp at h
theorem PR.bind_ok {α β : Type} {r : PR α} {f : α → Nat → PR β} {b : β} {o : Nat} (h : r.bind f = .ok b o) : ∃ a o1, r = .ok a o1 ∧ f a o1 = .ok b o := by
  cases r with
  | ok a o1 => exact ⟨a, o1, rfl, h⟩
  | no e => cases h
theorem noteP_le {bs : List Int} {o : Nat} {x : N4} {o' : Nat} (h : noteP bs o = .ok x o') (ho : o ≤ bs.length) : o' ≤ bs.length := by
  obtain ⟨_, _, h1, h⟩ := PR.bind_ok h
  obtain ⟨_, _, h2, h⟩ := PR.bind_ok h
  obtain ⟨_, _, h3, h⟩ := PR.bind_ok h
  obtain ⟨_, _, h4, h⟩ := PR.bind_ok h
  cases h
  exact upP_le h4 (upP_le h3 (upP_le h2 (upP_le h1 ho)))
theorem evP_le {bs : List Int} {o : Nat} {x : E3} {o' : Nat} (h : evP bs o = .ok x o') (ho : o ≤ bs.length) : o' ≤ bs.length := by
  obtain ⟨_, _, h1, h⟩ := PR.bind_ok h
  obtain ⟨_, _, h2, h⟩ := PR.bind_ok h
  obtain ⟨_, _, h3, h⟩ := PR.bind_ok h
  cases h
  exact upP_le h3 (upP_le h2 (upP_le h1 ho))
theorem manyP_le {α : Type} {p : Nat → PR α} {N : Nat} (hp : ∀ o a o', p o = .ok a o' → o ≤ N → o' ≤ N) : ∀ (k o : Nat) {l : List α} {o' : Nat}, manyP p k o = .ok l o' → o ≤ N → o' ≤ N ∧ l.length = k
  | 0, o, l, o', h, ho => by
    simp only [manyP, PR.ok.injEq] at h
    obtain ⟨rfl, rfl⟩ := h
    exact ⟨ho, rfl⟩
  | k + 1, o, l, o', h, ho => by
    obtain ⟨a, o1, h1, h⟩ := PR.bind_ok h
    obtain ⟨l2, o2, h2, h⟩ := PR.bind_ok h
    cases h
    obtain ⟨q1, q2⟩ := manyP_le hp k o1 h2 (hp _ _ _ h1 ho)
    exact ⟨q1, by simp [q2]⟩
end Go.Proofs.YtmbcpmbpkdeioaaGreatDoor.W
/- A state read: the walk. No condition. -/
namespace Go.Proofs.YtmbcpmbpkdeioaaGreatDoor.W
open Go Go.RowKit Go.Eng
set_option maxRecDepth 100000
set_option linter.unusedVariables false
set_option linter.unusedSimpArgs false
theorem numberS_ok : (numS F_file_reader_number 4294967295 .u32).OK Go.Proofs.Tryz.prog := numS_of rdNum_ok
theorem intS_ok : (numS F_file_reader_int 1099511627776 .i64).OK Go.Proofs.Tryz.prog := numS_of rdInt_ok
theorem uptoS_ok : upToS.OK Go.Proofs.Tryz.prog := upToS_ok upToC_ok
theorem cntS_ok : countS.OK Go.Proofs.Tryz.prog := countS_of countC_ok
theorem rowS_ok : rdRowS.OK Go.Proofs.Tryz.prog := rdRowS_of rdRowC_ok
abbrev rdSt_c_p0 (x : At) : Prop :=
  ∃ (y : StE), (stP x.bs x.o = PR.ok y.s y.o ∧ y.o ≤ x.bs.length) ∧ False
def rdSt_c_V (x : At) : Prop :=
  (x.o ≤ x.bs.length ∧ x.bs.length ≤ 140737488355328) ∧ [AV.ptr 0 0 0] = [AV.ptr 0 0 0] ∧ (some (bC [AV.sl 1 x.o 0 (x.bs.length - x.o) (x.bs.length - x.o) false]) = some (bC [AV.sl 1 x.o 0 (x.bs.length - x.o) (x.bs.length - x.o) false]) ∧ some (bW x.bs) = some (bW x.bs) ∧ True) ∧ (∀ (y : UpE), upP x.bs 4294967295 x.o = PR.ok y.n y.o ∧ y.o ≤ x.bs.length ∧ 0 ≤ y.n ∧ y.n ≤ 4294967295 → (y.o ≤ x.bs.length ∧ x.bs.length ≤ 140737488355328) ∧ [AV.ptr 0 0 0] = [AV.ptr 0 0 0] ∧ (some (bC [AV.sl 1 y.o 0 (x.bs.length - y.o) (x.bs.length - y.o) false]) = some (bC [AV.sl 1 y.o 0 (x.bs.length - y.o) (x.bs.length - y.o) false]) ∧ some (bW x.bs) = some (bW x.bs) ∧ True) ∧ (∀ (y_1 : UpE), upP x.bs 4294967295 y.o = PR.ok y_1.n y_1.o ∧ y_1.o ≤ x.bs.length ∧ 0 ≤ y_1.n ∧ y_1.n ≤ 4294967295 → (y_1.o ≤ x.bs.length ∧ x.bs.length ≤ 140737488355328) ∧ [AV.ptr 0 0 0] = [AV.ptr 0 0 0] ∧ (some (bC [AV.sl 1 y_1.o 0
  (x.bs.length - y_1.o) (x.bs.length - y_1.o) false]) = some (bC [AV.sl 1 y_1.o 0 (x.bs.length - y_1.o) (x.bs.length - y_1.o) false]) ∧ some (bW x.bs) = some (bW x.bs) ∧ True) ∧ (∀ (y_2 : UpE), upP x.bs 4294967295 y_1.o = PR.ok y_2.n y_2.o ∧ y_2.o ≤ x.bs.length ∧ 0 ≤ y_2.n ∧ y_2.n ≤ 4294967295 → (y_2.o ≤ x.bs.length ∧ x.bs.length ≤ 140737488355328) ∧ [AV.ptr 0 0 0] = [AV.ptr 0 0 0] ∧ (some (bC [AV.sl 1 y_2.o 0 (x.bs.length - y_2.o) (x.bs.length - y_2.o) false]) = some (bC [AV.sl 1 y_2.o 0 (x.bs.length - y_2.o) (x.bs.length - y_2.o) false]) ∧ some (bW x.bs) = some (bW x.bs) ∧ True) ∧ (∀ (y_3 : UpE), upP x.bs 4294967295 y_2.o = PR.ok y_3.n y_3.o ∧ y_3.o ≤ x.bs.length ∧ 0 ≤ y_3.n ∧ y_3.n ≤ 4294967295 → (y_3.o ≤ x.bs.length ∧ x.bs.length ≤ 140737488355328) ∧ [AV.ptr 0 0 0] = [AV.ptr 0 0 0] ∧ (some (bC [AV.sl 1 y_3.o 0 (x.bs.length - y_3.o) (x.bs.length - y_3.o) false]) = some (bC [AV.sl 1 y_3.o
  0 (x.bs.length - y_3.o) (x.bs.length - y_3.o) false]) ∧ some (bW x.bs) = some (bW x.bs) ∧ True) ∧ (∀ (y_4 : UpE), upP x.bs 4294967295 y_3.o = PR.ok y_4.n y_4.o ∧ y_4.o ≤ x.bs.length ∧ 0 ≤ y_4.n ∧ y_4.n ≤ 4294967295 → (y_4.o ≤ x.bs.length ∧ x.bs.length ≤ 140737488355328) ∧ [AV.ptr 0 0 0] = [AV.ptr 0 0 0] ∧ (some (bC [AV.sl 1 y_4.o 0 (x.bs.length - y_4.o) (x.bs.length - y_4.o) false]) = some (bC [AV.sl 1 y_4.o 0 (x.bs.length - y_4.o) (x.bs.length - y_4.o) false]) ∧ some (bW x.bs) = some (bW x.bs) ∧ True) ∧ (∀ (y_5 : UpE), upP x.bs 4294967295 y_4.o = PR.ok y_5.n y_5.o ∧ y_5.o ≤ x.bs.length ∧ 0 ≤ y_5.n ∧ y_5.n ≤ 4294967295 → (y_5.o ≤ x.bs.length ∧ x.bs.length ≤ 140737488355328) ∧ [AV.ptr 0 0 0] = [AV.ptr 0 0 0] ∧ (some (bC [AV.sl 1 y_5.o 0 (x.bs.length - y_5.o) (x.bs.length - y_5.o) false]) = some (bC [AV.sl 1 y_5.o 0 (x.bs.length - y_5.o) (x.bs.length - y_5.o) false]) ∧ some (bW x.bs) = some
  (bW x.bs) ∧ True) ∧ (∀ (y_6 : UpE), upP x.bs 4294967295 y_5.o = PR.ok y_6.n y_6.o ∧ y_6.o ≤ x.bs.length ∧ 0 ≤ y_6.n ∧ y_6.n ≤ 4294967295 → (y_6.o ≤ x.bs.length ∧ x.bs.length ≤ 140737488355328) ∧ [AV.ptr 0 0 0] = [AV.ptr 0 0 0] ∧ (some (bC [AV.sl 1 y_6.o 0 (x.bs.length - y_6.o) (x.bs.length - y_6.o) false]) = some (bC [AV.sl 1 y_6.o 0 (x.bs.length - y_6.o) (x.bs.length - y_6.o) false]) ∧ some (bW x.bs) = some (bW x.bs) ∧ True) ∧ (∀ (y_7 : UpE), upP x.bs 4294967295 y_6.o = PR.ok y_7.n y_7.o ∧ y_7.o ≤ x.bs.length ∧ 0 ≤ y_7.n ∧ y_7.n ≤ 4294967295 → (y_7.o ≤ x.bs.length ∧ x.bs.length ≤ 140737488355328) ∧ [AV.ptr 0 0 0] = [AV.ptr 0 0 0] ∧ (some (bC [AV.sl 1 y_7.o 0 (x.bs.length - y_7.o) (x.bs.length - y_7.o) false]) = some (bC [AV.sl 1 y_7.o 0 (x.bs.length - y_7.o) (x.bs.length - y_7.o) false]) ∧ some (bW x.bs) = some (bW x.bs) ∧ True) ∧ (∀ (y_8 : UpE), upP x.bs 4294967295 y_7.o = PR.ok y_8.n
  y_8.o ∧ y_8.o ≤ x.bs.length ∧ 0 ≤ y_8.n ∧ y_8.n ≤ 4294967295 → (y_8.o ≤ x.bs.length ∧ x.bs.length ≤ 140737488355328) ∧ [AV.ptr 0 0 0] = [AV.ptr 0 0 0] ∧ (some (bC [AV.sl 1 y_8.o 0 (x.bs.length - y_8.o) (x.bs.length - y_8.o) false]) = some (bC [AV.sl 1 y_8.o 0 (x.bs.length - y_8.o) (x.bs.length - y_8.o) false]) ∧ some (bW x.bs) = some (bW x.bs) ∧ True) ∧ (∀ (y_9 : UpE), upP x.bs 4294967295 y_8.o = PR.ok y_9.n y_9.o ∧ y_9.o ≤ x.bs.length ∧ 0 ≤ y_9.n ∧ y_9.n ≤ 4294967295 → (y_9.o ≤ x.bs.length ∧ x.bs.length ≤ 140737488355328) ∧ [AV.ptr 0 0 0] = [AV.ptr 0 0 0] ∧ (some (bC [AV.sl 1 y_9.o 0 (x.bs.length - y_9.o) (x.bs.length - y_9.o) false]) = some (bC [AV.sl 1 y_9.o 0 (x.bs.length - y_9.o) (x.bs.length - y_9.o) false]) ∧ some (bW x.bs) = some (bW x.bs) ∧ True) ∧ (∀ (y_10 : UpE), upP x.bs 4294967295 y_9.o = PR.ok y_10.n y_10.o ∧ y_10.o ≤ x.bs.length ∧ 0 ≤ y_10.n ∧ y_10.n ≤ 4294967295 → (y_10.o
  ≤ x.bs.length ∧ x.bs.length ≤ 140737488355328) ∧ [AV.ptr 0 0 0] = [AV.ptr 0 0 0] ∧ (some (bC [AV.sl 1 y_10.o 0 (x.bs.length - y_10.o) (x.bs.length - y_10.o) false]) = some (bC [AV.sl 1 y_10.o 0 (x.bs.length - y_10.o) (x.bs.length - y_10.o) false]) ∧ some (bW x.bs) = some (bW x.bs) ∧ True) ∧ (∀ (y_11 : UpE), upP x.bs 4294967295 y_10.o = PR.ok y_11.n y_11.o ∧ y_11.o ≤ x.bs.length ∧ 0 ≤ y_11.n ∧ y_11.n ≤ 4294967295 → (y_11.o ≤ x.bs.length ∧ x.bs.length ≤ 140737488355328) ∧ [AV.ptr 0 0 0] = [AV.ptr 0 0 0] ∧ (some (bC [AV.sl 1 y_11.o 0 (x.bs.length - y_11.o) (x.bs.length - y_11.o) false]) = some (bC [AV.sl 1 y_11.o 0 (x.bs.length - y_11.o) (x.bs.length - y_11.o) false]) ∧ some (bW x.bs) = some (bW x.bs) ∧ True) ∧ (∀ (y_12 : UpE), upP x.bs 4294967295 y_11.o = PR.ok y_12.n y_12.o ∧ y_12.o ≤ x.bs.length ∧ 0 ≤ y_12.n ∧ y_12.n ≤ 4294967295 → (y_12.o ≤ x.bs.length ∧ x.bs.length ≤ 140737488355328) ∧
  [AV.ptr 0 0 0] = [AV.ptr 0 0 0] ∧ (some (bC [AV.sl 1 y_12.o 0 (x.bs.length - y_12.o) (x.bs.length - y_12.o) false]) = some (bC [AV.sl 1 y_12.o 0 (x.bs.length - y_12.o) (x.bs.length - y_12.o) false]) ∧ some (bW x.bs) = some (bW x.bs) ∧ True) ∧ (∀ (y_13 : UpE), upP x.bs 4294967295 y_12.o = PR.ok y_13.n y_13.o ∧ y_13.o ≤ x.bs.length ∧ 0 ≤ y_13.n ∧ y_13.n ≤ 4294967295 → (y_13.o ≤ x.bs.length ∧ x.bs.length ≤ 140737488355328) ∧ [AV.ptr 0 0 0] = [AV.ptr 0 0 0] ∧ (some (bC [AV.sl 1 y_13.o 0 (x.bs.length - y_13.o) (x.bs.length - y_13.o) false]) = some (bC [AV.sl 1 y_13.o 0 (x.bs.length - y_13.o) (x.bs.length - y_13.o) false]) ∧ some (bW x.bs) = some (bW x.bs) ∧ True) ∧ (∀ (y_14 : UpE), upP x.bs 4294967295 y_13.o = PR.ok y_14.n y_14.o ∧ y_14.o ≤ x.bs.length ∧ 0 ≤ y_14.n ∧ y_14.n ≤ 4294967295 → (y_14.o ≤ x.bs.length ∧ x.bs.length ≤ 140737488355328) ∧ [AV.ptr 0 0 0] = [AV.ptr 0 0 0] ∧ (some (bC
  [AV.sl 1 y_14.o 0 (x.bs.length - y_14.o) (x.bs.length - y_14.o) false]) = some (bC [AV.sl 1 y_14.o 0 (x.bs.length - y_14.o) (x.bs.length - y_14.o) false]) ∧ some (bW x.bs) = some (bW x.bs) ∧ True) ∧ (∀ (y_15 : UpE), upP x.bs 4294967295 y_14.o = PR.ok y_15.n y_15.o ∧ y_15.o ≤ x.bs.length ∧ 0 ≤ y_15.n ∧ y_15.n ≤ 4294967295 → (y_15.o ≤ x.bs.length ∧ x.bs.length ≤ 140737488355328) ∧ [AV.ptr 0 0 0] = [AV.ptr 0 0 0] ∧ (some (bC [AV.sl 1 y_15.o 0 (x.bs.length - y_15.o) (x.bs.length - y_15.o) false]) = some (bC [AV.sl 1 y_15.o 0 (x.bs.length - y_15.o) (x.bs.length - y_15.o) false]) ∧ some (bW x.bs) = some (bW x.bs) ∧ True) ∧ (∀ (y_16 : UpE), upP x.bs 4294967295 y_15.o = PR.ok y_16.n y_16.o ∧ y_16.o ≤ x.bs.length ∧ 0 ≤ y_16.n ∧ y_16.n ≤ 4294967295 → (y_16.o ≤ x.bs.length ∧ x.bs.length ≤ 140737488355328) ∧ [AV.ptr 0 0 0] = [AV.ptr 0 0 0] ∧ (some (bC [AV.sl 1 y_16.o 0 (x.bs.length - y_16.o)
  (x.bs.length - y_16.o) false]) = some (bC [AV.sl 1 y_16.o 0 (x.bs.length - y_16.o) (x.bs.length - y_16.o) false]) ∧ some (bW x.bs) = some (bW x.bs) ∧ True) ∧ (∀ (y_17 : UpE), upP x.bs 4294967295 y_16.o = PR.ok y_17.n y_17.o ∧ y_17.o ≤ x.bs.length ∧ 0 ≤ y_17.n ∧ y_17.n ≤ 4294967295 → (y_17.o ≤ x.bs.length ∧ x.bs.length ≤ 140737488355328) ∧ [AV.ptr 0 0 0, nL 1] = [AV.ptr 0 0 0, nL 1] ∧ (some (bC [AV.sl 1 y_17.o 0 (x.bs.length - y_17.o) (x.bs.length - y_17.o) false]) = some (bC [AV.sl 1 y_17.o 0 (x.bs.length - y_17.o) (x.bs.length - y_17.o) false]) ∧ some (bW x.bs) = some (bW x.bs) ∧ True) ∧ (∀ (y_18 : UpE), upP x.bs 1 y_17.o = PR.ok y_18.n y_18.o ∧ y_18.o ≤ x.bs.length ∧ 0 ≤ y_18.n ∧ y_18.n ≤ 1 → (∃ (y_19 : StE), (stP x.bs x.o = PR.ok y_19.s y_19.o ∧ y_19.o ≤ x.bs.length) ∧ [AV.agg [nU y.n, nU y_1.n, nU y_2.n, nU y_3.n, nU y_4.n, nU y_5.n, nU y_6.n, nU y_7.n, nU y_8.n, nU y_9.n, nU y_10.n,
  nU y_11.n, nU y_12.n, nU y_13.n, nU y_14.n, nU y_15.n, nU y_16.n, nU y_17.n, AV.bool (y_18.n == 1)]] = [AV.agg [nU y_19.s.r0, nU y_19.s.r1, nU y_19.s.r2, nU y_19.s.r3, nU y_19.s.r4, nU y_19.s.r5, nU y_19.s.r6, nU y_19.s.r7, nU y_19.s.pc, nU y_19.s.ps, nU y_19.s.c0, nU y_19.s.c1, nU y_19.s.c2, nU y_19.s.c3, nU y_19.s.c4, nU y_19.s.c5, nU y_19.s.c6, nU y_19.s.c7, AV.bool y_19.s.h]] ∧ bC [AV.sl 1 y_18.o 0 (x.bs.length - y_18.o) (x.bs.length - y_18.o) false] = bC [AV.sl 1 y_19.o 0 (x.bs.length - y_19.o) (x.bs.length - y_19.o) false] ∧ bW x.bs = bW x.bs ∧ True) ∨ ∃ (y : StE), stP x.bs x.o = PR.no y.e ∧ False) ∧ (∀ (y : UpE), upP x.bs 1 y_17.o = PR.no y.e → (rdSt_c_p0 x) ∨ ∃ (y_18 : StE), stP x.bs x.o = PR.no y_18.e ∧ [AV.ifc T_file_wrong (AV.agg [nI y.e])] = [AV.ifc T_file_wrong (AV.agg [nI y_18.e])] ∧ True) ∧ True) ∧ (∀ (y : UpE), upP x.bs 4294967295 y_16.o = PR.no y.e → (rdSt_c_p0 x) ∨ ∃
  (y_17 : StE), stP x.bs x.o = PR.no y_17.e ∧ [AV.ifc T_file_wrong (AV.agg [nI y.e])] = [AV.ifc T_file_wrong (AV.agg [nI y_17.e])] ∧ True) ∧ True) ∧ (∀ (y : UpE), upP x.bs 4294967295 y_15.o = PR.no y.e → (rdSt_c_p0 x) ∨ ∃ (y_16 : StE), stP x.bs x.o = PR.no y_16.e ∧ [AV.ifc T_file_wrong (AV.agg [nI y.e])] = [AV.ifc T_file_wrong (AV.agg [nI y_16.e])] ∧ True) ∧ True) ∧ (∀ (y : UpE), upP x.bs 4294967295 y_14.o = PR.no y.e → (rdSt_c_p0 x) ∨ ∃ (y_15 : StE), stP x.bs x.o = PR.no y_15.e ∧ [AV.ifc T_file_wrong (AV.agg [nI y.e])] = [AV.ifc T_file_wrong (AV.agg [nI y_15.e])] ∧ True) ∧ True) ∧ (∀ (y : UpE), upP x.bs 4294967295 y_13.o = PR.no y.e → (rdSt_c_p0 x) ∨ ∃ (y_14 : StE), stP x.bs x.o = PR.no y_14.e ∧ [AV.ifc T_file_wrong (AV.agg [nI y.e])] = [AV.ifc T_file_wrong (AV.agg [nI y_14.e])] ∧ True) ∧ True) ∧ (∀ (y : UpE), upP x.bs 4294967295 y_12.o = PR.no y.e → (rdSt_c_p0 x) ∨ ∃ (y_13 : StE), stP
  x.bs x.o = PR.no y_13.e ∧ [AV.ifc T_file_wrong (AV.agg [nI y.e])] = [AV.ifc T_file_wrong (AV.agg [nI y_13.e])] ∧ True) ∧ True) ∧ (∀ (y : UpE), upP x.bs 4294967295 y_11.o = PR.no y.e → (rdSt_c_p0 x) ∨ ∃ (y_12 : StE), stP x.bs x.o = PR.no y_12.e ∧ [AV.ifc T_file_wrong (AV.agg [nI y.e])] = [AV.ifc T_file_wrong (AV.agg [nI y_12.e])] ∧ True) ∧ True) ∧ (∀ (y : UpE), upP x.bs 4294967295 y_10.o = PR.no y.e → (rdSt_c_p0 x) ∨ ∃ (y_11 : StE), stP x.bs x.o = PR.no y_11.e ∧ [AV.ifc T_file_wrong (AV.agg [nI y.e])] = [AV.ifc T_file_wrong (AV.agg [nI y_11.e])] ∧ True) ∧ True) ∧ (∀ (y : UpE), upP x.bs 4294967295 y_9.o = PR.no y.e → (rdSt_c_p0 x) ∨ ∃ (y_10 : StE), stP x.bs x.o = PR.no y_10.e ∧ [AV.ifc T_file_wrong (AV.agg [nI y.e])] = [AV.ifc T_file_wrong (AV.agg [nI y_10.e])] ∧ True) ∧ True) ∧ (∀ (y : UpE), upP x.bs 4294967295 y_8.o = PR.no y.e → (rdSt_c_p0 x) ∨ ∃ (y_9 : StE), stP x.bs x.o = PR.no y_9.e ∧
  [AV.ifc T_file_wrong (AV.agg [nI y.e])] = [AV.ifc T_file_wrong (AV.agg [nI y_9.e])] ∧ True) ∧ True) ∧ (∀ (y : UpE), upP x.bs 4294967295 y_7.o = PR.no y.e → (rdSt_c_p0 x) ∨ ∃ (y_8 : StE), stP x.bs x.o = PR.no y_8.e ∧ [AV.ifc T_file_wrong (AV.agg [nI y.e])] = [AV.ifc T_file_wrong (AV.agg [nI y_8.e])] ∧ True) ∧ True) ∧ (∀ (y : UpE), upP x.bs 4294967295 y_6.o = PR.no y.e → (rdSt_c_p0 x) ∨ ∃ (y_7 : StE), stP x.bs x.o = PR.no y_7.e ∧ [AV.ifc T_file_wrong (AV.agg [nI y.e])] = [AV.ifc T_file_wrong (AV.agg [nI y_7.e])] ∧ True) ∧ True) ∧ (∀ (y : UpE), upP x.bs 4294967295 y_5.o = PR.no y.e → (rdSt_c_p0 x) ∨ ∃ (y_6 : StE), stP x.bs x.o = PR.no y_6.e ∧ [AV.ifc T_file_wrong (AV.agg [nI y.e])] = [AV.ifc T_file_wrong (AV.agg [nI y_6.e])] ∧ True) ∧ True) ∧ (∀ (y : UpE), upP x.bs 4294967295 y_4.o = PR.no y.e → (rdSt_c_p0 x) ∨ ∃ (y_5 : StE), stP x.bs x.o = PR.no y_5.e ∧ [AV.ifc T_file_wrong (AV.agg [nI
  y.e])] = [AV.ifc T_file_wrong (AV.agg [nI y_5.e])] ∧ True) ∧ True) ∧ (∀ (y : UpE), upP x.bs 4294967295 y_3.o = PR.no y.e → (rdSt_c_p0 x) ∨ ∃ (y_4 : StE), stP x.bs x.o = PR.no y_4.e ∧ [AV.ifc T_file_wrong (AV.agg [nI y.e])] = [AV.ifc T_file_wrong (AV.agg [nI y_4.e])] ∧ True) ∧ True) ∧ (∀ (y : UpE), upP x.bs 4294967295 y_2.o = PR.no y.e → (rdSt_c_p0 x) ∨ ∃ (y_3 : StE), stP x.bs x.o = PR.no y_3.e ∧ [AV.ifc T_file_wrong (AV.agg [nI y.e])] = [AV.ifc T_file_wrong (AV.agg [nI y_3.e])] ∧ True) ∧ True) ∧ (∀ (y : UpE), upP x.bs 4294967295 y_1.o = PR.no y.e → (rdSt_c_p0 x) ∨ ∃ (y_2 : StE), stP x.bs x.o = PR.no y_2.e ∧ [AV.ifc T_file_wrong (AV.agg [nI y.e])] = [AV.ifc T_file_wrong (AV.agg [nI y_2.e])] ∧ True) ∧ True) ∧ (∀ (y_1 : UpE), upP x.bs 4294967295 y.o = PR.no y_1.e → (rdSt_c_p0 x) ∨ ∃ (y : StE), stP x.bs x.o = PR.no y.e ∧ [AV.ifc T_file_wrong (AV.agg [nI y_1.e])] = [AV.ifc T_file_wrong (AV.agg
  [nI y.e])] ∧ True) ∧ True) ∧ (∀ (y : UpE), upP x.bs 4294967295 x.o = PR.no y.e → (rdSt_c_p0 x) ∨ ∃ (y_1 : StE), stP x.bs x.o = PR.no y_1.e ∧ [AV.ifc T_file_wrong (AV.agg [nI y.e])] = [AV.ifc T_file_wrong (AV.agg [nI y_1.e])] ∧ True) ∧ True
theorem rdSt_c_e (x : At) : some (rdSt_c_V x) = (rdStC.cond sp Go.Proofs.Tryz.prog (drP sp Go.Proofs.Tryz.prog) noLoops (orK ((numS F_file_reader_number 4294967295 .u32).orc sp) (upToS.orc sp)) 60 3 x) := by kernel_rfl
set_option maxRecDepth 100000 in
theorem rdSt_ok : rdStC.OK Go.Proofs.Tryz.prog := by
  refine Con.by hmix (noLoops_ok _) (orK_ok (Con.orc_ok numberS_ok) (Con.orc_ok uptoS_ok)) rdSt_c_V rdSt_c_e (fun x hx => ?_)
  obtain ⟨h1, h2⟩ := hx
  unfold rdSt_c_V rdSt_c_p0
  refine ⟨⟨h1, h2⟩, rfl, ⟨rfl, rfl, trivial⟩, fun y0 h0' => ?_, fun y hy => .inr ⟨⟨default, 0, y.e⟩, by simp only [stP, numsP, PR.bind, hy], rfl, trivial⟩, trivial⟩
  refine ⟨⟨h0'.2.1, h2⟩, rfl, ⟨rfl, rfl, trivial⟩, fun y1 h1' => ?_, fun y hy => .inr ⟨⟨default, 0, y.e⟩, by simp only [stP, numsP, PR.bind, h0'.1, hy], rfl, trivial⟩, trivial⟩
  refine ⟨⟨h1'.2.1, h2⟩, rfl, ⟨rfl, rfl, trivial⟩, fun y2 h2' => ?_, fun y hy => .inr ⟨⟨default, 0, y.e⟩, by simp only [stP, numsP, PR.bind, h0'.1, h1'.1, hy], rfl, trivial⟩, trivial⟩
  refine ⟨⟨h2'.2.1, h2⟩, rfl, ⟨rfl, rfl, trivial⟩, fun y3 h3' => ?_, fun y hy => .inr ⟨⟨default, 0, y.e⟩, by simp only [stP, numsP, PR.bind, h0'.1, h1'.1, h2'.1, hy], rfl, trivial⟩, trivial⟩
  refine ⟨⟨h3'.2.1, h2⟩, rfl, ⟨rfl, rfl, trivial⟩, fun y4 h4' => ?_, fun y hy => .inr ⟨⟨default, 0, y.e⟩, by simp only [stP, numsP, PR.bind, h0'.1, h1'.1, h2'.1, h3'.1, hy], rfl, trivial⟩, trivial⟩
  refine ⟨⟨h4'.2.1, h2⟩, rfl, ⟨rfl, rfl, trivial⟩, fun y5 h5' => ?_, fun y hy => .inr ⟨⟨default, 0, y.e⟩, by simp only [stP, numsP, PR.bind, h0'.1, h1'.1, h2'.1, h3'.1, h4'.1, hy], rfl, trivial⟩, trivial⟩
  refine ⟨⟨h5'.2.1, h2⟩, rfl, ⟨rfl, rfl, trivial⟩, fun y6 h6' => ?_, fun y hy => .inr ⟨⟨default, 0, y.e⟩, by simp only [stP, numsP, PR.bind, h0'.1, h1'.1, h2'.1, h3'.1, h4'.1, h5'.1, hy], rfl, trivial⟩, trivial⟩
  refine ⟨⟨h6'.2.1, h2⟩, rfl, ⟨rfl, rfl, trivial⟩, fun y7 h7' => ?_, fun y hy => .inr ⟨⟨default, 0, y.e⟩, by simp only [stP, numsP, PR.bind, h0'.1, h1'.1, h2'.1, h3'.1, h4'.1, h5'.1, h6'.1, hy], rfl, trivial⟩, trivial⟩
  refine ⟨⟨h7'.2.1, h2⟩, rfl, ⟨rfl, rfl, trivial⟩, fun y8 h8' => ?_, fun y hy => .inr ⟨⟨default, 0, y.e⟩, by simp only [stP, numsP, PR.bind, h0'.1, h1'.1, h2'.1, h3'.1, h4'.1, h5'.1, h6'.1, h7'.1, hy], rfl, trivial⟩, trivial⟩
  refine ⟨⟨h8'.2.1, h2⟩, rfl, ⟨rfl, rfl, trivial⟩, fun y9 h9' => ?_, fun y hy => .inr ⟨⟨default, 0, y.e⟩, by simp only [stP, numsP, PR.bind, h0'.1, h1'.1, h2'.1, h3'.1, h4'.1, h5'.1, h6'.1, h7'.1, h8'.1, hy], rfl, trivial⟩, trivial⟩
  refine ⟨⟨h9'.2.1, h2⟩, rfl, ⟨rfl, rfl, trivial⟩, fun y10 h10' => ?_, fun y hy => .inr ⟨⟨default, 0, y.e⟩, by simp only [stP, numsP, PR.bind, h0'.1, h1'.1, h2'.1, h3'.1, h4'.1, h5'.1, h6'.1, h7'.1, h8'.1, h9'.1, hy], rfl, trivial⟩, trivial⟩
  refine ⟨⟨h10'.2.1, h2⟩, rfl, ⟨rfl, rfl, trivial⟩, fun y11 h11' => ?_, fun y hy => .inr ⟨⟨default, 0, y.e⟩, by simp only [stP, numsP, PR.bind, h0'.1, h1'.1, h2'.1, h3'.1, h4'.1, h5'.1, h6'.1, h7'.1, h8'.1, h9'.1, h10'.1, hy], rfl, trivial⟩, trivial⟩
  refine ⟨⟨h11'.2.1, h2⟩, rfl, ⟨rfl, rfl, trivial⟩, fun y12 h12' => ?_, fun y hy => .inr ⟨⟨default, 0, y.e⟩, by simp only [stP, numsP, PR.bind, h0'.1, h1'.1, h2'.1, h3'.1, h4'.1, h5'.1, h6'.1, h7'.1, h8'.1, h9'.1, h10'.1, h11'.1, hy], rfl, trivial⟩, trivial⟩
  refine ⟨⟨h12'.2.1, h2⟩, rfl, ⟨rfl, rfl, trivial⟩, fun y13 h13' => ?_, fun y hy => .inr ⟨⟨default, 0, y.e⟩, by simp only [stP, numsP, PR.bind, h0'.1, h1'.1, h2'.1, h3'.1, h4'.1, h5'.1, h6'.1, h7'.1, h8'.1, h9'.1, h10'.1, h11'.1, h12'.1, hy], rfl, trivial⟩, trivial⟩
  refine ⟨⟨h13'.2.1, h2⟩, rfl, ⟨rfl, rfl, trivial⟩, fun y14 h14' => ?_, fun y hy => .inr ⟨⟨default, 0, y.e⟩, by simp only [stP, numsP, PR.bind, h0'.1, h1'.1, h2'.1, h3'.1, h4'.1, h5'.1, h6'.1, h7'.1, h8'.1, h9'.1, h10'.1, h11'.1, h12'.1, h13'.1, hy], rfl, trivial⟩, trivial⟩
  refine ⟨⟨h14'.2.1, h2⟩, rfl, ⟨rfl, rfl, trivial⟩, fun y15 h15' => ?_, fun y hy => .inr ⟨⟨default, 0, y.e⟩, by simp only [stP, numsP, PR.bind, h0'.1, h1'.1, h2'.1, h3'.1, h4'.1, h5'.1, h6'.1, h7'.1, h8'.1, h9'.1, h10'.1, h11'.1, h12'.1, h13'.1, h14'.1, hy], rfl, trivial⟩, trivial⟩
  refine ⟨⟨h15'.2.1, h2⟩, rfl, ⟨rfl, rfl, trivial⟩, fun y16 h16' => ?_, fun y hy => .inr ⟨⟨default, 0, y.e⟩, by simp only [stP, numsP, PR.bind, h0'.1, h1'.1, h2'.1, h3'.1, h4'.1, h5'.1, h6'.1, h7'.1, h8'.1, h9'.1, h10'.1, h11'.1, h12'.1, h13'.1, h14'.1, h15'.1, hy], rfl, trivial⟩, trivial⟩
  refine ⟨⟨h16'.2.1, h2⟩, rfl, ⟨rfl, rfl, trivial⟩, fun y17 h17' => ?_, fun y hy => .inr ⟨⟨default, 0, y.e⟩, by simp only [stP, numsP, PR.bind, h0'.1, h1'.1, h2'.1, h3'.1, h4'.1, h5'.1, h6'.1, h7'.1, h8'.1, h9'.1, h10'.1, h11'.1, h12'.1, h13'.1, h14'.1, h15'.1, h16'.1, hy], rfl, trivial⟩, trivial⟩
  refine ⟨⟨h17'.2.1, h2⟩, rfl, ⟨rfl, rfl, trivial⟩, fun y18 h18' => ?_, fun y hy => .inr ⟨⟨default, 0, y.e⟩, by simp only [stP, numsP, PR.bind, h0'.1, h1'.1, h2'.1, h3'.1, h4'.1, h5'.1, h6'.1, h7'.1, h8'.1, h9'.1, h10'.1, h11'.1, h12'.1, h13'.1, h14'.1, h15'.1, h16'.1, h17'.1, hy], rfl, trivial⟩, trivial⟩
  exact .inl ⟨⟨stL [y0.n, y1.n, y2.n, y3.n, y4.n, y5.n, y6.n, y7.n, y8.n, y9.n, y10.n, y11.n, y12.n, y13.n, y14.n, y15.n, y16.n, y17.n] y18.n, y18.o, 0⟩, ⟨by simp only [stP, numsP, PR.bind, h0'.1, h1'.1, h2'.1, h3'.1, h4'.1, h5'.1, h6'.1, h7'.1, h8'.1, h9'.1, h10'.1, h11'.1, h12'.1, h13'.1, h14'.1, h15'.1, h16'.1, h17'.1, h18'.1], h18'.2.1⟩, rfl, rfl, rfl, trivial⟩
end Go.Proofs.YtmbcpmbpkdeioaaGreatDoor.W
/- Notes and events read: the walks. No condition. -/
namespace Go.Proofs.YtmbcpmbpkdeioaaGreatDoor.W
open Go Go.RowKit Go.Eng
set_option maxRecDepth 100000
set_option linter.unusedVariables false
set_option linter.unusedSimpArgs false
abbrev ntA_c_p0 (bs : List Int) (o n k : Nat) (l : List N4) (i : Nat) : List AV :=
  [nI ((PR.val [] (NtI.mk bs o n k l true).res).getD i instInhabitedN4.default).a, nI ((PR.val [] (NtI.mk bs o n k l true).res).getD i instInhabitedN4.default).c, nU ((PR.val [] (NtI.mk bs o n k l true).res).getD i instInhabitedN4.default).b, nU ((PR.val [] (NtI.mk bs o n k l true).res).getD i instInhabitedN4.default).d]
abbrev ntA_c_p1 (bs : List Int) (o n k : Nat) (l : List N4) (j : NtI) : List AV :=
  [AV.sl 1 (NtI.mk j.bs j.o j.n j.k j.l true).res.at_ 0 (j.bs.length - (NtI.mk j.bs j.o j.n j.k j.l true).res.at_) (j.bs.length - (NtI.mk j.bs j.o j.n j.k j.l true).res.at_) false]
abbrev ntA_c_p2 (bs : List Int) (o n k : Nat) (l : List N4) (y : UpE) : Prop :=
  sp (NtI.mk bs o n k l true).res.isOk False (([AV.ifc T_file_wrong (AV.agg [nI y.e])] = [AV.ifc T_file_wrong (AV.agg [nI (NtI.mk bs o n k l true).res.err])] ∧ True) ∧ True)
abbrev ntA_c_p3 (bs : List Int) (o n k : Nat) (l : List N4) : List AV :=
  [AV.sl 1 (NtI.mk bs o n k l true).res.at_ 0 (bs.length - (NtI.mk bs o n k l true).res.at_) (bs.length - (NtI.mk bs o n k l true).res.at_) false]
def ntA_c_V (bs : List Int) (o n k : Nat) (l : List N4) : Prop :=
  sp (decide ((↑k : Int) < (↑n : Int))) ((o ≤ bs.length ∧ bs.length ≤ 140737488355328) ∧ [AV.ptr 0 0 0] = [AV.ptr 0 0 0] ∧ (some (bC [AV.sl 1 o 0 (bs.length - o) (bs.length - o) false]) = some (bC [AV.sl 1 o 0 (bs.length - o) (bs.length - o) false]) ∧ some (bW bs) = some (bW bs) ∧ True) ∧ (∀ (y : UpE), upP bs 1099511627776 o = PR.ok y.n y.o ∧ y.o ≤ bs.length ∧ 0 ≤ y.n ∧ y.n ≤ 1099511627776 → (y.o ≤ bs.length ∧ bs.length ≤ 140737488355328) ∧ [AV.ptr 0 0 0] = [AV.ptr 0 0 0] ∧ (some (bC [AV.sl 1 y.o 0 (bs.length - y.o) (bs.length - y.o) false]) = some (bC [AV.sl 1 y.o 0 (bs.length - y.o) (bs.length - y.o) false]) ∧ some (bW bs) = some (bW bs) ∧ True) ∧ (∀ (y_1 : UpE), upP bs 1099511627776 y.o = PR.ok y_1.n y_1.o ∧ y_1.o ≤ bs.length ∧ 0 ≤ y_1.n ∧ y_1.n ≤ 1099511627776 → (y_1.o ≤ bs.length ∧ bs.length ≤ 140737488355328) ∧ [AV.ptr 0 0 0] = [AV.ptr 0 0 0] ∧ (some (bC [AV.sl 1 y_1.o 0 (bs.length -
  y_1.o) (bs.length - y_1.o) false]) = some (bC [AV.sl 1 y_1.o 0 (bs.length - y_1.o) (bs.length - y_1.o) false]) ∧ some (bW bs) = some (bW bs) ∧ True) ∧ (∀ (y_2 : UpE), upP bs 4294967295 y_1.o = PR.ok y_2.n y_2.o ∧ y_2.o ≤ bs.length ∧ 0 ≤ y_2.n ∧ y_2.n ≤ 4294967295 → (y_2.o ≤ bs.length ∧ bs.length ≤ 140737488355328) ∧ [AV.ptr 0 0 0] = [AV.ptr 0 0 0] ∧ (some (bC [AV.sl 1 y_2.o 0 (bs.length - y_2.o) (bs.length - y_2.o) false]) = some (bC [AV.sl 1 y_2.o 0 (bs.length - y_2.o) (bs.length - y_2.o) false]) ∧ some (bW bs) = some (bW bs) ∧ True) ∧ (∀ (y_3 : UpE), upP bs 4294967295 y_2.o = PR.ok y_3.n y_3.o ∧ y_3.o ≤ bs.length ∧ 0 ≤ y_3.n ∧ y_3.n ≤ 4294967295 → sp (decide (0 + l.length ≤ l.length) && true && true && true && true && decide ((l.length + 1) * 24 ≤ 140737488355328) && decide (l.length + 1 ≤ 9223372036854775807)) (∃ (j : NtI), (j.o ≤ j.bs.length ∧ j.bs.length ≤ 140737488355328 ∧ j.n ≤
  100000 ∧ j.k ≤ j.n ∧ j.l.length = j.k ∧ (true = true → 1 ≤ j.k) ∧ (true = false → j.k = 0)) ∧ j.n - j.k < n - k ∧ [((NtI.mk j.bs j.o j.n j.k j.l true).res.isOk && (PR.val [] (NtI.mk j.bs j.o j.n j.k j.l true).res).isEmpty, LOut.mk (AX.exit 0) [(3, AV.nils)] 3 [(0, bC (ntA_c_p1 bs o n k l j)), (1, bW j.bs)]), ((NtI.mk j.bs j.o j.n j.k j.l true).res.isOk, LOut.mk (AX.exit 0) [(3, AV.sl 2 0 0 (PR.val [] (NtI.mk j.bs j.o j.n j.k j.l true).res).length (PR.val [] (NtI.mk j.bs j.o j.n j.k j.l true).res).length false)] 3 [(0, bC (ntA_c_p1 bs o n k l j)), (1, bW j.bs), (2, ABlk.mk true 4 (AC.recs (PR.val [] (NtI.mk j.bs j.o j.n j.k j.l true).res).length fun (i : Nat) => [nI ((PR.val [] (NtI.mk j.bs j.o j.n j.k j.l true).res).getD i instInhabitedN4.default).a, nI ((PR.val [] (NtI.mk j.bs j.o j.n j.k j.l true).res).getD i instInhabitedN4.default).c, nU ((PR.val [] (NtI.mk j.bs j.o j.n j.k j.l
  true).res).getD i instInhabitedN4.default).b, nU ((PR.val [] (NtI.mk j.bs j.o j.n j.k j.l true).res).getD i instInhabitedN4.default).d]))]), (true, LOut.mk (AX.panic (AV.ifc T_file_wrong (AV.agg [nI (NtI.mk j.bs j.o j.n j.k j.l true).res.err]))) [] 3 [])] = [((NtI.mk bs o n k l true).res.isOk && (PR.val [] (NtI.mk bs o n k l true).res).isEmpty, LOut.mk (AX.exit 0) [(3, AV.nils)] 3 [(0, bC (ntA_c_p3 bs o n k l)), (1, bW bs)]), ((NtI.mk bs o n k l true).res.isOk, LOut.mk (AX.exit 0) [(3, AV.sl 2 0 0 (PR.val [] (NtI.mk bs o n k l true).res).length (PR.val [] (NtI.mk bs o n k l true).res).length false)] 3 [(0, bC (ntA_c_p3 bs o n k l)), (1, bW bs), (2, ABlk.mk true 4 (AC.recs (PR.val [] (NtI.mk bs o n k l true).res).length fun (i : Nat) => (ntA_c_p0 bs o n k l i)))]), (true, LOut.mk (AX.panic (AV.ifc T_file_wrong (AV.agg [nI (NtI.mk bs o n k l true).res.err]))) [] 3 [])] ∧ (AV.ptr 0 0 0 =
  AV.ptr 0 0 0 ∧ AV.sl 5 0 0 (l.length + 1) (l.length + 1) false = AV.sl 5 0 0 j.l.length j.l.length false ∧ nI (↑n : Int) = nI (↑j.n : Int) ∧ nI (IntKind.i64.wrap ((↑k : Int) + 1)) = nI (↑j.k : Int) ∧ True) ∧ bC [AV.sl 1 y_3.o 0 (bs.length - y_3.o) (bs.length - y_3.o) false] = bC [AV.sl 1 j.o 0 (j.bs.length - j.o) (j.bs.length - j.o) false] ∧ bW bs = bW j.bs ∧ (true = true ∧ 4 = 4 ∧ l.length + (List.take 4 (List.drop 0 [nI y.n, nI y_1.n, nU y_2.n, nU y_3.n])).length / 4 = j.l.length ∧ ∀ (i : Nat), i < l.length + (List.take 4 (List.drop 0 [nI y.n, nI y_1.n, nU y_2.n, nU y_3.n])).length / 4 → (bif i.blt l.length then [nI (l.getD (0 + i) instInhabitedN4.default).a, nI (l.getD (0 + i) instInhabitedN4.default).c, nU (l.getD (0 + i) instInhabitedN4.default).b, nU (l.getD (0 + i) instInhabitedN4.default).d] else List.take 4 (List.drop ((i - l.length) * 4) (List.take 4 (List.drop 0 [nI y.n, nI
  y_1.n, nU y_2.n, nU y_3.n])))) = [nI (j.l.getD i instInhabitedN4.default).a, nI (j.l.getD i instInhabitedN4.default).c, nU (j.l.getD i instInhabitedN4.default).b, nU (j.l.getD i instInhabitedN4.default).d]) ∧ True) False) ∧ (∀ (y : UpE), upP bs 4294967295 y_2.o = PR.no y.e → sp ((NtI.mk bs o n k l true).res.isOk && (PR.val [] (NtI.mk bs o n k l true).res).isEmpty) False (ntA_c_p2 bs o n k l y)) ∧ True) ∧ (∀ (y : UpE), upP bs 4294967295 y_1.o = PR.no y.e → sp ((NtI.mk bs o n k l true).res.isOk && (PR.val [] (NtI.mk bs o n k l true).res).isEmpty) False (ntA_c_p2 bs o n k l y)) ∧ True) ∧ (∀ (y_1 : UpE), upP bs 1099511627776 y.o = PR.no y_1.e → sp ((NtI.mk bs o n k l true).res.isOk && (PR.val [] (NtI.mk bs o n k l true).res).isEmpty) False (sp (NtI.mk bs o n k l true).res.isOk False (([AV.ifc T_file_wrong (AV.agg [nI y_1.e])] = [AV.ifc T_file_wrong (AV.agg [nI (NtI.mk bs o n k l
  true).res.err])] ∧ True) ∧ True))) ∧ True) ∧ (∀ (y : UpE), upP bs 1099511627776 o = PR.no y.e → sp ((NtI.mk bs o n k l true).res.isOk && (PR.val [] (NtI.mk bs o n k l true).res).isEmpty) False (ntA_c_p2 bs o n k l y)) ∧ True) (sp ((NtI.mk bs o n k l true).res.isOk && (PR.val [] (NtI.mk bs o n k l true).res).isEmpty) ((AV.sl 2 0 0 l.length l.length false = AV.nils ∧ True) ∧ bC [AV.sl 1 o 0 (bs.length - o) (bs.length - o) false] = bC (ntA_c_p3 bs o n k l) ∧ bW bs = bW bs ∧ True) (sp (NtI.mk bs o n k l true).res.isOk ((AV.sl 2 0 0 l.length l.length false = AV.sl 2 0 0 (PR.val [] (NtI.mk bs o n k l true).res).length (PR.val [] (NtI.mk bs o n k l true).res).length false ∧ True) ∧ bC [AV.sl 1 o 0 (bs.length - o) (bs.length - o) false] = bC (ntA_c_p3 bs o n k l) ∧ bW bs = bW bs ∧ (true = true ∧ 4 = 4 ∧ l.length = (PR.val [] (NtI.mk bs o n k l true).res).length ∧ ∀ (i : Nat), i < l.length → [nI
  (l.getD i instInhabitedN4.default).a, nI (l.getD i instInhabitedN4.default).c, nU (l.getD i instInhabitedN4.default).b, nU (l.getD i instInhabitedN4.default).d] = (ntA_c_p0 bs o n k l i)) ∧ True) False))
theorem ntA_c_e (bs : List Int) (o n k : Nat) (l : List N4) : some (ntA_c_V bs o n k l) = (some ((rdNotesL Go.Proofs.Tryz.prog).body sp Go.Proofs.Tryz.prog (orK ((numS F_file_reader_int 1099511627776 .i64).orc sp) ((numS F_file_reader_number 4294967295 .u32).orc sp)) (drP sp Go.Proofs.Tryz.prog (orK ((numS F_file_reader_int 1099511627776 .i64).orc sp) ((numS F_file_reader_number 4294967295 .u32).orc sp))) noLo 40 ⟨bs, o, n, k, l, true⟩)) := by kernel_rfl
abbrev ntB_c_p0 (bs : List Int) (o n : Nat) (j : NtI) : List AV :=
  [AV.sl 1 (NtI.mk j.bs j.o j.n j.k j.l true).res.at_ 0 (j.bs.length - (NtI.mk j.bs j.o j.n j.k j.l true).res.at_) (j.bs.length - (NtI.mk j.bs j.o j.n j.k j.l true).res.at_) false]
abbrev ntB_c_p1 (bs : List Int) (o n : Nat) (y : UpE) : Prop :=
  sp (NtI.mk bs o n 0 [] false).res.isOk False (([AV.ifc T_file_wrong (AV.agg [nI y.e])] = [AV.ifc T_file_wrong (AV.agg [nI (NtI.mk bs o n 0 [] false).res.err])] ∧ True) ∧ True)
abbrev ntB_c_p2 (bs : List Int) (o n : Nat) : List AV :=
  [AV.sl 1 (NtI.mk bs o n 0 [] false).res.at_ 0 (bs.length - (NtI.mk bs o n 0 [] false).res.at_) (bs.length - (NtI.mk bs o n 0 [] false).res.at_) false]
def ntB_c_V (bs : List Int) (o n : Nat) : Prop :=
  sp (decide (0 < (↑n : Int))) ((o ≤ bs.length ∧ bs.length ≤ 140737488355328) ∧ [AV.ptr 0 0 0] = [AV.ptr 0 0 0] ∧ (some (bC [AV.sl 1 o 0 (bs.length - o) (bs.length - o) false]) = some (bC [AV.sl 1 o 0 (bs.length - o) (bs.length - o) false]) ∧ some (bW bs) = some (bW bs) ∧ True) ∧ (∀ (y : UpE), upP bs 1099511627776 o = PR.ok y.n y.o ∧ y.o ≤ bs.length ∧ 0 ≤ y.n ∧ y.n ≤ 1099511627776 → (y.o ≤ bs.length ∧ bs.length ≤ 140737488355328) ∧ [AV.ptr 0 0 0] = [AV.ptr 0 0 0] ∧ (some (bC [AV.sl 1 y.o 0 (bs.length - y.o) (bs.length - y.o) false]) = some (bC [AV.sl 1 y.o 0 (bs.length - y.o) (bs.length - y.o) false]) ∧ some (bW bs) = some (bW bs) ∧ True) ∧ (∀ (y_1 : UpE), upP bs 1099511627776 y.o = PR.ok y_1.n y_1.o ∧ y_1.o ≤ bs.length ∧ 0 ≤ y_1.n ∧ y_1.n ≤ 1099511627776 → (y_1.o ≤ bs.length ∧ bs.length ≤ 140737488355328) ∧ [AV.ptr 0 0 0] = [AV.ptr 0 0 0] ∧ (some (bC [AV.sl 1 y_1.o 0 (bs.length - y_1.o)
  (bs.length - y_1.o) false]) = some (bC [AV.sl 1 y_1.o 0 (bs.length - y_1.o) (bs.length - y_1.o) false]) ∧ some (bW bs) = some (bW bs) ∧ True) ∧ (∀ (y_2 : UpE), upP bs 4294967295 y_1.o = PR.ok y_2.n y_2.o ∧ y_2.o ≤ bs.length ∧ 0 ≤ y_2.n ∧ y_2.n ≤ 4294967295 → (y_2.o ≤ bs.length ∧ bs.length ≤ 140737488355328) ∧ [AV.ptr 0 0 0] = [AV.ptr 0 0 0] ∧ (some (bC [AV.sl 1 y_2.o 0 (bs.length - y_2.o) (bs.length - y_2.o) false]) = some (bC [AV.sl 1 y_2.o 0 (bs.length - y_2.o) (bs.length - y_2.o) false]) ∧ some (bW bs) = some (bW bs) ∧ True) ∧ (∀ (y_3 : UpE), upP bs 4294967295 y_2.o = PR.ok y_3.n y_3.o ∧ y_3.o ≤ bs.length ∧ 0 ≤ y_3.n ∧ y_3.n ≤ 4294967295 → ∃ (j : NtI), (j.o ≤ j.bs.length ∧ j.bs.length ≤ 140737488355328 ∧ j.n ≤ 100000 ∧ j.k ≤ j.n ∧ j.l.length = j.k ∧ (true = true → 1 ≤ j.k) ∧ (true = false → j.k = 0)) ∧ j.n - j.k < n - 0 ∧ [((NtI.mk j.bs j.o j.n j.k j.l true).res.isOk && (PR.val []
  (NtI.mk j.bs j.o j.n j.k j.l true).res).isEmpty, LOut.mk (AX.exit 0) [(3, AV.nils)] 3 [(0, bC (ntB_c_p0 bs o n j)), (1, bW j.bs)]), ((NtI.mk j.bs j.o j.n j.k j.l true).res.isOk, LOut.mk (AX.exit 0) [(3, AV.sl 2 0 0 (PR.val [] (NtI.mk j.bs j.o j.n j.k j.l true).res).length (PR.val [] (NtI.mk j.bs j.o j.n j.k j.l true).res).length false)] 3 [(0, bC (ntB_c_p0 bs o n j)), (1, bW j.bs), (2, ABlk.mk true 4 (AC.recs (PR.val [] (NtI.mk j.bs j.o j.n j.k j.l true).res).length fun (i : Nat) => [nI ((PR.val [] (NtI.mk j.bs j.o j.n j.k j.l true).res).getD i instInhabitedN4.default).a, nI ((PR.val [] (NtI.mk j.bs j.o j.n j.k j.l true).res).getD i instInhabitedN4.default).c, nU ((PR.val [] (NtI.mk j.bs j.o j.n j.k j.l true).res).getD i instInhabitedN4.default).b, nU ((PR.val [] (NtI.mk j.bs j.o j.n j.k j.l true).res).getD i instInhabitedN4.default).d]))]), (true, LOut.mk (AX.panic (AV.ifc T_file_wrong
  (AV.agg [nI (NtI.mk j.bs j.o j.n j.k j.l true).res.err]))) [] 3 [])] = [((NtI.mk bs o n 0 [] false).res.isOk && (PR.val [] (NtI.mk bs o n 0 [] false).res).isEmpty, LOut.mk (AX.exit 0) [(3, AV.nils)] 3 [(0, bC (ntB_c_p2 bs o n)), (1, bW bs)]), ((NtI.mk bs o n 0 [] false).res.isOk, LOut.mk (AX.exit 0) [(3, AV.sl 2 0 0 (PR.val [] (NtI.mk bs o n 0 [] false).res).length (PR.val [] (NtI.mk bs o n 0 [] false).res).length false)] 3 [(0, bC (ntB_c_p2 bs o n)), (1, bW bs), (2, ABlk.mk true 4 (AC.recs (PR.val [] (NtI.mk bs o n 0 [] false).res).length fun (i : Nat) => [nI ((PR.val [] (NtI.mk bs o n 0 [] false).res).getD i instInhabitedN4.default).a, nI ((PR.val [] (NtI.mk bs o n 0 [] false).res).getD i instInhabitedN4.default).c, nU ((PR.val [] (NtI.mk bs o n 0 [] false).res).getD i instInhabitedN4.default).b, nU ((PR.val [] (NtI.mk bs o n 0 [] false).res).getD i instInhabitedN4.default).d]))]),
  (true, LOut.mk (AX.panic (AV.ifc T_file_wrong (AV.agg [nI (NtI.mk bs o n 0 [] false).res.err]))) [] 3 [])] ∧ (AV.ptr 0 0 0 = AV.ptr 0 0 0 ∧ AV.sl 5 0 0 1 1 false = AV.sl 5 0 0 j.l.length j.l.length false ∧ nI (↑n : Int) = nI (↑j.n : Int) ∧ nI 1 = nI (↑j.k : Int) ∧ True) ∧ bC [AV.sl 1 y_3.o 0 (bs.length - y_3.o) (bs.length - y_3.o) false] = bC [AV.sl 1 j.o 0 (j.bs.length - j.o) (j.bs.length - j.o) false] ∧ bW bs = bW j.bs ∧ (true = true ∧ 4 = 4 ∧ (List.take 4 (List.drop 0 [nI y.n, nI y_1.n, nU y_2.n, nU y_3.n])).length = j.l.length * 4 ∧ ∀ (i : Nat), i < j.l.length → ∀ (j_1 : Nat), j_1 < 4 → (List.take 4 (List.drop 0 [nI y.n, nI y_1.n, nU y_2.n, nU y_3.n])).getD (i * 4 + j_1) AV.any = [nI (j.l.getD i instInhabitedN4.default).a, nI (j.l.getD i instInhabitedN4.default).c, nU (j.l.getD i instInhabitedN4.default).b, nU (j.l.getD i instInhabitedN4.default).d].getD j_1 AV.any) ∧ True) ∧ (∀ (y :
  UpE), upP bs 4294967295 y_2.o = PR.no y.e → sp ((NtI.mk bs o n 0 [] false).res.isOk && (PR.val [] (NtI.mk bs o n 0 [] false).res).isEmpty) False (ntB_c_p1 bs o n y)) ∧ True) ∧ (∀ (y : UpE), upP bs 4294967295 y_1.o = PR.no y.e → sp ((NtI.mk bs o n 0 [] false).res.isOk && (PR.val [] (NtI.mk bs o n 0 [] false).res).isEmpty) False (ntB_c_p1 bs o n y)) ∧ True) ∧ (∀ (y_1 : UpE), upP bs 1099511627776 y.o = PR.no y_1.e → sp ((NtI.mk bs o n 0 [] false).res.isOk && (PR.val [] (NtI.mk bs o n 0 [] false).res).isEmpty) False (sp (NtI.mk bs o n 0 [] false).res.isOk False (([AV.ifc T_file_wrong (AV.agg [nI y_1.e])] = [AV.ifc T_file_wrong (AV.agg [nI (NtI.mk bs o n 0 [] false).res.err])] ∧ True) ∧ True))) ∧ True) ∧ (∀ (y : UpE), upP bs 1099511627776 o = PR.no y.e → sp ((NtI.mk bs o n 0 [] false).res.isOk && (PR.val [] (NtI.mk bs o n 0 [] false).res).isEmpty) False (ntB_c_p1 bs o n y)) ∧ True) (sp
  ((NtI.mk bs o n 0 [] false).res.isOk && (PR.val [] (NtI.mk bs o n 0 [] false).res).isEmpty) ((AV.nils = AV.nils ∧ True) ∧ bC [AV.sl 1 o 0 (bs.length - o) (bs.length - o) false] = bC (ntB_c_p2 bs o n) ∧ bW bs = bW bs ∧ True) (sp (NtI.mk bs o n 0 [] false).res.isOk ((AV.nils = AV.sl 3 0 0 (PR.val [] (NtI.mk bs o n 0 [] false).res).length (PR.val [] (NtI.mk bs o n 0 [] false).res).length false ∧ True) ∧ bC [AV.sl 1 o 0 (bs.length - o) (bs.length - o) false] = bC (ntB_c_p2 bs o n) ∧ bW bs = bW bs ∧ False ∧ True) False))
theorem ntB_c_e (bs : List Int) (o n : Nat) : some (ntB_c_V bs o n) = (some ((rdNotesL Go.Proofs.Tryz.prog).body sp Go.Proofs.Tryz.prog (orK ((numS F_file_reader_int 1099511627776 .i64).orc sp) ((numS F_file_reader_number 4294967295 .u32).orc sp)) (drP sp Go.Proofs.Tryz.prog (orK ((numS F_file_reader_int 1099511627776 .i64).orc sp) ((numS F_file_reader_number 4294967295 .u32).orc sp))) noLo 40 ⟨bs, o, n, 0, [], false⟩)) := by kernel_rfl
theorem nt_step {bs : List Int} {o n k o' : Nat} {l : List N4} {s : Bool} {x : N4} (h : noteP bs o = .ok x o') (hk : k < n) : (NtI.mk bs o' n (k + 1) (l ++ [x]) true).res = (NtI.mk bs o n k l s).res := by
  unfold NtI.res
  simp only []
  rw [show n - k = (n - (k + 1)) + 1 by omega, manyP, h]
  simp only [PR.bind]
  cases manyP (noteP bs) (n - (k + 1)) o' with
  | ok l2 o2 => simp [PR.map]
  | no e => rfl
theorem nt_no {bs : List Int} {o n k : Nat} {l : List N4} {s : Bool} {e : Int} (h : noteP bs o = .no e) (hk : k < n) : (NtI.mk bs o n k l s).res = .no e := by
  unfold NtI.res
  simp only []
  rw [show n - k = (n - (k + 1)) + 1 by omega, manyP, h]
  rfl
theorem nt_end {bs : List Int} {o n k : Nat} {l : List N4} {s : Bool} (hk : n ≤ k) : (NtI.mk bs o n k l s).res = .ok l o := by
  unfold NtI.res
  simp only []
  rw [show n - k = 0 by omega, manyP]
  simp [PR.map]
set_option maxRecDepth 100000 in
set_option maxHeartbeats 4000000 in
theorem ntA_ok (bs : List Int) (o n k : Nat) (l : List N4) (h1 : o ≤ bs.length) (h2 : bs.length ≤ 140737488355328) (h3 : n ≤ 100000) (h4 : k ≤ n) (h5 : l.length = k) (h6 : 1 ≤ k) : ntA_c_V bs o n k l := by
  unfold ntA_c_V ntA_c_p3 ntA_c_p2 ntA_c_p1 ntA_c_p0
  refine spI (fun hk => ?_) (fun hk => ?_)
  · have hk : k < n := by have := of_decide_eq_true hk; omega
    refine ⟨⟨h1, h2⟩, rfl, ⟨rfl, rfl, trivial⟩, (fun y0 g0 => ⟨⟨g0.2.1, h2⟩, rfl, ⟨rfl, rfl, trivial⟩, (fun y1 g1 => ⟨⟨g1.2.1, h2⟩, rfl, ⟨rfl, rfl, trivial⟩, (fun y2 g2 => ⟨⟨g2.2.1, h2⟩, rfl, ⟨rfl, rfl, trivial⟩, (fun y3 g3 => spT ?_ ⟨⟨bs, y3.o, n, k + 1, l ++ [⟨y0.n, y1.n, y2.n, y3.n⟩], true⟩, ⟨g3.2.1, h2, h3, hk, by simp [h5], (fun _ => Nat.succ_le_succ (Nat.zero_le _)), (fun h => by cases h)⟩, ?_, ?_, ?_⟩), (fun y hy => by rw [nt_no (e := y.e) (by simp only [noteP, PR.bind, g0.1, g1.1, g2.1, hy]) hk]; exact ⟨⟨rfl, trivial⟩, trivial⟩), trivial⟩), (fun y hy => by rw [nt_no (e := y.e) (by simp only [noteP, PR.bind, g0.1, g1.1, hy]) hk]; exact ⟨⟨rfl, trivial⟩, trivial⟩), trivial⟩), (fun y hy => by rw [nt_no (e := y.e) (by simp only [noteP, PR.bind, g0.1, hy]) hk]; exact ⟨⟨rfl, trivial⟩, trivial⟩), trivial⟩), (fun y hy => by rw [nt_no (e := y.e) (by simp only [noteP, PR.bind, hy]) hk]; exact ⟨⟨rfl, trivial⟩, trivial⟩), trivial⟩
    · simp; omega
    · show n - (k + 1) < n - k; omega
    · simp only []
      rw [nt_step (s := true) (bs := bs) (o := o) (o' := y3.o) (x := ⟨y0.n, y1.n, y2.n, y3.n⟩) (by simp only [noteP, PR.bind, g0.1, g1.1, g2.1, g3.1]) hk]
    · have hw : IntKind.wrap .i64 ((k : Int) + 1) = ((k + 1 : Nat) : Int) := by rw [IntWalk.i64_in _ (by omega)]; omega
      rw [hw]
      refine ⟨⟨rfl, by simp, rfl, rfl, trivial⟩, rfl, rfl, ⟨rfl, rfl, by simp, fun i hi => ?_⟩, trivial⟩
      have hi : i < l.length + 1 := by simpa using hi
      by_cases hik : i < l.length
      · simp only [blt_true hik, cond_true, Nat.zero_add, List.getD_eq_getElem?_getD, List.getElem?_append_left hik]
      · obtain rfl : i = l.length := by omega
        simp only [blt_false hik, cond_false, Nat.sub_self, List.getD_eq_getElem?_getD, List.getElem?_append_right (Nat.le_refl _)]
        rfl
  · have hk : n ≤ k := by have := of_decide_eq_false hk; omega
    rw [nt_end hk]
    refine spF ?_ ⟨⟨rfl, trivial⟩, rfl, rfl, ⟨rfl, rfl, rfl, fun _ _ => rfl⟩, trivial⟩
    cases l with
    | nil => simp at h5; omega
    | cons => rfl
set_option maxRecDepth 100000 in
set_option maxHeartbeats 4000000 in
theorem ntB_ok (bs : List Int) (o n : Nat) (h1 : o ≤ bs.length) (h2 : bs.length ≤ 140737488355328) (h3 : n ≤ 100000) : ntB_c_V bs o n := by
  unfold ntB_c_V ntB_c_p2 ntB_c_p1 ntB_c_p0
  refine spI (fun hk => ?_) (fun hk => ?_)
  · have hk : 0 < n := by have := of_decide_eq_true hk; omega
    refine ⟨⟨h1, h2⟩, rfl, ⟨rfl, rfl, trivial⟩, (fun y0 g0 => ⟨⟨g0.2.1, h2⟩, rfl, ⟨rfl, rfl, trivial⟩, (fun y1 g1 => ⟨⟨g1.2.1, h2⟩, rfl, ⟨rfl, rfl, trivial⟩, (fun y2 g2 => ⟨⟨g2.2.1, h2⟩, rfl, ⟨rfl, rfl, trivial⟩, (fun y3 g3 => ⟨⟨bs, y3.o, n, 1, [⟨y0.n, y1.n, y2.n, y3.n⟩], true⟩, ⟨g3.2.1, h2, h3, hk, rfl, (fun _ => Nat.le_refl _), (fun h => by cases h)⟩, ?_, ?_, ?_⟩), (fun y hy => by rw [nt_no (e := y.e) (by simp only [noteP, PR.bind, g0.1, g1.1, g2.1, hy]) hk]; exact ⟨⟨rfl, trivial⟩, trivial⟩), trivial⟩), (fun y hy => by rw [nt_no (e := y.e) (by simp only [noteP, PR.bind, g0.1, g1.1, hy]) hk]; exact ⟨⟨rfl, trivial⟩, trivial⟩), trivial⟩), (fun y hy => by rw [nt_no (e := y.e) (by simp only [noteP, PR.bind, g0.1, hy]) hk]; exact ⟨⟨rfl, trivial⟩, trivial⟩), trivial⟩), (fun y hy => by rw [nt_no (e := y.e) (by simp only [noteP, PR.bind, hy]) hk]; exact ⟨⟨rfl, trivial⟩, trivial⟩), trivial⟩
    · show n - 1 < n - 0; omega
    · simp only []
      rw [← nt_step (s := false) (l := []) (bs := bs) (o := o) (o' := y3.o) (x := ⟨y0.n, y1.n, y2.n, y3.n⟩) (by simp only [noteP, PR.bind, g0.1, g1.1, g2.1, g3.1]) hk]
      rfl
    · refine ⟨⟨rfl, rfl, rfl, rfl, trivial⟩, rfl, rfl, ⟨rfl, rfl, rfl, fun i hi j hj => ?_⟩, trivial⟩
      obtain rfl : i = 0 := by have : i < 1 := hi
                               omega
      rw [Nat.zero_mul, Nat.zero_add]
      rfl
  · have hk : n ≤ 0 := by have := of_decide_eq_false hk; omega
    rw [nt_end hk]
    exact ⟨⟨rfl, trivial⟩, rfl, rfl, trivial⟩
set_option maxRecDepth 100000 in
theorem rdNotesL_ok : (rdNotesL Go.Proofs.Tryz.prog).OK Go.Proofs.Tryz.prog := by
  have hc := orK_ok (Con.orc_ok intS_ok) (Con.orc_ok numberS_ok)
  refine Lp.ok_of hc (drP_ok hmix _ hc) (noLo_ok _) (by decide) 40 (fun i hi => ?_)
  obtain ⟨bs, o, n, k, l, s⟩ := i
  obtain ⟨h1, h2, h3, h4, h5, h6, h7⟩ := hi
  cases s with
  | true =>
    rw [← Option.some.inj (ntA_c_e bs o n k l)]
    exact ntA_ok bs o n k l h1 h2 h3 h4 h5 (h6 rfl)
  | false =>
    have e : k = 0 := h7 rfl
    have e2 : l = [] := by simp only [] at h5; rw [e] at h5; exact List.eq_nil_of_length_eq_zero h5
    subst e e2
    rw [← Option.some.inj (ntB_c_e bs o n)]
    exact ntB_ok bs o n h1 h2 h3
abbrev nsC_c_p0 (x : At) (y : UpE) : List AV :=
  [AV.sl 1 (NtI.mk x.bs y.o y.n.toNat 0 [] false).res.at_ 0 (x.bs.length - (NtI.mk x.bs y.o y.n.toNat 0 [] false).res.at_) (x.bs.length - (NtI.mk x.bs y.o y.n.toNat 0 [] false).res.at_) false]
abbrev nsC_c_p1 (x : At) (y : UpE) : List AV :=
  [AV.sl 2 0 0 (PR.val [] (NtI.mk x.bs y.o y.n.toNat 0 [] false).res).length (PR.val [] (NtI.mk x.bs y.o y.n.toNat 0 [] false).res).length false]
abbrev nsC_c_p2 (x : At) : Prop :=
  ∃ (y : NtE), (ntP x.bs x.o = PR.ok y.l y.o ∧ y.o ≤ x.bs.length ∧ 0 < y.l.length ∧ y.l.length ≤ 4096) ∧ False
abbrev nsC_c_p3 (x : At) (y_1 : NtE) : Prop :=
  ntP x.bs x.o = PR.ok y_1.l y_1.o ∧ y_1.o ≤ x.bs.length ∧ 0 < y_1.l.length ∧ y_1.l.length ≤ 4096
def nsC_c_V (x : At) : Prop :=
  (x.o ≤ x.bs.length ∧ x.bs.length ≤ 140737488355328) ∧ [AV.ptr 0 0 0, nI 4096] = [AV.ptr 0 0 0, nI 4096] ∧ (some (bC [AV.sl 1 x.o 0 (x.bs.length - x.o) (x.bs.length - x.o) false]) = some (bC [AV.sl 1 x.o 0 (x.bs.length - x.o) (x.bs.length - x.o) false]) ∧ some (bW x.bs) = some (bW x.bs) ∧ True) ∧ (∀ (y : UpE), cntP x.bs 4096 x.o = PR.ok y.n y.o ∧ y.o ≤ x.bs.length ∧ 0 ≤ y.n ∧ y.n ≤ 4096 → same (loopOf Proofs.Tryz.prog F_file_reader_notes 0) (loopOf Proofs.Tryz.prog F_file_reader_notes 0) ∧ (y.o ≤ x.bs.length ∧ x.bs.length ≤ 140737488355328 ∧ y.n.toNat ≤ 100000 ∧ 0 ≤ y.n.toNat ∧ 0 = 0 ∧ (false = true → 1 ≤ 0) ∧ (false = false → 0 = 0)) ∧ ((AV.ptr 0 0 0 = AV.ptr 0 0 0 ∧ AV.nils = AV.nils ∧ nI y.n = nI (↑y.n.toNat : Int) ∧ nI 0 = nI 0 ∧ True) ∧ bC [AV.sl 1 y.o 0 (x.bs.length - y.o) (x.bs.length - y.o) false] = bC [AV.sl 1 y.o 0 (x.bs.length - y.o) (x.bs.length - y.o) false] ∧ bW x.bs = bW
  x.bs ∧ True) ∧ sp ((NtI.mk x.bs y.o y.n.toNat 0 [] false).res.isOk && (PR.val [] (NtI.mk x.bs y.o y.n.toNat 0 [] false).res).isEmpty) ((∃ (y_1 : NtE), (ntP x.bs x.o = PR.ok [] y_1.o ∧ y_1.o ≤ x.bs.length) ∧ [AV.nils] = [AV.nils] ∧ bC (nsC_c_p0 x y) = bC [AV.sl 1 y_1.o 0 (x.bs.length - y_1.o) (x.bs.length - y_1.o) false] ∧ bW x.bs = bW x.bs ∧ True) ∨ (∃ (y_1 : NtE), (nsC_c_p3 x y_1) ∧ [AV.nils] = [AV.sl 3 0 0 y_1.l.length y_1.l.length false] ∧ bC (nsC_c_p0 x y) = bC [AV.sl 1 y_1.o 0 (x.bs.length - y_1.o) (x.bs.length - y_1.o) false] ∧ bW x.bs = bW x.bs ∧ False ∧ True) ∨ ∃ (y : NtE), ntP x.bs x.o = PR.no y.e ∧ False) (sp (NtI.mk x.bs y.o y.n.toNat 0 [] false).res.isOk ((∃ (y_1 : NtE), (ntP x.bs x.o = PR.ok [] y_1.o ∧ y_1.o ≤ x.bs.length) ∧ (nsC_c_p1 x y) = [AV.nils] ∧ bC (nsC_c_p0 x y) = bC [AV.sl 1 y_1.o 0 (x.bs.length - y_1.o) (x.bs.length - y_1.o) false] ∧ bW x.bs = bW x.bs ∧ True) ∨ (∃
  (y_1 : NtE), (nsC_c_p3 x y_1) ∧ (nsC_c_p1 x y) = [AV.sl 2 0 0 y_1.l.length y_1.l.length false] ∧ bC (nsC_c_p0 x y) = bC [AV.sl 1 y_1.o 0 (x.bs.length - y_1.o) (x.bs.length - y_1.o) false] ∧ bW x.bs = bW x.bs ∧ (true = true ∧ 4 = 4 ∧ (PR.val [] (NtI.mk x.bs y.o y.n.toNat 0 [] false).res).length = y_1.l.length ∧ ∀ (i : Nat), i < (PR.val [] (NtI.mk x.bs y.o y.n.toNat 0 [] false).res).length → [nI ((PR.val [] (NtI.mk x.bs y.o y.n.toNat 0 [] false).res).getD i instInhabitedN4.default).a, nI ((PR.val [] (NtI.mk x.bs y.o y.n.toNat 0 [] false).res).getD i instInhabitedN4.default).c, nU ((PR.val [] (NtI.mk x.bs y.o y.n.toNat 0 [] false).res).getD i instInhabitedN4.default).b, nU ((PR.val [] (NtI.mk x.bs y.o y.n.toNat 0 [] false).res).getD i instInhabitedN4.default).d] = [nI (y_1.l.getD i instInhabitedN4.default).a, nI (y_1.l.getD i instInhabitedN4.default).c, nU (y_1.l.getD i
  instInhabitedN4.default).b, nU (y_1.l.getD i instInhabitedN4.default).d]) ∧ True) ∨ ∃ (y : NtE), ntP x.bs x.o = PR.no y.e ∧ False) ((∃ (y : NtE), (ntP x.bs x.o = PR.ok [] y.o ∧ y.o ≤ x.bs.length) ∧ False) ∨ (nsC_c_p2 x) ∨ ∃ (y_1 : NtE), ntP x.bs x.o = PR.no y_1.e ∧ [AV.ifc T_file_wrong (AV.agg [nI (NtI.mk x.bs y.o y.n.toNat 0 [] false).res.err])] = [AV.ifc T_file_wrong (AV.agg [nI y_1.e])] ∧ True))) ∧ (∀ (y : UpE), cntP x.bs 4096 x.o = PR.no y.e → (∃ (y : NtE), (ntP x.bs x.o = PR.ok [] y.o ∧ y.o ≤ x.bs.length) ∧ False) ∨ (nsC_c_p2 x) ∨ ∃ (y_1 : NtE), ntP x.bs x.o = PR.no y_1.e ∧ [AV.ifc T_file_wrong (AV.agg [nI y.e])] = [AV.ifc T_file_wrong (AV.agg [nI y_1.e])] ∧ True) ∧ True
theorem nsC_c_e (x : At) : some (nsC_c_V x) = (rdNotesC.cond sp Go.Proofs.Tryz.prog (drP sp Go.Proofs.Tryz.prog) (forF F_file_reader_notes ((rdNotesL Go.Proofs.Tryz.prog).lo sp Go.Proofs.Tryz.prog (isLoop 3) (loopOf Go.Proofs.Tryz.prog F_file_reader_notes 0)) noLoops) (countS.orc sp) 40 2 x) := by kernel_rfl
set_option maxRecDepth 100000 in
theorem rdNotesC_ok : rdNotesC.OK Go.Proofs.Tryz.prog := by
  refine Con.by hmix (forF_ok (Lp.lo_ok rdNotesL_ok rfl) (noLoops_ok _)) (Con.orc_ok cntS_ok) nsC_c_V nsC_c_e (fun x hx => ?_)
  obtain ⟨h1, h2⟩ := hx
  unfold nsC_c_V nsC_c_p3 nsC_c_p2 nsC_c_p1 nsC_c_p0
  refine ⟨⟨h1, h2⟩, rfl, ⟨rfl, rfl, trivial⟩, (fun y g => ⟨rfl, ⟨g.2.1, h2, by have := g.2.2.2; omega, Nat.zero_le _, rfl, (fun h => by cases h), fun _ => rfl⟩, ⟨⟨rfl, rfl, by rw [Int.toNat_of_nonneg g.2.2.1], rfl, trivial⟩, rfl, rfl, trivial⟩, ?_⟩), (fun y hy => .inr (.inr ⟨⟨[], 0, y.e⟩, by simp only [ntP, hy, PR.bind], rfl, trivial⟩)), trivial⟩
  have hr : ntP x.bs x.o = (NtI.mk x.bs y.o y.n.toNat 0 [] false).res := by
    unfold ntP
    rw [g.1]
    simp only [PR.bind, NtI.res, Nat.sub_zero]
    cases manyP (noteP x.bs) y.n.toNat y.o <;> simp [PR.map]
  have hb : ∀ l o, ntP x.bs x.o = .ok l o → o ≤ x.bs.length ∧ l.length ≤ 4096 := by
    intro l o h
    unfold ntP at h
    rw [g.1] at h
    obtain ⟨q1, q2⟩ := manyP_le (fun o a o' => noteP_le) _ _ h g.2.1
    have := g.2.2.2
    exact ⟨q1, by omega⟩
  generalize (NtI.mk x.bs y.o y.n.toNat 0 [] false).res = r at hr ⊢
  cases r with
  | ok l o =>
    obtain ⟨b1, b2⟩ := hb l o hr
    cases l with
    | nil => exact .inl ⟨⟨[], o, 0⟩, ⟨hr, b1⟩, rfl, rfl, rfl, trivial⟩
    | cons a l => exact .inr (.inl ⟨⟨a :: l, o, 0⟩, ⟨hr, b1, Nat.succ_pos _, b2⟩, rfl, rfl, rfl, ⟨rfl, rfl, rfl, fun _ _ => rfl⟩, trivial⟩)
  | no e => exact .inr (.inr ⟨⟨[], 0, e⟩, hr, rfl, trivial⟩)
abbrev evA_c_p0 (bs : List Int) (o n k : Nat) (l : List E3) (i : Nat) : List AV :=
  [nI ((PR.val [] (EvI.mk bs o n k l true).res).getD i instInhabitedE3.default).a, nI ((PR.val [] (EvI.mk bs o n k l true).res).getD i instInhabitedE3.default).k, nB ((PR.val [] (EvI.mk bs o n k l true).res).getD i instInhabitedE3.default).x]
abbrev evA_c_p1 (bs : List Int) (o n k : Nat) (l : List E3) (j : EvI) : List AV :=
  [AV.sl 1 (EvI.mk j.bs j.o j.n j.k j.l true).res.at_ 0 (j.bs.length - (EvI.mk j.bs j.o j.n j.k j.l true).res.at_) (j.bs.length - (EvI.mk j.bs j.o j.n j.k j.l true).res.at_) false]
abbrev evA_c_p2 (bs : List Int) (o n k : Nat) (l : List E3) (y : UpE) : Prop :=
  sp (EvI.mk bs o n k l true).res.isOk False (([AV.ifc T_file_wrong (AV.agg [nI y.e])] = [AV.ifc T_file_wrong (AV.agg [nI (EvI.mk bs o n k l true).res.err])] ∧ True) ∧ True)
abbrev evA_c_p3 (bs : List Int) (o n k : Nat) (l : List E3) : List AV :=
  [AV.sl 1 (EvI.mk bs o n k l true).res.at_ 0 (bs.length - (EvI.mk bs o n k l true).res.at_) (bs.length - (EvI.mk bs o n k l true).res.at_) false]
def evA_c_V (bs : List Int) (o n k : Nat) (l : List E3) : Prop :=
  sp (decide ((↑k : Int) < (↑n : Int))) ((o ≤ bs.length ∧ bs.length ≤ 140737488355328) ∧ [AV.ptr 0 0 0] = [AV.ptr 0 0 0] ∧ (some (bC [AV.sl 1 o 0 (bs.length - o) (bs.length - o) false]) = some (bC [AV.sl 1 o 0 (bs.length - o) (bs.length - o) false]) ∧ some (bW bs) = some (bW bs) ∧ True) ∧ (∀ (y : UpE), upP bs 1099511627776 o = PR.ok y.n y.o ∧ y.o ≤ bs.length ∧ 0 ≤ y.n ∧ y.n ≤ 1099511627776 → (y.o ≤ bs.length ∧ bs.length ≤ 140737488355328) ∧ [AV.ptr 0 0 0] = [AV.ptr 0 0 0] ∧ (some (bC [AV.sl 1 y.o 0 (bs.length - y.o) (bs.length - y.o) false]) = some (bC [AV.sl 1 y.o 0 (bs.length - y.o) (bs.length - y.o) false]) ∧ some (bW bs) = some (bW bs) ∧ True) ∧ (∀ (y_1 : UpE), upP bs 1099511627776 y.o = PR.ok y_1.n y_1.o ∧ y_1.o ≤ bs.length ∧ 0 ≤ y_1.n ∧ y_1.n ≤ 1099511627776 → (y_1.o ≤ bs.length ∧ bs.length ≤ 140737488355328) ∧ [AV.ptr 0 0 0, nL 255] = [AV.ptr 0 0 0, nL 255] ∧ (some (bC [AV.sl 1 y_1.o
  0 (bs.length - y_1.o) (bs.length - y_1.o) false]) = some (bC [AV.sl 1 y_1.o 0 (bs.length - y_1.o) (bs.length - y_1.o) false]) ∧ some (bW bs) = some (bW bs) ∧ True) ∧ (∀ (y_2 : UpE), upP bs 255 y_1.o = PR.ok y_2.n y_2.o ∧ y_2.o ≤ bs.length ∧ 0 ≤ y_2.n ∧ y_2.n ≤ 255 → sp (decide (0 + l.length ≤ l.length) && true && true && true && true && decide ((l.length + 1) * 24 ≤ 140737488355328) && decide (l.length + 1 ≤ 9223372036854775807)) (∃ (j : EvI), (j.o ≤ j.bs.length ∧ j.bs.length ≤ 140737488355328 ∧ j.n ≤ 100000 ∧ j.k ≤ j.n ∧ j.l.length = j.k ∧ (true = true → 1 ≤ j.k) ∧ (true = false → j.k = 0)) ∧ j.n - j.k < n - k ∧ [((EvI.mk j.bs j.o j.n j.k j.l true).res.isOk && (PR.val [] (EvI.mk j.bs j.o j.n j.k j.l true).res).isEmpty, LOut.mk (AX.exit 0) [(3, AV.nils)] 3 [(0, bC (evA_c_p1 bs o n k l j)), (1, bW j.bs)]), ((EvI.mk j.bs j.o j.n j.k j.l true).res.isOk, LOut.mk (AX.exit 0) [(3, AV.sl 2 0 0
  (PR.val [] (EvI.mk j.bs j.o j.n j.k j.l true).res).length (PR.val [] (EvI.mk j.bs j.o j.n j.k j.l true).res).length false)] 3 [(0, bC (evA_c_p1 bs o n k l j)), (1, bW j.bs), (2, ABlk.mk true 3 (AC.recs (PR.val [] (EvI.mk j.bs j.o j.n j.k j.l true).res).length fun (i : Nat) => [nI ((PR.val [] (EvI.mk j.bs j.o j.n j.k j.l true).res).getD i instInhabitedE3.default).a, nI ((PR.val [] (EvI.mk j.bs j.o j.n j.k j.l true).res).getD i instInhabitedE3.default).k, nB ((PR.val [] (EvI.mk j.bs j.o j.n j.k j.l true).res).getD i instInhabitedE3.default).x]))]), (true, LOut.mk (AX.panic (AV.ifc T_file_wrong (AV.agg [nI (EvI.mk j.bs j.o j.n j.k j.l true).res.err]))) [] 3 [])] = [((EvI.mk bs o n k l true).res.isOk && (PR.val [] (EvI.mk bs o n k l true).res).isEmpty, LOut.mk (AX.exit 0) [(3, AV.nils)] 3 [(0, bC (evA_c_p3 bs o n k l)), (1, bW bs)]), ((EvI.mk bs o n k l true).res.isOk, LOut.mk (AX.exit 0)
  [(3, AV.sl 2 0 0 (PR.val [] (EvI.mk bs o n k l true).res).length (PR.val [] (EvI.mk bs o n k l true).res).length false)] 3 [(0, bC (evA_c_p3 bs o n k l)), (1, bW bs), (2, ABlk.mk true 3 (AC.recs (PR.val [] (EvI.mk bs o n k l true).res).length fun (i : Nat) => (evA_c_p0 bs o n k l i)))]), (true, LOut.mk (AX.panic (AV.ifc T_file_wrong (AV.agg [nI (EvI.mk bs o n k l true).res.err]))) [] 3 [])] ∧ (AV.ptr 0 0 0 = AV.ptr 0 0 0 ∧ AV.sl 5 0 0 (l.length + 1) (l.length + 1) false = AV.sl 5 0 0 j.l.length j.l.length false ∧ nI (↑n : Int) = nI (↑j.n : Int) ∧ nI (IntKind.i64.wrap ((↑k : Int) + 1)) = nI (↑j.k : Int) ∧ True) ∧ bC [AV.sl 1 y_2.o 0 (bs.length - y_2.o) (bs.length - y_2.o) false] = bC [AV.sl 1 j.o 0 (j.bs.length - j.o) (j.bs.length - j.o) false] ∧ bW bs = bW j.bs ∧ (true = true ∧ 3 = 3 ∧ l.length + (List.take 3 (List.drop 0 [nI y.n, nI y_1.n, nB (IntKind.u8.wrap y_2.n)])).length / 3 =
  j.l.length ∧ ∀ (i : Nat), i < l.length + (List.take 3 (List.drop 0 [nI y.n, nI y_1.n, nB (IntKind.u8.wrap y_2.n)])).length / 3 → (bif i.blt l.length then [nI (l.getD (0 + i) instInhabitedE3.default).a, nI (l.getD (0 + i) instInhabitedE3.default).k, nB (l.getD (0 + i) instInhabitedE3.default).x] else List.take 3 (List.drop ((i - l.length) * 3) (List.take 3 (List.drop 0 [nI y.n, nI y_1.n, nB (IntKind.u8.wrap y_2.n)])))) = [nI (j.l.getD i instInhabitedE3.default).a, nI (j.l.getD i instInhabitedE3.default).k, nB (j.l.getD i instInhabitedE3.default).x]) ∧ True) False) ∧ (∀ (y : UpE), upP bs 255 y_1.o = PR.no y.e → sp ((EvI.mk bs o n k l true).res.isOk && (PR.val [] (EvI.mk bs o n k l true).res).isEmpty) False (evA_c_p2 bs o n k l y)) ∧ True) ∧ (∀ (y_1 : UpE), upP bs 1099511627776 y.o = PR.no y_1.e → sp ((EvI.mk bs o n k l true).res.isOk && (PR.val [] (EvI.mk bs o n k l true).res).isEmpty)
  False (sp (EvI.mk bs o n k l true).res.isOk False (([AV.ifc T_file_wrong (AV.agg [nI y_1.e])] = [AV.ifc T_file_wrong (AV.agg [nI (EvI.mk bs o n k l true).res.err])] ∧ True) ∧ True))) ∧ True) ∧ (∀ (y : UpE), upP bs 1099511627776 o = PR.no y.e → sp ((EvI.mk bs o n k l true).res.isOk && (PR.val [] (EvI.mk bs o n k l true).res).isEmpty) False (evA_c_p2 bs o n k l y)) ∧ True) (sp ((EvI.mk bs o n k l true).res.isOk && (PR.val [] (EvI.mk bs o n k l true).res).isEmpty) ((AV.sl 2 0 0 l.length l.length false = AV.nils ∧ True) ∧ bC [AV.sl 1 o 0 (bs.length - o) (bs.length - o) false] = bC (evA_c_p3 bs o n k l) ∧ bW bs = bW bs ∧ True) (sp (EvI.mk bs o n k l true).res.isOk ((AV.sl 2 0 0 l.length l.length false = AV.sl 2 0 0 (PR.val [] (EvI.mk bs o n k l true).res).length (PR.val [] (EvI.mk bs o n k l true).res).length false ∧ True) ∧ bC [AV.sl 1 o 0 (bs.length - o) (bs.length - o) false] = bC (evA_c_p3
  bs o n k l) ∧ bW bs = bW bs ∧ (true = true ∧ 3 = 3 ∧ l.length = (PR.val [] (EvI.mk bs o n k l true).res).length ∧ ∀ (i : Nat), i < l.length → [nI (l.getD i instInhabitedE3.default).a, nI (l.getD i instInhabitedE3.default).k, nB (l.getD i instInhabitedE3.default).x] = (evA_c_p0 bs o n k l i)) ∧ True) False))
theorem evA_c_e (bs : List Int) (o n k : Nat) (l : List E3) : some (evA_c_V bs o n k l) = (some ((rdEvsL Go.Proofs.Tryz.prog).body sp Go.Proofs.Tryz.prog (orK ((numS F_file_reader_int 1099511627776 .i64).orc sp) (upToS.orc sp)) (drP sp Go.Proofs.Tryz.prog (orK ((numS F_file_reader_int 1099511627776 .i64).orc sp) (upToS.orc sp))) noLo 40 ⟨bs, o, n, k, l, true⟩)) := by kernel_rfl
abbrev evB_c_p0 (bs : List Int) (o n : Nat) (j : EvI) : List AV :=
  [AV.sl 1 (EvI.mk j.bs j.o j.n j.k j.l true).res.at_ 0 (j.bs.length - (EvI.mk j.bs j.o j.n j.k j.l true).res.at_) (j.bs.length - (EvI.mk j.bs j.o j.n j.k j.l true).res.at_) false]
abbrev evB_c_p1 (bs : List Int) (o n : Nat) (y : UpE) : Prop :=
  sp (EvI.mk bs o n 0 [] false).res.isOk False (([AV.ifc T_file_wrong (AV.agg [nI y.e])] = [AV.ifc T_file_wrong (AV.agg [nI (EvI.mk bs o n 0 [] false).res.err])] ∧ True) ∧ True)
abbrev evB_c_p2 (bs : List Int) (o n : Nat) : List AV :=
  [AV.sl 1 (EvI.mk bs o n 0 [] false).res.at_ 0 (bs.length - (EvI.mk bs o n 0 [] false).res.at_) (bs.length - (EvI.mk bs o n 0 [] false).res.at_) false]
def evB_c_V (bs : List Int) (o n : Nat) : Prop :=
  sp (decide (0 < (↑n : Int))) ((o ≤ bs.length ∧ bs.length ≤ 140737488355328) ∧ [AV.ptr 0 0 0] = [AV.ptr 0 0 0] ∧ (some (bC [AV.sl 1 o 0 (bs.length - o) (bs.length - o) false]) = some (bC [AV.sl 1 o 0 (bs.length - o) (bs.length - o) false]) ∧ some (bW bs) = some (bW bs) ∧ True) ∧ (∀ (y : UpE), upP bs 1099511627776 o = PR.ok y.n y.o ∧ y.o ≤ bs.length ∧ 0 ≤ y.n ∧ y.n ≤ 1099511627776 → (y.o ≤ bs.length ∧ bs.length ≤ 140737488355328) ∧ [AV.ptr 0 0 0] = [AV.ptr 0 0 0] ∧ (some (bC [AV.sl 1 y.o 0 (bs.length - y.o) (bs.length - y.o) false]) = some (bC [AV.sl 1 y.o 0 (bs.length - y.o) (bs.length - y.o) false]) ∧ some (bW bs) = some (bW bs) ∧ True) ∧ (∀ (y_1 : UpE), upP bs 1099511627776 y.o = PR.ok y_1.n y_1.o ∧ y_1.o ≤ bs.length ∧ 0 ≤ y_1.n ∧ y_1.n ≤ 1099511627776 → (y_1.o ≤ bs.length ∧ bs.length ≤ 140737488355328) ∧ [AV.ptr 0 0 0, nL 255] = [AV.ptr 0 0 0, nL 255] ∧ (some (bC [AV.sl 1 y_1.o 0
  (bs.length - y_1.o) (bs.length - y_1.o) false]) = some (bC [AV.sl 1 y_1.o 0 (bs.length - y_1.o) (bs.length - y_1.o) false]) ∧ some (bW bs) = some (bW bs) ∧ True) ∧ (∀ (y_2 : UpE), upP bs 255 y_1.o = PR.ok y_2.n y_2.o ∧ y_2.o ≤ bs.length ∧ 0 ≤ y_2.n ∧ y_2.n ≤ 255 → ∃ (j : EvI), (j.o ≤ j.bs.length ∧ j.bs.length ≤ 140737488355328 ∧ j.n ≤ 100000 ∧ j.k ≤ j.n ∧ j.l.length = j.k ∧ (true = true → 1 ≤ j.k) ∧ (true = false → j.k = 0)) ∧ j.n - j.k < n - 0 ∧ [((EvI.mk j.bs j.o j.n j.k j.l true).res.isOk && (PR.val [] (EvI.mk j.bs j.o j.n j.k j.l true).res).isEmpty, LOut.mk (AX.exit 0) [(3, AV.nils)] 3 [(0, bC (evB_c_p0 bs o n j)), (1, bW j.bs)]), ((EvI.mk j.bs j.o j.n j.k j.l true).res.isOk, LOut.mk (AX.exit 0) [(3, AV.sl 2 0 0 (PR.val [] (EvI.mk j.bs j.o j.n j.k j.l true).res).length (PR.val [] (EvI.mk j.bs j.o j.n j.k j.l true).res).length false)] 3 [(0, bC (evB_c_p0 bs o n j)), (1, bW j.bs), (2,
  ABlk.mk true 3 (AC.recs (PR.val [] (EvI.mk j.bs j.o j.n j.k j.l true).res).length fun (i : Nat) => [nI ((PR.val [] (EvI.mk j.bs j.o j.n j.k j.l true).res).getD i instInhabitedE3.default).a, nI ((PR.val [] (EvI.mk j.bs j.o j.n j.k j.l true).res).getD i instInhabitedE3.default).k, nB ((PR.val [] (EvI.mk j.bs j.o j.n j.k j.l true).res).getD i instInhabitedE3.default).x]))]), (true, LOut.mk (AX.panic (AV.ifc T_file_wrong (AV.agg [nI (EvI.mk j.bs j.o j.n j.k j.l true).res.err]))) [] 3 [])] = [((EvI.mk bs o n 0 [] false).res.isOk && (PR.val [] (EvI.mk bs o n 0 [] false).res).isEmpty, LOut.mk (AX.exit 0) [(3, AV.nils)] 3 [(0, bC (evB_c_p2 bs o n)), (1, bW bs)]), ((EvI.mk bs o n 0 [] false).res.isOk, LOut.mk (AX.exit 0) [(3, AV.sl 2 0 0 (PR.val [] (EvI.mk bs o n 0 [] false).res).length (PR.val [] (EvI.mk bs o n 0 [] false).res).length false)] 3 [(0, bC (evB_c_p2 bs o n)), (1, bW bs), (2, ABlk.mk
  true 3 (AC.recs (PR.val [] (EvI.mk bs o n 0 [] false).res).length fun (i : Nat) => [nI ((PR.val [] (EvI.mk bs o n 0 [] false).res).getD i instInhabitedE3.default).a, nI ((PR.val [] (EvI.mk bs o n 0 [] false).res).getD i instInhabitedE3.default).k, nB ((PR.val [] (EvI.mk bs o n 0 [] false).res).getD i instInhabitedE3.default).x]))]), (true, LOut.mk (AX.panic (AV.ifc T_file_wrong (AV.agg [nI (EvI.mk bs o n 0 [] false).res.err]))) [] 3 [])] ∧ (AV.ptr 0 0 0 = AV.ptr 0 0 0 ∧ AV.sl 5 0 0 1 1 false = AV.sl 5 0 0 j.l.length j.l.length false ∧ nI (↑n : Int) = nI (↑j.n : Int) ∧ nI 1 = nI (↑j.k : Int) ∧ True) ∧ bC [AV.sl 1 y_2.o 0 (bs.length - y_2.o) (bs.length - y_2.o) false] = bC [AV.sl 1 j.o 0 (j.bs.length - j.o) (j.bs.length - j.o) false] ∧ bW bs = bW j.bs ∧ (true = true ∧ 3 = 3 ∧ (List.take 3 (List.drop 0 [nI y.n, nI y_1.n, nB (IntKind.u8.wrap y_2.n)])).length = j.l.length * 3 ∧ ∀ (i : Nat), i
  < j.l.length → ∀ (j_1 : Nat), j_1 < 3 → (List.take 3 (List.drop 0 [nI y.n, nI y_1.n, nB (IntKind.u8.wrap y_2.n)])).getD (i * 3 + j_1) AV.any = [nI (j.l.getD i instInhabitedE3.default).a, nI (j.l.getD i instInhabitedE3.default).k, nB (j.l.getD i instInhabitedE3.default).x].getD j_1 AV.any) ∧ True) ∧ (∀ (y : UpE), upP bs 255 y_1.o = PR.no y.e → sp ((EvI.mk bs o n 0 [] false).res.isOk && (PR.val [] (EvI.mk bs o n 0 [] false).res).isEmpty) False (evB_c_p1 bs o n y)) ∧ True) ∧ (∀ (y_1 : UpE), upP bs 1099511627776 y.o = PR.no y_1.e → sp ((EvI.mk bs o n 0 [] false).res.isOk && (PR.val [] (EvI.mk bs o n 0 [] false).res).isEmpty) False (sp (EvI.mk bs o n 0 [] false).res.isOk False (([AV.ifc T_file_wrong (AV.agg [nI y_1.e])] = [AV.ifc T_file_wrong (AV.agg [nI (EvI.mk bs o n 0 [] false).res.err])] ∧ True) ∧ True))) ∧ True) ∧ (∀ (y : UpE), upP bs 1099511627776 o = PR.no y.e → sp ((EvI.mk bs o n 0 []
  false).res.isOk && (PR.val [] (EvI.mk bs o n 0 [] false).res).isEmpty) False (evB_c_p1 bs o n y)) ∧ True) (sp ((EvI.mk bs o n 0 [] false).res.isOk && (PR.val [] (EvI.mk bs o n 0 [] false).res).isEmpty) ((AV.nils = AV.nils ∧ True) ∧ bC [AV.sl 1 o 0 (bs.length - o) (bs.length - o) false] = bC (evB_c_p2 bs o n) ∧ bW bs = bW bs ∧ True) (sp (EvI.mk bs o n 0 [] false).res.isOk ((AV.nils = AV.sl 3 0 0 (PR.val [] (EvI.mk bs o n 0 [] false).res).length (PR.val [] (EvI.mk bs o n 0 [] false).res).length false ∧ True) ∧ bC [AV.sl 1 o 0 (bs.length - o) (bs.length - o) false] = bC (evB_c_p2 bs o n) ∧ bW bs = bW bs ∧ False ∧ True) False))
theorem evB_c_e (bs : List Int) (o n : Nat) : some (evB_c_V bs o n) = (some ((rdEvsL Go.Proofs.Tryz.prog).body sp Go.Proofs.Tryz.prog (orK ((numS F_file_reader_int 1099511627776 .i64).orc sp) (upToS.orc sp)) (drP sp Go.Proofs.Tryz.prog (orK ((numS F_file_reader_int 1099511627776 .i64).orc sp) (upToS.orc sp))) noLo 40 ⟨bs, o, n, 0, [], false⟩)) := by kernel_rfl
theorem ev_step {bs : List Int} {o n k o' : Nat} {l : List E3} {s : Bool} {x : E3} (h : evP bs o = .ok x o') (hk : k < n) : (EvI.mk bs o' n (k + 1) (l ++ [x]) true).res = (EvI.mk bs o n k l s).res := by
  unfold EvI.res
  simp only []
  rw [show n - k = (n - (k + 1)) + 1 by omega, manyP, h]
  simp only [PR.bind]
  cases manyP (evP bs) (n - (k + 1)) o' with
  | ok l2 o2 => simp [PR.map]
  | no e => rfl
theorem ev_no {bs : List Int} {o n k : Nat} {l : List E3} {s : Bool} {e : Int} (h : evP bs o = .no e) (hk : k < n) : (EvI.mk bs o n k l s).res = .no e := by
  unfold EvI.res
  simp only []
  rw [show n - k = (n - (k + 1)) + 1 by omega, manyP, h]
  rfl
theorem ev_end {bs : List Int} {o n k : Nat} {l : List E3} {s : Bool} (hk : n ≤ k) : (EvI.mk bs o n k l s).res = .ok l o := by
  unfold EvI.res
  simp only []
  rw [show n - k = 0 by omega, manyP]
  simp [PR.map]
set_option maxRecDepth 100000 in
set_option maxHeartbeats 4000000 in
theorem evA_ok (bs : List Int) (o n k : Nat) (l : List E3) (h1 : o ≤ bs.length) (h2 : bs.length ≤ 140737488355328) (h3 : n ≤ 100000) (h4 : k ≤ n) (h5 : l.length = k) (h6 : 1 ≤ k) : evA_c_V bs o n k l := by
  unfold evA_c_V evA_c_p3 evA_c_p2 evA_c_p1 evA_c_p0
  refine spI (fun hk => ?_) (fun hk => ?_)
  · have hk : k < n := by have := of_decide_eq_true hk; omega
    refine ⟨⟨h1, h2⟩, rfl, ⟨rfl, rfl, trivial⟩, (fun y0 g0 => ⟨⟨g0.2.1, h2⟩, rfl, ⟨rfl, rfl, trivial⟩, (fun y1 g1 => ⟨⟨g1.2.1, h2⟩, rfl, ⟨rfl, rfl, trivial⟩, (fun y2 g2 => spT ?_ ⟨⟨bs, y2.o, n, k + 1, l ++ [⟨y0.n, y1.n, y2.n⟩], true⟩, ⟨g2.2.1, h2, h3, hk, by simp [h5], (fun _ => Nat.succ_le_succ (Nat.zero_le _)), (fun h => by cases h)⟩, ?_, ?_, ?_⟩), (fun y hy => by rw [ev_no (e := y.e) (by simp only [evP, PR.bind, g0.1, g1.1, hy]) hk]; exact ⟨⟨rfl, trivial⟩, trivial⟩), trivial⟩), (fun y hy => by rw [ev_no (e := y.e) (by simp only [evP, PR.bind, g0.1, hy]) hk]; exact ⟨⟨rfl, trivial⟩, trivial⟩), trivial⟩), (fun y hy => by rw [ev_no (e := y.e) (by simp only [evP, PR.bind, hy]) hk]; exact ⟨⟨rfl, trivial⟩, trivial⟩), trivial⟩
    · simp; omega
    · show n - (k + 1) < n - k; omega
    · simp only []
      rw [ev_step (s := true) (bs := bs) (o := o) (o' := y2.o) (x := ⟨y0.n, y1.n, y2.n⟩) (by simp only [evP, PR.bind, g0.1, g1.1, g2.1]) hk]
    · have hw : IntKind.wrap .i64 ((k : Int) + 1) = ((k + 1 : Nat) : Int) := by rw [IntWalk.i64_in _ (by omega)]; omega
      have hb : IntKind.wrap .u8 y2.n = y2.n := by have := g2.2.2; rw [IntKind.wrap_u8]; omega
      rw [hw, hb]
      refine ⟨⟨rfl, by simp, rfl, rfl, trivial⟩, rfl, rfl, ⟨rfl, rfl, by simp, fun i hi => ?_⟩, trivial⟩
      have hi : i < l.length + 1 := by simpa using hi
      by_cases hik : i < l.length
      · simp only [blt_true hik, cond_true, Nat.zero_add, List.getD_eq_getElem?_getD, List.getElem?_append_left hik]
      · obtain rfl : i = l.length := by omega
        simp only [blt_false hik, cond_false, Nat.sub_self, List.getD_eq_getElem?_getD, List.getElem?_append_right (Nat.le_refl _)]
        rfl
  · have hk : n ≤ k := by have := of_decide_eq_false hk; omega
    rw [ev_end hk]
    refine spF ?_ ⟨⟨rfl, trivial⟩, rfl, rfl, ⟨rfl, rfl, rfl, fun _ _ => rfl⟩, trivial⟩
    cases l with
    | nil => simp at h5; omega
    | cons => rfl
set_option maxRecDepth 100000 in
set_option maxHeartbeats 4000000 in
theorem evB_ok (bs : List Int) (o n : Nat) (h1 : o ≤ bs.length) (h2 : bs.length ≤ 140737488355328) (h3 : n ≤ 100000) : evB_c_V bs o n := by
  unfold evB_c_V evB_c_p2 evB_c_p1 evB_c_p0
  refine spI (fun hk => ?_) (fun hk => ?_)
  · have hk : 0 < n := by have := of_decide_eq_true hk; omega
    refine ⟨⟨h1, h2⟩, rfl, ⟨rfl, rfl, trivial⟩, (fun y0 g0 => ⟨⟨g0.2.1, h2⟩, rfl, ⟨rfl, rfl, trivial⟩, (fun y1 g1 => ⟨⟨g1.2.1, h2⟩, rfl, ⟨rfl, rfl, trivial⟩, (fun y2 g2 => ⟨⟨bs, y2.o, n, 1, [⟨y0.n, y1.n, y2.n⟩], true⟩, ⟨g2.2.1, h2, h3, hk, rfl, (fun _ => Nat.le_refl _), (fun h => by cases h)⟩, ?_, ?_, ?_⟩), (fun y hy => by rw [ev_no (e := y.e) (by simp only [evP, PR.bind, g0.1, g1.1, hy]) hk]; exact ⟨⟨rfl, trivial⟩, trivial⟩), trivial⟩), (fun y hy => by rw [ev_no (e := y.e) (by simp only [evP, PR.bind, g0.1, hy]) hk]; exact ⟨⟨rfl, trivial⟩, trivial⟩), trivial⟩), (fun y hy => by rw [ev_no (e := y.e) (by simp only [evP, PR.bind, hy]) hk]; exact ⟨⟨rfl, trivial⟩, trivial⟩), trivial⟩
    · show n - 1 < n - 0; omega
    · simp only []
      rw [← ev_step (s := false) (l := []) (bs := bs) (o := o) (o' := y2.o) (x := ⟨y0.n, y1.n, y2.n⟩) (by simp only [evP, PR.bind, g0.1, g1.1, g2.1]) hk]
      rfl
    · have hb : IntKind.wrap .u8 y2.n = y2.n := by have := g2.2.2; rw [IntKind.wrap_u8]; omega
      rw [hb]
      refine ⟨⟨rfl, rfl, rfl, rfl, trivial⟩, rfl, rfl, ⟨rfl, rfl, rfl, fun i hi j hj => ?_⟩, trivial⟩
      obtain rfl : i = 0 := by have : i < 1 := hi
                               omega
      rw [Nat.zero_mul, Nat.zero_add]
      rfl
  · have hk : n ≤ 0 := by have := of_decide_eq_false hk; omega
    rw [ev_end hk]
    exact ⟨⟨rfl, trivial⟩, rfl, rfl, trivial⟩
set_option maxRecDepth 100000 in
theorem rdEvsL_ok : (rdEvsL Go.Proofs.Tryz.prog).OK Go.Proofs.Tryz.prog := by
  have hc := orK_ok (Con.orc_ok intS_ok) (Con.orc_ok uptoS_ok)
  refine Lp.ok_of hc (drP_ok hmix _ hc) (noLo_ok _) (by decide) 40 (fun i hi => ?_)
  obtain ⟨bs, o, n, k, l, s⟩ := i
  obtain ⟨h1, h2, h3, h4, h5, h6, h7⟩ := hi
  cases s with
  | true =>
    rw [← Option.some.inj (evA_c_e bs o n k l)]
    exact evA_ok bs o n k l h1 h2 h3 h4 h5 (h6 rfl)
  | false =>
    have e : k = 0 := h7 rfl
    have e2 : l = [] := by simp only [] at h5; rw [e] at h5; exact List.eq_nil_of_length_eq_zero h5
    subst e e2
    rw [← Option.some.inj (evB_c_e bs o n)]
    exact evB_ok bs o n h1 h2 h3
abbrev esC_c_p0 (x : At) (y : UpE) : List AV :=
  [AV.sl 1 (EvI.mk x.bs y.o y.n.toNat 0 [] false).res.at_ 0 (x.bs.length - (EvI.mk x.bs y.o y.n.toNat 0 [] false).res.at_) (x.bs.length - (EvI.mk x.bs y.o y.n.toNat 0 [] false).res.at_) false]
abbrev esC_c_p1 (x : At) (y : UpE) : List AV :=
  [AV.sl 2 0 0 (PR.val [] (EvI.mk x.bs y.o y.n.toNat 0 [] false).res).length (PR.val [] (EvI.mk x.bs y.o y.n.toNat 0 [] false).res).length false]
abbrev esC_c_p2 (x : At) : Prop :=
  ∃ (y : EsE), (esP x.bs x.o = PR.ok y.l y.o ∧ y.o ≤ x.bs.length ∧ 0 < y.l.length ∧ y.l.length ≤ 64) ∧ False
abbrev esC_c_p3 (x : At) (y_1 : EsE) : Prop :=
  esP x.bs x.o = PR.ok y_1.l y_1.o ∧ y_1.o ≤ x.bs.length ∧ 0 < y_1.l.length ∧ y_1.l.length ≤ 64
def esC_c_V (x : At) : Prop :=
  (x.o ≤ x.bs.length ∧ x.bs.length ≤ 140737488355328) ∧ [AV.ptr 0 0 0, nI 64] = [AV.ptr 0 0 0, nI 64] ∧ (some (bC [AV.sl 1 x.o 0 (x.bs.length - x.o) (x.bs.length - x.o) false]) = some (bC [AV.sl 1 x.o 0 (x.bs.length - x.o) (x.bs.length - x.o) false]) ∧ some (bW x.bs) = some (bW x.bs) ∧ True) ∧ (∀ (y : UpE), cntP x.bs 64 x.o = PR.ok y.n y.o ∧ y.o ≤ x.bs.length ∧ 0 ≤ y.n ∧ y.n ≤ 64 → same (loopOf Proofs.Tryz.prog F_file_reader_script 0) (loopOf Proofs.Tryz.prog F_file_reader_script 0) ∧ (y.o ≤ x.bs.length ∧ x.bs.length ≤ 140737488355328 ∧ y.n.toNat ≤ 100000 ∧ 0 ≤ y.n.toNat ∧ 0 = 0 ∧ (false = true → 1 ≤ 0) ∧ (false = false → 0 = 0)) ∧ ((AV.ptr 0 0 0 = AV.ptr 0 0 0 ∧ AV.nils = AV.nils ∧ nI y.n = nI (↑y.n.toNat : Int) ∧ nI 0 = nI 0 ∧ True) ∧ bC [AV.sl 1 y.o 0 (x.bs.length - y.o) (x.bs.length - y.o) false] = bC [AV.sl 1 y.o 0 (x.bs.length - y.o) (x.bs.length - y.o) false] ∧ bW x.bs = bW x.bs ∧
  True) ∧ sp ((EvI.mk x.bs y.o y.n.toNat 0 [] false).res.isOk && (PR.val [] (EvI.mk x.bs y.o y.n.toNat 0 [] false).res).isEmpty) ((∃ (y_1 : EsE), (esP x.bs x.o = PR.ok [] y_1.o ∧ y_1.o ≤ x.bs.length) ∧ [AV.nils] = [AV.nils] ∧ bC (esC_c_p0 x y) = bC [AV.sl 1 y_1.o 0 (x.bs.length - y_1.o) (x.bs.length - y_1.o) false] ∧ bW x.bs = bW x.bs ∧ True) ∨ (∃ (y_1 : EsE), (esC_c_p3 x y_1) ∧ [AV.nils] = [AV.sl 3 0 0 y_1.l.length y_1.l.length false] ∧ bC (esC_c_p0 x y) = bC [AV.sl 1 y_1.o 0 (x.bs.length - y_1.o) (x.bs.length - y_1.o) false] ∧ bW x.bs = bW x.bs ∧ False ∧ True) ∨ ∃ (y : EsE), esP x.bs x.o = PR.no y.e ∧ False) (sp (EvI.mk x.bs y.o y.n.toNat 0 [] false).res.isOk ((∃ (y_1 : EsE), (esP x.bs x.o = PR.ok [] y_1.o ∧ y_1.o ≤ x.bs.length) ∧ (esC_c_p1 x y) = [AV.nils] ∧ bC (esC_c_p0 x y) = bC [AV.sl 1 y_1.o 0 (x.bs.length - y_1.o) (x.bs.length - y_1.o) false] ∧ bW x.bs = bW x.bs ∧ True) ∨ (∃ (y_1 :
  EsE), (esC_c_p3 x y_1) ∧ (esC_c_p1 x y) = [AV.sl 2 0 0 y_1.l.length y_1.l.length false] ∧ bC (esC_c_p0 x y) = bC [AV.sl 1 y_1.o 0 (x.bs.length - y_1.o) (x.bs.length - y_1.o) false] ∧ bW x.bs = bW x.bs ∧ (true = true ∧ 3 = 3 ∧ (PR.val [] (EvI.mk x.bs y.o y.n.toNat 0 [] false).res).length = y_1.l.length ∧ ∀ (i : Nat), i < (PR.val [] (EvI.mk x.bs y.o y.n.toNat 0 [] false).res).length → [nI ((PR.val [] (EvI.mk x.bs y.o y.n.toNat 0 [] false).res).getD i instInhabitedE3.default).a, nI ((PR.val [] (EvI.mk x.bs y.o y.n.toNat 0 [] false).res).getD i instInhabitedE3.default).k, nB ((PR.val [] (EvI.mk x.bs y.o y.n.toNat 0 [] false).res).getD i instInhabitedE3.default).x] = [nI (y_1.l.getD i instInhabitedE3.default).a, nI (y_1.l.getD i instInhabitedE3.default).k, nB (y_1.l.getD i instInhabitedE3.default).x]) ∧ True) ∨ ∃ (y : EsE), esP x.bs x.o = PR.no y.e ∧ False) ((∃ (y : EsE), (esP x.bs x.o = PR.ok
  [] y.o ∧ y.o ≤ x.bs.length) ∧ False) ∨ (esC_c_p2 x) ∨ ∃ (y_1 : EsE), esP x.bs x.o = PR.no y_1.e ∧ [AV.ifc T_file_wrong (AV.agg [nI (EvI.mk x.bs y.o y.n.toNat 0 [] false).res.err])] = [AV.ifc T_file_wrong (AV.agg [nI y_1.e])] ∧ True))) ∧ (∀ (y : UpE), cntP x.bs 64 x.o = PR.no y.e → (∃ (y : EsE), (esP x.bs x.o = PR.ok [] y.o ∧ y.o ≤ x.bs.length) ∧ False) ∨ (esC_c_p2 x) ∨ ∃ (y_1 : EsE), esP x.bs x.o = PR.no y_1.e ∧ [AV.ifc T_file_wrong (AV.agg [nI y.e])] = [AV.ifc T_file_wrong (AV.agg [nI y_1.e])] ∧ True) ∧ True
theorem esC_c_e (x : At) : some (esC_c_V x) = (rdEvsC.cond sp Go.Proofs.Tryz.prog (drP sp Go.Proofs.Tryz.prog) (forF F_file_reader_script ((rdEvsL Go.Proofs.Tryz.prog).lo sp Go.Proofs.Tryz.prog (isLoop 3) (loopOf Go.Proofs.Tryz.prog F_file_reader_script 0)) noLoops) (countS.orc sp) 40 2 x) := by kernel_rfl
set_option maxRecDepth 100000 in
theorem rdEvsC_ok : rdEvsC.OK Go.Proofs.Tryz.prog := by
  refine Con.by hmix (forF_ok (Lp.lo_ok rdEvsL_ok rfl) (noLoops_ok _)) (Con.orc_ok cntS_ok) esC_c_V esC_c_e (fun x hx => ?_)
  obtain ⟨h1, h2⟩ := hx
  unfold esC_c_V esC_c_p3 esC_c_p2 esC_c_p1 esC_c_p0
  refine ⟨⟨h1, h2⟩, rfl, ⟨rfl, rfl, trivial⟩, (fun y g => ⟨rfl, ⟨g.2.1, h2, by have := g.2.2.2; omega, Nat.zero_le _, rfl, (fun h => by cases h), fun _ => rfl⟩, ⟨⟨rfl, rfl, by rw [Int.toNat_of_nonneg g.2.2.1], rfl, trivial⟩, rfl, rfl, trivial⟩, ?_⟩), (fun y hy => .inr (.inr ⟨⟨[], 0, y.e⟩, by simp only [esP, hy, PR.bind], rfl, trivial⟩)), trivial⟩
  have hr : esP x.bs x.o = (EvI.mk x.bs y.o y.n.toNat 0 [] false).res := by
    unfold esP
    rw [g.1]
    simp only [PR.bind, EvI.res, Nat.sub_zero]
    cases manyP (evP x.bs) y.n.toNat y.o <;> simp [PR.map]
  have hb : ∀ l o, esP x.bs x.o = .ok l o → o ≤ x.bs.length ∧ l.length ≤ 64 := by
    intro l o h
    unfold esP at h
    rw [g.1] at h
    obtain ⟨q1, q2⟩ := manyP_le (fun o a o' => evP_le) _ _ h g.2.1
    have := g.2.2.2
    exact ⟨q1, by omega⟩
  generalize (EvI.mk x.bs y.o y.n.toNat 0 [] false).res = r at hr ⊢
  cases r with
  | ok l o =>
    obtain ⟨b1, b2⟩ := hb l o hr
    cases l with
    | nil => exact .inl ⟨⟨[], o, 0⟩, ⟨hr, b1⟩, rfl, rfl, rfl, trivial⟩
    | cons a l => exact .inr (.inl ⟨⟨a :: l, o, 0⟩, ⟨hr, b1, Nat.succ_pos _, b2⟩, rfl, rfl, rfl, ⟨rfl, rfl, rfl, fun _ _ => rfl⟩, trivial⟩)
  | no e => exact .inr (.inr ⟨⟨[], 0, e⟩, hr, rfl, trivial⟩)
end Go.Proofs.YtmbcpmbpkdeioaaGreatDoor.W
/- A guest read: what is reckoned. No condition. -/
namespace Go.Proofs.YtmbcpmbpkdeioaaGreatDoor.W
open Go Go.RowKit Go.Eng
set_option maxRecDepth 100000
set_option linter.unusedVariables false
set_option linter.unusedSimpArgs false
/-- A guest that was read. -/
structure Dv where
  fr : Int
  mem : List Int
  s : St
  steps : Int
  notes : List N4
  out : List Int
  disk : List Int
  queue : List Int
  script : List E3
  bl : List Int
def Dv.sv (d : Dv) : Sv where
  fr := d.fr
  mem := ⟨d.mem, d.mem.length⟩
  s := d.s
  steps := d.steps
  notes := ⟨d.notes.length, d.notes.length, fun i => (d.notes.getD i default).a, fun i => (d.notes.getD i default).c, fun i => (d.notes.getD i default).b, fun i => (d.notes.getD i default).d⟩
  out := ⟨d.out, d.out.length⟩
  disk := ⟨d.disk, d.disk.length⟩
  queue := ⟨d.queue, d.queue.length⟩
  script := ⟨d.script.length, d.script.length, fun i => (d.script.getD i default).a, fun i => (d.script.getD i default).k, fun i => (d.script.getD i default).x⟩
  b1 := d.bl.getD 0 0
  b2 := d.bl.getD 1 0
  b3 := d.bl.getD 2 0
  b4 := d.bl.getD 3 0
  b5 := d.bl.getD 4 0
  b6 := d.bl.getD 5 0
  b7 := d.bl.getD 6 0
  b8 := d.bl.getD 7 0
def savP (bs : List Int) (o : Nat) : PR Dv :=
  (upP bs 1099511627776 o).bind fun fr o => (rowP bs 4096 o).bind fun mem o => (stP bs o).bind fun s o => (upP bs 1099511627776 o).bind fun steps o => (ntP bs o).bind fun notes o =>
  (rowP bs 65536 o).bind fun out o => (rowP bs 2048 o).bind fun disk o => (rowP bs 32 o).bind fun queue o => (esP bs o).bind fun script o => (numsP bs 8 o).bind fun bl o => .ok ⟨fr, mem, s, steps, notes, out, disk, queue, script, bl⟩ o
/-- The places of a guest's slices, and what stands for an empty one. -/
def svSpec : List (Nat × Nat × AC) := [(1, 1, .ints .u8 []), (22, 4, .recs 0 fun _ => [.int .i64 0, .int .i64 0, .int .u32 0, .int .u32 0]), (23, 1, .ints .u8 []), (24, 1, .ints .u8 []), (25, 1, .ints .u8 []), (26, 3, .recs 0 fun _ => [.int .i64 0, .int .i64 0, .int .u8 0])]
def up2 : Nat → Nat := fun b => b + 2
structure DvE where
  d : Dv
  o : Nat
  e : Int
def rdSavedC : Con At DvE where
  f := F_file_reader_saved
  fit vs H := match vs with
    | [.ptr b _ _] => rdFit b H
    | _ => none
  n0 := 2
  pre x := x.o ≤ x.bs.length ∧ x.bs.length ≤ 140737488355328
  args x := [.ptr 0 0 0]
  L0 x := rdL x.bs x.o
  outs x := [(fun y => savP x.bs x.o = .ok y.d y.o ∧ y.o ≤ x.bs.length, fun y => (.ret (.agg (AV.rens up2 y.d.sv.av)), 8, [(0, ⟨true, 1, .cells [Rest x.bs y.o 1]⟩), (1, ⟨true, 1, .ints .u8 x.bs⟩), (2, y.d.sv.mem.blk), (3, y.d.sv.notes.blk), (4, y.d.sv.out.blk), (5, y.d.sv.disk.blk), (6, y.d.sv.queue.blk), (7, y.d.sv.script.blk)])),
    (fun y => savP x.bs x.o = .no y.e, fun y => (.panic (wrongAV y.e), 8, []))]
end Go.Proofs.YtmbcpmbpkdeioaaGreatDoor.W
