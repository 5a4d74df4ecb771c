/- The engine, third part: operations, compiled; what each does to abstract values and the abstract heap; that the model does likewise. -/
import Derived.Test.YtilmgiompalggaaGreatDoorEn01
import Derived.WalkLawsBesides
import Derived.Laws.BitsLemmas
import Derived.Laws.BytesArg
namespace Go.Eng
open Go Go.RowKit
set_option linter.unusedVariables false
set_option linter.unusedSimpArgs false
/-- An operand. -/
inductive CX where
  | t (i : Nat)
  | v (a : AV)
  deriving Inhabited
def CX.ev (ts : List AV) : CX → AV
  | .t i => ts.getD i .any
  | .v a => a
/-- A closed value. -/
def AV.ofV1 : Value → Option AV
  | .int k n => some (.int k n)
  | .bool b => some (.bool b)
  | .string s => some (.str s)
  | .pointer none => some .nilp
  | .slice none 0 0 => some .nils
  | .map none => some .nilm
  | .nilFunc => some .nilf
  | .nilIface => some .nili
  | _ => none
def AV.ofVs : List Value → Option (List AV)
  | [] => some []
  | v :: vs => match AV.ofV1 v, AV.ofVs vs with
    | some a, some as => some (a :: as)
    | _, _ => none
def AV.ofV : Value → Option AV
  | .agg cs => (AV.ofVs cs.toList).map .agg
  | .tuple cs => (AV.ofVs cs.toList).map .tup
  | v => AV.ofV1 v
theorem AV.ofV1_rel {v : Value} {a : AV} (h : AV.ofV1 v = some a) (μ : Mu) : VRel μ a v := by
  unfold AV.ofV1 at h
  split at h <;> first | (cases h; done) | (cases h; simp [VRel])
theorem AV.ofVs_rel (μ : Mu) : ∀ {vs : List Value} {as : List AV}, AV.ofVs vs = some as → VRels μ as vs
  | [], as, h => by simp only [AV.ofVs, Option.some.injEq] at h; subst h; trivial
  | v :: vs, as, h => by
    simp only [AV.ofVs] at h
    split at h
    · rename_i a as' h1 h2
      cases h
      exact ⟨AV.ofV1_rel h1 μ, AV.ofVs_rel μ h2⟩
    · cases h
theorem AV.ofV_rel {v : Value} {a : AV} (h : AV.ofV v = some a) (μ : Mu) : VRel μ a v := by
  unfold AV.ofV at h
  split at h
  · rename_i cs
    rcases hq : AV.ofVs cs.toList with _ | as
    · simp [hq] at h
    · simp [hq] at h; subst h; exact ⟨cs, rfl, AV.ofVs_rel μ hq⟩
  · rename_i cs
    rcases hq : AV.ofVs cs.toList with _ | as
    · simp [hq] at h
    · simp [hq] at h; subst h; exact ⟨cs, rfl, AV.ofVs_rel μ hq⟩
  · exact AV.ofV1_rel h μ
def opd : Operand → Option CX
  | .tmp t => some (.t t)
  | .const v => (AV.ofV v).map .v
  | .func f => some (.v (.fn (.func f) [] []))
  | .global _ => none
theorem opd_rel {x : Operand} {c : CX} (h : opd x = some c) {μ : Mu} {ts : List AV} {a : Act} (hr : Rel μ ts a.tmps) : VRel μ (c.ev ts) (a.eval x) := by
  cases x with
  | tmp t => simp only [opd, Option.some.injEq] at h; subst h; exact hr.get t
  | const v =>
    rcases hq : AV.ofV v with _ | b
    · simp [opd, hq] at h
    · simp [opd, hq] at h; subst h; exact AV.ofV_rel hq μ
  | func f => simp only [opd, Option.some.injEq] at h; subst h; exact ⟨#[], #[], rfl, trivial, trivial⟩
  | global g => simp [opd] at h
def opds : List Operand → Option (List CX)
  | [] => some []
  | x :: xs => match opd x, opds xs with
    | some c, some cs => some (c :: cs)
    | _, _ => none
theorem opds_rel {μ : Mu} {ts : List AV} {a : Act} (hr : Rel μ ts a.tmps) : ∀ {xs : List Operand} {cs : List CX}, opds xs = some cs → VRels μ (cs.map (·.ev ts)) (xs.map a.eval)
  | [], cs, h => by simp only [opds, Option.some.injEq] at h; subst h; trivial
  | x :: xs, cs, h => by
    simp only [opds] at h
    split at h
    · rename_i c cs' h1 h2
      cases h
      exact ⟨opd_rel h1 hr, opds_rel hr h2⟩
    · cases h
/-- One cell. -/
def AV.one : AV → Bool
  | .any | .agg _ | .tup _ => false
  | _ => true
def AV.cellsOf : AV → Option (List AV)
  | .agg cs => bif cs.all AV.one then some cs else none
  | v => bif v.one then some [v] else none
theorem AV.one_rel {μ : Mu} {v : AV} {x : Value} (h : v.one = true) (hr : VRel μ v x) : x.oneCell' = true := by
  cases v <;> simp only [AV.one, Bool.false_eq_true] at h <;> simp only [VRel] at hr <;>
    first
      | (subst hr; rfl)
      | (obtain ⟨x', rfl, _⟩ := hr; rfl)
      | (obtain ⟨l, h1, rfl⟩ := hr; rfl)
      | (obtain ⟨l, A, c', h1, rfl, _⟩ := hr; rfl)
      | (rcases hr with ⟨rfl, _⟩ | ⟨l, A, c', h1, rfl, _⟩ <;> rfl)
      | (obtain ⟨l, A, rfl, _⟩ := hr; rfl)
theorem AV.ones_rel {μ : Mu} : ∀ {vs : List AV} {xs : List Value}, vs.all AV.one = true → VRels μ vs xs → ∀ u ∈ xs, u.oneCell' = true
  | [], [], _, _, u, hu => by cases hu
  | v :: vs, x :: xs, h, hr, u, hu => by
    simp only [List.all_cons, Bool.and_eq_true] at h
    rcases List.mem_cons.1 hu with rfl | hu
    · exact AV.one_rel h.1 hr.1
    · exact AV.ones_rel h.2 hr.2 u hu
  | [], _ :: _, _, q, _, _ => q.elim
  | _ :: _, [], _, q, _, _ => q.elim
theorem AV.cellsOf_rel {μ : Mu} {v : AV} {cs : List AV} {x : Value} (h : v.cellsOf = some cs) (hr : VRel μ v x) : VRels μ cs x.cells.toList ∧ ∀ u ∈ x.cells.toList, u.oneCell' = true := by
  unfold AV.cellsOf at h
  split at h
  · rename_i as
    rcases hq : as.all AV.one with _ | _
    · simp [hq] at h
    · simp [hq] at h; subst h
      obtain ⟨cs', rfl, h2⟩ := hr
      exact ⟨h2, AV.ones_rel hq h2⟩
  · rename_i hne
    rcases hq : v.one with _ | _
    · simp [hq] at h
    · simp [hq] at h; subst h
      have h1 := AV.one_rel hq hr
      have : x.cells = #[x] := by cases x <;> first | rfl | (simp [Value.oneCell'] at h1)
      rw [this]
      exact ⟨⟨hr, trivial⟩, by simpa using h1⟩
/-- What the model's operation comes to. -/
def OpOK (P : Program) (o : Oper) (a : Act) (μ : Mu) (H : AH) (w : World) (v : AV) (H' : AH) : Prop :=
  ∃ r x w' μ', (execOp a.eval o).run P w = .ok r w' ∧ (r = .value x ∨ (r = .skip ∧ x = undef)) ∧ VRel μ' v x ∧ Sat μ' H' w' ∧ Fr μ H μ' H' w w'
theorem OpOK.pure {P : Program} {o : Oper} {a : Act} {μ : Mu} {H : AH} {w : World} {v : AV} {x : Value} (s : Sat μ H w) (hr : (execOp a.eval o).run P w = .ok (.value x) w) (hv : VRel μ v x) : OpOK P o a μ H w v H :=
  ⟨_, x, w, μ, hr, .inl rfl, hv, s, Fr.refl _ _ _⟩
/-! ### operations that only read, of a second kind -/
inductive LK where
  | b
  | i
  | s
mutual
/-- What is compared, of a type. -/
inductive ES where
  | one (k : LK)
  | row (l : EL)
inductive EL where
  | nil
  | cons (off : Nat) (sz : Option Nat) (s : ES) (l : EL)
end
instance : Inhabited ES := ⟨.one .b⟩
def eqLeaf : LK → AV → AV → Option Bool
  | .i, .int k a, .int k' b => bif decide (k = k') then some (a == b) else none
  | .b, .bool a, .bool b => some (a == b)
  | .s, .str a, .str b => some (a == b)
  | _, _, _ => none
def partA (off : Nat) (sz : Option Nat) (cs : List AV) : AV :=
  match sz with
  | none => cs.getD off .any
  | some n => .agg ((cs.drop off).take n)
mutual
def eqS : ES → AV → AV → Option Bool
  | .one k, x, y => eqLeaf k x y
  | .row l, .agg xs, .agg ys => eqL l xs ys
  | .row _, _, _ => none
def eqL : EL → List AV → List AV → Option Bool
  | .nil, _, _ => some true
  | .cons off sz s l, xs, ys => match eqS s (partA off sz xs) (partA off sz ys), eqL l xs ys with
    | some a, some b => some (a && b)
    | _, _ => none
end
inductive PO where
  | eqt (neg : Bool) (s : ES) (x y : CX)
  | tas (t : TypeId) (z : AV) (ok : Bool) (x : CX)
  | cat (x y : CX)
  | capn (x : CX)
  | b2s (x : CX)
  | p2u (x : CX)
  deriving Inhabited
def PO.cxs : PO → List CX
  | .eqt _ _ x y => [x, y]
  | .tas _ _ _ x => [x]
  | .cat x y => [x, y]
  | .capn x => [x]
  | .b2s x => [x]
  | .p2u x => [x]
def pstep (ev : CX → AV) (H : AH) : PO → Option (AV × Bool)
  | .eqt neg s x y => match eqS s (ev x) (ev y) with
    | some b => some (.bool (bif neg then !b else b), true)
    | none => none
  | .tas t z ok x => match ev x with
    | .ifc t' v => bif Nat.beq t' t then some (bif ok then .tup [v, .bool true] else v, true) else bif ok then some (.tup [z, .bool false], true) else none
    | .nili => bif ok then some (.tup [z, .bool false], true) else none
    | _ => none
  | .cat x y => match ev x, ev y with
    | .str a, .str b => some (.str (a ++ b), decide (a.size + b.size ≤ 9223372036854775807))
    | _, _ => none
  | .capn x => match ev x with
    | .sl _ _ _ _ c true => some (.int .i64 c, true)
    | .nils => some (.int .i64 0, true)
    | _ => none
  | .p2u x => match ev x with
    | .ptr b k j => match H.get b with
      | some y => some (.ptr b k j, y.c.inb y.st k j)
      | none => none
    | _ => none
  | .b2s x => match ev x with
    | .nils => some (.str ByteArray.empty, true)
    | .sl b k j n _ _ => match H.get b with
      | some y => match y.c with
        | .ints .u8 xs => some (.str (strOfNums ((xs.drop (k + j)).take n)), decide (y.st = 1) && decide (k + j + n ≤ xs.length))
        | _ => none
      | none => none
    | .msl b k j n _ => match H.get b with
      | some y => match y.c with
        | .ints .u8 xs => some (.str (strOfNums ((xs.drop (k + j)).take n)), decide (y.st = 1) && decide (k + j + n ≤ xs.length))
        | _ => none
      | none => none
    | _ => none
/-! ### maps -/
inductive MO where
  | mk
  | lk (s : ES) (z : AV) (ok : Bool) (x i : CX)
  | up (s : ES) (m k v : CX)
  | dl (s : ES) (m k : CX)
  | ln (x : CX)
  | clr (es : Nat) (z : List AV) (x : CX)
  | clm (x : CX)
  deriving Inhabited
/-- Where a key stands: of a list of entries the place, or none; it is not known where a key is not known. -/
def mfind (s : ES) (k : AV) : List (AV × AV) → Nat → Option (Option Nat)
  | [], _ => some none
  | e :: es, i => match eqS s k e.1 with
    | some true => some (some i)
    | some false => mfind s k es (i + 1)
    | none => none
def keyFits (s : ES) (k : AV) : Bool := match eqS s k k with
  | some _ => true
  | none => false
/-- Two values that are the same number, or rows of the same numbers. -/
def sameLeaf : AV → AV → Bool
  | .int j a, .int k b => decide (j = k) && decide (a = b)
  | _, _ => false
def sameLeaves : List AV → List AV → Bool
  | [], [] => true
  | a :: l, b :: m => sameLeaf a b && sameLeaves l m
  | _, _ => false
def sameKey : AV → AV → Bool
  | .agg l, .agg m => sameLeaves l m
  | a, b => sameLeaf a b
def flat (z : List AV) : Nat → List AV
  | 0 => []
  | n + 1 => z ++ flat z n
/-- A row's elements, all made z. -/
noncomputable def wipe (st es k j n : Nat) (z : List AV) : AC → Option (AC × Bool)
  | .recs m f => bif Nat.beq k 0 && Nat.beq j 0 && Nat.beq n m && Nat.beq es st then some (.recs m (fun _ => z), true) else (AC.upds st k (flat z n) j (.recs m f)).map fun c' => (c', AC.inbs st (.recs m f) k j (flat z n).length)
  | c => (AC.upds st k (flat z n) j c).map fun c' => (c', c.inbs st k j (flat z n).length)
/-- A list of entries with one more, or another one in its place. -/
def mup (s : ES) (k v : AV) (es : List (AV × AV)) : List (AV × AV) := match mfind s k es 0 with
  | some (some n) => es.set n (k, v)
  | some none => es ++ [(k, v)]
  | none => es
def mupOK (s : ES) (k : AV) (es : List (AV × AV)) : Bool := match mfind s k es 0 with
  | some (some n) => sameKey (es.getD n default).1 k
  | some none => true
  | none => false
noncomputable def mstep (ev : CX → AV) (H : AH) : MO → Option (AV × AH × Bool)
  | .mk => some (.map H.next, H.push ⟨true, 1, .map []⟩, true)
  | .lk s z ok x i => match ev x with
    | .nilm => some (bif ok then .tup [z, .bool false] else z, H, keyFits s (ev i))
    | .map b => match H.get b with
      | some y => match y.c with
        | .map es => match mfind s (ev i) es 0 with
          | some (some n) => some (bif ok then .tup [(es.getD n default).2, .bool true] else (es.getD n default).2, H, keyFits s (ev i))
          | some none => some (bif ok then .tup [z, .bool false] else z, H, keyFits s (ev i))
          | none => none
        | _ => none
      | none => none
    | _ => none
  | .up s m k v => match ev m with
    | .map b => match H.get b with
      | some y => match y.c with
        | .map es => some (.any, H.set b { y with c := .map (mup s (ev k) (ev v) es) }, y.own && keyFits s (ev k) && mupOK s (ev k) es)
        | _ => none
      | none => none
    | _ => none
  | .dl s m k => match ev m with
    | .nilm => some (.any, H, keyFits s (ev k))
    | .map b => match H.get b with
      | some y => match y.c with
        | .map es => match mfind s (ev k) es 0 with
          | some (some n) => some (.any, H.set b { y with c := .map (es.eraseIdx n) }, y.own && keyFits s (ev k))
          | some none => some (.any, H, y.own && keyFits s (ev k))
          | none => none
        | _ => none
      | none => none
    | _ => none
  | .ln x => match ev x with
    | .nilm => some (.int .i64 0, H, true)
    | .map b => match H.get b with
      | some y => match y.c with
        | .map es => some (.int .i64 es.length, H, decide (es.length ≤ 9223372036854775807))
        | _ => none
      | none => none
    | _ => none
  | .clr es z x => match ev x with
    | .nils => some (.any, H, true)
    | .sl b k j n _ _ => bif Nat.beq n 0 then some (.any, H, true) else match H.get b with
      | some y => match wipe y.st es k j n z y.c with
        | some (c', ok) => some (.any, H.set b { y with c := c' }, ok && y.own)
        | none => none
      | none => none
    | _ => none
  | .clm x => match ev x with
    | .nilm => some (.any, H, true)
    | .map b => match H.get b with
      | some y => match y.c with
        | .map _ => some (.any, H.set b { y with c := .map [] }, y.own)
        | _ => none
      | none => none
    | _ => none
/-! ### functions without a body -/
inductive XK where
  | ld (k : IntKind)
  | st
  | add (k : IntKind)
  | cas (k : IntKind)
  | m1
  | m0
  deriving Inhabited
def xkOf (n : String) : Option XK :=
  bif n == "sync/atomic.AddInt64" then some (.add .i64)
  else bif n == "sync/atomic.AddInt32" then some (.add .i32)
  else bif n == "sync/atomic.LoadInt64" then some (.ld .i64)
  else bif n == "sync/atomic.LoadInt32" then some (.ld .i32)
  else bif n == "sync/atomic.LoadUint32" then some (.ld .u32)
  else bif n == "sync/atomic.StoreUint32" then some .st
  else bif n == "sync/atomic.CompareAndSwapInt32" then some (.cas .i32)
  else bif n == "internal/race.Acquire" then some .m1
  else bif n == "internal/race.Release" then some .m1
  else bif n == "internal/race.Disable" then some .m0
  else bif n == "internal/race.Enable" then some .m0
  else bif n == "internal/race.ReleaseMerge" then some .m1
  else bif n == "sync/atomic.StoreInt32" then some .st
  else bif n == "sync/atomic.StoreInt64" then some .st
  else none
/-- A function of the library that the model runs as one step. -/
def extOf (P : Program) (f : FuncId) : Option XK :=
  match P.funcs[f]? with
  | some fn => match fn.body with
    | none => bif fn.origin == "" then xkOf fn.name else none
    | some _ => none
  | none => none
structure XO where
  k : XK
  as : List CX
  deriving Inhabited
/-- The number in a cell. -/
noncomputable def cellN (H : AH) : AV → Option (Nat × ABlk × Nat × Nat × IntKind × Int)
  | .ptr b k j => match H.get b with
    | some y => bif y.c.inb y.st k j then match y.c.val y.st k j with
      | .int q n => some (b, y, k, j, q, n)
      | _ => none else none
    | none => none
  | _ => none
noncomputable def putN1 (H : AH) (b : Nat) (y : ABlk) (k j : Nat) (q : IntKind) (n : Int) : Option (AH × Bool) := (AC.upds y.st k [.int q n] j y.c).map fun c' => (H.set b { y with c := c' }, y.own)
noncomputable def xstep (ev : CX → AV) (H : AH) (p : XO) : Option (AV × AH × Bool) :=
  match p.k, p.as with
  | .m0, [] => some (.any, H, true)
  | .m1, [x] => match ev x with
    | .ptr _ _ _ => some (.any, H, true)
    | _ => none
  | .ld k, [x] => match cellN H (ev x) with
    | some (_, _, _, _, q, n) => some (.int k n, H, decide (q = k))
    | none => none
  | .st, [x, v] => match cellN H (ev x), ev v with
    | some (b, y, k, j, _, _), .int q n => match putN1 H b y k j q n with
      | some (H', ok) => some (.any, H', ok)
      | none => none
    | _, _ => none
  | .add kk, [x, v] => match cellN H (ev x), ev v with
    | some (b, y, k, j, q, n), .int q' m => match putN1 H b y k j q (IntKind.wrap kk (n + m)) with
      | some (H', ok) => some (.int kk (IntKind.wrap kk (n + m)), H', ok && decide (q = kk) && decide (q' = kk))
      | none => none
    | _, _ => none
  | .cas kk, [x, o, v] => match cellN H (ev x), ev o, ev v with
    | some (b, y, k, j, q, n), .int q1 n1, .int q2 n2 => match putN1 H b y k j q n2 with
      | some (H', ok) => some (.bool (decide (n = n1)), bif decide (n = n1) then H' else H, ok && decide (q = kk) && decide (q1 = kk) && decide (q2 = kk))
      | none => none
    | _, _, _ => none
  | _, _ => none
/-! ### compiled operations -/
/-- What is compared. -/
inductive EK where
  | bool
  | ptr
  | sl
  | map
  | fn
  | ifc (k : Bool)
  deriving Inhabited
def ekOf (P : Program) (t : TypeId) (x y : Operand) : Option EK :=
  match P.underlying t with
  | some .bool => some .bool
  | some (.pointer _) => some .ptr
  | some (.slice _) => some .sl
  | some (.map _ _) => some .map
  | some (.func _ _ _) => some .fn
  | some (.interface _) => some (.ifc (match x, y with | .const _, _ => true | _, .const _ => true | _, _ => false))
  | _ => none
inductive COp where
  | mv (x : CX)
  | pick (c a b : CX)
  | box (x : CX)
  | alloc (z : List AV)
  | build (z : List AV) (ps : List (Nat × Nat × CX))
  | buildS (es len : Nat) (z : List AV) (ps : List (Nat × Nat × CX))
  | load (sz : Option Nat) (x : CX)
  | store (sz : Nat) (x v : CX)
  | nilc (x : CX)
  | bin (op : BinOp) (x y : CX)
  | eq (neg : Bool) (q : EK) (x y : CX)
  | un (op : UnOp) (x : CX)
  | conv (k : IntKind) (x : CX)
  | s2a (n : Nat) (x : CX)
  | mki (t : TypeId) (x : CX)
  | mkf (f : Fn) (first cap : List CX)
  | mks (es bytes : Nat) (z : List AV) (l c : CX)
  | sli (es : Nat) (x : CX) (lo hi mx : Option CX)
  | sla (n es : Nat) (x : CX) (lo hi : Option CX)
  | fa (off : Nat) (x : CX)
  | fld (off : Nat) (sz : Option Nat) (x : CX)
  | ias (es : Nat) (x i : CX)
  | iaa (n es : Nat) (x i : CX)
  | ixa (n es : Nat) (sz : Option Nat) (x i : CX)
  | ixs (x i : CX)
  | ext (i : Nat) (x : CX)
  | lens (x : CX)
  | lenb (x : CX)
  | lenn (n : Nat)
  | app (hint es bytes : Nat) (z : List AV) (x y : CX)
  | cop (hint : Nat) (x y : CX)
  | mm (mx : Bool) (x y : CX)
  | pl (p : PO)
  | mo (p : MO)
  | xo (p : XO)
  deriving Inhabited
/-- Another way of taking what is appended or copied. -/
def COp.hint (n : Nat) : COp → COp
  | .app _ es b z x y => .app n es b z x y
  | .cop _ x y => .cop n x y
  | c => c
def optd : Option Operand → Option (Option CX)
  | none => some none
  | some x => (opd x).map some
/-- A type's size, and whether it is a row. -/
def szOf (P : Program) (t : TypeId) : Option Nat := (P.info? t).map (·.size)
def isRowB : TypeDesc → Bool
  | .struct _ | .array _ _ => true
  | _ => false
def aggSz (P : Program) (t : TypeId) : Option (Option Nat) :=
  match P.underlying t, P.info? t with
  | some d, some i => some (bif isRowB d then some i.size else none)
  | _, _ => none
def zeroOf (P : Program) (t : TypeId) : Option (List AV) :=
  match P.info? t with
  | some i => match i.zero with
    | some z => match AV.ofV z with
      | some a => a.cellsOf
      | none => none
    | none => none
  | none => none
def partsOf (place : Nat → Option (Nat × Nat)) : List (Nat × Operand) → Option (List (Nat × Nat × CX))
  | [] => some []
  | (i, x) :: ps => match place i, opd x, partsOf place ps with
    | some (off, sz), some c, some r => some ((off, sz, c) :: r)
    | _, _, _ => none
def fieldsAt (P : Program) (fs : Array Field) (i : Nat) : Option (Nat × Nat) :=
  match fs[i]? with
  | some f => match P.info? f.type with
    | some q => some (f.offset, q.size)
    | none => none
  | none => none
def elOf (P : Program) (f : TypeId → Option ES) : List (Nat × TypeId) → Option EL
  | [] => some .nil
  | (off, t) :: l => match aggSz P t, f t, elOf P f l with
    | some sz, some s, some r => some (.cons off sz s r)
    | _, _, _ => none
def esOf (P : Program) : Nat → TypeId → Option ES
  | 0, _ => none
  | d + 1, t => match P.underlying t with
    | some .bool => some (.one .b)
    | some (.int _) => some (.one .i)
    | some .string => some (.one .s)
    | some (.struct fs) => bif P.stoodInHeld t || fs.toList.any (fun f => f.name == "_") then none else (elOf P (esOf P d) (fs.toList.map fun f => (f.offset, f.type))).map .row
    | some (.array n e) => match szOf P e with
      | some es => (elOf P (esOf P d) ((List.range n).map fun i => (i * es, e))).map .row
      | none => none
    | _ => none
/-- Types whose values are compared so. -/
def isEqT (P : Program) (t : TypeId) : Bool :=
  match P.underlying t with
  | some .string => true
  | some (.struct _) | some (.array _ _) => !P.eqGuardType P.depth t
  | _ => false
def zeroAV (P : Program) (t : TypeId) : Option AV :=
  match P.info? t with
  | some i => match i.zero with
    | some z => AV.ofV z
    | none => none
  | none => none
def compP (P : Program) (o : Oper) : Option PO :=
  match o.op with
  | .binOp op t x y _ => bif isEqT P t then match opd x, opd y, esOf P 8 t with
      | some cx, some cy, some s => match op with
        | .eql => some (.eqt false s cx cy)
        | .neq => some (.eqt true s cx cy)
        | .add => match P.underlying t with
          | some .string => some (.cat cx cy)
          | _ => none
        | _ => none
      | _, _, _ => none else none
  | .typeAssert x _ u ok => match P.underlying u, opd x, zeroAV P u with
    | some (.interface _), _, _ => none
    | some _, some cx, some z => some (.tas u z ok cx)
    | _, _, _ => none
  | .convert src dst x => match P.underlying src, P.underlying dst, opd x with
    | some (.slice e), some .string, some cx => match P.underlying e with
      | some (.int .u8) => some (.b2s cx)
      | _ => none
    | some (.pointer t), some .unsafePointer, some cx => match P.info? t with
      | some i => bif Nat.beq i.size 0 then none else some (.p2u cx)
      | none => none
    | _, _, _ => none
  | .call c => match c.callee, c.args.toList, c.argTypes.toList with
    | .builtin .cap, [x], [t] => match P.underlying t, opd x with
      | some (.slice _), some x => some (.capn x)
      | _, _ => none
    | _, _, _ => none
  | _ => none
def intFld (P : Program) (f : Field) : Bool := match P.underlying f.type with
  | some (.int _) => true
  | _ => false
/-- Keys that are numbers, or rows of numbers. -/
def keyES (P : Program) (kt : TypeId) : Option ES :=
  match P.underlying kt with
  | some (.int _) => some (.one .i)
  | some (.struct fs) => bif fs.toList.all (intFld P) then esOf P 8 kt else none
  | _ => none
def compM (P : Program) (o : Oper) : Option MO :=
  match o.op with
  | .makeMap _ none => some .mk
  | .lookup t x i ok => match P.underlying t with
    | some (.map kt vt) => match keyES P kt, zeroAV P vt, opd x, opd i with
      | some s, some z, some x, some i => some (.lk s z ok x i)
      | _, _, _, _ => none
    | _ => none
  | .mapUpdate t m k x | .insert t m k x => match P.underlying t with
    | some (.map kt _) => match keyES P kt, opd m, opd k, opd x with
      | some s, some m, some k, some x => some (.up s m k x)
      | _, _, _, _ => none
    | _ => none
  | .call c => match c.callee, c.args.toList, c.argTypes.toList with
    | .builtin .delete, [m, k], [t, _] => match P.underlying t with
      | some (.map kt _) => match keyES P kt, opd m, opd k with
        | some s, some m, some k => some (.dl s m k)
        | _, _, _ => none
      | _ => none
    | .builtin .len, [x], [t] => match P.underlying t, opd x with
      | some (.map _ _), some x => some (.ln x)
      | _, _ => none
    | .builtin .clear, [x], [t] => match P.underlying t with
      | some (.map _ _) => match opd x with
        | some x => some (.clm x)
        | none => none
      | some (.slice e) => match P.info? e, zeroOf P e, opd x with
        | some i, some z, some x => bif decide (z.length = i.size) && !Nat.beq i.size 0 then some (.clr i.size z x) else none
        | _, _, _ => none
      | _ => none
    | _, _, _ => none
  | _ => none
def compX (P : Program) (o : Oper) : Option XO :=
  match o.op with
  | .call c => match c.callee with
    | .value (.func f) => match extOf P f with
      | some k => match opds c.args.toList with
        | some as => some ⟨k, as⟩
        | none => none
      | none => none
    | _ => none
  | _ => none
def comp (P : Program) (o : Oper) : Option COp :=
  match compP P o with
  | some p => some (.pl p)
  | none =>
  match compM P o with
  | some p => some (.mo p)
  | none =>
  match compX P o with
  | some p => some (.xo p)
  | none =>
  match o.op with
  | .move x | .assign x => (opd x).map .mv
  | .pick c a b => match opd c, opd a, opd b with
    | some c, some a, some b => some (.pick c a b)
    | _, _, _ => none
  | .box _ x => (opd x).map .box
  | .alloc e => (zeroOf P e).map .alloc
  | .build t ps => match zeroOf P t, P.underlying t with
    | some z, some (.struct fs) => bif fs.toList.all (fun f => (P.info? f.type).isSome) then (partsOf (fieldsAt P fs) ps.toList).map (.build z) else none
    | some z, some (.array _ e) => match szOf P e with
      | some es => (partsOf (fun i => some (i * es, es)) ps.toList).map (.build z)
      | none => none
    | _, _ => none
  | .buildSlice t len ps => match P.underlying t with
    | some (.slice e) => match szOf P e, zeroOf P e with
      | some es, some z => bif decide (z.length = es) && decide (len * es ≤ 16777216) && !Nat.beq es 0 then (partsOf (fun i => some (i * es, es)) ps.toList).map (.buildS es len z) else none
      | _, _ => none
    | _ => none
  | .load t x => match aggSz P t, opd x with
    | some sz, some x => some (.load sz x)
    | _, _ => none
  | .store t x v => match szOf P t, opd x, opd v with
    | some sz, some x, some v => some (.store sz x v)
    | _, _, _ => none
  | .nilCheck x => (opd x).map .nilc
  | .binOp op t x y _ => match opd x, opd y with
    | some cx, some cy => match ekOf P t x y with
      | some q => match op with
        | .eql => some (.eq false q cx cy)
        | .neq => some (.eq true q cx cy)
        | _ => none
      | none => some (.bin op cx cy)
    | _, _ => none
  | .unOp op _ x => (opd x).map (.un op)
  | .convert src dst x => match P.underlying src, P.underlying dst, opd x with
    | some (.int _), some (.int k), some x => some (.conv k x)
    | _, _, _ => none
  | .sliceToArrayPointer t x => match P.underlying t, opd x with
    | some (.array n _), some x => bif Nat.beq n 0 then none else some (.s2a n x)
    | _, _ => none
  | .makeInterface t x => match P.underlying t, opd x with
    | some (.interface _), _ => none
    | some _, some x => some (.mki t x)
    | _, _ => none
  | .makeFunc f first cap => match opds first.toList, opds cap.toList with
    | some a, some b => some (.mkf f a b)
    | _, _ => none
  | .makeSlice t l c => match P.underlying t with
    | some (.slice e) => match P.info? e, zeroOf P e, opd l, opd c with
      | some i, some z, some l, some c => bif decide (z.length = i.size) && !Nat.beq i.size 0 then some (.mks i.size i.bytes z l c) else none
      | _, _, _, _ => none
    | _ => none
  | .slice t x lo hi mx => match P.underlying t with
    | some (.slice e) => match szOf P e, opd x, optd lo, optd hi, optd mx with
      | some es, some x, some lo, some hi, some mx => some (.sli es x lo hi mx)
      | _, _, _, _, _ => none
    | some (.array n e) => match szOf P e, opd x, optd lo, optd hi, mx with
      | some es, some x, some lo, some hi, none => some (.sla n es x lo hi)
      | _, _, _, _, _ => none
    | _ => none
  | .fieldAddr t x f => match P.underlying t with
    | some (.struct fs) => match fieldsAt P fs f, opd x with
      | some (off, sz), some x => bif Nat.beq sz 0 then none else some (.fa off x)
      | _, _ => none
    | _ => none
  | .field t x f => match P.underlying t with
    | some (.struct fs) => match fs[f]?, opd x with
      | some q, some x => (aggSz P q.type).map fun sz => .fld q.offset sz x
      | _, _ => none
    | _ => none
  | .indexAddr t x i => match P.underlying t, opd x, opd i with
    | some (.slice e), some x, some i => (szOf P e).map fun es => .ias es x i
    | some (.array n e), some x, some i => (szOf P e).map fun es => .iaa n es x i
    | _, _, _ => none
  | .index t x i => match P.underlying t, opd x, opd i with
    | some (.array n e), some x, some i => match szOf P e, aggSz P e with
      | some es, some sz => some (.ixa n es sz x i)
      | _, _ => none
    | some .string, some x, some i => some (.ixs x i)
    | _, _, _ => none
  | .extract x i => (opd x).map (.ext i)
  | .call c => match c.callee, c.args.toList, c.argTypes.toList with
    | .builtin .len, [x], [t] => match P.underlying t, opd x with
      | some (.slice _), some x => some (.lens x)
      | some .string, some x => some (.lenb x)
      | some (.array n _), _ => some (.lenn n)
      | _, _ => none
    | .builtin .append, [x, y], [t, u] => match P.underlying t, P.underlying u with
      | some (.slice e), some (.slice _) => match P.info? e, zeroOf P e, opd x, opd y with
        | some i, some z, some x, some y => bif decide (z.length = i.size) && !Nat.beq i.size 0 then some (.app 0 i.size i.bytes z x y) else none
        | _, _, _, _ => none
      | _, _ => none
    | .builtin .copy, [x, y], [t, _] => match P.underlying t with
      | some (.slice e) => match szOf P e, opd x, opd y with
        | some 1, some x, some y => some (.cop 0 x y)
        | _, _, _ => none
      | _ => none
    | .builtin .min, [x, y], _ => match opd x, opd y with
      | some x, some y => some (.mm false x y)
      | _, _ => none
    | .builtin .max, [x, y], _ => match opd x, opd y with
      | some x, some y => some (.mm true x y)
      | _, _ => none
    | _, _, _ => none
  | _ => none
/-! ### what they do -/
def binv (op : BinOp) : AV → AV → Option (AV × Bool)
  | .int k a, .int k' b => match op with
    | .shl => some (.int k (k.wrap (a * 2 ^ min b.toNat k.bits)), decide (0 ≤ b))
    | .shr => some (.int k (a.fdiv (2 ^ min b.toNat k.bits)), decide (0 ≤ b))
    | .add => some (.int k (k.wrap (a + b)), decide (k = k'))
    | .sub => some (.int k (k.wrap (a - b)), decide (k = k'))
    | .mul => some (.int k (k.wrap (a * b)), decide (k = k'))
    | .quo => some (.int k (k.wrap (a.tdiv b)), decide (k = k') && !(b == 0))
    | .rem => some (.int k (a.tmod b), decide (k = k') && !(b == 0))
    | .and => some (.int k (bits .and k a b), decide (k = k'))
    | .or => some (.int k (bits .or k a b), decide (k = k'))
    | .xor => some (.int k (bits .xor k a b), decide (k = k'))
    | .andNot => some (.int k (bits .andNot k a b), decide (k = k'))
    | .eql => some (.bool (a == b), decide (k = k'))
    | .neq => some (.bool (a != b), decide (k = k'))
    | .lss => some (.bool (decide (a < b)), decide (k = k'))
    | .leq => some (.bool (decide (a ≤ b)), decide (k = k'))
    | .gtr => some (.bool (decide (a > b)), decide (k = k'))
    | .geq => some (.bool (decide (a ≥ b)), decide (k = k'))
  | _, _ => none
def unv (op : UnOp) : AV → Option AV
  | .int k n => match op with
    | .neg => some (.int k (k.wrap (0 - n)))
    | .xor => some (.int k (bits .xor k (if k.signed then -1 else k.max) n))
    | _ => none
  | .bool b => match op with
    | .not => some (.bool (!b))
    | _ => none
  | _ => none
def eqk : EK → AV → AV → Option Bool
  | .bool, .bool a, .bool b => some (a == b)
  | .ptr, .nilp, .nilp => some true
  | .ptr, .nilp, .ptr .. => some false
  | .ptr, .ptr .., .nilp => some false
  | .sl, .nils, .nils => some true
  | .sl, .nils, .sl .. => some false
  | .sl, .sl .., .nils => some false
  | .map, .nilm, .nilm => some true
  | .map, .nilm, .map _ => some false
  | .map, .map _, .nilm => some false
  | .fn, .nilf, .nilf => some true
  | .fn, .nilf, .fn .. => some false
  | .fn, .fn .., .nilf => some false
  | .ifc true, .nili, .nili => some true
  | .ifc _, .nili, .ifc .. => some false
  | .ifc _, .ifc .., .nili => some false
  | _, _, _ => none
def cpick : AV → AV → AV → Option AV
  | .bool c, .bool a, .bool b => some (.bool (bif c then a else b))
  | .bool c, a, b => some (bif c then a else b)
  | _, _, _ => none
/-- Cells laid into cells. -/
def setAll : List AV → Nat → List AV → List AV
  | cs, _, [] => cs
  | cs, o, v :: vs => setAll (cs.set o v) (o + 1) vs
def cfill (ev : CX → AV) : List (Nat × Nat × CX) → List AV → Option (List AV)
  | [], cs => some cs
  | (off, sz, x) :: ps, cs => match (ev x).cellsOf with
    | some vs => bif Nat.beq vs.length sz && Nat.ble (off + vs.length) cs.length then cfill ev ps (setAll cs off vs) else none
    | none => none
/-- A row's content: numbers of one kind, if it is that. -/
def toInts (k : IntKind) : List AV → Option (List Int)
  | [] => some []
  | .int q n :: vs => bif decide (q = k) then match toInts k vs with
    | some xs => some (n :: xs)
    | none => none else none
  | _ => none
def AC.row (es : Nat) (z cs : List AV) : AC :=
  match z with
  | [.int k _] => match toInts k cs with
    | some xs => .ints k xs
    | none => .cells cs
  | _ => .cells cs
def AC.zeros (es : Nat) (z : List AV) (n : Nat) : AC :=
  match z with
  | [.int k x] => .ints k (List.replicate n x)
  | _ => .recs n (fun _ => z)
def AC.isMap : AC → Bool
  | .map _ => true
  | _ => false
/-- The element's number, or the place in it, moves on. -/
def stepTo (st es k j n : Nat) : Nat × Nat := bif Nat.beq es st then (k + n, j) else (k, j + n * es)
def bnd : Option AV → Nat → Option (Nat × Bool)
  | none, d => some (d, true)
  | some (.int _ i), _ => some (i.toNat, decide (0 ≤ i))
  | some _, _ => none
def segs : Option AV → Option AV → Option AV → Nat → Nat → Option (Nat × Nat × Nat × Bool)
  | _, none, some _, _, _ => none
  | lo, hi, mx, n, c => match bnd lo 0, bnd hi n, bnd mx c with
    | some (l, a), some (h, b), some (m, d) => some (l, h, m, a && b && d && decide (l ≤ h) && decide (h ≤ m) && decide (m ≤ c))
    | _, _, _ => none
/-- n elements of es cells, from a place on. -/
noncomputable def AC.seg (wh : Bool) (st es k j n : Nat) : AC → Option (AC × Bool)
  | .ints q xs => bif wh then some (.ints q xs, decide (st = 1) && decide (es = 1) && decide (k + j = 0) && decide (n = xs.length))
    else some (.ints q ((xs.drop (k + j)).take n), decide (st = 1) && decide (es = 1) && decide (k + j + n ≤ xs.length))
  | .cells l => bif wh then some (.cells l, decide (k * st + j = 0) && decide (n * es = l.length))
    else some (.cells ((l.drop (k * st + j)).take (n * es)), decide (k * st + j + n * es ≤ l.length))
  | .recs m f => bif wh then some (.recs m f, decide (k = 0) && decide (j = 0) && decide (es = st) && decide (n = m))
    else some (.recs n (fun i => f (k + i)), decide (j = 0) && decide (es = st) && decide (k + n ≤ m))
  | .map _ => none
  | .tr m t => some (.cells (t.list (k * st + j) (n * es)), decide (k * st + j + n * es ≤ m))
/-- n elements from there lie within. -/
noncomputable def AC.holds (st es k j n : Nat) (c : AC) : Bool :=
  match AC.seg false st es k j n c with
  | some (_, ok) => ok
  | none => false
/-- One behind the other. -/
def AC.cat (es na : Nat) : AC → AC → Option AC
  | .ints q xs, .ints q' ys => bif decide (q = q') then some (.ints q (xs ++ ys)) else none
  | .cells l, .cells m => some (.cells (l ++ m))
  | .ints q xs, .cells m => match toInts q m with
    | some ys => some (.ints q (xs ++ ys))
    | none => none
  | .recs n f, .recs m g => some (.recs (n + m) (fun i => bif Nat.blt i n then f i else g (i - n)))
  | .recs n f, .cells m => some (.recs (n + m.length / es) (fun i => bif Nat.blt i n then f i else (m.drop ((i - n) * es)).take es))
  | .cells [], .recs m g => some (.recs m g)
  | .cells [], .ints q ys => some (.ints q ys)
  | .cells [], .tr n t => some (.tr n t)
  | .cells l, .ints q ys => some (.cells (l ++ ys.map (AV.int q)))
  | _, _ => none
noncomputable def srcOf (wh : Bool) (ev : CX → AV) (H : AH) (es : Nat) (y : CX) : Option (AC × Nat × Bool) :=
  match ev y with
  | .nils => some (.cells [], 0, true)
  | .sl b k j n _ _ => match H.get b with
    | some q => match AC.seg wh q.st es k j n q.c with
      | some (B, ok) => some (B, n, ok)
      | none => none
    | none => none
  | .msl b k j n _ => match H.get b with
    | some q => match AC.seg wh q.st es k j n q.c with
      | some (B, ok) => some (B, n, ok)
      | none => none
    | none => none
  | _ => none
noncomputable def appStep (hint es bytes : Nat) (x : AV) (H : AH) (B : AC) (n' : Nat) : Option (AV × AH × Bool) :=
  match x with
  | .nils => bif Nat.testBit hint 3 || !Nat.beq n' 0 then some (.sl H.next 0 0 n' n' false, H.push ⟨true, es, B⟩, decide (0 < n') && decide (n' * bytes ≤ 140737488355328) && decide (n' ≤ 9223372036854775807)) else some (.nils, H, Nat.beq n' 0)
  | .sl b k j n c ex => match H.get b with
    | some q => match AC.seg (Nat.testBit hint 1) q.st es k j n q.c with
      | some (A, oka) => match AC.cat es n A B with
        | some D => bif Nat.testBit hint 0 || !ex || Nat.ble (n + n') c then
            some (.sl H.next 0 0 (n + n') (n + n') false, (H.del b).push ⟨true, es, D⟩, oka && q.own && Nat.beq j 0 && decide (q.st = es) && (!ex || decide (c = n) || AC.holds q.st es k j c q.c) && decide ((n + n') * bytes ≤ 140737488355328) && decide (n + n' ≤ 9223372036854775807))
          else bif Nat.blt c (n + n') then
            some (.sl H.next 0 0 (n + n') (n + n') false, H.push ⟨true, es, D⟩, oka && decide ((n + n') * bytes ≤ 140737488355328) && decide (n + n' ≤ 9223372036854775807))
          else none
        | none => none
      | none => none
    | none => none
  | _ => none
/-- Numbers laid into numbers, from a place on. -/
def spl (xs : List Int) (o : Nat) (zs : List Int) : List Int := xs.take o ++ zs ++ xs.drop (o + zs.length)
/-- Copies between rows of numbers, of whatever length. -/
def copInts (q q2 : ABlk) (k j k2 j2 m : Nat) : Option (ABlk × Bool) :=
  match q.c, q2.c with
  | .ints t xs, .ints t2 ys => some ({ q with c := .ints t (spl xs (k + j) ((ys.drop (k2 + j2)).take m)) }, decide (t = t2) && decide (q.st = 1) && decide (q2.st = 1) && q.own && decide (k + j + m ≤ xs.length) && decide (k2 + j2 + m ≤ ys.length))
  | _, _ => none
/-- What is appended stands in the same row of numbers, and there is room. -/
noncomputable def appHere (es : Nat) (x y : AV) (H : AH) : Option (AV × AH × Bool) :=
  match x, y with
  | .sl b k j n c ex, .sl b2 k2 j2 n2 _ _ => bif Nat.beq b b2 then bif Nat.beq n2 0 then some (.sl b k j n c ex, H, true) else bif Nat.beq es 1 && Nat.ble (n + n2) c then match H.get b with
    | some q => match copInts q q k (j + n) k2 j2 n2 with
      | some (q', ok) => some (.sl b k j (n + n2) c ex, H.set b q', ok)
      | none => none
    | none => none else none else none
  | _, _ => none
noncomputable def cstep (ev : CX → AV) (H : AH) : COp → Option (AV × AH × Bool)
  | .pl p => match pstep ev H p with
    | some (v, ok) => some (v, H, ok)
    | none => none
  | .mo p => mstep ev H p
  | .xo p => xstep ev H p
  | .mv x => some (ev x, H, true)
  | .pick c a b => match cpick (ev c) (ev a) (ev b) with
    | some v => some (v, H, true)
    | none => none
  | .box x => match (ev x).cellsOf with
    | some cs => some (.ptr H.next 0 0, H.push ⟨true, cs.length, .cells cs⟩, true)
    | none => none
  | .alloc z => some (.ptr H.next 0 0, H.push ⟨true, z.length, .cells z⟩, true)
  | .build z ps => match cfill ev ps z with
    | some cs => some (.agg cs, H, true)
    | none => none
  | .buildS es len z ps => match cfill ev ps (flat z len) with
    | some cs => some (.sl H.next 0 0 len len true, H.push ⟨true, es, AC.row es z cs⟩, true)
    | none => none
  | .load sz x => match ev x with
    | .ptr b k j => match H.get b with
      | some y => match sz with
        | none => some (y.c.val y.st k j, H, y.c.inb y.st k j)
        | some n => some (.agg (y.c.vals y.st k j n), H, y.c.inbs y.st k j n)
      | none => none
    | _ => none
  | .store sz x v => match ev x, (ev v).cellsOf with
    | .ptr b k j, some cs => match H.get b with
      | some y => match AC.upds y.st k cs j y.c with
        | some c' => some (.any, H.set b { y with c := c' }, y.own && Nat.beq cs.length sz && !Nat.beq sz 0 && y.c.inbs y.st k j cs.length)
        | none => none
      | none => none
    | _, _ => none
  | .nilc x => match ev x with
    | .ptr b k j => some (.ptr b k j, H, true)
    | _ => none
  | .bin op x y => match binv op (ev x) (ev y) with
    | some (v, ok) => some (v, H, ok)
    | none => none
  | .eq neg q x y => match eqk q (ev x) (ev y) with
    | some b => some (.bool (bif neg then !b else b), H, true)
    | none => none
  | .un op x => match unv op (ev x) with
    | some v => some (v, H, true)
    | none => none
  | .conv k x => match ev x with
    | .int _ n => some (.int k (k.wrap n), H, true)
    | _ => none
  | .s2a n x => match ev x with
    | .sl b k j m _ _ => some (.ptr b k j, H, decide (n ≤ m))
    | .msl b k j m _ => some (.ptr b k j, H, decide (n ≤ m))
    | _ => none
  | .mki t x => some (.ifc t (ev x), H, true)
  | .mkf f a c => some (.fn f (a.map ev) (c.map ev), H, true)
  | .mks es bytes z l c => match ev l, ev c with
    | .int _ l, .int _ c => some (.sl H.next 0 0 l.toNat c.toNat true, H.push ⟨true, es, AC.zeros es z c.toNat⟩, decide (0 ≤ l) && decide (l ≤ c) && decide (bytes * c ≤ 281474976710656) && decide (c ≤ 9223372036854775807))
    | _, _ => none
  | .sli es x lo hi mx => match ev x with
    | .sl b k j n c ex => match segs (lo.map ev) (hi.map ev) (mx.map ev) n c, H.get b with
      | some (l, h, m, ok), some y => some (.sl b (stepTo y.st es k j l).1 (stepTo y.st es k j l).2 (h - l) (m - l) (mx.isSome || ex), H, ok && !y.c.isMap && (mx.isSome || ex || Nat.beq es y.st))
      | _, _ => none
    | .msl b k j n c => match segs (lo.map ev) (hi.map ev) (mx.map ev) n c, H.get b with
      | some (l, h, m, ok), some y => some (.msl b (stepTo y.st es k j l).1 (stepTo y.st es k j l).2 (h - l) (m - l), H, ok && !y.c.isMap)
      | _, _ => none
    | .nils => match segs (lo.map ev) (hi.map ev) (mx.map ev) 0 0 with
      | some (_, _, _, ok) => some (.nils, H, ok)
      | none => none
    | _ => none
  | .sla n es x lo hi => match ev x with
    | .ptr b k j => match segs (lo.map ev) (hi.map ev) none n n with
      | some (l, h, m, ok) => some (.sl b k (j + l * es) (h - l) (m - l) true, H, ok)
      | none => none
    | _ => none
  | .fa off x => match ev x with
    | .ptr b k j => some (.ptr b k (j + off), H, true)
    | _ => none
  | .fld off sz x => match ev x with
    | .agg cs => match sz with
      | none => some (cs.getD off .any, H, decide (off < cs.length))
      | some n => some (.agg ((cs.drop off).take n), H, true)
    | _ => none
  | .ias es x i => match ev x, ev i with
    | .sl b k j n _ _, .int _ i => match H.get b with
      | some y => some (.ptr b (stepTo y.st es k j i.toNat).1 (stepTo y.st es k j i.toNat).2, H, decide (0 ≤ i) && decide (i < n) && !y.c.isMap)
      | none => none
    | .msl b k j n _, .int _ i => match H.get b with
      | some y => some (.ptr b (stepTo y.st es k j i.toNat).1 (stepTo y.st es k j i.toNat).2, H, decide (0 ≤ i) && decide (i < n) && !y.c.isMap)
      | none => none
    | _, _ => none
  | .iaa n es x i => match ev x, ev i with
    | .ptr b k j, .int _ i => some (.ptr b k (j + i.toNat * es), H, decide (0 ≤ i) && decide (i < n))
    | _, _ => none
  | .ixs x i => match ev x, ev i with
    | .str s, .int _ i => some (.int .u8 ((s.data.toList.getD i.toNat 0).toNat : Nat), H, decide (0 ≤ i) && decide (i < s.size))
    | _, _ => none
  | .ixa n es sz x i => match ev x, ev i with
    | .agg cs, .int _ i => match sz with
      | none => some (cs.getD (i.toNat * es) .any, H, decide (0 ≤ i) && decide (i < n) && decide (i.toNat * es < cs.length))
      | some m => some (.agg ((cs.drop (i.toNat * es)).take es), H, decide (0 ≤ i) && decide (i < n))
    | _, _ => none
  | .ext i x => match ev x with
    | .tup vs => some (vs.getD i .any, H, decide (i < vs.length))
    | _ => none
  | .lens x => match ev x with
    | .sl _ _ _ n _ _ => some (.int .i64 n, H, true)
    | .msl _ _ _ n _ => some (.int .i64 n, H, true)
    | .nils => some (.int .i64 0, H, true)
    | _ => none
  | .lenb x => match ev x with
    | .str s => some (.int .i64 s.size, H, true)
    | _ => none
  | .lenn n => some (.int .i64 n, H, true)
  | .app hint es bytes z x y => match appHere es (ev x) (ev y) H with
    | some r => some r
    | none => match srcOf (Nat.testBit hint 2) ev H es y with
      | some (B, n', okb) => match appStep hint es bytes (ev x) H B n' with
        | some (v, H', ok) => some (v, H', okb && ok)
        | none => none
      | none => none
  | .cop _ x y => match ev x, ev y with
    | .sl b k j n _ _, .sl b2 k2 j2 n2 _ _ => match H.get b, H.get b2 with
      | some q, some q2 => match copInts q q2 k j k2 j2 (Nat.min n2 n) with
       | some (q', ok) => some (.int .i64 (Nat.min n2 n : Nat), H.set b q', ok)
       | none => bif Nat.beq (Nat.min n2 n) 0 then some (.int .i64 0, H, true) else
        match AC.upds q.st k (q2.c.vals q2.st k2 j2 (Nat.min n2 n)) j q.c with
        | some c' => some (.int .i64 (Nat.min n2 n : Nat), H.set b { q with c := c' }, q.own && q.c.inbs q.st k j (Nat.min n2 n) && q2.c.inbs q2.st k2 j2 (Nat.min n2 n))
        | none => none
      | _, _ => none
    | .sl b k j n _ _, .msl b2 k2 j2 n2 _ => match H.get b, H.get b2 with
      | some q, some q2 => match copInts q q2 k j k2 j2 (Nat.min n2 n) with
       | some (q', ok) => some (.int .i64 (Nat.min n2 n : Nat), H.set b q', ok)
       | none => none
      | _, _ => none
    | .nils, .nils => some (.int .i64 0, H, true)
    | .nils, .sl .. => some (.int .i64 0, H, true)
    | .sl .., .nils => some (.int .i64 0, H, true)
    | _, _ => none
  | .mm mx x y => match ev x, ev y with
    | .int k a, .int k' b => bif mx then some (.int k (if b > a then b else a), H, decide (k = k')) else some (.int k (if b < a then b else a), H, decide (k = k'))
    | _, _ => none
end Go.Eng
