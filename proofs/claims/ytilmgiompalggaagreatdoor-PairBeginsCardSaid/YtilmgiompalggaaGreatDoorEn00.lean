/- The engine, first part: abstract values, an abstract heap, and what they say of a world. -/
import Derived.Tactics
import Derived.Orders
import Derived.Below
import Derived.KernelRfl
namespace Go.Eng
open Go Go.RowKit
set_option linter.unusedVariables false
/-- An abstract value. `any`: nothing is known. Pointers: block, element, place in it. Slices: also the length, a capacity that there is at least, and whether it is just that. -/
inductive AV where
  | any
  | int (k : IntKind) (n : Int)
  | bool (b : Bool)
  | str (s : ByteArray)
  | ptr (b k j : Nat)
  | nilp
  | sl (b k j n c : Nat) (ex : Bool)
  | nils
  | msl (b k j n c : Nat)
  | map (b : Nat)
  | nilm
  | fn (f : Fn) (first cap : List AV)
  | nilf
  | ifc (t : TypeId) (v : AV)
  | nili
  | agg (cs : List AV)
  | tup (vs : List AV)
  deriving Inhabited
/-- Where an abstract block lies: block, first cell, cells of an element; for how many elements there is room (asked of rows that may grow in place). -/
structure Loc where
  blk : Nat
  off : Nat
  st : Nat
  cap : Nat
abbrev Mu := Nat → Option Loc
def Loc.at (l : Loc) (k j : Nat) : Addr := ⟨l.blk, l.off + k * l.st + j, none⟩
mutual
/-- What an abstract value says of a value. -/
def VRel (μ : Mu) : AV → Value → Prop
  | .any, _ => True
  | .int k n, x => x = .int k n
  | .bool b, x => x = .bool b
  | .str s, x => x = .string s
  | .ptr b k j, x => ∃ l, μ b = some l ∧ x = .pointer (some (l.at k j))
  | .nilp, x => x = .pointer none
  | .sl b k j n c ex, x => ∃ l A c', μ b = some l ∧ x = .slice (some A) n c' ∧ n ≤ c ∧ c ≤ c' ∧ (ex = true → c' = c) ∧ (A = l.at k j ∨ c' = 0) ∧ (ex = false → j = 0 ∧ c' + k ≤ l.cap)
  | .nils, x => x = .slice none 0 0
  | .msl b k j n c, x => (x = .slice none 0 0 ∧ n = 0 ∧ c = 0) ∨ ∃ l A c', μ b = some l ∧ x = .slice (some A) n c' ∧ n ≤ c ∧ c ≤ c' ∧ (A = l.at k j ∨ c' = 0)
  | .map b, x => ∃ l, μ b = some l ∧ x = .map (some l.blk)
  | .nilm, x => x = .map none
  | .fn f a c, x => ∃ a' c', x = .func f a' c' ∧ VRels μ a a'.toList ∧ VRels μ c c'.toList
  | .nilf, x => x = .nilFunc
  | .ifc t v, x => ∃ x', x = .iface t x' ∧ VRel μ v x'
  | .nili, x => x = .nilIface
  | .agg cs, x => ∃ cs', x = .agg cs' ∧ VRels μ cs cs'.toList
  | .tup cs, x => ∃ cs', x = .tuple cs' ∧ VRels μ cs cs'.toList
def VRels (μ : Mu) : List AV → List Value → Prop
  | [], [] => True
  | v :: vs, x :: xs => VRel μ v x ∧ VRels μ vs xs
  | _, _ => False
end
def MuLe (μ μ' : Mu) : Prop := ∀ b l, μ b = some l → μ' b = some l
mutual
theorem VRel.ext {μ μ' : Mu} (h : MuLe μ μ') : ∀ (v : AV) (x : Value), VRel μ v x → VRel μ' v x
  | .any, _, _ => trivial
  | .int .., _, q => q
  | .bool _, _, q => q
  | .str _, _, q => q
  | .ptr .., _, q => by obtain ⟨l, h1, h2⟩ := q; exact ⟨l, h _ _ h1, h2⟩
  | .nilp, _, q => q
  | .sl .., _, q => by obtain ⟨l, A, c', h1, h2⟩ := q; exact ⟨l, A, c', h _ _ h1, h2⟩
  | .nils, _, q => q
  | .msl .., _, q => by rcases q with q | ⟨l, A, c', h1, h2⟩; exact .inl q; exact .inr ⟨l, A, c', h _ _ h1, h2⟩
  | .map _, _, q => by obtain ⟨l, h1, h2⟩ := q; exact ⟨l, h _ _ h1, h2⟩
  | .nilm, _, q => q
  | .fn _ a c, _, q => by obtain ⟨a', c', h1, h2, h3⟩ := q; exact ⟨a', c', h1, VRels.ext h a _ h2, VRels.ext h c _ h3⟩
  | .nilf, _, q => q
  | .ifc _ v, _, q => by obtain ⟨x', h1, h2⟩ := q; exact ⟨x', h1, VRel.ext h v x' h2⟩
  | .nili, _, q => q
  | .agg cs, _, q => by obtain ⟨a', h1, h2⟩ := q; exact ⟨a', h1, VRels.ext h cs _ h2⟩
  | .tup cs, _, q => by obtain ⟨a', h1, h2⟩ := q; exact ⟨a', h1, VRels.ext h cs _ h2⟩
theorem VRels.ext {μ μ' : Mu} (h : MuLe μ μ') : ∀ (vs : List AV) (xs : List Value), VRels μ vs xs → VRels μ' vs xs
  | [], [], q => q
  | v :: vs, x :: xs, q => ⟨VRel.ext h v x q.1, VRels.ext h vs xs q.2⟩
  | [], _ :: _, q => q.elim
  | _ :: _, [], q => q.elim
end
mutual
/-- Other numbers for the blocks. -/
def AV.ren (σ : Nat → Nat) : AV → AV
  | .ptr b k j => .ptr (σ b) k j
  | .sl b k j n c ex => .sl (σ b) k j n c ex
  | .msl b k j n c => .msl (σ b) k j n c
  | .map b => .map (σ b)
  | .fn f a c => .fn f (AV.rens σ a) (AV.rens σ c)
  | .ifc t v => .ifc t (v.ren σ)
  | .agg cs => .agg (AV.rens σ cs)
  | .tup cs => .tup (AV.rens σ cs)
  | v => v
def AV.rens (σ : Nat → Nat) : List AV → List AV
  | [] => []
  | v :: vs => v.ren σ :: AV.rens σ vs
end
mutual
theorem VRel.ren {μ μ' : Mu} {σ : Nat → Nat} (h : ∀ b l, μ b = some l → μ' (σ b) = some l) : ∀ (v : AV) (x : Value), VRel μ v x → VRel μ' (v.ren σ) x
  | .any, _, _ => trivial
  | .int .., _, q => q
  | .bool _, _, q => q
  | .str _, _, q => q
  | .ptr .., _, q => by obtain ⟨l, h1, h2⟩ := q; exact ⟨l, h _ _ h1, h2⟩
  | .nilp, _, q => q
  | .sl .., _, q => by obtain ⟨l, A, c', h1, h2⟩ := q; exact ⟨l, A, c', h _ _ h1, h2⟩
  | .nils, _, q => q
  | .msl .., _, q => by rcases q with q | ⟨l, A, c', h1, h2⟩; exact .inl q; exact .inr ⟨l, A, c', h _ _ h1, h2⟩
  | .map _, _, q => by obtain ⟨l, h1, h2⟩ := q; exact ⟨l, h _ _ h1, h2⟩
  | .nilm, _, q => q
  | .fn _ a c, _, q => by obtain ⟨a', c', h1, h2, h3⟩ := q; exact ⟨a', c', h1, VRels.ren h a _ h2, VRels.ren h c _ h3⟩
  | .nilf, _, q => q
  | .ifc _ v, _, q => by obtain ⟨x', h1, h2⟩ := q; exact ⟨x', h1, VRel.ren h v x' h2⟩
  | .nili, _, q => q
  | .agg cs, _, q => by obtain ⟨a', h1, h2⟩ := q; exact ⟨a', h1, VRels.ren h cs _ h2⟩
  | .tup cs, _, q => by obtain ⟨a', h1, h2⟩ := q; exact ⟨a', h1, VRels.ren h cs _ h2⟩
theorem VRels.ren {μ μ' : Mu} {σ : Nat → Nat} (h : ∀ b l, μ b = some l → μ' (σ b) = some l) : ∀ (vs : List AV) (xs : List Value), VRels μ vs xs → VRels μ' (AV.rens σ vs) xs
  | [], [], q => q
  | v :: vs, x :: xs, q => ⟨VRel.ren h v x q.1, VRels.ren h vs xs q.2⟩
  | [], _ :: _, q => q.elim
  | _ :: _, [], q => q.elim
end
mutual
/-- .. and back. -/
theorem VRel.unren {μ μ' : Mu} {σ : Nat → Nat} (h : ∀ b l, μ' (σ b) = some l → μ b = some l) : ∀ (v : AV) (x : Value), VRel μ' (v.ren σ) x → VRel μ v x
  | .any, _, _ => trivial
  | .int .., _, q => q
  | .bool _, _, q => q
  | .str _, _, q => q
  | .ptr .., _, q => by obtain ⟨l, h1, h2⟩ := q; exact ⟨l, h _ _ h1, h2⟩
  | .nilp, _, q => q
  | .sl .., _, q => by obtain ⟨l, A, c', h1, h2⟩ := q; exact ⟨l, A, c', h _ _ h1, h2⟩
  | .nils, _, q => q
  | .msl .., _, q => by rcases q with q | ⟨l, A, c', h1, h2⟩; exact .inl q; exact .inr ⟨l, A, c', h _ _ h1, h2⟩
  | .map _, _, q => by obtain ⟨l, h1, h2⟩ := q; exact ⟨l, h _ _ h1, h2⟩
  | .nilm, _, q => q
  | .fn _ a c, _, q => by obtain ⟨a', c', h1, h2, h3⟩ := q; exact ⟨a', c', h1, VRels.unren h a _ h2, VRels.unren h c _ h3⟩
  | .nilf, _, q => q
  | .ifc _ v, _, q => by obtain ⟨x', h1, h2⟩ := q; exact ⟨x', h1, VRel.unren h v x' h2⟩
  | .nili, _, q => q
  | .agg cs, _, q => by obtain ⟨a', h1, h2⟩ := q; exact ⟨a', h1, VRels.unren h cs _ h2⟩
  | .tup cs, _, q => by obtain ⟨a', h1, h2⟩ := q; exact ⟨a', h1, VRels.unren h cs _ h2⟩
theorem VRels.unren {μ μ' : Mu} {σ : Nat → Nat} (h : ∀ b l, μ' (σ b) = some l → μ b = some l) : ∀ (vs : List AV) (xs : List Value), VRels μ' (AV.rens σ vs) xs → VRels μ vs xs
  | [], [], q => q
  | v :: vs, x :: xs, q => ⟨VRel.unren h v x q.1, VRels.unren h vs xs q.2⟩
  | [], _ :: _, q => q.elim
  | _ :: _, [], q => q.elim
end
theorem VRels.len {μ : Mu} : ∀ {vs : List AV} {xs : List Value}, VRels μ vs xs → vs.length = xs.length
  | [], [], _ => rfl
  | _ :: _, _ :: _, q => congrArg (· + 1) (VRels.len q.2)
  | [], _ :: _, q => q.elim
  | _ :: _, [], q => q.elim
theorem VRels.get {μ : Mu} : ∀ {vs : List AV} {xs : List Value}, VRels μ vs xs → ∀ (i : Nat) (x : Value), xs[i]? = some x → VRel μ (vs.getD i .any) x
  | [], [], _, i, x, h => by simp at h
  | v :: vs, y :: xs, q, 0, x, h => by simp at h; subst h; exact q.1
  | v :: vs, y :: xs, q, i + 1, x, h => by simpa using VRels.get q.2 i x (by simpa using h)
  | [], _ :: _, q, _, _, _ => q.elim
  | _ :: _, [], q, _, _, _ => q.elim
theorem VRels.getD {μ : Mu} {vs : List AV} {xs : List Value} (h : VRels μ vs xs) (i : Nat) (d : Value) : VRel μ (vs.getD i .any) (xs.getD i d) := by
  rcases hx : xs[i]? with _ | x
  · have : vs[i]? = none := by rw [List.getElem?_eq_none_iff] at *; rw [h.len]; exact hx
    rw [List.getD_eq_getElem?_getD, this]; trivial
  · rw [List.getD_eq_getElem?_getD (l := xs), hx]; exact h.get i x hx
theorem VRels.set {μ : Mu} : ∀ {vs : List AV} {xs : List Value}, VRels μ vs xs → ∀ (i : Nat) {v : AV} {x : Value}, VRel μ v x → VRels μ (vs.set i v) (xs.set i x)
  | [], [], _, i, v, x, _ => by simp [VRels]
  | _ :: _, _ :: _, q, 0, v, x, h => ⟨h, q.2⟩
  | _ :: _, _ :: _, q, i + 1, v, x, h => ⟨q.1, VRels.set q.2 i h⟩
  | [], _ :: _, q, _, _, _, _ => q.elim
  | _ :: _, [], q, _, _, _, _ => q.elim
theorem VRels.append {μ : Mu} : ∀ {vs : List AV} {xs : List Value} {vs' : List AV} {xs' : List Value}, VRels μ vs xs → VRels μ vs' xs' → VRels μ (vs ++ vs') (xs ++ xs')
  | [], [], _, _, _, h => h
  | _ :: _, _ :: _, _, _, q, h => ⟨q.1, VRels.append q.2 h⟩
  | [], _ :: _, _, _, q, _ => q.elim
  | _ :: _, [], _, _, q, _ => q.elim
theorem VRels.of_get {μ : Mu} : ∀ {vs : List AV} {xs : List Value}, vs.length = xs.length → (∀ (i : Nat) (x : Value), xs[i]? = some x → VRel μ (vs.getD i .any) x) → VRels μ vs xs
  | [], [], _, _ => trivial
  | v :: vs, x :: xs, hl, h => ⟨by simpa using h 0 x rfl, VRels.of_get (by simpa using hl) (fun i y hy => by simpa using h (i + 1) y (by simpa using hy))⟩
  | [], _ :: _, hl, _ => by simp at hl
  | _ :: _, [], hl, _ => by simp at hl
theorem VRels.replicate {μ : Mu} {v : AV} {x : Value} (h : VRel μ v x) : ∀ n, VRels μ (List.replicate n v) (List.replicate n x)
  | 0 => trivial
  | n + 1 => ⟨h, VRels.replicate h n⟩
theorem VRels.drop {μ : Mu} : ∀ {vs : List AV} {xs : List Value}, VRels μ vs xs → ∀ n, VRels μ (vs.drop n) (xs.drop n)
  | _, _, q, 0 => by simpa using q
  | [], [], _, n + 1 => by simp [VRels]
  | _ :: _, _ :: _, q, n + 1 => by simpa using VRels.drop q.2 n
  | [], _ :: _, q, _ + 1 => q.elim
  | _ :: _, [], q, _ + 1 => q.elim
theorem VRels.take {μ : Mu} : ∀ {vs : List AV} {xs : List Value}, VRels μ vs xs → ∀ n, VRels μ (vs.take n) (xs.take n)
  | _, _, q, 0 => by simp [VRels]
  | [], [], _, n + 1 => by simp [VRels]
  | _ :: _, _ :: _, q, n + 1 => ⟨q.1, VRels.take q.2 n⟩
  | [], _ :: _, q, _ + 1 => q.elim
  | _ :: _, [], q, _ + 1 => q.elim
/-! ### values in a tree -/
/-- The way to a place in a tree. -/
inductive Pth where
  | z
  | l (p : Pth)
  | r (p : Pth)
  deriving DecidableEq
def Pth.num : Pth → Nat
  | .z => 0
  | .l p => 2 * p.num + 1
  | .r p => 2 * p.num + 2
noncomputable def pathF (f : Nat) : Nat → Pth := Nat.rec (fun _ => Pth.z) (fun _ ih b => Nat.rec Pth.z (fun b _ => bif Nat.beq (Nat.mod b 2) 0 then Pth.l (ih (Nat.div b 2)) else Pth.r (ih (Nat.div b 2))) b) f
noncomputable def pathOf (b : Nat) : Pth := pathF b b
theorem pathF_num : ∀ f b, b ≤ f → (pathF f b).num = b
  | 0, b, h => by
    have : b = 0 := by omega
    subst this
    rfl
  | f + 1, 0, h => rfl
  | f + 1, b + 1, h => by
    have ih := pathF_num f (b / 2) (by omega)
    show (bif Nat.beq (Nat.mod b 2) 0 then Pth.l (pathF f (Nat.div b 2)) else Pth.r (pathF f (Nat.div b 2))).num = b + 1
    have e1 : Nat.mod b 2 = b % 2 := rfl
    have e2 : Nat.div b 2 = b / 2 := rfl
    rw [e1, e2]
    rcases Nat.mod_two_eq_zero_or_one b with q | q
    · rw [q]; show 2 * (pathF f (b / 2)).num + 1 = b + 1; rw [ih]; omega
    · rw [q]; show 2 * (pathF f (b / 2)).num + 2 = b + 1; rw [ih]; omega
theorem pathOf_num (b : Nat) : (pathOf b).num = b := pathF_num b b (Nat.le_refl _)
theorem pathOf_inj {b c : Nat} (h : pathOf b = pathOf c) : b = c := by rw [← pathOf_num b, ← pathOf_num c, h]
inductive VT where
  | e
  | n (l : VT) (x : AV) (r : VT)
  deriving Inhabited
noncomputable def VT.lft (t : VT) : VT := VT.rec VT.e (fun l _ _ _ _ => l) t
noncomputable def VT.rgt (t : VT) : VT := VT.rec VT.e (fun _ _ r _ _ => r) t
noncomputable def VT.top (t : VT) : AV := VT.rec AV.any (fun _ x _ _ _ => x) t
noncomputable def VT.get (p : Pth) : VT → AV := Pth.rec VT.top (fun _ ih t => ih (VT.lft t)) (fun _ ih t => ih (VT.rgt t)) p
noncomputable def VT.put (v : AV) (p : Pth) : VT → VT := Pth.rec (fun t => VT.n (VT.lft t) v (VT.rgt t)) (fun _ ih t => VT.n (ih (VT.lft t)) (VT.top t) (VT.rgt t)) (fun _ ih t => VT.n (VT.lft t) (VT.top t) (ih (VT.rgt t))) p
theorem VT.get_e : ∀ p, VT.get p .e = .any
  | .z => rfl
  | .l p => VT.get_e p
  | .r p => VT.get_e p
theorem VT.get_put (v : AV) : ∀ (p q : Pth) (t : VT), VT.get q (VT.put v p t) = if q = p then v else VT.get q t
  | .z, .z, t => by simp; rfl
  | .z, .l q, t => by simp; rfl
  | .z, .r q, t => by simp; rfl
  | .l p, .z, t => by simp; rfl
  | .l p, .l q, t => by
    show VT.get q (VT.put v p (VT.lft t)) = _
    rw [VT.get_put v p q]
    simp; rfl
  | .l p, .r q, t => by simp; rfl
  | .r p, .z, t => by simp; rfl
  | .r p, .l q, t => by simp; rfl
  | .r p, .r q, t => by
    show VT.get q (VT.put v p (VT.rgt t)) = _
    rw [VT.get_put v p q]
    simp; rfl
noncomputable def VT.at (t : VT) (i : Nat) : AV := VT.get (pathOf i) t
noncomputable def VT.putAt (t : VT) (i : Nat) (v : AV) : VT := VT.put v (pathOf i) t
theorem VT.at_put (t : VT) (i : Nat) (v : AV) (c : Nat) : (t.putAt i v).at c = if c = i then v else t.at c := by
  unfold VT.at VT.putAt
  rw [VT.get_put]
  by_cases e : c = i
  · rw [if_pos e, if_pos (by rw [e])]
  · rw [if_neg e, if_neg (fun h => e (pathOf_inj h))]
def VT.ren (σ : Nat → Nat) : VT → VT
  | .e => .e
  | .n l x r => .n (l.ren σ) (x.ren σ) (r.ren σ)
theorem VT.lft_ren (σ : Nat → Nat) (t : VT) : (t.ren σ).lft = t.lft.ren σ := by cases t <;> rfl
theorem VT.rgt_ren (σ : Nat → Nat) (t : VT) : (t.ren σ).rgt = t.rgt.ren σ := by cases t <;> rfl
theorem VT.get_ren (σ : Nat → Nat) : ∀ (p : Pth) (t : VT), VT.get p (t.ren σ) = (VT.get p t).ren σ
  | .z, t => by cases t <;> rfl
  | .l p, t => by
    show VT.get p (t.ren σ).lft = (VT.get p t.lft).ren σ
    rw [VT.lft_ren, VT.get_ren σ p]
  | .r p, t => by
    show VT.get p (t.ren σ).rgt = (VT.get p t.rgt).ren σ
    rw [VT.rgt_ren, VT.get_ren σ p]
theorem VT.at_ren (σ : Nat → Nat) (t : VT) (i : Nat) : (t.ren σ).at i = (t.at i).ren σ := VT.get_ren σ _ t
/-- n values from a place on. -/
noncomputable def VT.list (t : VT) (o n : Nat) : List AV := (List.range n).map fun i => t.at (o + i)
/-! ### the heap -/
/-- What stands in a block: cells written out, numbers of one kind, elements of several cells, a map's entries. -/
inductive AC where
  | cells (l : List AV)
  | ints (k : IntKind) (xs : List Int)
  | recs (n : Nat) (f : Nat → List AV)
  | map (es : List (AV × AV))
  | tr (n : Nat) (t : VT)
  deriving Inhabited
structure ABlk where
  own : Bool
  st : Nat
  c : AC
  deriving Inhabited
noncomputable def AC.val (st : Nat) : AC → Nat → Nat → AV
  | .cells l, k, j => l.getD (k * st + j) .any
  | .ints q xs, k, j => .int q (xs.getD (k + j) 0)
  | .recs _ f, k, j => (f k).getD j .any
  | .map _, _, _ => .any
  | .tr _ t, k, j => t.at (k * st + j)
def AC.inb (st : Nat) : AC → Nat → Nat → Bool
  | .cells l, k, j => decide (k * st + j < l.length)
  | .ints _ xs, k, j => Nat.beq st 1 && decide (k + j < xs.length)
  | .recs n f, k, j => decide (k < n) && decide (j < st)
  | .map _, _, _ => false
  | .tr n _, k, j => decide (k * st + j < n)
def AC.ren (σ : Nat → Nat) : AC → AC
  | .cells l => .cells (AV.rens σ l)
  | .ints k xs => .ints k xs
  | .recs n f => .recs n (fun i => AV.rens σ (f i))
  | .map es => .map (es.map fun p => (p.1.ren σ, p.2.ren σ))
  | .tr n t => .tr n (t.ren σ)
def ABlk.ren (σ : Nat → Nat) (b : ABlk) : ABlk := { b with c := b.c.ren σ }
theorem AV.rens_length (σ : Nat → Nat) : ∀ l : List AV, (AV.rens σ l).length = l.length
  | [] => rfl
  | _ :: l => congrArg (· + 1) (AV.rens_length σ l)
theorem AV.rens_getD (σ : Nat → Nat) : ∀ (l : List AV) (i : Nat), (AV.rens σ l).getD i .any = (l.getD i .any).ren σ
  | [], _ => rfl
  | v :: l, 0 => rfl
  | v :: l, i + 1 => by simpa [AV.rens] using AV.rens_getD σ l i
theorem AC.val_ren (σ : Nat → Nat) (st : Nat) (c : AC) (k j : Nat) : (c.ren σ).val st k j = (c.val st k j).ren σ := by
  cases c with
  | cells l => exact AV.rens_getD σ l _
  | ints q xs => rfl
  | recs n f => exact AV.rens_getD σ (f k) _
  | map es => rfl
  | tr n t => exact VT.at_ren σ t _
theorem AC.inb_ren (σ : Nat → Nat) (st : Nat) (c : AC) (k j : Nat) : (c.ren σ).inb st k j = c.inb st k j := by
  cases c with
  | cells l => simp [AC.ren, AC.inb, AV.rens_length]
  | ints q xs => rfl
  | recs n f => rfl
  | map es => rfl
  | tr n t => rfl
/-- A map's entries. -/
def MRel (μ : Mu) (es : List (AV × AV)) (en : List MapEntry) : Prop := VRels μ (es.map (·.1)) (en.map (·.key)) ∧ VRels μ (es.map (·.2)) (en.map (·.val))
/-- What an abstract block says of a world. -/
def BSat (μ : Mu) (b : ABlk) (l : Loc) (w : World) : Prop :=
  match b.c with
  | .map es => ∃ en ck, w.heap[l.blk]? = some (.map en ck) ∧ MRel μ es en.toList
  | c => l.st = b.st ∧ ∃ C t fz, w.heap[l.blk]? = some (.cells C t fz) ∧ (b.own = true → (fz.1 = fz.2 ∨ C.size ≤ fz.1) ∧ l.off + l.cap * b.st ≤ C.size) ∧
      ∀ k j, c.inb b.st k j = true → ∃ x, C[l.off + k * b.st + j]? = some x ∧ VRel μ (c.val b.st k j) x ∧ x.oneCell' = true
/-- A tree of blocks by number. -/
inductive T where
  | e
  | n (l : T) (x : Option ABlk) (r : T)
  deriving Inhabited
def T.get : T → Nat → Option ABlk
  | .e, _ => none
  | .n l x r, b => match b with
    | 0 => x
    | b + 1 => bif Nat.beq (b % 2) 0 then l.get (b / 2) else r.get (b / 2)
def T.put (x : Option ABlk) : Nat → T → Nat → T
  | 0, t, _ => t
  | f + 1, t, b => match t, b with
    | .e, 0 => .n .e x .e
    | .n l _ r, 0 => .n l x r
    | .e, b + 1 => bif Nat.beq (b % 2) 0 then .n (T.put x f .e (b / 2)) none .e else .n .e none (T.put x f .e (b / 2))
    | .n l y r, b + 1 => bif Nat.beq (b % 2) 0 then .n (T.put x f l (b / 2)) y r else .n l y (T.put x f r (b / 2))
theorem T.get_put (x : Option ABlk) : ∀ (f : Nat) (t : T) (b : Nat), b < f → ∀ c, (T.put x f t b).get c = if c = b then x else t.get c
  | 0, _, _, h, _ => absurd h (Nat.not_lt_zero _)
  | f + 1, t, 0, _, c => by
    cases t with
    | e => cases c with
      | zero => simp [T.put, T.get]
      | succ c => simp [T.put, T.get]
    | n l y r => cases c with
      | zero => simp [T.put, T.get]
      | succ c => simp [T.put, T.get]
  | f + 1, t, b + 1, h, c => by
    have ih := fun t => T.get_put x f t (b / 2) (by omega)
    have q : ∀ m : Nat, Nat.beq (m % 2) 0 = decide (m % 2 = 0) := fun m => by
      rcases Nat.mod_two_eq_zero_or_one m with h | h <;> rw [h] <;> rfl
    cases t with
    | e => cases c with
      | zero => simp only [T.put, q]; by_cases hb : b % 2 = 0 <;> simp [hb, T.get]
      | succ c =>
        simp only [T.put, q]
        by_cases hb : b % 2 = 0 <;> by_cases hc : c % 2 = 0 <;> simp [hb, hc, T.get, q, ih]
        · by_cases e : c / 2 = b / 2
          · rw [if_pos e, if_pos (by omega)]
          · rw [if_neg e, if_neg (by omega)]
        · intro e; omega
        · intro e; omega
        · by_cases e : c / 2 = b / 2
          · rw [if_pos e, if_pos (by omega)]
          · rw [if_neg e, if_neg (by omega)]
    | n l y r => cases c with
      | zero => simp only [T.put, q]; by_cases hb : b % 2 = 0 <;> simp [hb, T.get]
      | succ c =>
        simp only [T.put, q]
        by_cases hb : b % 2 = 0 <;> by_cases hc : c % 2 = 0 <;> simp [hb, hc, T.get, q, ih]
        · by_cases e : c / 2 = b / 2
          · rw [if_pos e, if_pos (by omega)]
          · rw [if_neg e, if_neg (by omega)]
        · intro e; omega
        · intro e; omega
        · by_cases e : c / 2 = b / 2
          · rw [if_pos e, if_pos (by omega)]
          · rw [if_neg e, if_neg (by omega)]
structure AH where
  next : Nat
  t : T
  deriving Inhabited
def AH.get (H : AH) (b : Nat) : Option ABlk := H.t.get b
def AH.set (H : AH) (b : Nat) (x : ABlk) : AH := { H with t := T.put (some x) (b + 1) H.t b }
def AH.del (H : AH) (b : Nat) : AH := { H with t := T.put none (b + 1) H.t b }
def AH.push (H : AH) (x : ABlk) : AH := { next := H.next + 1, t := T.put (some x) (H.next + 1) H.t H.next }
theorem AH.get_set (H : AH) (b : Nat) (x : ABlk) (c : Nat) : (H.set b x).get c = if c = b then some x else H.get c := T.get_put _ _ _ _ (by omega) _
theorem AH.get_del (H : AH) (b : Nat) (c : Nat) : (H.del b).get c = if c = b then none else H.get c := T.get_put _ _ _ _ (by omega) _
theorem AH.get_push (H : AH) (x : ABlk) (c : Nat) : (H.push x).get c = if c = H.next then some x else H.get c := T.get_put _ _ _ _ (by omega) _
/-- A heap by a list. -/
def AH.of (n : Nat) (l : List (Nat × ABlk)) : AH := l.foldl (fun H p => H.set p.1 p.2) ⟨n, .e⟩
/-- What an abstract heap says of a world. -/
structure Sat (μ : Mu) (H : AH) (w : World) : Prop where
  fresh : ∀ b, H.next ≤ b → μ b = none
  blk : ∀ b k, H.get b = some k → ∃ l, μ b = some l ∧ BSat μ k l w
  sep : ∀ b b' k k' l l', H.get b = some k → H.get b' = some k' → b ≠ b' → k.own = true → μ b = some l → μ b' = some l' → l.blk ≠ l'.blk
/-- What a step leaves as it was. -/
structure Fr (μ : Mu) (H : AH) (μ' : Mu) (H' : AH) (w w' : World) : Prop where
  le : ∀ b, b < H.next → μ' b = μ b
  nx : H.next ≤ H'.next
  os : w'.os = w.os
  tape : w'.tape = w.tape
  output : w'.output = w.output
  size : w.heap.size ≤ w'.heap.size
  same : ∀ k, k < w.heap.size → (∀ b x l, H.get b = some x → x.own = true → μ b = some l → l.blk ≠ k) → w'.heap[k]? = w.heap[k]?
  from_ : ∀ b x l, H'.get b = some x → μ' b = some l → w.heap.size ≤ l.blk ∨ ∃ b0 x0 l0, H.get b0 = some x0 ∧ μ b0 = some l0 ∧ l0.blk = l.blk ∧ (x.own = true → x0.own = true)
theorem Sat.lt {μ : Mu} {H : AH} {w : World} (s : Sat μ H w) {b : Nat} {l : Loc} (h : μ b = some l) : b < H.next := by
  rcases Nat.lt_or_ge b H.next with h' | h'
  · exact h'
  · rw [s.fresh b h'] at h; cases h
theorem Fr.ext {μ μ' : Mu} {H H' : AH} {w w' : World} (s : Sat μ H w) (f : Fr μ H μ' H' w w') : MuLe μ μ' := fun b l h => by rw [f.le b (s.lt h)]; exact h
theorem BSat.blk_lt {μ : Mu} {b : ABlk} {l : Loc} {w : World} (h : BSat μ b l w) : l.blk < w.heap.size := by
  unfold BSat at h
  split at h
  · obtain ⟨en, ck, h1, _⟩ := h
    exact (Array.getElem?_eq_some_iff.1 h1).1
  · obtain ⟨_, C, t, fz, h1, _⟩ := h
    exact (Array.getElem?_eq_some_iff.1 h1).1
theorem MRel.ext {μ μ' : Mu} (h : MuLe μ μ') {es : List (AV × AV)} {en : List MapEntry} (q : MRel μ es en) : MRel μ' es en := ⟨VRels.ext h _ _ q.1, VRels.ext h _ _ q.2⟩
/-- A block that stays. -/
theorem BSat.move {μ μ' : Mu} {b : ABlk} {l : Loc} {w w' : World} (h : BSat μ b l w) (hm : MuLe μ μ') (hw : w'.heap[l.blk]? = w.heap[l.blk]?) : BSat μ' b l w' := by
  unfold BSat at *
  split at h
  · obtain ⟨en, ck, h1, h2⟩ := h
    exact ⟨en, ck, hw.trans h1, h2.ext hm⟩
  · obtain ⟨h0, C, t, fz, h1, h2, h3⟩ := h
    exact ⟨h0, C, t, fz, hw.trans h1, h2, fun k j hk => by obtain ⟨x, hx, hv, ho⟩ := h3 k j hk; exact ⟨x, hx, VRel.ext hm _ _ hv, ho⟩⟩
theorem Fr.refl (μ : Mu) (H : AH) (w : World) : Fr μ H μ H w w :=
  ⟨fun _ _ => rfl, Nat.le_refl _, rfl, rfl, rfl, Nat.le_refl _, fun _ _ _ => rfl, fun b x l h1 h2 => .inr ⟨b, x, l, h1, h2, rfl, id⟩⟩
theorem Fr.trans {μ μ1 μ2 : Mu} {H H1 H2 : AH} {w w1 w2 : World} (f : Fr μ H μ1 H1 w w1) (g : Fr μ1 H1 μ2 H2 w1 w2) : Fr μ H μ2 H2 w w2 where
  le b hb := (g.le b (Nat.lt_of_lt_of_le hb f.nx)).trans (f.le b hb)
  nx := Nat.le_trans f.nx g.nx
  os := g.os.trans f.os
  tape := g.tape.trans f.tape
  output := g.output.trans f.output
  size := Nat.le_trans f.size g.size
  same k hk hn := (g.same k (Nat.lt_of_lt_of_le hk f.size) (fun b x l h1 h2 h3 he => by
    rcases f.from_ b x l h1 h3 with h | ⟨b0, x0, l0, g1, g2, g3, g4⟩
    · omega
    · exact hn b0 x0 l0 g1 (g4 h2) g2 (g3.trans he))).trans (f.same k hk hn)
  from_ b x l h1 h2 := by
    rcases g.from_ b x l h1 h2 with h | ⟨b0, x0, l0, g1, g2, g3, g4⟩
    · exact .inl (Nat.le_trans f.size h)
    · rcases f.from_ b0 x0 l0 g1 g2 with h | ⟨b1, x1, l1, e1, e2, e3, e4⟩
      · exact .inl (by omega)
      · exact .inr ⟨b1, x1, l1, e1, e2, e3.trans g3, fun ho => e4 (g4 ho)⟩
/-- The slots of a frame. -/
def Rel (μ : Mu) (ts : List AV) (tmps : Array Value) : Prop := VRels μ ts tmps.toList
theorem Rel.ext {μ μ' : Mu} (h : MuLe μ μ') {ts : List AV} {tmps : Array Value} (q : Rel μ ts tmps) : Rel μ' ts tmps := VRels.ext h _ _ q
theorem Rel.get {μ : Mu} {ts : List AV} {tmps : Array Value} (h : Rel μ ts tmps) (i : Nat) : VRel μ (ts.getD i .any) (tmps.getD i undef) := by
  have := VRels.getD h i undef
  rwa [List.getD_eq_getElem?_getD (l := tmps.toList), Array.getElem?_toList, ← Array.getD_eq_getD_getElem?] at this
theorem Rel.set {μ : Mu} {ts : List AV} {tmps : Array Value} (h : Rel μ ts tmps) (i : Nat) {v : AV} {x : Value} (hv : VRel μ v x) : Rel μ (ts.set i v) (tmps.setIfInBounds i x) := by
  unfold Rel
  rw [Array.toList_setIfInBounds]
  exact VRels.set h i hv
end Go.Eng
