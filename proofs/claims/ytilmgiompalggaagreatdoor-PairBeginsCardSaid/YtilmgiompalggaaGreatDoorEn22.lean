/- The engine, thirty-fifth part: a quick evaluator for known values: small parts, and the operations that only read. -/
import Derived.Test.YtilmgiompalggaaGreatDoorEn18
namespace Go.Eng
open Go Go.RowKit
set_option linter.unusedVariables false
set_option linter.unusedSimpArgs false
noncomputable section
/-! ### small parts -/
def chk (b : Bool) (p : Prop) : Prop := @Bool.rec (fun _ => Prop) False p b
theorem chk_of {b : Bool} {p : Prop} (h : chk b p) : b = true ∧ p := by
  cases b
  · exact h.elim
  · exact ⟨rfl, h⟩
def frN (m : Nat) (f : Nat → Prop) : Prop := @Nat.rec (fun _ => Prop) (f 0) (fun m _ => f (Nat.succ m)) m
theorem frN_of {m : Nat} {f : Nat → Prop} (h : frN m f) : f m := by cases m <;> exact h
def frI (n : Int) (f : Int → Prop) : Prop := @Int.rec (fun _ => Prop) (fun m => frN m fun m => f (Int.ofNat m)) (fun m => frN m fun m => f (Int.negSucc m)) n
theorem frI_of {n : Int} {f : Int → Prop} (h : frI n f) : f n := by
  cases n with
  | ofNat m => exact frN_of (f := fun m => f (Int.ofNat m)) h
  | negSucc m => exact frN_of (f := fun m => f (Int.negSucc m)) h
def frB (b : Bool) (f : Bool → Prop) : Prop := @Bool.rec (fun _ => Prop) (f false) (f true) b
theorem frB_of {b : Bool} {f : Bool → Prop} (h : frB b f) : f b := by cases b <;> exact h
def kN (k : IntKind) : Nat := @IntKind.rec (fun _ => Nat) 0 1 2 3 4 5 6 7 k
def kEq (a b : IntKind) : Bool := Nat.beq (kN a) (kN b)
theorem kEq_of {a b : IntKind} (h : kEq a b = true) : a = b := by cases a <;> cases b <;> first | rfl | (simp [kEq, kN] at h; done)
/-- What a value is. -/
def asI (v : AV) (f : IntKind → Int → Prop) : Prop := @AV.casesOn (fun _ => Prop) v False f (fun _ => False) (fun _ => False) (fun _ _ _ => False) False (fun _ _ _ _ _ _ => False) False (fun _ _ _ _ _ => False) (fun _ => False) False (fun _ _ _ => False) False (fun _ _ => False) False (fun _ => False) (fun _ => False)
def asB (v : AV) (f : Bool → Prop) : Prop := @AV.casesOn (fun _ => Prop) v False (fun _ _ => False) f (fun _ => False) (fun _ _ _ => False) False (fun _ _ _ _ _ _ => False) False (fun _ _ _ _ _ => False) (fun _ => False) False (fun _ _ _ => False) False (fun _ _ => False) False (fun _ => False) (fun _ => False)
def asP (v : AV) (f : Nat → Nat → Nat → Prop) : Prop := @AV.casesOn (fun _ => Prop) v False (fun _ _ => False) (fun _ => False) (fun _ => False) f False (fun _ _ _ _ _ _ => False) False (fun _ _ _ _ _ => False) (fun _ => False) False (fun _ _ _ => False) False (fun _ _ => False) False (fun _ => False) (fun _ => False)
def asA (v : AV) (f : List AV → Prop) : Prop := @AV.casesOn (fun _ => Prop) v False (fun _ _ => False) (fun _ => False) (fun _ => False) (fun _ _ _ => False) False (fun _ _ _ _ _ _ => False) False (fun _ _ _ _ _ => False) (fun _ => False) False (fun _ _ _ => False) False (fun _ _ => False) False f (fun _ => False)
def asT (v : AV) (f : List AV → Prop) : Prop := @AV.casesOn (fun _ => Prop) v False (fun _ _ => False) (fun _ => False) (fun _ => False) (fun _ _ _ => False) False (fun _ _ _ _ _ _ => False) False (fun _ _ _ _ _ => False) (fun _ => False) False (fun _ _ _ => False) False (fun _ _ => False) False (fun _ => False) f
/-- A slice, known or a read one. -/
def asS (v : AV) (f : Nat → Nat → Nat → Nat → Prop) : Prop := @AV.casesOn (fun _ => Prop) v False (fun _ _ => False) (fun _ => False) (fun _ => False) (fun _ _ _ => False) False (fun b k j n _ _ => f b k j n) False (fun b k j n _ => f b k j n) (fun _ => False) False (fun _ _ _ => False) False (fun _ _ => False) False (fun _ => False) (fun _ => False)
theorem asI_of {v : AV} {f : IntKind → Int → Prop} (h : asI v f) : ∃ k n, v = .int k n ∧ f k n := by
  cases v <;> first | exact ⟨_, _, rfl, h⟩ | exact h.elim
theorem asB_of {v : AV} {f : Bool → Prop} (h : asB v f) : ∃ b, v = .bool b ∧ f b := by
  cases v <;> first | exact ⟨_, rfl, h⟩ | exact h.elim
theorem asP_of {v : AV} {f : Nat → Nat → Nat → Prop} (h : asP v f) : ∃ b k j, v = .ptr b k j ∧ f b k j := by
  cases v <;> first | exact ⟨_, _, _, rfl, h⟩ | exact h.elim
theorem asA_of {v : AV} {f : List AV → Prop} (h : asA v f) : ∃ l, v = .agg l ∧ f l := by
  cases v <;> first | exact ⟨_, rfl, h⟩ | exact h.elim
theorem asT_of {v : AV} {f : List AV → Prop} (h : asT v f) : ∃ l, v = .tup l ∧ f l := by
  cases v <;> first | exact ⟨_, rfl, h⟩ | exact h.elim
theorem asS_of {v : AV} {f : Nat → Nat → Nat → Nat → Prop} (h : asS v f) : ∃ b k j n, f b k j n ∧ ((∃ c ex, v = .sl b k j n c ex) ∨ ∃ c, v = .msl b k j n c) := by
  cases v <;> first | exact ⟨_, _, _, _, h, .inl ⟨_, _, rfl⟩⟩ | exact ⟨_, _, _, _, h, .inr ⟨_, rfl⟩⟩ | exact h.elim
/-- A value, its numbers made plain. -/
def frV (v : AV) (f : AV → Prop) : Prop := @AV.casesOn (fun _ => Prop) v (f .any) (fun k n => frI n fun n => f (.int k n)) (fun b => frB b fun b => f (.bool b)) (fun s => f (.str s)) (fun b k j => frN b fun b => frN k fun k => frN j fun j => f (.ptr b k j)) (f .nilp)
  (fun b k j n c ex => frN b fun b => frN k fun k => frN j fun j => frN n fun n => frN c fun c => frB ex fun ex => f (.sl b k j n c ex)) (f .nils) (fun b k j n c => frN b fun b => frN k fun k => frN j fun j => frN n fun n => frN c fun c => f (.msl b k j n c)) (fun b => frN b fun b => f (.map b)) (f .nilm)
  (fun a b c => f (.fn a b c)) (f .nilf) (fun t v => f (.ifc t v)) (f .nili) (fun l => f (.agg l)) (fun l => f (.tup l))
theorem frV_of {v : AV} {f : AV → Prop} (h : frV v f) : f v := by
  cases v with
  | int k n => exact frI_of (f := fun n => f (.int k n)) h
  | bool b => exact frB_of (f := fun b => f (.bool b)) h
  | ptr b k j => exact frN_of (f := fun j => f (.ptr b k j)) (frN_of (f := fun k => frN j fun j => f (.ptr b k j)) (frN_of (f := fun b => frN k fun k => frN j fun j => f (.ptr b k j)) h))
  | sl b k j n c ex =>
    exact frB_of (f := fun ex => f (.sl b k j n c ex)) (frN_of (f := fun c => frB ex fun ex => f (.sl b k j n c ex)) (frN_of (f := fun n => frN c fun c => frB ex fun ex => f (.sl b k j n c ex))
      (frN_of (f := fun j => frN n fun n => frN c fun c => frB ex fun ex => f (.sl b k j n c ex)) (frN_of (f := fun k => frN j fun j => frN n fun n => frN c fun c => frB ex fun ex => f (.sl b k j n c ex)) (frN_of (f := fun b => frN k fun k => frN j fun j => frN n fun n => frN c fun c => frB ex fun ex => f (.sl b k j n c ex)) h)))))
  | msl b k j n c =>
    exact frN_of (f := fun c => f (.msl b k j n c)) (frN_of (f := fun n => frN c fun c => f (.msl b k j n c))
      (frN_of (f := fun j => frN n fun n => frN c fun c => f (.msl b k j n c)) (frN_of (f := fun k => frN j fun j => frN n fun n => frN c fun c => f (.msl b k j n c)) (frN_of (f := fun b => frN k fun k => frN j fun j => frN n fun n => frN c fun c => f (.msl b k j n c)) h))))
  | map b => exact frN_of (f := fun b => f (.map b)) h
  | _ => exact h
/-! ### trees, with what comes next -/
def VT.getC (p : Pth) : VT → (AV → Prop) → Prop := @Pth.rec (fun _ => VT → (AV → Prop) → Prop) (fun t f => @VT.rec (fun _ => Prop) (f .any) (fun _ x _ _ _ => f x) t) (fun _ ih t f => @VT.rec (fun _ => Prop) (f .any) (fun l _ _ _ _ => ih l f) t) (fun _ ih t f => @VT.rec (fun _ => Prop) (f .any) (fun _ _ r _ _ => ih r f) t) p
theorem VT.getC_of : ∀ {p : Pth} {t : VT} {f : AV → Prop}, VT.getC p t f → f (VT.get p t)
  | .z, .e, f, h => h
  | .z, .n l x r, f, h => h
  | .l p, .e, f, h => by
    have e : VT.get (.l p) .e = .any := VT.get_e p
    rw [e]; exact h
  | .l p, .n l x r, f, h => VT.getC_of (p := p) (t := l) h
  | .r p, .e, f, h => by
    have e : VT.get (.r p) .e = .any := VT.get_e p
    rw [e]; exact h
  | .r p, .n l x r, f, h => VT.getC_of (p := p) (t := r) h
def VT.putC (p : Pth) : AV → VT → (VT → Prop) → Prop := @Pth.rec (fun _ => AV → VT → (VT → Prop) → Prop) (fun v t f => @VT.rec (fun _ => Prop) (f (.n .e v .e)) (fun l _ r _ _ => f (.n l v r)) t)
  (fun _ ih v t f => @VT.rec (fun _ => Prop) (ih v .e fun l => f (.n l .any .e)) (fun l x r _ _ => ih v l fun l => f (.n l x r)) t)
  (fun _ ih v t f => @VT.rec (fun _ => Prop) (ih v .e fun r => f (.n .e .any r)) (fun l x r _ _ => ih v r fun r => f (.n l x r)) t) p
theorem VT.putC_of {v : AV} : ∀ {p : Pth} {t : VT} {f : VT → Prop}, VT.putC p v t f → f (VT.put v p t)
  | .z, .e, f, h => h
  | .z, .n l x r, f, h => h
  | .l p, .e, f, h => VT.putC_of (p := p) (t := .e) (f := fun l => f (.n l .any .e)) h
  | .l p, .n l x r, f, h => VT.putC_of (p := p) (t := l) (f := fun l => f (.n l x r)) h
  | .r p, .e, f, h => VT.putC_of (p := p) (t := .e) (f := fun r => f (.n .e .any r)) h
  | .r p, .n l x r, f, h => VT.putC_of (p := p) (t := r) (f := fun r => f (.n l x r)) h
def T.lft (t : T) : T := @T.rec (fun _ => T) .e (fun l _ _ _ _ => l) t
def T.rgt (t : T) : T := @T.rec (fun _ => T) .e (fun _ _ r _ _ => r) t
def T.top (t : T) : Option ABlk := @T.rec (fun _ => Option ABlk) none (fun _ x _ _ _ => x) t
def T.gp (p : Pth) : T → Option ABlk := @Pth.rec (fun _ => T → Option ABlk) T.top (fun _ ih t => ih (T.lft t)) (fun _ ih t => ih (T.rgt t)) p
def T.pp (x : Option ABlk) (p : Pth) : T → T := @Pth.rec (fun _ => T → T) (fun t => .n (T.lft t) x (T.rgt t)) (fun _ ih t => .n (ih (T.lft t)) (T.top t) (T.rgt t)) (fun _ ih t => .n (T.lft t) (T.top t) (ih (T.rgt t))) p
theorem pathF_more : ∀ f b, b ≤ f → pathF f b = pathOf b := by
  have key : ∀ f g b, b ≤ f → b ≤ g → pathF f b = pathF g b := by
    intro f
    induction f with
    | zero =>
      intro g b h1 h2
      have : b = 0 := by omega
      subst this
      cases g <;> rfl
    | succ f ih =>
      intro g b h1 h2
      cases b with
      | zero => cases g <;> rfl
      | succ b =>
        cases g with
        | zero => omega
        | succ g =>
          show (bif Nat.beq (Nat.mod b 2) 0 then Pth.l (pathF f (Nat.div b 2)) else Pth.r (pathF f (Nat.div b 2))) = (bif Nat.beq (Nat.mod b 2) 0 then Pth.l (pathF g (Nat.div b 2)) else Pth.r (pathF g (Nat.div b 2)))
          have e2 : Nat.div b 2 = b / 2 := rfl
          rw [ih g (Nat.div b 2) (by omega) (by omega)]
  intro f b h
  exact key f b b h (Nat.le_refl _)
theorem pathOf_succ (b : Nat) : pathOf (b + 1) = bif Nat.beq (b % 2) 0 then Pth.l (pathOf (b / 2)) else Pth.r (pathOf (b / 2)) := by
  show (bif Nat.beq (Nat.mod b 2) 0 then Pth.l (pathF b (Nat.div b 2)) else Pth.r (pathF b (Nat.div b 2))) = _
  have e1 : Nat.mod b 2 = b % 2 := rfl
  have e2 : Nat.div b 2 = b / 2 := rfl
  rw [e1, e2, pathF_more b (b / 2) (by omega)]
theorem T.gp_eq : ∀ (i b : Nat) (t : T), b ≤ i → T.gp (pathOf b) t = t.get b
  | _, 0, .e, _ => rfl
  | _, 0, .n l x r, _ => rfl
  | 0, b + 1, t, h => by omega
  | i + 1, b + 1, t, h => by
    have ih := fun t => T.gp_eq i (b / 2) t (by omega)
    rw [pathOf_succ]
    cases t with
    | e =>
      rcases hb : Nat.beq (b % 2) 0 with _ | _
      · show T.gp (pathOf (b / 2)) T.e = _
        rw [ih]; cases hq : b / 2 <;> rfl
      · show T.gp (pathOf (b / 2)) T.e = _
        rw [ih]; cases hq : b / 2 <;> rfl
    | n l x r =>
      simp only [T.get]
      rcases hb : Nat.beq (b % 2) 0 with _ | _
      · show T.gp (pathOf (b / 2)) r = _
        rw [ih]; rfl
      · show T.gp (pathOf (b / 2)) l = _
        rw [ih]; rfl
theorem T.pp_eq (x : Option ABlk) : ∀ (f b : Nat) (t : T), b < f → T.pp x (pathOf b) t = T.put x f t b
  | 0, _, _, h => by omega
  | f + 1, 0, .e, _ => rfl
  | f + 1, 0, .n l y r, _ => rfl
  | f + 1, b + 1, t, h => by
    have ih := fun t => T.pp_eq x f (b / 2) t (by omega)
    rw [pathOf_succ]
    cases t with
    | e =>
      simp only [T.put]
      rcases hb : Nat.beq (b % 2) 0 with _ | _
      · show T.n .e none (T.pp x (pathOf (b / 2)) .e) = _
        rw [ih]; rfl
      · show T.n (T.pp x (pathOf (b / 2)) .e) none .e = _
        rw [ih]; rfl
    | n l y r =>
      simp only [T.put]
      rcases hb : Nat.beq (b % 2) 0 with _ | _
      · show T.n l y (T.pp x (pathOf (b / 2)) r) = _
        rw [ih]; rfl
      · show T.n (T.pp x (pathOf (b / 2)) l) y r = _
        rw [ih]; rfl
def T.getC (p : Pth) : T → (ABlk → Prop) → Prop := @Pth.rec (fun _ => T → (ABlk → Prop) → Prop) (fun t f => @T.rec (fun _ => Prop) False (fun _ x _ _ _ => @Option.rec ABlk (fun _ => Prop) False f x) t) (fun _ ih t f => @T.rec (fun _ => Prop) False (fun l _ _ _ _ => ih l f) t) (fun _ ih t f => @T.rec (fun _ => Prop) False (fun _ _ r _ _ => ih r f) t) p
theorem T.getC_of : ∀ {p : Pth} {t : T} {f : ABlk → Prop}, T.getC p t f → ∃ y, T.gp p t = some y ∧ f y
  | .z, .e, f, h => h.elim
  | .z, .n l none r, f, h => h.elim
  | .z, .n l (some x) r, f, h => ⟨x, rfl, h⟩
  | .l p, .e, f, h => h.elim
  | .l p, .n l x r, f, h => T.getC_of (p := p) (t := l) h
  | .r p, .e, f, h => h.elim
  | .r p, .n l x r, f, h => T.getC_of (p := p) (t := r) h
def T.putC (p : Pth) : Option ABlk → T → (T → Prop) → Prop := @Pth.rec (fun _ => Option ABlk → T → (T → Prop) → Prop) (fun v t f => @T.rec (fun _ => Prop) (f (.n .e v .e)) (fun l _ r _ _ => f (.n l v r)) t)
  (fun _ ih v t f => @T.rec (fun _ => Prop) (ih v .e fun l => f (.n l none .e)) (fun l x r _ _ => ih v l fun l => f (.n l x r)) t)
  (fun _ ih v t f => @T.rec (fun _ => Prop) (ih v .e fun r => f (.n .e none r)) (fun l x r _ _ => ih v r fun r => f (.n l x r)) t) p
theorem T.putC_of {v : Option ABlk} : ∀ {p : Pth} {t : T} {f : T → Prop}, T.putC p v t f → f (T.pp v p t)
  | .z, .e, f, h => h
  | .z, .n l x r, f, h => h
  | .l p, .e, f, h => T.putC_of (p := p) (t := .e) (f := fun l => f (.n l none .e)) h
  | .l p, .n l x r, f, h => T.putC_of (p := p) (t := l) (f := fun l => f (.n l x r)) h
  | .r p, .e, f, h => T.putC_of (p := p) (t := .e) (f := fun r => f (.n .e none r)) h
  | .r p, .n l x r, f, h => T.putC_of (p := p) (t := r) (f := fun r => f (.n l x r)) h
def getB (H : AH) (b : Nat) (f : ABlk → Prop) : Prop := @AH.rec (fun _ => Prop) (fun _ t => T.getC (pathOf b) t f) H
theorem getB_of {H : AH} {b : Nat} {f : ABlk → Prop} (h : getB H b f) : ∃ y, H.get b = some y ∧ f y := by
  obtain ⟨y, h1, h2⟩ := T.getC_of (p := pathOf b) (t := H.t) h
  refine ⟨y, ?_, h2⟩
  rw [T.gp_eq b b _ (Nat.le_refl _)] at h1
  exact h1
def putB (H : AH) (b : Nat) (y : ABlk) (f : AH → Prop) : Prop := @AH.rec (fun _ => Prop) (fun nx t => T.putC (pathOf b) (some y) t fun t => f ⟨nx, t⟩) H
theorem putB_of {H : AH} {b : Nat} {y : ABlk} {f : AH → Prop} (h : putB H b y f) : f (H.set b y) := by
  have := T.putC_of (v := some y) (p := pathOf b) (t := H.t) (f := fun t => f ⟨H.next, t⟩) h
  rw [T.pp_eq _ (b + 1) b _ (by omega)] at this
  exact this
def pushB (H : AH) (y : ABlk) (f : Nat → AH → Prop) : Prop := @AH.rec (fun _ => Prop) (fun nx t => T.putC (pathOf nx) (some y) t fun t => frN (Nat.succ nx) fun n' => f nx ⟨n', t⟩) H
theorem pushB_of {H : AH} {y : ABlk} {f : Nat → AH → Prop} (h : pushB H y f) : f H.next (H.push y) := by
  have h1 := T.putC_of (v := some y) (p := pathOf H.next) (t := H.t) (f := fun t => frN (Nat.succ H.next) fun n' => f H.next ⟨n', t⟩) h
  have h2 := frN_of (f := fun n' => f H.next ⟨n', _⟩) h1
  rw [T.pp_eq _ (H.next + 1) H.next _ (by omega)] at h2
  exact h2
/-! ### lists, with what comes next -/
def nthL {α : Type} (l : List α) (i : Nat) (f : α → Prop) : Prop := @List.rec α (fun _ => Nat → Prop) (fun _ => False) (fun v _ ih i => @Nat.rec (fun _ => Prop) (f v) (fun i _ => ih i) i) l i
theorem nthL_of {α : Type} {f : α → Prop} : ∀ {l : List α} {i : Nat}, nthL l i f → ∃ x, l[i]? = some x ∧ f x
  | [], _, h => h.elim
  | v :: l, 0, h => ⟨v, rfl, h⟩
  | v :: l, i + 1, h => nthL_of (l := l) (i := i) h
def setL {α : Type} (u : α) (l : List α) : Nat → (List α → Prop) → Prop := @List.rec α (fun _ => Nat → (List α → Prop) → Prop) (fun _ _ => False) (fun v l ih i f => @Nat.rec (fun _ => Prop) (f (u :: l)) (fun i _ => ih i fun l => f (v :: l)) i) l
theorem setL_of {α : Type} {u : α} : ∀ {l : List α} {i : Nat} {f : List α → Prop}, setL u l i f → i < l.length ∧ f (l.set i u)
  | [], _, _, h => h.elim
  | v :: l, 0, f, h => ⟨by simp, h⟩
  | v :: l, i + 1, f, h => by
    obtain ⟨h1, h2⟩ := setL_of (l := l) (i := i) (f := fun l => f (v :: l)) h
    exact ⟨by simpa using h1, h2⟩
def dropC {α : Type} (n : Nat) : List α → (List α → Prop) → Prop := @Nat.rec (fun _ => List α → (List α → Prop) → Prop) (fun l f => f l) (fun _ ih l f => @List.rec α (fun _ => Prop) (f []) (fun _ l _ => ih l f) l) n
theorem dropC_of {α : Type} : ∀ {n : Nat} {l : List α} {f : List α → Prop}, dropC n l f → f (l.drop n)
  | 0, _, _, h => h
  | n + 1, [], f, h => h
  | n + 1, v :: l, f, h => dropC_of (n := n) (l := l) h
/-- The first n, that there are. -/
def takeC {α : Type} (n : Nat) : List α → (List α → Prop) → Prop := @Nat.rec (fun _ => List α → (List α → Prop) → Prop) (fun l f => f []) (fun _ ih l f => @List.rec α (fun _ => Prop) False (fun v l _ => ih l fun r => f (v :: r)) l) n
theorem takeC_of {α : Type} : ∀ {n : Nat} {l : List α} {f : List α → Prop}, takeC n l f → n ≤ l.length ∧ f (l.take n)
  | 0, _, _, h => ⟨Nat.zero_le _, by rw [List.take_zero]; exact h⟩
  | n + 1, [], f, h => h.elim
  | n + 1, v :: l, f, h => by
    obtain ⟨h1, h2⟩ := takeC_of (n := n) (l := l) (f := fun r => f (v :: r)) h
    exact ⟨by simp; omega, h2⟩
/-- n values of a tree, from a place on. -/
def listC (t : VT) (n : Nat) : Nat → (List AV → Prop) → Prop := @Nat.rec (fun _ => Nat → (List AV → Prop) → Prop) (fun _ f => f []) (fun _ ih o f => frN o fun o => VT.getC (pathOf o) t fun v => ih (Nat.succ o) fun r => f (v :: r)) n
theorem VT.list_succ (t : VT) (o n : Nat) : t.list o (n + 1) = t.at o :: t.list (o + 1) n := by
  unfold VT.list
  rw [List.range_succ_eq_map]
  simp [Nat.add_assoc, Nat.add_comm 1]
theorem listC_of {t : VT} : ∀ {n o : Nat} {f : List AV → Prop}, listC t n o f → f (t.list o n)
  | 0, o, f, h => h
  | n + 1, o, f, h => by
    have h1 := frN_of (f := fun o => VT.getC (pathOf o) t fun v => listC t n (Nat.succ o) fun r => f (v :: r)) h
    have h2 := VT.getC_of (f := fun v => listC t n (Nat.succ o) fun r => f (v :: r)) h1
    have h3 := listC_of (n := n) (o := o + 1) (f := fun r => f (VT.get (pathOf o) t :: r)) h2
    rw [VT.list_succ]
    exact h3
/-! ### numbers -/
def iAdd (a b : Int) : Int := @Int.rec (fun _ => Int) (fun m => @Int.rec (fun _ => Int) (fun n => Int.ofNat (Nat.add m n)) (fun n => Int.subNatNat m (Nat.succ n)) b) (fun m => @Int.rec (fun _ => Int) (fun n => Int.subNatNat n (Nat.succ m)) (fun n => Int.negSucc (Nat.succ (Nat.add m n))) b) a
theorem iAdd_eq (a b : Int) : iAdd a b = a + b := by cases a <;> cases b <;> rfl
def iSub (a b : Int) : Int := @Int.rec (fun _ => Int) (fun m => @Int.rec (fun _ => Int) (fun n => Int.subNatNat m n) (fun n => Int.ofNat (Nat.add m (Nat.succ n))) b) (fun m => a - b) a
theorem iSub_eq (a b : Int) : iSub a b = a - b := by
  cases a with
  | ofNat m => cases b with
    | ofNat n => show Int.subNatNat m n = _; rw [Int.subNatNat_eq_coe]; rfl
    | negSucc n => rfl
  | negSucc m => rfl
def iMul (a b : Int) : Int := @Int.rec (fun _ => Int) (fun m => @Int.rec (fun _ => Int) (fun n => Int.ofNat (Nat.mul m n)) (fun n => a * b) b) (fun m => a * b) a
theorem iMul_eq (a b : Int) : iMul a b = a * b := by cases a <;> cases b <;> rfl
def wS (half : Nat) (k : IntKind) (n : Int) : Int := @Int.rec (fun _ => Int) (fun m => @Bool.rec (fun _ => Int) (k.wrap n) n (Nat.blt m half)) (fun m => @Bool.rec (fun _ => Int) (k.wrap n) n (Nat.blt m half)) n
def wU (full : Nat) (n : Int) : Int := @Int.rec (fun _ => Int) (fun m => Int.ofNat (Nat.mod m full)) (fun m => Int.ofNat (Nat.sub (Nat.sub full 1) (Nat.mod m full))) n
def wrapQ (k : IntKind) : Int → Int := @IntKind.rec (fun _ => Int → Int) (wS 128 .i8) (wS 32768 .i16) (wS 2147483648 .i32) (wS 9223372036854775808 .i64) (wU 256) (wU 65536) (wU 4294967296) (wU 18446744073709551616) k
theorem wS_eq {k : IntKind} {half : Nat} (hk : ∀ n : Int, -(half : Int) ≤ n → n < half → k.wrap n = n) (n : Int) : wS half k n = k.wrap n := by
  cases n with
  | ofNat m =>
    show @Bool.rec (fun _ => Int) (k.wrap (Int.ofNat m)) (Int.ofNat m) (Nat.blt m half) = _
    rcases h : Nat.blt m half with _ | _
    · rfl
    · have : m < half := Nat.le_of_ble_eq_true h
      exact (hk (Int.ofNat m) (by rw [Int.ofNat_eq_natCast]; omega) (by rw [Int.ofNat_eq_natCast]; omega)).symm
  | negSucc m =>
    show @Bool.rec (fun _ => Int) (k.wrap (Int.negSucc m)) (Int.negSucc m) (Nat.blt m half) = _
    rcases h : Nat.blt m half with _ | _
    · rfl
    · have : m < half := Nat.le_of_ble_eq_true h
      exact (hk (Int.negSucc m) (by rw [Int.negSucc_eq]; omega) (by rw [Int.negSucc_eq]; omega)).symm
theorem wU_eq (full : Nat) (h0 : 0 < full) (n : Int) : wU full n = n % (full : Int) := by
  cases n with
  | ofNat m => exact (Int.natCast_emod m full)
  | negSucc m =>
    show Int.ofNat (full - 1 - m % full) = _
    have h1 : m % full < full := Nat.mod_lt _ h0
    rw [Int.ofNat_eq_natCast]
    have h2 : ((full - 1 - m % full : Nat) : Int) = (full : Int) - 1 - ((m % full : Nat) : Int) := by omega
    rw [h2]
    have h3 : Int.negSucc m = ((full : Int) - 1 - ((m % full : Nat) : Int)) + (full : Int) * (-(((m / full : Nat) : Int)) - 1) := by
      have := Nat.div_add_mod m full
      rw [Int.negSucc_eq]
      have e : (m : Int) = (full : Int) * ((m / full : Nat) : Int) + ((m % full : Nat) : Int) := by exact_mod_cast this.symm
      rw [Int.mul_sub, Int.mul_neg]
      omega
    rw [h3, Int.add_mul_emod_self_left]
    exact (Int.emod_eq_of_lt (by omega) (by omega)).symm
theorem wrapQ_eq (k : IntKind) (n : Int) : wrapQ k n = k.wrap n := by
  cases k
  · exact wS_eq (fun n h1 h2 => by simp [IntKind.wrap, IntKind.bits, IntKind.signed]; omega) n
  · exact wS_eq (fun n h1 h2 => by simp [IntKind.wrap, IntKind.bits, IntKind.signed]; omega) n
  · exact wS_eq (fun n h1 h2 => by simp [IntKind.wrap, IntKind.bits, IntKind.signed]; omega) n
  · exact wS_eq (fun n h1 h2 => by simp [IntKind.wrap, IntKind.bits, IntKind.signed]; omega) n
  · exact (wU_eq 256 (by decide) n).trans (by simp [IntKind.wrap, IntKind.bits, IntKind.signed])
  · exact (wU_eq 65536 (by decide) n).trans (by simp [IntKind.wrap, IntKind.bits, IntKind.signed])
  · exact (wU_eq 4294967296 (by decide) n).trans (by simp [IntKind.wrap, IntKind.bits, IntKind.signed])
  · exact (wU_eq 18446744073709551616 (by decide) n).trans (by simp [IntKind.wrap, IntKind.bits, IntKind.signed])
def iLt (a b : Int) : Bool := @Int.rec (fun _ => Bool) (fun m => @Int.rec (fun _ => Bool) (fun n => Nat.blt m n) (fun _ => false) b) (fun m => @Int.rec (fun _ => Bool) (fun _ => true) (fun n => Nat.blt n m) b) a
theorem blt_dec (m n : Nat) : Nat.blt m n = decide (m < n) := by
  rcases h : Nat.blt m n with _ | _
  · refine (decide_eq_false (fun h1 => ?_)).symm
    rw [show Nat.blt m n = true from Nat.ble_eq_true_of_le h1] at h; cases h
  · exact (decide_eq_true (Nat.le_of_ble_eq_true h : m + 1 ≤ n)).symm
theorem iLt_eq (a b : Int) : iLt a b = decide (a < b) := by
  cases a with
  | ofNat m => cases b with
    | ofNat n => show Nat.blt m n = _; rw [blt_dec]; simp
    | negSucc n => show false = _; exact (decide_eq_false (by rw [Int.negSucc_eq, Int.ofNat_eq_natCast]; omega)).symm
  | negSucc m => cases b with
    | ofNat n => show true = _; exact (decide_eq_true (by rw [Int.negSucc_eq, Int.ofNat_eq_natCast]; omega)).symm
    | negSucc n =>
      show Nat.blt n m = _
      rw [blt_dec, Int.negSucc_eq, Int.negSucc_eq]
      exact decide_eq_decide.2 (by omega)
def iEq (a b : Int) : Bool := @Int.rec (fun _ => Bool) (fun m => @Int.rec (fun _ => Bool) (fun n => Nat.beq m n) (fun _ => false) b) (fun m => @Int.rec (fun _ => Bool) (fun _ => false) (fun n => Nat.beq m n) b) a
theorem iEq_eq (a b : Int) : iEq a b = (a == b) := by
  have hb : ∀ m n : Nat, Nat.beq m n = decide (m = n) := fun m n => by
    rcases h : Nat.beq m n with _ | _
    · exact (decide_eq_false (Nat.ne_of_beq_eq_false h)).symm
    · exact (decide_eq_true (Nat.eq_of_beq_eq_true h)).symm
  cases a with
  | ofNat m => cases b with
    | ofNat n =>
      show Nat.beq m n = _
      rw [hb]
      have : (Int.ofNat m == Int.ofNat n) = decide (Int.ofNat m = Int.ofNat n) := rfl
      rw [this]
      exact decide_eq_decide.2 (by rw [Int.ofNat_eq_natCast, Int.ofNat_eq_natCast]; omega)
    | negSucc n => rfl
  | negSucc m => cases b with
    | ofNat n => rfl
    | negSucc n =>
      show Nat.beq m n = _
      rw [hb]
      have : (Int.negSucc m == Int.negSucc n) = decide (Int.negSucc m = Int.negSucc n) := rfl
      rw [this]
      exact decide_eq_decide.2 (by rw [Int.negSucc_eq, Int.negSucc_eq]; omega)
theorem wrap_mod (k : IntKind) (m : Nat) : k.wrap (((m % 2 ^ k.bits : Nat)) : Int) = k.wrap (m : Int) := by
  unfold IntKind.wrap
  have e : (((m % 2 ^ k.bits : Nat)) : Int) % (2 ^ k.bits : Int) = (m : Int) % (2 ^ k.bits : Int) := by
    have h2 : ((2 ^ k.bits : Nat) : Int) = (2 ^ k.bits : Int) := by exact_mod_cast rfl
    rw [← h2, ← Int.natCast_emod, Nat.mod_mod, Int.natCast_emod]
  rw [e]
def bAnd (k : IntKind) (a b : Int) : Int := @Int.rec (fun _ => Int) (fun m => @Int.rec (fun _ => Int) (fun n => wrapQ k (Int.ofNat (Nat.land m n))) (fun _ => bits .and k a b) b) (fun _ => bits .and k a b) a
def bOr (k : IntKind) (a b : Int) : Int := @Int.rec (fun _ => Int) (fun m => @Int.rec (fun _ => Int) (fun n => wrapQ k (Int.ofNat (Nat.lor m n))) (fun _ => bits .or k a b) b) (fun _ => bits .or k a b) a
def bXor (k : IntKind) (a b : Int) : Int := @Int.rec (fun _ => Int) (fun m => @Int.rec (fun _ => Int) (fun n => wrapQ k (Int.ofNat (Nat.xor m n))) (fun _ => bits .xor k a b) b) (fun _ => bits .xor k a b) a
theorem bAnd_eq (k : IntKind) (a b : Int) : bAnd k a b = bits .and k a b := by
  cases a with
  | ofNat m => cases b with
    | ofNat n =>
      show wrapQ k (Int.ofNat (m &&& n)) = _
      rw [wrapQ_eq]
      simp only [bits, Int.ofNat_eq_natCast, BitVec.ofInt_natCast, BitVec.toNat_and, BitVec.toNat_ofNat]
      rw [← Nat.and_mod_two_pow, wrap_mod]
    | negSucc n => rfl
  | negSucc m => rfl
theorem bOr_eq (k : IntKind) (a b : Int) : bOr k a b = bits .or k a b := by
  cases a with
  | ofNat m => cases b with
    | ofNat n =>
      show wrapQ k (Int.ofNat (m ||| n)) = _
      rw [wrapQ_eq]
      simp only [bits, Int.ofNat_eq_natCast, BitVec.ofInt_natCast, BitVec.toNat_or, BitVec.toNat_ofNat]
      rw [← Nat.or_mod_two_pow, wrap_mod]
    | negSucc n => rfl
  | negSucc m => rfl
theorem bXor_eq (k : IntKind) (a b : Int) : bXor k a b = bits .xor k a b := by
  cases a with
  | ofNat m => cases b with
    | ofNat n =>
      show wrapQ k (Int.ofNat (m ^^^ n)) = _
      rw [wrapQ_eq]
      simp only [bits, Int.ofNat_eq_natCast, BitVec.ofInt_natCast, BitVec.toNat_xor, BitVec.toNat_ofNat]
      rw [← Nat.xor_mod_two_pow, wrap_mod]
    | negSucc n => rfl
  | negSucc m => rfl
def kBits (k : IntKind) : Nat := @IntKind.rec (fun _ => Nat) 8 16 32 64 8 16 32 64 k
theorem kBits_eq (k : IntKind) : kBits k = k.bits := by cases k <;> rfl
/-- A shift's length. -/
def shN (k : IntKind) (n : Nat) : Nat := @Bool.rec (fun _ => Nat) (kBits k) n (Nat.ble n (kBits k))
theorem shN_eq (k : IntKind) (n : Nat) : shN k n = min n k.bits := by
  unfold shN
  rw [kBits_eq]
  rcases h : Nat.ble n k.bits with _ | _
  · have : ¬ n ≤ k.bits := fun h1 => by rw [Nat.ble_eq_true_of_le h1] at h; cases h
    show k.bits = _
    omega
  · have := Nat.le_of_ble_eq_true h
    show n = _
    omega
def bShl (k : IntKind) (a b : Int) : Int := @Int.rec (fun _ => Int) (fun m => @Int.rec (fun _ => Int) (fun n => wrapQ k (Int.ofNat (Nat.mul m (Nat.pow 2 (shN k n))))) (fun _ => k.wrap (a * 2 ^ min b.toNat k.bits)) b) (fun _ => k.wrap (a * 2 ^ min b.toNat k.bits)) a
theorem bShl_eq (k : IntKind) (a b : Int) : bShl k a b = k.wrap (a * 2 ^ min b.toNat k.bits) := by
  cases a with
  | ofNat m => cases b with
    | ofNat n =>
      show wrapQ k (Int.ofNat (m * 2 ^ shN k n)) = _
      rw [wrapQ_eq, shN_eq]
      congr 1
    | negSucc n => rfl
  | negSucc m => rfl
def bShr (k : IntKind) (a b : Int) : Int := @Int.rec (fun _ => Int) (fun m => @Int.rec (fun _ => Int) (fun n => Int.ofNat (Nat.div m (Nat.pow 2 (shN k n)))) (fun _ => a.fdiv (2 ^ min b.toNat k.bits)) b) (fun _ => a.fdiv (2 ^ min b.toNat k.bits)) a
theorem bShr_eq (k : IntKind) (a b : Int) : bShr k a b = a.fdiv (2 ^ min b.toNat k.bits) := by
  cases a with
  | ofNat m => cases b with
    | ofNat n =>
      show Int.ofNat (m / 2 ^ shN k n) = _
      rw [shN_eq]
      have hp : (0 : Int) ≤ 2 ^ min n k.bits := Int.pow_nonneg (by decide)
      show _ = Int.fdiv (Int.ofNat m) (2 ^ min n k.bits)
      rw [Int.fdiv_eq_ediv_of_nonneg _ hp]
      have h2 : ((2 ^ min n k.bits : Nat) : Int) = (2 ^ min n k.bits : Int) := by exact_mod_cast rfl
      rw [← h2]
      exact Int.natCast_ediv m (2 ^ min n k.bits)
    | negSucc n => rfl
  | negSucc m => rfl
def iQuo (k : IntKind) (a b : Int) : Int := @Int.rec (fun _ => Int) (fun m => @Int.rec (fun _ => Int) (fun n => wrapQ k (Int.ofNat (Nat.div m n))) (fun _ => k.wrap (a.tdiv b)) b) (fun _ => k.wrap (a.tdiv b)) a
theorem iQuo_eq (k : IntKind) (a b : Int) : iQuo k a b = k.wrap (a.tdiv b) := by
  cases a with
  | ofNat m => cases b with
    | ofNat n => show wrapQ k _ = _; rw [wrapQ_eq]; rfl
    | negSucc n => rfl
  | negSucc m => rfl
def iRem (a b : Int) : Int := @Int.rec (fun _ => Int) (fun m => @Int.rec (fun _ => Int) (fun n => Int.ofNat (Nat.mod m n)) (fun _ => a.tmod b) b) (fun _ => a.tmod b) a
theorem iRem_eq (a b : Int) : iRem a b = a.tmod b := by
  cases a with
  | ofNat m => cases b with
    | ofNat n => rfl
    | negSucc n => rfl
  | negSucc m => rfl
def isNN (b : Int) : Bool := @Int.rec (fun _ => Bool) (fun _ => true) (fun _ => false) b
theorem isNN_eq (b : Int) : isNN b = decide (0 ≤ b) := by
  cases b with
  | ofNat n => exact (decide_eq_true (by rw [Int.ofNat_eq_natCast]; omega)).symm
  | negSucc n => exact (decide_eq_false (by rw [Int.negSucc_eq]; omega)).symm
end
end Go.Eng
