/- The engine, thirty-sixth part: a quick evaluator for known values: operations. -/
import Derived.Test.YtilmgiompalggaaGreatDoorEn22
namespace Go.Eng
open Go Go.RowKit
set_option linter.unusedVariables false
set_option linter.unusedSimpArgs false
noncomputable section
abbrev EXp := VT → AH → (AV → Prop) → Prop
abbrev EX := VT → AH → (AV → AH → Prop) → Prop
/-- What a quick step of an operation that reads alone must be. -/
def PSpec (c : COp) (e : EXp) : Prop := ∀ s H f, e s H f → ∃ v, cstep (evG s.at) H c = some (v, H, true) ∧ f v
/-- A state by other words. -/
def Conv (H H' : AH) : Prop := ∀ B ts, Weak B ts H ts H'
theorem Conv.refl (H : AH) : Conv H H := fun B ts => Weak.refl B ts H
def ESpec (c : COp) (e : EX) : Prop := ∀ s H f, e s H f → ∃ m v H1 H2, cstep (evG s.at) H (c.hint m) = some (v, H1, true) ∧ Conv H1 H2 ∧ f v H2
def rdK (c : CX) : VT → (AV → Prop) → Prop := @CX.rec (fun _ => VT → (AV → Prop) → Prop) (fun i s f => VT.getC (pathOf i) s f) (fun a _ f => f a) c
theorem rdK_of {c : CX} {s : VT} {f : AV → Prop} (h : rdK c s f) : f (evG s.at c) := by
  cases c with
  | t i => exact VT.getC_of (p := pathOf i) h
  | v a => exact h
/-! ### reading -/
def qMv (x : CX) : EXp := fun s _ f => rdK x s f
theorem qMv_ok (x : CX) : PSpec (.mv x) (qMv x) := fun s H f h => ⟨_, rfl, rdK_of h⟩
def qPick (c a b : CX) : EXp := fun s _ f => rdK c s fun u => asB u fun q => @Bool.rec (fun _ => Prop) (rdK b s f) (rdK a s f) q
theorem qPick_ok (c a b : CX) : PSpec (.pick c a b) (qPick c a b) := fun s H f h => by
  obtain ⟨q, e1, h1⟩ := asB_of (rdK_of h)
  simp only [cstep, e1, cpick]
  have key : ∀ u v : AV, f (bif q then u else v) → ∃ w, (match (match u, v with
      | .bool a, .bool b => some (.bool (bif q then a else b))
      | a, b => some (bif q then a else b) : Option AV) with
      | some v => some (v, H, true)
      | none => none) = some (w, H, true) ∧ f w := by
    intro u v hf
    cases q
    · cases u <;> cases v <;> exact ⟨_, rfl, hf⟩
    · cases u <;> cases v <;> exact ⟨_, rfl, hf⟩
  have hf : f (bif q then evG s.at a else evG s.at b) := by
    cases q
    · exact rdK_of h1
    · exact rdK_of h1
  generalize evG s.at a = u at *
  generalize evG s.at b = v at *
  cases q <;> cases u <;> cases v <;> exact ⟨_, rfl, hf⟩
def qNil (x : CX) : EXp := fun s _ f => rdK x s fun u => asP u fun b k j => f (.ptr b k j)
theorem qNil_ok (x : CX) : PSpec (.nilc x) (qNil x) := fun s H f h => by
  obtain ⟨b, k, j, e1, h1⟩ := asP_of (rdK_of h)
  simp only [cstep, e1]
  exact ⟨_, rfl, h1⟩
def qA (g : IntKind → Int → Int → Int) (x y : CX) : EXp := fun s _ f => rdK x s fun u => asI u fun k a => rdK y s fun v => asI v fun k' b => chk (kEq k k') (frI (g k a b) fun n => f (.int k n))
theorem qA_ok {op : BinOp} {g : IntKind → Int → Int → Int} (hg : ∀ k a b, binv op (.int k a) (.int k b) = some (.int k (g k a b), true)) (x y : CX) : PSpec (.bin op x y) (qA g x y) := fun s H f h => by
  obtain ⟨k, a, e1, h1⟩ := asI_of (rdK_of h)
  obtain ⟨k', b, e2, h2⟩ := asI_of (rdK_of h1)
  obtain ⟨h3, h4⟩ := chk_of h2
  have := kEq_of h3
  subst this
  have h5 := frI_of (f := fun n => f (.int k n)) h4
  simp only [cstep, e1, e2, hg]
  exact ⟨_, rfl, h5⟩
def qC (g : Int → Int → Bool) (x y : CX) : EXp := fun s _ f => rdK x s fun u => asI u fun k a => rdK y s fun v => asI v fun k' b => chk (kEq k k') (frB (g a b) fun n => f (.bool n))
theorem qC_ok {op : BinOp} {g : Int → Int → Bool} (hg : ∀ k a b, binv op (.int k a) (.int k b) = some (.bool (g a b), true)) (x y : CX) : PSpec (.bin op x y) (qC g x y) := fun s H f h => by
  obtain ⟨k, a, e1, h1⟩ := asI_of (rdK_of h)
  obtain ⟨k', b, e2, h2⟩ := asI_of (rdK_of h1)
  obtain ⟨h3, h4⟩ := chk_of h2
  have := kEq_of h3
  subst this
  have h5 := frB_of (f := fun n => f (.bool n)) h4
  simp only [cstep, e1, e2, hg]
  exact ⟨_, rfl, h5⟩
/-- Shifts: the second one's kind is free, and it is not below nought. -/
def qS (g : IntKind → Int → Int → Int) (x y : CX) : EXp := fun s _ f => rdK x s fun u => asI u fun k a => rdK y s fun v => asI v fun _ b => chk (isNN b) (frI (g k a b) fun n => f (.int k n))
theorem qS_ok {op : BinOp} {g : IntKind → Int → Int → Int} (hg : ∀ k k' a b, binv op (.int k a) (.int k' b) = some (.int k (g k a b), decide (0 ≤ b))) (x y : CX) : PSpec (.bin op x y) (qS g x y) := fun s H f h => by
  obtain ⟨k, a, e1, h1⟩ := asI_of (rdK_of h)
  obtain ⟨k', b, e2, h2⟩ := asI_of (rdK_of h1)
  obtain ⟨h3, h4⟩ := chk_of h2
  rw [isNN_eq] at h3
  have h5 := frI_of (f := fun n => f (.int k n)) h4
  simp only [cstep, e1, e2, hg, h3]
  exact ⟨_, rfl, h5⟩
/-- Quotients and rests. -/
def qD (g : IntKind → Int → Int → Int) (x y : CX) : EXp := fun s _ f => rdK x s fun u => asI u fun k a => rdK y s fun v => asI v fun k' b => chk (kEq k k') (@Bool.rec (fun _ => Prop) (frI (g k a b) fun n => f (.int k n)) False (iEq b 0))
theorem qD_ok {op : BinOp} {g : IntKind → Int → Int → Int} (hg : ∀ k a b, binv op (.int k a) (.int k b) = some (.int k (g k a b), decide (k = k) && !(b == 0))) (x y : CX) : PSpec (.bin op x y) (qD g x y) := fun s H f h => by
  obtain ⟨k, a, e1, h1⟩ := asI_of (rdK_of h)
  obtain ⟨k', b, e2, h2⟩ := asI_of (rdK_of h1)
  obtain ⟨h3, h4⟩ := chk_of h2
  have := kEq_of h3
  subst this
  rw [iEq_eq] at h4
  rcases hb : (b == 0) with _ | _
  · rw [hb] at h4
    have h5 := frI_of (f := fun n => f (.int k n)) h4
    simp only [cstep, e1, e2, hg, hb]
    exact ⟨_, by simp, h5⟩
  · rw [hb] at h4
    exact h4.elim
/-- Any operation that reads alone. -/
def qP0 (c : COp) : EXp := fun s H f => match cstep (evG s.at) H c with
  | some (v, _, ok) => chk ok (frV v f)
  | none => False
theorem qP0_ok {c : COp} (hp : isPure (c.hint 0) = true) (hh : c.hint 0 = c) : PSpec c (qP0 c) := fun s H f h => by
  unfold qP0 at h
  split at h
  · rename_i v H1 ok hst
    obtain ⟨h1, h2⟩ := chk_of h
    subst h1
    have : H1 = H := pure_heap hp (by rw [hh]; exact hst)
    subst this
    exact ⟨v, hst, frV_of h2⟩
  · exact h.elim
theorem not_lt_dec (a b : Int) : (!decide (b < a)) = decide (a ≤ b) := by
  rcases h : decide (b < a) with _ | _
  · have := of_decide_eq_false h
    exact (decide_eq_true (by omega)).symm
  · have := of_decide_eq_true h
    exact (decide_eq_false (by omega)).symm
def qBin (op : BinOp) (x y : CX) : EXp :=
  match op with
  | .add => qA (fun k a b => wrapQ k (iAdd a b)) x y
  | .sub => qA (fun k a b => wrapQ k (iSub a b)) x y
  | .mul => qA (fun k a b => wrapQ k (iMul a b)) x y
  | .and => qA bAnd x y
  | .or => qA bOr x y
  | .xor => qA bXor x y
  | .shl => qS bShl x y
  | .shr => qS bShr x y
  | .quo => qD iQuo x y
  | .rem => qD (fun _ a b => iRem a b) x y
  | .eql => qC iEq x y
  | .neq => qC (fun a b => Bool.not (iEq a b)) x y
  | .lss => qC iLt x y
  | .leq => qC (fun a b => Bool.not (iLt b a)) x y
  | .gtr => qC (fun a b => iLt b a) x y
  | .geq => qC (fun a b => Bool.not (iLt a b)) x y
  | .andNot => qP0 (.bin .andNot x y)
theorem qBin_ok (op : BinOp) (x y : CX) : PSpec (.bin op x y) (qBin op x y) := by
  cases op
  · exact qA_ok (fun k a b => by simp [binv, wrapQ_eq, iAdd_eq]) x y
  · exact qA_ok (fun k a b => by simp [binv, wrapQ_eq, iSub_eq]) x y
  · exact qA_ok (fun k a b => by simp [binv, wrapQ_eq, iMul_eq]) x y
  · exact qD_ok (fun k a b => by simp [binv, iQuo_eq]) x y
  · exact qD_ok (fun k a b => by simp [binv, iRem_eq]) x y
  · exact qA_ok (fun k a b => by simp [binv, bAnd_eq]) x y
  · exact qA_ok (fun k a b => by simp [binv, bOr_eq]) x y
  · exact qA_ok (fun k a b => by simp [binv, bXor_eq]) x y
  · exact qS_ok (fun k k' a b => by simp [binv, bShl_eq]) x y
  · exact qS_ok (fun k k' a b => by simp [binv, bShr_eq]) x y
  · exact qP0_ok rfl rfl
  · exact qC_ok (fun k a b => by simp [binv, iEq_eq]) x y
  · exact qC_ok (fun k a b => by simp [binv, iEq_eq, bne]) x y
  · exact qC_ok (fun k a b => by simp [binv, iLt_eq]) x y
  · exact qC_ok (fun k a b => by rw [iLt_eq, not_lt_dec]; simp [binv]) x y
  · exact qC_ok (fun k a b => by simp [binv, iLt_eq]) x y
  · exact qC_ok (fun k a b => by rw [iLt_eq, not_lt_dec]; simp [binv]) x y
def qConv (k : IntKind) (x : CX) : EXp := fun s _ f => rdK x s fun u => asI u fun _ n => frI (wrapQ k n) fun n => f (.int k n)
theorem qConv_ok (k : IntKind) (x : CX) : PSpec (.conv k x) (qConv k x) := fun s H f h => by
  obtain ⟨q, n, e1, h1⟩ := asI_of (rdK_of h)
  have h2 := frI_of (f := fun n => f (.int k n)) h1
  rw [wrapQ_eq] at h2
  simp only [cstep, e1]
  exact ⟨_, rfl, h2⟩
def qNot (x : CX) : EXp := fun s _ f => rdK x s fun u => asB u fun b => frB (Bool.not b) fun b => f (.bool b)
theorem qNot_ok (x : CX) : PSpec (.un .not x) (qNot x) := fun s H f h => by
  obtain ⟨b, e1, h1⟩ := asB_of (rdK_of h)
  have h2 := frB_of (f := fun b => f (.bool b)) h1
  simp only [cstep, e1, unv]
  exact ⟨_, rfl, h2⟩
/-- Which kind of value it is. -/
def tagA (v : AV) : Nat := @AV.casesOn (fun _ => Nat) v 0 (fun _ _ => 1) (fun _ => 2) (fun _ => 3) (fun _ _ _ => 4) 5 (fun _ _ _ _ _ _ => 6) 7 (fun _ _ _ _ _ => 8) (fun _ => 9) 10 (fun _ _ _ => 11) 12 (fun _ _ => 13) 14 (fun _ => 15) (fun _ => 16)
/-- Comparison with nil: both nil (where that may be), or one of them. -/
def qNilEq (both : Bool) (a b : Nat) (neg : Bool) (x y : CX) : EXp := fun s _ f => rdK x s fun u => rdK y s fun v =>
  @Bool.rec (fun _ => Prop) (@Bool.rec (fun _ => Prop) False (chk (Nat.beq (tagA v) a) (f (.bool neg))) (Nat.beq (tagA u) b)) (@Bool.rec (fun _ => Prop) (chk (Nat.beq (tagA v) b) (f (.bool neg))) (chk both (f (.bool (Bool.not neg)))) (Nat.beq (tagA v) a)) (Nat.beq (tagA u) a)
theorem qNilEq_ok {q : EK} {both : Bool} {a b : Nat} (hq : ∀ u v, (tagA u = a → tagA v = a → both = true → eqk q u v = some true) ∧ (tagA u = a → tagA v = b → eqk q u v = some false) ∧ (tagA u = b → tagA v = a → eqk q u v = some false)) (neg : Bool) (x y : CX) : PSpec (.eq neg q x y) (qNilEq both a b neg x y) := fun s H f h => by
  have h := rdK_of (rdK_of h)
  obtain ⟨q1, q2, q3⟩ := hq (evG s.at x) (evG s.at y)
  simp only [cstep]
  rcases e1 : Nat.beq (tagA (evG s.at x)) a with _ | _
  · rw [e1] at h
    rcases e2 : Nat.beq (tagA (evG s.at x)) b with _ | _
    · rw [e2] at h; exact h.elim
    · rw [e2] at h
      obtain ⟨h1, h2⟩ := chk_of h
      rw [q3 (Nat.eq_of_beq_eq_true e2) (Nat.eq_of_beq_eq_true h1)]
      cases neg <;> exact ⟨_, rfl, h2⟩
  · rw [e1] at h
    rcases e2 : Nat.beq (tagA (evG s.at y)) a with _ | _
    · rw [e2] at h
      obtain ⟨h1, h2⟩ := chk_of h
      rw [q2 (Nat.eq_of_beq_eq_true e1) (Nat.eq_of_beq_eq_true h1)]
      cases neg <;> exact ⟨_, rfl, h2⟩
    · rw [e2] at h
      obtain ⟨h1, h2⟩ := chk_of h
      rw [q1 (Nat.eq_of_beq_eq_true e1) (Nat.eq_of_beq_eq_true e2) h1]
      cases neg <;> exact ⟨_, rfl, h2⟩
def qEq (neg : Bool) (q : EK) (x y : CX) : EXp :=
  match q with
  | .ptr => qNilEq true 5 4 neg x y
  | .sl => qNilEq true 7 6 neg x y
  | .map => qNilEq true 10 9 neg x y
  | .fn => qNilEq true 12 11 neg x y
  | .ifc k => qNilEq k 14 13 neg x y
  | .bool => qP0 (.eq neg .bool x y)
theorem qEq_ok (neg : Bool) (q : EK) (x y : CX) : PSpec (.eq neg q x y) (qEq neg q x y) := by
  cases q with
  | bool => exact qP0_ok rfl rfl
  | ptr => exact qNilEq_ok (fun u v => by cases u <;> cases v <;> simp [tagA, eqk]) neg x y
  | sl => exact qNilEq_ok (fun u v => by cases u <;> cases v <;> simp [tagA, eqk]) neg x y
  | map => exact qNilEq_ok (fun u v => by cases u <;> cases v <;> simp [tagA, eqk]) neg x y
  | fn => exact qNilEq_ok (fun u v => by cases u <;> cases v <;> simp [tagA, eqk]) neg x y
  | ifc k => exact qNilEq_ok (fun u v => by cases k <;> cases u <;> cases v <;> simp [tagA, eqk]) neg x y
def qMki (t : TypeId) (x : CX) : EXp := fun s _ f => rdK x s fun u => f (.ifc t u)
theorem qMki_ok (t : TypeId) (x : CX) : PSpec (.mki t x) (qMki t x) := fun s H f h => ⟨_, rfl, rdK_of h⟩
def qFa (off : Nat) (x : CX) : EXp := fun s _ f => rdK x s fun u => asP u fun b k j => frN (Nat.add j off) fun j => f (.ptr b k j)
theorem qFa_ok (off : Nat) (x : CX) : PSpec (.fa off x) (qFa off x) := fun s H f h => by
  obtain ⟨b, k, j, e1, h1⟩ := asP_of (rdK_of h)
  simp only [cstep, e1]
  exact ⟨_, rfl, frN_of (f := fun j => f (.ptr b k j)) h1⟩
def qFld (off : Nat) (sz : Option Nat) (x : CX) : EXp := @Option.rec Nat (fun _ => EXp) (fun s _ f => rdK x s fun u => asA u fun cs => nthL cs off f) (fun n s _ f => rdK x s fun u => asA u fun cs => dropC off cs fun cs => takeC n cs fun cs => f (.agg cs)) sz
theorem getD_of {l : List AV} {i : Nat} {v : AV} (h : l[i]? = some v) : l.getD i .any = v ∧ i < l.length := by
  rw [List.getD_eq_getElem?_getD, h]
  exact ⟨rfl, (List.getElem?_eq_some_iff.1 h).1⟩
theorem qFld_ok (off : Nat) (sz : Option Nat) (x : CX) : PSpec (.fld off sz x) (qFld off sz x) := fun s H f h => by
  cases sz with
  | none =>
    obtain ⟨cs, e1, h1⟩ := asA_of (rdK_of h)
    obtain ⟨v, e2, h2⟩ := nthL_of h1
    obtain ⟨e3, e4⟩ := getD_of e2
    simp only [cstep, e1, e3]
    exact ⟨_, by simp [e4], h2⟩
  | some n =>
    obtain ⟨cs, e1, h1⟩ := asA_of (rdK_of h)
    have h2 := dropC_of (f := fun cs => takeC n cs fun cs => f (.agg cs)) h1
    obtain ⟨_, h3⟩ := takeC_of (f := fun cs => f (.agg cs)) h2
    simp only [cstep, e1]
    exact ⟨_, rfl, h3⟩
def qIaa (n es : Nat) (x i : CX) : EXp := fun s _ f => rdK x s fun u => asP u fun b k j => rdK i s fun v => asI v fun _ m => chk (isNN m) (chk (Nat.blt (Int.toNat m) n) (frN (Nat.add j (Nat.mul (Int.toNat m) es)) fun j => f (.ptr b k j)))
theorem nat_lt {m : Int} {n : Nat} (h1 : isNN m = true) (h2 : Nat.blt (Int.toNat m) n = true) : decide (0 ≤ m) = true ∧ decide (m < (n : Int)) = true := by
  rw [isNN_eq] at h1
  have h1' : 0 ≤ m := of_decide_eq_true h1
  have h3 : m.toNat < n := Nat.le_of_ble_eq_true h2
  exact ⟨h1, decide_eq_true (by omega)⟩
theorem qIaa_ok (n es : Nat) (x i : CX) : PSpec (.iaa n es x i) (qIaa n es x i) := fun s H f h => by
  obtain ⟨b, k, j, e1, h1⟩ := asP_of (rdK_of h)
  obtain ⟨q, m, e2, h2⟩ := asI_of (rdK_of h1)
  obtain ⟨h3, h4⟩ := chk_of h2
  obtain ⟨h5, h6⟩ := chk_of h4
  obtain ⟨g1, g2⟩ := nat_lt h3 h5
  simp only [cstep, e1, e2, g1, g2]
  exact ⟨_, rfl, frN_of (f := fun j => f (.ptr b k j)) h6⟩
def notMap (c : AC) : Bool := @AC.rec (fun _ => Bool) (fun _ => true) (fun _ _ => true) (fun _ _ => true) (fun _ => false) (fun _ _ => true) c
theorem notMap_of {c : AC} (h : notMap c = true) : c.isMap = false := by cases c <;> first | rfl | (simp [notMap] at h; done)
def stepK (st es k j i : Nat) (f : Nat → Nat → Prop) : Prop := @Bool.rec (fun _ => Prop) (frN (Nat.add j (Nat.mul i es)) fun j => f k j) (frN (Nat.add k i) fun k => f k j) (Nat.beq es st)
theorem stepK_of {st es k j i : Nat} {f : Nat → Nat → Prop} (h : stepK st es k j i f) : f (stepTo st es k j i).1 (stepTo st es k j i).2 := by
  unfold stepK at h
  unfold stepTo
  rcases e : Nat.beq es st with _ | _
  · rw [e] at h
    exact frN_of (f := fun j => f k j) h
  · rw [e] at h
    exact frN_of (f := fun k => f k j) h
def qIas (es : Nat) (x i : CX) : EXp := fun s H f => rdK x s fun u => asS u fun b k j n => rdK i s fun v => asI v fun _ m => chk (isNN m) (chk (Nat.blt (Int.toNat m) n) (getB H b fun y => chk (notMap y.c) (stepK y.st es k j (Int.toNat m) fun k j => f (.ptr b k j))))
theorem qIas_ok (es : Nat) (x i : CX) : PSpec (.ias es x i) (qIas es x i) := fun s H f h => by
  obtain ⟨b, k, j, n, h1, e1⟩ := asS_of (rdK_of h)
  obtain ⟨q, m, e2, h2⟩ := asI_of (rdK_of h1)
  obtain ⟨h3, h4⟩ := chk_of h2
  obtain ⟨h5, h6⟩ := chk_of h4
  obtain ⟨g1, g2⟩ := nat_lt h3 h5
  obtain ⟨y, e3, h7⟩ := getB_of h6
  obtain ⟨h8, h9⟩ := chk_of h7
  have h10 := stepK_of (f := fun k j => f (.ptr b k j)) h9
  rcases e1 with ⟨c, ex, e1⟩ | ⟨c, e1⟩
  · simp only [cstep, e1, e2, e3, g1, g2, notMap_of h8]
    exact ⟨_, rfl, h10⟩
  · simp only [cstep, e1, e2, e3, g1, g2, notMap_of h8]
    exact ⟨_, rfl, h10⟩
def qIxa (n es : Nat) (sz : Option Nat) (x i : CX) : EXp := @Option.rec Nat (fun _ => EXp) (fun s _ f => rdK x s fun u => asA u fun cs => rdK i s fun v => asI v fun _ m => chk (isNN m) (chk (Nat.blt (Int.toNat m) n) (nthL cs (Nat.mul (Int.toNat m) es) f)))
  (fun _ s _ f => rdK x s fun u => asA u fun cs => rdK i s fun v => asI v fun _ m => chk (isNN m) (chk (Nat.blt (Int.toNat m) n) (dropC (Nat.mul (Int.toNat m) es) cs fun cs => takeC es cs fun cs => f (.agg cs)))) sz
theorem qIxa_ok (n es : Nat) (sz : Option Nat) (x i : CX) : PSpec (.ixa n es sz x i) (qIxa n es sz x i) := fun s H f h => by
  cases sz with
  | none =>
    obtain ⟨cs, e1, h1⟩ := asA_of (rdK_of h)
    obtain ⟨q, m, e2, h2⟩ := asI_of (rdK_of h1)
    obtain ⟨h3, h4⟩ := chk_of h2
    obtain ⟨h5, h6⟩ := chk_of h4
    obtain ⟨g1, g2⟩ := nat_lt h3 h5
    obtain ⟨v, e3, h7⟩ := nthL_of h6
    obtain ⟨e4, e5⟩ := getD_of e3
    have e4 : cs.getD (m.toNat * es) .any = v := e4
    have e5 : m.toNat * es < cs.length := e5
    simp only [cstep, e1, e2, g1, g2, e4]
    exact ⟨_, by simp [e5], h7⟩
  | some q0 =>
    obtain ⟨cs, e1, h1⟩ := asA_of (rdK_of h)
    obtain ⟨q, m, e2, h2⟩ := asI_of (rdK_of h1)
    obtain ⟨h3, h4⟩ := chk_of h2
    obtain ⟨h5, h6⟩ := chk_of h4
    obtain ⟨g1, g2⟩ := nat_lt h3 h5
    have h7 := dropC_of (f := fun cs => takeC es cs fun cs => f (.agg cs)) h6
    obtain ⟨_, h8⟩ := takeC_of (f := fun cs => f (.agg cs)) h7
    simp only [cstep, e1, e2, g1, g2]
    exact ⟨_, rfl, h8⟩
def qExt (i : Nat) (x : CX) : EXp := fun s _ f => rdK x s fun u => asT u fun vs => nthL vs i f
theorem qExt_ok (i : Nat) (x : CX) : PSpec (.ext i x) (qExt i x) := fun s H f h => by
  obtain ⟨vs, e1, h1⟩ := asT_of (rdK_of h)
  obtain ⟨v, e2, h2⟩ := nthL_of h1
  obtain ⟨e3, e4⟩ := getD_of e2
  simp only [cstep, e1, e3]
  exact ⟨_, by simp [e4], h2⟩
/-- A cell. -/
def rdCell (y : ABlk) (k j : Nat) (f : AV → Prop) : Prop := @AC.rec (fun _ => Prop) (fun l => nthL l (Nat.add (Nat.mul k y.st) j) f) (fun q xs => chk (Nat.beq y.st 1) (nthL xs (Nat.add k j) fun n => f (.int q n))) (fun n g => chk (Nat.blt k n) (chk (Nat.blt j y.st) (nthL (g k) j f))) (fun _ => False) (fun n t => frN (Nat.add (Nat.mul k y.st) j) fun i => chk (Nat.blt i n) (VT.getC (pathOf i) t f)) y.c
theorem rdCell_of {y : ABlk} {k j : Nat} {f : AV → Prop} (h : rdCell y k j f) : y.c.inb y.st k j = true ∧ f (y.c.val y.st k j) := by
  obtain ⟨own, st, c⟩ := y
  cases c with
  | cells l =>
    obtain ⟨v, e1, h1⟩ := nthL_of h
    obtain ⟨e2, e3⟩ := getD_of e1
    have e2 : l.getD (k * st + j) .any = v := e2
    have e3 : k * st + j < l.length := e3
    simp only [AC.inb, AC.val, e2]
    exact ⟨decide_eq_true e3, h1⟩
  | ints q xs =>
    obtain ⟨h0, h1⟩ := chk_of h
    obtain ⟨n, e1, h1⟩ := nthL_of h1
    have e1 : xs[k + j]? = some n := e1
    have e3 : k + j < xs.length := (List.getElem?_eq_some_iff.1 e1).1
    simp only [AC.inb, AC.val, List.getD_eq_getElem?_getD, e1]
    exact ⟨by rw [Bool.and_eq_true]; exact ⟨h0, decide_eq_true e3⟩, h1⟩
  | recs n g =>
    obtain ⟨h0, h1⟩ := chk_of h
    obtain ⟨h2, h3⟩ := chk_of h1
    obtain ⟨v, e1, h4⟩ := nthL_of h3
    simp only [AC.inb, AC.val, (getD_of e1).1]
    exact ⟨by rw [Bool.and_eq_true]; exact ⟨decide_eq_true (Nat.le_of_ble_eq_true h0), decide_eq_true (Nat.le_of_ble_eq_true h2)⟩, h4⟩
  | map es => exact h.elim
  | tr n t =>
    have h1 := frN_of (f := fun i => chk (Nat.blt i n) (VT.getC (pathOf i) t f)) h
    obtain ⟨h2, h3⟩ := chk_of h1
    have h4 := VT.getC_of h3
    exact ⟨decide_eq_true (Nat.le_of_ble_eq_true h2 : k * st + j < n), h4⟩
/-- Several cells. -/
def rdCells (y : ABlk) (k j n : Nat) (f : List AV → Prop) : Prop := @AC.rec (fun _ => Prop) (fun l => dropC (Nat.add (Nat.mul k y.st) j) l fun l => takeC n l f) (fun _ _ => False) (fun m g => chk (Nat.blt k m) (chk (Nat.ble (Nat.add j n) y.st) (dropC j (g k) fun l => takeC n l f))) (fun _ => False) (fun m t => frN (Nat.add (Nat.mul k y.st) j) fun i => chk (Nat.ble (Nat.add i n) m) (listC t n i f)) y.c
theorem vals_drop {l : List AV} {o n : Nat} (h : n ≤ (l.drop o).length) : ((List.range n).map fun i => l.getD (o + i) .any) = (l.drop o).take n := by
  refine List.ext_getElem? fun i => ?_
  rw [List.length_drop] at h
  rw [List.getElem?_map, List.getElem?_take]
  by_cases e : i < n
  · rw [if_pos e, List.getElem?_drop, List.getElem?_range e]
    simp only [Option.map_some, List.getD_eq_getElem?_getD]
    rw [List.getElem?_eq_getElem (by omega)]
    rfl
  · rw [if_neg e, List.getElem?_eq_none (by simp; omega)]
    rfl
theorem rdCells_of {y : ABlk} {k j n : Nat} {f : List AV → Prop} (h : rdCells y k j n f) : y.c.inbs y.st k j n = true ∧ f (y.c.vals y.st k j n) := by
  obtain ⟨own, st, c⟩ := y
  unfold AC.inbs AC.vals
  cases c with
  | cells l =>
    have h1 := dropC_of (f := fun l => takeC n l f) h
    obtain ⟨h2, h3⟩ := takeC_of h1
    have h2 : n ≤ (l.drop (k * st + j)).length := h2
    have h3 : f ((l.drop (k * st + j)).take n) := h3
    refine ⟨List.all_eq_true.2 fun i hi => ?_, ?_⟩
    · have := List.mem_range.1 hi
      rw [List.length_drop] at h2
      have q : k * st + (j + i) < l.length := by omega
      exact decide_eq_true q
    · rw [← vals_drop h2] at h3
      simp only [AC.val, ← Nat.add_assoc]
      exact h3
  | ints q xs => exact h.elim
  | recs m g =>
    obtain ⟨h0, h1⟩ := chk_of h
    obtain ⟨h2, h3⟩ := chk_of h1
    have h4 := dropC_of (f := fun l => takeC n l f) h3
    obtain ⟨h5, h6⟩ := takeC_of h4
    have g0 : k < m := Nat.le_of_ble_eq_true h0
    have g1 : j + n ≤ st := Nat.le_of_ble_eq_true h2
    refine ⟨List.all_eq_true.2 fun i hi => ?_, ?_⟩
    · have := List.mem_range.1 hi
      simp only [AC.inb, Bool.and_eq_true, decide_eq_true_eq]
      omega
    · rw [← vals_drop h5] at h6
      simp only [AC.val]
      exact h6
  | map es => exact h.elim
  | tr m t =>
    have h1 := frN_of (f := fun i => chk (Nat.ble (Nat.add i n) m) (listC t n i f)) h
    obtain ⟨h2, h3⟩ := chk_of h1
    have h2 : k * st + j + n ≤ m := Nat.le_of_ble_eq_true h2
    have h4 : f (t.list (k * st + j) n) := listC_of h3
    refine ⟨List.all_eq_true.2 fun i hi => ?_, ?_⟩
    · have := List.mem_range.1 hi
      have q : k * st + (j + i) < m := by omega
      exact decide_eq_true q
    · simp only [AC.val, ← Nat.add_assoc]
      exact h4
def qLoad (sz : Option Nat) (x : CX) : EXp := @Option.rec Nat (fun _ => EXp) (fun s H f => rdK x s fun u => asP u fun b k j => getB H b fun y => rdCell y k j f) (fun n s H f => rdK x s fun u => asP u fun b k j => getB H b fun y => rdCells y k j n fun l => f (.agg l)) sz
theorem qLoad_ok (sz : Option Nat) (x : CX) : PSpec (.load sz x) (qLoad sz x) := fun s H f h => by
  cases sz with
  | none =>
    obtain ⟨b, k, j, e1, h1⟩ := asP_of (rdK_of h)
    obtain ⟨y, e2, h2⟩ := getB_of h1
    obtain ⟨h3, h4⟩ := rdCell_of h2
    simp only [cstep, e1, e2, h3]
    exact ⟨_, rfl, h4⟩
  | some n =>
    obtain ⟨b, k, j, e1, h1⟩ := asP_of (rdK_of h)
    obtain ⟨y, e2, h2⟩ := getB_of h1
    obtain ⟨h3, h4⟩ := rdCells_of (f := fun l => f (.agg l)) h2
    simp only [cstep, e1, e2, h3]
    exact ⟨_, rfl, h4⟩
def qLens (x : CX) : EXp := fun s _ f => rdK x s fun u => @AV.casesOn (fun _ => Prop) u False (fun _ _ => False) (fun _ => False) (fun _ => False) (fun _ _ _ => False) False (fun _ _ _ n _ _ => f (.int .i64 (Int.ofNat n))) (f (.int .i64 (Int.ofNat 0))) (fun _ _ _ n _ => f (.int .i64 (Int.ofNat n))) (fun _ => False) False (fun _ _ _ => False) False (fun _ _ => False) False (fun _ => False) (fun _ => False)
theorem qLens_ok (x : CX) : PSpec (.lens x) (qLens x) := fun s H f h => by
  have h := rdK_of h
  simp only [cstep]
  generalize evG s.at x = u at *
  cases u <;> first | exact ⟨_, rfl, h⟩ | exact h.elim
end
end Go.Eng
