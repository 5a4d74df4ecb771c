/- The engine, forty-fifth part: a call that is shown by itself, used wherever it stands. -/
import Derived.Test.YtieikjgfndojpaaGreatEn42
namespace Go.Eng
open Go Go.RowKit
set_option linter.unusedVariables false
set_option linter.unusedSimpArgs false
noncomputable section
/-- A call without arguments that comes to a bool. -/
def constB (b : Bool) : FB := ⟨fun call args H K => @List.rec AV (fun _ => Prop) (K (.ret (.bool b)) H) (fun _ _ _ => False) args⟩
theorem Sat.none (w : World) : Sat (fun _ => none) ⟨0, .e⟩ w := ⟨fun _ _ => rfl, (fun b k hk => by simp [AH.get, T.get] at hk), (fun b b' k k' l l' hk => by simp [AH.get, T.get] at hk)⟩
theorem VRels.none {μ : Mu} {l : List Value} (h : VRels μ [] l) : VRels (fun _ => Option.none) [] l := by cases l <;> first | trivial | exact h.elim
theorem constB_ok {P : Program} {f : FuncId} {b : Bool} (h : RunsK P f [] ⟨0, .e⟩ (fun out _ => out = .ret (.bool b))) : FBOK P f (constB b) := by
  intro call args H K hc hk μ w vs hv s
  cases args with
  | cons a l => exact hk.elim
  | nil =>
    have hk : K (.ret (.bool b)) H := hk
    refine Calls.mono (h (fun _ => none) w vs (VRels.none hv) (Sat.none w)) (fun e w' hq => ?_)
    obtain ⟨out, H', μ', rfl, k2, k3, k4⟩ := hq
    have same : ∀ k, k < w.heap.size → w'.heap[k]? = w.heap[k]? := fun k hk => k4.same k hk (fun b x l hb => by simp [AH.get, T.get] at hb)
    refine ⟨_, H, μ, hk, ?_, s.besides (fun b x l hb hl => ?_), ⟨fun _ _ => rfl, Nat.le_refl _, k4.os, k4.tape, k4.output, k4.size, fun k hk _ => same k hk, fun b x l h1 h2 => .inr ⟨b, x, l, h1, h2, rfl, id⟩⟩⟩
    · obtain ⟨x, rfl, hx⟩ := k2
      exact ⟨x, rfl, hx⟩
    · obtain ⟨l', q1, q2⟩ := s.blk b x hb
      rw [hl] at q1; cases q1
      exact same _ q2.blk_lt
end
end Go.Eng
/- The engine, forty-sixth part: a long run cut in stages: a call at a known state that comes to a known state. -/
namespace Go.Eng
open Go Go.RowKit
set_option linter.unusedVariables false
set_option linter.unusedSimpArgs false
noncomputable section
def intsB : List Int → List Int → Bool
  | [], [] => true
  | a :: l, b :: m => decide (a = b) && intsB l m
  | _, _ => false
theorem intsB_ok : ∀ (l m : List Int), intsB l m = true → l = m
  | [], [], _ => rfl
  | a :: l, b :: m, h => by
    simp only [intsB, Bool.and_eq_true, decide_eq_true_eq] at h
    rw [h.1, intsB_ok l m h.2]
  | [], _ :: _, h => by cases h
  | _ :: _, [], h => by cases h
def VT.eqB : VT → VT → Bool
  | .e, .e => true
  | .n l x r, .n l' x' r' => VT.eqB l l' && (AV.eqB x x' && VT.eqB r r')
  | _, _ => false
theorem VT.eqB_ok : ∀ (s t : VT), VT.eqB s t = true → s = t
  | .e, .e, _ => rfl
  | .n l x r, .n l' x' r', h => by
    simp only [VT.eqB, Bool.and_eq_true] at h
    rw [VT.eqB_ok l l' h.1, AV.eqB_ok x x' h.2.1, VT.eqB_ok r r' h.2.2]
  | .e, .n _ _ _, h => by cases h
  | .n _ _ _, .e, h => by cases h
def AC.eqB : AC → AC → Bool
  | .cells l, .cells m => AV.eqsB l m
  | .ints q xs, .ints p ys => decide (q = p) && intsB xs ys
  | .map es, .map fs => AV.eqsB (es.map (·.1)) (fs.map (·.1)) && AV.eqsB (es.map (·.2)) (fs.map (·.2))
  | .tr n t, .tr m u => Nat.beq n m && VT.eqB t u
  | _, _ => false
theorem pairs_eq {α β : Type} : ∀ {l m : List (α × β)}, l.map (·.1) = m.map (·.1) → l.map (·.2) = m.map (·.2) → l = m
  | [], [], _, _ => rfl
  | (a, b) :: l, (c, d) :: m, h, g => by
    simp only [List.map_cons, List.cons.injEq] at h g
    rw [h.1, g.1, pairs_eq h.2 g.2]
  | [], _ :: _, h, _ => by simp at h
  | _ :: _, [], h, _ => by simp at h
theorem AC.eqB_ok : ∀ (a b : AC), AC.eqB a b = true → a = b := by
  intro a b h
  unfold AC.eqB at h
  split at h
  · rw [AV.eqsB_ok _ _ h]
  · simp only [Bool.and_eq_true, decide_eq_true_eq] at h
    rw [h.1, intsB_ok _ _ h.2]
  · rw [Bool.and_eq_true] at h
    rw [pairs_eq (AV.eqsB_ok _ _ h.1) (AV.eqsB_ok _ _ h.2)]
  · rw [Bool.and_eq_true] at h
    rw [Nat.eq_of_beq_eq_true h.1, VT.eqB_ok _ _ h.2]
  · cases h
def boolB : Bool → Bool → Bool
  | true, true => true
  | false, false => true
  | _, _ => false
theorem boolB_ok : ∀ (a b : Bool), boolB a b = true → a = b
  | true, true, _ => rfl
  | false, false, _ => rfl
  | true, false, h => by cases h
  | false, true, h => by cases h
def ABlk.eqB (a b : ABlk) : Bool := boolB a.own b.own && (Nat.beq a.st b.st && AC.eqB a.c b.c)
theorem ABlk.eqB_ok (a b : ABlk) (h : ABlk.eqB a b = true) : a = b := by
  obtain ⟨o, s, c⟩ := a
  obtain ⟨o', s', c'⟩ := b
  simp only [ABlk.eqB, Bool.and_eq_true] at h
  rw [boolB_ok _ _ h.1, Nat.eq_of_beq_eq_true h.2.1, AC.eqB_ok _ _ h.2.2]
def oblkB : Option ABlk → Option ABlk → Bool
  | some a, some b => ABlk.eqB a b
  | none, none => true
  | _, _ => false
theorem oblkB_ok : ∀ (a b : Option ABlk), oblkB a b = true → a = b
  | some a, some b, h => by rw [ABlk.eqB_ok a b h]
  | none, none, _ => rfl
  | some _, none, h => by cases h
  | none, some _, h => by cases h
def T.eqB : T → T → Bool
  | .e, .e => true
  | .n l x r, .n l' x' r' => T.eqB l l' && (oblkB x x' && T.eqB r r')
  | _, _ => false
theorem T.eqB_ok : ∀ (s t : T), T.eqB s t = true → s = t
  | .e, .e, _ => rfl
  | .n l x r, .n l' x' r', h => by
    simp only [T.eqB, Bool.and_eq_true] at h
    rw [T.eqB_ok l l' h.1, oblkB_ok x x' h.2.1, T.eqB_ok r r' h.2.2]
  | .e, .n _ _ _, h => by cases h
  | .n _ _ _, .e, h => by cases h
def AH.eqB (H G : AH) : Bool := Nat.beq H.next G.next && T.eqB H.t G.t
theorem AH.eqB_ok (H G : AH) (h : AH.eqB H G = true) : H = G := by
  obtain ⟨n, t⟩ := H
  obtain ⟨m, u⟩ := G
  simp only [AH.eqB, Bool.and_eq_true] at h
  rw [Nat.eq_of_beq_eq_true h.1, T.eqB_ok _ _ h.2]
def AOut.eqB : AOut → AOut → Bool
  | .ret v, .ret u => AV.eqB v u
  | .panic v, .panic u => AV.eqB v u
  | _, _ => false
theorem AOut.eqB_ok : ∀ (a b : AOut), AOut.eqB a b = true → a = b
  | .ret v, .ret u, h => by rw [AV.eqB_ok _ _ h]
  | .panic v, .panic u, h => by rw [AV.eqB_ok _ _ h]
  | .ret _, .panic _, h => by cases h
  | .panic _, .ret _, h => by cases h
/-- It has come to that. -/
def atS (o1 : AOut) (H1 : AH) (out : AOut) (H : AH) : Prop := chk (AOut.eqB out o1) (chk (AH.eqB H H1) True)
/-- A stage: at just these arguments and this heap the call comes to just that. -/
def stgB (args0 : List AV) (H0 : AH) (o1 : AOut) (H1 : AH) : FB := ⟨fun call args H K => chk (AV.eqsB args args0) (chk (AH.eqB H H0) (frH H1 fun H => K o1 H))⟩
theorem stgB_ok {P : Program} {f : FuncId} {args0 : List AV} {H0 : AH} {o1 : AOut} {H1 : AH} (h : RunsK P f args0 H0 (atS o1 H1)) : FBOK P f (stgB args0 H0 o1 H1) := by
  intro call args H K hc hk
  obtain ⟨h1, hk⟩ := chk_of hk
  obtain ⟨h2, hk⟩ := chk_of hk
  rw [AV.eqsB_ok _ _ h1, AH.eqB_ok _ _ h2]
  have hk := frH_of (f := fun H => K o1 H) hk
  refine RunsK.mono h (fun out H' q => ?_)
  obtain ⟨q1, q⟩ := chk_of q
  obtain ⟨q2, _⟩ := chk_of q
  rw [AOut.eqB_ok _ _ q1, AH.eqB_ok _ _ q2]
  exact hk
end
end Go.Eng
