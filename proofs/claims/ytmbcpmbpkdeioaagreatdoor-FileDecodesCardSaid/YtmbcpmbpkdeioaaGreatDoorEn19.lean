/- The engine, nineteenth part: regions that draw their order, reckoned. -/
import Derived.Test.YtmbcpmbpkdeioaaGreatDoorEn18
namespace Go.Eng
open Go Go.RowKit
set_option linter.unusedVariables false
set_option linter.unusedSimpArgs false
mutual
def AV.eqB : AV → AV → Bool
  | .any, .any => true
  | .int k n, .int k' n' => decide (k = k') && decide (n = n')
  | .bool a, .bool b => a == b
  | .str a, .str b => decide (a = b)
  | .ptr b k j, .ptr b' k' j' => Nat.beq b b' && Nat.beq k k' && Nat.beq j j'
  | .nilp, .nilp => true
  | .sl b k j n c e, .sl b' k' j' n' c' e' => Nat.beq b b' && Nat.beq k k' && Nat.beq j j' && Nat.beq n n' && Nat.beq c c' && (e == e')
  | .nils, .nils => true
  | .msl b k j n c, .msl b' k' j' n' c' => Nat.beq b b' && Nat.beq k k' && Nat.beq j j' && Nat.beq n n' && Nat.beq c c'
  | .map b, .map b' => Nat.beq b b'
  | .nilm, .nilm => true
  | .fn (.func f) a c, .fn (.func f') a' c' => Nat.beq f f' && AV.eqsB a a' && AV.eqsB c c'
  | .nilf, .nilf => true
  | .ifc t v, .ifc t' v' => Nat.beq t t' && AV.eqB v v'
  | .nili, .nili => true
  | .agg a, .agg b => AV.eqsB a b
  | .tup a, .tup b => AV.eqsB a b
  | _, _ => false
def AV.eqsB : List AV → List AV → Bool
  | [], [] => true
  | a :: as, b :: bs => AV.eqB a b && AV.eqsB as bs
  | _, _ => false
end
theorem nbeq (a b : Nat) : (Nat.beq a b = true) = (a = b) := propext ⟨Nat.eq_of_beq_eq_true, fun h => by rw [h]; exact Nat.beq_refl b⟩
mutual
theorem AV.eqB_ok : ∀ (a b : AV), AV.eqB a b = true → a = b := by
  intro a b h
  unfold AV.eqB at h
  split at h <;> first
    | rfl
    | (cases h; done)
    | (try simp only [Bool.and_eq_true, decide_eq_true_eq, beq_iff_eq, nbeq] at h
       first
         | (obtain ⟨rfl, rfl⟩ := h; rfl)
         | (obtain ⟨⟨rfl, rfl⟩, rfl⟩ := h; rfl)
         | (obtain ⟨⟨⟨⟨⟨rfl, rfl⟩, rfl⟩, rfl⟩, rfl⟩, rfl⟩ := h; rfl)
         | (obtain ⟨⟨⟨⟨rfl, rfl⟩, rfl⟩, rfl⟩, rfl⟩ := h; rfl)
         | (obtain ⟨⟨rfl, h1⟩, h2⟩ := h; rw [AV.eqsB_ok _ _ h1, AV.eqsB_ok _ _ h2])
         | (obtain ⟨rfl, h1⟩ := h; rw [AV.eqB_ok _ _ h1])
         | (rw [AV.eqsB_ok _ _ h])
         | (subst h; rfl))
theorem AV.eqsB_ok : ∀ (as bs : List AV), AV.eqsB as bs = true → as = bs
  | [], [], _ => rfl
  | a :: as, b :: bs, h => by
    simp only [AV.eqsB, Bool.and_eq_true] at h
    rw [AV.eqB_ok _ _ h.1, AV.eqsB_ok _ _ h.2]
  | [], _ :: _, h => by simp [AV.eqsB] at h
  | _ :: _, [], h => by simp [AV.eqsB] at h
end
/-- Operations that leave the heap. -/
def isPure : COp → Bool
  | .mv _ | .pick .. | .load .. | .nilc _ | .bin .. | .eq .. | .un .. | .conv .. | .s2a .. | .mki .. | .mkf .. | .sli .. | .sla .. | .fa .. | .fld .. | .ias .. | .iaa .. | .ixa .. | .ixs .. | .ext .. | .lens _ | .lenb _ | .lenn _ | .mm .. | .pl _ => true
  | _ => false
theorem pure_heap {ev : CX → AV} {H H' : AH} {c : COp} {v : AV} {ok : Bool} (hp : isPure c = true) (h : cstep ev H c = some (v, H', ok)) : H' = H := by
  cases c <;> first
    | (simp [isPure] at hp; done)
    | (simp only [cstep] at h
       repeat' split at h
       all_goals first
         | (cases h; done)
         | (simp only [Option.some.injEq, Prod.mk.injEq] at h; exact h.2.1.symm)
         | (simp only [cond] at h; split at h <;> (simp only [Option.some.injEq, Prod.mk.injEq] at h; exact h.2.1.symm)))
def pureV (P : Program) (ops : Array Oper) (o : Oper) (ts : List AV) (H : AH) : Option AV :=
  match guardOf ops o with
  | none => none
  | some g => match goesOn ts g with
    | none => none
    | some false => some (.tup [])
    | some true => match comp P o with
      | none => none
      | some c => bif isPure (c.hint 0) then match cstep (CX.ev ts) H (c.hint 0) with
        | some (v, _, true) => some v
        | _ => none else none
theorem pureV_ok {P : Program} {ops : Array Oper} {o : Oper} {ts : List AV} {H : AH} {v : AV} (h : pureV P ops o ts H = some v) : stepV P ops 0 o ts H = some (v, H, true) := by
  unfold pureV at h
  unfold stepV
  split at h
  · cases h
  · rename_i g hg
    simp only [hg]
    split at h
    · cases h
    · rename_i hb
      cases h
      simp only [hb]
    · rename_i hb
      simp only [hb]
      split at h
      · cases h
      · rename_i c hc
        simp only [hc]
        rcases hp : isPure (c.hint 0) with _ | _
        · rw [hp] at h; cases h
        · rw [hp] at h
          simp only [cond_true] at h
          split at h
          · rename_i v' H' hs
            cases h
            rw [hs, pure_heap hp hs]
          · cases h
end Go.Eng
