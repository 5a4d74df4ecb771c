/- The engine, twenty-seventh part: results told more loosely. -/
import Derived.Test.YtieikjgfndojpaaGreatEn39
import Derived.ChangeArms
import Derived.ChangeSlices
import Derived.SizedLaws
namespace Go.Eng
open Go Go.RowKit
set_option linter.unusedVariables false
set_option linter.unusedSimpArgs false
noncomputable section
/-- A result that is a row by value (or one and more): its slices. -/
def looseOut (at_ : Nat) (spec : List (Nat × Nat × AC)) : AOut → AH → AOut × AH
  | .ret (.agg cs), H => match cs.getD at_ .any with
    | .sl b _ _ _ _ _ => match looseCs b spec cs H with
      | (cs', H') => (.ret (.agg cs'), H')
    | _ => (.ret (.agg cs), H)
  | .ret (.tup (.agg cs :: vs)), H => match cs.getD at_ .any with
    | .sl b _ _ _ _ _ => match looseCs b spec cs H with
      | (cs', H') => (.ret (.tup (.agg cs' :: vs)), H')
    | _ => (.ret (.tup (.agg cs :: vs)), H)
  | out, H => (out, H)
theorem looseOut_ok {at_ : Nat} {spec : List (Nat × Nat × AC)} {out : AOut} {H : AH} {μ : Mu} {w : World} {e : Ending} (ho : OutRel μ out e) (s : Sat μ H w) : ∃ μ', OutRel μ' (looseOut at_ spec out H).1 e ∧ Sat μ' (looseOut at_ spec out H).2 w ∧ Fr μ H μ' (looseOut at_ spec out H).2 w w := by
  unfold looseOut
  split
  · rename_i cs H
    split
    · obtain ⟨x, rfl, cs', rfl, h1⟩ := ho
      obtain ⟨μ1, q1, q2, q3⟩ := looseCs_ok (fk := _) spec h1 s
      exact ⟨μ1, ⟨_, rfl, cs', rfl, q1⟩, q2, q3⟩
    · exact ⟨μ, ho, s, Fr.refl _ _ _⟩
  · rename_i cs vs H
    split
    · obtain ⟨x, rfl, cs', rfl, h1⟩ := ho
      obtain ⟨xs⟩ := cs'
      cases xs with
      | nil => exact h1.elim
      | cons x xs =>
        obtain ⟨⟨c2, rfl, h2⟩, h3⟩ := h1
        obtain ⟨μ1, q1, q2, q3⟩ := looseCs_ok (fk := _) spec h2 s
        exact ⟨μ1, ⟨_, rfl, _, rfl, ⟨c2, rfl, q1⟩, VRels.ext (q3.ext s) _ _ h3⟩, q2, q3⟩
    · exact ⟨μ, ho, s, Fr.refl _ _ _⟩
  · exact ⟨μ, ho, s, Fr.refl _ _ _⟩
def Con.KL {X Y : Type} (S : SPf) (at_ : Nat) (spec : List (Nat × Nat × AC)) (c : Con X Y) (x : X) : AOut → AH → Prop := fun out H =>
  match looseOut at_ spec out H with
  | (o, h) => c.K S x o h
theorem Con.okL_of {X Y : Type} {P : Program} {c : Con X Y} {at_ : Nat} {spec : List (Nat × Nat × AC)} (h : ∀ x, c.pre x → RunsK P c.f (c.args x) (AH.of c.n0 (c.L0 x)) (c.KL sp at_ spec x)) : c.OK P := fun x hx μ w vs hv s =>
  Calls.mono (h x hx μ w vs hv s) (fun e w' hq => by
    obtain ⟨out, H', μ', h1, h2, h3, h4⟩ := hq
    obtain ⟨μ1, r1, r2, r3⟩ := looseOut_ok (at_ := at_) (spec := spec) h2 h3
    unfold Con.KL at h1
    simp only [] at h1
    obtain ⟨o, n, L, g1, g2⟩ := disjO_ok h1
    rw [AH.of_next] at h4
    have h5 := h4.trans (r3.fw h4.nx)
    obtain ⟨μ2, k1, k2, k3⟩ := isOut_weak g1 r1 r2 h5
    exact ⟨o, _, μ2, g2 _ rfl, k1, k2, by rw [AH.of_next]; exact k3⟩)
def Con.condL {X Y : Type} (S : SPf) (P : Program) (at_ : Nat) (spec : List (Nat × Nat × AC)) (dr : OrcK → DroK) (lo : FuncId → LoK) (base : OrcK) (m n : Nat) (c : Con X Y) (x : X) : Option Prop := vF S P dr lo base m n c.f (c.args x) (AH.of c.n0 (c.L0 x)) (c.KL S at_ spec x)
theorem Con.byL {X Y : Type} {P : Program} (hm : P.follows .mixedOrders = true) {at_ : Nat} {spec : List (Nat × Nat × AC)} {lo : FuncId → LoK} (hl : ∀ f, LoKOK P (lo f)) {base : OrcK} (hb : OrcKOK P base) {m n : Nat} {c : Con X Y} (p : X → Prop) (h : ∀ x, some (p x) = c.condL sp P at_ spec (drP sp P) lo base m n x) (hp : ∀ x, c.pre x → p x) : c.OK P :=
  Con.okL_of (at_ := at_) (spec := spec) (fun x hx => vF_ok (fun c hc => drP_ok hm c hc) hl hb m n c.f _ _ _ _ (h x).symm (hp x hx))
end
end Go.Eng
/- The engine, twenty-eighth part: what a row's reading says of the arguments: leaves; slices of the call's. -/
namespace Go.Eng
open Go Go.RowKit
set_option linter.unusedVariables false
set_option linter.unusedSimpArgs false
noncomputable section
/-- A cell's kind. -/
inductive LT where
  | i (k : IntKind)
  | b
  | s
  | sl (t : TypeId)
def leafGo (P : Program) (f : TypeId → Option (List LT)) : Nat → List (Nat × TypeId) → Option (Nat × List LT)
  | off, [] => some (off, [])
  | off, p :: l => bif Nat.beq p.1 off then match f p.2 with
    | some ks => match leafGo P f (off + P.cellsOf p.2) l with
      | some (n, ks') => bif Nat.ble (off + P.cellsOf p.2) n then some (n, ks ++ ks') else none
      | none => none
    | none => none else none
def leaves (P : Program) : Nat → TypeId → Option (List LT)
  | 0, _ => none
  | d + 1, t => match P.underlying t with
    | some .bool => some [.b]
    | some (.int k) => some [.i k]
    | some .string => some [.s]
    | some (.slice _) => some [.sl t]
    | some (.struct fs) => match leafGo P (leaves P d) 0 (fs.toList.map fun f => (f.offset, f.type)) with
      | some (n, ks) => bif Nat.beq n (P.cellsOf t) then some ks else none
      | none => none
    | some (.array n e) => match leafGo P (leaves P d) 0 ((List.range n).map fun i => (i * P.cellsOf e, e)) with
      | some (m, ks) => bif Nat.beq m (P.cellsOf t) then some ks else none
      | none => none
    | _ => none
section
variable {H : Type} (enc : TypeId × Value → H) (P : Program) (W : World) (base : Nat) (sp : Nat → Bool) (held : Bool)
def Small (t : TypeId) (d : DataW H) : Prop := ∀ w ∈ DataW.weights P t d, w ≤ reachBytes
def LTyped : LT → Value → Prop
  | .i k, c => ∃ n, c = .int k n ∧ k.min ≤ n ∧ n ≤ k.max
  | .b, c => ∃ b, c = .bool b
  | .s, c => ∃ s, c = .string s ∧ s.size ≤ maxLen
  | .sl t, c => ∃ fuel x, DataW.trod enc P W base sp held fuel t [c] = some x ∧ Small P t x.1
def LTypeds : List LT → List Value → Prop
  | [], [] => True
  | k :: ks, c :: cs => LTyped enc P W base sp held k c ∧ LTypeds ks cs
  | _, _ => False
end
section
variable {H : Type} {enc : TypeId × Value → H} {P : Program} {W : World} {base : Nat} {sp : Nat → Bool} {held : Bool}
theorem LTypeds.append : ∀ {ks : List LT} {cs : List Value} {ks' : List LT} {cs' : List Value}, LTypeds enc P W base sp held ks cs → LTypeds enc P W base sp held ks' cs' → LTypeds enc P W base sp held (ks ++ ks') (cs ++ cs')
  | [], [], _, _, _, h => h
  | k :: ks, c :: cs, _, _, h, h' => ⟨h.1, LTypeds.append h.2 h'⟩
  | [], _ :: _, _, _, h, _ => h.elim
  | _ :: _, [], _, _, h, _ => h.elim
theorem LTypeds.cons {k : LT} {ks : List LT} {cs : List Value} (h : LTypeds enc P W base sp held (k :: ks) cs) : ∃ c r, cs = c :: r ∧ LTyped enc P W base sp held k c ∧ LTypeds enc P W base sp held ks r := by
  cases cs with
  | nil => exact h.elim
  | cons c r => exact ⟨c, r, rfl, h.1, h.2⟩
theorem LTypeds.nil {cs : List Value} (h : LTypeds enc P W base sp held [] cs) : cs = [] := by
  cases cs with
  | nil => rfl
  | cons c r => exact h.elim
theorem leafGo_ok {f : TypeId → Option (List LT)} {cs : List Value} : ∀ (l : List (Nat × TypeId)) {off n : Nat} {ks : List LT}, leafGo P f off l = some (n, ks) → (∀ p ∈ l, ∀ ks', f p.2 = some ks' → LTypeds enc P W base sp held ks' ((cs.drop p.1).take (P.cellsOf p.2))) → off ≤ n ∧ LTypeds enc P W base sp held ks ((cs.drop off).take (n - off))
  | [], off, n, ks, h, _ => by
    simp only [leafGo, Option.some.injEq, Prod.mk.injEq] at h
    obtain ⟨rfl, rfl⟩ := h
    simp [LTypeds]
  | p :: l, off, n, ks, h, hp => by
    simp only [leafGo] at h
    rcases hb : Nat.beq p.1 off with _ | _
    · rw [hb] at h; cases h
    · rw [hb] at h
      simp only [cond_true] at h
      have e := Nat.eq_of_beq_eq_true hb
      split at h
      · rename_i ks1 h1
        split at h
        · rename_i m ks2 h2
          rcases hc : Nat.ble (off + P.cellsOf p.2) m with _ | _
          · rw [hc] at h; cases h
          · rw [hc] at h
            cases h
            have hle := Nat.le_of_ble_eq_true hc
            obtain ⟨g1, g2⟩ := leafGo_ok l h2 (fun q hq => hp q (List.mem_cons_of_mem _ hq))
            have g3 := hp p List.mem_cons_self ks1 h1
            rw [e] at g3
            refine ⟨by omega, ?_⟩
            have : (cs.drop off).take (n - off) = (cs.drop off).take (P.cellsOf p.2) ++ (cs.drop (off + P.cellsOf p.2)).take (n - (off + P.cellsOf p.2)) := by
              rw [show n - off = P.cellsOf p.2 + (n - (off + P.cellsOf p.2)) by omega, List.take_add, List.drop_drop]
            rw [this]
            exact g3.append g2
        · cases h
      · cases h
theorem mapM_at {α β : Type} {f : α → Option β} : ∀ {l : List α} {xs : List β}, l.mapM f = some xs → ∀ (i : Nat) (a : α), l[i]? = some a → ∃ y, xs[i]? = some y ∧ f a = some y
  | [], xs, h, i, a, ha => by simp at ha
  | b :: l, xs, h, i, a, ha => by
    rw [List.mapM_cons] at h
    simp only [bind, Option.bind_eq_some_iff, pure, Option.some.injEq] at h
    obtain ⟨y, h1, ys, h2, rfl⟩ := h
    cases i with
    | zero => simp at ha; subst ha; exact ⟨y, rfl, h1⟩
    | succ i =>
      obtain ⟨z, q1, q2⟩ := mapM_at h2 i a (by simpa using ha)
      exact ⟨z, by simpa using q1, q2⟩
theorem weights_all {e : TypeId} : ∀ {ds : List (DataW H)} {i : Nat} {d : DataW H}, ds[i]? = some d → ∀ w ∈ DataW.weights P e d, w ∈ DataW.weightsAll P e ds
  | [], i, d, h, w, hw => by simp at h
  | x :: ds, 0, d, h, w, hw => by
    simp at h; subst h
    simp only [DataW.weightsAll, List.mem_append]
    exact .inl hw
  | x :: ds, i + 1, d, h, w, hw => by
    simp only [DataW.weightsAll, List.mem_append]
    exact .inr (weights_all (by simpa using h) w hw)
theorem leaves_ok : ∀ (d : Nat) (t : TypeId) (ks : List LT), leaves P d t = some ks → ∀ (fuel : Nat) (cs : List Value) (x : DataW H × List MemPlace), DataW.trod enc P W base sp held fuel t cs = some x → Small P t x.1 → LTypeds enc P W base sp held ks cs
  | 0, t, ks, h => by cases h
  | d + 1, t, ks, h => by
    intro fuel cs x hx hs
    cases fuel with
    | zero => simp [DataW.trod] at hx
    | succ n =>
      have hx0 := hx
      unfold leaves at h
      unfold DataW.trod at hx
      split at h
      · rename_i hu
        rw [hu] at hx
        cases h
        split at hx <;> simp_all [LTypeds, LTyped]
      · rename_i k hu
        rw [hu] at hx
        cases h
        match cs, hx with
        | [], hx => simp at hx
        | [c], hx =>
          cases c <;> simp at hx
          rename_i k' m
          obtain ⟨⟨rfl, hw⟩, _⟩ := hx
          refine ⟨⟨m, rfl, ?_⟩, trivial⟩
          simpa [Lit.wf] using hw
        | _ :: _ :: _, hx => simp at hx
      · rename_i hu
        rw [hu] at hx
        cases h
        split at hx <;> simp_all [LTypeds, LTyped]
      · rename_i e hu
        cases h
        have : ∃ c, cs = [c] := by
          rw [hu] at hx
          split at hx <;> simp_all
        obtain ⟨c, rfl⟩ := this
        exact ⟨⟨n + 1, x, hx0, hs⟩, trivial⟩
      · rename_i fs hu
        rw [hu] at hx
        split at h
        · rename_i m ks' hl
          rcases hb : Nat.beq m (P.cellsOf t) with _ | _
          · rw [hb] at h; cases h
          · rw [hb] at h
            cases h
            have hm := Nat.eq_of_beq_eq_true hb
            have key : cs.length = P.cellsOf t ∧ ∃ xs, (fs.toList.mapM fun f => DataW.trod enc P W base sp held n f.type ((cs.drop f.offset).take (P.cellsOf f.type))) = some xs ∧ x.1 = .agg (xs.map (·.1)) := by
              by_cases hc : cs.length = P.cellsOf t
              · simp only [hc, if_true, Option.map_eq_some_iff] at hx
                obtain ⟨xs, h1, rfl⟩ := hx
                exact ⟨hc, xs, h1, rfl⟩
              · simp [hc] at hx
            obtain ⟨hc, xs, h1, h2⟩ := key
            obtain ⟨_, g⟩ := leafGo_ok (cs := cs) _ hl (fun p hp ks2 hk2 => by
              obtain ⟨f, hf, rfl⟩ := List.mem_map.1 hp
              obtain ⟨i, hi⟩ := List.getElem?_of_mem hf
              obtain ⟨y, y1, y2⟩ := mapM_at h1 i f hi
              refine leaves_ok d f.type ks2 hk2 n _ y y2 (fun w hw => hs w ?_)
              rw [h2]
              simp only [DataW.weights, hu]
              exact DataW.weights_mem_each (j := i) (t := f.type) (d := y.1) (by simp [hi]) (by simp [y1]) w hw)
            rw [hm] at g
            simpa [hc.symm] using g
        · cases h
      · rename_i m e hu
        rw [hu] at hx
        split at h
        · rename_i q ks' hl
          rcases hb : Nat.beq q (P.cellsOf t) with _ | _
          · rw [hb] at h; cases h
          · rw [hb] at h
            cases h
            have hm := Nat.eq_of_beq_eq_true hb
            have key : cs.length = P.cellsOf t ∧ ∃ xs, ((List.range m).mapM fun i => DataW.trod enc P W base sp held n e ((cs.drop (i * P.cellsOf e)).take (P.cellsOf e))) = some xs ∧ x.1 = .agg (xs.map (·.1)) := by
              by_cases hc : cs.length = P.cellsOf t
              · simp only [hc, if_true, Option.map_eq_some_iff] at hx
                obtain ⟨xs, h1, rfl⟩ := hx
                exact ⟨hc, xs, h1, rfl⟩
              · simp [hc] at hx
            obtain ⟨hc, xs, h1, h2⟩ := key
            obtain ⟨_, g⟩ := leafGo_ok (cs := cs) _ hl (fun p hp ks2 hk2 => by
              obtain ⟨i, hi, rfl⟩ := List.mem_map.1 hp
              obtain ⟨j, hj⟩ := List.getElem?_of_mem hi
              obtain ⟨y, y1, y2⟩ := mapM_at h1 j i hj
              refine leaves_ok d e ks2 hk2 n _ y y2 (fun w hw => hs w ?_)
              rw [h2]
              simp only [DataW.weights, hu]
              exact weights_all (i := j) (d := y.1) (by simp [y1]) w hw)
            rw [hm] at g
            simpa [hc.symm] using g
        · cases h
      · cases h
end
end
end Go.Eng
