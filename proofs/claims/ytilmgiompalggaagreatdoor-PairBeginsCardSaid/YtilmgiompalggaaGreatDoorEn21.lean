/- The engine, twenty-seventh part: results told more loosely. -/
import Derived.Test.YtilmgiompalggaaGreatDoorEn20
import Derived.ChangeArms
import Derived.ChangeSlices
import Derived.SizedLaws
import Derived.Below
namespace Go.Eng
open Go Go.RowKit
set_option linter.unusedVariables false
set_option linter.unusedSimpArgs false
noncomputable section
/-- A result that is a row by value (or one and more): its slices. -/
def looseOut (at_ : Nat) (spec : List (Nat × Nat × AC)) : AOut → AH → AOut × AH
  | .ret (.agg cs), H => match cs.getD at_ .any with
    | .sl b _ _ _ _ _ => match looseCs b spec cs H with
      | (cs', H') => (.ret (.agg cs'), H')
    | _ => (.ret (.agg cs), H)
  | .ret (.tup (.agg cs :: vs)), H => match cs.getD at_ .any with
    | .sl b _ _ _ _ _ => match looseCs b spec cs H with
      | (cs', H') => (.ret (.tup (.agg cs' :: vs)), H')
    | _ => (.ret (.tup (.agg cs :: vs)), H)
  | out, H => (out, H)
theorem looseOut_ok {at_ : Nat} {spec : List (Nat × Nat × AC)} {out : AOut} {H : AH} {μ : Mu} {w : World} {e : Ending} (ho : OutRel μ out e) (s : Sat μ H w) : ∃ μ', OutRel μ' (looseOut at_ spec out H).1 e ∧ Sat μ' (looseOut at_ spec out H).2 w ∧ Fr μ H μ' (looseOut at_ spec out H).2 w w := by
  unfold looseOut
  split
  · rename_i cs H
    split
    · obtain ⟨x, rfl, cs', rfl, h1⟩ := ho
      obtain ⟨μ1, q1, q2, q3⟩ := looseCs_ok (fk := _) spec h1 s
      exact ⟨μ1, ⟨_, rfl, cs', rfl, q1⟩, q2, q3⟩
    · exact ⟨μ, ho, s, Fr.refl _ _ _⟩
  · rename_i cs vs H
    split
    · obtain ⟨x, rfl, cs', rfl, h1⟩ := ho
      obtain ⟨xs⟩ := cs'
      cases xs with
      | nil => exact h1.elim
      | cons x xs =>
        obtain ⟨⟨c2, rfl, h2⟩, h3⟩ := h1
        obtain ⟨μ1, q1, q2, q3⟩ := looseCs_ok (fk := _) spec h2 s
        exact ⟨μ1, ⟨_, rfl, _, rfl, ⟨c2, rfl, q1⟩, VRels.ext (q3.ext s) _ _ h3⟩, q2, q3⟩
    · exact ⟨μ, ho, s, Fr.refl _ _ _⟩
  · exact ⟨μ, ho, s, Fr.refl _ _ _⟩
def Con.KL {X Y : Type} (S : SPf) (at_ : Nat) (spec : List (Nat × Nat × AC)) (c : Con X Y) (x : X) : AOut → AH → Prop := fun out H =>
  match looseOut at_ spec out H with
  | (o, h) => c.K S x o h
theorem Con.okL_of {X Y : Type} {P : Program} {c : Con X Y} {at_ : Nat} {spec : List (Nat × Nat × AC)} (h : ∀ x, c.pre x → RunsK P c.f (c.args x) (AH.of c.n0 (c.L0 x)) (c.KL sp at_ spec x)) : c.OK P := fun x hx μ w vs hv s =>
  Calls.mono (h x hx μ w vs hv s) (fun e w' hq => by
    obtain ⟨out, H', μ', h1, h2, h3, h4⟩ := hq
    obtain ⟨μ1, r1, r2, r3⟩ := looseOut_ok (at_ := at_) (spec := spec) h2 h3
    unfold Con.KL at h1
    simp only [] at h1
    obtain ⟨o, n, L, g1, g2⟩ := disjO_ok h1
    rw [AH.of_next] at h4
    have h5 := h4.trans (r3.fw h4.nx)
    obtain ⟨μ2, k1, k2, k3⟩ := isOut_weak g1 r1 r2 h5
    exact ⟨o, _, μ2, g2 _ rfl, k1, k2, by rw [AH.of_next]; exact k3⟩)
def Con.condL {X Y : Type} (S : SPf) (P : Program) (at_ : Nat) (spec : List (Nat × Nat × AC)) (dr : OrcK → DroK) (lo : FuncId → LoK) (base : OrcK) (m n : Nat) (c : Con X Y) (x : X) : Option Prop := vF S P dr lo base m n c.f (c.args x) (AH.of c.n0 (c.L0 x)) (c.KL S at_ spec x)
theorem Con.byL {X Y : Type} {P : Program} (hm : P.follows .mixedOrders = true) {at_ : Nat} {spec : List (Nat × Nat × AC)} {lo : FuncId → LoK} (hl : ∀ f, LoKOK P (lo f)) {base : OrcK} (hb : OrcKOK P base) {m n : Nat} {c : Con X Y} (p : X → Prop) (h : ∀ x, some (p x) = c.condL sp P at_ spec (drP sp P) lo base m n x) (hp : ∀ x, c.pre x → p x) : c.OK P :=
  Con.okL_of (at_ := at_) (spec := spec) (fun x hx => vF_ok (fun c hc => drP_ok hm c hc) hl hb m n c.f _ _ _ _ (h x).symm (hp x hx))
end
end Go.Eng
/- The engine, twenty-eighth part: what a row's reading says of the arguments: leaves; slices of the call's. -/
namespace Go.Eng
open Go Go.RowKit
set_option linter.unusedVariables false
set_option linter.unusedSimpArgs false
noncomputable section
/-- A cell's kind. -/
inductive LT where
  | i (k : IntKind)
  | b
  | s
  | sl (t : TypeId)
def leafGo (P : Program) (f : TypeId → Option (List LT)) : Nat → List (Nat × TypeId) → Option (Nat × List LT)
  | off, [] => some (off, [])
  | off, p :: l => bif Nat.beq p.1 off then match f p.2 with
    | some ks => match leafGo P f (off + P.cellsOf p.2) l with
      | some (n, ks') => bif Nat.ble (off + P.cellsOf p.2) n then some (n, ks ++ ks') else none
      | none => none
    | none => none else none
def leaves (P : Program) : Nat → TypeId → Option (List LT)
  | 0, _ => none
  | d + 1, t => match P.underlying t with
    | some .bool => some [.b]
    | some (.int k) => some [.i k]
    | some .string => some [.s]
    | some (.slice _) => some [.sl t]
    | some (.struct fs) => match leafGo P (leaves P d) 0 (fs.toList.map fun f => (f.offset, f.type)) with
      | some (n, ks) => bif Nat.beq n (P.cellsOf t) then some ks else none
      | none => none
    | some (.array n e) => match leafGo P (leaves P d) 0 ((List.range n).map fun i => (i * P.cellsOf e, e)) with
      | some (m, ks) => bif Nat.beq m (P.cellsOf t) then some ks else none
      | none => none
    | _ => none
section
variable {H : Type} (enc : TypeId × Value → H) (P : Program) (W : World) (base : Nat) (sp : Nat → Bool) (held : Bool)
def Small (t : TypeId) (d : DataW H) : Prop := ∀ w ∈ DataW.weights P t d, w ≤ reachBytes
def LTyped : LT → Value → Prop
  | .i k, c => ∃ n, c = .int k n ∧ k.min ≤ n ∧ n ≤ k.max
  | .b, c => ∃ b, c = .bool b
  | .s, c => ∃ s, c = .string s ∧ s.size ≤ maxLen
  | .sl t, c => ∃ fuel x, DataW.trod enc P W base sp held fuel t [c] = some x ∧ Small P t x.1
def LTypeds : List LT → List Value → Prop
  | [], [] => True
  | k :: ks, c :: cs => LTyped enc P W base sp held k c ∧ LTypeds ks cs
  | _, _ => False
end
section
variable {H : Type} {enc : TypeId × Value → H} {P : Program} {W : World} {base : Nat} {sp : Nat → Bool} {held : Bool}
theorem LTypeds.append : ∀ {ks : List LT} {cs : List Value} {ks' : List LT} {cs' : List Value}, LTypeds enc P W base sp held ks cs → LTypeds enc P W base sp held ks' cs' → LTypeds enc P W base sp held (ks ++ ks') (cs ++ cs')
  | [], [], _, _, _, h => h
  | k :: ks, c :: cs, _, _, h, h' => ⟨h.1, LTypeds.append h.2 h'⟩
  | [], _ :: _, _, _, h, _ => h.elim
  | _ :: _, [], _, _, h, _ => h.elim
theorem LTypeds.cons {k : LT} {ks : List LT} {cs : List Value} (h : LTypeds enc P W base sp held (k :: ks) cs) : ∃ c r, cs = c :: r ∧ LTyped enc P W base sp held k c ∧ LTypeds enc P W base sp held ks r := by
  cases cs with
  | nil => exact h.elim
  | cons c r => exact ⟨c, r, rfl, h.1, h.2⟩
theorem LTypeds.nil {cs : List Value} (h : LTypeds enc P W base sp held [] cs) : cs = [] := by
  cases cs with
  | nil => rfl
  | cons c r => exact h.elim
theorem leafGo_ok {f : TypeId → Option (List LT)} {cs : List Value} : ∀ (l : List (Nat × TypeId)) {off n : Nat} {ks : List LT}, leafGo P f off l = some (n, ks) → (∀ p ∈ l, ∀ ks', f p.2 = some ks' → LTypeds enc P W base sp held ks' ((cs.drop p.1).take (P.cellsOf p.2))) → off ≤ n ∧ LTypeds enc P W base sp held ks ((cs.drop off).take (n - off))
  | [], off, n, ks, h, _ => by
    simp only [leafGo, Option.some.injEq, Prod.mk.injEq] at h
    obtain ⟨rfl, rfl⟩ := h
    simp [LTypeds]
  | p :: l, off, n, ks, h, hp => by
    simp only [leafGo] at h
    rcases hb : Nat.beq p.1 off with _ | _
    · rw [hb] at h; cases h
    · rw [hb] at h
      simp only [cond_true] at h
      have e := Nat.eq_of_beq_eq_true hb
      split at h
      · rename_i ks1 h1
        split at h
        · rename_i m ks2 h2
          rcases hc : Nat.ble (off + P.cellsOf p.2) m with _ | _
          · rw [hc] at h; cases h
          · rw [hc] at h
            cases h
            have hle := Nat.le_of_ble_eq_true hc
            obtain ⟨g1, g2⟩ := leafGo_ok l h2 (fun q hq => hp q (List.mem_cons_of_mem _ hq))
            have g3 := hp p List.mem_cons_self ks1 h1
            rw [e] at g3
            refine ⟨by omega, ?_⟩
            have : (cs.drop off).take (n - off) = (cs.drop off).take (P.cellsOf p.2) ++ (cs.drop (off + P.cellsOf p.2)).take (n - (off + P.cellsOf p.2)) := by
              rw [show n - off = P.cellsOf p.2 + (n - (off + P.cellsOf p.2)) by omega, List.take_add, List.drop_drop]
            rw [this]
            exact g3.append g2
        · cases h
      · cases h
theorem mapM_at {α β : Type} {f : α → Option β} : ∀ {l : List α} {xs : List β}, l.mapM f = some xs → ∀ (i : Nat) (a : α), l[i]? = some a → ∃ y, xs[i]? = some y ∧ f a = some y
  | [], xs, h, i, a, ha => by simp at ha
  | b :: l, xs, h, i, a, ha => by
    rw [List.mapM_cons] at h
    simp only [bind, Option.bind_eq_some_iff, pure, Option.some.injEq] at h
    obtain ⟨y, h1, ys, h2, rfl⟩ := h
    cases i with
    | zero => simp at ha; subst ha; exact ⟨y, rfl, h1⟩
    | succ i =>
      obtain ⟨z, q1, q2⟩ := mapM_at h2 i a (by simpa using ha)
      exact ⟨z, by simpa using q1, q2⟩
theorem weights_all {e : TypeId} : ∀ {ds : List (DataW H)} {i : Nat} {d : DataW H}, ds[i]? = some d → ∀ w ∈ DataW.weights P e d, w ∈ DataW.weightsAll P e ds
  | [], i, d, h, w, hw => by simp at h
  | x :: ds, 0, d, h, w, hw => by
    simp at h; subst h
    simp only [DataW.weightsAll, List.mem_append]
    exact .inl hw
  | x :: ds, i + 1, d, h, w, hw => by
    simp only [DataW.weightsAll, List.mem_append]
    exact .inr (weights_all (by simpa using h) w hw)
theorem leaves_ok : ∀ (d : Nat) (t : TypeId) (ks : List LT), leaves P d t = some ks → ∀ (fuel : Nat) (cs : List Value) (x : DataW H × List MemPlace), DataW.trod enc P W base sp held fuel t cs = some x → Small P t x.1 → LTypeds enc P W base sp held ks cs
  | 0, t, ks, h => by cases h
  | d + 1, t, ks, h => by
    intro fuel cs x hx hs
    cases fuel with
    | zero => simp [DataW.trod] at hx
    | succ n =>
      have hx0 := hx
      unfold leaves at h
      unfold DataW.trod at hx
      split at h
      · rename_i hu
        rw [hu] at hx
        cases h
        split at hx <;> simp_all [LTypeds, LTyped]
      · rename_i k hu
        rw [hu] at hx
        cases h
        match cs, hx with
        | [], hx => simp at hx
        | [c], hx =>
          cases c <;> simp at hx
          rename_i k' m
          obtain ⟨⟨rfl, hw⟩, _⟩ := hx
          refine ⟨⟨m, rfl, ?_⟩, trivial⟩
          simpa [Lit.wf] using hw
        | _ :: _ :: _, hx => simp at hx
      · rename_i hu
        rw [hu] at hx
        cases h
        split at hx <;> simp_all [LTypeds, LTyped]
      · rename_i e hu
        cases h
        have : ∃ c, cs = [c] := by
          rw [hu] at hx
          split at hx <;> simp_all
        obtain ⟨c, rfl⟩ := this
        exact ⟨⟨n + 1, x, hx0, hs⟩, trivial⟩
      · rename_i fs hu
        rw [hu] at hx
        split at h
        · rename_i m ks' hl
          rcases hb : Nat.beq m (P.cellsOf t) with _ | _
          · rw [hb] at h; cases h
          · rw [hb] at h
            cases h
            have hm := Nat.eq_of_beq_eq_true hb
            have key : cs.length = P.cellsOf t ∧ ∃ xs, (fs.toList.mapM fun f => DataW.trod enc P W base sp held n f.type ((cs.drop f.offset).take (P.cellsOf f.type))) = some xs ∧ x.1 = .agg (xs.map (·.1)) := by
              by_cases hc : cs.length = P.cellsOf t
              · simp only [hc, if_true, Option.map_eq_some_iff] at hx
                obtain ⟨xs, h1, rfl⟩ := hx
                exact ⟨hc, xs, h1, rfl⟩
              · simp [hc] at hx
            obtain ⟨hc, xs, h1, h2⟩ := key
            obtain ⟨_, g⟩ := leafGo_ok (cs := cs) _ hl (fun p hp ks2 hk2 => by
              obtain ⟨f, hf, rfl⟩ := List.mem_map.1 hp
              obtain ⟨i, hi⟩ := List.getElem?_of_mem hf
              obtain ⟨y, y1, y2⟩ := mapM_at h1 i f hi
              refine leaves_ok d f.type ks2 hk2 n _ y y2 (fun w hw => hs w ?_)
              rw [h2]
              simp only [DataW.weights, hu]
              exact DataW.weights_mem_each (j := i) (t := f.type) (d := y.1) (by simp [hi]) (by simp [y1]) w hw)
            rw [hm] at g
            simpa [hc.symm] using g
        · cases h
      · rename_i m e hu
        rw [hu] at hx
        split at h
        · rename_i q ks' hl
          rcases hb : Nat.beq q (P.cellsOf t) with _ | _
          · rw [hb] at h; cases h
          · rw [hb] at h
            cases h
            have hm := Nat.eq_of_beq_eq_true hb
            have key : cs.length = P.cellsOf t ∧ ∃ xs, ((List.range m).mapM fun i => DataW.trod enc P W base sp held n e ((cs.drop (i * P.cellsOf e)).take (P.cellsOf e))) = some xs ∧ x.1 = .agg (xs.map (·.1)) := by
              by_cases hc : cs.length = P.cellsOf t
              · simp only [hc, if_true, Option.map_eq_some_iff] at hx
                obtain ⟨xs, h1, rfl⟩ := hx
                exact ⟨hc, xs, h1, rfl⟩
              · simp [hc] at hx
            obtain ⟨hc, xs, h1, h2⟩ := key
            obtain ⟨_, g⟩ := leafGo_ok (cs := cs) _ hl (fun p hp ks2 hk2 => by
              obtain ⟨i, hi, rfl⟩ := List.mem_map.1 hp
              obtain ⟨j, hj⟩ := List.getElem?_of_mem hi
              obtain ⟨y, y1, y2⟩ := mapM_at h1 j i hj
              refine leaves_ok d e ks2 hk2 n _ y y2 (fun w hw => hs w ?_)
              rw [h2]
              simp only [DataW.weights, hu]
              exact weights_all (i := j) (d := y.1) (by simp [y1]) w hw)
            rw [hm] at g
            simpa [hc.symm] using g
        · cases h
      · cases h
end
end
end Go.Eng
/- The engine, twenty-ninth part: slices of the call's, as blocks that are only read. -/
namespace Go.Eng
open Go Go.RowKit
set_option linter.unusedVariables false
set_option linter.unusedSimpArgs false
noncomputable section
/-- What is known of a slice that came in. -/
def SlIn (W : World) (st : Nat) (c : Value) (n cap : Nat) (k : AC) : Prop :=
  (n = 0 ∧ cap = 0 ∧ k.none0 = true ∧ (c = .slice none 0 0 ∨ ∃ a, c = .slice (some a) 0 0)) ∨
  ∃ a : Addr, c = .slice (some a) n cap ∧ n ≤ cap ∧ 0 < cap ∧ a.spot = none ∧ (∀ es, k ≠ .map es) ∧ ∃ C t fz, W.heap[a.block]? = some (.cells C t fz) ∧ ∀ i j, k.inb st i j = true → ∃ x, C[a.off + i * st + j]? = some x ∧ VRel (fun _ => none) (k.val st i j) x ∧ x.oneCell' = true
theorem VRel.none {μ : Mu} {v : AV} {x : Value} (h : VRel (fun _ => none) v x) : VRel μ v x := VRel.ext (fun b l h => by cases h) _ _ h
theorem cells_none0 {W : World} {k : AC} {μ : Mu} {st : Nat} {l : Loc} {C : Array Value} {t : TypeId} {fz : Nat × Nat} (hl : l.st = st) (h : W.heap[l.blk]? = some (.cells C t fz)) (hk : k.none0 = true) : BSat μ ⟨false, st, k⟩ l W := by
  refine BSat.of_holds (fz := fz) hl h (fun e => by simp at e) ⟨fun es e => by (subst e; simp [AC.none0] at hk), fun i j hi => ?_⟩
  cases k with
  | cells l => cases l with
    | nil => simp [AC.inb] at hi
    | cons v l => simp [AC.none0] at hk
  | ints q l => cases l with
    | nil => simp [AC.inb] at hi
    | cons v l => simp [AC.none0] at hk
  | recs n f =>
    have := Nat.eq_of_beq_eq_true hk
    subst this
    simp [AC.inb] at hi
  | map es => simp [AC.none0] at hk
  | tr n t => simp [AC.none0] at hk
theorem SlIn.loc {W : World} {st : Nat} {c : Value} {n cap : Nat} {k : AC} (h : SlIn W st c n cap k) {B0 : Nat} {C0 : Array Value} {t0 : TypeId} {fz0 : Nat × Nat} (hB : W.heap[B0]? = some (.cells C0 t0 fz0)) :
    ∃ l : Loc, (∀ μ, BSat μ ⟨false, st, k⟩ l W) ∧ ∀ (μ : Mu) (b : Nat), μ b = some l → VRel μ (.msl b 0 0 n cap) c := by
  rcases h with ⟨rfl, rfl, hk, hc⟩ | ⟨a, rfl, hn, hcap, hs, hm, C, t, fz, hh, hi⟩
  · refine ⟨⟨B0, 0, st, 0⟩, fun μ => cells_none0 rfl hB hk, fun μ b hb => ?_⟩
    rcases hc with rfl | ⟨a, rfl⟩
    · exact .inl ⟨rfl, rfl, rfl⟩
    · exact .inr ⟨_, a, 0, hb, rfl, Nat.le_refl _, Nat.le_refl _, .inr rfl⟩
  · refine ⟨⟨a.block, a.off, st, 0⟩, fun μ => BSat.of_holds (fz := fz) rfl hh (fun e => by simp at e) ⟨hm, fun i j hij => ?_⟩, fun μ b hb => .inr ⟨_, a, cap, hb, rfl, hn, Nat.le_refl _, .inl ?_⟩⟩
    · obtain ⟨x, x1, x2, x3⟩ := hi i j hij
      exact ⟨x, x1, x2.none, x3⟩
    · obtain ⟨ab, ao, as⟩ := a
      simp only [] at hs
      subst hs
      simp [Loc.at]
theorem SlIn.empty {W : World} {st : Nat} {c : Value} {n cap : Nat} {k : AC} (h : SlIn W st c n cap k) (h0 : cap = 0) : n = 0 ∧ ∀ (μ : Mu) (b : Nat) (l : Loc), μ b = some l → VRel μ (.msl b 0 0 0 0) c := by
  rcases h with ⟨rfl, rfl, hk, hc⟩ | ⟨a, rfl, hn, hcap, _⟩
  · refine ⟨rfl, fun μ b l hb => ?_⟩
    rcases hc with rfl | ⟨a, rfl⟩
    · exact .inl ⟨rfl, rfl, rfl⟩
    · exact .inr ⟨_, a, 0, hb, rfl, Nat.le_refl _, Nat.le_refl _, .inr rfl⟩
  · omega
theorem SlIn.block {W : World} {st : Nat} {c : Value} {n cap : Nat} {k : AC} (h : SlIn W st c n cap k) (h0 : cap ≠ 0) : ∃ (B : Nat) (C : Array Value) (t : TypeId) (fz : Nat × Nat), W.heap[B]? = some (.cells C t fz) := by
  rcases h with ⟨rfl, rfl, hk, hc⟩ | ⟨a, rfl, hn, hcap, hs, hm, C, t, fz, hh, hi⟩
  · exact absurd rfl h0
  · exact ⟨a.block, C, t, fz, hh⟩
theorem SlIn.congr {W : World} {st : Nat} {c : Value} {n cap : Nat} {k k' : AC} (h : SlIn W st c n cap k) (h0 : k.none0 = true → k'.none0 = true) (hm : (∀ es, k ≠ .map es) → ∀ es, k' ≠ .map es) (hi : ∀ i j, k'.inb st i j = true → k.inb st i j = true ∧ k'.val st i j = k.val st i j) : SlIn W st c n cap k' := by
  rcases h with ⟨h1, h2, hk, hc⟩ | ⟨a, e, hn, hcap, hs, hm', C, t, fz, hh, hi'⟩
  · exact .inl ⟨h1, h2, h0 hk, hc⟩
  · refine .inr ⟨a, e, hn, hcap, hs, hm hm', C, t, fz, hh, fun i j hij => ?_⟩
    obtain ⟨q1, q2⟩ := hi i j hij
    rw [q2]
    exact hi' i j q1
theorem sat_ro {W : World} {ls : List Loc} {L : LH} {n : Nat} (hl : ls.length = n) (hL : ∀ p ∈ L, p.2.own = false ∧ ∃ l, ls[p.1]? = some l ∧ ∀ μ, BSat μ p.2 l W) : Sat (fun b => ls[b]?) (AH.of n L) W := by
  refine ⟨fun b hb => ?_, fun b k hk => ?_, fun b b' k k' l l' h1 h2 hne ho g1 g2 => ?_⟩
  · rw [AH.of_next] at hb
    exact List.getElem?_eq_none (by omega)
  · obtain ⟨p, hp, rfl, rfl⟩ := AH.of_get hk
    obtain ⟨_, l, q1, q2⟩ := hL p hp
    exact ⟨l, q1, q2 _⟩
  · obtain ⟨p, hp, rfl, rfl⟩ := AH.of_get h1
    rw [(hL p hp).1] at ho
    cases ho
theorem below_of {W W' : World} {B : Nat} {μ μ' : Mu} {n : Nat} {L : LH} {H' : AH} (hL : ∀ p ∈ L, p.2.own = false) (f : Fw B μ (AH.of n L) μ' H' W W') : Below W.heap.size W W' := by
  refine ⟨f.os, f.tape, f.output, f.size, fun k hk => f.same k hk (fun b x l h1 h2 h3 => ?_)⟩
  obtain ⟨p, hp, rfl, rfl⟩ := AH.of_get h1
  rw [hL p hp] at h2
  cases h2
section
variable {H : Type} {enc : TypeId × Value → H} {P : Program} {W : World}
/-- What a cell holds. -/
def avOf : Value → AV
  | .int k n => .int k n
  | .bool b => .bool b
  | .string s => .str s
  | _ => .any
theorem avOf_rel {μ : Mu} (x : Value) : VRel μ (avOf x) x := by
  cases x <;> simp [avOf, VRel]
def intOfV : Value → Int
  | .int _ n => n
  | _ => 0
theorem add_block (a : Addr) (n : Nat) : (a.add n).block = a.block := by
  unfold Addr.add; split <;> rfl
theorem add_off (a : Addr) (n : Nat) : (a.add n).off = a.off + n := by
  unfold Addr.add
  split
  · rename_i h; subst h; rfl
  · rfl
theorem add_zero' (a : Addr) (n : Nat) : (a.add (0 * n)).add 0 = a := by
  rw [Nat.zero_mul]; rfl
theorem cells_at {base : Nat} {a : Addr} {n : Nat} {cs : List Value} (h : W.cells? base a n = some cs) : cs.length = n ∧ ∀ j x, cs[j]? = some x → W.cell? (a.add j) = some x := by
  unfold World.cells? at h
  split at h
  · have hlen : ∀ (l : List Nat) (xs : List Value), (l.mapM fun i => W.cell? (a.add i)) = some xs → xs.length = l.length := by
      intro l
      induction l with
      | nil => intro xs h; simp at h; subst h; rfl
      | cons i l ih =>
        intro xs h
        rw [List.mapM_cons] at h
        simp only [bind, Option.bind_eq_some_iff, pure, Option.some.injEq] at h
        obtain ⟨y, _, ys, h2, rfl⟩ := h
        simp [ih ys h2]
    have e := hlen _ _ h
    refine ⟨by simpa using e, fun j x hx => ?_⟩
    have hj : j < n := by
      have := (List.getElem?_eq_some_iff.1 hx).1
      simp at e; omega
    obtain ⟨y, y1, y2⟩ := mapM_at h j j (by rw [List.getElem?_range hj])
    rw [hx] at y1
    cases y1
    exact y2
  · cases h
theorem cell_block {a : Addr} {x : Value} (h : W.cell? a = some x) : a.spot = none ∧ ∃ C t fz, W.heap[a.block]? = some (.cells C t fz) ∧ C[a.off]? = some x := by
  unfold World.cell? at h
  split at h
  · rename_i C t fz hh
    split at h
    · cases h
    · rename_i hs
      exact ⟨by simpa using hs, C, t, fz, hh, h⟩
  · cases h
theorem oneCell_typed {base : Nat} {sp : Nat → Bool} {held : Bool} {k : LT} {c : Value} (h : LTyped enc P W base sp held k c) (hk : match k with | .sl _ => False | _ => True) : c.oneCell' = true := by
  cases k with
  | i k => obtain ⟨n, rfl, _⟩ := h; rfl
  | b => obtain ⟨b, rfl⟩ := h; rfl
  | s => obtain ⟨s, rfl, _⟩ := h; rfl
  | sl t => exact hk.elim
theorem typed_get {base : Nat} {sp : Nat → Bool} {held : Bool} : ∀ {ks : List LT} {cs : List Value}, LTypeds enc P W base sp held ks cs → ks.length = cs.length ∧ ∀ (j : Nat) (x : Value), cs[j]? = some x → ∃ k, ks[j]? = some k ∧ LTyped enc P W base sp held k x
  | [], [], _ => ⟨rfl, fun j x h => by simp at h⟩
  | k :: ks, c :: cs, h => by
    obtain ⟨q1, q2⟩ := typed_get h.2
    refine ⟨by simp [q1], fun j x hx => ?_⟩
    cases j with
    | zero => simp at hx; subst hx; exact ⟨k, rfl, h.1⟩
    | succ j => exact q2 j x (by simpa using hx)
  | [], _ :: _, h => h.elim
  | _ :: _, [], h => h.elim
/-- A slice of rows of cells. -/
theorem slIn_recs {base : Nat} {held : Bool} {t e : TypeId} {d es : Nat} {ks : List LT} {c : Value} (h : LTyped enc P W base (fun _ => true) held (.sl t) c) (hu : P.underlying t = some (.slice e)) (hks : leaves P d e = some ks) (hn : ks.all (fun k => match k with | .sl _ => false | _ => true) = true) (hes : P.cellsOf e = es) (hes2 : ks.length = es) (he0 : 0 < es) :
    ∃ n cap, ∃ f : Nat → List Value, (∀ i, i < n → LTypeds enc P W base (fun _ => true) held ks (f i)) ∧ SlIn W es c n cap (.recs n fun i => (f i).map avOf) ∧ n ≤ cap ∧ cap * P.bytesOf e ≤ reachBytes := by
  obtain ⟨fuel, x, hx, hs⟩ := h
  rcases DataW.trod_slice hu hx with ⟨hc, _⟩ | ⟨a, len, cap, elems, rest, m, rfl, hc, hxe, hb, hl, hm, hlen, hel, hsp, _⟩
  · simp at hc
    subst hc
    exact ⟨0, 0, fun _ => [], fun i hi => absurd hi (Nat.not_lt_zero i), .inl ⟨rfl, rfl, rfl, .inl rfl⟩, Nat.le_refl _, by simp⟩
  · simp at hc
    subst hc
    obtain ⟨hr1, hr2⟩ := hsp rfl
    have hx1 : x.1 = .slice (elems.map (·.1)) (rest.map (·.1)) := by rw [hxe]
    have hw := hs ((elems.length + rest.length) * P.bytesOf e) (by rw [hx1]; simp [DataW.weights, hu])
    rw [hlen, hr1, show len + (cap - len) = cap by omega] at hw
    rw [hes] at hel hr2
    have each : ∀ i, i < len → ∃ cs y, W.cells? base (a.add (i * es)) es = some cs ∧ DataW.trod enc P W base (fun _ => true) held m e cs = some y ∧ elems[i]? = some y := by
      intro i hi
      have h1 := hel i hi
      rw [List.getElem?_eq_getElem (by omega), Option.bind_eq_some_iff] at h1
      obtain ⟨cs, q1, q2⟩ := h1
      exact ⟨cs, _, q1, q2, List.getElem?_eq_getElem (by omega)⟩
    have first : 0 < cap → ∃ cs, W.cells? base (a.add (0 * es)) es = some cs := by
      intro h0
      rcases Nat.eq_zero_or_pos len with hl0 | hl0
      · have h1 := hr2 0 (by omega)
        rw [hl0, List.getElem?_eq_getElem (by omega), Option.bind_eq_some_iff] at h1
        obtain ⟨cs, q1, _⟩ := h1
        exact ⟨cs, by simpa using q1⟩
      · obtain ⟨cs, _, q1, _⟩ := each 0 hl0
        exact ⟨cs, q1⟩
    refine ⟨len, cap, fun i => (W.cells? base (a.add (i * es)) es).getD [], fun i hi => ?_, ?_, hl, hw⟩
    · obtain ⟨cs, y, q1, q2, q3⟩ := each i hi
      simp only [q1, Option.getD_some]
      refine leaves_ok d e ks hks m cs y q2 (fun w hww => hs w ?_)
      rw [hx1]
      simp only [DataW.weights, hu, List.mem_cons, List.mem_append]
      exact .inr (.inl (weights_all (i := i) (d := y.1) (by simp [q3]) w hww))
    · rcases Nat.eq_zero_or_pos cap with h0 | h0
      · subst h0
        obtain rfl : len = 0 := by omega
        exact .inl ⟨rfl, rfl, rfl, .inr ⟨a, rfl⟩⟩
      · obtain ⟨cs0, c0⟩ := first h0
        obtain ⟨c1, c2⟩ := cells_at c0
        have hx0 : cs0[0]? = some (cs0[0]'(by omega)) := List.getElem?_eq_getElem _
        obtain ⟨s1, C, t1, fz, s2, s3⟩ := cell_block (c2 0 _ hx0)
        rw [add_zero'] at s1 s2
        refine .inr ⟨a, rfl, hl, h0, s1, (fun es e => by cases e), C, t1, fz, s2, fun i j hij => ?_⟩
        have hi : i < len := by simp [AC.inb] at hij; exact hij.1
        have hj : j < es := by simp [AC.inb] at hij; exact hij.2
        obtain ⟨cs, y, q1, q2, q3⟩ := each i hi
        obtain ⟨d1, d2⟩ := cells_at q1
        have hxj : cs[j]? = some (cs[j]'(by omega)) := List.getElem?_eq_getElem _
        obtain ⟨_, C2, t2, fz2, e2, e3⟩ := cell_block (d2 j _ hxj)
        rw [add_block, add_block] at e2
        rw [s2] at e2
        cases e2
        rw [add_off, add_off] at e3
        have ty := leaves_ok d e ks hks m cs y q2 (fun w hww => hs w (by
          rw [hx1]
          simp only [DataW.weights, hu, List.mem_cons, List.mem_append]
          exact .inr (.inl (weights_all (i := i) (d := y.1) (by simp [q3]) w hww))))
        obtain ⟨k, k1, k2⟩ := (typed_get ty).2 j _ hxj
        have hk := List.all_eq_true.1 hn k (List.mem_of_getElem? k1)
        refine ⟨cs[j], e3, ?_, oneCell_typed k2 (by cases k <;> simp_all)⟩
        show VRel _ (((((W.cells? base (a.add (i * es)) es).getD []).map avOf)).getD j .any) _
        rw [q1]
        simp only [Option.getD_some, List.getD_eq_getElem?_getD, List.getElem?_map, hxj, Option.map_some]
        exact avOf_rel _
/-- A slice of numbers. -/
theorem slIn_ints {base : Nat} {held : Bool} {t e : TypeId} {k : IntKind} {c : Value} (h : LTyped enc P W base (fun _ => true) held (.sl t) c) (hu : P.underlying t = some (.slice e)) (he : P.underlying e = some (.int k)) (hc1 : P.cellsOf e = 1) :
    ∃ (l : List Int) (cap : Nat), SlIn W 1 c l.length cap (.ints k l) ∧ l.length ≤ cap ∧ cap * P.bytesOf e ≤ reachBytes ∧ ∀ x ∈ l, k.min ≤ x ∧ x ≤ k.max := by
  obtain ⟨n, cap, f, ty, si, hn, hb⟩ := slIn_recs (d := 1) (ks := [.i k]) h hu (by simp [leaves, he]) rfl hc1 rfl (by omega)
  have val : ∀ i, i < n → ∃ m, f i = [.int k m] ∧ k.min ≤ m ∧ m ≤ k.max := by
    intro i hi
    obtain ⟨x, r, q1, q2, q3⟩ := (ty i hi).cons
    obtain ⟨m, rfl, q4⟩ := q2
    have := q3.nil
    subst this
    exact ⟨m, q1, q4⟩
  refine ⟨(List.range n).map fun i => intOfV ((f i).getD 0 undef), cap, ?_, by simpa using hn, hb, fun x hx => ?_⟩
  · rw [show ((List.range n).map fun i => intOfV ((f i).getD 0 undef)).length = n by simp]
    rcases si with ⟨h1, h2, hk, hc⟩ | ⟨a, ea, hn', hcap, hs, hm, C, t1, fz, hh, hi⟩
    · refine .inl ⟨h1, h2, ?_, hc⟩
      subst h1
      rfl
    · refine .inr ⟨a, ea, hn', hcap, hs, (fun es e => by cases e), C, t1, fz, hh, fun i j hij => ?_⟩
      simp only [AC.inb, Bool.and_eq_true, decide_eq_true_eq, List.length_map, List.length_range] at hij
      have hj : i + j < n := hij.2
      obtain ⟨x, x1, x2, x3⟩ := hi (i + j) 0 (by simp [AC.inb, hj])
      refine ⟨x, ?_, ?_, x3⟩
      · rw [← x1]; congr 1; omega
      · obtain ⟨m, q1, _⟩ := val (i + j) hj
        simp only [AC.val, q1, List.map_cons, List.map_nil, avOf, List.getD_cons_zero] at x2
        have e : (AC.ints k ((List.range n).map fun i => intOfV ((f i).getD 0 undef))).val 1 i j = .int k m := by
          simp only [AC.val]
          rw [List.getD_eq_getElem?_getD, List.getElem?_map, List.getElem?_range hj]
          simp [q1, intOfV]
        rw [e]
        exact x2
  · obtain ⟨i, hi, rfl⟩ := List.mem_map.1 hx
    obtain ⟨m, q1, q2⟩ := val i (by simpa using hi)
    rw [q1]
    exact q2
end
/-- Calls that are not come to. -/
def noK (fs : List FuncId) : OrcK := fun f _ _ _ => bif fs.any (fun g => Nat.beq g f) then some False else none
theorem noK_ok (P : Program) (fs : List FuncId) : OrcKOK P (noK fs) := fun f as H K p h hp => by
  unfold noK at h
  cases hb : fs.any (fun g => Nat.beq g f)
  · rw [hb] at h; cases h
  · rw [hb] at h; cases h; exact hp.elim
end
end Go.Eng
