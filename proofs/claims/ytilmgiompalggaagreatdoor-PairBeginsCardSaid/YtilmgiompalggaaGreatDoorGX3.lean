/- A monitor that is made, of whatever configuration: what is reckoned. No condition. -/
import Derived.Test.YtilmgiompalggaaGreatDoorGX2
import Derived.KernelRfl
import Derived.Test.YtilmgiompalggaaGreatDoorGX1
namespace Go.Proofs.YtilmgiompalggaaGreatDoor.W
open Go Go.RowKit Go.Eng
set_option maxRecDepth 100000
set_option linter.unusedVariables false
set_option linter.unusedSimpArgs false
structure RnI where
  N : Nat
  k : Nat
  s : Bool
def ramNewL (P : Program) : Lp RnI where
  B := 0
  n := ntmpsOf P F_ram_New
  code := loopOf P F_ram_New 0
  fit s H := match s.get 0 with
    | .int _ n => some ⟨n.toNat, 0, false⟩
    | _ => none
  pre i := 1 ≤ i.N ∧ i.N ≤ 512 ∧ i.k ≤ i.N ∧ (i.s = true → 1 ≤ i.k) ∧ (i.s = false → i.k = 0)
  slots i := [(4, .ptr 0 0 0), (5, .sl 1 0 0 (64 * i.N) (64 * i.N) true), (19, .int .i64 i.N), (20, .int .i64 i.k)]
  nx i := 3
  L i := bif i.s then [(0, ⟨true, 1, .cells [.sl 2 0 0 i.k i.k false]⟩), (1, byteB (List.replicate (64 * i.N) 0)), (2, ⟨true, 1, .recs i.k (fun i => [.sl 1 (64 * i) 0 64 64 true])⟩)] else [(0, ⟨true, 1, .cells [.nils]⟩), (1, byteB (List.replicate (64 * i.N) 0))]
  m i := i.N - i.k
  outs i := [(true, ⟨.exit 0, [(4, .ptr 0 0 0)], 3, [(0, ⟨true, 1, .cells [.sl 2 0 0 i.N i.N false]⟩), (1, byteB (List.replicate (64 * i.N) 0)), (2, ⟨true, 1, .recs i.N (fun i => [.sl 1 (64 * i) 0 64 64 true])⟩)]⟩)]
  sh j := { j with s := true }
def ramNewC : Con Nat Unit where
  f := F_ram_New
  fit vs H := match vs with
    | [.int _ n] => some ([], n.toNat)
    | _ => none
  n0 := 0
  pre n := 1 ≤ n ∧ n ≤ 512
  args n := [.int .i64 n]
  L0 _ := []
  outs n := [(fun _ => True, fun _ => (.ret (.tup [.ptr 0 0 0, .int .i64 0]), 3, [(0, ramB 1 n), (1, frameB 2 n), (2, byteB (List.replicate (64 * n) 0))]))]
/-! ### a configuration, and its plan -/
structure CfX where
  F : Nat
  C : Nat
  B : Int
  P : Nat
  S : Nat
  L : Int
  ch : Bool
  key : Int
def CfX.av (x : CfX) : List AV := [.int .i64 x.F, .int .i64 x.C, .int .i64 x.B, .int .i64 x.P, .int .i64 x.S, .int .i64 x.L, .bool x.ch, .int .u32 x.key]
def cfP (x : CfX) : Prop := 1 ≤ x.F ∧ x.F ≤ 64 ∧ 1 ≤ x.C ∧ x.C ≤ 64 ∧ 3 ≤ x.P ∧ x.P ≤ 64 ∧ 1 ≤ x.S ∧ x.S ≤ 8 ∧ 0 ≤ x.key ∧ x.key < 4294967296
def CfX.up (x : CfX) : Nat := x.F + x.C
def CfX.di (x : CfX) : Nat := x.F + x.C + (x.C + 15) / 16
def CfX.po (x : CfX) : Nat := x.di + 2 * x.S
def CfX.en (x : CfX) : Nat := x.po + x.P
def cfOf (cs : List AV) : Option CfX := match cs with
  | [.int _ F, .int _ C, .int _ B, .int _ P, .int _ S, .int _ L, .bool ch, .int _ key] => some ⟨F.toNat, C.toNat, B, P.toNat, S.toNat, L, ch, key⟩
  | _ => none
def plC : Con CfX Unit where
  f := F_monitor_planned
  fit vs H := match vs with
    | [.agg cs] => match cfOf cs with
      | some x => some ([], x)
      | none => none
    | _ => none
  n0 := 0
  pre := cfP
  args x := [.agg x.av]
  L0 _ := []
  outs x := [(fun _ => True, fun _ => (.ret (.agg [.int .i64 x.F, .int .i64 x.up, .int .i64 x.di, .int .i64 x.po, .int .i64 x.en]), 0, []))]
/-! ### the list of a map -/
structure LsX where
  n : Nat
  xs : List Int
def lsC : Con LsX Unit where
  f := F_strew_Map_List
  fit vs H := match vs with
    | [.ptr b _ _] => match H.get b with
      | some k => match k.c with
        | .cells [.sl b1 _ _ n _ _, .map b2] => match H.get b1 with
          | some k1 => match k1.c with
            | .ints _ l => some ([b, b1, b2], ⟨n, l⟩)
            | _ => none
          | none => none
        | _ => none
      | none => none
    | _ => none
  n0 := 3
  pre x := 1 ≤ x.n ∧ x.n ≤ 64 ∧ x.xs.length = x.n
  args x := [.ptr 0 0 0]
  L0 x := [(0, mapB 1 x.n), (1, rowB x.xs)]
  outs x := [(fun _ => True, fun _ => (.ret (.sl 3 0 0 x.n x.n false), 4, [(0, mapB 1 x.n), (1, rowB x.xs), (3, rowB x.xs)]))]
end Go.Proofs.YtilmgiompalggaaGreatDoor.W
/- A monitor that is made, of whatever configuration: the walks. No condition. -/
namespace Go.Proofs.YtilmgiompalggaaGreatDoor.W
open Go Go.RowKit Go.Eng
set_option maxRecDepth 100000
set_option linter.unusedVariables false
set_option linter.unusedSimpArgs false
def ramA_c_V (N k : Nat) : Prop :=
  sp (decide ((↑k : Int) < (↑N : Int))) (sp (decide (0 ≤ IntKind.i64.wrap ((↑k : Int) * 64)) && decide (0 ≤ IntKind.i64.wrap (IntKind.i64.wrap ((↑k : Int) * 64) + 64)) && decide (0 ≤ IntKind.i64.wrap (IntKind.i64.wrap ((↑k : Int) * 64) + 64)) && decide ((IntKind.i64.wrap ((↑k : Int) * 64)).toNat ≤ (IntKind.i64.wrap (IntKind.i64.wrap ((↑k : Int) * 64) + 64)).toNat) && decide ((IntKind.i64.wrap (IntKind.i64.wrap ((↑k : Int) * 64) + 64)).toNat ≤ (IntKind.i64.wrap (IntKind.i64.wrap ((↑k : Int) * 64) + 64)).toNat) && decide ((IntKind.i64.wrap (IntKind.i64.wrap ((↑k : Int) * 64) + 64)).toNat ≤ 64 * N) && true && true && ((0 + (IntKind.i64.wrap ((↑k : Int) * 64)).toNat).beq (0 + (IntKind.i64.wrap ((↑k : Int) * 64)).toNat) && true && ((IntKind.i64.wrap (IntKind.i64.wrap ((↑k : Int) * 64) + 64)).toNat - (IntKind.i64.wrap ((↑k : Int) * 64)).toNat).beq ((IntKind.i64.wrap (IntKind.i64.wrap ((↑k : Int)
  * 64) + 64)).toNat - (IntKind.i64.wrap ((↑k : Int) * 64)).toNat) && ((IntKind.i64.wrap (IntKind.i64.wrap ((↑k : Int) * 64) + 64)).toNat - (IntKind.i64.wrap ((↑k : Int) * 64)).toNat).beq ((IntKind.i64.wrap (IntKind.i64.wrap ((↑k : Int) * 64) + 64)).toNat - (IntKind.i64.wrap ((↑k : Int) * 64)).toNat) && true)) (sp (decide (IntKind.i64.wrap (IntKind.i64.wrap ((↑k : Int) * 64) + 64) = IntKind.i64.wrap (IntKind.i64.wrap ((↑k : Int) * 64) + 64))) (sp (decide (IntKind.i64.wrap ((↑k : Int) * 64) = IntKind.i64.wrap ((↑k : Int) * 64))) (sp (decide (IntKind.i64.wrap (IntKind.i64.wrap ((↑k : Int) * 64) + 64) = IntKind.i64.wrap (IntKind.i64.wrap ((↑k : Int) * 64) + 64))) (sp (decide (IntKind.i64.wrap ((↑k : Int) * 64) = IntKind.i64.wrap ((↑k : Int) * 64))) (sp (decide (IntKind.i64.wrap ((↑k : Int) * 64) = IntKind.i64.wrap ((↑k : Int) * 64))) (sp ((64 * N).beq (64 * N) && (64 * N).beq (64 * N) && true)
  (sp (k.beq k && k.beq k && true) (sp (k.beq k && k.beq k && true) (sp (decide (0 + k ≤ k) && true && true && true && true && decide ((k + 1) * 24 ≤ 140737488355328) && decide (k + 1 ≤ 9223372036854775807)) (∃ (j : RnI), (1 ≤ j.N ∧ j.N ≤ 512 ∧ j.k ≤ j.N ∧ (true = true → 1 ≤ j.k) ∧ (true = false → j.k = 0)) ∧ j.N - j.k < N - k ∧ [(true, LOut.mk (AX.exit 0) [(4, AV.ptr 0 0 0)] 3 [(0, bC [AV.sl 2 0 0 j.N j.N false]), (1, bW ((List.replicate (64 * j.N) (0 : Int)))), (2, ABlk.mk true 1 (AC.recs j.N fun (i : Nat) => [AV.sl 1 (64 * i) 0 64 64 true]))])] = [(true, LOut.mk (AX.exit 0) [(4, AV.ptr 0 0 0)] 3 [(0, bC [AV.sl 2 0 0 N N false]), (1, bW ((List.replicate (64 * N) (0 : Int)))), (2, ABlk.mk true 1 (AC.recs N fun (i : Nat) => [AV.sl 1 (64 * i) 0 64 64 true]))])] ∧ (AV.ptr 0 0 0 = AV.ptr 0 0 0 ∧ AV.sl 1 0 0 (64 * N) (64 * N) true = AV.sl 1 0 0 (64 * j.N) (64 * j.N) true ∧ nI (↑N : Int) = nI
  (↑j.N : Int) ∧ nI (IntKind.i64.wrap ((↑k : Int) + 1)) = nI (↑j.k : Int) ∧ True) ∧ bC (([AV.sl 2 0 0 k k false].set 0 (AV.sl 4 0 0 (k + 1) (k + 1) false))) = bC [AV.sl 4 0 0 j.k j.k false] ∧ bW ((List.replicate (64 * N) (0 : Int))) = bW ((List.replicate (64 * j.N) (0 : Int))) ∧ (true = true ∧ 1 = 1 ∧ k + (List.take 1 (List.drop 0 [AV.sl 1 (0 + (IntKind.i64.wrap ((↑k : Int) * 64)).toNat) 0 ((IntKind.i64.wrap (IntKind.i64.wrap ((↑k : Int) * 64) + 64)).toNat - (IntKind.i64.wrap ((↑k : Int) * 64)).toNat) ((IntKind.i64.wrap (IntKind.i64.wrap ((↑k : Int) * 64) + 64)).toNat - (IntKind.i64.wrap ((↑k : Int) * 64)).toNat) true])).length / 1 = j.k ∧ ∀ (i : Nat), i < k + (List.take 1 (List.drop 0 [AV.sl 1 (0 + (IntKind.i64.wrap ((↑k : Int) * 64)).toNat) 0 ((IntKind.i64.wrap (IntKind.i64.wrap ((↑k : Int) * 64) + 64)).toNat - (IntKind.i64.wrap ((↑k : Int) * 64)).toNat) ((IntKind.i64.wrap
  (IntKind.i64.wrap ((↑k : Int) * 64) + 64)).toNat - (IntKind.i64.wrap ((↑k : Int) * 64)).toNat) true])).length / 1 → (bif i.blt k then [AV.sl 1 (64 * (0 + i)) 0 64 64 true] else List.take 1 (List.drop ((i - k) * 1) (List.take 1 (List.drop 0 [AV.sl 1 (0 + (IntKind.i64.wrap ((↑k : Int) * 64)).toNat) 0 ((IntKind.i64.wrap (IntKind.i64.wrap ((↑k : Int) * 64) + 64)).toNat - (IntKind.i64.wrap ((↑k : Int) * 64)).toNat) ((IntKind.i64.wrap (IntKind.i64.wrap ((↑k : Int) * 64) + 64)).toNat - (IntKind.i64.wrap ((↑k : Int) * 64)).toNat) true])))) = [AV.sl 1 (64 * i) 0 64 64 true]) ∧ True) False) False) False) False) False) False) False) False) False) False) ((AV.ptr 0 0 0 = AV.ptr 0 0 0 ∧ True) ∧ bC [AV.sl 2 0 0 k k false] = bC [AV.sl 2 0 0 N N false] ∧ bW ((List.replicate (64 * N) (0 : Int))) = bW ((List.replicate (64 * N) (0 : Int))) ∧ (true = true ∧ 1 = 1 ∧ k = N ∧ ∀ (i : Nat), i < k → [AV.sl 1 (64 *
  i) 0 64 64 true] = [AV.sl 1 (64 * i) 0 64 64 true]) ∧ True)
theorem ramA_c_e (N k : Nat) : some (ramA_c_V N k) = (some ((ramNewL Go.Proofs.Tryz.prog).body sp Go.Proofs.Tryz.prog noBaseK (drP sp Go.Proofs.Tryz.prog noBaseK) noLo 40 ⟨N, k, true⟩)) := by kernel_rfl
def ramB_c_V (N : Nat) : Prop :=
  sp (decide (0 < (↑N : Int))) (sp (decide (64 ≤ 64 * N) && true && true && true) (sp ((64 * N).beq (64 * N) && (64 * N).beq (64 * N) && true) (∃ (j : RnI), (1 ≤ j.N ∧ j.N ≤ 512 ∧ j.k ≤ j.N ∧ (true = true → 1 ≤ j.k) ∧ (true = false → j.k = 0)) ∧ j.N - j.k < N - 0 ∧ [(true, LOut.mk (AX.exit 0) [(4, AV.ptr 0 0 0)] 3 [(0, bC [AV.sl 2 0 0 j.N j.N false]), (1, bW ((List.replicate (64 * j.N) (0 : Int)))), (2, ABlk.mk true 1 (AC.recs j.N fun (i : Nat) => [AV.sl 1 (64 * i) 0 64 64 true]))])] = [(true, LOut.mk (AX.exit 0) [(4, AV.ptr 0 0 0)] 3 [(0, bC [AV.sl 2 0 0 N N false]), (1, bW ((List.replicate (64 * N) (0 : Int)))), (2, ABlk.mk true 1 (AC.recs N fun (i : Nat) => [AV.sl 1 (64 * i) 0 64 64 true]))])] ∧ (AV.ptr 0 0 0 = AV.ptr 0 0 0 ∧ AV.sl 1 0 0 (64 * N) (64 * N) true = AV.sl 1 0 0 (64 * j.N) (64 * j.N) true ∧ nI (↑N : Int) = nI (↑j.N : Int) ∧ nI 1 = nI (↑j.k : Int) ∧ True) ∧ bC [AV.sl 4 0 0 1 1
  false] = bC [AV.sl 4 0 0 j.k j.k false] ∧ bW ((List.replicate (64 * N) (0 : Int))) = bW ((List.replicate (64 * j.N) (0 : Int))) ∧ (true = true ∧ 1 = 1 ∧ 1 = j.k * 1 ∧ ∀ (i : Nat), i < j.k → ∀ (j : Nat), j < 1 → [AV.sl 1 0 0 64 64 true].getD (i * 1 + j) AV.any = [AV.sl 1 (64 * i) 0 64 64 true].getD j AV.any) ∧ True) False) False) False
theorem ramB_c_e (N : Nat) : some (ramB_c_V N) = (some ((ramNewL Go.Proofs.Tryz.prog).body sp Go.Proofs.Tryz.prog noBaseK (drP sp Go.Proofs.Tryz.prog noBaseK) noLo 40 ⟨N, 0, false⟩)) := by kernel_rfl
set_option maxRecDepth 100000 in
theorem ramB_ok (N : Nat) (h1 : 1 ≤ N) (h2 : N ≤ 512) : ramB_c_V N := by
  unfold ramB_c_V
  refine spI (fun _ => spI (fun _ => spI (fun _ => ⟨⟨N, 1, true⟩, ⟨h1, h2, h1, fun _ => Nat.le_refl _, fun h => by cases h⟩, ?_, rfl, ⟨rfl, rfl, rfl, rfl, trivial⟩, rfl, rfl, ⟨rfl, rfl, rfl, fun i hi j hj => ?_⟩, trivial⟩) (fun h => ?_)) (fun h => ?_)) (fun h => ?_)
  · show N - 1 < N - 0; omega
  · obtain rfl : i = 0 := by have : i < 1 := hi
                             omega
    obtain rfl : j = 0 := by omega
    rfl
  · simp at h
  · simp at h; omega
  · simp at h; omega
set_option maxRecDepth 100000 in
theorem ramA_ok (N k : Nat) (h1 : 1 ≤ N) (h2 : N ≤ 512) (h3 : k ≤ N) (h4 : 1 ≤ k) : ramA_c_V N k := by
  unfold ramA_c_V
  by_cases hk : k < N
  · have e1 : IntKind.wrap .i64 ((k : Int) * 64) = ((64 * k : Nat) : Int) := by rw [IntWalk.i64_in _ (by omega)]; omega
    have e2 : IntKind.wrap .i64 (((64 * k : Nat) : Int) + 64) = ((64 * k + 64 : Nat) : Int) := by rw [IntWalk.i64_in _ (by omega)]; omega
    have e3 : IntKind.wrap .i64 ((k : Int) + 1) = ((k + 1 : Nat) : Int) := by rw [IntWalk.i64_in _ (by omega)]; omega
    rw [e1, e2, e3]
    simp only [Int.toNat_natCast, Nat.zero_add, show 64 * k + 64 - 64 * k = 64 by omega]
    refine spI (fun _ => spI (fun _ => spI (fun _ => spI (fun _ => spI (fun _ => spI (fun _ => spI (fun _ => spI (fun _ => spI (fun _ => spI (fun _ => spI (fun _ => ⟨⟨N, k + 1, true⟩, ⟨h1, h2, hk, fun _ => by show 1 ≤ k + 1; omega, fun h => by cases h⟩, ?_, by simp, by simp, by simp, by simp, ⟨by simp, by simp, by simp, fun i hi => ?_⟩, trivial⟩)
      (fun h => ?_)) (fun h => ?_)) (fun h => ?_)) (fun h => ?_)) (fun h => ?_)) (fun h => ?_)) (fun h => ?_)) (fun h => ?_)) (fun h => ?_)) (fun h => ?_)) (fun h => ?_)
    · show N - (k + 1) < N - k; omega
    · have hi : i < k + 1 := by simpa using hi
      by_cases hik : i < k
      · rw [blt_true hik]; rfl
      · obtain rfl : i = k := by omega
        rw [blt_false hik, Nat.sub_self]; rfl
    all_goals first | (simp at h; done) | (simp at h; omega)
  · obtain rfl : k = N := by omega
    refine spI (fun h => ?_) (fun _ => ?_)
    · simp at h
    · simp
set_option maxRecDepth 100000 in
theorem ramNewL_ok : (ramNewL Go.Proofs.Tryz.prog).OK Go.Proofs.Tryz.prog := by
  refine Lp.ok_of (noBaseK_ok _) (drP_ok hmix _ (noBaseK_ok _)) (noLo_ok _) (by decide) 40 (fun i hi => ?_)
  obtain ⟨N, k, s⟩ := i
  obtain ⟨h1, h2, h3, h4, h5⟩ := hi
  cases s with
  | true =>
    rw [← Option.some.inj (ramA_c_e N k)]
    exact ramA_ok N k h1 h2 h3 (h4 rfl)
  | false =>
    have e : k = 0 := h5 rfl
    rw [e, ← Option.some.inj (ramB_c_e N)]
    exact ramB_ok N h1 h2
def ramNewC_c_V (n : Nat) : Prop :=
  sp (decide ((↑n : Int) < 1)) (∃ (y : Unit), True ∧ False) (sp (bif false then true else decide ((↑n : Int) > 512)) (∃ (y : Unit), True ∧ False) (sp (decide (0 ≤ IntKind.i64.wrap ((↑n : Int) * 64)) && decide (IntKind.i64.wrap ((↑n : Int) * 64) ≤ IntKind.i64.wrap ((↑n : Int) * 64)) && decide (1 * IntKind.i64.wrap ((↑n : Int) * 64) ≤ 281474976710656) && decide (IntKind.i64.wrap ((↑n : Int) * 64) ≤ 9223372036854775807)) (same (loopOf Proofs.Tryz.prog F_ram_New 0) (loopOf Proofs.Tryz.prog F_ram_New 0) ∧ (1 ≤ (↑n : Int).toNat ∧ (↑n : Int).toNat ≤ 512 ∧ 0 ≤ (↑n : Int).toNat ∧ (false = true → 1 ≤ 0) ∧ (false = false → 0 = 0)) ∧ ((AV.ptr 0 0 0 = AV.ptr 0 0 0 ∧ AV.sl 1 0 0 (IntKind.i64.wrap ((↑n : Int) * 64)).toNat (IntKind.i64.wrap ((↑n : Int) * 64)).toNat true = AV.sl 1 0 0 (64 * (↑n : Int).toNat) (64 * (↑n : Int).toNat) true ∧ nI (↑n : Int) = nI (↑(↑n : Int).toNat : Int) ∧ nI 0 = nI 0 ∧ True) ∧
  bC [AV.nils] = bC [AV.nils] ∧ bW ((List.replicate (IntKind.i64.wrap ((↑n : Int) * 64)).toNat 0)) = bW ((List.replicate (64 * (↑n : Int).toNat) 0)) ∧ True) ∧ ∃ (y : Unit), True ∧ [AV.tup [AV.ptr 0 0 0, nI 0]] = [AV.tup [AV.ptr 0 0 0, nI 0]] ∧ bC [AV.sl 2 0 0 (↑n : Int).toNat (↑n : Int).toNat false] = bC [AV.sl 2 0 0 n n false] ∧ (true = true ∧ 1 = 1 ∧ (↑n : Int).toNat = n ∧ ∀ (i : Nat), i < (↑n : Int).toNat → [AV.sl 1 (64 * i) 0 64 64 true] = [AV.sl 1 (64 * i) 0 64 64 true]) ∧ bW ((List.replicate (64 * (↑n : Int).toNat) 0)) = bW ((List.replicate (64 * n) (0 : Int))) ∧ True) False))
theorem ramNewC_c_e (n : Nat) : some (ramNewC_c_V n) = (ramNewC.cond sp Go.Proofs.Tryz.prog (drP sp Go.Proofs.Tryz.prog) (forF F_ram_New ((ramNewL Go.Proofs.Tryz.prog).lo sp Go.Proofs.Tryz.prog (isLoop 6) (loopOf Go.Proofs.Tryz.prog F_ram_New 0)) noLoops) noBaseK 40 2 n) := by kernel_rfl
set_option maxRecDepth 100000 in
theorem ramNewC_ok : ramNewC.OK Go.Proofs.Tryz.prog := by
  refine Con.by hmix (forF_ok (Lp.lo_ok ramNewL_ok rfl) (noLoops_ok _)) (noBaseK_ok _) ramNewC_c_V ramNewC_c_e (fun n hn => ?_)
  have h1 : 1 ≤ n := hn.1
  have h2 : n ≤ 512 := hn.2
  have e1 : IntKind.wrap .i64 ((n : Int) * 64) = ((64 * n : Nat) : Int) := by rw [IntWalk.i64_in _ (by omega)]; omega
  unfold ramNewC_c_V
  rw [e1]
  simp only [Int.toNat_natCast]
  refine spI (fun h => ?_) (fun _ => spI (fun h => ?_) (fun _ => spI (fun _ => ?_) (fun h => ?_)))
  · simp at h; omega
  · simp at h; omega
  · simp [same, h1, h2]
  · simp at h; omega
def plC_c_V (x : CfX) : Prop :=
  ∃ (y : Unit), True ∧ [AV.agg [nI (↑x.F : Int), nI (IntKind.i64.wrap ((↑x.F : Int) + (↑x.C : Int))), nI (IntKind.i64.wrap (IntKind.i64.wrap ((↑x.F : Int) + (↑x.C : Int)) + IntKind.i64.wrap ((IntKind.i64.wrap (IntKind.i64.wrap ((↑x.C : Int) + 16) - 1)).tdiv 16))), nI (IntKind.i64.wrap (IntKind.i64.wrap (IntKind.i64.wrap ((↑x.F : Int) + (↑x.C : Int)) + IntKind.i64.wrap ((IntKind.i64.wrap (IntKind.i64.wrap ((↑x.C : Int) + 16) - 1)).tdiv 16)) + IntKind.i64.wrap (2 * (↑x.S : Int)))), nI (IntKind.i64.wrap (IntKind.i64.wrap (IntKind.i64.wrap (IntKind.i64.wrap ((↑x.F : Int) + (↑x.C : Int)) + IntKind.i64.wrap ((IntKind.i64.wrap (IntKind.i64.wrap ((↑x.C : Int) + 16) - 1)).tdiv 16)) + IntKind.i64.wrap (2 * (↑x.S : Int))) + (↑x.P : Int)))]] = [AV.agg [nI (↑x.F : Int), nI (↑x.up : Int), nI (↑x.di : Int), nI (↑x.po : Int), nI (↑x.en : Int)]] ∧ True
theorem plC_c_e (x : CfX) : some (plC_c_V x) = (plC.cond sp Go.Proofs.Tryz.prog (drPL sp Go.Proofs.Tryz.prog) noLoops noBaseK 40 2 x) := by kernel_rfl
theorem plC_ok : plC.OK Go.Proofs.Tryz.prog := by
  refine Con.byL' hmix (noLoops_ok _) (noBaseK_ok _) plC_c_V plC_c_e (fun x hx => ?_)
  obtain ⟨F, C, B, P, Sp, L, ch, key⟩ := x
  obtain ⟨h1, h2, h3, h4, h5, h6, h7, h8, h9, h10⟩ := hx
  have h1 : 1 ≤ F := h1
  have h2 : F ≤ 64 := h2
  have h3 : 1 ≤ C := h3
  have h4 : C ≤ 64 := h4
  have h6 : P ≤ 64 := h6
  have h8 : Sp ≤ 8 := h8
  unfold plC_c_V
  refine ⟨(), trivial, ?_, trivial⟩
  have a1 : IntKind.i64.wrap ((F : Int) + (C : Int)) = ((F + C : Nat) : Int) := by rw [IntWalk.i64_in _ (by omega)]; omega
  have a2 : IntKind.i64.wrap ((C : Int) + 16) = ((C + 16 : Nat) : Int) := by rw [IntWalk.i64_in _ (by omega)]; omega
  have a3 : IntKind.i64.wrap (((C + 16 : Nat) : Int) - 1) = ((C + 15 : Nat) : Int) := by rw [IntWalk.i64_in _ (by omega)]; omega
  have a4 : ((C + 15 : Nat) : Int).tdiv 16 = (((C + 15) / 16 : Nat) : Int) := by rw [Int.tdiv_eq_ediv_of_nonneg (by omega)]; omega
  have a5 : IntKind.i64.wrap (((C + 15) / 16 : Nat) : Int) = (((C + 15) / 16 : Nat) : Int) := IntWalk.i64_in _ (by omega)
  have a6 : IntKind.i64.wrap (((F + C : Nat) : Int) + (((C + 15) / 16 : Nat) : Int)) = ((F + C + (C + 15) / 16 : Nat) : Int) := by rw [IntWalk.i64_in _ (by omega)]; omega
  have a7 : IntKind.i64.wrap (2 * (Sp : Int)) = ((2 * Sp : Nat) : Int) := by rw [IntWalk.i64_in _ (by omega)]; omega
  have a8 : IntKind.i64.wrap (((F + C + (C + 15) / 16 : Nat) : Int) + ((2 * Sp : Nat) : Int)) = ((F + C + (C + 15) / 16 + 2 * Sp : Nat) : Int) := by rw [IntWalk.i64_in _ (by omega)]; omega
  have a9 : IntKind.i64.wrap (((F + C + (C + 15) / 16 + 2 * Sp : Nat) : Int) + (P : Int)) = ((F + C + (C + 15) / 16 + 2 * Sp + P : Nat) : Int) := by rw [IntWalk.i64_in _ (by omega)]; omega
  simp only [a1, a2, a3, a4, a5, a6, a7, a8, a9]
  rfl
def lsC_c_V (x : LsX) : Prop :=
  sp (decide (0 + x.n ≤ x.xs.length) && (decide ((0 + x.n) * 8 ≤ 140737488355328) && decide (0 + x.n ≤ 9223372036854775807))) (∃ (y : Unit), True ∧ [AV.sl 4 0 0 (0 + x.n) (0 + x.n) false] = [AV.sl 4 0 0 x.n x.n false] ∧ ABlk.mk true 2 (AC.cells [AV.sl 1 0 0 x.n x.n true, AV.map 2]) = ABlk.mk true 2 (AC.cells [AV.sl 1 0 0 x.n x.n true, AV.map 2]) ∧ ABlk.mk true 1 (AC.ints IntKind.i64 x.xs) = ABlk.mk true 1 (AC.ints IntKind.i64 x.xs) ∧ ABlk.mk true 1 (AC.ints IntKind.i64 ([] ++ List.take x.n (List.drop 0 x.xs))) = ABlk.mk true 1 (AC.ints IntKind.i64 x.xs) ∧ True) False
theorem lsC_c_e (x : LsX) : some (lsC_c_V x) = (lsC.cond sp Go.Proofs.Tryz.prog (drPL sp Go.Proofs.Tryz.prog) noLoops noBaseK 40 2 x) := by kernel_rfl
theorem lsC_ok : lsC.OK Go.Proofs.Tryz.prog := by
  refine Con.byL' hmix (noLoops_ok _) (noBaseK_ok _) lsC_c_V lsC_c_e (fun x hx => ?_)
  obtain ⟨n, xs⟩ := x
  obtain ⟨h1, h2, h3⟩ := hx
  have h1 : 1 ≤ n := h1
  have h2 : n ≤ 64 := h2
  have h3 : xs.length = n := h3
  unfold lsC_c_V
  have e : [] ++ List.take n (List.drop 0 xs) = xs := by rw [List.nil_append, List.drop_zero, List.take_of_length_le (by omega)]
  refine spI (fun _ => ⟨(), trivial, by rw [Nat.zero_add], rfl, rfl, by show ABlk.mk true 1 (AC.ints IntKind.i64 ([] ++ List.take n (List.drop 0 xs))) = _; rw [e], trivial⟩) (fun h => ?_)
  have : (decide (0 + n ≤ xs.length) && (decide ((0 + n) * 8 ≤ 140737488355328) && decide (0 + n ≤ 9223372036854775807))) = true := by
    simp only [Bool.and_eq_true, decide_eq_true_eq]; omega
  rw [show (LsX.mk n xs).n = n from rfl, show (LsX.mk n xs).xs = xs from rfl, this] at h; cases h
end Go.Proofs.YtilmgiompalggaaGreatDoor.W
/- A monitor without a guest, of whatever configuration: what is reckoned. No condition. -/
namespace Go.Proofs.YtilmgiompalggaaGreatDoor.W
open Go Go.RowKit Go.Eng
set_option maxRecDepth 100000
set_option linter.unusedVariables false
set_option linter.unusedSimpArgs false
def emB : ABlk := ⟨true, 1, .map []⟩
def hostB (r t m : Nat) : ABlk := ⟨true, 25, .cells [.ptr r 0 0, .ptr t 0 0, nU 0, nU 0, nU 0, nU 0, nU 0, nU 0, nU 0, nU 0, nU 0, nU 0, nU 0, nU 0, nU 0, nU 0, nU 0, nU 0, nU 0, nU 0, .bool false, .bool false, nI 0, nI 0, .map m]⟩
def tlbB (s : Nat) : ABlk := ⟨true, 3, .cells [.sl s 0 0 16 16 true, nI 0, nI 0]⟩
def slotB : ABlk := ⟨true, 4, .recs 16 (fun _ => [.bool false, nU 0, nU 0, nI 0])⟩
def marksB (n a b : Nat) : ABlk := ⟨true, 3, .cells [nI n, .map a, .map b]⟩
def cacheB (r m : Nat) : ABlk := ⟨true, 7, .cells [.ptr r 0 0, .nils, .map m, .nils, nI 0, nI 0, nI 0]⟩
def chainB (r c m : Nat) : ABlk := ⟨true, 3, .cells [.ptr r 0 0, .ptr c 0 0, .map m]⟩
def poolB (a n m : Nat) : ABlk := ⟨true, 6, .cells [.bool true, nI a, nI n, .map m, nI 0, nI 0]⟩
def monB (x : CfX) (g s : AV) : ABlk := ⟨true, 29, .cells (x.av ++ [.ptr 1 0 0, .ptr 4 0 0, .ptr 6 0 0, g, .ptr 9 0 0, .ptr 13 0 0, s, .ptr 16 0 0, .ptr 18 0 0, .ptr 20 0 0, .nils, .nils, nI 0, nI 0, nI 0, nI 0, nI 0, nI 0, nI 0, nI 0, nI 0])⟩
def begL (x : CfX) (g s : AV) (p all : List Int) : LH := [(0, monB x g s), (1, ramB 2 x.en), (2, frameB 3 x.en), (3, byteB all), (4, ramB 5 x.F), (5, frameP 3 x.F (nth p)), (6, mapB 7 x.F), (7, rowB p),
  (9, hostB 1 10 12), (10, tlbB 11), (11, slotB), (12, emB), (13, marksB x.F 14 15), (14, emB), (15, emB), (16, cacheB 18 17), (17, emB), (18, ramB 19 x.C), (19, frameP 3 x.C (nth (rowN x.F 1 x.C))), (20, chainB 18 16 21), (21, emB)]
/-! ### the parts -/
structure PoX where
  a : Nat
  n : Nat
def poC : Con PoX Unit where
  f := F_pool_New
  fit vs H := match vs with
    | [.int _ a, .int _ n] => some ([], ⟨a.toNat, n.toNat⟩)
    | _ => none
  n0 := 0
  pre x := x.a + x.n ≤ 512
  args x := [nI x.a, nI x.n]
  L0 _ := []
  outs x := [(fun _ => True, fun _ => (.ret (.tup [.ptr 0 0 0, nI 0]), 2, [(0, poolB x.a x.n 1), (1, emB)]))]
def sizeF (vs : List AV) (H : AH) : Option (List Nat × Nat) := match vs with
  | .ptr b _ _ :: _ => match H.get b with
    | some k => match k.c with
      | .cells [.sl b1 _ _ n _ _] => some ([b, b1], n)
      | _ => none
    | none => none
  | _ => none
def hoC : Con Nat Unit where
  f := F_host_New
  fit := sizeF
  n0 := 2
  pre n := 1 ≤ n ∧ n ≤ 512
  args _ := [.ptr 0 0 0, nI 16]
  L0 n := [(0, ramB 1 n)]
  outs n := [(fun _ => True, fun _ => (.ret (.tup [.ptr 2 0 0, nI 0]), 6, [(0, ramB 1 n), (2, hostB 0 3 5), (3, tlbB 4), (4, slotB), (5, emB)]))]
def maC : Con Nat Unit where
  f := F_marks_New
  fit vs H := match vs with
    | [.int _ n] => some ([], n.toNat)
    | _ => none
  n0 := 0
  pre n := 1 ≤ n ∧ n ≤ 64
  args n := [nI n]
  L0 _ := []
  outs n := [(fun _ => True, fun _ => (.ret (.tup [.ptr 0 0 0, nI 0]), 3, [(0, marksB n 1 2), (1, emB), (2, emB)]))]
def caC : Con Nat Unit where
  f := F_cache_New
  fit := sizeF
  n0 := 2
  pre n := 1 ≤ n ∧ n ≤ 512
  args _ := [.ptr 0 0 0]
  L0 n := [(0, ramB 1 n)]
  outs n := [(fun _ => True, fun _ => (.ret (.tup [.ptr 2 0 0, nI 0]), 4, [(0, ramB 1 n), (2, cacheB 0 3), (3, emB)]))]
def chC : Con Nat Unit where
  f := F_chain_New
  fit vs H := match vs with
    | [.ptr b _ _, .ptr c _ _] => match H.get b with
      | some k => match k.c with
        | .cells [.sl b1 _ _ n _ _] => some ([b, b1, c], n)
        | _ => none
      | none => none
    | _ => none
  n0 := 3
  pre n := 1 ≤ n ∧ n ≤ 512
  args _ := [.ptr 0 0 0, .ptr 2 0 0]
  L0 n := [(0, ramB 1 n)]
  outs n := [(fun _ => True, fun _ => (.ret (.tup [.ptr 3 0 0, nI 0]), 5, [(0, ramB 1 n), (3, chainB 0 2 4), (4, emB)]))]
def begP (x : CfX) (y : List Int × List Int) : Prop := Gd x.F y.1 ∧ y.2.length = 64 * x.en
def begC : Con CfX (List Int × List Int) where
  f := F_monitor_begun
  fit vs H := match vs with
    | [.agg cs] => match cfOf cs with
      | some x => some ([], x)
      | none => none
    | _ => none
  n0 := 0
  pre := cfP
  args x := [.agg x.av]
  L0 _ := []
  outs x := [(begP x, fun y => (.ret (.ptr 0 0 0), 22, begL x .nilp .nilp y.1 y.2)), (begP x, fun y => (.ret (.ptr 0 0 0), 23, begL x .nilp (.ptr 22 0 0) y.1 y.2))]
end Go.Proofs.YtilmgiompalggaaGreatDoor.W
/- A monitor's parts, made: the walks. No condition. -/
namespace Go.Proofs.YtilmgiompalggaaGreatDoor.W
open Go Go.RowKit Go.Eng
set_option maxRecDepth 100000
set_option linter.unusedVariables false
set_option linter.unusedSimpArgs false
def poC_c_V (x : PoX) : Prop :=
  sp (bif false then true else decide ((↑x.n : Int) > 512)) (∃ (y : Unit), True ∧ False) (sp (bif false then true else decide ((↑x.a : Int) > IntKind.i64.wrap (512 - (↑x.n : Int)))) (∃ (y : Unit), True ∧ False) (∃ (y : Unit), True ∧ [AV.tup [AV.ptr 1 0 0, nI 0]] = [AV.tup [AV.ptr 1 0 0, nI 0]] ∧ ABlk.mk true 6 (AC.cells [AV.bool true, nI (↑x.a : Int), nI (↑x.n : Int), AV.map 0, nI 0, nI 0]) = ABlk.mk true 6 (AC.cells [AV.bool true, nI (↑x.a : Int), nI (↑x.n : Int), AV.map 0, nI 0, nI 0]) ∧ ABlk.mk true 1 (AC.map []) = ABlk.mk true 1 (AC.map []) ∧ True))
theorem poC_c_e (x : PoX) : some (poC_c_V x) = (poC.cond sp Go.Proofs.Tryz.prog (drPL sp Go.Proofs.Tryz.prog) noLoops noBaseK 60 4 x) := by kernel_rfl
def hoC_c_V (n : Nat) : Prop :=
  n.le 512 ∧ [AV.ptr 0 0 0] = [AV.ptr 0 0 0] ∧ (some (bC [AV.sl 1 0 0 n n false]) = some (bC [AV.sl 1 0 0 n n false]) ∧ True) ∧ (∀ (y : Unit), True → sp ((↑(64 * n) : Int) == 0) (∃ (y : Unit), True ∧ False) (∃ (y : Unit), True ∧ [AV.tup [AV.ptr 5 0 0, nI 0]] = [AV.tup [AV.ptr 5 0 0, nI 0]] ∧ bC [AV.sl 1 0 0 n n false] = bC [AV.sl 1 0 0 n n false] ∧ ABlk.mk true 25 (AC.cells [AV.ptr 0 0 0, AV.ptr 3 0 0, nU 0, nU 0, nU 0, nU 0, nU 0, nU 0, nU 0, nU 0, nU 0, nU 0, nU 0, nU 0, nU 0, nU 0, nU 0, nU 0, nU 0, nU 0, AV.bool false, AV.bool false, nI 0, nI 0, AV.map 4]) = ABlk.mk true 25 (AC.cells [AV.ptr 0 0 0, AV.ptr 3 0 0, nU 0, nU 0, nU 0, nU 0, nU 0, nU 0, nU 0, nU 0, nU 0, nU 0, nU 0, nU 0, nU 0, nU 0, nU 0, nU 0, nU 0, nU 0, AV.bool false, AV.bool false, nI 0, nI 0, AV.map 4]) ∧ ABlk.mk true 3 (AC.cells [AV.sl 2 0 0 16 16 true, nI 0, nI 0]) = ABlk.mk true 3 (AC.cells [AV.sl 2 0 0 16 16 true,
  nI 0, nI 0]) ∧ (true = true ∧ 4 = 4 ∧ 16 = 16 ∧ ∀ (i : Nat), i < 16 → [AV.bool false, nU 0, nU 0, nI 0] = [AV.bool false, nU 0, nU 0, nI 0]) ∧ ABlk.mk true 1 (AC.map []) = ABlk.mk true 1 (AC.map []) ∧ True)) ∧ True
theorem hoC_c_e (n : Nat) : some (hoC_c_V n) = (hoC.cond sp Go.Proofs.Tryz.prog (drPL sp Go.Proofs.Tryz.prog) noLoops (sizeC.orc sp) 60 4 n) := by kernel_rfl
def maC_c_V (n : Nat) : Prop :=
  sp (decide ((↑n : Int) < 1)) (∃ (y : Unit), True ∧ False) (sp (bif false then true else decide ((↑n : Int) > 64)) (∃ (y : Unit), True ∧ False) (∃ (y : Unit), True ∧ [AV.tup [AV.ptr 2 0 0, nI 0]] = [AV.tup [AV.ptr 2 0 0, nI 0]] ∧ ABlk.mk true 3 (AC.cells [nI (↑n : Int), AV.map 0, AV.map 1]) = ABlk.mk true 3 (AC.cells [nI (↑n : Int), AV.map 0, AV.map 1]) ∧ ABlk.mk true 1 (AC.map []) = ABlk.mk true 1 (AC.map []) ∧ ABlk.mk true 1 (AC.map []) = ABlk.mk true 1 (AC.map []) ∧ True))
theorem maC_c_e (n : Nat) : some (maC_c_V n) = (maC.cond sp Go.Proofs.Tryz.prog (drPL sp Go.Proofs.Tryz.prog) noLoops noBaseK 60 4 n) := by kernel_rfl
def caC_c_V (n : Nat) : Prop :=
  n.le 512 ∧ [AV.ptr 0 0 0] = [AV.ptr 0 0 0] ∧ (some (bC [AV.sl 1 0 0 n n false]) = some (bC [AV.sl 1 0 0 n n false]) ∧ True) ∧ (∀ (y : Unit), True → sp ((↑(64 * n) : Int) == 0) (∃ (y : Unit), True ∧ False) (∃ (y : Unit), True ∧ [AV.tup [AV.ptr 2 0 0, nI 0]] = [AV.tup [AV.ptr 2 0 0, nI 0]] ∧ bC [AV.sl 1 0 0 n n false] = bC [AV.sl 1 0 0 n n false] ∧ ABlk.mk true 7 (AC.cells [AV.ptr 0 0 0, AV.nils, AV.map 3, AV.nils, nI 0, nI 0, nI 0]) = ABlk.mk true 7 (AC.cells [AV.ptr 0 0 0, AV.nils, AV.map 3, AV.nils, nI 0, nI 0, nI 0]) ∧ ABlk.mk true 1 (AC.map []) = ABlk.mk true 1 (AC.map []) ∧ True)) ∧ True
theorem caC_c_e (n : Nat) : some (caC_c_V n) = (caC.cond sp Go.Proofs.Tryz.prog (drPL sp Go.Proofs.Tryz.prog) noLoops (sizeC.orc sp) 60 4 n) := by kernel_rfl
def chC_c_V (n : Nat) : Prop :=
  n.le 512 ∧ [AV.ptr 0 0 0] = [AV.ptr 0 0 0] ∧ (some (bC [AV.sl 1 0 0 n n false]) = some (bC [AV.sl 1 0 0 n n false]) ∧ True) ∧ (∀ (y : Unit), True → sp ((↑(64 * n) : Int) == 0) (∃ (y : Unit), True ∧ False) (∃ (y : Unit), True ∧ [AV.tup [AV.ptr 4 0 0, nI 0]] = [AV.tup [AV.ptr 4 0 0, nI 0]] ∧ bC [AV.sl 1 0 0 n n false] = bC [AV.sl 1 0 0 n n false] ∧ ABlk.mk true 3 (AC.cells [AV.ptr 0 0 0, AV.ptr 2 0 0, AV.map 3]) = ABlk.mk true 3 (AC.cells [AV.ptr 0 0 0, AV.ptr 2 0 0, AV.map 3]) ∧ ABlk.mk true 1 (AC.map []) = ABlk.mk true 1 (AC.map []) ∧ True)) ∧ True
theorem chC_c_e (n : Nat) : some (chC_c_V n) = (chC.cond sp Go.Proofs.Tryz.prog (drPL sp Go.Proofs.Tryz.prog) noLoops (sizeC.orc sp) 60 4 n) := by kernel_rfl
theorem poC_ok : poC.OK Go.Proofs.Tryz.prog := by
  refine Con.byL' hmix (noLoops_ok _) (noBaseK_ok _) poC_c_V poC_c_e (fun x hx => ?_)
  obtain ⟨a, n⟩ := x
  have h2 : a + n ≤ 512 := hx
  have e1 : IntKind.i64.wrap (512 - (n : Int)) = 512 - (n : Int) := IntWalk.i64_in _ (by omega)
  have d1 : decide ((n : Int) > 512) = false := decide_eq_false (by omega)
  have d2 : decide ((a : Int) > 512 - (n : Int)) = false := decide_eq_false (by omega)
  unfold poC_c_V
  simp only [e1, d1, d2, cond_false, sp]
  repeat' (first | exact h2 | trivial | exact rfl | exact fun _ _ => trivial | exact fun _ _ => rfl | apply And.intro | intro _ _ | refine ⟨(), ?_⟩)
theorem hoC_ok : hoC.OK Go.Proofs.Tryz.prog := by
  refine Con.byL' hmix (noLoops_ok _) (Con.orc_ok sizeC_ok) hoC_c_V hoC_c_e (fun n hx => ?_)
  have h1 : 1 ≤ n := hx.1
  have h2 : n ≤ 512 := hx.2
  have d1 : (((64 * n : Nat) : Int) == 0) = false := by rw [beq_eq_false_iff_ne]; omega
  unfold hoC_c_V
  simp only [d1, sp]
  repeat' (first | exact h2 | trivial | exact rfl | exact fun _ _ => trivial | exact fun _ _ => rfl | apply And.intro | intro _ _ | refine ⟨(), ?_⟩)
theorem maC_ok : maC.OK Go.Proofs.Tryz.prog := by
  refine Con.byL' hmix (noLoops_ok _) (noBaseK_ok _) maC_c_V maC_c_e (fun n hx => ?_)
  have h1 : 1 ≤ n := hx.1
  have h2 : n ≤ 64 := hx.2
  have d1 : decide ((n : Int) < 1) = false := decide_eq_false (by omega)
  have d2 : decide ((n : Int) > 64) = false := decide_eq_false (by omega)
  unfold maC_c_V
  simp only [d1, d2, cond_false, sp]
  repeat' (first | exact h2 | trivial | exact rfl | exact fun _ _ => trivial | exact fun _ _ => rfl | apply And.intro | intro _ _ | refine ⟨(), ?_⟩)
theorem caC_ok : caC.OK Go.Proofs.Tryz.prog := by
  refine Con.byL' hmix (noLoops_ok _) (Con.orc_ok sizeC_ok) caC_c_V caC_c_e (fun n hx => ?_)
  have h1 : 1 ≤ n := hx.1
  have h2 : n ≤ 512 := hx.2
  have d1 : (((64 * n : Nat) : Int) == 0) = false := by rw [beq_eq_false_iff_ne]; omega
  unfold caC_c_V
  simp only [d1, sp]
  repeat' (first | exact h2 | trivial | exact rfl | exact fun _ _ => trivial | exact fun _ _ => rfl | apply And.intro | intro _ _ | refine ⟨(), ?_⟩)
theorem chC_ok : chC.OK Go.Proofs.Tryz.prog := by
  refine Con.byL' hmix (noLoops_ok _) (Con.orc_ok sizeC_ok) chC_c_V chC_c_e (fun n hx => ?_)
  have h1 : 1 ≤ n := hx.1
  have h2 : n ≤ 512 := hx.2
  have d1 : (((64 * n : Nat) : Int) == 0) = false := by rw [beq_eq_false_iff_ne]; omega
  unfold chC_c_V
  simp only [d1, sp]
  repeat' (first | exact h2 | trivial | exact rfl | exact fun _ _ => trivial | exact fun _ _ => rfl | apply And.intro | intro _ _ | refine ⟨(), ?_⟩)
end Go.Proofs.YtilmgiompalggaaGreatDoor.W
/- A monitor without a guest, of whatever configuration: the walk. No condition. -/
namespace Go.Proofs.YtilmgiompalggaaGreatDoor.W
open Go Go.RowKit Go.Eng
set_option maxRecDepth 100000
set_option linter.unusedVariables false
set_option linter.unusedSimpArgs false
theorem spT {b : Bool} {A B : Prop} (hb : b = true) (h : A) : sp b A B := by subst hb; exact h
theorem rowN_getD {a d k i : Nat} (h : i < k) : (rowN a d k).getD i 0 = ((a + i * d : Nat) : Int) := by
  rw [List.getD_eq_getElem?_getD, rowN, List.getElem?_map, List.getElem?_range h]; rfl
theorem rowN_mem {a d k : Nat} {y : Int} (h : y ∈ rowN a d k) : ∃ i, i < k ∧ y = ((a + i * d : Nat) : Int) := by
  obtain ⟨i, hi, e⟩ := List.mem_map.1 h
  exact ⟨i, List.mem_range.1 hi, e.symm⟩
theorem rowN_nodup (a k : Nat) : (rowN a 1 k).Nodup := by
  refine List.Pairwise.map _ (fun i j h e => h ?_) List.nodup_range
  have : ((a + i * 1 : Nat) : Int) = ((a + j * 1 : Nat) : Int) := e
  omega
def begC_c_V (x : CfX) : Prop :=
  (1 ≤ x.F ∧ x.F ≤ 64 ∧ 1 ≤ x.C ∧ x.C ≤ 64 ∧ 3 ≤ x.P ∧ x.P ≤ 64 ∧ 1 ≤ x.S ∧ x.S ≤ 8 ∧ 0 ≤ x.key ∧ x.key < 4294967296) ∧ [AV.agg [nI (↑x.F : Int), nI (↑x.C : Int), nI x.B, nI (↑x.P : Int), nI (↑x.S : Int), nI x.L, AV.bool x.ch, nU x.key]] = [AV.agg [nI (↑x.F : Int), nI (↑x.C : Int), nI x.B, nI (↑x.P : Int), nI (↑x.S : Int), nI x.L, AV.bool x.ch, nU x.key]] ∧ True ∧ (∀ (y : Unit), True → (1 ≤ x.en ∧ x.en ≤ 512) ∧ [nI (↑x.en : Int)] = [nI (↑x.en : Int)] ∧ True ∧ (∀ (y : Unit), True → (1 ≤ x.F ∧ x.F ≤ 64 ∧ 0 ≤ x.key ∧ x.key < 4294967296) ∧ [nI (↑x.F : Int), nI 0, nU x.key] = [nI (↑x.F : Int), nI 0, nU x.key] ∧ True ∧ (∀ (y : List Int), (y.length = x.F ∧ (∀ (i : Nat), i < x.F → 0 ≤ y.getD i 0 ∧ y.getD i 0 < (↑x.F : Int)) ∧ ∀ (i j : Nat), i < x.F → j < x.F → y.getD i 0 = y.getD j 0 → i = j) → (1 ≤ x.F ∧ x.F ≤ 64 ∧ y.length = x.F) ∧ [AV.ptr 8 0 0] = [AV.ptr 8 0 0] ∧ (some (ABlk.mk true 2 (AC.cells
  [AV.sl 6 0 0 x.F x.F true, AV.map 7])) = some (ABlk.mk true 2 (AC.cells [AV.sl 6 0 0 x.F x.F true, AV.map 7])) ∧ some (ABlk.mk true 1 (AC.ints IntKind.i64 y)) = some (ABlk.mk true 1 (AC.ints IntKind.i64 y)) ∧ True) ∧ (∀ (y_1 : Unit), True → (1 ≤ x.en ∧ x.en ≤ 512 ∧ 1 ≤ y.length ∧ y.length ≤ 512 ∧ (∀ (y_2 : Int), List.Mem y_2 y → 0 ≤ y_2 ∧ y_2 < (↑x.en : Int)) ∧ List.Pairwise (fun (x1 x2 : Int) => x1 ≠ x2) y) ∧ [AV.ptr 3 0 0, AV.sl 9 0 0 x.F x.F false] = [AV.ptr 3 0 0, AV.sl 9 0 0 y.length y.length false] ∧ (some (bC [AV.sl 4 0 0 x.en x.en false]) = some (bC [AV.sl 4 0 0 x.en x.en false]) ∧ some (ABlk.mk true 1 (AC.recs x.en fun (i : Nat) => [AV.sl 5 (64 * i) 0 64 64 true])) = some (ABlk.mk true 1 (AC.recs x.en fun (i : Nat) => [AV.sl 5 (64 * i) 0 64 64 true])) ∧ some (ABlk.mk true 1 (AC.ints IntKind.i64 y)) = some (ABlk.mk true 1 (AC.ints IntKind.i64 y)) ∧ True) ∧ (∀ (y_2 : Unit), True →
  sp (decide ((↑x.C : Int) = (↑x.C : Int))) (sp (decide ((↑x.F : Int) = (↑x.F : Int))) ((1 ≤ x.C ∧ x.F ≤ 512 ∧ x.C ≤ 64 ∧ 1 ≤ 2) ∧ [nI (↑x.F : Int), nI (↑x.C : Int), nI 1] = [nI (↑x.F : Int), nI (↑x.C : Int), nI 1] ∧ True ∧ (∀ (y_3 : Unit), True → (1 ≤ x.en ∧ x.en ≤ 512 ∧ 1 ≤ (rowN x.F 1 x.C).length ∧ (rowN x.F 1 x.C).length ≤ 512 ∧ (∀ (y : Int), List.Mem y (rowN x.F 1 x.C) → 0 ≤ y ∧ y < (↑x.en : Int)) ∧ List.Pairwise (fun (x1 x2 : Int) => x1 ≠ x2) (rowN x.F 1 x.C)) ∧ [AV.ptr 3 0 0, AV.sl 12 0 0 x.C x.C false] = [AV.ptr 3 0 0, AV.sl 12 0 0 (rowN x.F 1 x.C).length (rowN x.F 1 x.C).length false] ∧ (some (bC [AV.sl 4 0 0 x.en x.en false]) = some (bC [AV.sl 4 0 0 x.en x.en false]) ∧ some (ABlk.mk true 1 (AC.recs x.en fun (i : Nat) => [AV.sl 5 (64 * i) 0 64 64 true])) = some (ABlk.mk true 1 (AC.recs x.en fun (i : Nat) => [AV.sl 5 (64 * i) 0 64 64 true])) ∧ some (ABlk.mk true 1 (AC.ints
  IntKind.i64 (rowN x.F 1 x.C))) = some (ABlk.mk true 1 (AC.ints IntKind.i64 (rowN x.F 1 x.C))) ∧ True) ∧ (∀ (y_4 : Unit), True → (x.po + x.P).le 512 ∧ [nI (↑x.po : Int), nI (↑x.P : Int)] = [nI (↑x.po : Int), nI (↑x.P : Int)] ∧ True ∧ (∀ (y_5 : Unit), True → sp (decide ((↑x.F : Int) = (↑x.F : Int)) && (decide ((↑x.up : Int) = (↑x.up : Int)) && (decide ((↑x.di : Int) = (↑x.di : Int)) && (decide ((↑x.po : Int) = (↑x.po : Int)) && (decide ((↑x.en : Int) = (↑x.en : Int)) && true))))) (sp (decide ((↑x.S : Int) = (↑x.S : Int))) (sp (decide ((↑x.di : Int) = (↑x.di : Int))) ((1 ≤ x.S ∧ x.di ≤ 512 ∧ x.S ≤ 64 ∧ 2 ≤ 2) ∧ [nI (↑x.di : Int), nI (↑x.S : Int), nI 2] = [nI (↑x.di : Int), nI (↑x.S : Int), nI 2] ∧ True ∧ (∀ (y_6 : Unit), True → sp (decide ((↑x.F : Int) = (↑x.F : Int)) && (decide ((↑x.up : Int) = (↑x.up : Int)) && (decide ((↑x.di : Int) = (↑x.di : Int)) && (decide ((↑x.po : Int) = (↑x.po :
  Int)) && (decide ((↑x.en : Int) = (↑x.en : Int)) && true))))) (((x.en ≤ 512 ∧ x.F < x.up ∧ x.up ≤ x.F + 64 ∧ x.up ≤ 400) ∧ (List.replicate (64 * x.en) (0 : Int)).length = 64 * x.en) ∧ [AV.agg [nI (↑x.F : Int), nI (↑x.up : Int), nI (↑x.di : Int), nI (↑x.po : Int), nI (↑x.en : Int)], AV.ptr 3 0 0] = [AV.agg [nI (↑x.F : Int), nI (↑x.up : Int), nI (↑x.di : Int), nI (↑x.po : Int), nI (↑x.en : Int)], AV.ptr 3 0 0] ∧ (some (bC [AV.sl 4 0 0 x.en x.en false]) = some (bC [AV.sl 4 0 0 x.en x.en false]) ∧ some (ABlk.mk true 1 (AC.recs x.en fun (i : Nat) => [AV.sl 5 (64 * i) 0 64 64 true])) = some (ABlk.mk true 1 (AC.recs x.en fun (i : Nat) => [AV.sl 5 (64 * i) 0 64 64 true])) ∧ some (bW ((List.replicate (64 * x.en) (0 : Int)))) = some (bW ((List.replicate (64 * x.en) (0 : Int)))) ∧ True) ∧ (∀ (y_7 : List Int × List Int), y_7.fst.length ≤ 64 ∧ 1 ≤ y_7.fst.length ∧ y_7.snd.length = 64 * x.en → ((x.en ≤
  512 ∧ 1 ≤ (rowN x.di 2 x.S).length ∧ (rowN x.di 2 x.S).length ≤ 8 ∧ (∀ (i : Nat), i < (rowN x.di 2 x.S).length → 0 ≤ (rowN x.di 2 x.S).getD i 0 ∧ (rowN x.di 2 x.S).getD i 0 ≤ 512) ∧ 1 ≤ y_7.fst.length ∧ y_7.fst.length ≤ 64) ∧ y_7.snd.length = 64 * x.en) ∧ [AV.ptr 3 0 0, AV.sl 17 0 0 x.S x.S false, AV.ptr 15 0 0, AV.sl 18 0 0 y_7.fst.length y_7.fst.length false] = [AV.ptr 3 0 0, AV.sl 17 0 0 (rowN x.di 2 x.S).length (rowN x.di 2 x.S).length false, AV.ptr 15 0 0, AV.sl 18 0 0 y_7.fst.length y_7.fst.length false] ∧ (some (bC [AV.sl 4 0 0 x.en x.en false]) = some (bC [AV.sl 4 0 0 x.en x.en false]) ∧ some (ABlk.mk true 1 (AC.recs x.en fun (i : Nat) => [AV.sl 5 (64 * i) 0 64 64 true])) = some (ABlk.mk true 1 (AC.recs x.en fun (i : Nat) => [AV.sl 5 (64 * i) 0 64 64 true])) ∧ some (bW y_7.snd) = some (bW y_7.snd) ∧ some (ABlk.mk true 1 (AC.ints IntKind.i64 (rowN x.di 2 x.S))) = some (ABlk.mk true
  1 (AC.ints IntKind.i64 (rowN x.di 2 x.S))) ∧ some (ABlk.mk true 1 (AC.ints IntKind.u32 y_7.fst)) = some (ABlk.mk true 1 (AC.ints IntKind.u32 y_7.fst)) ∧ True) ∧ (∀ (y_8 : List Int × Int), y_8.fst.length = 64 * x.en → sp (decide (y_8.snd = y_8.snd)) (sp (decide (y_8.snd = y_8.snd) && true) (sp (decide (y_8.snd = y_8.snd)) ((1 ≤ x.en ∧ x.en ≤ 512) ∧ [AV.ptr 3 0 0, nI 16] = [AV.ptr 3 0 0, nI 16] ∧ (some (bC [AV.sl 4 0 0 x.en x.en false]) = some (bC [AV.sl 4 0 0 x.en x.en false]) ∧ True) ∧ (∀ (y_9 : Unit), True → (1 ≤ x.F ∧ x.F ≤ 64) ∧ [nI (↑x.F : Int)] = [nI (↑x.F : Int)] ∧ True ∧ (∀ (y_10 : Unit), True → (1 ≤ (rowN x.F 1 x.C).length ∧ (rowN x.F 1 x.C).length ≤ 512) ∧ [AV.ptr 13 0 0] = [AV.ptr 13 0 0] ∧ (some (bC [AV.sl 14 0 0 (rowN x.F 1 x.C).length (rowN x.F 1 x.C).length false]) = some (bC [AV.sl 14 0 0 (rowN x.F 1 x.C).length (rowN x.F 1 x.C).length false]) ∧ True) ∧ (∀ (y_11 : Unit),
  True → (1 ≤ (rowN x.F 1 x.C).length ∧ (rowN x.F 1 x.C).length ≤ 512) ∧ [AV.ptr 13 0 0, AV.ptr 26 0 0] = [AV.ptr 13 0 0, AV.ptr 26 0 0] ∧ (some (bC [AV.sl 14 0 0 (rowN x.F 1 x.C).length (rowN x.F 1 x.C).length false]) = some (bC [AV.sl 14 0 0 (rowN x.F 1 x.C).length (rowN x.F 1 x.C).length false]) ∧ True) ∧ (∀ (y_12 : Unit), True → (∃ (y_13 : List Int × List Int), ((y_13.fst.length = x.F ∧ (∀ (i : Nat), i < x.F → 0 ≤ y_13.fst.getD i 0 ∧ y_13.fst.getD i 0 < (↑x.F : Int)) ∧ ∀ (i j : Nat), i < x.F → j < x.F → y_13.fst.getD i 0 = y_13.fst.getD j 0 → i = j) ∧ y_13.snd.length = 64 * x.en) ∧ [AV.ptr 2 0 0] = [AV.ptr 2 0 0] ∧ ABlk.mk true 29 (AC.cells [nI (↑x.F : Int), nI (↑x.C : Int), nI x.B, nI (↑x.P : Int), nI (↑x.S : Int), nI x.L, AV.bool x.ch, nU x.key, AV.ptr 3 0 0, AV.ptr 10 0 0, AV.ptr 8 0 0, AV.nilp, AV.ptr 19 0 0, AV.ptr 23 0 0, AV.nilp, AV.ptr 26 0 0, AV.ptr 13 0 0, AV.ptr 28 0 0,
  AV.nils, AV.nils, nI 0, nI 0, nI 0, nI 0, nI 0, nI 0, nI 0, nI 0, nI 0]) = ABlk.mk true 29 (AC.cells [nI (↑x.F : Int), nI (↑x.C : Int), nI x.B, nI (↑x.P : Int), nI (↑x.S : Int), nI x.L, AV.bool x.ch, nU x.key, AV.ptr 3 0 0, AV.ptr 10 0 0, AV.ptr 8 0 0, AV.nilp, AV.ptr 19 0 0, AV.ptr 23 0 0, AV.nilp, AV.ptr 26 0 0, AV.ptr 13 0 0, AV.ptr 28 0 0, AV.nils, AV.nils, nI 0, nI 0, nI 0, nI 0, nI 0, nI 0, nI 0, nI 0, nI 0]) ∧ bC [AV.sl 4 0 0 x.en x.en false] = bC [AV.sl 4 0 0 x.en x.en false] ∧ (true = true ∧ 1 = 1 ∧ x.en = x.en ∧ ∀ (i : Nat), i < x.en → [AV.sl 5 (64 * i) 0 64 64 true] = [AV.sl 5 (64 * i) 0 64 64 true]) ∧ bW y_8.fst = bW y_13.snd ∧ bC [AV.sl 11 0 0 y.length y.length false] = bC [AV.sl 11 0 0 x.F x.F false] ∧ (true = true ∧ 1 = 1 ∧ y.length = x.F ∧ ∀ (i : Nat), i < y.length → [AV.sl 5 (64 * nth y i) 0 64 64 true] = [AV.sl 5 (64 * nth y_13.fst i) 0 64 64 true]) ∧ ABlk.mk true 2
  (AC.cells [AV.sl 6 0 0 x.F x.F true, AV.map 7]) = ABlk.mk true 2 (AC.cells [AV.sl 6 0 0 x.F x.F true, AV.map 7]) ∧ ABlk.mk true 1 (AC.ints IntKind.i64 y) = ABlk.mk true 1 (AC.ints IntKind.i64 y_13.fst) ∧ ABlk.mk true 25 (AC.cells [AV.ptr 3 0 0, AV.ptr 20 0 0, nU 0, nU 0, nU 0, nU 0, nU 0, nU 0, nU 0, nU 0, nU 0, nU 0, nU 0, nU 0, nU 0, nU 0, nU 0, nU 0, nU 0, nU 0, AV.bool false, AV.bool false, nI 0, nI 0, AV.map 22]) = ABlk.mk true 25 (AC.cells [AV.ptr 3 0 0, AV.ptr 20 0 0, nU 0, nU 0, nU 0, nU 0, nU 0, nU 0, nU 0, nU 0, nU 0, nU 0, nU 0, nU 0, nU 0, nU 0, nU 0, nU 0, nU 0, nU 0, AV.bool false, AV.bool false, nI 0, nI 0, AV.map 22]) ∧ ABlk.mk true 3 (AC.cells [AV.sl 21 0 0 16 16 true, nI 0, nI 0]) = ABlk.mk true 3 (AC.cells [AV.sl 21 0 0 16 16 true, nI 0, nI 0]) ∧ (true = true ∧ 4 = 4 ∧ 16 = 16 ∧ ∀ (i : Nat), i < 16 → [AV.bool false, nU 0, nU 0, nI 0] = [AV.bool false, nU 0, nU 0, nI 0])
  ∧ ABlk.mk true 1 (AC.map []) = ABlk.mk true 1 (AC.map []) ∧ ABlk.mk true 3 (AC.cells [nI (↑x.F : Int), AV.map 24, AV.map 25]) = ABlk.mk true 3 (AC.cells [nI (↑x.F : Int), AV.map 24, AV.map 25]) ∧ ABlk.mk true 1 (AC.map []) = ABlk.mk true 1 (AC.map []) ∧ ABlk.mk true 1 (AC.map []) = ABlk.mk true 1 (AC.map []) ∧ ABlk.mk true 7 (AC.cells [AV.ptr 13 0 0, AV.nils, AV.map 27, AV.nils, nI 0, nI 0, nI 0]) = ABlk.mk true 7 (AC.cells [AV.ptr 13 0 0, AV.nils, AV.map 27, AV.nils, nI 0, nI 0, nI 0]) ∧ ABlk.mk true 1 (AC.map []) = ABlk.mk true 1 (AC.map []) ∧ bC [AV.sl 14 0 0 (rowN x.F 1 x.C).length (rowN x.F 1 x.C).length false] = bC [AV.sl 14 0 0 x.C x.C false] ∧ (true = true ∧ 1 = 1 ∧ (rowN x.F 1 x.C).length = x.C ∧ ∀ (i : Nat), i < (rowN x.F 1 x.C).length → [AV.sl 5 (64 * nth (rowN x.F 1 x.C) i) 0 64 64 true] = [AV.sl 5 (64 * nth (rowN x.F 1 x.C) i) 0 64 64 true]) ∧ ABlk.mk true 3 (AC.cells [AV.ptr
  13 0 0, AV.ptr 26 0 0, AV.map 29]) = ABlk.mk true 3 (AC.cells [AV.ptr 13 0 0, AV.ptr 26 0 0, AV.map 29]) ∧ ABlk.mk true 1 (AC.map []) = ABlk.mk true 1 (AC.map []) ∧ True) ∨ ∃ (y_13 : List Int × List Int), ((y_13.fst.length = x.F ∧ (∀ (i : Nat), i < x.F → 0 ≤ y_13.fst.getD i 0 ∧ y_13.fst.getD i 0 < (↑x.F : Int)) ∧ ∀ (i j : Nat), i < x.F → j < x.F → y_13.fst.getD i 0 = y_13.fst.getD j 0 → i = j) ∧ y_13.snd.length = 64 * x.en) ∧ [AV.ptr 2 0 0] = [AV.ptr 2 0 0] ∧ ABlk.mk true 29 (AC.cells [nI (↑x.F : Int), nI (↑x.C : Int), nI x.B, nI (↑x.P : Int), nI (↑x.S : Int), nI x.L, AV.bool x.ch, nU x.key, AV.ptr 3 0 0, AV.ptr 10 0 0, AV.ptr 8 0 0, AV.nilp, AV.ptr 19 0 0, AV.ptr 23 0 0, AV.nilp, AV.ptr 26 0 0, AV.ptr 13 0 0, AV.ptr 28 0 0, AV.nils, AV.nils, nI 0, nI 0, nI 0, nI 0, nI 0, nI 0, nI 0, nI 0, nI 0]) = ABlk.mk true 29 (AC.cells [nI (↑x.F : Int), nI (↑x.C : Int), nI x.B, nI (↑x.P : Int), nI
  (↑x.S : Int), nI x.L, AV.bool x.ch, nU x.key, AV.ptr 3 0 0, AV.ptr 10 0 0, AV.ptr 8 0 0, AV.nilp, AV.ptr 19 0 0, AV.ptr 23 0 0, AV.ptr 30 0 0, AV.ptr 26 0 0, AV.ptr 13 0 0, AV.ptr 28 0 0, AV.nils, AV.nils, nI 0, nI 0, nI 0, nI 0, nI 0, nI 0, nI 0, nI 0, nI 0]) ∧ bC [AV.sl 4 0 0 x.en x.en false] = bC [AV.sl 4 0 0 x.en x.en false] ∧ (true = true ∧ 1 = 1 ∧ x.en = x.en ∧ ∀ (i : Nat), i < x.en → [AV.sl 5 (64 * i) 0 64 64 true] = [AV.sl 5 (64 * i) 0 64 64 true]) ∧ bW y_8.fst = bW y_13.snd ∧ bC [AV.sl 11 0 0 y.length y.length false] = bC [AV.sl 11 0 0 x.F x.F false] ∧ (true = true ∧ 1 = 1 ∧ y.length = x.F ∧ ∀ (i : Nat), i < y.length → [AV.sl 5 (64 * nth y i) 0 64 64 true] = [AV.sl 5 (64 * nth y_13.fst i) 0 64 64 true]) ∧ ABlk.mk true 2 (AC.cells [AV.sl 6 0 0 x.F x.F true, AV.map 7]) = ABlk.mk true 2 (AC.cells [AV.sl 6 0 0 x.F x.F true, AV.map 7]) ∧ ABlk.mk true 1 (AC.ints IntKind.i64 y) =
  ABlk.mk true 1 (AC.ints IntKind.i64 y_13.fst) ∧ ABlk.mk true 25 (AC.cells [AV.ptr 3 0 0, AV.ptr 20 0 0, nU 0, nU 0, nU 0, nU 0, nU 0, nU 0, nU 0, nU 0, nU 0, nU 0, nU 0, nU 0, nU 0, nU 0, nU 0, nU 0, nU 0, nU 0, AV.bool false, AV.bool false, nI 0, nI 0, AV.map 22]) = ABlk.mk true 25 (AC.cells [AV.ptr 3 0 0, AV.ptr 20 0 0, nU 0, nU 0, nU 0, nU 0, nU 0, nU 0, nU 0, nU 0, nU 0, nU 0, nU 0, nU 0, nU 0, nU 0, nU 0, nU 0, nU 0, nU 0, AV.bool false, AV.bool false, nI 0, nI 0, AV.map 22]) ∧ ABlk.mk true 3 (AC.cells [AV.sl 21 0 0 16 16 true, nI 0, nI 0]) = ABlk.mk true 3 (AC.cells [AV.sl 21 0 0 16 16 true, nI 0, nI 0]) ∧ (true = true ∧ 4 = 4 ∧ 16 = 16 ∧ ∀ (i : Nat), i < 16 → [AV.bool false, nU 0, nU 0, nI 0] = [AV.bool false, nU 0, nU 0, nI 0]) ∧ ABlk.mk true 1 (AC.map []) = ABlk.mk true 1 (AC.map []) ∧ ABlk.mk true 3 (AC.cells [nI (↑x.F : Int), AV.map 24, AV.map 25]) = ABlk.mk true 3 (AC.cells
  [nI (↑x.F : Int), AV.map 24, AV.map 25]) ∧ ABlk.mk true 1 (AC.map []) = ABlk.mk true 1 (AC.map []) ∧ ABlk.mk true 1 (AC.map []) = ABlk.mk true 1 (AC.map []) ∧ ABlk.mk true 7 (AC.cells [AV.ptr 13 0 0, AV.nils, AV.map 27, AV.nils, nI 0, nI 0, nI 0]) = ABlk.mk true 7 (AC.cells [AV.ptr 13 0 0, AV.nils, AV.map 27, AV.nils, nI 0, nI 0, nI 0]) ∧ ABlk.mk true 1 (AC.map []) = ABlk.mk true 1 (AC.map []) ∧ bC [AV.sl 14 0 0 (rowN x.F 1 x.C).length (rowN x.F 1 x.C).length false] = bC [AV.sl 14 0 0 x.C x.C false] ∧ (true = true ∧ 1 = 1 ∧ (rowN x.F 1 x.C).length = x.C ∧ ∀ (i : Nat), i < (rowN x.F 1 x.C).length → [AV.sl 5 (64 * nth (rowN x.F 1 x.C) i) 0 64 64 true] = [AV.sl 5 (64 * nth (rowN x.F 1 x.C) i) 0 64 64 true]) ∧ ABlk.mk true 3 (AC.cells [AV.ptr 13 0 0, AV.ptr 26 0 0, AV.map 29]) = ABlk.mk true 3 (AC.cells [AV.ptr 13 0 0, AV.ptr 26 0 0, AV.map 29]) ∧ ABlk.mk true 1 (AC.map []) = ABlk.mk true 1
  (AC.map []) ∧ True) ∧ True) ∧ True) ∧ True) ∧ True) False) False) False) ∧ (∀ (y_8 : List Int × Int), y_8.fst.length = 64 * x.en → (1 ≤ x.en ∧ x.en ≤ 512) ∧ [AV.ptr 3 0 0, nI 16] = [AV.ptr 3 0 0, nI 16] ∧ (some (bC [AV.sl 4 0 0 x.en x.en false]) = some (bC [AV.sl 4 0 0 x.en x.en false]) ∧ True) ∧ (∀ (y_9 : Unit), True → (1 ≤ x.F ∧ x.F ≤ 64) ∧ [nI (↑x.F : Int)] = [nI (↑x.F : Int)] ∧ True ∧ (∀ (y_10 : Unit), True → (1 ≤ (rowN x.F 1 x.C).length ∧ (rowN x.F 1 x.C).length ≤ 512) ∧ [AV.ptr 13 0 0] = [AV.ptr 13 0 0] ∧ (some (bC [AV.sl 14 0 0 (rowN x.F 1 x.C).length (rowN x.F 1 x.C).length false]) = some (bC [AV.sl 14 0 0 (rowN x.F 1 x.C).length (rowN x.F 1 x.C).length false]) ∧ True) ∧ (∀ (y_11 : Unit), True → (1 ≤ (rowN x.F 1 x.C).length ∧ (rowN x.F 1 x.C).length ≤ 512) ∧ [AV.ptr 13 0 0, AV.ptr 27 0 0] = [AV.ptr 13 0 0, AV.ptr 27 0 0] ∧ (some (bC [AV.sl 14 0 0 (rowN x.F 1 x.C).length (rowN x.F
  1 x.C).length false]) = some (bC [AV.sl 14 0 0 (rowN x.F 1 x.C).length (rowN x.F 1 x.C).length false]) ∧ True) ∧ (∀ (y_12 : Unit), True → (∃ (y_13 : List Int × List Int), ((y_13.fst.length = x.F ∧ (∀ (i : Nat), i < x.F → 0 ≤ y_13.fst.getD i 0 ∧ y_13.fst.getD i 0 < (↑x.F : Int)) ∧ ∀ (i j : Nat), i < x.F → j < x.F → y_13.fst.getD i 0 = y_13.fst.getD j 0 → i = j) ∧ y_13.snd.length = 64 * x.en) ∧ [AV.ptr 2 0 0] = [AV.ptr 2 0 0] ∧ ABlk.mk true 29 (AC.cells [nI (↑x.F : Int), nI (↑x.C : Int), nI x.B, nI (↑x.P : Int), nI (↑x.S : Int), nI x.L, AV.bool x.ch, nU x.key, AV.ptr 3 0 0, AV.ptr 10 0 0, AV.ptr 8 0 0, AV.nilp, AV.ptr 20 0 0, AV.ptr 24 0 0, AV.ptr 19 0 0, AV.ptr 27 0 0, AV.ptr 13 0 0, AV.ptr 29 0 0, AV.nils, AV.nils, nI 0, nI 0, nI 0, nI 0, nI 0, nI 0, nI 0, nI 0, nI 0]) = ABlk.mk true 29 (AC.cells [nI (↑x.F : Int), nI (↑x.C : Int), nI x.B, nI (↑x.P : Int), nI (↑x.S : Int), nI x.L, AV.bool
  x.ch, nU x.key, AV.ptr 3 0 0, AV.ptr 10 0 0, AV.ptr 8 0 0, AV.nilp, AV.ptr 20 0 0, AV.ptr 24 0 0, AV.nilp, AV.ptr 27 0 0, AV.ptr 13 0 0, AV.ptr 29 0 0, AV.nils, AV.nils, nI 0, nI 0, nI 0, nI 0, nI 0, nI 0, nI 0, nI 0, nI 0]) ∧ bC [AV.sl 4 0 0 x.en x.en false] = bC [AV.sl 4 0 0 x.en x.en false] ∧ (true = true ∧ 1 = 1 ∧ x.en = x.en ∧ ∀ (i : Nat), i < x.en → [AV.sl 5 (64 * i) 0 64 64 true] = [AV.sl 5 (64 * i) 0 64 64 true]) ∧ bW y_8.fst = bW y_13.snd ∧ bC [AV.sl 11 0 0 y.length y.length false] = bC [AV.sl 11 0 0 x.F x.F false] ∧ (true = true ∧ 1 = 1 ∧ y.length = x.F ∧ ∀ (i : Nat), i < y.length → [AV.sl 5 (64 * nth y i) 0 64 64 true] = [AV.sl 5 (64 * nth y_13.fst i) 0 64 64 true]) ∧ ABlk.mk true 2 (AC.cells [AV.sl 6 0 0 x.F x.F true, AV.map 7]) = ABlk.mk true 2 (AC.cells [AV.sl 6 0 0 x.F x.F true, AV.map 7]) ∧ ABlk.mk true 1 (AC.ints IntKind.i64 y) = ABlk.mk true 1 (AC.ints IntKind.i64
  y_13.fst) ∧ ABlk.mk true 25 (AC.cells [AV.ptr 3 0 0, AV.ptr 21 0 0, nU 0, nU 0, nU 0, nU 0, nU 0, nU 0, nU 0, nU 0, nU 0, nU 0, nU 0, nU 0, nU 0, nU 0, nU 0, nU 0, nU 0, nU 0, AV.bool false, AV.bool false, nI 0, nI 0, AV.map 23]) = ABlk.mk true 25 (AC.cells [AV.ptr 3 0 0, AV.ptr 21 0 0, nU 0, nU 0, nU 0, nU 0, nU 0, nU 0, nU 0, nU 0, nU 0, nU 0, nU 0, nU 0, nU 0, nU 0, nU 0, nU 0, nU 0, nU 0, AV.bool false, AV.bool false, nI 0, nI 0, AV.map 23]) ∧ ABlk.mk true 3 (AC.cells [AV.sl 22 0 0 16 16 true, nI 0, nI 0]) = ABlk.mk true 3 (AC.cells [AV.sl 22 0 0 16 16 true, nI 0, nI 0]) ∧ (true = true ∧ 4 = 4 ∧ 16 = 16 ∧ ∀ (i : Nat), i < 16 → [AV.bool false, nU 0, nU 0, nI 0] = [AV.bool false, nU 0, nU 0, nI 0]) ∧ ABlk.mk true 1 (AC.map []) = ABlk.mk true 1 (AC.map []) ∧ ABlk.mk true 3 (AC.cells [nI (↑x.F : Int), AV.map 25, AV.map 26]) = ABlk.mk true 3 (AC.cells [nI (↑x.F : Int), AV.map 25, AV.map
  26]) ∧ ABlk.mk true 1 (AC.map []) = ABlk.mk true 1 (AC.map []) ∧ ABlk.mk true 1 (AC.map []) = ABlk.mk true 1 (AC.map []) ∧ ABlk.mk true 7 (AC.cells [AV.ptr 13 0 0, AV.nils, AV.map 28, AV.nils, nI 0, nI 0, nI 0]) = ABlk.mk true 7 (AC.cells [AV.ptr 13 0 0, AV.nils, AV.map 28, AV.nils, nI 0, nI 0, nI 0]) ∧ ABlk.mk true 1 (AC.map []) = ABlk.mk true 1 (AC.map []) ∧ bC [AV.sl 14 0 0 (rowN x.F 1 x.C).length (rowN x.F 1 x.C).length false] = bC [AV.sl 14 0 0 x.C x.C false] ∧ (true = true ∧ 1 = 1 ∧ (rowN x.F 1 x.C).length = x.C ∧ ∀ (i : Nat), i < (rowN x.F 1 x.C).length → [AV.sl 5 (64 * nth (rowN x.F 1 x.C) i) 0 64 64 true] = [AV.sl 5 (64 * nth (rowN x.F 1 x.C) i) 0 64 64 true]) ∧ ABlk.mk true 3 (AC.cells [AV.ptr 13 0 0, AV.ptr 27 0 0, AV.map 30]) = ABlk.mk true 3 (AC.cells [AV.ptr 13 0 0, AV.ptr 27 0 0, AV.map 30]) ∧ ABlk.mk true 1 (AC.map []) = ABlk.mk true 1 (AC.map []) ∧ True) ∨ ∃ (y_13 : List
  Int × List Int), ((y_13.fst.length = x.F ∧ (∀ (i : Nat), i < x.F → 0 ≤ y_13.fst.getD i 0 ∧ y_13.fst.getD i 0 < (↑x.F : Int)) ∧ ∀ (i j : Nat), i < x.F → j < x.F → y_13.fst.getD i 0 = y_13.fst.getD j 0 → i = j) ∧ y_13.snd.length = 64 * x.en) ∧ [AV.ptr 2 0 0] = [AV.ptr 2 0 0] ∧ ABlk.mk true 29 (AC.cells [nI (↑x.F : Int), nI (↑x.C : Int), nI x.B, nI (↑x.P : Int), nI (↑x.S : Int), nI x.L, AV.bool x.ch, nU x.key, AV.ptr 3 0 0, AV.ptr 10 0 0, AV.ptr 8 0 0, AV.nilp, AV.ptr 20 0 0, AV.ptr 24 0 0, AV.ptr 19 0 0, AV.ptr 27 0 0, AV.ptr 13 0 0, AV.ptr 29 0 0, AV.nils, AV.nils, nI 0, nI 0, nI 0, nI 0, nI 0, nI 0, nI 0, nI 0, nI 0]) = ABlk.mk true 29 (AC.cells [nI (↑x.F : Int), nI (↑x.C : Int), nI x.B, nI (↑x.P : Int), nI (↑x.S : Int), nI x.L, AV.bool x.ch, nU x.key, AV.ptr 3 0 0, AV.ptr 10 0 0, AV.ptr 8 0 0, AV.nilp, AV.ptr 20 0 0, AV.ptr 24 0 0, AV.ptr 19 0 0, AV.ptr 27 0 0, AV.ptr 13 0 0, AV.ptr 29 0
  0, AV.nils, AV.nils, nI 0, nI 0, nI 0, nI 0, nI 0, nI 0, nI 0, nI 0, nI 0]) ∧ bC [AV.sl 4 0 0 x.en x.en false] = bC [AV.sl 4 0 0 x.en x.en false] ∧ (true = true ∧ 1 = 1 ∧ x.en = x.en ∧ ∀ (i : Nat), i < x.en → [AV.sl 5 (64 * i) 0 64 64 true] = [AV.sl 5 (64 * i) 0 64 64 true]) ∧ bW y_8.fst = bW y_13.snd ∧ bC [AV.sl 11 0 0 y.length y.length false] = bC [AV.sl 11 0 0 x.F x.F false] ∧ (true = true ∧ 1 = 1 ∧ y.length = x.F ∧ ∀ (i : Nat), i < y.length → [AV.sl 5 (64 * nth y i) 0 64 64 true] = [AV.sl 5 (64 * nth y_13.fst i) 0 64 64 true]) ∧ ABlk.mk true 2 (AC.cells [AV.sl 6 0 0 x.F x.F true, AV.map 7]) = ABlk.mk true 2 (AC.cells [AV.sl 6 0 0 x.F x.F true, AV.map 7]) ∧ ABlk.mk true 1 (AC.ints IntKind.i64 y) = ABlk.mk true 1 (AC.ints IntKind.i64 y_13.fst) ∧ ABlk.mk true 25 (AC.cells [AV.ptr 3 0 0, AV.ptr 21 0 0, nU 0, nU 0, nU 0, nU 0, nU 0, nU 0, nU 0, nU 0, nU 0, nU 0, nU 0, nU 0, nU 0, nU 0, nU
  0, nU 0, nU 0, nU 0, AV.bool false, AV.bool false, nI 0, nI 0, AV.map 23]) = ABlk.mk true 25 (AC.cells [AV.ptr 3 0 0, AV.ptr 21 0 0, nU 0, nU 0, nU 0, nU 0, nU 0, nU 0, nU 0, nU 0, nU 0, nU 0, nU 0, nU 0, nU 0, nU 0, nU 0, nU 0, nU 0, nU 0, AV.bool false, AV.bool false, nI 0, nI 0, AV.map 23]) ∧ ABlk.mk true 3 (AC.cells [AV.sl 22 0 0 16 16 true, nI 0, nI 0]) = ABlk.mk true 3 (AC.cells [AV.sl 22 0 0 16 16 true, nI 0, nI 0]) ∧ (true = true ∧ 4 = 4 ∧ 16 = 16 ∧ ∀ (i : Nat), i < 16 → [AV.bool false, nU 0, nU 0, nI 0] = [AV.bool false, nU 0, nU 0, nI 0]) ∧ ABlk.mk true 1 (AC.map []) = ABlk.mk true 1 (AC.map []) ∧ ABlk.mk true 3 (AC.cells [nI (↑x.F : Int), AV.map 25, AV.map 26]) = ABlk.mk true 3 (AC.cells [nI (↑x.F : Int), AV.map 25, AV.map 26]) ∧ ABlk.mk true 1 (AC.map []) = ABlk.mk true 1 (AC.map []) ∧ ABlk.mk true 1 (AC.map []) = ABlk.mk true 1 (AC.map []) ∧ ABlk.mk true 7 (AC.cells [AV.ptr
  13 0 0, AV.nils, AV.map 28, AV.nils, nI 0, nI 0, nI 0]) = ABlk.mk true 7 (AC.cells [AV.ptr 13 0 0, AV.nils, AV.map 28, AV.nils, nI 0, nI 0, nI 0]) ∧ ABlk.mk true 1 (AC.map []) = ABlk.mk true 1 (AC.map []) ∧ bC [AV.sl 14 0 0 (rowN x.F 1 x.C).length (rowN x.F 1 x.C).length false] = bC [AV.sl 14 0 0 x.C x.C false] ∧ (true = true ∧ 1 = 1 ∧ (rowN x.F 1 x.C).length = x.C ∧ ∀ (i : Nat), i < (rowN x.F 1 x.C).length → [AV.sl 5 (64 * nth (rowN x.F 1 x.C) i) 0 64 64 true] = [AV.sl 5 (64 * nth (rowN x.F 1 x.C) i) 0 64 64 true]) ∧ ABlk.mk true 3 (AC.cells [AV.ptr 13 0 0, AV.ptr 27 0 0, AV.map 30]) = ABlk.mk true 3 (AC.cells [AV.ptr 13 0 0, AV.ptr 27 0 0, AV.map 30]) ∧ ABlk.mk true 1 (AC.map []) = ABlk.mk true 1 (AC.map []) ∧ True) ∧ True) ∧ True) ∧ True) ∧ True) ∧ True) ∧ True) False) ∧ True) False) False) False) ∧ True) ∧ True) ∧ True) False) False) ∧ True) ∧ True) ∧ True) ∧ True) ∧ True
theorem begC_c_e (x : CfX) : some (begC_c_V x) = (begC.cond sp Go.Proofs.Tryz.prog (drPL sp Go.Proofs.Tryz.prog) noLoops (orK (plC.orc sp) (orK (ramNewC.orc sp) (orK (stC.orc sp) (orK (lsC.orc sp) (orK (winC.orc sp) (orK (rowC.orc sp) (orK (taC.orc sp) (orK (spC.orc sp) (orK (poC.orc sp) (orK (hoC.orc sp) (orK (maC.orc sp) (orK (caC.orc sp) (chC.orc sp))))))))))))) 60 4 x) := by kernel_rfl
set_option maxRecDepth 100000 in
set_option maxHeartbeats 4000000 in
theorem begC_ok : begC.OK Go.Proofs.Tryz.prog := by
  refine Con.byL' hmix (noLoops_ok _) (orK_ok (Con.orc_ok plC_ok) (orK_ok (Con.orc_ok ramNewC_ok) (orK_ok (Con.orc_ok stC_ok) (orK_ok (Con.orc_ok lsC_ok) (orK_ok (Con.orc_ok winC_ok) (orK_ok (Con.orc_ok rowC_ok) (orK_ok (Con.orc_ok taC_ok) (orK_ok (Con.orc_ok spC_ok) (orK_ok (Con.orc_ok poC_ok) (orK_ok (Con.orc_ok hoC_ok) (orK_ok (Con.orc_ok maC_ok) (orK_ok (Con.orc_ok caC_ok) (Con.orc_ok chC_ok))))))))))))) begC_c_V begC_c_e (fun x hx => ?_)
  obtain ⟨F, C, B, P, Sp, L, ch, key⟩ := x
  have hx0 := hx
  obtain ⟨h1, h2, h3, h4, h5, h6, h7, h8, h9, h10⟩ := hx
  have h1 : 1 ≤ F := h1
  have h2 : F ≤ 64 := h2
  have h3 : 1 ≤ C := h3
  have h4 : C ≤ 64 := h4
  have h6 : P ≤ 64 := h6
  have h7 : 1 ≤ Sp := h7
  have h8 : Sp ≤ 8 := h8
  unfold begC_c_V
  generalize hen : CfX.en ⟨F, C, B, P, Sp, L, ch, key⟩ = en
  generalize hup : CfX.up ⟨F, C, B, P, Sp, L, ch, key⟩ = up
  generalize hdi : CfX.di ⟨F, C, B, P, Sp, L, ch, key⟩ = di
  generalize hpo : CfX.po ⟨F, C, B, P, Sp, L, ch, key⟩ = po
  have eu : up = F + C := hup.symm
  have ed : di = F + C + (C + 15) / 16 := hdi.symm
  have ep : po = di + 2 * Sp := by rw [← hpo, ← hdi]; rfl
  have ee : en = po + P := by rw [← hen, ← hpo]; rfl
  clear hup hdi hpo
  have e1 : 1 ≤ en := by omega
  have e2 : en ≤ 512 := by omega
  have dd : ∀ n : Int, decide (n = n) = true := fun n => decide_eq_true rfl
  have d5 : (decide ((F : Int) = (F : Int)) && (decide ((up : Int) = (up : Int)) && (decide ((di : Int) = (di : Int)) && (decide ((po : Int) = (po : Int)) && (decide ((en : Int) = (en : Int)) && true))))) = true := by simp
  have rl : (rowN F 1 C).length = C := rowN_len _ _ _
  have rl2 : (rowN di 2 Sp).length = Sp := rowN_len _ _ _
  have r1 : 1 ≤ (rowN F 1 C).length := by omega
  have r2 : (rowN F 1 C).length ≤ 512 := by omega
  have rr : ∀ y ∈ rowN F 1 C, 0 ≤ y ∧ y < (en : Int) := fun y hy => by obtain ⟨i, hi, rfl⟩ := rowN_mem hy; omega
  have rs : ∀ i, i < (rowN di 2 Sp).length → 0 ≤ (rowN di 2 Sp).getD i 0 ∧ (rowN di 2 Sp).getD i 0 ≤ 512 := fun i hi => by
    rw [rl2] at hi
    rw [rowN_getD hi]; omega
  refine ⟨hx0, rfl, trivial, fun _ _ => ⟨⟨e1, e2⟩, rfl, trivial, fun _ _ => ⟨⟨h1, h2, h9, h10⟩, rfl, trivial, fun p hp => ?_, trivial⟩, trivial⟩, trivial⟩
  have hp : Gd F p := hp
  have hpl : p.length = F := hp.1
  have pr : ∀ y ∈ p, 0 ≤ y ∧ y < (en : Int) := fun y hy => by have := hp.range y hy; omega
  refine ⟨⟨h1, h2, hpl⟩, rfl, ⟨rfl, rfl, trivial⟩, fun _ _ => ⟨⟨e1, e2, by rw [hpl]; exact h1, by rw [hpl]; omega, pr, hp.nodup⟩, by rw [hpl], ⟨rfl, rfl, rfl, trivial⟩, fun _ _ => spT (dd _) (spT (dd _) ⟨⟨h3, by show F ≤ 512; omega, h4, by omega⟩, rfl, trivial, fun _ _ => ⟨⟨e1, e2, r1, r2, rr, rowN_nodup _ _⟩, by rw [rl], ⟨rfl, rfl, rfl, trivial⟩, fun _ _ => ?_, trivial⟩, trivial⟩), trivial⟩, trivial⟩
  refine ⟨by show po + P ≤ 512; omega, rfl, trivial, fun _ _ => spT d5 (spT (dd _) (spT (dd _) ⟨⟨h7, by show di ≤ 512; omega, by show Sp ≤ 64; omega, by omega⟩, rfl, trivial, fun _ _ => spT d5 ⟨⟨⟨e2, by show F < up; omega, by show up ≤ F + 64; omega, by show up ≤ 400; omega⟩, List.length_replicate⟩, rfl, ⟨rfl, rfl, rfl, trivial⟩, fun t ht => ⟨⟨⟨e2, by rw [rl2]; exact h7, by rw [rl2]; exact h8, rs, ht.2.1, ht.1⟩, ht.2.2⟩, by rw [rl2], ⟨rfl, rfl, rfl, rfl, rfl, trivial⟩, fun y hy => spT (dd _) (spT (by simp) (spT (dd _) ?_)), fun y hy => ?_, trivial⟩, trivial⟩, trivial⟩)), trivial⟩
  · refine ⟨⟨e1, e2⟩, rfl, ⟨rfl, trivial⟩, fun _ _ => ⟨⟨h1, h2⟩, rfl, trivial, fun _ _ => ⟨⟨r1, r2⟩, rfl, ⟨rfl, trivial⟩, fun _ _ => ⟨⟨r1, r2⟩, rfl, ⟨rfl, trivial⟩, fun _ _ => .inl ⟨(p, y.1), ⟨hp, hy⟩, ?_⟩, trivial⟩, trivial⟩, trivial⟩, trivial⟩
    subst hpl
    repeat' (first | trivial | exact rfl | exact fun _ _ => trivial | exact fun _ _ => rfl | apply And.intro | rw [rl] | exact rl)
  · refine ⟨⟨e1, e2⟩, rfl, ⟨rfl, trivial⟩, fun _ _ => ⟨⟨h1, h2⟩, rfl, trivial, fun _ _ => ⟨⟨r1, r2⟩, rfl, ⟨rfl, trivial⟩, fun _ _ => ⟨⟨r1, r2⟩, rfl, ⟨rfl, trivial⟩, fun _ _ => .inr ⟨(p, y.1), ⟨hp, hy⟩, ?_⟩, trivial⟩, trivial⟩, trivial⟩, trivial⟩
    subst hpl
    repeat' (first | trivial | exact rfl | exact fun _ _ => trivial | exact fun _ _ => rfl | apply And.intro | rw [rl] | exact rl)
end Go.Proofs.YtilmgiompalggaaGreatDoor.W
/- A monitor, a machine and a pair of nothing, of whatever configuration: what is reckoned. No condition. -/
namespace Go.Proofs.YtilmgiompalggaaGreatDoor.W
open Go Go.RowKit Go.Eng
set_option maxRecDepth 100000
set_option linter.unusedVariables false
set_option linter.unusedSimpArgs false
def st0 : List AV := [nU 0, nU 0, nU 0, nU 0, nU 0, nU 0, nU 0, nU 0, nU 0, nU 0, nU 0, nU 0, nU 0, nU 0, nU 0, nU 0, nU 0, nU 0, .bool false]
/-- Whatever configuration. -/
structure Cf0 where
  F : Int
  C : Int
  B : Int
  P : Int
  S : Int
  L : Int
  ch : Bool
  key : Int
def Cf0.av (x : Cf0) : List AV := [nI x.F, nI x.C, nI x.B, nI x.P, nI x.S, nI x.L, .bool x.ch, nU x.key]
def cf0Of (cs : List AV) : Option Cf0 := match cs with
  | [.int _ F, .int _ C, .int _ B, .int _ P, .int _ S, .int _ L, .bool ch, .int _ key] => some ⟨F, C, B, P, S, L, ch, key⟩
  | _ => none
def inn (n a b : Int) : Bool := decide (n ≥ a) && decide (n ≤ b)
def mayC (x : Cf0) : Bool := inn x.F 1 64 && inn x.B 1 32 && inn x.C 1 64 && decide (x.C * 64 ≥ 6 * x.B + 13) && inn x.P 3 64 && inn x.S 1 8 && inn x.L 1 256
def keyP (x : Cf0) : Prop := 0 ≤ x.key ∧ x.key < 4294967296
def ovC : Con Nat Unit where
  f := F_machine_Over
  fit := sizeF
  n0 := 2
  pre n := 1 ≤ n ∧ n ≤ 512
  args _ := [.ptr 0 0 0, .agg st0, .nils, .nils]
  L0 n := [(0, ramB 1 n)]
  outs n := [(fun _ => True, fun _ => (.ret (.tup [.ptr 2 0 0, nI 0]), 3, [(0, ramB 1 n)]))]
def mnC : Con Nat Unit where
  f := F_machine_New
  fit vs H := match vs with
    | .int _ n :: _ => some ([], n.toNat)
    | _ => none
  n0 := 0
  pre n := 1 ≤ n ∧ n ≤ 64
  args n := [nI n, .nils, .agg st0, .nils, .nils]
  L0 _ := []
  outs n := [(fun _ => True, fun _ => (.ret (.tup [.ptr 0 0 0, nI 0]), 1, []))]
def cf0F (vs : List AV) (H : AH) : Option (List Nat × Cf0) := match vs with
  | .agg cs :: _ => match cf0Of cs with
    | some x => some ([], x)
    | none => none
  | _ => none
def newC : Con Cf0 Unit where
  f := F_monitor_New
  fit := cf0F
  n0 := 0
  pre := keyP
  args x := [.agg x.av, .nils, .agg st0, .nils, .nils]
  L0 _ := []
  outs x := [(fun _ => mayC x = false, fun _ => (.ret (.tup [.nilp, nI 2]), 0, [])), (fun _ => mayC x = true, fun _ => (.ret (.tup [.ptr 0 0 0, nI 0]), 1, []))]
def pnC : Con Cf0 Unit where
  f := F_pair_New
  fit := cf0F
  n0 := 0
  pre := keyP
  args x := [.agg x.av, .nils, .agg st0, .nils, .nils]
  L0 _ := []
  outs x := [(fun _ => mayC x = false, fun _ => (.ret (.tup [.nilp, nI 2]), 0, [])), (fun _ => mayC x = true, fun _ => (.ret (.tup [.ptr 0 0 0, nI 0]), 1, []))]
def pwC : Con Unit Unit where
  f := F_mummerlaw28_works
  fit _ _ := some ([], ())
  n0 := 0
  pre _ := True
  args _ := []
  L0 _ := []
  outs _ := [(fun _ => True, fun _ => (.ret (.bool true), 0, []))]
structure PbX where
  c : Cf0
  most : Int
def pbC : Con PbX Unit where
  f := F_mummerlaw28_PairBegins
  fit _ _ := none
  n0 := 0
  pre x := keyP x.c
  args x := [.agg x.c.av, nI x.most]
  L0 _ := []
  outs x := [(fun _ => True, fun _ => (.ret (.bool true), 0, []))]
end Go.Proofs.YtilmgiompalggaaGreatDoor.W
/- A monitor, a machine and a pair of nothing, of whatever configuration: the walks. No condition. -/
namespace Go.Proofs.YtilmgiompalggaaGreatDoor.W
open Go Go.RowKit Go.Eng
set_option maxRecDepth 100000
set_option linter.unusedVariables false
set_option linter.unusedSimpArgs false
def ovC_c_V (n : Nat) : Prop :=
  n.le 512 ∧ [AV.ptr 0 0 0] = [AV.ptr 0 0 0] ∧ (some (bC [AV.sl 1 0 0 n n false]) = some (bC [AV.sl 1 0 0 n n false]) ∧ True) ∧ (∀ (y : Unit), True → sp ((↑(64 * n) : Int) == 0) (∃ (y : Unit), True ∧ [AV.tup [AV.nilp, nI 1]] = [AV.tup [AV.ptr 3 0 0, nI 0]] ∧ bC [AV.sl 1 0 0 n n false] = bC [AV.sl 1 0 0 n n false] ∧ True) (∃ (y : Unit), True ∧ [AV.tup [AV.ptr 6 0 0, nI 0]] = [AV.tup [AV.ptr 6 0 0, nI 0]] ∧ bC [AV.sl 1 0 0 n n false] = bC [AV.sl 1 0 0 n n false] ∧ True)) ∧ True
theorem ovC_c_e (n : Nat) : some (ovC_c_V n) = (ovC.cond sp Go.Proofs.Tryz.prog (drPL sp Go.Proofs.Tryz.prog) noLoops (sizeC.orc sp) 60 6 n) := by kernel_rfl
theorem ovC_ok : ovC.OK Go.Proofs.Tryz.prog := by
  refine Con.byL' hmix (noLoops_ok _) (Con.orc_ok sizeC_ok) ovC_c_V ovC_c_e (fun n hx => ?_)
  have h1 : 1 ≤ n := hx.1
  have h2 : n.le 512 := hx.2
  have d1 : (((64 * n : Nat) : Int) == 0) = false := by rw [beq_eq_false_iff_ne]; omega
  unfold ovC_c_V
  simp only [d1, sp]
  repeat' (first | exact h2 | trivial | exact rfl | exact fun _ _ => trivial | exact fun _ _ => rfl | apply And.intro | intro _ _ | refine ⟨(), ?_⟩)
def mnC_c_V (n : Nat) : Prop :=
  sp (decide ((↑n : Int) < 1)) (∃ (y : Unit), True ∧ [AV.tup [AV.nilp, nI 2]] = [AV.tup [AV.ptr 1 0 0, nI 0]] ∧ True) (sp (bif false then true else decide ((↑n : Int) > 64)) (∃ (y : Unit), True ∧ [AV.tup [AV.nilp, nI 2]] = [AV.tup [AV.ptr 1 0 0, nI 0]] ∧ True) ((1 ≤ n ∧ n ≤ 512) ∧ [nI (↑n : Int)] = [nI (↑n : Int)] ∧ True ∧ (∀ (y : Unit), True → (n ≤ 512 ∧ 0 < 4294967296 ∧ 0 ≤ 1048576 ∧ 1 ≤ 1 ∧ 1 ≤ 4) ∧ [AV.ptr 1 0 0, nU 0, nI 0, nI 1] = [AV.ptr 1 0 0, nU 0, nI 0, nI 1] ∧ (some (bC [AV.sl 2 0 0 n n false]) = some (bC [AV.sl 2 0 0 n n false]) ∧ True) ∧ (∀ (y : Unit), True → (1 ≤ n ∧ n ≤ 512) ∧ [AV.ptr 1 0 0, AV.agg [nU 0, nU 0, nU 0, nU 0, nU 0, nU 0, nU 0, nU 0, nU 0, nU 0, nU 0, nU 0, nU 0, nU 0, nU 0, nU 0, nU 0, nU 0, AV.bool false], AV.nils, AV.nils] = [AV.ptr 1 0 0, AV.agg [nU 0, nU 0, nU 0, nU 0, nU 0, nU 0, nU 0, nU 0, nU 0, nU 0, nU 0, nU 0, nU 0, nU 0, nU 0, nU 0, nU 0, nU 0,
  AV.bool false], AV.nils, AV.nils] ∧ (some (bC [AV.sl 2 0 0 n n false]) = some (bC [AV.sl 2 0 0 n n false]) ∧ True) ∧ (∀ (y : Unit), True → ∃ (y : Unit), True ∧ [AV.tup [AV.ptr 4 0 0, nI 0]] = [AV.tup [AV.ptr 4 0 0, nI 0]] ∧ True) ∧ True) ∧ True) ∧ True))
theorem mnC_c_e (n : Nat) : some (mnC_c_V n) = (mnC.cond sp Go.Proofs.Tryz.prog (drPL sp Go.Proofs.Tryz.prog) noLoops (orK (ramNewC.orc sp) (orK (wiC.orc sp) (ovC.orc sp))) 60 6 n) := by kernel_rfl
theorem mnC_ok : mnC.OK Go.Proofs.Tryz.prog := by
  refine Con.byL' hmix (noLoops_ok _) (orK_ok (Con.orc_ok ramNewC_ok) (orK_ok (Con.orc_ok wiC_ok) (Con.orc_ok ovC_ok))) mnC_c_V mnC_c_e (fun n hx => ?_)
  have h1 : 1 ≤ n := hx.1
  have h2 : n ≤ 64 := hx.2
  have h3 : n ≤ 512 := by omega
  have d1 : decide ((n : Int) < 1) = false := decide_eq_false (by omega)
  have d2 : decide ((n : Int) > 64) = false := decide_eq_false (by omega)
  unfold mnC_c_V
  simp only [d1, d2, sp, cond_false]
  repeat' (first | exact h1 | exact h3 | trivial | exact rfl | omega | exact fun _ _ => trivial | exact fun _ _ => rfl | apply And.intro | intro _ _ | refine ⟨(), ?_⟩)
def newC_c_V (x : Cf0) : Prop :=
  sp (decide (x.F ≥ 1)) (sp (bif true then decide (x.F ≤ 64) else false) (sp (decide (x.B ≥ 1)) (sp (bif true then bif true then decide (x.B ≤ 32) else false else false) (sp (decide (x.C ≥ 1)) (sp (bif true then bif true then decide (x.C ≤ 64) else false else false) (sp (bif true then decide (IntKind.i64.wrap (x.C * 64) ≥ IntKind.i64.wrap (IntKind.i64.wrap (6 * x.B) + 13)) else false) (sp (decide (x.P ≥ 3)) (sp (bif true then bif true then decide (x.P ≤ 64) else false else false) (sp (decide (x.S ≥ 1)) (sp (bif true then bif true then decide (x.S ≤ 8) else false else false) (sp (decide (x.L ≥ 1)) (sp (!bif true then bif true then decide (x.L ≤ 256) else false else false) ((∃ (y : Unit), mayC x = false ∧ [AV.tup [AV.nilp, nI 2]] = [AV.tup [AV.nilp, nI 2]] ∧ True) ∨ ∃ (y : Unit), mayC x = true ∧ [AV.tup [AV.nilp, nI 2]] = [AV.tup [AV.ptr 3 0 0, nI 0]] ∧ True) ((1 ≤ x.F.toNat ∧ x.F.toNat ≤ 64
  ∧ 1 ≤ x.C.toNat ∧ x.C.toNat ≤ 64 ∧ 3 ≤ x.P.toNat ∧ x.P.toNat ≤ 64 ∧ 1 ≤ x.S.toNat ∧ x.S.toNat ≤ 8 ∧ 0 ≤ x.key ∧ x.key < 4294967296) ∧ [AV.agg [nI x.F, nI x.C, nI x.B, nI x.P, nI x.S, nI x.L, AV.bool x.ch, nU x.key]] = [AV.agg [nI (↑x.F.toNat : Int), nI (↑x.C.toNat : Int), nI x.B, nI (↑x.P.toNat : Int), nI (↑x.S.toNat : Int), nI x.L, AV.bool x.ch, nU x.key]] ∧ True ∧ (∀ (y : List Int × List Int), (y.fst.length = x.F.toNat ∧ (∀ (i : Nat), i < x.F.toNat → 0 ≤ y.fst.getD i 0 ∧ y.fst.getD i 0 < (↑x.F.toNat : Int)) ∧ ∀ (i j : Nat), i < x.F.toNat → j < x.F.toNat → y.fst.getD i 0 = y.fst.getD j 0 → i = j) ∧ y.snd.length = 64 * (CfX.mk x.F.toNat x.C.toNat x.B x.P.toNat x.S.toNat x.L x.ch x.key).en → (x.F.toNat ≤ 512 ∧ 0 < 4294967296 ∧ 0 ≤ 1048576 ∧ 1 ≤ 1 ∧ 1 ≤ 4) ∧ [AV.ptr 7 0 0, nU 0, nI 0, nI 1] = [AV.ptr 7 0 0, nU 0, nI 0, nI 1] ∧ (some (bC [AV.sl 8 0 0 x.F.toNat x.F.toNat false]) = some (bC
  [AV.sl 8 0 0 x.F.toNat x.F.toNat false]) ∧ True) ∧ (∀ (y : Unit), True → (1 ≤ x.F.toNat ∧ x.F.toNat ≤ 512) ∧ [AV.ptr 7 0 0, AV.agg [nU 0, nU 0, nU 0, nU 0, nU 0, nU 0, nU 0, nU 0, nU 0, nU 0, nU 0, nU 0, nU 0, nU 0, nU 0, nU 0, nU 0, nU 0, AV.bool false], AV.nils, AV.nils] = [AV.ptr 7 0 0, AV.agg [nU 0, nU 0, nU 0, nU 0, nU 0, nU 0, nU 0, nU 0, nU 0, nU 0, nU 0, nU 0, nU 0, nU 0, nU 0, nU 0, nU 0, nU 0, AV.bool false], AV.nils, AV.nils] ∧ (some (bC [AV.sl 8 0 0 x.F.toNat x.F.toNat false]) = some (bC [AV.sl 8 0 0 x.F.toNat x.F.toNat false]) ∧ True) ∧ (∀ (y : Unit), True → (∃ (y : Unit), mayC x = false ∧ [AV.tup [AV.ptr 3 0 0, nI 0]] = [AV.tup [AV.nilp, nI 2]] ∧ True) ∨ ∃ (y : Unit), mayC x = true ∧ [AV.tup [AV.ptr 3 0 0, nI 0]] = [AV.tup [AV.ptr 3 0 0, nI 0]] ∧ True) ∧ True) ∧ True) ∧ (∀ (y : List Int × List Int), (y.fst.length = x.F.toNat ∧ (∀ (i : Nat), i < x.F.toNat → 0 ≤ y.fst.getD i 0
  ∧ y.fst.getD i 0 < (↑x.F.toNat : Int)) ∧ ∀ (i j : Nat), i < x.F.toNat → j < x.F.toNat → y.fst.getD i 0 = y.fst.getD j 0 → i = j) ∧ y.snd.length = 64 * (CfX.mk x.F.toNat x.C.toNat x.B x.P.toNat x.S.toNat x.L x.ch x.key).en → (x.F.toNat ≤ 512 ∧ 0 < 4294967296 ∧ 0 ≤ 1048576 ∧ 1 ≤ 1 ∧ 1 ≤ 4) ∧ [AV.ptr 7 0 0, nU 0, nI 0, nI 1] = [AV.ptr 7 0 0, nU 0, nI 0, nI 1] ∧ (some (bC [AV.sl 8 0 0 x.F.toNat x.F.toNat false]) = some (bC [AV.sl 8 0 0 x.F.toNat x.F.toNat false]) ∧ True) ∧ (∀ (y : Unit), True → (1 ≤ x.F.toNat ∧ x.F.toNat ≤ 512) ∧ [AV.ptr 7 0 0, AV.agg [nU 0, nU 0, nU 0, nU 0, nU 0, nU 0, nU 0, nU 0, nU 0, nU 0, nU 0, nU 0, nU 0, nU 0, nU 0, nU 0, nU 0, nU 0, AV.bool false], AV.nils, AV.nils] = [AV.ptr 7 0 0, AV.agg [nU 0, nU 0, nU 0, nU 0, nU 0, nU 0, nU 0, nU 0, nU 0, nU 0, nU 0, nU 0, nU 0, nU 0, nU 0, nU 0, nU 0, nU 0, AV.bool false], AV.nils, AV.nils] ∧ (some (bC [AV.sl 8 0 0 x.F.toNat
  x.F.toNat false]) = some (bC [AV.sl 8 0 0 x.F.toNat x.F.toNat false]) ∧ True) ∧ (∀ (y : Unit), True → (∃ (y : Unit), mayC x = false ∧ [AV.tup [AV.ptr 3 0 0, nI 0]] = [AV.tup [AV.nilp, nI 2]] ∧ True) ∨ ∃ (y : Unit), mayC x = true ∧ [AV.tup [AV.ptr 3 0 0, nI 0]] = [AV.tup [AV.ptr 3 0 0, nI 0]] ∧ True) ∧ True) ∧ True) ∧ True)) ((∃ (y : Unit), mayC x = false ∧ [AV.tup [AV.nilp, nI 2]] = [AV.tup [AV.nilp, nI 2]] ∧ True) ∨ ∃ (y : Unit), mayC x = true ∧ [AV.tup [AV.nilp, nI 2]] = [AV.tup [AV.ptr 3 0 0, nI 0]] ∧ True)) ((∃ (y : Unit), mayC x = false ∧ [AV.tup [AV.nilp, nI 2]] = [AV.tup [AV.nilp, nI 2]] ∧ True) ∨ ∃ (y : Unit), mayC x = true ∧ [AV.tup [AV.nilp, nI 2]] = [AV.tup [AV.ptr 3 0 0, nI 0]] ∧ True)) ((∃ (y : Unit), mayC x = false ∧ [AV.tup [AV.nilp, nI 2]] = [AV.tup [AV.nilp, nI 2]] ∧ True) ∨ ∃ (y : Unit), mayC x = true ∧ [AV.tup [AV.nilp, nI 2]] = [AV.tup [AV.ptr 3 0 0, nI 0]] ∧ True))
  ((∃ (y : Unit), mayC x = false ∧ [AV.tup [AV.nilp, nI 2]] = [AV.tup [AV.nilp, nI 2]] ∧ True) ∨ ∃ (y : Unit), mayC x = true ∧ [AV.tup [AV.nilp, nI 2]] = [AV.tup [AV.ptr 3 0 0, nI 0]] ∧ True)) ((∃ (y : Unit), mayC x = false ∧ [AV.tup [AV.nilp, nI 2]] = [AV.tup [AV.nilp, nI 2]] ∧ True) ∨ ∃ (y : Unit), mayC x = true ∧ [AV.tup [AV.nilp, nI 2]] = [AV.tup [AV.ptr 3 0 0, nI 0]] ∧ True)) ((∃ (y : Unit), mayC x = false ∧ [AV.tup [AV.nilp, nI 2]] = [AV.tup [AV.nilp, nI 2]] ∧ True) ∨ ∃ (y : Unit), mayC x = true ∧ [AV.tup [AV.nilp, nI 2]] = [AV.tup [AV.ptr 3 0 0, nI 0]] ∧ True)) ((∃ (y : Unit), mayC x = false ∧ [AV.tup [AV.nilp, nI 2]] = [AV.tup [AV.nilp, nI 2]] ∧ True) ∨ ∃ (y : Unit), mayC x = true ∧ [AV.tup [AV.nilp, nI 2]] = [AV.tup [AV.ptr 3 0 0, nI 0]] ∧ True)) ((∃ (y : Unit), mayC x = false ∧ [AV.tup [AV.nilp, nI 2]] = [AV.tup [AV.nilp, nI 2]] ∧ True) ∨ ∃ (y : Unit), mayC x = true ∧ [AV.tup
  [AV.nilp, nI 2]] = [AV.tup [AV.ptr 3 0 0, nI 0]] ∧ True)) ((∃ (y : Unit), mayC x = false ∧ [AV.tup [AV.nilp, nI 2]] = [AV.tup [AV.nilp, nI 2]] ∧ True) ∨ ∃ (y : Unit), mayC x = true ∧ [AV.tup [AV.nilp, nI 2]] = [AV.tup [AV.ptr 3 0 0, nI 0]] ∧ True)) ((∃ (y : Unit), mayC x = false ∧ [AV.tup [AV.nilp, nI 2]] = [AV.tup [AV.nilp, nI 2]] ∧ True) ∨ ∃ (y : Unit), mayC x = true ∧ [AV.tup [AV.nilp, nI 2]] = [AV.tup [AV.ptr 3 0 0, nI 0]] ∧ True)) ((∃ (y : Unit), mayC x = false ∧ [AV.tup [AV.nilp, nI 2]] = [AV.tup [AV.nilp, nI 2]] ∧ True) ∨ ∃ (y : Unit), mayC x = true ∧ [AV.tup [AV.nilp, nI 2]] = [AV.tup [AV.ptr 3 0 0, nI 0]] ∧ True)) ((∃ (y : Unit), mayC x = false ∧ [AV.tup [AV.nilp, nI 2]] = [AV.tup [AV.nilp, nI 2]] ∧ True) ∨ ∃ (y : Unit), mayC x = true ∧ [AV.tup [AV.nilp, nI 2]] = [AV.tup [AV.ptr 3 0 0, nI 0]] ∧ True)
theorem newC_c_e (x : Cf0) : some (newC_c_V x) = (newC.cond sp Go.Proofs.Tryz.prog (drPL sp Go.Proofs.Tryz.prog) noLoops (orK (begC.orc sp) (orK (wiC.orc sp) (ovC.orc sp))) 60 6 x) := by kernel_rfl
theorem may_of {x : Cf0} (h : mayC x = true) : 1 ≤ x.F ∧ x.F ≤ 64 ∧ 1 ≤ x.C ∧ x.C ≤ 64 ∧ 3 ≤ x.P ∧ x.P ≤ 64 ∧ 1 ≤ x.S ∧ x.S ≤ 8 ∧ 1 ≤ x.B ∧ x.B ≤ 32 ∧ 1 ≤ x.L ∧ x.L ≤ 256 ∧ 6 * x.B + 13 ≤ x.C * 64 := by
  simp only [mayC, inn, Bool.and_eq_true, decide_eq_true_eq] at h
  omega
theorem newC_ok (hb : begC.OK Go.Proofs.Tryz.prog) : newC.OK Go.Proofs.Tryz.prog := by
  refine Con.byL' hmix (noLoops_ok _) (orK_ok (Con.orc_ok hb) (orK_ok (Con.orc_ok wiC_ok) (Con.orc_ok ovC_ok))) newC_c_V newC_c_e (fun x hx => ?_)
  obtain ⟨k1, k2⟩ := hx
  unfold newC_c_V
  rcases hm : mayC x with _ | _
  · -- refused
    have no : ∀ A : Prop, (∃ (y : Unit), mayC x = false ∧ [AV.tup [AV.nilp, nI 2]] = [AV.tup [AV.nilp, nI 2]] ∧ True) ∨ A := fun A => .inl ⟨(), hm, rfl, trivial⟩
    rw [hm] at no
    refine spI (fun g1 => spI (fun g2 => spI (fun g3 => spI (fun g4 => spI (fun g5 => spI (fun g6 => spI (fun g7 => spI (fun g8 => spI (fun g9 => spI (fun g10 => spI (fun g11 => spI (fun g12 => spI (fun g13 => no _) (fun g13 => ?_)) (fun _ => no _)) (fun _ => no _)) (fun _ => no _)) (fun _ => no _)) (fun _ => no _)) (fun _ => no _)) (fun _ => no _)) (fun _ => no _)) (fun _ => no _)) (fun _ => no _)) (fun _ => no _)) (fun _ => no _)
    exfalso
    simp only [cond_true, decide_eq_true_eq, Bool.not_eq_false', decide_eq_false_iff_not, Bool.not_eq_true'] at g1 g2 g3 g4 g5 g6 g7 g8 g9 g10 g11 g12 g13
    have w1 : IntKind.i64.wrap (x.C * 64) = x.C * 64 := IntWalk.i64_in _ (by omega)
    have w2 : IntKind.i64.wrap (6 * x.B) = 6 * x.B := IntWalk.i64_in _ (by omega)
    have w3 : IntKind.i64.wrap (6 * x.B + 13) = 6 * x.B + 13 := IntWalk.i64_in _ (by omega)
    rw [w1, w2, w3] at g7
    have : mayC x = true := by
      simp only [mayC, inn, Bool.and_eq_true, decide_eq_true_eq]
      omega
    rw [this] at hm; cases hm
  · have m := may_of hm
    have w1 : IntKind.i64.wrap (x.C * 64) = x.C * 64 := IntWalk.i64_in _ (by omega)
    have w2 : IntKind.i64.wrap (6 * x.B) = 6 * x.B := IntWalk.i64_in _ (by omega)
    have w3 : IntKind.i64.wrap (6 * x.B + 13) = 6 * x.B + 13 := IntWalk.i64_in _ (by omega)
    have d1 : decide (x.F ≥ 1) = true := decide_eq_true (by omega)
    have d2 : decide (x.F ≤ 64) = true := decide_eq_true (by omega)
    have d3 : decide (x.B ≥ 1) = true := decide_eq_true (by omega)
    have d4 : decide (x.B ≤ 32) = true := decide_eq_true (by omega)
    have d5 : decide (x.C ≥ 1) = true := decide_eq_true (by omega)
    have d6 : decide (x.C ≤ 64) = true := decide_eq_true (by omega)
    have d7 : decide (x.C * 64 ≥ 6 * x.B + 13) = true := decide_eq_true (by omega)
    have d8 : decide (x.P ≥ 3) = true := decide_eq_true (by omega)
    have d9 : decide (x.P ≤ 64) = true := decide_eq_true (by omega)
    have d10 : decide (x.S ≥ 1) = true := decide_eq_true (by omega)
    have d11 : decide (x.S ≤ 8) = true := decide_eq_true (by omega)
    have d12 : decide (x.L ≥ 1) = true := decide_eq_true (by omega)
    have d13 : decide (x.L ≤ 256) = true := decide_eq_true (by omega)
    have t1 : (x.F.toNat : Int) = x.F := by omega
    have t2 : (x.C.toNat : Int) = x.C := by omega
    have t3 : (x.P.toNat : Int) = x.P := by omega
    have t4 : (x.S.toNat : Int) = x.S := by omega
    have f1 : 1 ≤ x.F.toNat := by omega
    have f2 : x.F.toNat ≤ 512 := by omega
    have yes : ∀ (A : Prop) (v : List AV), A ∨ ∃ (y : Unit), true = true ∧ v = v ∧ True := fun A v => .inr ⟨(), rfl, rfl, trivial⟩
    simp only [cond_true, w1, w2, w3, d1, d2, d3, d4, d5, d6, d7, d8, d9, d10, d11, d12, d13, sp, Bool.not_true]
    refine ⟨by omega, by rw [t1, t2, t3, t4], trivial, fun _ _ => ?_, fun _ _ => ?_, trivial⟩
    all_goals repeat' (first | exact f1 | exact f2 | trivial | exact rfl | omega | exact fun _ _ => trivial | exact fun _ _ => rfl | apply And.intro | intro _ _ | refine .inr ⟨(), ?_⟩)
def pnC_c_V (x : Cf0) : Prop :=
  (0 ≤ x.key ∧ x.key < 4294967296) ∧ [AV.agg [nI x.F, nI x.C, nI x.B, nI x.P, nI x.S, nI x.L, AV.bool x.ch, nU x.key], AV.nils, AV.agg [nU 0, nU 0, nU 0, nU 0, nU 0, nU 0, nU 0, nU 0, nU 0, nU 0, nU 0, nU 0, nU 0, nU 0, nU 0, nU 0, nU 0, nU 0, AV.bool false], AV.nils, AV.nils] = [AV.agg [nI x.F, nI x.C, nI x.B, nI x.P, nI x.S, nI x.L, AV.bool x.ch, nU x.key], AV.nils, AV.agg [nU 0, nU 0, nU 0, nU 0, nU 0, nU 0, nU 0, nU 0, nU 0, nU 0, nU 0, nU 0, nU 0, nU 0, nU 0, nU 0, nU 0, nU 0, AV.bool false], AV.nils, AV.nils] ∧ True ∧ (∀ (y : Unit), mayC x = false → (∃ (y : Unit), mayC x = false ∧ [AV.tup [AV.nilp, nI 2]] = [AV.tup [AV.nilp, nI 2]] ∧ True) ∨ ∃ (y : Unit), mayC x = true ∧ [AV.tup [AV.nilp, nI 2]] = [AV.tup [AV.ptr 2 0 0, nI 0]] ∧ True) ∧ (∀ (y : Unit), mayC x = true → (1 ≤ x.F.toNat ∧ x.F.toNat ≤ 64) ∧ [nI x.F, AV.nils, AV.agg [nU 0, nU 0, nU 0, nU 0, nU 0, nU 0, nU 0, nU 0, nU 0, nU
  0, nU 0, nU 0, nU 0, nU 0, nU 0, nU 0, nU 0, nU 0, AV.bool false], AV.nils, AV.nils] = [nI (↑x.F.toNat : Int), AV.nils, AV.agg [nU 0, nU 0, nU 0, nU 0, nU 0, nU 0, nU 0, nU 0, nU 0, nU 0, nU 0, nU 0, nU 0, nU 0, nU 0, nU 0, nU 0, nU 0, AV.bool false], AV.nils, AV.nils] ∧ True ∧ (∀ (y : Unit), True → (∃ (y : Unit), mayC x = false ∧ [AV.tup [AV.ptr 4 0 0, nI 0]] = [AV.tup [AV.nilp, nI 2]] ∧ True) ∨ ∃ (y : Unit), mayC x = true ∧ [AV.tup [AV.ptr 4 0 0, nI 0]] = [AV.tup [AV.ptr 4 0 0, nI 0]] ∧ True) ∧ True) ∧ True
theorem pnC_c_e (x : Cf0) : some (pnC_c_V x) = (pnC.cond sp Go.Proofs.Tryz.prog (drPL sp Go.Proofs.Tryz.prog) noLoops (orK (newC.orc sp) (mnC.orc sp)) 60 3 x) := by kernel_rfl
theorem pnC_ok (hb : begC.OK Go.Proofs.Tryz.prog) : pnC.OK Go.Proofs.Tryz.prog := by
  refine Con.byL' hmix (noLoops_ok _) (orK_ok (Con.orc_ok (newC_ok hb)) (Con.orc_ok mnC_ok)) pnC_c_V pnC_c_e (fun x hx => ?_)
  unfold pnC_c_V
  refine ⟨hx, rfl, trivial, fun _ h => .inl ⟨(), h, rfl, trivial⟩, fun _ h => ?_, trivial⟩
  have m := may_of h
  have t1 : (x.F.toNat : Int) = x.F := by omega
  exact ⟨⟨by omega, by omega⟩, by rw [t1], trivial, fun _ _ => .inr ⟨(), h, rfl, trivial⟩, trivial⟩
def pbC_c_V (x : PbX) : Prop :=
  (0 ≤ x.c.key ∧ x.c.key < 4294967296) ∧ [AV.agg [nI x.c.F, nI x.c.C, nI x.c.B, nI x.c.P, nI x.c.S, nI x.c.L, AV.bool x.c.ch, nU x.c.key], AV.nils, AV.agg [nU 0, nU 0, nU 0, nU 0, nU 0, nU 0, nU 0, nU 0, nU 0, nU 0, nU 0, nU 0, nU 0, nU 0, nU 0, nU 0, nU 0, nU 0, AV.bool false], AV.nils, AV.nils] = [AV.agg [nI x.c.F, nI x.c.C, nI x.c.B, nI x.c.P, nI x.c.S, nI x.c.L, AV.bool x.c.ch, nU x.c.key], AV.nils, AV.agg [nU 0, nU 0, nU 0, nU 0, nU 0, nU 0, nU 0, nU 0, nU 0, nU 0, nU 0, nU 0, nU 0, nU 0, nU 0, nU 0, nU 0, nU 0, AV.bool false], AV.nils, AV.nils] ∧ True ∧ (∀ (y : Unit), mayC x.c = false → True ∧ ([] : List AV) = [] ∧ True ∧ (∀ (y : Unit), True → ∃ (y : Unit), True ∧ [AV.bool true] = [AV.bool true] ∧ True) ∧ True) ∧ (∀ (y : Unit), mayC x.c = true → True ∧ ([] : List AV) = [] ∧ True ∧ (∀ (y : Unit), True → ∃ (y : Unit), True ∧ [AV.bool true] = [AV.bool true] ∧ True) ∧ True) ∧ True
theorem pbC_c_e (x : PbX) : some (pbC_c_V x) = (pbC.cond sp Go.Proofs.Tryz.prog (drPL sp Go.Proofs.Tryz.prog) noLoops (orK (pnC.orc sp) (pwC.orc sp)) 60 6 x) := by kernel_rfl
theorem pbC_ok (hb : begC.OK Go.Proofs.Tryz.prog) (hw : pwC.OK Go.Proofs.Tryz.prog) : pbC.OK Go.Proofs.Tryz.prog := by
  refine Con.byL' hmix (noLoops_ok _) (orK_ok (Con.orc_ok (pnC_ok hb)) (Con.orc_ok hw)) pbC_c_V pbC_c_e (fun x hx => ?_)
  unfold pbC_c_V
  exact ⟨hx, rfl, trivial, fun _ _ => ⟨trivial, rfl, trivial, fun _ _ => ⟨(), trivial, rfl, trivial⟩, trivial⟩, fun _ _ => ⟨trivial, rfl, trivial, fun _ _ => ⟨(), trivial, rfl, trivial⟩, trivial⟩, trivial⟩
end Go.Proofs.YtilmgiompalggaaGreatDoor.W
