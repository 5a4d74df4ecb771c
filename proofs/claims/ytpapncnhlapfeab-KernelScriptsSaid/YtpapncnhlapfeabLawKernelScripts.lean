/- KernelScripts: any text and gaps are typed as the reference says. -/
import Derived.Test.YtpapncnhlapfeabRows
import Derived.Test.YtpapncnhlapfeabWSized
import Derived.Test.YtpapncnhlapfeabKernelWants
import Derived.Test.YtpapncnhlapfeabScriptPure
import Derived.WalkKit
import Derived.ProofKit
import Derived.OpenShut
import Derived.ShutString
import Derived.ChangeOld
import Derived.Below
import Derived.SizedLaws
namespace Go.Proofs.Ytpapncnhlapfeab.KernelScriptsW
open Go Go.RowKit Go.Proofs.Ytpapncnhlapfeab.ScriptPure Go.Proofs.YtpapncnhlapfeabW.PrintWords Go.Proofs.YtpapncnhlapfeabW.PrintLast Go.Proofs.YtpapncnhlapfeabW.PrintMore Go.Proofs.Ytpapncnhlapfeab.PKernelScripts
/-- A slice of whole numbers that came in: nil, or a row of cells. -/
def IsRow (k : IntKind) (w : World) (a : Option Addr) (len cap : Nat) (zs : List Int) : Prop :=
  (a = none ∧ len = 0 ∧ cap = 0 ∧ zs = []) ∨
  ∃ x, a = some x ∧ len ≤ cap ∧ cap ≤ maxLen ∧ zs.length = cap ∧ (∀ i, i < zs.length → w.cell? (x.add i) = some (.int k (zs.getD i 0))) ∧ ∀ n ∈ zs, (Lit.int k n).wf = true
/-- Such a slice, as its elements read. -/
theorem row_reads {k : IntKind} {w : World} {a : Option Addr} {len cap : Nat} {zs : List Int} (h : IsRow k w a len cap zs) : ∃ l : List Int, l.length = len ∧ len ≤ cap ∧ Kd.C (Kd.int k) w a l.length l ∧ (∀ n ∈ l, (Lit.int k n).wf = true) := by
  rcases h with ⟨rfl, rfl, rfl, rfl⟩ | ⟨x, rfl, hl, hm, hz, hc, hw⟩
  · exact ⟨[], rfl, Nat.le_refl _, Kd.C_nil _ _, by simp⟩
  · have e : (zs.take len).length = len := by simp; omega
    refine ⟨zs.take len, e, hl, ?_, fun n hn => hw n (List.mem_of_mem_take hn)⟩
    rw [e]
    refine Kd.C_of_reads (enc := Value.int k) (d := (0 : Int)) (h1 := fun _ => rfl) ⟨e, by unfold maxLen at hm; omega, fun _ => ⟨x, rfl, fun j hj => ?_⟩⟩
    rw [hc j (by omega)]
    simp [List.getD_eq_getElem?_getD, hj]

set_option maxHeartbeats 1000000 in
set_option maxRecDepth 100000 in
theorem walk (a : Option Addr) (len cap : Nat) (zs : List Int) (a' : Option Addr) (len' cap' : Nat) (zs' : List Int) (w : World) (hr : IsRow .u8 w a len cap zs) (hl : len * 1 ≤ 140737488351232) (hr' : IsRow .i64 w a' len' cap' zs') (_hl' : len' * 8 ≤ 140737488351232) :
    Calls Try.prog 7 #[.slice a len cap, .slice a' len' cap'] w fun e w' => e = .returned (.bool true) ∧ Below w.heap.size w w' := by
  obtain ⟨l, e, hc, HC, _⟩ := row_reads hr
  obtain ⟨gs, e', hc', HC', _⟩ := row_reads hr'
  subst e
  subst e'
  have H := Aside0.mk HC
  have G := Aside0.mk HC'
  have P := Aside0.mk (fun w h g => kernel_Script.calls _ a cap l a' cap' gs _ w h hc g hc' (prog_is l gs (by omega)))
  have R := Aside0.mk (fun w h g => mummerref35_Script.calls _ a cap l a' cap' gs _ w h hc g hc' (refs_is l gs (by omega)))
  have SL := scr_len l gs
  clear hr hr' HC HC' hc hc' hl _hl'
  have HB := Aside0.mk (Below.refl w.heap.size w)
  generalize scr l gs = s at *
  obtain ⟨n, hn⟩ : ∃ n, n = s.length := ⟨_, rfl⟩
  have HN := Aside0.mk hn
  rw [← hn] at SL
  clear hn
  go_enter Try.func7, Try.ntmps7
  go_wp2_with (first | (go_at_call 20; (with_reducible refine (P.out _ H.out G.out).mono ?_); rintro e w1 ⟨v, rfl, hr, hb⟩; have HB1 := Aside0.mk hb; have H1 := Aside0.mk (Kd.C_below H.out hb); have G1 := Aside0.mk (Kd.C_below G.out hb); have V1 := Aside0.mk hr; clear hb hr; obtain ⟨A1, c1, ev⟩ := Kd.R_slice V1.out; subst ev) | (go_at_call 21; (with_reducible refine (R.out _ H1.out G1.out).mono ?_); rintro e w2 ⟨v, rfl, hr, hb⟩; have HB2 := Aside0.mk (below_step (by repeat (first | (with_reducible first | exact HB1.out | apply below_alloc | apply pw_below_drewN | apply below_drew1) | exact HB1.out)) hb); have V2 := Aside0.mk (Kd.R_reads' (Kd.R_below V1.out hb)).2.2; have W2 := Aside0.mk hr; clear hb hr; obtain ⟨A2, c2, ev⟩ := Kd.R_slice W2.out; subst ev))
  have V3 := Aside0.mk (Kd.R_reads' W2.out).2.2
  rw [← HN.out]
  rw [← HN.out] at V2 V3
  clear P R H G H1 G1 V1 W2 HB HB1
  have BB := Aside0.mk (below_size HB2.out)
  go_loopw [7] (fun v7 wr => ∃ k : Nat, k ≤ n ∧ v7 = .int .i64 k ∧ Aside0 (Drawn0 w2 wr)) (fun v7 _ => n - (intOf v7).toNat)
  case atStart => exact ⟨0, Nat.zero_le _, rfl, ⟨Drawn0.refl _⟩⟩
  case round =>
    obtain ⟨k, hk, rfl, HD⟩ := hrel
    obtain ⟨⟨m, hm⟩⟩ := HD.out
    subst hm
    by_cases hlt : k < n
    · obtain ⟨x, ex, x0, x1, x2⟩ := at_T44 V2.out (k : Int) (by omega) (by omega)
      obtain ⟨y, ey, y0, y1, y2⟩ := at_T44 V3.out (k : Int) (by omega) (by omega)
      have X0 : w2.cell? (x.add (k * 3)) = some (.int .i64 (rd_T44 s (k : Int)).f0) := x0
      have X1 : w2.cell? ⟨(x.add (k * 3)).block, (x.add (k * 3)).off + 1, none⟩ = some (.int .i64 (rd_T44 s (k : Int)).f1) := x1
      have X2 : w2.cell? ⟨(x.add (k * 3)).block, (x.add (k * 3)).off + 2, none⟩ = some (.int .u8 (rd_T44 s (k : Int)).f2) := x2
      have Y0 : w2.cell? (y.add (k * 3)) = some (.int .i64 (rd_T44 s (k : Int)).f0) := y0
      have Y1 : w2.cell? ⟨(y.add (k * 3)).block, (y.add (k * 3)).off + 1, none⟩ = some (.int .i64 (rd_T44 s (k : Int)).f1) := y1
      have Y2 : w2.cell? ⟨(y.add (k * 3)).block, (y.add (k * 3)).off + 2, none⟩ = some (.int .u8 (rd_T44 s (k : Int)).f2) := y2
      clear x0 x1 x2 y0 y1 y2
      subst ex
      subst ey
      generalize (rd_T44 s (k : Int)).f0 = f0 at *
      generalize (rd_T44 s (k : Int)).f1 = f1 at *
      generalize (rd_T44 s (k : Int)).f2 = f2 at *
      have q1 : (0 : Int) ≤ k := by omega
      have q2 : (k : Int) < n := by omega
      go_wp2
      go_quiet (fail)
      go_wp2
      go_roundw
      case rel => exact ⟨k + 1, by omega, by go_num, ⟨by repeat (first | exact Drawn0.refl _ | apply Drawn0.step)⟩⟩
      case measure => simp [intOf]; omega
    · obtain rfl : k = n := by omega
      have HB4 := Aside0.mk (below_step HB2.out HD.out.below)
      go_wp2_with (go_at_call 12; (with_reducible refine (Go.Proofs.Ytpapncnhlapfeab.KernelWants.works_k _).mono ?_); rintro e w9 ⟨rfl, hb⟩; have HB9 := Aside0.mk (below_step (by repeat (first | (with_reducible first | exact HB4.out | apply below_alloc | apply pw_below_drewN | apply below_drew1) | exact HB4.out)) hb); clear hb)
      go_ret
      exact ⟨rfl, HB9.out⟩

end Go.Proofs.Ytpapncnhlapfeab.KernelScriptsW

namespace Go.Proofs.Ytpapncnhlapfeab.kernelScripts
open Go.ChangeShapes Go.WideShapes Go.ChangeAt Go.RowKit
open Go.ChangeMaps (open_string shut_string)
set_option linter.unusedVariables false
theorem own : ownKnob Try.prog.godebug = none := by kernel_rfl
theorem laidOut : laidOutB Try.prog = true := by kernel_rfl
set_option maxRecDepth 100000 in
theorem lifted (os : Os) (started : os.Started) (H : Type) (enc : TypeId × Value → H) :
    ReturnsInHanded {} Try.checked os 7 .any (Rows.kernelScriptsSpec.pre6 enc Try.prog Try.f7 Rows.kernelScriptsRow.domain false) (Rows.kernelScriptsSpec.post enc Try.prog Try.f7 false true false false) := by
  refine returnsInHanded_of_change_sized (C := Try.checked) own started (by kernel_rfl) Try.func7
    (ChangeSpec.witness6 (enc := enc) (C := Try.checked) false ⟨#[], #[.slice none 0 0, .slice none 0 0], []⟩ 8 (by kernel_rfl) (by kernel_rfl) (by kernel_rfl) (by kernel_rfl)) ?_
  intro W base args ds gs before hval0 hW hcnd hsz0 _
  have hsz : (DataW.weightsEach Try.prog (Try.f7.params.toList ++ Rows.kernelScriptsSpec.plain.varTypes Try.prog) (ds ++ gs)).all (· ≤ reachBytes) = true := hsz0
  have hval : ∀ (j : Nat) t v, Try.f7.params[j]? = some t → args[j]? = some v → Value.okWide Try.prog W .any base t v := hval0
  have hW' := hW
  obtain ⟨p, q, hA0, hV, rfl, hfz, hnd⟩ := hW
  have hA : DataW.TrodAll enc Try.prog W 0 (fun _ => true) true Try.f7.params.toList args.toList ds p := hA0
  rw [Try.params7] at hA hval hsz
  obtain ⟨v0, vs0, d0, ds0, p0, q0, hargs, rfl, rfl, h0, r0⟩ := trodAll_cons hA
  obtain ⟨v1, vs1, d1, ds1, p1, q1, rfl, rfl, rfl, h1, r1⟩ := trodAll_cons r0
  obtain ⟨rfl, rfl, rfl⟩ := trodAll_nil r1
  obtain rfl : args = #[v0, v1] := by cases args; simp_all
  obtain ⟨rfl, rfl⟩ := trodVars_none hV
  obtain ⟨a0, len0, cap0, rfl⟩ := okWide_slice Try.underlying22 (hval 0 22 v0 rfl rfl)
  have k0 := h0
  have lt0 : ∀ x ∈ p0, x.block < W.heap.size := by obtain ⟨m, hm⟩ := k0; exact DataW.trod_lt m _ _ _ hm
  obtain ⟨z0, w0⟩ : ∃ zs, KernelScriptsW.IsRow .u8 W a0 len0 cap0 zs := by
    obtain ⟨fuel, hf⟩ := h0
    rcases open_ints Try.underlying22 Try.underlying5 (by kernel_rfl) hf with ⟨hcs, _⟩ | ⟨x, l, c, zs, hcs, _, hl, hm, hz, _, hcell, hwz⟩
    · simp [Value.cells] at hcs
      obtain ⟨rfl, rfl, rfl⟩ := hcs
      exact ⟨[], .inl ⟨rfl, rfl, rfl, rfl⟩⟩
    · simp [Value.cells] at hcs
      obtain ⟨rfl, rfl, rfl⟩ := hcs
      exact ⟨zs, .inr ⟨_, rfl, hl, hm, by simpa using hz, hcell, hwz⟩⟩
  have y0 : len0 * 1 ≤ 140737488351232 := Go.Proofs.YtpapncnhlapfeabW.PrintWords.sized_ints hsz (j := 0) (t := 22) rfl rfl Try.underlying22 Try.underlying5 (by kernel_rfl) (by kernel_rfl) h0
  obtain ⟨a1, len1, cap1, rfl⟩ := okWide_slice Try.underlying28 (hval 1 28 v1 rfl rfl)
  have k1 := h1
  have lt1 : ∀ x ∈ p1, x.block < W.heap.size := by obtain ⟨m, hm⟩ := k1; exact DataW.trod_lt m _ _ _ hm
  obtain ⟨z1, w1⟩ : ∃ zs, KernelScriptsW.IsRow .i64 W a1 len1 cap1 zs := by
    obtain ⟨fuel, hf⟩ := h1
    rcases open_ints Try.underlying28 Try.underlying3 (by kernel_rfl) hf with ⟨hcs, _⟩ | ⟨x, l, c, zs, hcs, _, hl, hm, hz, _, hcell, hwz⟩
    · simp [Value.cells] at hcs
      obtain ⟨rfl, rfl, rfl⟩ := hcs
      exact ⟨[], .inl ⟨rfl, rfl, rfl, rfl⟩⟩
    · simp [Value.cells] at hcs
      obtain ⟨rfl, rfl, rfl⟩ := hcs
      exact ⟨zs, .inr ⟨_, rfl, hl, hm, by simpa using hz, hcell, hwz⟩⟩
  have y1 : len1 * 8 ≤ 140737488351232 := Go.Proofs.YtpapncnhlapfeabW.PrintWords.sized_ints hsz (j := 1) (t := 28) rfl rfl Try.underlying28 Try.underlying3 (by kernel_rfl) (by kernel_rfl) h1
  clear hA0 hval0 hsz0 hsz
  refine (KernelScriptsW.walk a0 len0 cap0 z0 a1 len1 cap1 z1 W w0 y0 w1 y1).mono fun e W' ⟨he, bel⟩ => ?_
  subst he
  exact ⟨_, rfl, _, _, _, [], _, [], hW', trodAll_mk1 (shut_bool Try.underlying4 _), (trodAll_cons_mk (Below.trod laidOut (by kernel_rfl) (of_decide_eq_true (by kernel_rfl)) k0 bel lt0) (trodAll_cons_mk (Below.trod laidOut (by kernel_rfl) (of_decide_eq_true (by kernel_rfl)) k1 bel lt1) trodAll_mk0)), rfl, bel.frame _, fun h => by cases h⟩
theorem proved : Rows.KernelScriptsSaid :=
  OpenClaim.holds_of_wide 7 Try.f7 rfl rfl rfl rfl rfl rfl rfl ⟨rfl, rfl, rfl, rfl, rfl⟩ rfl rfl rfl rfl rfl (by kernel_rfl) Try.func7 (by kernel_rfl)
    (of_decide_eq_true (by kernel_rfl)) (by unfold Func.isWrapper; first | (rw [if_pos (by decide +kernel)]; kernel_rfl) | (rw [if_neg (by decide +kernel)]; exact ⟨rfl, rfl⟩))
    (fun os started H enc _ => lifted os started H enc)
#print axioms proved
end Go.Proofs.Ytpapncnhlapfeab.kernelScripts
namespace Go.Proofs.Ytpapncnhlapfeab
theorem kernelScripts_holds : Rows.KernelScriptsSaid := kernelScripts.proved
end Go.Proofs.Ytpapncnhlapfeab
