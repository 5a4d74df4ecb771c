/- The walks of a map of frames: making it (strew.New), and asking it (Host, Guest, List). -/
import Derived.Test.YtpapncnhlapfeabPerm
import Derived.Maps.Own
import Derived.Maps.OwnOps
import Derived.Maps.OwnSet
import Derived.Maps.Views
import Derived.StillTailTactics
namespace Go.Proofs.Ytpapncnhlapfeab.StrewMap
open Go Go.RowKit Go.Maps Go.Proofs.Ytpapncnhlapfeab.Order Go.Proofs.Ytpapncnhlapfeab.RefOrder Go.Proofs.Ytpapncnhlapfeab.Perm Go.Proofs.Ytpapncnhlapfeab.PStrewOrders Go.Proofs.YtpapncnhlapfeabW.PrintWords Go.Proofs.YtpapncnhlapfeabW.PrintLast Go.Proofs.YtpapncnhlapfeabW.PrintMore
theorem law : Keyed Try.prog 3 := int_keyed Try.underlying3
theorem zero3 (w : World) : (zeroValue 3).run Try.prog w = .ok (.int .i64 0) w := by kernel_rfl
/-- The way back of the first k places of a row. -/
def mpk (l : List Int) : Nat → DataW Unit
  | 0 => .map []
  | k + 1 => (mpk l k).put (.int .i64 (rd l (k : Int))) (.lit (.int .i64 k))
theorem mpk_succ (l : List Int) (k : Nat) : mpk l (k + 1) = (mpk l k).put (.int .i64 (rd l (k : Int))) (.lit (.int .i64 k)) := rfl
theorem mpk_isMap (l : List Int) (k : Nat) : IsMap (mpk l k) := by
  induction k with
  | zero => exact isMap_empty
  | succ k ih => exact ih.put _ _
theorem isKey (a : Int) : WideAt.IsKeyLit (.int .i64 a) := trivial
theorem ne_key {a b : Int} (h : a ≠ b) : (Lit.int .i64 a) ≠ (Lit.int .i64 b) := fun e => h (by injection e)
theorem mpk_in (l : List Int) (n : Nat) (hg : ∀ i j : Nat, i < n → j < n → rd l (i : Int) = rd l (j : Int) → i = j) (k : Nat) (hk : k ≤ n) (i : Nat) (hi : i < k) :
    (mpk l k).atKey (.int .i64 (rd l (i : Int))) (.lit (.int .i64 0)) = .lit (.int .i64 i) ∧ Maps.has (mpk l k) (.int .i64 (rd l (i : Int))) = true := by
  induction k with
  | zero => omega
  | succ k ih =>
    by_cases h : i = k
    · subst h; exact ⟨atKey_put_same (mpk_isMap l i) (isKey _) _ _, has_put_same (mpk_isMap l i) (isKey _) _⟩
    · have hne : rd l (i : Int) ≠ rd l (k : Int) := fun e => h (hg i k (by omega) (by omega) e)
      have := ih (by omega) (by omega)
      unfold mpk
      rw [atKey_put_other (ne_key hne), has_put_other (ne_key hne)]
      exact this
theorem mpk_out (l : List Int) (x : Int) (k : Nat) (h : ∀ i : Nat, i < k → x ≠ rd l (i : Int)) :
    (mpk l k).atKey (.int .i64 x) (.lit (.int .i64 0)) = .lit (.int .i64 0) ∧ Maps.has (mpk l k) (.int .i64 x) = false := by
  induction k with
  | zero => exact ⟨rfl, rfl⟩
  | succ k ih =>
    have hne := h k (by omega)
    have := ih (fun i hi => h i (by omega))
    unfold mpk
    rw [atKey_put_other (ne_key hne), has_put_other (ne_key hne)]
    exact this
/-- A map of frames at block p, whose frames are l. -/
def MapAt (w : World) (base p : Nat) (l : List Int) : Prop :=
  base ≤ p ∧ ∃ g cap b, w.heap[p]? = some (.cells #[.slice (some ⟨g, 0, none⟩) l.length cap, .map (some b)] 35 (0, 0)) ∧ Kd.R (Kd.int .i64) 3 w base (fun _ => True) (.slice (some ⟨g, 0, none⟩) l.length cap) l ∧
    base ≤ b ∧ w.ownsMap Try.prog 3 (plainElem (H := Unit) Try.prog 3) b l.length (mpk l l.length)
/-- What is added to the first k places. -/
def addk (l : List Int) (f : Int) (k : Nat) : List Int := (List.range l.length).map fun i : Nat => if i < k then rd l (i : Int) + f else rd l (i : Int)
theorem addk_len (l : List Int) (f : Int) (k : Nat) : (addk l f k).length = l.length := by unfold addk; simp
theorem addk_rd (l : List Int) (f : Int) (k i : Nat) (hi : i < l.length) : rd (addk l f k) (i : Int) = if i < k then rd l (i : Int) + f else rd l (i : Int) := by
  rw [rd_nat]; unfold addk
  rw [List.getD_eq_getElem?_getD, List.getElem?_map, List.getElem?_range hi]; rfl
theorem addk_zero (l : List Int) (f : Int) : addk l f 0 = l := by
  apply List.ext_getElem?
  intro i
  unfold addk
  rw [List.getElem?_map]
  by_cases hi : i < l.length
  · rw [List.getElem?_range hi, List.getElem?_eq_getElem hi]
    simp [rd_nat, hi]
  · rw [List.getElem?_eq_none (by simp; omega), List.getElem?_eq_none (by omega)]; rfl
theorem addk_set (l : List Int) (f : Int) (k : Nat) (hk : k < l.length) : (addk l f k).set k (rd l (k : Int) + f) = addk l f (k + 1) := by
  apply List.ext_getElem?
  intro i
  rw [List.getElem?_set]
  by_cases h : k = i
  · subst h
    rw [if_pos rfl, if_pos (by rw [addk_len]; exact hk)]
    unfold addk
    rw [List.getElem?_map, List.getElem?_range hk]; simp
  · rw [if_neg h]
    unfold addk
    rw [List.getElem?_map, List.getElem?_map]
    by_cases hi : i < l.length
    · rw [List.getElem?_range hi]
      have : (i < k + 1) = (i < k) := by rw [eq_iff_iff]; omega
      simp [this]
    · rw [List.getElem?_eq_none (by simp; omega)]; rfl
theorem wf_i64 {a : Int} (h0 : -9223372036854775808 ≤ a) (h1 : a ≤ 9223372036854775807) : (Lit.int .i64 a).wf = true := by
  simp [Lit.wf, IntKind.min, IntKind.max, IntKind.bits, IntKind.signed]; omega
set_option maxHeartbeats 1000000 in
set_option maxRecDepth 100000 in
theorem new_any (n : Nat) (f key : Int) (w : World) (h1 : 1 ≤ n) (hn : n ≤ 64) (hf0 : 0 ≤ f) (hf : f ≤ 512 - n) (hk0 : 0 ≤ key) (hk : key < 4294967296) :
    Calls Try.prog 22 #[.int .i64 n, .int .i64 f, .int .u32 key] w fun e w' => ∃ p, e = .returned (.tuple #[.pointer (some ⟨p, 0, none⟩), .int .i64 0]) ∧ MapAt w' w.heap.size p (addk (ord n key) f n) ∧ Below w.heap.size w w' := by
  have O : ∀ w : World, Calls Try.prog 14 #[.int .i64 n, .int .u32 key] w fun e w' => ∃ v : Value, e = .returned v ∧ Kd.R (Kd.int .i64) 3 w' w.heap.size (fun _ => True) v (ord n key) ∧ Below w.heap.size w w' := fun w => order_any n key w h1 (by omega) hk0 hk
  have HG := Aside0.mk (good_ord n key (by omega))
  generalize ord n key = l at *
  have O := Aside0.mk O
  have HB := Aside0.mk (Below.refl w.heap.size w)
  have hmm := @run_makeMap Try.prog
  have t1 : decide ((n : Int) < 1) = false := decide_eq_false (by omega)
  have t2 : decide (64 < (n : Int)) = false := decide_eq_false (by omega)
  have t3 : decide (f < 0) = false := decide_eq_false (by omega)
  have t4 : decide (512 - (n : Int) < f) = false := decide_eq_false (by omega)
  go_enter Try.func22, Try.ntmps22
  go_wp2_with (first | (go_at_call 14; (with_reducible refine (O.out _).mono ?_); rintro e w1 ⟨v, rfl, hr, hb⟩; have HR1 := Aside0.mk hr; have HB1 := Aside0.mk (below_step (by repeat (first | (with_reducible first | exact HB.out | apply below_alloc | apply pw_below_drewN | apply below_drew1) | exact HB.out)) hb); clear hr hb; obtain ⟨gl, cl, el, bl, ll, cells, hl⟩ := Kd.R_form HR1.out (by have := HG.out.1; omega); have EL := HG.out.1; rw [EL] at el; clear EL; subst el; clear bl ll hl cells))
  have CX := Aside0.mk (heap_alloc_new (w1.alloc (.map #[] 0)) (Obj.cells #[.slice (some ⟨gl, 0, none⟩) n cl, .map (some w1.heap.size)] 35))
  have OM := Aside0.mk ((World.ownsMap_made w1 Try.prog 3 (plainElem (H := Unit) Try.prog 3)).alloc (Obj.cells #[.slice (some ⟨gl, 0, none⟩) n cl, .map (some w1.heap.size)] 35))
  have HR2 := Aside0.mk (Kd.R_alloc (Kd.R_alloc HR1.out (.map #[] 0)) (Obj.cells #[.slice (some ⟨gl, 0, none⟩) n cl, .map (some w1.heap.size)] 35))
  have HB2 := Aside0.mk (below_alloc (below_alloc HB1.out (.map #[] 0)) (Obj.cells #[.slice (some ⟨gl, 0, none⟩) n cl, .map (some w1.heap.size)] 35))
  have BX := Aside0.mk (below_size HB1.out)
  rw [show (w1.alloc (.map #[] 0)).heap.size = w1.heap.size + 1 by simp] at CX
  have HL := Aside0.mk HG.out.1
  generalize (w1.alloc (.map #[] 0)).alloc (Obj.cells #[.slice (some ⟨gl, 0, none⟩) n cl, .map (some w1.heap.size)] 35) = w2 at *
  generalize w1.heap.size = b at *
  go_loopw [9, 33] (fun _ v33 wr => ∃ k : Nat, k ≤ n ∧ v33 = .int .i64 k ∧ Aside0 (wr.heap[b + 1]? = some (.cells #[.slice (some ⟨gl, 0, none⟩) n cl, .map (some b)] 35 (0, 0))) ∧ Aside0 (Kd.R (Kd.int .i64) 3 wr w.heap.size (fun _ => True) (.slice (some ⟨gl, 0, none⟩) n cl) (addk l f k)) ∧ Aside0 (wr.ownsMap Try.prog 3 (plainElem (H := Unit) Try.prog 3) b k (mpk (addk l f n) k)) ∧ Aside0 (Below w.heap.size w wr)) (fun _ v33 _ => n - (intOf v33).toNat)
  case atStart => exact ⟨0, Nat.zero_le _, rfl, CX, ⟨by rw [addk_zero]; exact HR2.out⟩, OM, HB2⟩
  case round =>
    clear CX HR1 HR2 OM HB HB1 HB2
    obtain ⟨k, hk, rfl, CX, HR, OM, HB⟩ := hrel
    by_cases hlt : k < n
    · have r := HG.out.2.1 k hlt
      have RK := Aside0.mk (addk_rd l f k k (by rw [HL.out]; exact hlt))
      obtain ⟨lc0, lf0⟩ := Kd.R_celln 0 HR.out (k : Int) (by omega) (by omega)
      have P := Aside0.mk (Kd.R_putg HR.out (k : Int) (rd l (k : Int) + f)).1
      obtain ⟨g', c', e', b', l', cells', h'⟩ := Kd.R_form HR.out (by rw [addk_len, HL.out]; omega)
      have eg : gl = g' := by injection e' with ea; injection ea with ea; injection ea with ea
      subst eg
      have gp : gl ≠ b + 1 := by
        rintro rfl
        rw [CX.out] at h'
        injection h' with h'
        injection h' with _ h'
        exact absurd h' (by decide)
      have gb : gl ≠ b := by
        rintro rfl
        obtain ⟨es, clk, hb, _⟩ := OM.out
        rw [hb] at h'
        injection h' with h'
        cases h'
      have GB := Aside0.mk b'
      have x0 : wr.cell? ⟨b + 1, 0, none⟩ = some (.slice (some ⟨gl, 0, none⟩) n cl) := by simp [World.cell?, CX.out]
      have x1 : wr.cell? ⟨b + 1, 1, none⟩ = some (.map (some b)) := by simp [World.cell?, CX.out]
      have c1 : wr.cell? ⟨gl, k, none⟩ = some (.int .i64 (rd l (k : Int))) := by
        have := RK.out; rw [if_neg (Nat.lt_irrefl k)] at this; rw [← this]; exact lc0
      have f1 : wr.frozen? ⟨gl, k, none⟩ = false := lf0
      clear lc0 lf0 e' b' l' cells' h'
      go_wp2
      have y0 : (wr.setCell ⟨gl, k, none⟩ (.int .i64 (rd l (k : Int) + f))).heap[b + 1]? = some (.cells #[.slice (some ⟨gl, 0, none⟩) n cl, .map (some b)] 35 (0, 0)) := by
        rw [Below.heap_setCell _ _ _ _ (fun e => gp e.symm)]; exact CX.out
      have z0 : (wr.setCell ⟨gl, k, none⟩ (.int .i64 (rd l (k : Int) + f))).cell? ⟨b + 1, 0, none⟩ = some (.slice (some ⟨gl, 0, none⟩) n cl) := by simp [World.cell?, y0]
      have z1 : (wr.setCell ⟨gl, k, none⟩ (.int .i64 (rd l (k : Int) + f))).cell? ⟨b + 1, 1, none⟩ = some (.map (some b)) := by simp [World.cell?, y0]
      have P' : Aside0 (Kd.R (Kd.int .i64) 3 (wr.setCell ⟨gl, k, none⟩ (.int .i64 (rd l (k : Int) + f))) w.heap.size (fun _ => True) (.slice (some ⟨gl, 0, none⟩) n cl) (addk l f (k + 1))) := .mk (by rw [← addk_set l f k (by rw [HL.out]; exact hlt)]; exact P.out)
      have OM' : Aside0 ((wr.setCell ⟨gl, k, none⟩ (.int .i64 (rd l (k : Int) + f))).ownsMap Try.prog 3 (plainElem (H := Unit) Try.prog 3) b k (mpk (addk l f n) k)) := .mk (by
        obtain ⟨es, clk, hb, r⟩ := OM.out
        exact ⟨es, clk, by rw [Below.heap_setCell _ _ _ _ (fun e => gb e.symm)]; exact hb, r⟩)
      obtain ⟨lc1, _⟩ := Kd.R_celln 0 P'.out (k : Int) (by omega) (by omega)
      have RK2 : rd (addk l f (k + 1)) (k : Int) = rd l (k : Int) + f := by
        have := addk_rd l f (k + 1) k (by rw [HL.out]; exact hlt); rw [if_pos (by omega)] at this; exact this
      have z2 : (wr.setCell ⟨gl, k, none⟩ (.int .i64 (rd l (k : Int) + f))).cell? ⟨gl, k, none⟩ = some (.int .i64 (rd l (k : Int) + f)) := by
        have := lc1; rw [show rdOf (0 : Int) (addk l f (k + 1)) (k : Int) = rd l (k : Int) + f from RK2] at this; exact this
      have B' := Aside0.mk (below_set (j := k) (v := .int .i64 (rd l (k : Int) + f)) HB.out GB.out)
      have Y0 := Aside0.mk y0
      have RN : Aside0 (mpk (addk l f n) (k + 1) = (mpk (addk l f n) k).put (.int .i64 (rd l (k : Int) + f)) (.lit (.int .i64 k))) := .mk (by
        have := addk_rd l f n k (by rw [HL.out]; exact hlt); rw [if_pos hlt] at this; rw [mpk_succ, this])
      clear x0 x1 c1 f1 y0 lc1 RK2 P OM HR CX RK HB
      generalize wr.setCell ⟨gl, k, none⟩ (.int .i64 (rd l (k : Int) + f)) = w3 at *
      generalize hv : rd l (k : Int) + f = v at *
      have hwf : (Lit.int .i64 v).wf = true := wf_i64 (by omega) (by omega)
      have HW := Aside0.mk hwf
      have KW := Aside0.mk (wf_i64 (a := (k : Int)) (by omega) (by omega))
      have kn : k < n := hlt
      clear hv hwf r gp gb
      go_still_tail 12, (by kernel_rfl)
      change wpList _ _ _ _ _ w3.drew
      go_wp2_with (at_mapUpdate; refine wpList_mapUpdate_own _ rfl _ _ _ 33 rfl 3 3 law Try.underlying33 _ b k _ rfl OM'.out.drew (by unfold maxLen; omega) _ _ _ rfl rfl (keyOf_int_mk Try.underlying3 HW.out) _ [] (plainElem_int Try.underlying3 KW.out) ?_; intro w4 hown4 hg4; rw [← RN.out] at hown4; have OM4 := Aside0.mk hown4; have G4 := Aside0.mk hg4; clear hown4 hg4)
      go_roundw
      case rel =>
        refine ⟨k + 1, by omega, by go_num, ⟨?_⟩, ⟨?_⟩, OM4, ⟨?_⟩⟩
        · exact (G4.out.block (b + 1) (lt_of_block Y0.out) (by simp)).trans Y0.out
        · refine Kd.R_mono (Kd.R_grown (Kd.R_bound (Kd.R_drew P'.out)) G4.out (fun j hj e => ?_)) (fun _ _ => trivial)
          obtain ⟨_, _, _, q, _, cells, hc⟩ := hj
          injection e with e
          subst e
          obtain ⟨es, clk, hb, _⟩ := OM'.out
          rw [show w3.drew.heap[j]? = w3.heap[j]? from rfl, hb] at hc
          injection hc with hc
          cases hc
        · exact (below_drew B'.out).grown G4.out (below_size (below_drew B'.out)) (fun j hj => by cases hj; exact BX.out)
      case measure => simp [intOf]; omega
    · obtain rfl : k = n := by omega
      go_wp2
      go_ret2
      refine ⟨b + 1, rfl, ⟨by have := BX.out; omega, gl, cl, b, ?_, ?_, BX.out, ?_⟩, HB.out⟩
      · rw [addk_len, HL.out]; exact CX.out
      · rw [addk_len, HL.out]; exact HR.out
      · rw [addk_len, HL.out]; exact OM.out
end Go.Proofs.Ytpapncnhlapfeab.StrewMap
