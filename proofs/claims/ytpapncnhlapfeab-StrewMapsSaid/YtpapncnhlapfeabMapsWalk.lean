/- The walks of StrewMaps: in each case of its arguments it answers true. -/
import Derived.Test.YtpapncnhlapfeabMapFacts
namespace Go.Proofs.Ytpapncnhlapfeab.MapsWalk
open Go Go.RowKit Go.Proofs.Ytpapncnhlapfeab.Order Go.Proofs.Ytpapncnhlapfeab.RefOrder Go.Proofs.YtpapncnhlapfeabW.PrintWords Go.Proofs.YtpapncnhlapfeabW.PrintLast Go.Proofs.YtpapncnhlapfeabW.PrintMore Go.Proofs.Ytpapncnhlapfeab.Perm Go.Proofs.Ytpapncnhlapfeab.PStrewOrders Go.Proofs.Ytpapncnhlapfeab.StrewMap Go.Maps Go.Proofs.Ytpapncnhlapfeab.MapFacts
theorem map_later {w w' : World} {base p : Nat} {l : List Int} (h : MapAt w base p l) (hb : Below w.heap.size w w') : MapAt w' base p l := by
  obtain ⟨h1, g, cap, b, hp, hr, h2, es, clk, hm, r⟩ := h
  exact ⟨h1, g, cap, b, (hb.block p (lt_of_block hp)).trans hp, Kd.R_below hr hb, h2, es, clk, (hb.block b (lt_of_block hm)).trans hm, r⟩
theorem C_of_R {w : World} {A : Option Addr} {n c : Nat} {base : Nat} {ok : Nat → Prop} {l : List Int} (h : Kd.R (Kd.int .i64) 3 w base ok (.slice A n c) l) : Kd.C (Kd.int .i64) w A l.length l := (Kd.R_reads' h).2.2

set_option maxHeartbeats 1000000 in
set_option maxRecDepth 100000 in
theorem bad0 (n f x0 x1 x2 : Int) (w : World) (hw : -9223372036854775808 ≤ n ∧ n ≤ 9223372036854775807) (h1 : n < 1) :
    Calls Try.prog 9 #[.int .i64 n, .int .i64 f, .agg #[.int .u32 x0, .int .u32 x1, .int .u32 x2]] w fun e w' => e = .returned (.bool true) ∧ Below w.heap.size w w' := by
  have B := Aside0.mk (fun w => new_bad n f x0 w hw (by omega))
  have t1 : decide (n < 1) = true := decide_eq_true h1
  have HB := Aside0.mk (Below.refl w.heap.size w)
  go_enter Try.func9, Try.ntmps9
  go_wp2_with (first | (go_at_call 22; (with_reducible refine (B.out _).mono ?_); rintro e w' ⟨rfl, rfl⟩) | (go_at_call 16; (with_reducible refine (works_any _).mono ?_); rintro e w9 ⟨rfl, hb⟩; have HB9 := Aside0.mk (below_step (by repeat (first | (with_reducible first | exact HB.out | apply below_alloc | apply pw_below_drewN | apply below_drew1) | exact HB.out)) hb); clear hb))
  go_ret
  exact ⟨rfl, HB9.out⟩

set_option maxHeartbeats 1000000 in
set_option maxRecDepth 100000 in
theorem bad1 (n f x0 x1 x2 : Int) (w : World) (hw : -9223372036854775808 ≤ n ∧ n ≤ 9223372036854775807) (h1 : ¬ n < 1) (h2 : 64 < n) :
    Calls Try.prog 9 #[.int .i64 n, .int .i64 f, .agg #[.int .u32 x0, .int .u32 x1, .int .u32 x2]] w fun e w' => e = .returned (.bool true) ∧ Below w.heap.size w w' := by
  have B := Aside0.mk (fun w => new_bad n f x0 w hw (by omega))
  have t1 : decide (n < 1) = false := decide_eq_false h1
  have t2 : decide (64 < n) = true := decide_eq_true h2
  have HB := Aside0.mk (Below.refl w.heap.size w)
  go_enter Try.func9, Try.ntmps9
  go_wp2_with (first | (go_at_call 22; (with_reducible refine (B.out _).mono ?_); rintro e w' ⟨rfl, rfl⟩) | (go_at_call 16; (with_reducible refine (works_any _).mono ?_); rintro e w9 ⟨rfl, hb⟩; have HB9 := Aside0.mk (below_step (by repeat (first | (with_reducible first | exact HB.out | apply below_alloc | apply pw_below_drewN | apply below_drew1) | exact HB.out)) hb); clear hb))
  go_ret
  exact ⟨rfl, HB9.out⟩

set_option maxHeartbeats 1000000 in
set_option maxRecDepth 100000 in
theorem bad2 (n f x0 x1 x2 : Int) (w : World) (hw : -9223372036854775808 ≤ n ∧ n ≤ 9223372036854775807) (h1 : ¬ n < 1) (h2 : ¬ 64 < n) (h3 : f < 0) :
    Calls Try.prog 9 #[.int .i64 n, .int .i64 f, .agg #[.int .u32 x0, .int .u32 x1, .int .u32 x2]] w fun e w' => e = .returned (.bool true) ∧ Below w.heap.size w w' := by
  have B := Aside0.mk (fun w => new_bad n f x0 w hw (by omega))
  have t1 : decide (n < 1) = false := decide_eq_false h1
  have t2 : decide (64 < n) = false := decide_eq_false h2
  have t3 : decide (f < 0) = true := decide_eq_true h3
  have HB := Aside0.mk (Below.refl w.heap.size w)
  go_enter Try.func9, Try.ntmps9
  go_wp2_with (first | (go_at_call 22; (with_reducible refine (B.out _).mono ?_); rintro e w' ⟨rfl, rfl⟩) | (go_at_call 16; (with_reducible refine (works_any _).mono ?_); rintro e w9 ⟨rfl, hb⟩; have HB9 := Aside0.mk (below_step (by repeat (first | (with_reducible first | exact HB.out | apply below_alloc | apply pw_below_drewN | apply below_drew1) | exact HB.out)) hb); clear hb))
  go_ret
  exact ⟨rfl, HB9.out⟩

set_option maxHeartbeats 1000000 in
set_option maxRecDepth 100000 in
theorem bad3 (n f x0 x1 x2 : Int) (w : World) (hw : -9223372036854775808 ≤ n ∧ n ≤ 9223372036854775807) (h1 : ¬ n < 1) (h2 : ¬ 64 < n) (h3 : ¬ f < 0) (h4 : 512 - n < f) :
    Calls Try.prog 9 #[.int .i64 n, .int .i64 f, .agg #[.int .u32 x0, .int .u32 x1, .int .u32 x2]] w fun e w' => e = .returned (.bool true) ∧ Below w.heap.size w w' := by
  have B := Aside0.mk (fun w => new_bad n f x0 w hw (by omega))
  have t1 : decide (n < 1) = false := decide_eq_false h1
  have t2 : decide (64 < n) = false := decide_eq_false h2
  have t3 : decide (f < 0) = false := decide_eq_false h3
  have t4 : decide (512 - n < f) = true := decide_eq_true h4
  have HB := Aside0.mk (Below.refl w.heap.size w)
  go_enter Try.func9, Try.ntmps9
  go_wp2_with (first | (go_at_call 22; (with_reducible refine (B.out _).mono ?_); rintro e w' ⟨rfl, rfl⟩) | (go_at_call 16; (with_reducible refine (works_any _).mono ?_); rintro e w9 ⟨rfl, hb⟩; have HB9 := Aside0.mk (below_step (by repeat (first | (with_reducible first | exact HB.out | apply below_alloc | apply pw_below_drewN | apply below_drew1) | exact HB.out)) hb); clear hb))
  go_ret
  exact ⟨rfl, HB9.out⟩

/-- What is asked of the host's frame: a number and whether there is one; as a number of rounds of the law's own search finds it. -/
def Found (m : List Int) (n : Nat) (at_ : Int) (c : Int) (is : Bool) : Prop := (is = true ∧ ∃ i : Nat, i < n ∧ rd m (i : Int) = at_ ∧ c = i) ∨ (is = false ∧ c = 0 ∧ ∀ i : Nat, i < n → rd m (i : Int) ≠ at_)

set_option maxHeartbeats 4000000 in
set_option maxRecDepth 100000 in
theorem good_in (n : Nat) (f x0 x1 x2 : Int) (w : World) (n1 : 1 ≤ n) (n2 : n ≤ 64) (f0 : 0 ≤ f) (f1 : f ≤ 512 - n) (a0 : 0 ≤ x0) (a1 : x0 < 4294967296) (b0 : 0 ≤ x1) (b1 : x1 < 4294967296) (c0 : 0 ≤ x2) (c1 : x2 < 4294967296) (k : Nat) (hk : k < n) (hx1 : x1 % 70 - 3 = (k : Int)) :
    Calls Try.prog 9 #[.int .i64 n, .int .i64 f, .agg #[.int .u32 x0, .int .u32 x1, .int .u32 x2]] w fun e w' => e = .returned (.bool true) ∧ Below w.heap.size w w' := by
  have NW := fun w => new_any n f x0 w n1 n2 f0 f1 a0 a1
  have RF := fun w => ref_any n x0 w n1 (by omega) a0 a1
  have HG := Aside0.mk (good_ord n x0 n1)
  generalize ord n x0 = l at *
  have IN := Aside0.mk (mpk_in (addk l f n) n (addk_inj l f n HG.out) n (Nat.le_refl _))
  have IJ := Aside0.mk (addk_inj l f n HG.out)
  have LL : (addk l f n).length = n := by rw [addk_len]; exact HG.out.1
  have HL := Aside0.mk LL
  clear LL
  have BDS := Aside0.mk (addk_bd l f n HG.out)
  have NW := Aside0.mk NW
  have RF := Aside0.mk RF
  have HB := Aside0.mk (Below.refl w.heap.size w)
  have t1 : decide ((n : Int) < 1) = false := decide_eq_false (by omega)
  have t2 : decide (64 < (n : Int)) = false := decide_eq_false (by omega)
  have t3 : decide (f < 0) = false := decide_eq_false (by omega)
  have t4 : decide (512 - (n : Int) < f) = false := decide_eq_false (by omega)
  have HX := Aside0.mk hx1
  clear hx1
  go_enter Try.func9, Try.ntmps9
  go_wp2_with (first | (go_at_call 22; (with_reducible refine (NW.out _).mono ?_); rintro e w1 ⟨p, rfl, hm, hb⟩; have HM := Aside0.mk hm; have HB1 := Aside0.mk (below_step (by repeat (first | (with_reducible first | exact HB.out | apply below_alloc | apply pw_below_drewN | apply below_drew1) | exact HB.out)) hb); have NB := heap_alloc_new w (Obj.cells #[.int .u32 x0, .int .u32 x1, .int .u32 x2] 50); have HX0 := Aside0.mk ((hb.block w.heap.size (lt_of_block NB)).trans NB); clear NB; have e0 : w1.cell? ⟨w.heap.size, 0, none⟩ = some (.int .u32 x0) := (by simp [World.cell?, HX0.out]); clear hm hb) | (go_at_call 15; (with_reducible refine (RF.out _).mono ?_); rintro e w2 ⟨v, rfl, hr, hb⟩; have HR := Aside0.mk hr; have HB2 := Aside0.mk (below_step (by repeat (first | (with_reducible first | exact HB1.out | apply below_alloc | apply pw_below_drewN | apply below_drew1) | exact HB1.out)) hb); have MB2 := Aside0.mk hb; clear hr hb e0; obtain ⟨g2, cap2, ev, bl2, ll2, cells2, hl2⟩ := Kd.R_form HR.out (by rw [HG.out.1]; omega); rw [HG.out.1] at ev; subst ev; have G2 := Aside0.mk bl2; clear bl2 ll2 hl2 cells2))
  go_loopw [10] (fun v10 wr => ∃ k : Nat, k ≤ n ∧ v10 = .int .i64 k ∧ Aside0 (Kd.R (Kd.int .i64) 3 wr w1.heap.size (fun _ => True) (.slice (some ⟨g2, 0, none⟩) n cap2) (addk l f k)) ∧ Aside0 (Below w1.heap.size w1 wr)) (fun v10 _ => n - (intOf v10).toNat)
  case atStart => exact ⟨0, Nat.zero_le _, rfl, ⟨by rw [addk_zero]; exact HR.out⟩, MB2⟩
  case round =>
    clear HR MB2 HB HB2
    obtain ⟨j, hj, rfl, HR, MB⟩ := hrel
    by_cases hlt : j < n
    · have r := HG.out.2.1 j hlt
      have RK := Aside0.mk (addk_rd l f j j (by rw [HG.out.1]; exact hlt))
      obtain ⟨lc0, lf0⟩ := Kd.R_celln 0 HR.out (j : Int) (by omega) (by omega)
      have P := Aside0.mk (Kd.R_putg HR.out (j : Int) (rd l (j : Int) + f)).1
      have z1 : wr.cell? ⟨g2, j, none⟩ = some (.int .i64 (rd l (j : Int))) := by
        have := RK.out; rw [if_neg (Nat.lt_irrefl j)] at this; rw [← this]; exact lc0
      have z2 : wr.frozen? ⟨g2, j, none⟩ = false := lf0
      clear lc0 lf0
      go_wp2
      go_roundw
      case rel => exact ⟨j + 1, by omega, by go_num, ⟨by rw [← addk_set l f j (by rw [HG.out.1]; exact hlt)]; exact P.out⟩, ⟨below_set MB.out G2.out⟩⟩
      case measure => simp [intOf]; omega
    · obtain rfl : j = n := by omega
      have HM2 := Aside0.mk (map_later HM.out MB.out)
      have BW := Aside0.mk (below_step HB1.out MB.out)
      have HX2 := Aside0.mk ((MB.out.block w.heap.size (lt_of_block HX0.out)).trans HX0.out)
      have e0 : wr.cell? ⟨w.heap.size, 1, none⟩ = some (.int .u32 x1) := by simp [World.cell?, HX2.out]
      clear HM MB HX0
      have LM := HL.out
      generalize addk l f j = m at *
      have HL2 := Aside0.mk LM
      clear LM HL
      obtain ⟨g, cap, b, c0, c1, cs, om, pl, cm⟩ := map_cells HM2.out
      rw [HL2.out] at c0 cs om cm
      have LS := fun w3 => list_any p j cap (some ⟨g, 0, none⟩) m w3
      have C0 := Aside0.mk c0
      have CM := Aside0.mk cm
      have PL := Aside0.mk pl
      have LS := Aside0.mk LS
      clear c0 c1 cs om pl cm
      go_upto_region 11 with (first | (go_at_call 19; (with_reducible refine (LS.out _ PL.out C0.out CM ?s1).mono ?_); (case s1 => omega); rintro e w3 ⟨v, rfl, hr, hb⟩; have HV := Aside0.mk hr; have SB := Aside0.mk hb; clear hr hb e0; obtain ⟨A3, cap3, ev⟩ := Kd.R_slice HV.out; subst ev) | (go_at_call 13; rw [HL2.out]; have HQ := (same_eq A3 (some ⟨g2, 0, none⟩) cap3 cap2 m _ (by rw [HL2.out]; omega) (C_of_R HV.out) (C_of_R (Kd.R_below HR.out SB.out))); rw [HL2.out] at HQ; (with_reducible refine HQ.mono ?_); clear HQ; rintro e w4 ⟨rfl, hb⟩; have SB2 := Aside0.mk hb; clear hb))
      have ST := below_step SB.out SB2.out
      have HM4 := Aside0.mk (map_later HM2.out ST)
      have HR4 := Aside0.mk (Kd.R_below HR.out ST)
      have HX4 := Aside0.mk ((ST.block w.heap.size (lt_of_block HX2.out)).trans HX2.out)
      have BW4 := Aside0.mk (below_step BW.out ST)
      clear ST SB SB2 HV HM2 HR HX2 BW C0 CM PL LS
      obtain ⟨g', cap', b', c0, c1, cs, om, pl, cm⟩ := map_cells HM4.out
      rw [HL2.out] at c0 cs om cm
      have C0 := Aside0.mk c0
      have C1 := Aside0.mk c1
      have CS := Aside0.mk cs
      have OM := Aside0.mk om
      clear c0 c1 cs om pl cm HM4
      have WS : Aside0 (∀ i : Nat, i < j → w4.cell? ⟨g2, i, none⟩ = some (.int .i64 (rd m (i : Int)))) := .mk (fun i hi => (Kd.R_celln 0 HR4.out (i : Int) (by omega) (by omega)).1)
      clear HR4
      have e1 : w4.cell? ⟨w.heap.size, 1, none⟩ = some (.int .u32 x1) := by simp [World.cell?, HX4.out]
      have e2 : w4.cell? ⟨w.heap.size, 2, none⟩ = some (.int .u32 x2) := by simp [World.cell?, HX4.out]
      obtain ⟨at_, hat⟩ : ∃ a : Int, x2 % 520 = a := ⟨_, rfl⟩
      have AB : 0 ≤ at_ ∧ at_ < 520 := by omega
      obtain ⟨c, is, A1, A2, HF⟩ : ∃ (c : Int) (is : Bool), Aside0 ((mpk m j).atKey (.int .i64 at_) (.lit (.int .i64 0)) = .lit (.int .i64 c)) ∧ Aside0 (Maps.has (mpk m j) (.int .i64 at_) = is) ∧ Aside0 (Found m j at_ c is) := by
        by_cases hex : ∃ i : Nat, i < j ∧ rd m (i : Int) = at_
        · obtain ⟨i, hi, hr⟩ := hex
          have := IN.out i hi
          rw [hr] at this
          exact ⟨i, true, ⟨this.1⟩, ⟨this.2⟩, ⟨.inl ⟨rfl, i, hi, hr, rfl⟩⟩⟩
        · have := mpk_out m at_ j (fun i hi e => hex ⟨i, hi, e.symm⟩)
          exact ⟨0, false, ⟨this.1⟩, ⟨this.2⟩, ⟨.inr ⟨rfl, rfl, fun i hi e => hex ⟨i, hi, e⟩⟩⟩⟩
      have WA := Aside0.mk (wf_i64 (a := at_) (by omega) (by omega))
      obtain ⟨ab0, ab1⟩ := AB
      have q1 : decide (0 ≤ (k : Int)) = true := decide_eq_true (by omega)
      have q2 : decide ((k : Int) < (j : Int)) = true := decide_eq_true (by omega)
      have hx1 := HX.out
      have wk := WS.out k hk
      go_upto_region 17 with (first | (go_at_call 17; (with_reducible refine (host_in p j cap' g' k (rd m (k : Int)) _ C0.out hk (CS.out k hk)).mono ?_); rintro e w' ⟨rfl, rfl⟩) | (go_at_call 18; (with_reducible refine (guest_at p b' j (mpk m j) at_ c is _ WA.out C1.out OM A1 A2).mono ?_); rintro e w' ⟨rfl, rfl⟩))
      clear hx1 hat
      go_wp2
      go_loop [17, 18, 19] (fun v17 v18 v19 => ∃ (i : Nat) (fd : Int) (th : Bool), i ≤ j ∧ v17 = .int .i64 fd ∧ v18 = .bool th ∧ v19 = .int .i64 i ∧ Aside0 (Found m i at_ fd th)) (fun _ _ v19 => j - (intOf v19).toNat)
      case atStart => exact ⟨0, 0, false, Nat.zero_le _, rfl, rfl, rfl, ⟨.inr ⟨rfl, rfl, fun i hi => absurd hi (Nat.not_lt_zero i)⟩⟩⟩
      case round =>
        obtain ⟨i, fd, th, hi, rfl, rfl, rfl, FD⟩ := hrel
        by_cases hlt : i < j
        · have ci := WS.out i hlt
          by_cases he : rd m (i : Int) = at_
          · have HE := Aside0.mk he
            have te : (rd m (i : Int) == at_) = true := beq_iff_eq.mpr he
            clear he
            go_wp2
            go_round
            case rel => exact ⟨i + 1, i, true, by omega, rfl, rfl, by go_num, ⟨.inl ⟨rfl, i, by omega, HE.out, rfl⟩⟩⟩
            case measure => simp [intOf]; omega
          · have HE := Aside0.mk he
            have te : (rd m (i : Int) == at_) = false := beq_eq_false_iff_ne.mpr he
            clear he
            go_wp2
            go_round
            case rel =>
              refine ⟨i + 1, fd, th, by omega, rfl, rfl, by go_num, ⟨?_⟩⟩
              rcases FD.out with ⟨h1, a, h2, h3, h4⟩ | ⟨h1, h2, h3⟩
              · exact .inl ⟨h1, a, by omega, h3, h4⟩
              · exact .inr ⟨h1, h2, fun a ha => by
                  by_cases ea : a = i
                  · subst ea; exact HE.out
                  · exact h3 a (by omega)⟩
            case measure => simp [intOf]; omega
        · obtain rfl : i = j := by omega
          have EQ : c = fd ∧ is = th := by
            rcases HF.out with ⟨h1, a, h2, h3, h4⟩ | ⟨h1, h2, h3⟩ <;> rcases FD.out with ⟨g1, a', g2, g3, g4⟩ | ⟨g1, g2, g3⟩
            · have := IJ.out a a' h2 g2 (by rw [h3, g3])
              exact ⟨by omega, by rw [h1, g1]⟩
            · exact absurd h3 (g3 a h2)
            · exact absurd g3 (h3 a' g2)
            · exact ⟨by rw [h2, g2], by rw [h1, g1]⟩
          obtain ⟨rfl, rfl⟩ := EQ
          go_wp2_with (go_at_call 16; (with_reducible refine (works_any _).mono ?_); rintro e w9 ⟨rfl, hb⟩; have HB9 := Aside0.mk (below_step (by repeat (first | (with_reducible first | exact BW4.out | apply below_alloc | apply pw_below_drewN | apply below_drew1) | exact BW4.out)) hb); clear hb)
          go_ret
          exact ⟨rfl, HB9.out⟩

set_option maxHeartbeats 4000000 in
set_option maxRecDepth 100000 in
theorem good_low (n : Nat) (f x0 x1 x2 : Int) (w : World) (n1 : 1 ≤ n) (n2 : n ≤ 64) (f0 : 0 ≤ f) (f1 : f ≤ 512 - n) (a0 : 0 ≤ x0) (a1 : x0 < 4294967296) (b0 : 0 ≤ x1) (b1 : x1 < 4294967296) (c0 : 0 ≤ x2) (c1 : x2 < 4294967296) (k : Int) (hk : k < 0) (hx1 : x1 % 70 - 3 = k) :
    Calls Try.prog 9 #[.int .i64 n, .int .i64 f, .agg #[.int .u32 x0, .int .u32 x1, .int .u32 x2]] w fun e w' => e = .returned (.bool true) ∧ Below w.heap.size w w' := by
  have NW := fun w => new_any n f x0 w n1 n2 f0 f1 a0 a1
  have RF := fun w => ref_any n x0 w n1 (by omega) a0 a1
  have HG := Aside0.mk (good_ord n x0 n1)
  generalize ord n x0 = l at *
  have IN := Aside0.mk (mpk_in (addk l f n) n (addk_inj l f n HG.out) n (Nat.le_refl _))
  have IJ := Aside0.mk (addk_inj l f n HG.out)
  have LL : (addk l f n).length = n := by rw [addk_len]; exact HG.out.1
  have HL := Aside0.mk LL
  clear LL
  have BDS := Aside0.mk (addk_bd l f n HG.out)
  have NW := Aside0.mk NW
  have RF := Aside0.mk RF
  have HB := Aside0.mk (Below.refl w.heap.size w)
  have t1 : decide ((n : Int) < 1) = false := decide_eq_false (by omega)
  have t2 : decide (64 < (n : Int)) = false := decide_eq_false (by omega)
  have t3 : decide (f < 0) = false := decide_eq_false (by omega)
  have t4 : decide (512 - (n : Int) < f) = false := decide_eq_false (by omega)
  have HX := Aside0.mk hx1
  clear hx1
  go_enter Try.func9, Try.ntmps9
  go_wp2_with (first | (go_at_call 22; (with_reducible refine (NW.out _).mono ?_); rintro e w1 ⟨p, rfl, hm, hb⟩; have HM := Aside0.mk hm; have HB1 := Aside0.mk (below_step (by repeat (first | (with_reducible first | exact HB.out | apply below_alloc | apply pw_below_drewN | apply below_drew1) | exact HB.out)) hb); have NB := heap_alloc_new w (Obj.cells #[.int .u32 x0, .int .u32 x1, .int .u32 x2] 50); have HX0 := Aside0.mk ((hb.block w.heap.size (lt_of_block NB)).trans NB); clear NB; have e0 : w1.cell? ⟨w.heap.size, 0, none⟩ = some (.int .u32 x0) := (by simp [World.cell?, HX0.out]); clear hm hb) | (go_at_call 15; (with_reducible refine (RF.out _).mono ?_); rintro e w2 ⟨v, rfl, hr, hb⟩; have HR := Aside0.mk hr; have HB2 := Aside0.mk (below_step (by repeat (first | (with_reducible first | exact HB1.out | apply below_alloc | apply pw_below_drewN | apply below_drew1) | exact HB1.out)) hb); have MB2 := Aside0.mk hb; clear hr hb e0; obtain ⟨g2, cap2, ev, bl2, ll2, cells2, hl2⟩ := Kd.R_form HR.out (by rw [HG.out.1]; omega); rw [HG.out.1] at ev; subst ev; have G2 := Aside0.mk bl2; clear bl2 ll2 hl2 cells2))
  go_loopw [10] (fun v10 wr => ∃ k : Nat, k ≤ n ∧ v10 = .int .i64 k ∧ Aside0 (Kd.R (Kd.int .i64) 3 wr w1.heap.size (fun _ => True) (.slice (some ⟨g2, 0, none⟩) n cap2) (addk l f k)) ∧ Aside0 (Below w1.heap.size w1 wr)) (fun v10 _ => n - (intOf v10).toNat)
  case atStart => exact ⟨0, Nat.zero_le _, rfl, ⟨by rw [addk_zero]; exact HR.out⟩, MB2⟩
  case round =>
    clear HR MB2 HB HB2
    obtain ⟨j, hj, rfl, HR, MB⟩ := hrel
    by_cases hlt : j < n
    · have r := HG.out.2.1 j hlt
      have RK := Aside0.mk (addk_rd l f j j (by rw [HG.out.1]; exact hlt))
      obtain ⟨lc0, lf0⟩ := Kd.R_celln 0 HR.out (j : Int) (by omega) (by omega)
      have P := Aside0.mk (Kd.R_putg HR.out (j : Int) (rd l (j : Int) + f)).1
      have z1 : wr.cell? ⟨g2, j, none⟩ = some (.int .i64 (rd l (j : Int))) := by
        have := RK.out; rw [if_neg (Nat.lt_irrefl j)] at this; rw [← this]; exact lc0
      have z2 : wr.frozen? ⟨g2, j, none⟩ = false := lf0
      clear lc0 lf0
      go_wp2
      go_roundw
      case rel => exact ⟨j + 1, by omega, by go_num, ⟨by rw [← addk_set l f j (by rw [HG.out.1]; exact hlt)]; exact P.out⟩, ⟨below_set MB.out G2.out⟩⟩
      case measure => simp [intOf]; omega
    · obtain rfl : j = n := by omega
      have HM2 := Aside0.mk (map_later HM.out MB.out)
      have BW := Aside0.mk (below_step HB1.out MB.out)
      have HX2 := Aside0.mk ((MB.out.block w.heap.size (lt_of_block HX0.out)).trans HX0.out)
      have e0 : wr.cell? ⟨w.heap.size, 1, none⟩ = some (.int .u32 x1) := by simp [World.cell?, HX2.out]
      clear HM MB HX0
      have LM := HL.out
      generalize addk l f j = m at *
      have HL2 := Aside0.mk LM
      clear LM HL
      obtain ⟨g, cap, b, c0, c1, cs, om, pl, cm⟩ := map_cells HM2.out
      rw [HL2.out] at c0 cs om cm
      have LS := fun w3 => list_any p j cap (some ⟨g, 0, none⟩) m w3
      have C0 := Aside0.mk c0
      have CM := Aside0.mk cm
      have PL := Aside0.mk pl
      have LS := Aside0.mk LS
      clear c0 c1 cs om pl cm
      go_upto_region 11 with (first | (go_at_call 19; (with_reducible refine (LS.out _ PL.out C0.out CM ?s1).mono ?_); (case s1 => omega); rintro e w3 ⟨v, rfl, hr, hb⟩; have HV := Aside0.mk hr; have SB := Aside0.mk hb; clear hr hb e0; obtain ⟨A3, cap3, ev⟩ := Kd.R_slice HV.out; subst ev) | (go_at_call 13; rw [HL2.out]; have HQ := (same_eq A3 (some ⟨g2, 0, none⟩) cap3 cap2 m _ (by rw [HL2.out]; omega) (C_of_R HV.out) (C_of_R (Kd.R_below HR.out SB.out))); rw [HL2.out] at HQ; (with_reducible refine HQ.mono ?_); clear HQ; rintro e w4 ⟨rfl, hb⟩; have SB2 := Aside0.mk hb; clear hb))
      have ST := below_step SB.out SB2.out
      have HM4 := Aside0.mk (map_later HM2.out ST)
      have HR4 := Aside0.mk (Kd.R_below HR.out ST)
      have HX4 := Aside0.mk ((ST.block w.heap.size (lt_of_block HX2.out)).trans HX2.out)
      have BW4 := Aside0.mk (below_step BW.out ST)
      clear ST SB SB2 HV HM2 HR HX2 BW C0 CM PL LS
      obtain ⟨g', cap', b', c0, c1, cs, om, pl, cm⟩ := map_cells HM4.out
      rw [HL2.out] at c0 cs om cm
      have C0 := Aside0.mk c0
      have C1 := Aside0.mk c1
      have CS := Aside0.mk cs
      have OM := Aside0.mk om
      clear c0 c1 cs om pl cm HM4
      have WS : Aside0 (∀ i : Nat, i < j → w4.cell? ⟨g2, i, none⟩ = some (.int .i64 (rd m (i : Int)))) := .mk (fun i hi => (Kd.R_celln 0 HR4.out (i : Int) (by omega) (by omega)).1)
      clear HR4
      have e1 : w4.cell? ⟨w.heap.size, 1, none⟩ = some (.int .u32 x1) := by simp [World.cell?, HX4.out]
      have e2 : w4.cell? ⟨w.heap.size, 2, none⟩ = some (.int .u32 x2) := by simp [World.cell?, HX4.out]
      obtain ⟨at_, hat⟩ : ∃ a : Int, x2 % 520 = a := ⟨_, rfl⟩
      have AB : 0 ≤ at_ ∧ at_ < 520 := by omega
      obtain ⟨c, is, A1, A2, HF⟩ : ∃ (c : Int) (is : Bool), Aside0 ((mpk m j).atKey (.int .i64 at_) (.lit (.int .i64 0)) = .lit (.int .i64 c)) ∧ Aside0 (Maps.has (mpk m j) (.int .i64 at_) = is) ∧ Aside0 (Found m j at_ c is) := by
        by_cases hex : ∃ i : Nat, i < j ∧ rd m (i : Int) = at_
        · obtain ⟨i, hi, hr⟩ := hex
          have := IN.out i hi
          rw [hr] at this
          exact ⟨i, true, ⟨this.1⟩, ⟨this.2⟩, ⟨.inl ⟨rfl, i, hi, hr, rfl⟩⟩⟩
        · have := mpk_out m at_ j (fun i hi e => hex ⟨i, hi, e.symm⟩)
          exact ⟨0, false, ⟨this.1⟩, ⟨this.2⟩, ⟨.inr ⟨rfl, rfl, fun i hi e => hex ⟨i, hi, e⟩⟩⟩⟩
      have WA := Aside0.mk (wf_i64 (a := at_) (by omega) (by omega))
      obtain ⟨ab0, ab1⟩ := AB
      have q1 : decide (0 ≤ k) = false := decide_eq_false (by omega)
      have hx1 := HX.out
      go_upto_region 17 with (first | (go_at_call 17; (with_reducible refine (host_out p j cap' _ k _ C0.out (.inl hk)).mono ?_); rintro e w' ⟨rfl, rfl⟩) | (go_at_call 18; (with_reducible refine (guest_at p b' j (mpk m j) at_ c is _ WA.out C1.out OM A1 A2).mono ?_); rintro e w' ⟨rfl, rfl⟩))
      clear hx1 hat
      go_wp2
      go_loop [17, 18, 19] (fun v17 v18 v19 => ∃ (i : Nat) (fd : Int) (th : Bool), i ≤ j ∧ v17 = .int .i64 fd ∧ v18 = .bool th ∧ v19 = .int .i64 i ∧ Aside0 (Found m i at_ fd th)) (fun _ _ v19 => j - (intOf v19).toNat)
      case atStart => exact ⟨0, 0, false, Nat.zero_le _, rfl, rfl, rfl, ⟨.inr ⟨rfl, rfl, fun i hi => absurd hi (Nat.not_lt_zero i)⟩⟩⟩
      case round =>
        obtain ⟨i, fd, th, hi, rfl, rfl, rfl, FD⟩ := hrel
        by_cases hlt : i < j
        · have ci := WS.out i hlt
          by_cases he : rd m (i : Int) = at_
          · have HE := Aside0.mk he
            have te : (rd m (i : Int) == at_) = true := beq_iff_eq.mpr he
            clear he
            go_wp2
            go_round
            case rel => exact ⟨i + 1, i, true, by omega, rfl, rfl, by go_num, ⟨.inl ⟨rfl, i, by omega, HE.out, rfl⟩⟩⟩
            case measure => simp [intOf]; omega
          · have HE := Aside0.mk he
            have te : (rd m (i : Int) == at_) = false := beq_eq_false_iff_ne.mpr he
            clear he
            go_wp2
            go_round
            case rel =>
              refine ⟨i + 1, fd, th, by omega, rfl, rfl, by go_num, ⟨?_⟩⟩
              rcases FD.out with ⟨h1, a, h2, h3, h4⟩ | ⟨h1, h2, h3⟩
              · exact .inl ⟨h1, a, by omega, h3, h4⟩
              · exact .inr ⟨h1, h2, fun a ha => by
                  by_cases ea : a = i
                  · subst ea; exact HE.out
                  · exact h3 a (by omega)⟩
            case measure => simp [intOf]; omega
        · obtain rfl : i = j := by omega
          have EQ : c = fd ∧ is = th := by
            rcases HF.out with ⟨h1, a, h2, h3, h4⟩ | ⟨h1, h2, h3⟩ <;> rcases FD.out with ⟨g1, a', g2, g3, g4⟩ | ⟨g1, g2, g3⟩
            · have := IJ.out a a' h2 g2 (by rw [h3, g3])
              exact ⟨by omega, by rw [h1, g1]⟩
            · exact absurd h3 (g3 a h2)
            · exact absurd g3 (h3 a' g2)
            · exact ⟨by rw [h2, g2], by rw [h1, g1]⟩
          obtain ⟨rfl, rfl⟩ := EQ
          go_wp2_with (go_at_call 16; (with_reducible refine (works_any _).mono ?_); rintro e w9 ⟨rfl, hb⟩; have HB9 := Aside0.mk (below_step (by repeat (first | (with_reducible first | exact BW4.out | apply below_alloc | apply pw_below_drewN | apply below_drew1) | exact BW4.out)) hb); clear hb)
          go_ret
          exact ⟨rfl, HB9.out⟩

set_option maxHeartbeats 4000000 in
set_option maxRecDepth 100000 in
theorem good_big (n : Nat) (f x0 x1 x2 : Int) (w : World) (n1 : 1 ≤ n) (n2 : n ≤ 64) (f0 : 0 ≤ f) (f1 : f ≤ 512 - n) (a0 : 0 ≤ x0) (a1 : x0 < 4294967296) (b0 : 0 ≤ x1) (b1 : x1 < 4294967296) (c0 : 0 ≤ x2) (c1 : x2 < 4294967296) (k : Int) (hk : (n : Int) ≤ k) (hx1 : x1 % 70 - 3 = k) :
    Calls Try.prog 9 #[.int .i64 n, .int .i64 f, .agg #[.int .u32 x0, .int .u32 x1, .int .u32 x2]] w fun e w' => e = .returned (.bool true) ∧ Below w.heap.size w w' := by
  have NW := fun w => new_any n f x0 w n1 n2 f0 f1 a0 a1
  have RF := fun w => ref_any n x0 w n1 (by omega) a0 a1
  have HG := Aside0.mk (good_ord n x0 n1)
  generalize ord n x0 = l at *
  have IN := Aside0.mk (mpk_in (addk l f n) n (addk_inj l f n HG.out) n (Nat.le_refl _))
  have IJ := Aside0.mk (addk_inj l f n HG.out)
  have LL : (addk l f n).length = n := by rw [addk_len]; exact HG.out.1
  have HL := Aside0.mk LL
  clear LL
  have BDS := Aside0.mk (addk_bd l f n HG.out)
  have NW := Aside0.mk NW
  have RF := Aside0.mk RF
  have HB := Aside0.mk (Below.refl w.heap.size w)
  have t1 : decide ((n : Int) < 1) = false := decide_eq_false (by omega)
  have t2 : decide (64 < (n : Int)) = false := decide_eq_false (by omega)
  have t3 : decide (f < 0) = false := decide_eq_false (by omega)
  have t4 : decide (512 - (n : Int) < f) = false := decide_eq_false (by omega)
  have HX := Aside0.mk hx1
  clear hx1
  go_enter Try.func9, Try.ntmps9
  go_wp2_with (first | (go_at_call 22; (with_reducible refine (NW.out _).mono ?_); rintro e w1 ⟨p, rfl, hm, hb⟩; have HM := Aside0.mk hm; have HB1 := Aside0.mk (below_step (by repeat (first | (with_reducible first | exact HB.out | apply below_alloc | apply pw_below_drewN | apply below_drew1) | exact HB.out)) hb); have NB := heap_alloc_new w (Obj.cells #[.int .u32 x0, .int .u32 x1, .int .u32 x2] 50); have HX0 := Aside0.mk ((hb.block w.heap.size (lt_of_block NB)).trans NB); clear NB; have e0 : w1.cell? ⟨w.heap.size, 0, none⟩ = some (.int .u32 x0) := (by simp [World.cell?, HX0.out]); clear hm hb) | (go_at_call 15; (with_reducible refine (RF.out _).mono ?_); rintro e w2 ⟨v, rfl, hr, hb⟩; have HR := Aside0.mk hr; have HB2 := Aside0.mk (below_step (by repeat (first | (with_reducible first | exact HB1.out | apply below_alloc | apply pw_below_drewN | apply below_drew1) | exact HB1.out)) hb); have MB2 := Aside0.mk hb; clear hr hb e0; obtain ⟨g2, cap2, ev, bl2, ll2, cells2, hl2⟩ := Kd.R_form HR.out (by rw [HG.out.1]; omega); rw [HG.out.1] at ev; subst ev; have G2 := Aside0.mk bl2; clear bl2 ll2 hl2 cells2))
  go_loopw [10] (fun v10 wr => ∃ k : Nat, k ≤ n ∧ v10 = .int .i64 k ∧ Aside0 (Kd.R (Kd.int .i64) 3 wr w1.heap.size (fun _ => True) (.slice (some ⟨g2, 0, none⟩) n cap2) (addk l f k)) ∧ Aside0 (Below w1.heap.size w1 wr)) (fun v10 _ => n - (intOf v10).toNat)
  case atStart => exact ⟨0, Nat.zero_le _, rfl, ⟨by rw [addk_zero]; exact HR.out⟩, MB2⟩
  case round =>
    clear HR MB2 HB HB2
    obtain ⟨j, hj, rfl, HR, MB⟩ := hrel
    by_cases hlt : j < n
    · have r := HG.out.2.1 j hlt
      have RK := Aside0.mk (addk_rd l f j j (by rw [HG.out.1]; exact hlt))
      obtain ⟨lc0, lf0⟩ := Kd.R_celln 0 HR.out (j : Int) (by omega) (by omega)
      have P := Aside0.mk (Kd.R_putg HR.out (j : Int) (rd l (j : Int) + f)).1
      have z1 : wr.cell? ⟨g2, j, none⟩ = some (.int .i64 (rd l (j : Int))) := by
        have := RK.out; rw [if_neg (Nat.lt_irrefl j)] at this; rw [← this]; exact lc0
      have z2 : wr.frozen? ⟨g2, j, none⟩ = false := lf0
      clear lc0 lf0
      go_wp2
      go_roundw
      case rel => exact ⟨j + 1, by omega, by go_num, ⟨by rw [← addk_set l f j (by rw [HG.out.1]; exact hlt)]; exact P.out⟩, ⟨below_set MB.out G2.out⟩⟩
      case measure => simp [intOf]; omega
    · obtain rfl : j = n := by omega
      have HM2 := Aside0.mk (map_later HM.out MB.out)
      have BW := Aside0.mk (below_step HB1.out MB.out)
      have HX2 := Aside0.mk ((MB.out.block w.heap.size (lt_of_block HX0.out)).trans HX0.out)
      have e0 : wr.cell? ⟨w.heap.size, 1, none⟩ = some (.int .u32 x1) := by simp [World.cell?, HX2.out]
      clear HM MB HX0
      have LM := HL.out
      generalize addk l f j = m at *
      have HL2 := Aside0.mk LM
      clear LM HL
      obtain ⟨g, cap, b, c0, c1, cs, om, pl, cm⟩ := map_cells HM2.out
      rw [HL2.out] at c0 cs om cm
      have LS := fun w3 => list_any p j cap (some ⟨g, 0, none⟩) m w3
      have C0 := Aside0.mk c0
      have CM := Aside0.mk cm
      have PL := Aside0.mk pl
      have LS := Aside0.mk LS
      clear c0 c1 cs om pl cm
      go_upto_region 11 with (first | (go_at_call 19; (with_reducible refine (LS.out _ PL.out C0.out CM ?s1).mono ?_); (case s1 => omega); rintro e w3 ⟨v, rfl, hr, hb⟩; have HV := Aside0.mk hr; have SB := Aside0.mk hb; clear hr hb e0; obtain ⟨A3, cap3, ev⟩ := Kd.R_slice HV.out; subst ev) | (go_at_call 13; rw [HL2.out]; have HQ := (same_eq A3 (some ⟨g2, 0, none⟩) cap3 cap2 m _ (by rw [HL2.out]; omega) (C_of_R HV.out) (C_of_R (Kd.R_below HR.out SB.out))); rw [HL2.out] at HQ; (with_reducible refine HQ.mono ?_); clear HQ; rintro e w4 ⟨rfl, hb⟩; have SB2 := Aside0.mk hb; clear hb))
      have ST := below_step SB.out SB2.out
      have HM4 := Aside0.mk (map_later HM2.out ST)
      have HR4 := Aside0.mk (Kd.R_below HR.out ST)
      have HX4 := Aside0.mk ((ST.block w.heap.size (lt_of_block HX2.out)).trans HX2.out)
      have BW4 := Aside0.mk (below_step BW.out ST)
      clear ST SB SB2 HV HM2 HR HX2 BW C0 CM PL LS
      obtain ⟨g', cap', b', c0, c1, cs, om, pl, cm⟩ := map_cells HM4.out
      rw [HL2.out] at c0 cs om cm
      have C0 := Aside0.mk c0
      have C1 := Aside0.mk c1
      have CS := Aside0.mk cs
      have OM := Aside0.mk om
      clear c0 c1 cs om pl cm HM4
      have WS : Aside0 (∀ i : Nat, i < j → w4.cell? ⟨g2, i, none⟩ = some (.int .i64 (rd m (i : Int)))) := .mk (fun i hi => (Kd.R_celln 0 HR4.out (i : Int) (by omega) (by omega)).1)
      clear HR4
      have e1 : w4.cell? ⟨w.heap.size, 1, none⟩ = some (.int .u32 x1) := by simp [World.cell?, HX4.out]
      have e2 : w4.cell? ⟨w.heap.size, 2, none⟩ = some (.int .u32 x2) := by simp [World.cell?, HX4.out]
      obtain ⟨at_, hat⟩ : ∃ a : Int, x2 % 520 = a := ⟨_, rfl⟩
      have AB : 0 ≤ at_ ∧ at_ < 520 := by omega
      obtain ⟨c, is, A1, A2, HF⟩ : ∃ (c : Int) (is : Bool), Aside0 ((mpk m j).atKey (.int .i64 at_) (.lit (.int .i64 0)) = .lit (.int .i64 c)) ∧ Aside0 (Maps.has (mpk m j) (.int .i64 at_) = is) ∧ Aside0 (Found m j at_ c is) := by
        by_cases hex : ∃ i : Nat, i < j ∧ rd m (i : Int) = at_
        · obtain ⟨i, hi, hr⟩ := hex
          have := IN.out i hi
          rw [hr] at this
          exact ⟨i, true, ⟨this.1⟩, ⟨this.2⟩, ⟨.inl ⟨rfl, i, hi, hr, rfl⟩⟩⟩
        · have := mpk_out m at_ j (fun i hi e => hex ⟨i, hi, e.symm⟩)
          exact ⟨0, false, ⟨this.1⟩, ⟨this.2⟩, ⟨.inr ⟨rfl, rfl, fun i hi e => hex ⟨i, hi, e⟩⟩⟩⟩
      have WA := Aside0.mk (wf_i64 (a := at_) (by omega) (by omega))
      obtain ⟨ab0, ab1⟩ := AB
      have q1 : decide (0 ≤ k) = true := decide_eq_true (by omega)
      have q2 : decide (k < (j : Int)) = false := decide_eq_false (by omega)
      have hx1 := HX.out
      go_upto_region 17 with (first | (go_at_call 17; (with_reducible refine (host_out p j cap' _ k _ C0.out (.inr hk)).mono ?_); rintro e w' ⟨rfl, rfl⟩) | (go_at_call 18; (with_reducible refine (guest_at p b' j (mpk m j) at_ c is _ WA.out C1.out OM A1 A2).mono ?_); rintro e w' ⟨rfl, rfl⟩))
      clear hx1 hat
      go_wp2
      go_loop [17, 18, 19] (fun v17 v18 v19 => ∃ (i : Nat) (fd : Int) (th : Bool), i ≤ j ∧ v17 = .int .i64 fd ∧ v18 = .bool th ∧ v19 = .int .i64 i ∧ Aside0 (Found m i at_ fd th)) (fun _ _ v19 => j - (intOf v19).toNat)
      case atStart => exact ⟨0, 0, false, Nat.zero_le _, rfl, rfl, rfl, ⟨.inr ⟨rfl, rfl, fun i hi => absurd hi (Nat.not_lt_zero i)⟩⟩⟩
      case round =>
        obtain ⟨i, fd, th, hi, rfl, rfl, rfl, FD⟩ := hrel
        by_cases hlt : i < j
        · have ci := WS.out i hlt
          by_cases he : rd m (i : Int) = at_
          · have HE := Aside0.mk he
            have te : (rd m (i : Int) == at_) = true := beq_iff_eq.mpr he
            clear he
            go_wp2
            go_round
            case rel => exact ⟨i + 1, i, true, by omega, rfl, rfl, by go_num, ⟨.inl ⟨rfl, i, by omega, HE.out, rfl⟩⟩⟩
            case measure => simp [intOf]; omega
          · have HE := Aside0.mk he
            have te : (rd m (i : Int) == at_) = false := beq_eq_false_iff_ne.mpr he
            clear he
            go_wp2
            go_round
            case rel =>
              refine ⟨i + 1, fd, th, by omega, rfl, rfl, by go_num, ⟨?_⟩⟩
              rcases FD.out with ⟨h1, a, h2, h3, h4⟩ | ⟨h1, h2, h3⟩
              · exact .inl ⟨h1, a, by omega, h3, h4⟩
              · exact .inr ⟨h1, h2, fun a ha => by
                  by_cases ea : a = i
                  · subst ea; exact HE.out
                  · exact h3 a (by omega)⟩
            case measure => simp [intOf]; omega
        · obtain rfl : i = j := by omega
          have EQ : c = fd ∧ is = th := by
            rcases HF.out with ⟨h1, a, h2, h3, h4⟩ | ⟨h1, h2, h3⟩ <;> rcases FD.out with ⟨g1, a', g2, g3, g4⟩ | ⟨g1, g2, g3⟩
            · have := IJ.out a a' h2 g2 (by rw [h3, g3])
              exact ⟨by omega, by rw [h1, g1]⟩
            · exact absurd h3 (g3 a h2)
            · exact absurd g3 (h3 a' g2)
            · exact ⟨by rw [h2, g2], by rw [h1, g1]⟩
          obtain ⟨rfl, rfl⟩ := EQ
          go_wp2_with (go_at_call 16; (with_reducible refine (works_any _).mono ?_); rintro e w9 ⟨rfl, hb⟩; have HB9 := Aside0.mk (below_step (by repeat (first | (with_reducible first | exact BW4.out | apply below_alloc | apply pw_below_drewN | apply below_drew1) | exact BW4.out)) hb); clear hb)
          go_ret
          exact ⟨rfl, HB9.out⟩

theorem i64_bd {a : Int} (h : (Lit.int .i64 a).wf = true) : -9223372036854775808 ≤ a ∧ a ≤ 9223372036854775807 := by
  simp [Lit.wf, IntKind.min, IntKind.max, IntKind.bits, IntKind.signed] at h; omega
theorem u32_bd {a : Int} (h : (Lit.int .u32 a).wf = true) : 0 ≤ a ∧ a < 4294967296 := by
  simp [Lit.wf, IntKind.min, IntKind.max, IntKind.bits, IntKind.signed] at h; omega
theorem walk (n f x0 x1 x2 : Int) (w : World) (wn : (Lit.int .i64 n).wf = true) (_wf : (Lit.int .i64 f).wf = true) (h0 : (Lit.int .u32 x0).wf = true) (h1 : (Lit.int .u32 x1).wf = true) (h2 : (Lit.int .u32 x2).wf = true) :
    Calls Try.prog 9 #[.int .i64 n, .int .i64 f, .agg #[.int .u32 x0, .int .u32 x1, .int .u32 x2]] w fun e w' => e = .returned (.bool true) ∧ Below w.heap.size w w' := by
  have hw := i64_bd wn
  obtain ⟨a0, a1⟩ := u32_bd h0
  obtain ⟨b0, b1⟩ := u32_bd h1
  obtain ⟨c0, c1⟩ := u32_bd h2
  by_cases c1' : n < 1
  · exact bad0 n f x0 x1 x2 w hw c1'
  by_cases c2 : 64 < n
  · exact bad1 n f x0 x1 x2 w hw c1' c2
  by_cases c3 : f < 0
  · exact bad2 n f x0 x1 x2 w hw c1' c2 c3
  by_cases c4 : 512 - n < f
  · exact bad3 n f x0 x1 x2 w hw c1' c2 c3 c4
  obtain ⟨n, rfl⟩ := Int.eq_ofNat_of_zero_le (show 0 ≤ n by omega)
  by_cases k0 : x1 % 70 - 3 < 0
  · exact good_low n f x0 x1 x2 w (by omega) (by omega) (by omega) (by omega) a0 a1 b0 b1 c0 c1 _ k0 rfl
  by_cases k1 : (n : Int) ≤ x1 % 70 - 3
  · exact good_big n f x0 x1 x2 w (by omega) (by omega) (by omega) (by omega) a0 a1 b0 b1 c0 c1 _ k1 rfl
  exact good_in n f x0 x1 x2 w (by omega) (by omega) (by omega) (by omega) a0 a1 b0 b1 c0 c1 (x1 % 70 - 3).toNat (by omega) (by omega)

end Go.Proofs.Ytpapncnhlapfeab.MapsWalk
