/- The walk of the reference's row, for any number of places and any key: it is the same plain function. -/
import Derived.Test.YtpapncnhlapfeabOrder
namespace Go.Proofs.Ytpapncnhlapfeab.RefOrder
open Go Go.RowKit Go.Proofs.Ytpapncnhlapfeab.Order Go.Proofs.Ytpapncnhlapfeab.PStrewOrders Go.Proofs.YtpapncnhlapfeabW.PrintWords Go.Proofs.YtpapncnhlapfeabW.PrintLast Go.Proofs.YtpapncnhlapfeabW.PrintMore
set_option maxHeartbeats 400000 in
set_option maxRecDepth 100000 in
theorem ref_none (n : Int) (key : Int) (w : World) (h : n < 1 ∨ 512 < n) :
    Calls Try.prog 15 #[.int .i64 n, .int .u32 key] w fun e w' => e = .returned (.slice none 0 0) ∧ w = w' := by
  by_cases h1 : n < 1
  · have t1 : decide (n < 1) = true := decide_eq_true h1
    go_enter Try.func15, Try.ntmps15
    go_wp2
    go_ret
    exact ⟨rfl, rfl⟩
  · have t1 : decide (n < 1) = false := decide_eq_false h1
    have t2 : decide (512 < n) = true := decide_eq_true (by omega)
    go_enter Try.func15, Try.ntmps15
    go_wp2
    go_ret
    exact ⟨rfl, rfl⟩
def up (k : Nat) : List Int := (List.range k).map fun j : Nat => (j : Int)
theorem up_len (k : Nat) : (up k).length = k := by unfold up; simp
theorem up_snoc (k : Nat) : up k ++ [(k : Int)] = up (k + 1) := by unfold up; rw [List.range_succ]; simp
theorem up_fill (n : Nat) : up n = fill n n := (fill_all n).symm
set_option maxHeartbeats 1000000 in
set_option maxRecDepth 100000 in
theorem ref_any (n : Nat) (key : Int) (w : World) (h1 : 1 ≤ n) (hn : n ≤ 512) (hk0 : 0 ≤ key) (hk : key < 4294967296) :
    Calls Try.prog 15 #[.int .i64 n, .int .u32 key] w fun e w' => ∃ v : Value, e = .returned v ∧ Kd.R (Kd.int .i64) 3 w' w.heap.size (fun _ => True) v (ord n key) ∧ Below w.heap.size w w' := by
  have HB0 := Aside0.mk (Below.refl w.heap.size w)
  have t1 : decide ((n : Int) < 1) = false := decide_eq_false (by omega)
  have t2 : decide (512 < (n : Int)) = false := decide_eq_false (by omega)
  go_enter Try.func15, Try.ntmps15
  go_wp2
  go_loopw [5, 6] (fun v5 v6 wr => ∃ k : Nat, k ≤ n ∧ v6 = .int .i64 k ∧ Aside0 (Kd.R (Kd.int .i64) 3 wr w.heap.size (fun _ => True) v5 (up k)) ∧ Aside0 (Below w.heap.size w wr)) (fun _ v6 _ => n - (intOf v6).toNat)
  case atStart => exact ⟨0, Nat.zero_le _, rfl, ⟨Kd.R_nil _ _ _ _ _⟩, HB0⟩
  case round =>
    clear HB0
    obtain ⟨k, hk1, rfl, HO, HB⟩ := hrel
    by_cases hlt : k < n
    · have hL : (up k).length = k := up_len k
      go_wp2_with (first | ((with_reducible refine gate_builtin (b := .append) (xs := #[.tmp 23, .tmp 25]) rfl ?_); at_builtin; refine Kd.R_append (Kd.int .i64) (w0 := w) w.heap.size rfl (.tmp 23) (.tmp 25) 28 3 (.int .i64 0) 8 rfl Try.underlying28 info3 rfl (by decide) (by omega) u5 (up k) (k : Int) [.int .i64 (k : Int)] (fun _ => True) (fun _ => False) rfl rfl ?aP (fun _ hk => hk.elim) ?aF ?aO ?aB ?aS ?aL ?_; (case aP => exact rfl); (case aB => exact (by repeat (first | (with_reducible first | exact HB.out | apply below_alloc | apply pw_below_drewN | apply below_drew1) | exact HB.out))); (case aF => exact (fun _ _ => trivial)); (case aO => exact (by (with_reducible repeat (first | apply Kd.R_alloc | apply Kd.R_drewN | apply Kd.R_drew)); exact HO.out)); (case aS => exact (below_size (by repeat (first | (with_reducible first | exact HB.out | apply below_alloc | apply pw_below_drewN | apply below_drew1) | exact HB.out)))); (case aL => omega); intro v108 w8 ho hb hg hat; rw [up_snoc] at ho; have HO2 := Aside0.mk ho; have HB2 := Aside0.mk hb; clear ho hb hg hat hL))
      go_roundw
      case rel => exact ⟨k + 1, by omega, by go_num, HO2, HB2⟩
      case measure => simp [intOf]; omega
    · obtain rfl : k = n := by omega
      go_wp2
      have HF : Aside0 (Kd.R (Kd.int .i64) 3 wr w.heap.size (fun _ => True) u5 (fill k k)) := .mk (by rw [← up_fill]; exact HO.out)
      clear HO
      go_loopw [7, 8] (fun v7 v8 wr => ∃ (i : Nat) (x : Int) (l : List Int), i < k ∧ v7 = .int .u64 x ∧ v8 = .int .i64 i ∧ 0 ≤ x ∧ x < 4294967296 ∧ Aside0 (l.length = k) ∧ Aside0 (swaps i x l = ord k key) ∧ Aside0 (Kd.R (Kd.int .i64) 3 wr w.heap.size (fun _ => True) u5 l) ∧ Aside0 (Below w.heap.size w wr)) (fun _ v8 _ => (intOf v8).toNat)
      case atStart => exact ⟨k - 1, key, fill k k, by omega, rfl, by go_num, by omega, by omega, ⟨fill_len k k⟩, ⟨rfl⟩, HF, HB⟩
      case round =>
        clear HF HB
        obtain ⟨i, x, l, hi, rfl, rfl, hx0, hx1, HL, HS, HR, HB⟩ := hrel
        cases i with
        | zero =>
          go_wp2
          go_ret
          exact ⟨_, rfl, by have := HS.out; simp only [swaps] at this; rw [← this]; exact HR.out, HB.out⟩
        | succ i =>
          have hb := nx_bd x
          go_wp2
          obtain ⟨j, hj⟩ : ∃ j : Nat, nx x / 256 % ((i : Int) + 1 + 1) = j := ⟨(nx x / 256 % ((i : Int) + 1 + 1)).toNat, (Int.toNat_of_nonneg (Int.emod_nonneg _ (by omega))).symm⟩
          have jlt : j < i + 2 := by have := Int.emod_lt_of_pos (nx x / 256) (show 0 < (i : Int) + 1 + 1 by omega); omega
          have HJ := Aside0.mk hj
          have e7 : (x * 1664525 + 1013904223) % 4294967296 = nx x := rfl
          have e9 : wrap64 (nx x / 256 % ((i : Int) + 1 + 1)) = (j : Int) := by rw [hj]; unfold wrap64; omega
          rw [e7, e9]
          clear hj e7 e9
          obtain ⟨g, cap, e5, gb, gl, cl, hg⟩ := Kd.R_form HR.out (by rw [HL.out]; omega)
          rw [HL.out] at e5
          subst e5
          have GB := Aside0.mk gb
          clear gb gl hg cl
          obtain ⟨ci0, fi0⟩ := Kd.R_celln 0 HR.out ((i : Int) + 1) (by omega) (by omega)
          obtain ⟨cj0, fj0⟩ := Kd.R_celln 0 HR.out (j : Int) (by omega) (by omega)
          have P1 := Aside0.mk (Kd.R_putg HR.out ((i : Int) + 1) (rd l (j : Int))).1
          obtain ⟨cj1, fj1⟩ := Kd.R_celln 0 P1.out (j : Int) (by omega) (by omega)
          have P2 := Aside0.mk (Kd.R_putg P1.out (j : Int) (rd l ((i : Int) + 1))).1
          have ti : ((i : Int) + 1).toNat = i + 1 := by omega
          have tj : (j : Int).toNat = j := by omega
          rw [ti] at ci0 fi0 cj1 fj1
          rw [tj] at cj0 fj0 cj1 fj1
          have P3 : Aside0 (Kd.R (Kd.int .i64) 3 ((wr.setCell ⟨g, i + 1, none⟩ (.int .i64 (rd l (j : Int)))).setCell ⟨g, j, none⟩ (.int .i64 (rd l ((i : Int) + 1)))) w.heap.size (fun _ => True) (.slice (some ⟨g, 0, none⟩) k cap) ((l.set (i + 1) (rd l (j : Int))).set j (rd l ((i : Int) + 1)))) := .mk (by have := P2.out; rw [ti, tj] at this; exact this)
          have HS2 : Aside0 (swaps i (nx x) ((l.set (i + 1) (rd l (j : Int))).set j (rd l ((i : Int) + 1))) = ord k key) := .mk (by
            rw [← HS.out, swaps_succ i j x l HJ.out])
          clear P1 P2 HS
          have ci : wr.cell? ⟨g, i + 1, none⟩ = some (.int .i64 (rd l ((i : Int) + 1))) := ci0
          have cj : wr.cell? ⟨g, j, none⟩ = some (.int .i64 (rd l (j : Int))) := cj0
          have fi : wr.frozen? ⟨g, i + 1, none⟩ = false := fi0
          generalize rd l ((i : Int) + 1) = li at *
          generalize rd l (j : Int) = lj at *
          obtain ⟨z, cz⟩ : ∃ z : Value, (wr.setCell ⟨g, i + 1, none⟩ (.int .i64 lj)).cell? ⟨g, j, none⟩ = some z := ⟨_, cj1⟩
          have fz : (wr.setCell ⟨g, i + 1, none⟩ (.int .i64 lj)).frozen? ⟨g, j, none⟩ = false := fj1
          clear ci0 fi0 cj0 fj0 cj1 fj1 ti tj
          have t1' : i + 1 < k := hi
          have t2' : j < k := by omega
          go_region
          go_wp2
          go_roundw
          case rel => exact ⟨i, nx x, _, by omega, rfl, by go_num, (nx_bd x).1, (nx_bd x).2, ⟨by simp [HL.out]⟩, HS2, ⟨Kd.R_drew P3.out⟩, ⟨below_drew (below_set (below_set HB.out GB.out) GB.out)⟩⟩
          case measure => simp [intOf]
end Go.Proofs.Ytpapncnhlapfeab.RefOrder
