/- The walks of strew.Order and of its next number, for any number of places and any key: what the row is, as a plain function. -/
import Derived.Test.YtpapncnhlapfeabPStrewOrdersx0
import Derived.WalkSpells
import Derived.WalkLawsBesides
import Derived.RegionTactic
import Derived.ChangeAlike
import Derived.BigRegion
namespace Go.Proofs.Ytpapncnhlapfeab.Order
open Go Go.RowKit Go.Proofs.Ytpapncnhlapfeab.PStrewOrders Go.Proofs.YtpapncnhlapfeabW.PrintWords Go.Proofs.YtpapncnhlapfeabW.PrintLast Go.Proofs.YtpapncnhlapfeabW.PrintMore
/-- What is drawn next. -/
def nx (x : Int) : Int := (x * 1664525 + 1013904223) % 4294967296
theorem nx_bd (x : Int) : 0 ≤ nx x ∧ nx x < 4294967296 := by unfold nx; omega
set_option maxHeartbeats 400000 in
set_option maxRecDepth 100000 in
theorem next_any (b : Nat) (x n : Int) (w : World) (_h0 : 0 ≤ x) (_h1 : x < 4294967296) (hn0 : 1 ≤ n) (_hn : n ≤ 512) (hc : w.cell? ⟨b, 0, none⟩ = some (.int .u32 x)) (hf : w.frozen? ⟨b, 0, none⟩ = false) :
    Calls Try.prog 25 #[.int .i64 n, .pointer (some ⟨b, 0, none⟩)] w fun e w' => e = .returned (.int .i64 (nx x / 256 % n)) ∧ w.setCell ⟨b, 0, none⟩ (.int .u32 (nx x)) = w' := by
  have hb := nx_bd x
  go_enter Try.func25, Try.ntmps25
  go_wp2
  go_ret
  exact ⟨rfl, rfl⟩
theorem one_other {w : World} {b : Nat} {v u : Value} {t : TypeId} {a : Addr} (h : w.heap[b]? = some (.cells #[v] t (0, 0))) (hn : a.block ≠ b) : (w.setCell a u).heap[b]? = some (.cells #[v] t (0, 0)) := by
  rw [Below.heap_setCell _ _ _ _ (fun e => hn e.symm)]; exact h
/-- The first k places are filled. -/
def fill (n k : Nat) : List Int := (List.range n).map fun j => if j < k then (j : Int) else 0
theorem fill_zero (n : Nat) : fill n 0 = List.replicate n 0 := by
  unfold fill
  simp only [Nat.not_lt_zero, if_false]
  exact (List.map_const' ..).trans (by simp)
theorem fill_set (n k : Nat) (_h : k < n) : (fill n k).set k (k : Int) = fill n (k + 1) := by
  unfold fill
  apply List.ext_getElem?
  intro i
  rw [List.getElem?_set]
  simp only [List.getElem?_map, List.length_map, List.length_range]
  by_cases h1 : k = i
  · subst h1; simp; split <;> simp_all
  · by_cases h2 : i < n <;> simp [h1, h2]
    have : i < k + 1 ↔ i < k := by omega
    simp [this]
theorem fill_len (n k : Nat) : (fill n k).length = n := by unfold fill; simp
theorem fill_all (n : Nat) : fill n n = (List.range n).map fun j : Nat => (j : Int) := by
  unfold fill
  apply List.map_congr_left
  intro j hj
  rw [if_pos (by simpa using hj)]
/-- The places, strewn from i down. -/
def swaps : Nat → Int → List Int → List Int
  | 0, _, l => l
  | i + 1, x, l => swaps i (nx x) ((l.set (i + 1) (rd l (nx x / 256 % (i + 2)))).set (nx x / 256 % (i + 2)).toNat (rd l ((i : Int) + 1)))
theorem swaps_succ (i j : Nat) (x : Int) (l : List Int) (h : nx x / 256 % ((i : Int) + 1 + 1) = j) : swaps (i + 1) x l = swaps i (nx x) ((l.set (i + 1) (rd l (j : Int))).set j (rd l ((i : Int) + 1))) := by
  have e : nx x / 256 % ((i : Int) + 2) = j := by rw [← h, Int.add_assoc]; rfl
  rw [swaps, e, Int.toNat_natCast]
set_option maxHeartbeats 1000000 in
set_option maxRecDepth 100000 in
theorem order_any (n : Nat) (key : Int) (w : World) (h1 : 1 ≤ n) (hn : n ≤ 512) (_hk0 : 0 ≤ key) (_hk : key < 4294967296) :
    Calls Try.prog 14 #[.int .i64 n, .int .u32 key] w fun e w' => ∃ v : Value, e = .returned v ∧ Kd.R (Kd.int .i64) 3 w' w.heap.size (fun _ => True) v (swaps (n - 1) key (fill n n)) ∧ Below w.heap.size w w' := by
  have HB := Aside0.mk (Below.refl w.heap.size w)
  have t1 : decide ((n : Int) < 1) = false := decide_eq_false (by omega)
  have t2 : decide (512 < (n : Int)) = false := decide_eq_false (by omega)
  go_enter Try.func14, Try.ntmps14
  go_wp2_with (first | ((with_reducible refine gate_dst (N := 18) rfl ?_); refine Kd.R_make (Kd.int .i64) w.heap.size 3 rfl (N := 18) rfl 28 (.tmp 17) (.tmp 17) rfl (n : Int) rfl rfl Try.underlying28 (.int .i64 0) 8 info3 rfl (by decide) (by omega) (0 : Int) (okp := fun _ => False) (ok := fun _ => True) ?aP (fun _ hk => hk.elim) trivial (by omega) (by omega) HB.out (Nat.le_refl _) ?_; (case aP => exact rfl); intro v5 w1 ho hb hg hat))
  have HR := Aside0.mk ho
  have HB1 := Aside0.mk hb
  clear ho hb hg hat HB
  go_loopw [6, 20] (fun _ v20 wr => ∃ k : Nat, k ≤ n ∧ v20 = .int .i64 k ∧ Aside0 (Kd.R (Kd.int .i64) 3 wr w.heap.size (fun _ => True) v5 (fill n k)) ∧ Aside0 (Below w.heap.size w wr)) (fun _ v20 _ => n - (intOf v20).toNat)
  case atStart => exact ⟨0, Nat.zero_le _, rfl, ⟨by rw [fill_zero]; exact HR.out⟩, HB1⟩
  case round =>
    clear HR HB1
    obtain ⟨k, hk, rfl, HR, HB⟩ := hrel
    by_cases hlt : k < n
    · obtain ⟨g, cap, e5, gb, gl, cl, hg⟩ := Kd.R_form HR.out (by rw [fill_len]; omega)
      rw [fill_len] at e5
      subst e5
      obtain ⟨hc0, hf0⟩ := Kd.R_celln 0 HR.out (k : Int) (by omega) (by omega)
      have hc : wr.cell? ⟨g, k, none⟩ = some (.int .i64 (rdOf 0 (fill n k) (k : Int))) := hc0
      have hf : wr.frozen? ⟨g, k, none⟩ = false := hf0
      clear hc0 hf0
      have HP := Aside0.mk (Kd.R_putg HR.out (k : Int) (k : Int)).1
      clear hg
      go_wp2
      go_roundw
      case rel => exact ⟨k + 1, by omega, by go_num, ⟨by rw [← fill_set n k hlt]; exact HP.out⟩, ⟨below_set HB.out gb⟩⟩
      case measure => simp [intOf]; omega
    · obtain rfl : k = n := by omega
      have hmf : ∀ (fn : Fn) (first cap : Array Value) (w : World), (Instr.makeFunc fn first cap).run Try.prog w = .ok (.func fn first cap) w := fun _ _ _ _ => rfl
      have CX := Aside0.mk (heap_alloc_new wr (Obj.cells #[Value.int IntKind.u32 key] 26))
      have HR2 := Aside0.mk (Kd.R_alloc HR.out (Obj.cells #[Value.int IntKind.u32 key] 26))
      have HB2 := Aside0.mk (below_alloc HB.out (Obj.cells #[Value.int IntKind.u32 key] 26))
      have BX := Aside0.mk (below_size HB.out)
      clear HR HB hk
      go_wp2
      generalize wr.alloc (Obj.cells #[Value.int IntKind.u32 key] 26) = w2 at *
      generalize wr.heap.size = Bx at *
      go_loopw [9] (fun v9 wr => ∃ (i : Nat) (x : Int) (l : List Int), i < k ∧ v9 = .int .i64 i ∧ 0 ≤ x ∧ x < 4294967296 ∧ Aside0 (l.length = k) ∧ Aside0 (swaps i x l = swaps (k - 1) key (fill k k)) ∧ Aside0 (Kd.R (Kd.int .i64) 3 wr w.heap.size (fun _ => True) v5 l) ∧ Aside0 (wr.heap[Bx]? = some (.cells #[.int .u32 x] 26 (0, 0))) ∧ Aside0 (Below w.heap.size w wr)) (fun v9 _ => (intOf v9).toNat)
      case atStart => exact ⟨k - 1, key, fill k k, by omega, by go_num, by omega, by omega, ⟨fill_len k k⟩, ⟨rfl⟩, HR2, CX, HB2⟩
      case round =>
        clear HR2 HB2 CX
        obtain ⟨i, x, l, hi, rfl, hx0, hx1, HL, HS, HR, HX, HB⟩ := hrel
        cases i with
        | zero =>
          go_wp2
          go_ret
          exact ⟨_, rfl, by have := HS.out; simp only [swaps] at this; rw [← this]; exact HR.out, HB.out⟩
        | succ i =>
          have hcx := cell_of_one HX.out
          have hfx := free_of_one HX.out
          go_wp2_with (go_at_call 25; (with_reducible refine (next_any Bx x _ _ hx0 hx1 ?s1 ?s2 hcx hfx).mono ?_); (case s1 => omega); (case s2 => omega); rintro e w' ⟨rfl, rfl⟩)
          have HR3 := Aside0.mk (Kd.R_set HR.out HX.out (by decide) 0 (.int .u32 (nx x)))
          have HX3 := Aside0.mk (one_setCell (u := .int .u32 (nx x)) HX.out)
          have HB3 := Aside0.mk (below_set (j := 0) (v := .int .u32 (nx x)) HB.out BX.out)
          clear hcx hfx HR HX HB
          generalize wr.setCell ⟨Bx, 0, none⟩ (.int .u32 (nx x)) = w3 at *
          obtain ⟨j, hj⟩ : ∃ j : Nat, nx x / 256 % ((i : Int) + 1 + 1) = j := ⟨(nx x / 256 % ((i : Int) + 1 + 1)).toNat, (Int.toNat_of_nonneg (Int.emod_nonneg _ (by omega))).symm⟩
          have jlt : j < i + 2 := by have := Int.emod_lt_of_pos (nx x / 256) (show 0 < (i : Int) + 1 + 1 by omega); omega
          have HJ := Aside0.mk hj
          rw [hj]
          clear hj
          obtain ⟨g, cap, e5, gb, gl, cl, hg⟩ := Kd.R_form HR3.out (by rw [HL.out]; omega)
          rw [HL.out] at e5
          subst e5
          have GB := Aside0.mk gb
          have gne : g ≠ Bx := by
            rintro rfl
            rw [HX3.out] at hg
            injection hg with hg
            injection hg with _ hg
            exact absurd hg (by decide)
          clear gb gl hg cl
          obtain ⟨ci0, fi0⟩ := Kd.R_celln 0 HR3.out ((i : Int) + 1) (by omega) (by omega)
          obtain ⟨cj0, fj0⟩ := Kd.R_celln 0 HR3.out (j : Int) (by omega) (by omega)
          have P1 := Aside0.mk (Kd.R_putg HR3.out ((i : Int) + 1) (rd l (j : Int))).1
          obtain ⟨cj1, fj1⟩ := Kd.R_celln 0 P1.out (j : Int) (by omega) (by omega)
          have P2 := Aside0.mk (Kd.R_putg P1.out (j : Int) (rd l ((i : Int) + 1))).1
          have ti : ((i : Int) + 1).toNat = i + 1 := by omega
          have tj : (j : Int).toNat = j := by omega
          rw [ti] at ci0 fi0 cj1 fj1
          rw [tj] at cj0 fj0 cj1 fj1
          have P3 : Aside0 (Kd.R (Kd.int .i64) 3 ((w3.setCell ⟨g, i + 1, none⟩ (.int .i64 (rd l (j : Int)))).setCell ⟨g, j, none⟩ (.int .i64 (rd l ((i : Int) + 1)))) w.heap.size (fun _ => True) (.slice (some ⟨g, 0, none⟩) k cap) ((l.set (i + 1) (rd l (j : Int))).set j (rd l ((i : Int) + 1)))) := .mk (by have := P2.out; rw [ti, tj] at this; exact this)
          have HS2 : Aside0 (swaps i (nx x) ((l.set (i + 1) (rd l (j : Int))).set j (rd l ((i : Int) + 1))) = swaps (k - 1) key (fill k k)) := .mk (by
            rw [← HS.out, swaps_succ i j x l HJ.out])
          have HX4 := Aside0.mk (one_other (u := .int .i64 (rd l ((i : Int) + 1))) (one_other (u := .int .i64 (rd l (j : Int))) HX3.out (a := ⟨g, i + 1, none⟩) gne) (a := ⟨g, j, none⟩) gne)
          have GN := Aside0.mk gne
          clear gne
          clear P1 P2 HS
          have ci : w3.cell? ⟨g, i + 1, none⟩ = some (.int .i64 (rd l ((i : Int) + 1))) := ci0
          have cj : w3.cell? ⟨g, j, none⟩ = some (.int .i64 (rd l (j : Int))) := cj0
          have fi : w3.frozen? ⟨g, i + 1, none⟩ = false := fi0
          have fj : w3.frozen? ⟨g, j, none⟩ = false := fj0
          generalize rd l ((i : Int) + 1) = li at *
          generalize rd l (j : Int) = lj at *
          obtain ⟨z, cz⟩ : ∃ z : Value, (w3.setCell ⟨g, i + 1, none⟩ (.int .i64 lj)).cell? ⟨g, j, none⟩ = some z := ⟨_, cj1⟩
          have fz : (w3.setCell ⟨g, i + 1, none⟩ (.int .i64 lj)).frozen? ⟨g, j, none⟩ = false := fj1
          clear ci0 fi0 cj0 fj0 cj1 fj1 ti tj
          have t1' : i + 1 < k := hi
          have t2' : j < k := by omega
          go_region
          go_wp2
          go_roundw
          case rel => exact ⟨i, nx x, _, by omega, rfl, (nx_bd x).1, (nx_bd x).2, ⟨by simp [HL.out]⟩, HS2, ⟨Kd.R_drew P3.out⟩, HX4, ⟨below_drew (below_set (below_set HB3.out GB.out) GB.out)⟩⟩
          case measure => simp [intOf]
set_option maxHeartbeats 400000 in
set_option maxRecDepth 100000 in
theorem order_none (n : Int) (key : Int) (w : World) (h : n < 1 ∨ 512 < n) :
    Calls Try.prog 14 #[.int .i64 n, .int .u32 key] w fun e w' => e = .returned (.slice none 0 0) ∧ w = w' := by
  by_cases h1 : n < 1
  · have t1 : decide (n < 1) = true := decide_eq_true h1
    go_enter Try.func14, Try.ntmps14
    go_wp2
    go_ret
    exact ⟨rfl, rfl⟩
  · have t1 : decide (n < 1) = false := decide_eq_false h1
    have t2 : decide (512 < n) = true := decide_eq_true (by omega)
    go_enter Try.func14, Try.ntmps14
    go_wp2
    go_ret
    exact ⟨rfl, rfl⟩
theorem swaps_len (i : Nat) : ∀ (x : Int) (l : List Int), (swaps i x l).length = l.length := by
  induction i with
  | zero => intro x l; rfl
  | succ i ih => intro x l; rw [swaps, ih]; simp
/-- The row, as a function of the number of places and the key. -/
def ord (n : Nat) (key : Int) : List Int := swaps (n - 1) key (fill n n)
theorem ord_len (n : Nat) (key : Int) : (ord n key).length = n := by unfold ord; rw [swaps_len, fill_len]
theorem ord_four : ord 4 0 = [1, 2, 0, 3] := by decide
set_option maxHeartbeats 1000000 in
set_option maxRecDepth 100000 in
theorem works_any (w : World) : Calls Try.prog 16 #[] w fun e w' => e = .returned (.bool true) ∧ Below w.heap.size w w' := by
  have O := fun w => order_any 4 0 w (by omega) (by omega) (by omega) (by omega)
  have O4 : ∀ w : World, Calls Try.prog 14 #[.int .i64 4, .int .u32 0] w fun e w' => ∃ v : Value, e = .returned v ∧ Kd.R (Kd.int .i64) 3 w' w.heap.size (fun _ => True) v [1, 2, 0, 3] ∧ Below w.heap.size w w' := by
    intro w; have := O w; rw [show swaps (4 - 1) 0 (fill 4 4) = [1, 2, 0, 3] from ord_four] at this; exact this
  clear O
  have O4 := Aside0.mk O4
  go_enter Try.func16, Try.ntmps16
  go_wp2_with (go_at_call 14; (with_reducible refine (O4.out _).mono ?_); rintro e w' ⟨v, rfl, hr, hb⟩; obtain ⟨g, cap, e5, gb, gl, cl, hg⟩ := Kd.R_form hr (by decide); subst e5; obtain ⟨c0, f0⟩ := Kd.R_celln 0 hr 0 (by decide) (by decide); obtain ⟨c1, f1⟩ := Kd.R_celln 0 hr 1 (by decide) (by decide); obtain ⟨c2, f2⟩ := Kd.R_celln 0 hr 2 (by decide) (by decide); obtain ⟨c3, f3⟩ := Kd.R_celln 0 hr 3 (by decide) (by decide); have d0 : w'.cell? ⟨g, 0, none⟩ = some (.int .i64 1) := c0; have d1 : w'.cell? ⟨g, 1, none⟩ = some (.int .i64 2) := c1; have d2 : w'.cell? ⟨g, 2, none⟩ = some (.int .i64 0) := c2; have d3 : w'.cell? ⟨g, 3, none⟩ = some (.int .i64 3) := c3; have HB := Aside0.mk hb; clear c0 c1 c2 c3 f0 f1 f2 f3 hr hb gb gl hg cl)
  go_ret
  exact ⟨rfl, HB.out⟩
set_option maxHeartbeats 1000000 in
set_option maxRecDepth 100000 in
/-- Two rows that are one: it says so. -/
theorem same_eq (A0 A1 : Option Addr) (c0 c1 : Nat) (l : List Int) (w : World) (hl : l.length ≤ 9223372036854775807) (h0 : Kd.C (Kd.int .i64) w A0 l.length l) (h1 : Kd.C (Kd.int .i64) w A1 l.length l) :
    Calls Try.prog 13 #[.slice A0 l.length c0, .slice A1 l.length c1] w fun e w' => e = .returned (.bool true) ∧ Below w.heap.size w w' := by
  have H0 := Aside0.mk h0
  have H1 := Aside0.mk h1
  obtain ⟨n, hn⟩ : ∃ n, n = l.length := ⟨_, rfl⟩
  have HN := Aside0.mk hn
  rw [← hn] at hl
  rw [← hn]
  clear h0 h1 hn
  have HB := Aside0.mk (Below.refl w.heap.size w)
  go_enter Try.func13, Try.ntmps13
  go_wp2
  go_loopw [5] (fun v5 wr => ∃ k : Nat, k ≤ n ∧ v5 = .int .i64 k ∧ Aside0 (Drawn0 w wr)) (fun v5 _ => n - (intOf v5).toNat)
  case atStart => exact ⟨0, by omega, rfl, ⟨Drawn0.refl _⟩⟩
  case round =>
    obtain ⟨k, hk, rfl, HD⟩ := hrel
    obtain ⟨⟨m, hm⟩⟩ := HD.out
    subst hm
    by_cases hlt : k < n
    · obtain ⟨a, rfl, ha⟩ := Kd.at_int H0.out (k : Int) (by omega) (by have := HN.out; omega)
      obtain ⟨b, rfl, hb⟩ := Kd.at_int H1.out (k : Int) (by omega) (by have := HN.out; omega)
      have ca : w.cell? (a.add k) = some (.int .i64 (rd l k)) := ha
      have cb : w.cell? (b.add k) = some (.int .i64 (rd l k)) := hb
      clear ha hb
      have q1 : (0 : Int) ≤ k := by omega
      have q2 : (k : Int) < n := by omega
      go_wp2
      go_quiet (fail)
      go_wp2
      go_roundw
      case rel => exact ⟨k + 1, by omega, by go_num, ⟨by repeat (first | exact Drawn0.refl _ | apply Drawn0.step)⟩⟩
      case measure => simp [intOf]; omega
    · obtain rfl : k = n := by omega
      go_wp2
      go_ret
      exact ⟨rfl, by repeat (first | exact Below.refl _ _ | apply pw_below_drewN | apply below_drew1)⟩
end Go.Proofs.Ytpapncnhlapfeab.Order
