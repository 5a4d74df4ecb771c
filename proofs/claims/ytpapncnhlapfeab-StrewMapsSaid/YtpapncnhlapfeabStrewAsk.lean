/- The walks of asking a map of frames: Host, Guest, List; of making one of what may not be. -/
import Derived.Test.YtpapncnhlapfeabStrewNew
namespace Go.Proofs.Ytpapncnhlapfeab.StrewMap
open Go Go.RowKit Go.Maps Go.Proofs.Ytpapncnhlapfeab.Order Go.Proofs.Ytpapncnhlapfeab.RefOrder Go.Proofs.Ytpapncnhlapfeab.Perm Go.Proofs.Ytpapncnhlapfeab.PStrewOrders Go.Proofs.YtpapncnhlapfeabW.PrintWords Go.Proofs.YtpapncnhlapfeabW.PrintLast Go.Proofs.YtpapncnhlapfeabW.PrintMore
set_option maxHeartbeats 400000 in
set_option maxRecDepth 100000 in
theorem new_bad (n f key : Int) (w : World) (hw : -9223372036854775808 ≤ n ∧ n ≤ 9223372036854775807) (h : n < 1 ∨ 64 < n ∨ f < 0 ∨ 512 - n < f) :
    Calls Try.prog 22 #[.int .i64 n, .int .i64 f, .int .u32 key] w fun e w' => e = .returned (.tuple #[.pointer none, .int .i64 2]) ∧ w = w' := by
  by_cases h1 : n < 1
  · have t1 : decide (n < 1) = true := decide_eq_true h1
    clear h hw
    go_enter Try.func22, Try.ntmps22
    go_wp2
    go_ret2
    exact ⟨rfl, rfl⟩
  have t1 : decide (n < 1) = false := decide_eq_false h1
  by_cases h2 : 64 < n
  · have t2 : decide (64 < n) = true := decide_eq_true h2
    clear h hw
    go_enter Try.func22, Try.ntmps22
    go_wp2
    go_ret2
    exact ⟨rfl, rfl⟩
  have t2 : decide (64 < n) = false := decide_eq_false h2
  by_cases h3 : f < 0
  · have t3 : decide (f < 0) = true := decide_eq_true h3
    clear h hw
    go_enter Try.func22, Try.ntmps22
    go_wp2
    go_ret2
    exact ⟨rfl, rfl⟩
  have t3 : decide (f < 0) = false := decide_eq_false h3
  have t4 : decide (512 - n < f) = true := decide_eq_true (by omega)
  clear h hw
  go_enter Try.func22, Try.ntmps22
  go_wp2
  go_ret2
  exact ⟨rfl, rfl⟩
set_option maxHeartbeats 400000 in
set_option maxRecDepth 100000 in
theorem host_nil (k : Int) (w : World) : Calls Try.prog 17 #[.pointer none, .int .i64 k] w fun e w' => e = .returned (.tuple #[.int .i64 0, .bool false]) ∧ w = w' := by
  go_enter Try.func17, Try.ntmps17
  go_wp2
  go_ret2
  exact ⟨rfl, rfl⟩
set_option maxHeartbeats 400000 in
set_option maxRecDepth 100000 in
theorem host_out (p n c : Nat) (A : Option Addr) (k : Int) (w : World) (hc : w.cell? ⟨p, 0, none⟩ = some (.slice A n c)) (h : k < 0 ∨ (n : Int) ≤ k) :
    Calls Try.prog 17 #[.pointer (some ⟨p, 0, none⟩), .int .i64 k] w fun e w' => e = .returned (.tuple #[.int .i64 0, .bool false]) ∧ w = w' := by
  by_cases h1 : k < 0
  · have t1 : decide (k < 0) = true := decide_eq_true h1
    clear h
    go_enter Try.func17, Try.ntmps17
    go_wp2
    go_ret2
    exact ⟨rfl, rfl⟩
  · have t1 : decide (k < 0) = false := decide_eq_false h1
    have t2 : decide ((n : Int) ≤ k) = true := decide_eq_true (by omega)
    clear h
    go_enter Try.func17, Try.ntmps17
    go_wp2
    go_ret2
    exact ⟨rfl, rfl⟩
set_option maxHeartbeats 400000 in
set_option maxRecDepth 100000 in
theorem host_in (p n c g : Nat) (k : Nat) (x : Int) (w : World) (hc : w.cell? ⟨p, 0, none⟩ = some (.slice (some ⟨g, 0, none⟩) n c)) (h : k < n) (hx : w.cell? ⟨g, k, none⟩ = some (.int .i64 x)) :
    Calls Try.prog 17 #[.pointer (some ⟨p, 0, none⟩), .int .i64 k] w fun e w' => e = .returned (.tuple #[.int .i64 x, .bool true]) ∧ w = w' := by
  have t1 : decide ((k : Int) < 0) = false := decide_eq_false (by omega)
  have t2 : decide ((n : Int) ≤ (k : Int)) = false := decide_eq_false (by omega)
  go_enter Try.func17, Try.ntmps17
  go_wp2
  go_ret2
  exact ⟨rfl, rfl⟩
set_option maxHeartbeats 400000 in
set_option maxRecDepth 100000 in
theorem guest_nil (k : Int) (w : World) : Calls Try.prog 18 #[.pointer none, .int .i64 k] w fun e w' => e = .returned (.tuple #[.int .i64 0, .bool false]) ∧ w = w' := by
  go_enter Try.func18, Try.ntmps18
  go_wp2
  go_ret2
  exact ⟨rfl, rfl⟩
set_option maxHeartbeats 400000 in
set_option maxRecDepth 100000 in
theorem guest_empty (p : Nat) (k : Int) (w : World) (hk : (Lit.int .i64 k).wf = true) (hc : w.cell? ⟨p, 1, none⟩ = some (.map none)) : Calls Try.prog 18 #[.pointer (some ⟨p, 0, none⟩), .int .i64 k] w fun e w' => e = .returned (.tuple #[.int .i64 0, .bool false]) ∧ w = w' := by
  have hl := fun w => Maps.look_nil (P := Try.prog) (w := w) (t := 33) (e := 3) true law Try.underlying33 (zero3 w) (keyOf_int_mk Try.underlying3 hk)
  simp only at hl
  have HK := Aside0.mk hk
  clear hk
  go_enter Try.func18, Try.ntmps18
  go_wp2
  go_ret2
  exact ⟨rfl, rfl⟩
set_option maxHeartbeats 400000 in
set_option maxRecDepth 100000 in
theorem guest_at (p b n : Nat) (D : DataW Unit) (k c : Int) (is : Bool) (w : World) (hk : (Lit.int .i64 k).wf = true) (hc : w.cell? ⟨p, 1, none⟩ = some (.map (some b))) (OM : Aside0 (w.ownsMap Try.prog 3 (plainElem (H := Unit) Try.prog 3) b n D))
    (hat : Aside0 (D.atKey (.int .i64 k) (.lit (.int .i64 0)) = .lit (.int .i64 c))) (his : Aside0 (Maps.has D (.int .i64 k) = is)) :
    Calls Try.prog 18 #[.pointer (some ⟨p, 0, none⟩), .int .i64 k] w fun e w' => e = .returned (.tuple #[.int .i64 c, .bool is]) ∧ w = w' := by
  have HK := Aside0.mk hk
  clear hk
  go_enter Try.func18, Try.ntmps18
  go_wp2_with (at_lookup; refine wpList_lookup_own_ok_int _ rfl _ _ 33 rfl 3 3 .i64 law Try.underlying33 Try.underlying3 (zero3 _) b n D rfl OM.out _ _ rfl (keyOf_int_mk Try.underlying3 HK.out) ?_; intro c1 hat1 hwc; rw [hat.out] at hat1; rw [his.out]; injection hat1 with hat1; injection hat1 with _ hat1; subst hat1; clear hwc)
  go_ret2
  exact ⟨rfl, rfl⟩
set_option maxHeartbeats 400000 in
set_option maxRecDepth 100000 in
theorem list_nil (w : World) : Calls Try.prog 19 #[.pointer none] w fun e w' => e = .returned (.slice none 0 0) ∧ w = w' := by
  go_enter Try.func19, Try.ntmps19
  go_wp2
  go_ret
  exact ⟨rfl, rfl⟩
set_option maxHeartbeats 400000 in
set_option maxRecDepth 100000 in
theorem list_empty (p : Nat) (w : World) (hp : p < w.heap.size) (hc0 : w.cell? ⟨p, 0, none⟩ = some (.slice none 0 0)) : Calls Try.prog 19 #[.pointer (some ⟨p, 0, none⟩)] w fun e w' => ∃ A c, e = .returned (.slice A 0 c) ∧ Below w.heap.size w w' := by
  have hc : (w.alloc (Obj.cells #[] 3)).cell? ⟨p, 0, none⟩ = some (.slice none 0 0) := (World.cell?_alloc_lt _ _ _ hp).trans hc0
  clear hc0
  go_enter Try.func19, Try.ntmps19
  go_wp2
  go_ret
  exact ⟨_, _, rfl, by repeat (first | exact Below.refl _ _ | apply below_alloc)⟩
set_option maxHeartbeats 800000 in
set_option maxRecDepth 100000 in
theorem list_any (p n c : Nat) (A : Option Addr) (l : List Int) (w : World) (hp : p < w.heap.size) (hc0 : w.cell? ⟨p, 0, none⟩ = some (.slice A n c)) (HC : Aside0 (Kd.C (Kd.int .i64) w A n l)) (hn : n ≤ 1000) :
    Calls Try.prog 19 #[.pointer (some ⟨p, 0, none⟩)] w fun e w' => ∃ v, e = .returned v ∧ Kd.R (Kd.int .i64) 3 w' w.heap.size (fun _ => True) v l ∧ Below w.heap.size w w' := by
  have HP := Aside0.mk hp
  have hc := Aside0.mk hc0
  have HB := Aside0.mk (Below.refl w.heap.size w)
  clear hp hc0
  go_enter Try.func19, Try.ntmps19
  go_wp2_with (first | ((with_reducible refine gate_dst (N := 5) rfl ?_); refine Kd.R_lit (Kd.int .i64) w.heap.size 3 rfl (N := 5) rfl (xs := ([] : List Int)) (inner := []) (ok := fun _ => True) (okp := fun _ => True) ?hr (Reps.none _ _) (fun _ hk => hk) trivial HB.out (Nat.le_refl _) (by simp) ?_; (case hr => first | (go_simp; done) | (go_simp; rfl)); intro v1 w1 ho hb hg hat; have HO := Aside0.mk ho; have HB1 := Aside0.mk hb; have hcell : w1.cell? ⟨p, 0, none⟩ = some (.slice A n c) := cell_later hb hc.out; have HC1 := Aside0.mk (Kd.C_below HC.out hb); clear ho hb hg hat) | ((with_reducible refine gate_builtin (b := .append) (xs := #[.tmp 5, .tmp 9]) rfl ?_); at_builtin; refine Kd.R_append_row (w0 := w) (Value.int .i64) (0 : Int) w.heap.size rfl (.tmp 5) (.tmp 9) 28 3 (.int .i64 0) 8 rfl Try.underlying28 info3 rfl (by omega) v1 [] l A n c (fun _ => True) rfl rfl (fun _ _ => trivial) HO.out HC1.out HB1.out (below_size HB1.out) (by simp; omega) ?_; intro v2 w2 ho2 hb2 hg2 hat2; have HO2 := Aside0.mk ho2; have HB2 := Aside0.mk hb2; clear ho2 hb2 hg2 hat2))
  go_ret
  exact ⟨_, rfl, HO2.out, HB2.out⟩
end Go.Proofs.Ytpapncnhlapfeab.StrewMap
