/- The four moves of the program (up, down, round, signed), walked: what each call answers, for any number of 32 bits and any number of places. -/
import Derived.Test.YtpapncnhlapfeaaPFlagsShiftsx1
import Derived.Test.YtpapncnhlapfeaaBits
import Derived.WalkKit
import Derived.WalkSpells
import Derived.WalkLawsBesides
namespace Go.Proofs.Ytpapncnhlapfeaa.Moves
open Go Go.RowKit Go.Proofs.Ytpapncnhlapfeaa.PFlagsShifts Go.Proofs.Ytpapncnhlapfeaa.FlagBits Go.Proofs.YtpapncnhlapfeaaW.PrintWords Go.Proofs.YtpapncnhlapfeaaW.PrintLast Go.Proofs.YtpapncnhlapfeaaW.PrintMore

theorem put_one (k : Nat) (r : Int) (c : Bool) (r1 r2 : Int) (b : Nat) (w : World) (hc : w.cell? ⟨b, 0, none⟩ = some (.bool c)) (h : flags_put.f k r [c] = some (r1, r2)) :
    Calls Try.prog 40 #[.int .u32 r, .slice (some ⟨b, 0, none⟩) 1 1] w fun e w' => e = .returned (.tuple #[.int .u32 r1, .int .u32 r2]) ∧ Drawn0 w w' := by
  refine flags_put.calls k r (some ⟨b, 0, none⟩) 1 [c] r1 r2 w ?_ (Nat.le_refl _) h
  refine Kd.C_of_reads (enc := Value.bool) (d := false) (h1 := fun _ => rfl) ⟨rfl, by simp, fun _ => ⟨⟨b, 0, none⟩, rfl, fun j hj => ?_⟩⟩
  have : j = 0 := by simp at hj; omega
  subst this
  exact hc
theorem put_none (k : Nat) (r : Int) (r1 r2 : Int) (w : World) (h : flags_put.f k r [] = some (r1, r2)) :
    Calls Try.prog 40 #[.int .u32 r, .slice none 0 0] w fun e w' => e = .returned (.tuple #[.int .u32 r1, .int .u32 r2]) ∧ Drawn0 w w' :=
  flags_put.calls k r none 0 [] r1 r2 w (Kd.C_nil _ _) (Nat.le_refl _) h
set_option maxHeartbeats 800000 in
set_option maxRecDepth 100000 in
theorem moved_none (k : Nat) (a n r f : Int) (fv : Value) (w : World) (hn0 : 0 ≤ n) (hz : (n % 32 == 0) = true)
    (hp : Aside0 (flags_put.f k a [] = some (r, f))) :
    Calls Try.prog 45 #[.int .u32 a, .int .u32 n, fv] w fun e w' => e = .returned (.tuple #[.int .u32 r, .int .u32 f]) ∧ Below w.heap.size w w' := by
  go_enter Try.func45, Try.ntmps45
  go_wp2_with (go_at_call 40; refine (put_none k _ r f _ hp.out).mono ?_; rintro e w' ⟨rfl, ⟨nd, rfl⟩⟩)
  go_ret2
  exact ⟨rfl, by repeat (first | exact Below.refl _ _ | apply below_alloc | apply pw_below_drewN | apply below_drew1)⟩
theorem put1' (k : Nat) (r : Int) (c : Bool) (h0 : 0 ≤ r) (h1 : r < 4294967296) : Aside0 (flags_put.f (k+4) r [c] = some (r, fl r c false)) := .mk <| by
  have w1 : wrap64 1 = 1 := by unfold wrap64; omega
  have sh0 : shl .u32 64 0 = 64 := by decide
  have ors : bits .or .u32 16 64 = 80 ∧ bits .or .u32 0 64 = 64 ∧ bits .or .u32 0 32 = 32 ∧ bits .or .u32 32 64 = 96 := by decide
  have e1 : (([c] : List Bool).length : Int) = 1 := rfl
  have loop1 : ∀ f : Int, flags_put.l0 (k+2) r f [c] 1 0 = some (r, (if c then bits .or .u32 f 64 else f)) := by
    intro f; cases c <;> simp [flags_put.l0, rdOf, w1, sh0]
  unfold flags_put.f fl
  simp only [flags_put.j0, flags_put.j1, e1, loop1]
  by_cases hz : r = 0
  · subst hz; cases c <;> decide
  · by_cases hn : r / 2147483648 = 1
    · have : 2147483648 ≤ r := by omega
      simp only [if_neg hz, if_pos hn, if_pos this]
      cases c <;> simp [ors]
    · have : ¬ 2147483648 ≤ r := by omega
      simp only [if_neg hz, if_neg hn, if_neg this]
      cases c <;> simp [ors]
theorem put0' (k : Nat) (r : Int) (h0 : 0 ≤ r) (h1 : r < 4294967296) : Aside0 (flags_put.f (k+3) r [] = some (r, fl r false false)) := .mk <| by
  have o : bits .or .u32 0 32 = 32 := by decide
  have e1 : (([] : List Bool).length : Int) = 0 := rfl
  unfold flags_put.f fl
  simp only [flags_put.j0, flags_put.j1, e1, flags_put.l0, Int.lt_irrefl, if_false]
  by_cases hz : r = 0
  · subst hz; decide
  · by_cases hn : r / 2147483648 = 1
    · have : 2147483648 ≤ r := by omega
      simp only [if_neg hz, if_pos hn, if_pos this]
      simp [o]
    · have : ¬ 2147483648 ≤ r := by omega
      simp only [if_neg hz, if_neg hn, if_neg this]
      simp
theorem pow2_bd (i : Nat) (h : i ≤ 32) : (2 : Int) ^ i ≤ 4294967296 ∧ 0 < (2 : Int) ^ i := by
  have h1 : (2 : Nat) ^ i ≤ 2 ^ 32 := Nat.pow_le_pow_right (by omega) h
  have h2 : ((2 ^ i : Nat) : Int) = (2 : Int) ^ i := by simp
  have h3 : 0 < (2 : Nat) ^ i := Nat.pow_pos (by omega)
  rw [← h2]; omega
theorem down_bd (a : Int) (i : Nat) (h0 : 0 ≤ a) : 0 ≤ a / 2 ^ i ∧ a / 2 ^ i ≤ a := ⟨Int.ediv_nonneg h0 (Int.le_of_lt (Int.pow_pos (by omega))), Int.ediv_le_self _ h0⟩
theorem or_bd (a b : Int) (ha0 : 0 ≤ a) (ha : a < 4294967296) (hb0 : 0 ≤ b) (hb : b < 4294967296) : 0 ≤ bits .or .u32 a b ∧ bits .or .u32 a b < 4294967296 := by
  rw [u32_or a b ha0 ha hb0 hb]
  have : a.toNat ||| b.toNat < 4294967296 := Nat.or_lt_two_pow (n := 32) (by omega) (by omega)
  omega
/-! ### up -/
/-- What 'up' comes to: the number, and what went out. -/
def upR (a n : Int) : Int := a * 2 ^ n.toNat % 4294967296
def upC (a n : Int) : Bool := bits BinOp.and IntKind.u32 (a / 2 ^ (32 - n).toNat) 1 == 1
theorem upR_bd (a n : Int) (_h0 : 0 ≤ a) (_h1 : a < 4294967296) : 0 ≤ upR a n ∧ upR a n < 4294967296 := ⟨Int.emod_nonneg _ (by omega), Int.emod_lt_of_pos _ (by omega)⟩
set_option maxHeartbeats 400000 in
set_option maxRecDepth 100000 in
theorem up_any (a n : Int) (w : World) (_ha0 : 0 ≤ a) (_ha : a < 4294967296) (_hn0 : 1 ≤ n) (_hn : n < 32) :
    Calls Try.prog 46 #[.int .u32 a, .int .u32 n] w fun e w' => e = .returned (.tuple #[.int .u32 (upR a n), .bool (upC a n)]) ∧ w = w' := by
  go_enter Try.func46, Try.ntmps46
  go_wp2
  go_ret2
  exact ⟨rfl, rfl⟩
set_option maxHeartbeats 800000 in
set_option maxRecDepth 100000 in
theorem moved_up (k : Nat) (a n r f : Int) (w : World) (ha0 : 0 ≤ a) (ha : a < 4294967296) (_hn0 : 0 ≤ n) (hz : (n % 32 == 0) = false) (h1 : 1 ≤ n % 32) (h32 : n % 32 < 32)
    (hp : Aside0 (flags_put.f k (upR a (n % 32)) [upC a (n % 32)] = some (r, f))) :
    Calls Try.prog 45 #[.int .u32 a, .int .u32 n, .func (.func 46) #[.int .u32 a] #[]] w fun e w' => e = .returned (.tuple #[.int .u32 r, .int .u32 f]) ∧ Below w.heap.size w w' := by
  go_enter Try.func45, Try.ntmps45
  go_wp2_with (first | (go_at_call 46; refine (up_any a (n % 32) _ ha0 ha h1 h32).mono ?_; rintro e w' ⟨rfl, rfl⟩) | (go_at_call 40; refine (put_one k _ _ r f _ _ ?s1 hp.out).mono ?_; (case s1 => simp); rintro e w' ⟨rfl, ⟨nd, rfl⟩⟩))
  go_ret2
  exact ⟨rfl, by repeat (first | exact Below.refl _ _ | apply below_alloc | apply pw_below_drewN | apply below_drew1)⟩
/-- The number, and its flags. -/
def upV (a n : Int) : Int := if n % 32 = 0 then a else upR a (n % 32)
def upF (a n : Int) : Int := if n % 32 = 0 then fl a false false else fl (upR a (n % 32)) (upC a (n % 32)) false
theorem upV_bd (a n : Int) (h0 : 0 ≤ a) (h1 : a < 4294967296) : 0 ≤ upV a n ∧ upV a n < 4294967296 := by
  unfold upV; split
  · exact ⟨h0, h1⟩
  · exact upR_bd a _ h0 h1
theorem moved_up_all (a n : Int) (w : World) (ha0 : 0 ≤ a) (ha : a < 4294967296) (hn0 : 0 ≤ n) :
    Calls Try.prog 45 #[.int .u32 a, .int .u32 n, .func (.func 46) #[.int .u32 a] #[]] w fun e w' => e = .returned (.tuple #[.int .u32 (upV a n), .int .u32 (upF a n)]) ∧ Below w.heap.size w w' := by
  unfold upV upF
  by_cases h : n % 32 = 0
  · rw [if_pos h, if_pos h]
    exact moved_none 3 a n a _ _ w hn0 (beq_iff_eq.mpr h) (put0' 0 a ha0 ha)
  · rw [if_neg h, if_neg h]
    have b := upR_bd a (n % 32) ha0 ha
    exact moved_up 4 a n _ _ w ha0 ha hn0 (beq_eq_false_iff_ne.mpr h) (by omega) (by omega) (put1' 0 _ _ b.1 b.2)
set_option maxHeartbeats 400000 in
set_option maxRecDepth 100000 in
theorem call_up (a n : Int) (w : World) (ha0 : 0 ≤ a) (ha : a < 4294967296) (hn0 : 0 ≤ n) :
    Calls Try.prog 26 #[.int .u32 a, .int .u32 n] w fun e w' => e = .returned (.tuple #[.int .u32 (upV a n), .int .u32 (upF a n)]) ∧ Below w.heap.size w w' := by
  have hmf : ∀ (fn : Fn) (first cap : Array Value) (w : World), (Instr.makeFunc fn first cap).run Try.prog w = .ok (.func fn first cap) w := fun _ _ _ _ => rfl
  go_enter Try.func26, Try.ntmps26
  go_wp2_with (go_at_call 45; refine (moved_up_all a n _ ha0 ha hn0).mono ?_; rintro e w' ⟨rfl, hb⟩)
  go_ret2
  exact ⟨rfl, hb⟩
/-! ### down -/
/-- What 'down' comes to: the number, and what went out. -/
def downR (a n : Int) : Int := a / 2 ^ n.toNat
def downC (a n : Int) : Bool := bits BinOp.and IntKind.u32 (a / 2 ^ (n.toNat - 1)) 1 == 1
theorem downR_bd (a n : Int) (h0 : 0 ≤ a) (h1 : a < 4294967296) : 0 ≤ downR a n ∧ downR a n < 4294967296 := by have := down_bd a n.toNat h0; unfold downR; omega
set_option maxHeartbeats 400000 in
set_option maxRecDepth 100000 in
theorem down_any (a n : Int) (w : World) (_ha0 : 0 ≤ a) (_ha : a < 4294967296) (_hn0 : 1 ≤ n) (_hn : n < 32) :
    Calls Try.prog 47 #[.int .u32 a, .int .u32 n] w fun e w' => e = .returned (.tuple #[.int .u32 (downR a n), .bool (downC a n)]) ∧ w = w' := by
  go_enter Try.func47, Try.ntmps47
  go_wp2
  go_ret2
  exact ⟨rfl, rfl⟩
set_option maxHeartbeats 800000 in
set_option maxRecDepth 100000 in
theorem moved_down (k : Nat) (a n r f : Int) (w : World) (ha0 : 0 ≤ a) (ha : a < 4294967296) (_hn0 : 0 ≤ n) (hz : (n % 32 == 0) = false) (h1 : 1 ≤ n % 32) (h32 : n % 32 < 32)
    (hp : Aside0 (flags_put.f k (downR a (n % 32)) [downC a (n % 32)] = some (r, f))) :
    Calls Try.prog 45 #[.int .u32 a, .int .u32 n, .func (.func 47) #[.int .u32 a] #[]] w fun e w' => e = .returned (.tuple #[.int .u32 r, .int .u32 f]) ∧ Below w.heap.size w w' := by
  go_enter Try.func45, Try.ntmps45
  go_wp2_with (first | (go_at_call 47; refine (down_any a (n % 32) _ ha0 ha h1 h32).mono ?_; rintro e w' ⟨rfl, rfl⟩) | (go_at_call 40; refine (put_one k _ _ r f _ _ ?s1 hp.out).mono ?_; (case s1 => simp); rintro e w' ⟨rfl, ⟨nd, rfl⟩⟩))
  go_ret2
  exact ⟨rfl, by repeat (first | exact Below.refl _ _ | apply below_alloc | apply pw_below_drewN | apply below_drew1)⟩
/-- The number, and its flags. -/
def downV (a n : Int) : Int := if n % 32 = 0 then a else downR a (n % 32)
def downF (a n : Int) : Int := if n % 32 = 0 then fl a false false else fl (downR a (n % 32)) (downC a (n % 32)) false
theorem downV_bd (a n : Int) (h0 : 0 ≤ a) (h1 : a < 4294967296) : 0 ≤ downV a n ∧ downV a n < 4294967296 := by
  unfold downV; split
  · exact ⟨h0, h1⟩
  · exact downR_bd a _ h0 h1
theorem moved_down_all (a n : Int) (w : World) (ha0 : 0 ≤ a) (ha : a < 4294967296) (hn0 : 0 ≤ n) :
    Calls Try.prog 45 #[.int .u32 a, .int .u32 n, .func (.func 47) #[.int .u32 a] #[]] w fun e w' => e = .returned (.tuple #[.int .u32 (downV a n), .int .u32 (downF a n)]) ∧ Below w.heap.size w w' := by
  unfold downV downF
  by_cases h : n % 32 = 0
  · rw [if_pos h, if_pos h]
    exact moved_none 3 a n a _ _ w hn0 (beq_iff_eq.mpr h) (put0' 0 a ha0 ha)
  · rw [if_neg h, if_neg h]
    have b := downR_bd a (n % 32) ha0 ha
    exact moved_down 4 a n _ _ w ha0 ha hn0 (beq_eq_false_iff_ne.mpr h) (by omega) (by omega) (put1' 0 _ _ b.1 b.2)
set_option maxHeartbeats 400000 in
set_option maxRecDepth 100000 in
theorem call_down (a n : Int) (w : World) (ha0 : 0 ≤ a) (ha : a < 4294967296) (hn0 : 0 ≤ n) :
    Calls Try.prog 27 #[.int .u32 a, .int .u32 n] w fun e w' => e = .returned (.tuple #[.int .u32 (downV a n), .int .u32 (downF a n)]) ∧ Below w.heap.size w w' := by
  have hmf : ∀ (fn : Fn) (first cap : Array Value) (w : World), (Instr.makeFunc fn first cap).run Try.prog w = .ok (.func fn first cap) w := fun _ _ _ _ => rfl
  go_enter Try.func27, Try.ntmps27
  go_wp2_with (go_at_call 45; refine (moved_down_all a n _ ha0 ha hn0).mono ?_; rintro e w' ⟨rfl, hb⟩)
  go_ret2
  exact ⟨rfl, hb⟩
/-! ### round -/
/-- What 'round' comes to: the number, and what went out. -/
def roundR (a n : Int) : Int := bits BinOp.or IntKind.u32 (a / 2 ^ n.toNat) (a * 2 ^ (32 - n).toNat % 4294967296)
def roundC (a n : Int) : Bool := bits BinOp.or IntKind.u32 (a / 2 ^ n.toNat) (a * 2 ^ (32 - n).toNat % 4294967296) / 2147483648 == 1
theorem roundR_bd (a n : Int) (h0 : 0 ≤ a) (h1 : a < 4294967296) : 0 ≤ roundR a n ∧ roundR a n < 4294967296 := by have := down_bd a n.toNat h0; exact or_bd _ _ this.1 (by omega) (Int.emod_nonneg _ (by omega)) (Int.emod_lt_of_pos _ (by omega))
set_option maxHeartbeats 400000 in
set_option maxRecDepth 100000 in
theorem round_any (a n : Int) (w : World) (_ha0 : 0 ≤ a) (_ha : a < 4294967296) (_hn0 : 1 ≤ n) (_hn : n < 32) :
    Calls Try.prog 48 #[.int .u32 a, .int .u32 n] w fun e w' => e = .returned (.tuple #[.int .u32 (roundR a n), .bool (roundC a n)]) ∧ w = w' := by
  go_enter Try.func48, Try.ntmps48
  go_wp2
  go_ret2
  exact ⟨rfl, rfl⟩
set_option maxHeartbeats 800000 in
set_option maxRecDepth 100000 in
theorem moved_round (k : Nat) (a n r f : Int) (w : World) (ha0 : 0 ≤ a) (ha : a < 4294967296) (_hn0 : 0 ≤ n) (hz : (n % 32 == 0) = false) (h1 : 1 ≤ n % 32) (h32 : n % 32 < 32)
    (hp : Aside0 (flags_put.f k (roundR a (n % 32)) [roundC a (n % 32)] = some (r, f))) :
    Calls Try.prog 45 #[.int .u32 a, .int .u32 n, .func (.func 48) #[.int .u32 a] #[]] w fun e w' => e = .returned (.tuple #[.int .u32 r, .int .u32 f]) ∧ Below w.heap.size w w' := by
  go_enter Try.func45, Try.ntmps45
  go_wp2_with (first | (go_at_call 48; refine (round_any a (n % 32) _ ha0 ha h1 h32).mono ?_; rintro e w' ⟨rfl, rfl⟩) | (go_at_call 40; refine (put_one k _ _ r f _ _ ?s1 hp.out).mono ?_; (case s1 => simp); rintro e w' ⟨rfl, ⟨nd, rfl⟩⟩))
  go_ret2
  exact ⟨rfl, by repeat (first | exact Below.refl _ _ | apply below_alloc | apply pw_below_drewN | apply below_drew1)⟩
/-- The number, and its flags. -/
def roundV (a n : Int) : Int := if n % 32 = 0 then a else roundR a (n % 32)
def roundF (a n : Int) : Int := if n % 32 = 0 then fl a false false else fl (roundR a (n % 32)) (roundC a (n % 32)) false
theorem roundV_bd (a n : Int) (h0 : 0 ≤ a) (h1 : a < 4294967296) : 0 ≤ roundV a n ∧ roundV a n < 4294967296 := by
  unfold roundV; split
  · exact ⟨h0, h1⟩
  · exact roundR_bd a _ h0 h1
theorem moved_round_all (a n : Int) (w : World) (ha0 : 0 ≤ a) (ha : a < 4294967296) (hn0 : 0 ≤ n) :
    Calls Try.prog 45 #[.int .u32 a, .int .u32 n, .func (.func 48) #[.int .u32 a] #[]] w fun e w' => e = .returned (.tuple #[.int .u32 (roundV a n), .int .u32 (roundF a n)]) ∧ Below w.heap.size w w' := by
  unfold roundV roundF
  by_cases h : n % 32 = 0
  · rw [if_pos h, if_pos h]
    exact moved_none 3 a n a _ _ w hn0 (beq_iff_eq.mpr h) (put0' 0 a ha0 ha)
  · rw [if_neg h, if_neg h]
    have b := roundR_bd a (n % 32) ha0 ha
    exact moved_round 4 a n _ _ w ha0 ha hn0 (beq_eq_false_iff_ne.mpr h) (by omega) (by omega) (put1' 0 _ _ b.1 b.2)
set_option maxHeartbeats 400000 in
set_option maxRecDepth 100000 in
theorem call_round (a n : Int) (w : World) (ha0 : 0 ≤ a) (ha : a < 4294967296) (hn0 : 0 ≤ n) :
    Calls Try.prog 37 #[.int .u32 a, .int .u32 n] w fun e w' => e = .returned (.tuple #[.int .u32 (roundV a n), .int .u32 (roundF a n)]) ∧ Below w.heap.size w w' := by
  have hmf : ∀ (fn : Fn) (first cap : Array Value) (w : World), (Instr.makeFunc fn first cap).run Try.prog w = .ok (.func fn first cap) w := fun _ _ _ _ => rfl
  go_enter Try.func37, Try.ntmps37
  go_wp2_with (go_at_call 45; refine (moved_round_all a n _ ha0 ha hn0).mono ?_; rintro e w' ⟨rfl, hb⟩)
  go_ret2
  exact ⟨rfl, hb⟩
/-! ### signed -/
/-- What 'signed' comes to: the number, and what went out. -/
def signedR (a n : Int) : Int := wrap32 a / 2 ^ n.toNat % 4294967296
def signedC (a n : Int) : Bool := bits BinOp.and IntKind.u32 (a / 2 ^ (n.toNat - 1)) 1 == 1
theorem signedR_bd (a n : Int) (_h0 : 0 ≤ a) (_h1 : a < 4294967296) : 0 ≤ signedR a n ∧ signedR a n < 4294967296 := ⟨Int.emod_nonneg _ (by omega), Int.emod_lt_of_pos _ (by omega)⟩
set_option maxHeartbeats 400000 in
set_option maxRecDepth 100000 in
theorem signed_any (a n : Int) (w : World) (_ha0 : 0 ≤ a) (_ha : a < 4294967296) (_hn0 : 1 ≤ n) (_hn : n < 32) :
    Calls Try.prog 49 #[.int .u32 a, .int .u32 n] w fun e w' => e = .returned (.tuple #[.int .u32 (signedR a n), .bool (signedC a n)]) ∧ w = w' := by
  go_enter Try.func49, Try.ntmps49
  go_wp2
  go_ret2
  exact ⟨rfl, rfl⟩
set_option maxHeartbeats 800000 in
set_option maxRecDepth 100000 in
theorem moved_signed (k : Nat) (a n r f : Int) (w : World) (ha0 : 0 ≤ a) (ha : a < 4294967296) (_hn0 : 0 ≤ n) (hz : (n % 32 == 0) = false) (h1 : 1 ≤ n % 32) (h32 : n % 32 < 32)
    (hp : Aside0 (flags_put.f k (signedR a (n % 32)) [signedC a (n % 32)] = some (r, f))) :
    Calls Try.prog 45 #[.int .u32 a, .int .u32 n, .func (.func 49) #[.int .u32 a] #[]] w fun e w' => e = .returned (.tuple #[.int .u32 r, .int .u32 f]) ∧ Below w.heap.size w w' := by
  go_enter Try.func45, Try.ntmps45
  go_wp2_with (first | (go_at_call 49; refine (signed_any a (n % 32) _ ha0 ha h1 h32).mono ?_; rintro e w' ⟨rfl, rfl⟩) | (go_at_call 40; refine (put_one k _ _ r f _ _ ?s1 hp.out).mono ?_; (case s1 => simp); rintro e w' ⟨rfl, ⟨nd, rfl⟩⟩))
  go_ret2
  exact ⟨rfl, by repeat (first | exact Below.refl _ _ | apply below_alloc | apply pw_below_drewN | apply below_drew1)⟩
/-- The number, and its flags. -/
def signedV (a n : Int) : Int := if n % 32 = 0 then a else signedR a (n % 32)
def signedF (a n : Int) : Int := if n % 32 = 0 then fl a false false else fl (signedR a (n % 32)) (signedC a (n % 32)) false
theorem signedV_bd (a n : Int) (h0 : 0 ≤ a) (h1 : a < 4294967296) : 0 ≤ signedV a n ∧ signedV a n < 4294967296 := by
  unfold signedV; split
  · exact ⟨h0, h1⟩
  · exact signedR_bd a _ h0 h1
theorem moved_signed_all (a n : Int) (w : World) (ha0 : 0 ≤ a) (ha : a < 4294967296) (hn0 : 0 ≤ n) :
    Calls Try.prog 45 #[.int .u32 a, .int .u32 n, .func (.func 49) #[.int .u32 a] #[]] w fun e w' => e = .returned (.tuple #[.int .u32 (signedV a n), .int .u32 (signedF a n)]) ∧ Below w.heap.size w w' := by
  unfold signedV signedF
  by_cases h : n % 32 = 0
  · rw [if_pos h, if_pos h]
    exact moved_none 3 a n a _ _ w hn0 (beq_iff_eq.mpr h) (put0' 0 a ha0 ha)
  · rw [if_neg h, if_neg h]
    have b := signedR_bd a (n % 32) ha0 ha
    exact moved_signed 4 a n _ _ w ha0 ha hn0 (beq_eq_false_iff_ne.mpr h) (by omega) (by omega) (put1' 0 _ _ b.1 b.2)
set_option maxHeartbeats 400000 in
set_option maxRecDepth 100000 in
theorem call_signed (a n : Int) (w : World) (ha0 : 0 ≤ a) (ha : a < 4294967296) (hn0 : 0 ≤ n) :
    Calls Try.prog 38 #[.int .u32 a, .int .u32 n] w fun e w' => e = .returned (.tuple #[.int .u32 (signedV a n), .int .u32 (signedF a n)]) ∧ Below w.heap.size w w' := by
  have hmf : ∀ (fn : Fn) (first cap : Array Value) (w : World), (Instr.makeFunc fn first cap).run Try.prog w = .ok (.func fn first cap) w := fun _ _ _ _ => rfl
  go_enter Try.func38, Try.ntmps38
  go_wp2_with (go_at_call 45; refine (moved_signed_all a n _ ha0 ha hn0).mono ?_; rintro e w' ⟨rfl, hb⟩)
  go_ret2
  exact ⟨rfl, hb⟩

end Go.Proofs.Ytpapncnhlapfeaa.Moves
