/- The walk of kernel.Wants, and of the law's own small call; the reference's answer. -/
import Derived.Test.YtpapncnhlapfeabKernelPure
import Derived.WalkSpells
import Derived.Lib.SlBytesConst
import Derived.WalkLawsBesides
namespace Go.Proofs.Ytpapncnhlapfeab.KernelWants
open Go Go.RowKit Go.Proofs.Ytpapncnhlapfeab.PKernelWants Go.Proofs.Ytpapncnhlapfeab.KernelPure Go.Proofs.YtpapncnhlapfeabW.PrintWords Go.Proofs.YtpapncnhlapfeabW.PrintLast Go.Proofs.YtpapncnhlapfeabW.PrintMore
theorem str_append (a b : List Int) : strOfNums a ++ strOfNums b = strOfNums (a ++ b) := by
  apply ByteArray.ext
  apply Array.ext'
  rw [ByteArray.data_append, Array.toList_append, strOfNums_data, strOfNums_data, strOfNums_data, List.map_append]
theorem wants_l (t : List Int) (hl : t.length ≤ 20) (hb : ∀ c ∈ t, 0 ≤ c ∧ c < 256) (d : Nat) : ∀ (k i : Nat), i + d = t.length → d < k →
    mummerref35_Wants.l0 k t (strOfNums ((t.take i).map low)) (i : Int) = some (strOfNums (t.map low)) := by
  induction d with
  | zero =>
    intro k i hi hk
    obtain ⟨k, rfl⟩ : ∃ m, k = m + 1 := ⟨k - 1, by omega⟩
    simp only [mummerref35_Wants.l0]
    rw [if_neg (by omega), List.take_of_length_le (by omega)]
  | succ d ih =>
    intro k i hi hk
    obtain ⟨k, rfl⟩ : ∃ m, k = m + 1 := ⟨k - 1, by omega⟩
    have next := ih k (i + 1) (by omega) (by omega)
    have hi' : i < t.length := by omega
    have e : t.take (i + 1) = t.take i ++ [rd t (i : Int)] := by
      rw [List.take_succ_eq_append_getElem hi', rd_nat, List.getD_eq_getElem?_getD, List.getElem?_eq_getElem hi']; rfl
    rw [e, List.map_append, ← str_append] at next
    have bd : 0 ≤ rd t (i : Int) ∧ rd t (i : Int) < 256 := by
      rw [rd_nat, List.getD_eq_getElem?_getD, List.getElem?_eq_getElem hi']; exact hb _ (List.getElem_mem hi')
    have sz : (strOfNums ((t.take i).map low)).size ≤ 20 := by rw [strOfNums_size]; simp; omega
    have s1 : ∀ c : Int, (strOfNums [c]).size = 1 := fun c => by rw [strOfNums_size]; rfl
    simp only [mummerref35_Wants.l0, Option.bind_some, s1]
    rw [if_pos (by omega), if_pos (by omega), wrap_nat i (by omega)]
    by_cases h1 : rd t (i : Int) ≥ 97
    · rw [if_pos h1]
      by_cases h2 : rd t (i : Int) ≤ 122
      · rw [if_pos h2, if_pos (by omega), show (rd t (i : Int) - 32) % 256 = low (rd t (i : Int)) by unfold low; rw [if_pos ⟨h1, h2⟩]; omega]; exact next
      · rw [if_neg h2, if_pos (by omega)]
        have : low (rd t (i : Int)) = rd t (i : Int) := by unfold low; rw [if_neg (by omega)]
        simpa [this] using next
    · rw [if_neg h1, if_pos (by omega)]
      have : low (rd t (i : Int)) = rd t (i : Int) := by unfold low; rw [if_neg (by omega)]
      simpa [this] using next
theorem typ_mem (l : List Int) (hb : ∀ c ∈ l, 0 ≤ c ∧ c < 256) : ∀ c ∈ typ l, 0 ≤ c ∧ c < 256 := by
  intro c hc
  unfold typ at hc
  exact hb c (List.mem_filter.1 (List.mem_of_mem_take hc)).1
/-- What is wanted of a text. -/
def wants (l : List Int) : ByteArray := strOfNums ((typ l).map low)
theorem ref_wants (l : List Int) (hl : l.length < 140737488355328) (hb : ∀ c ∈ l, 0 ≤ c ∧ c < 256) : mummerref35_Wants.f (2 * l.length + 40) l = some (wants l) := by
  unfold mummerref35_Wants.f wants
  have h1 : mummerref35_Typed.f (2 * l.length + 40) l = some (typ l) := by
    have := ref_l l hl l.length (2 * l.length + 40) 0 [] (by omega) (by omega) (by simp)
    simpa [mummerref35_Typed.f, typ] using this
  rw [h1]
  have := wants_l (typ l) (typ_len l) (typ_mem l hb) (typ l).length (2 * l.length + 40) 0 (by omega) (by have := typ_len l; omega)
  simpa [strOfNums] using this
/-- The first k are turned. -/
def half (r : List Int) (k : Nat) : List Int := (r.take k).map low ++ r.drop k
theorem half_len (r : List Int) (k : Nat) : (half r k).length = r.length := by unfold half; simp; omega
theorem half_zero (r : List Int) : half r 0 = r := by unfold half; simp
theorem half_all (r : List Int) : half r r.length = r.map low := by unfold half; simp
theorem half_rd (r : List Int) (k : Nat) (h : k < r.length) : rd (half r k) (k : Int) = rd r (k : Int) := by
  rw [rd_nat, rd_nat, List.getD_eq_getElem?_getD, List.getD_eq_getElem?_getD]; unfold half
  rw [List.getElem?_append_right (by simp; omega)]; simp
  congr 2; omega
theorem half_set (r : List Int) (k : Nat) (h : k < r.length) : (half r k).set k (low (rd r (k : Int))) = half r (k + 1) := by
  have e : r.take (k + 1) = r.take k ++ [rd r (k : Int)] := by
    rw [List.take_succ_eq_append_getElem h, rd_nat, List.getD_eq_getElem?_getD, List.getElem?_eq_getElem h]; rfl
  unfold half
  rw [e, drop_cons r k h, List.set_append_right _ _ (by simp; omega)]
  have : k - ((r.take k).map low).length = 0 := by simp; omega
  rw [this]; simp
theorem half_same (r : List Int) (k : Nat) (h : k < r.length) (hl : low (rd r (k : Int)) = rd r (k : Int)) : half r (k + 1) = half r k := by
  rw [← half_set r k h, hl, ← half_rd r k h, rd_nat]
  apply List.ext_getElem?
  intro i
  rw [List.getElem?_set]
  by_cases hi : k = i
  · subst hi; rw [if_pos rfl, if_pos (by rw [half_len]; exact h), List.getD_eq_getElem?_getD, List.getElem?_eq_getElem (by rw [half_len]; exact h)]; rfl
  · rw [if_neg hi]
set_option maxHeartbeats 1000000 in
set_option maxRecDepth 100000 in
theorem wants_any (A0 : Option Addr) (c0 : Nat) (l : List Int) (w : World) (hr : Aside0 (Kd.C (Kd.int .u8) w A0 l.length l)) (hc0 : Aside0 (l.length ≤ c0)) (hl : Aside0 (l.length < 140737488355328)) (hb : Aside0 (∀ c ∈ l, 0 ≤ c ∧ c < 256)) :
    Calls Try.prog 10 #[.slice A0 l.length c0] w fun e w' => e = .returned (.string (wants l)) ∧ Below w.heap.size w w' := by
  obtain ⟨r, hrd⟩ : ∃ r, r = typ l := ⟨_, rfl⟩
  have T := Aside0.mk (fun w hr => kernel_typed.calls (l.length + 1) A0 c0 l r w hr hc0.out (by rw [hrd]; exact typed_is l hl.out))
  have RL : r.length ≤ 20 := by rw [hrd]; exact typ_len l
  have RB := Aside0.mk (show ∀ c ∈ r, 0 ≤ c ∧ c < 256 by rw [hrd]; exact typ_mem l hb.out)
  have HD := Aside0.mk hrd
  clear hrd
  have HB := Aside0.mk (Below.refl w.heap.size w)
  go_enter Try.func10, Try.ntmps10
  go_wp2_with (go_at_call 23; (with_reducible refine (T.out _ hr.out).mono ?_); rintro e w1 ⟨v, rfl, hr1, hb1⟩; have HR := Aside0.mk hr1; have HB1 := Aside0.mk hb1; clear hr1 hb1; obtain ⟨A, c, ev⟩ := Kd.R_slice HR.out; subst ev)
  obtain ⟨n, hn⟩ : ∃ n, n = r.length := ⟨_, rfl⟩
  rw [← hn] at HR RL
  rw [← hn]
  have HN := Aside0.mk hn
  clear hn
  go_loopw [10] (fun v10 wr => ∃ k : Nat, k ≤ n ∧ v10 = .int .i64 k ∧ Aside0 (Kd.R (Kd.int .u8) 5 wr w.heap.size (fun _ => True) (.slice A n c) (half r k)) ∧ Aside0 (Below w.heap.size w wr)) (fun v10 _ => n - (intOf v10).toNat)
  case atStart => exact ⟨0, Nat.zero_le _, rfl, ⟨by rw [half_zero]; exact HR.out⟩, HB1⟩
  case round =>
    clear HR HB1 HB
    obtain ⟨k, hk, rfl, HR, HB⟩ := hrel
    by_cases hlt : k < n
    · have hk' : k < r.length := by have := HN.out; omega
      obtain ⟨g, cap, e5, gb, gl, cl, hg⟩ := Kd.R_form HR.out (by rw [half_len]; omega)
      have e6 : A = some ⟨g, 0, none⟩ := by injection e5
      subst e6
      have GB := Aside0.mk gb
      clear gb gl hg cl e5
      obtain ⟨hc0', hf0⟩ := Kd.R_celln 0 HR.out (k : Int) (by omega) (by omega)
      have P := Aside0.mk (Kd.R_putg HR.out (k : Int) (low (rd r (k : Int)))).1
      have hf : wr.frozen? ⟨g, k, none⟩ = false := hf0
      have hc : wr.cell? ⟨g, k, none⟩ = some (.int .u8 (rd r (k : Int))) := by rw [← half_rd r k hk']; exact hc0'
      have P2 := Aside0.mk (half_set r k hk')
      have bd : 0 ≤ rd r (k : Int) ∧ rd r (k : Int) < 256 := by
        rw [rd_nat, List.getD_eq_getElem?_getD, List.getElem?_eq_getElem hk']; exact RB.out _ (List.getElem_mem hk')
      have SM := Aside0.mk (half_same r k hk')
      obtain ⟨b0, b1⟩ := bd
      clear hc0' hf0
      by_cases h1 : 97 ≤ rd r (k : Int)
      · by_cases h2 : rd r (k : Int) ≤ 122
        · have lw : low (rd r (k : Int)) = rd r (k : Int) - 32 := by unfold low; rw [if_pos ⟨h1, h2⟩]
          rw [lw] at P P2
          clear SM lw
          generalize rd r (k : Int) = x at *
          have t1 : decide (97 ≤ x) = true := decide_eq_true h1
          have t2 : decide (x ≤ 122) = true := decide_eq_true h2
          go_wp2
          go_roundw
          case rel => exact ⟨k + 1, by omega, by go_num, ⟨by rw [← P2.out]; exact P.out⟩, ⟨below_set HB.out GB.out⟩⟩
          case measure => simp [intOf]; omega
        · have lw : low (rd r (k : Int)) = rd r (k : Int) := by unfold low; rw [if_neg (by omega)]
          have S2 := Aside0.mk (SM.out lw)
          clear lw SM P P2
          generalize rd r (k : Int) = x at *
          have t1 : decide (97 ≤ x) = true := decide_eq_true h1
          have t2 : decide (x ≤ 122) = false := decide_eq_false h2
          go_wp2
          go_roundw
          case rel => exact ⟨k + 1, by omega, by go_num, ⟨by rw [S2.out]; exact HR.out⟩, HB⟩
          case measure => simp [intOf]; omega
      · have lw : low (rd r (k : Int)) = rd r (k : Int) := by unfold low; rw [if_neg (by omega)]
        have S2 := Aside0.mk (SM.out lw)
        clear lw SM P P2
        generalize rd r (k : Int) = x at *
        have t1 : decide (97 ≤ x) = false := decide_eq_false h1
        go_wp2
        go_roundw
        case rel => exact ⟨k + 1, by omega, by go_num, ⟨by rw [S2.out]; exact HR.out⟩, HB⟩
        case measure => simp [intOf]; omega
    · obtain rfl : k = n := by omega
      have HC := (Kd.R_reads' HR.out)
      have hcv : (convert 22 9 (.slice A k c)).run Try.prog wr = .ok (.string (strOfNums (half r k))) wr := Kd.C_string Try.underlying22 Try.underlying5 Try.underlying9 (by have := HC.2.2; rw [← HC.1] at this; exact this)
      have e7 : strOfNums (half r k) = wants l := by
        rw [HN.out, half_all, HD.out]; rfl
      rw [e7] at hcv
      clear e7 HC
      go_wp2
      go_ret
      exact ⟨rfl, HB.out⟩
theorem wants_four : wants [97, 98, 32, 49] = ⟨#[65, 66, 32, 49]⟩ := by decide
theorem cell_blk {w : World} {b j : Nat} {cs : Array Value} {t : TypeId} {m : Nat × Nat} (h : w.heap[b]? = some (.cells cs t m)) : w.cell? ⟨b, j, none⟩ = cs[j]? := by simp [World.cell?, h]
theorem C_lit {w : World} {b : Nat} {t : TypeId} {m : Nat × Nat} (xs : List Int) (hx : xs.length ≤ 9223372036854775807) (h : w.heap[b]? = some (.cells (xs.map (Value.int .u8)).toArray t m)) : Kd.C (Kd.int .u8) w (some ⟨b, 0, none⟩) xs.length xs := by
  refine Kd.C_of_reads (enc := Value.int .u8) (d := (0 : Int)) (h1 := fun _ => rfl) ⟨rfl, hx, fun _ => ⟨⟨b, 0, none⟩, rfl, fun j hj => ?_⟩⟩
  have e : (⟨b, 0, none⟩ : Addr).add j = ⟨b, j, none⟩ := by simp [Addr.add]; omega
  rw [e, cell_blk h]
  simp [List.getElem?_eq_getElem hj, List.getD_eq_getElem?_getD]
set_option maxHeartbeats 1000000 in
set_option maxRecDepth 100000 in
theorem works_k (w : World) : Calls Try.prog 12 #[] w fun e w' => e = .returned (.bool true) ∧ Below w.heap.size w w' := by
  have WC : ∀ (A : Option Addr) (c : Nat) (w : World), Aside0 (Kd.C (Kd.int .u8) w A 4 [97, 98, 32, 49]) → Aside0 (4 ≤ c) → Calls Try.prog 10 #[.slice A 4 c] w fun e w' => e = .returned (.string ⟨#[65, 66, 32, 49]⟩) ∧ Below w.heap.size w w' := fun A c w h hc => by
    have := wants_any A c [97, 98, 32, 49] w h hc ⟨by simp⟩ ⟨by simp⟩
    rw [wants_four] at this
    exact this
  have WC := Aside0.mk WC
  have kc := fun (w : World) (C : Array Value) (n c : Nat) => Lib.run_convert_bytes_const (P := Try.prog) w 22 5 C n c Try.underlying22 Try.underlying5
  go_enter Try.func12, Try.ntmps12
  go_wp2_with (go_at_call 10; (with_reducible refine (WC.out _ _ _ ⟨C_lit [97, 98, 32, 49] (by simp) (heap_alloc_new w _)⟩ ⟨Nat.le_refl 4⟩).mono ?_); rintro e w2 ⟨rfl, hb⟩; have HB2 := Aside0.mk (below_step (below_alloc (Below.refl w.heap.size w) _) hb); clear hb)
  go_ret
  exact ⟨rfl, HB2.out⟩
end Go.Proofs.Ytpapncnhlapfeab.KernelWants
