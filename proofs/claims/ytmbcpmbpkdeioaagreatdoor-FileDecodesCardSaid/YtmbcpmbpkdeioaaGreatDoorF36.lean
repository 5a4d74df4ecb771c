/- Devices of a saved guest: the walks. No condition. -/
import Derived.Test.YtmbcpmbpkdeioaaGreatDoorF35
import Derived.KernelRfl
namespace Go.Proofs.YtmbcpmbpkdeioaaGreatDoor.W
open Go Go.RowKit Go.Eng
set_option maxRecDepth 100000
set_option linter.unusedVariables false
set_option linter.unusedSimpArgs false
abbrev devNewC_c_p4 (x : DnX) : Prop :=
  false = false ∧ 3 = 3 ∧ x.e.n = x.e.n ∧ ∀ (i : Nat), i < x.e.n → [nI (x.e.at_ i), nI (x.e.kind i), nB (x.e.byte i)] = [nI (x.e.at_ i), nI (x.e.kind i), nB (x.e.byte i)]
abbrev devNewC_c_p0 (x : DnX) : Prop :=
  (∃ (y : Unit), devN x = 3 ∧ [AV.tup [AV.nilp, nI 2]] = [AV.tup [AV.nilp, nI 3]] ∧ (devNewC_c_p4 x) ∧ bR x.d.bs = bR x.d.bs ∧ True) ∨ (∃ (y : Unit), devN x = 2 ∧ [AV.tup [AV.nilp, nI 2]] = [AV.tup [AV.nilp, nI 2]] ∧ (devNewC_c_p4 x) ∧ bR x.d.bs = bR x.d.bs ∧ True) ∨ (∃ (y : Unit), (devN x = 0 ∧ x.d.bs.length < 64) ∧ [AV.tup [AV.nilp, nI 2]] = [AV.tup [AV.ptr 2 0 0, nI 0]] ∧ (devNewC_c_p4 x) ∧ bR x.d.bs = bR x.d.bs ∧ False ∧ True) ∨ ∃ (y : Unit), (devN x = 0 ∧ ¬x.d.bs.length < 64) ∧ [AV.tup [AV.nilp, nI 2]] = [AV.tup [AV.ptr 2 0 0, nI 0]] ∧ (devNewC_c_p4 x) ∧ bR x.d.bs = bR x.d.bs ∧ False ∧ True
abbrev devNewC_c_p1 (x : DnX) : Prop :=
  (∃ (y : Unit), devN x = 3 ∧ [AV.tup [AV.nilp, nI 3]] = [AV.tup [AV.nilp, nI 3]] ∧ (devNewC_c_p4 x) ∧ bR x.d.bs = bR x.d.bs ∧ True) ∨ (∃ (y : Unit), devN x = 2 ∧ [AV.tup [AV.nilp, nI 3]] = [AV.tup [AV.nilp, nI 2]] ∧ (devNewC_c_p4 x) ∧ bR x.d.bs = bR x.d.bs ∧ True) ∨ (∃ (y : Unit), (devN x = 0 ∧ x.d.bs.length < 64) ∧ [AV.tup [AV.nilp, nI 3]] = [AV.tup [AV.ptr 2 0 0, nI 0]] ∧ (devNewC_c_p4 x) ∧ bR x.d.bs = bR x.d.bs ∧ False ∧ True) ∨ ∃ (y : Unit), (devN x = 0 ∧ ¬x.d.bs.length < 64) ∧ [AV.tup [AV.nilp, nI 3]] = [AV.tup [AV.ptr 2 0 0, nI 0]] ∧ (devNewC_c_p4 x) ∧ bR x.d.bs = bR x.d.bs ∧ False ∧ True
abbrev devNewC_c_p2 (x : DnX) : Prop :=
  ∃ (y : Unit), devN x = 2 ∧ [AV.tup [AV.ptr 6 0 0, nI 0]] = [AV.tup [AV.nilp, nI 2]] ∧ (devNewC_c_p4 x) ∧ bR x.d.bs = bR x.d.bs ∧ True
abbrev devNewC_c_p3 (x : DnX) : Prop :=
  ∃ (y : Unit), devN x = 3 ∧ [AV.tup [AV.ptr 6 0 0, nI 0]] = [AV.tup [AV.nilp, nI 3]] ∧ (devNewC_c_p4 x) ∧ bR x.d.bs = bR x.d.bs ∧ True
abbrev devNewC_c_p5 (x : DnX) : List AV :=
  [nU 0, nU 0, AV.nils, AV.sl 5 0 0 (x.d.bs.length / 64) (x.d.bs.length / 64) false, nU 0, nU 0, nU 0, nU 0, nU 0, nU 0, AV.bool true, AV.msl 2 0 0 x.e.n x.e.n, AV.nils]
abbrev devNewC_c_p6 (x : DnX) : ERow :=
  ERow.mk x.e.n x.e.c (fun (i : Nat) => numAt (x.e.f i) 0) (fun (i : Nat) => numAt (x.e.f i) 1) fun (i : Nat) => numAt (x.e.f i) 2
abbrev devNewC_c_p7 (x : DnX) : List AV :=
  [nU 0, nU 0, AV.nils, AV.nils, nU 0, nU 0, nU 0, nU 0, nU 0, nU 0, AV.bool true, AV.msl 2 0 0 x.e.n x.e.n, AV.nils]
def devNewC_c_V (x : DnX) : Prop :=
  sp (decide ((↑x.e.n : Int) > 64)) (devNewC_c_p1 x) (sp (bif false then true else decide ((↑x.d.bs.length : Int) > 2048)) (devNewC_c_p1 x) (same (loopOf Proofs.Tryz.prog F_dev_New 0) (loopOf Proofs.Tryz.prog F_dev_New 0) ∧ (0 ≤ x.e.n ∧ x.e.n ≤ 100000000) ∧ ((AV.msl 0 0 0 x.e.n x.e.c = AV.msl 0 0 0 x.e.n x.e.c ∧ AV.msl 1 0 0 x.d.bs.length x.d.c = AV.msl 1 0 0 x.d.bs.length x.d.c ∧ AV.msl 0 0 0 x.e.n x.e.c = AV.msl 0 0 0 x.e.n x.e.c ∧ nI (↑x.e.n : Int) = nI (↑x.e.n : Int) ∧ nI 0 = nI 0 ∧ True) ∧ (devNewC_c_p4 x) ∧ bR x.d.bs = bR x.d.bs ∧ True) ∧ sp (evsOk (devNewC_c_p6 x) 0) (sp ((↑x.d.bs.length : Int).tmod 64 != 0) (devNewC_c_p0 x) ((x.e.n ≤ 100000000 ∧ x.e.n ≤ x.e.c) ∧ [] ++ [AV.msl 0 0 0 x.e.n x.e.c] ++ [] = [AV.msl 0 0 0 x.e.n x.e.c] ∧ (some (ABlk.mk false 3 (AC.recs x.e.n (devNewC_c_p6 x).f)) = some (ABlk.mk false 3 (AC.recs x.e.n fun (i : Nat) => [nI (x.e.at_ i), nI (x.e.kind i), nB
  (x.e.byte i)])) ∧ True) ∧ (∀ (y : Unit), True → (x.d.bs.length ≤ 100000000 ∧ x.d.bs.length ≤ x.d.c) ∧ [] ++ [AV.msl 1 0 0 x.d.bs.length x.d.c] ++ [] = [AV.msl 1 0 0 x.d.bs.length x.d.c] ∧ (some (bR x.d.bs) = some (bR x.d.bs) ∧ True) ∧ (∀ (y : Unit), decide (x.d.bs.length < 64) = true → (devNewC_c_p3 x) ∨ (devNewC_c_p2 x) ∨ (∃ (y : Unit), (devN x = 0 ∧ x.d.bs.length < 64) ∧ [AV.tup [AV.ptr 6 0 0, nI 0]] = [AV.tup [AV.ptr 6 0 0, nI 0]] ∧ (devNewC_c_p4 x) ∧ bR x.d.bs = bR x.d.bs ∧ ABlk.mk true (devNewC_c_p7 x).length (AC.cells (devNewC_c_p7 x)) = ABlk.mk true 13 (AC.cells (devNewC_c_p7 x)) ∧ True) ∨ ∃ (y : Unit), (devN x = 0 ∧ ¬x.d.bs.length < 64) ∧ [AV.tup [AV.ptr 6 0 0, nI 0]] = [AV.tup [AV.ptr 6 0 0, nI 0]] ∧ (devNewC_c_p4 x) ∧ bR x.d.bs = bR x.d.bs ∧ ABlk.mk true (devNewC_c_p7 x).length (AC.cells (devNewC_c_p7 x)) = ABlk.mk true 13 (AC.cells [nU 0, nU 0, AV.nils, AV.sl 7 0 0
  (x.d.bs.length / 64) (x.d.bs.length / 64) false, nU 0, nU 0, nU 0, nU 0, nU 0, nU 0, AV.bool true, AV.msl 2 0 0 x.e.n x.e.n, AV.nils]) ∧ True) ∧ (∀ (y : Unit), decide (x.d.bs.length < 64) = false → (devNewC_c_p3 x) ∨ (devNewC_c_p2 x) ∨ (∃ (y : Unit), (devN x = 0 ∧ x.d.bs.length < 64) ∧ [AV.tup [AV.ptr 6 0 0, nI 0]] = [AV.tup [AV.ptr 6 0 0, nI 0]] ∧ (devNewC_c_p4 x) ∧ bR x.d.bs = bR x.d.bs ∧ ABlk.mk true (devNewC_c_p5 x).length (AC.cells (devNewC_c_p5 x)) = ABlk.mk true 13 (AC.cells (devNewC_c_p7 x)) ∧ True) ∨ ∃ (y : Unit), (devN x = 0 ∧ ¬x.d.bs.length < 64) ∧ [AV.tup [AV.ptr 6 0 0, nI 0]] = [AV.tup [AV.ptr 6 0 0, nI 0]] ∧ (devNewC_c_p4 x) ∧ bR x.d.bs = bR x.d.bs ∧ ABlk.mk true (devNewC_c_p5 x).length (AC.cells (devNewC_c_p5 x)) = ABlk.mk true 13 (AC.cells (devNewC_c_p5 x)) ∧ True) ∧ True) ∧ True)) (devNewC_c_p0 x)))
theorem devNewC_c_e (x : DnX) : some (devNewC_c_V x) = (devNewC.cond sp Go.Proofs.Tryz.prog (drP sp Go.Proofs.Tryz.prog) (forF F_dev_New ((devNewL Go.Proofs.Tryz.prog).lo sp Go.Proofs.Tryz.prog (isLoop 4) (loopOf Go.Proofs.Tryz.prog F_dev_New 0)) noLoops) (orK (eclC.orc sp) (laidC.orc sp)) 40 2 x) := by kernel_rfl
set_option maxRecDepth 100000 in
theorem devNewC_ok : devNewC.OK Go.Proofs.Tryz.prog := by
  refine Con.by hmix (forF_ok (Lp.lo_ok devNewL_ok rfl) (noLoops_ok _)) (orK_ok (Con.orc_ok eclC_ok) (Con.orc_ok laidC_ok)) devNewC_c_V devNewC_c_e (fun x hx => ?_)
  obtain ⟨h1, h2, h3, h4⟩ := hx
  have hb1 : decide ((x.e.n : Int) > 64) = false → x.e.n ≤ 100000000 := fun h => by
    have : ¬ (x.e.n : Int) > 64 := by simpa using h
    omega
  have hb2 : decide ((x.d.bs.length : Int) > 2048) = false → x.d.bs.length ≤ 100000000 := fun h => by
    have : ¬ (x.d.bs.length : Int) > 2048 := by simpa using h
    omega
  unfold devNewC_c_V devNewC_c_p7 devNewC_c_p6 devNewC_c_p5 devNewC_c_p3 devNewC_c_p2 devNewC_c_p1 devNewC_c_p0 devNewC_c_p4
  refine spI (fun h => ?_) (fun h => spI (fun g => ?_) (fun g => ⟨rfl, ⟨Nat.zero_le _, hb1 h⟩, ⟨⟨rfl, rfl, rfl, rfl, rfl, trivial⟩, ⟨rfl, rfl, rfl, fun _ _ => rfl⟩, rfl, trivial⟩, spI (fun he => spI (fun hm => ?_) (fun hm => ⟨⟨hb1 h, h2⟩, rfl, ⟨rfl, trivial⟩, fun _ _ => ⟨⟨hb2 g, h4⟩, rfl, ⟨rfl, trivial⟩, fun _ hl => ?_, fun _ hl => ?_, trivial⟩, trivial⟩)) (fun he => ?_)⟩))
  · have h : x.e.n > 64 := by have : (x.e.n : Int) > 64 := by simpa using h
                              omega
    exact .inl ⟨(), by simp [devN, h], rfl, ⟨rfl, rfl, rfl, fun _ _ => rfl⟩, rfl, trivial⟩
  · have g : x.d.bs.length > 2048 := by have : (x.d.bs.length : Int) > 2048 := by simpa using g
                                        omega
    exact .inl ⟨(), by simp [devN, g], rfl, ⟨rfl, rfl, rfl, fun _ _ => rfl⟩, rfl, trivial⟩
  all_goals
    have h : ¬ x.e.n > 64 := by
      have : ¬ (x.e.n : Int) > 64 := by simpa using h
      omega
    have g : ¬ x.d.bs.length > 2048 := by
      have : ¬ (x.d.bs.length : Int) > 2048 := by simpa using g
      omega
    have h' : decide (x.e.n > 64) = false := by simpa using h
    have g' : decide (x.d.bs.length > 2048) = false := by simpa using g
  · have he : evsOk x.e 0 = true := he
    have hm : ¬ x.d.bs.length % 64 = 0 := by
      have : ¬ (x.d.bs.length : Int).tmod 64 = 0 := by simpa using hm
      rw [Int.tmod_eq_emod_of_nonneg (by omega)] at this
      omega
    have hm' : (x.d.bs.length % 64 == 0) = false := by simpa using hm
    exact .inr (.inl ⟨(), by simp [devN, h', g', he, hm'], rfl, ⟨rfl, rfl, rfl, fun _ _ => rfl⟩, rfl, trivial⟩)
  · have he : evsOk x.e 0 = true := he
    have hm : x.d.bs.length % 64 = 0 := by
      have : (x.d.bs.length : Int).tmod 64 = 0 := by simpa using hm
      rw [Int.tmod_eq_emod_of_nonneg (by omega)] at this
      omega
    exact .inr (.inr (.inl ⟨(), ⟨by simp [devN, h', g', he, hm], by simpa using hl⟩, rfl, ⟨rfl, rfl, rfl, fun _ _ => rfl⟩, rfl, rfl, trivial⟩))
  · have he : evsOk x.e 0 = true := he
    have hm : x.d.bs.length % 64 = 0 := by
      have : (x.d.bs.length : Int).tmod 64 = 0 := by simpa using hm
      rw [Int.tmod_eq_emod_of_nonneg (by omega)] at this
      omega
    exact .inr (.inr (.inr ⟨(), ⟨by simp [devN, h', g', he, hm], by simpa using hl⟩, rfl, ⟨rfl, rfl, rfl, fun _ _ => rfl⟩, rfl, rfl, trivial⟩))
  · have he : evsOk x.e 0 = false := he
    exact .inr (.inl ⟨(), by simp [devN, h', g', he], rfl, ⟨rfl, rfl, rfl, fun _ _ => rfl⟩, rfl, trivial⟩)
abbrev devLoadC_c_l0 (x : Sv) : List AV :=
  [AV.agg [nI x.fr, AV.msl 0 0 0 x.mem.bs.length x.mem.c, nU x.s.r0, nU x.s.r1, nU x.s.r2, nU x.s.r3, nU x.s.r4, nU x.s.r5, nU x.s.r6, nU x.s.r7, nU x.s.pc, nU x.s.ps, nU x.s.c0, nU x.s.c1, nU x.s.c2, nU x.s.c3, nU x.s.c4, nU x.s.c5, nU x.s.c6, nU x.s.c7, AV.bool x.s.h, nI x.steps, AV.msl 1 0 0 x.notes.n x.notes.c, AV.msl 2 0 0 x.out.bs.length x.out.c, AV.msl 3 0 0 x.disk.bs.length x.disk.c, AV.msl 4 0 0 x.queue.bs.length x.queue.c, AV.msl 5 0 0 x.script.n x.script.c, nU x.b1, nU x.b2, nU x.b3, nU x.b4, nU x.b5, nU x.b6, nU x.b7, nU x.b8]]
abbrev devLoadC_c_p2 (x : Sv) : Prop :=
  false = false ∧ 4 = 4 ∧ x.notes.n = x.notes.n ∧ ∀ (i : Nat), i < x.notes.n → [nI (x.notes.at_ i), nI (x.notes.cause i), nU (x.notes.back i), nU (x.notes.addr i)] = [nI (x.notes.at_ i), nI (x.notes.cause i), nU (x.notes.back i), nU (x.notes.addr i)]
abbrev devLoadC_c_p3 (x : Sv) : Prop :=
  false = false ∧ 3 = 3 ∧ x.script.n = x.script.n ∧ ∀ (i : Nat), i < x.script.n → [nI (x.script.at_ i), nI (x.script.kind i), nB (x.script.byte i)] = [nI (x.script.at_ i), nI (x.script.kind i), nB (x.script.byte i)]
abbrev devLoadC_c_p0 (x : Sv) : Prop :=
  sp (bits BinOp.andNot IntKind.u32 x.b1 7 != 0) ((∃ (y : Unit), devLN x = 3 ∧ [AV.tup [AV.nilp, nI 2]] = [AV.tup [AV.nilp, nI 3]] ∧ bR x.mem.bs = bR x.mem.bs ∧ (devLoadC_c_p2 x) ∧ bR x.out.bs = bR x.out.bs ∧ bR x.disk.bs = bR x.disk.bs ∧ bR x.queue.bs = bR x.queue.bs ∧ (devLoadC_c_p3 x) ∧ True) ∨ (∃ (y : Unit), devLN x = 2 ∧ [AV.tup [AV.nilp, nI 2]] = [AV.tup [AV.nilp, nI 2]] ∧ bR x.mem.bs = bR x.mem.bs ∧ (devLoadC_c_p2 x) ∧ bR x.out.bs = bR x.out.bs ∧ bR x.disk.bs = bR x.disk.bs ∧ bR x.queue.bs = bR x.queue.bs ∧ (devLoadC_c_p3 x) ∧ True) ∨ ∃ (y : Unit), devLN x = 0 ∧ [AV.tup [AV.nilp, nI 2]] = [AV.tup [AV.ptr 11 0 0, nI 0]] ∧ bR x.mem.bs = bR x.mem.bs ∧ (devLoadC_c_p2 x) ∧ bR x.out.bs = bR x.out.bs ∧ bR x.disk.bs = bR x.disk.bs ∧ bR x.queue.bs = bR x.queue.bs ∧ (devLoadC_c_p3 x) ∧ True) (sp (bif false then true else bits BinOp.andNot IntKind.u32 x.b2 7 != 0) ((∃ (y : Unit), devLN x = 3 ∧
  [AV.tup [AV.nilp, nI 2]] = [AV.tup [AV.nilp, nI 3]] ∧ bR x.mem.bs = bR x.mem.bs ∧ (devLoadC_c_p2 x) ∧ bR x.out.bs = bR x.out.bs ∧ bR x.disk.bs = bR x.disk.bs ∧ bR x.queue.bs = bR x.queue.bs ∧ (devLoadC_c_p3 x) ∧ True) ∨ (∃ (y : Unit), devLN x = 2 ∧ [AV.tup [AV.nilp, nI 2]] = [AV.tup [AV.nilp, nI 2]] ∧ bR x.mem.bs = bR x.mem.bs ∧ (devLoadC_c_p2 x) ∧ bR x.out.bs = bR x.out.bs ∧ bR x.disk.bs = bR x.disk.bs ∧ bR x.queue.bs = bR x.queue.bs ∧ (devLoadC_c_p3 x) ∧ True) ∨ ∃ (y : Unit), devLN x = 0 ∧ [AV.tup [AV.nilp, nI 2]] = [AV.tup [AV.ptr 11 0 0, nI 0]] ∧ bR x.mem.bs = bR x.mem.bs ∧ (devLoadC_c_p2 x) ∧ bR x.out.bs = bR x.out.bs ∧ bR x.disk.bs = bR x.disk.bs ∧ bR x.queue.bs = bR x.queue.bs ∧ (devLoadC_c_p3 x) ∧ True) (True ∧ [] ++ (devLoadC_c_l0 x) ++ [] = (devLoadC_c_l0 x) ∧ (some (bR x.mem.bs) = some (bR x.mem.bs) ∧ some (ABlk.mk false 4 (AC.recs x.notes.n x.notes.f)) = some (ABlk.mk false 4
  (AC.recs x.notes.n fun (i : Nat) => [nI (x.notes.at_ i), nI (x.notes.cause i), nU (x.notes.back i), nU (x.notes.addr i)])) ∧ some (bR x.out.bs) = some (bR x.out.bs) ∧ some (bR x.disk.bs) = some (bR x.disk.bs) ∧ some (bR x.queue.bs) = some (bR x.queue.bs) ∧ some (ABlk.mk false 3 (AC.recs x.script.n fun (i : Nat) => [nI (x.script.at_ i), nI (x.script.kind i), nB (x.script.byte i)])) = some (ABlk.mk false 3 (AC.recs x.script.n fun (i : Nat) => [nI (x.script.at_ i), nI (x.script.kind i), nB (x.script.byte i)])) ∧ True) ∧ (∀ (y : Unit), True → sp (bif false then true else !orderedN (Sv.mk x.fr (Row.mk x.mem.bs x.mem.c) (St.mk x.s.r0 x.s.r1 x.s.r2 x.s.r3 x.s.r4 x.s.r5 x.s.r6 x.s.r7 x.s.pc x.s.ps x.s.c0 x.s.c1 x.s.c2 x.s.c3 x.s.c4 x.s.c5 x.s.c6 x.s.c7 x.s.h) x.steps (NRow.mk x.notes.n x.notes.c (fun (i : Nat) => numAt (x.notes.f i) 0) (fun (i : Nat) => numAt (x.notes.f i) 1) (fun (i : Nat) =>
  numAt (x.notes.f i) 2) fun (i : Nat) => numAt (x.notes.f i) 3) (Row.mk x.out.bs x.out.c) (Row.mk x.disk.bs x.disk.c) (Row.mk x.queue.bs x.queue.c) (ERow.mk x.script.n x.script.c (fun (i : Nat) => numAt ((fun (i : Nat) => [nI (x.script.at_ i), nI (x.script.kind i), nB (x.script.byte i)]) i) 0) (fun (i : Nat) => numAt ((fun (i : Nat) => [nI (x.script.at_ i), nI (x.script.kind i), nB (x.script.byte i)]) i) 1) fun (i : Nat) => numAt ((fun (i : Nat) => [nI (x.script.at_ i), nI (x.script.kind i), nB (x.script.byte i)]) i) 2) x.b1 x.b2 x.b3 x.b4 x.b5 x.b6 x.b7 x.b8)) ((∃ (y : Unit), devLN x = 3 ∧ [AV.tup [AV.nilp, nI 2]] = [AV.tup [AV.nilp, nI 3]] ∧ bR x.mem.bs = bR x.mem.bs ∧ (devLoadC_c_p2 x) ∧ bR x.out.bs = bR x.out.bs ∧ bR x.disk.bs = bR x.disk.bs ∧ bR x.queue.bs = bR x.queue.bs ∧ (devLoadC_c_p3 x) ∧ True) ∨ (∃ (y : Unit), devLN x = 2 ∧ [AV.tup [AV.nilp, nI 2]] = [AV.tup [AV.nilp, nI 2]] ∧
  bR x.mem.bs = bR x.mem.bs ∧ (devLoadC_c_p2 x) ∧ bR x.out.bs = bR x.out.bs ∧ bR x.disk.bs = bR x.disk.bs ∧ bR x.queue.bs = bR x.queue.bs ∧ (devLoadC_c_p3 x) ∧ True) ∨ ∃ (y : Unit), devLN x = 0 ∧ [AV.tup [AV.nilp, nI 2]] = [AV.tup [AV.ptr 11 0 0, nI 0]] ∧ bR x.mem.bs = bR x.mem.bs ∧ (devLoadC_c_p2 x) ∧ bR x.out.bs = bR x.out.bs ∧ bR x.disk.bs = bR x.disk.bs ∧ bR x.queue.bs = bR x.queue.bs ∧ (devLoadC_c_p3 x) ∧ True) (sp (decide (x.b2 = x.b2)) (sp (decide (x.b1 = x.b1)) (sp (decide (x.b2 = x.b2)) (sp (x.out.bs.length.beq x.out.bs.length && x.out.c.beq x.out.c) (sp (x.queue.bs.length.beq x.queue.bs.length && x.queue.c.beq x.queue.c) ((x.queue.bs.length ≤ 140737488351232 ∧ x.queue.bs.length ≤ x.queue.c) ∧ [] ++ [AV.msl 4 0 0 x.queue.bs.length x.queue.c] ++ [] = [AV.msl 4 0 0 x.queue.bs.length x.queue.c] ∧ (some (bR x.queue.bs) = some (bR x.queue.bs) ∧ True) ∧ (∀ (y : Unit), True → sp
  (x.out.bs.length.beq x.out.bs.length && x.out.c.beq x.out.c) ((x.out.bs.length ≤ 140737488351232 ∧ x.out.bs.length ≤ x.out.c) ∧ [] ++ [AV.msl 2 0 0 x.out.bs.length x.out.c] ++ [] = [AV.msl 2 0 0 x.out.bs.length x.out.c] ∧ (some (bR x.out.bs) = some (bR x.out.bs) ∧ True) ∧ (∀ (y : Unit), True → sp (decide (x.b5 = x.b5)) (sp (decide (x.b4 = x.b4)) (sp (decide (x.b3 = x.b3)) (sp (decide (x.b5 = x.b5)) (sp (decide (x.b4 = x.b4)) (sp (decide (x.b5 = x.b5)) ((∃ (y : Unit), devLN x = 3 ∧ [AV.tup [AV.ptr 8 0 0, nI 0]] = [AV.tup [AV.nilp, nI 3]] ∧ bR x.mem.bs = bR x.mem.bs ∧ (devLoadC_c_p2 x) ∧ bR x.out.bs = bR x.out.bs ∧ bR x.disk.bs = bR x.disk.bs ∧ bR x.queue.bs = bR x.queue.bs ∧ (devLoadC_c_p3 x) ∧ True) ∨ (∃ (y : Unit), devLN x = 2 ∧ [AV.tup [AV.ptr 8 0 0, nI 0]] = [AV.tup [AV.nilp, nI 2]] ∧ bR x.mem.bs = bR x.mem.bs ∧ (devLoadC_c_p2 x) ∧ bR x.out.bs = bR x.out.bs ∧ bR x.disk.bs = bR
  x.disk.bs ∧ bR x.queue.bs = bR x.queue.bs ∧ (devLoadC_c_p3 x) ∧ True) ∨ ∃ (y : Unit), devLN x = 0 ∧ [AV.tup [AV.ptr 8 0 0, nI 0]] = [AV.tup [AV.ptr 8 0 0, nI 0]] ∧ bR x.mem.bs = bR x.mem.bs ∧ (devLoadC_c_p2 x) ∧ bR x.out.bs = bR x.out.bs ∧ bR x.disk.bs = bR x.disk.bs ∧ bR x.queue.bs = bR x.queue.bs ∧ (devLoadC_c_p3 x) ∧ True) False) False) False) False) False) False) ∧ True) False) ∧ True) False) False) False) False) False)) ∧ True))
abbrev devLoadC_c_p1 (x : Sv) : Prop :=
  (∃ (y : Unit), devLN x = 3 ∧ [AV.tup [AV.nilp, nI 3]] = [AV.tup [AV.nilp, nI 3]] ∧ bR x.mem.bs = bR x.mem.bs ∧ (devLoadC_c_p2 x) ∧ bR x.out.bs = bR x.out.bs ∧ bR x.disk.bs = bR x.disk.bs ∧ bR x.queue.bs = bR x.queue.bs ∧ (devLoadC_c_p3 x) ∧ True) ∨ (∃ (y : Unit), devLN x = 2 ∧ [AV.tup [AV.nilp, nI 3]] = [AV.tup [AV.nilp, nI 2]] ∧ bR x.mem.bs = bR x.mem.bs ∧ (devLoadC_c_p2 x) ∧ bR x.out.bs = bR x.out.bs ∧ bR x.disk.bs = bR x.disk.bs ∧ bR x.queue.bs = bR x.queue.bs ∧ (devLoadC_c_p3 x) ∧ True) ∨ ∃ (y : Unit), devLN x = 0 ∧ [AV.tup [AV.nilp, nI 3]] = [AV.tup [AV.ptr 11 0 0, nI 0]] ∧ bR x.mem.bs = bR x.mem.bs ∧ (devLoadC_c_p2 x) ∧ bR x.out.bs = bR x.out.bs ∧ bR x.disk.bs = bR x.disk.bs ∧ bR x.queue.bs = bR x.queue.bs ∧ (devLoadC_c_p3 x) ∧ True
abbrev devLoadC_c_p4 (x : Sv) : ERow :=
  ERow.mk x.script.n x.script.c (fun (i : Nat) => numAt (x.script.f i) 0) (fun (i : Nat) => numAt (x.script.f i) 1) fun (i : Nat) => numAt (x.script.f i) 2
abbrev devLoadC_c_p5 (x : Sv) : List AV :=
  [AV.msl 5 0 0 x.script.n x.script.c, AV.msl 3 0 0 x.disk.bs.length x.disk.c]
def devLoadC_c_V (x : Sv) : Prop :=
  (x.script.n ≤ 140737488351232 ∧ x.script.n ≤ x.script.c ∧ x.disk.bs.length ≤ 140737488351232 ∧ x.disk.bs.length ≤ x.disk.c) ∧ [] ++ (devLoadC_c_p5 x) ++ [] = (devLoadC_c_p5 x) ∧ (some (ABlk.mk false 3 (AC.recs x.script.n x.script.f)) = some (ABlk.mk false 3 (AC.recs x.script.n fun (i : Nat) => [nI (x.script.at_ i), nI (x.script.kind i), nB (x.script.byte i)])) ∧ some (bR x.disk.bs) = some (bR x.disk.bs) ∧ True) ∧ (∀ (y : Unit), devN (DnX.mk (devLoadC_c_p4 x) (Row.mk x.disk.bs x.disk.c)) = 3 → (∃ (y : Unit), devLN x = 3 ∧ [AV.tup [AV.nilp, nI 3]] = [AV.tup [AV.nilp, nI 3]] ∧ bR x.mem.bs = bR x.mem.bs ∧ (devLoadC_c_p2 x) ∧ bR x.out.bs = bR x.out.bs ∧ bR x.disk.bs = bR x.disk.bs ∧ bR x.queue.bs = bR x.queue.bs ∧ (devLoadC_c_p3 x) ∧ True) ∨ (∃ (y : Unit), devLN x = 2 ∧ [AV.tup [AV.nilp, nI 3]] = [AV.tup [AV.nilp, nI 2]] ∧ bR x.mem.bs = bR x.mem.bs ∧ (devLoadC_c_p2 x) ∧ bR x.out.bs = bR
  x.out.bs ∧ bR x.disk.bs = bR x.disk.bs ∧ bR x.queue.bs = bR x.queue.bs ∧ (devLoadC_c_p3 x) ∧ True) ∨ ∃ (y : Unit), devLN x = 0 ∧ [AV.tup [AV.nilp, nI 3]] = [AV.tup [AV.ptr 11 0 0, nI 0]] ∧ bR x.mem.bs = bR x.mem.bs ∧ (devLoadC_c_p2 x) ∧ bR x.out.bs = bR x.out.bs ∧ bR x.disk.bs = bR x.disk.bs ∧ bR x.queue.bs = bR x.queue.bs ∧ (devLoadC_c_p3 x) ∧ True) ∧ (∀ (y : Unit), devN (DnX.mk (devLoadC_c_p4 x) (Row.mk x.disk.bs x.disk.c)) = 2 → (∃ (y : Unit), devLN x = 3 ∧ [AV.tup [AV.nilp, nI 2]] = [AV.tup [AV.nilp, nI 3]] ∧ bR x.mem.bs = bR x.mem.bs ∧ (devLoadC_c_p2 x) ∧ bR x.out.bs = bR x.out.bs ∧ bR x.disk.bs = bR x.disk.bs ∧ bR x.queue.bs = bR x.queue.bs ∧ (devLoadC_c_p3 x) ∧ True) ∨ (∃ (y : Unit), devLN x = 2 ∧ [AV.tup [AV.nilp, nI 2]] = [AV.tup [AV.nilp, nI 2]] ∧ bR x.mem.bs = bR x.mem.bs ∧ (devLoadC_c_p2 x) ∧ bR x.out.bs = bR x.out.bs ∧ bR x.disk.bs = bR x.disk.bs ∧ bR x.queue.bs = bR
  x.queue.bs ∧ (devLoadC_c_p3 x) ∧ True) ∨ ∃ (y : Unit), devLN x = 0 ∧ [AV.tup [AV.nilp, nI 2]] = [AV.tup [AV.ptr 11 0 0, nI 0]] ∧ bR x.mem.bs = bR x.mem.bs ∧ (devLoadC_c_p2 x) ∧ bR x.out.bs = bR x.out.bs ∧ bR x.disk.bs = bR x.disk.bs ∧ bR x.queue.bs = bR x.queue.bs ∧ (devLoadC_c_p3 x) ∧ True) ∧ (∀ (y : Unit), devN (DnX.mk (devLoadC_c_p4 x) (Row.mk x.disk.bs x.disk.c)) = 0 ∧ x.disk.bs.length < 64 → sp (decide ((↑x.queue.bs.length : Int) > 32)) (devLoadC_c_p1 x) (devLoadC_c_p0 x)) ∧ (∀ (y : Unit), devN (DnX.mk (devLoadC_c_p4 x) (Row.mk x.disk.bs x.disk.c)) = 0 ∧ ¬x.disk.bs.length < 64 → sp (decide ((↑x.queue.bs.length : Int) > 32)) (devLoadC_c_p1 x) (devLoadC_c_p0 x)) ∧ True
theorem devLoadC_c_e (x : Sv) : some (devLoadC_c_V x) = (devLoadC.cond sp Go.Proofs.Tryz.prog (drP sp Go.Proofs.Tryz.prog) noLoops (orK (devNewC.orc sp) (orK (cloneC.orc sp) (orderedC.orc sp))) 40 2 x) := by kernel_rfl
set_option maxRecDepth 100000 in
set_option maxHeartbeats 4000000 in
theorem devLoadC_ok : devLoadC.OK Go.Proofs.Tryz.prog := by
  refine Con.by hmix (noLoops_ok _) (orK_ok (Con.orc_ok devNewC_ok) (orK_ok (Con.orc_ok cloneC_ok) (Con.orc_ok orderedC_ok))) devLoadC_c_V devLoadC_c_e (fun x hx => ?_)
  obtain ⟨hm, hno, ho, hd, hq, hs⟩ := hx
  have LN : devLN x = bif devN ⟨x.script, x.disk⟩ == 0 then (bif decide (x.queue.bs.length > 32) then 3 else bif bits .andNot .u32 x.b1 7 != 0 || bits .andNot .u32 x.b2 7 != 0 || !orderedN x then 2 else 0) else devN ⟨x.script, x.disk⟩ := rfl
  unfold devLoadC_c_V devLoadC_c_p5 devLoadC_c_p4 devLoadC_c_p1 devLoadC_c_p0 devLoadC_c_p3 devLoadC_c_p2
  refine ⟨⟨hs.1, hs.2, hd.1, hd.2⟩, rfl, ⟨rfl, rfl, trivial⟩, fun _ h3 => ?_, fun _ h2 => ?_, fun _ h0 => ?_, fun _ h0 => ?_, trivial⟩
  · have h3 : devN ⟨x.script, x.disk⟩ = 3 := h3
    exact .inl ⟨(), by rw [LN, h3]; rfl, rfl, rfl, ⟨rfl, rfl, rfl, fun _ _ => rfl⟩, rfl, rfl, rfl, ⟨rfl, rfl, rfl, fun _ _ => rfl⟩, trivial⟩
  · have h2 : devN ⟨x.script, x.disk⟩ = 2 := h2
    exact .inr (.inl ⟨(), by rw [LN, h2]; rfl, rfl, rfl, ⟨rfl, rfl, rfl, fun _ _ => rfl⟩, rfl, rfl, rfl, ⟨rfl, rfl, rfl, fun _ _ => rfl⟩, trivial⟩)
  all_goals
    have hz : devN ⟨x.script, x.disk⟩ = 0 := h0.1
    rw [hz] at LN
    have LN : devLN x = bif decide (x.queue.bs.length > 32) then 3 else bif bits .andNot .u32 x.b1 7 != 0 || bits .andNot .u32 x.b2 7 != 0 || !orderedN x then 2 else 0 := LN
    refine spI (fun h => ?_) (fun h => spI (fun g1 => ?_) (fun g1 => spI (fun g2 => ?_) (fun g2 => ⟨trivial, rfl, ⟨rfl, rfl, rfl, rfl, rfl, rfl, trivial⟩, fun _ _ => spI (fun g3 => ?_) (fun g3 => ?_), trivial⟩)))
    · have h : decide (x.queue.bs.length > 32) = true := by
        have : (x.queue.bs.length : Int) > 32 := by simpa using h
        exact decide_eq_true (by omega)
      exact .inl ⟨(), by rw [LN, h]; rfl, rfl, rfl, ⟨rfl, rfl, rfl, fun _ _ => rfl⟩, rfl, rfl, rfl, ⟨rfl, rfl, rfl, fun _ _ => rfl⟩, trivial⟩
    all_goals
      have h : decide (x.queue.bs.length > 32) = false := by
        have : ¬ (x.queue.bs.length : Int) > 32 := by simpa using h
        exact decide_eq_false (by omega)
      rw [h] at LN
    · exact .inr (.inl ⟨(), by rw [LN, g1]; rfl, rfl, rfl, ⟨rfl, rfl, rfl, fun _ _ => rfl⟩, rfl, rfl, rfl, ⟨rfl, rfl, rfl, fun _ _ => rfl⟩, trivial⟩)
    all_goals rw [g1] at LN
    · have g2 : (bits .andNot .u32 x.b2 7 != 0) = true := g2
      exact .inr (.inl ⟨(), by rw [LN, g2]; rfl, rfl, rfl, ⟨rfl, rfl, rfl, fun _ _ => rfl⟩, rfl, rfl, rfl, ⟨rfl, rfl, rfl, fun _ _ => rfl⟩, trivial⟩)
    all_goals
      have g2 : (bits .andNot .u32 x.b2 7 != 0) = false := g2
      rw [g2] at LN
    · have g3 : (!orderedN x) = true := g3
      exact .inr (.inl ⟨(), by rw [LN, g3]; rfl, rfl, rfl, ⟨rfl, rfl, rfl, fun _ _ => rfl⟩, rfl, rfl, rfl, ⟨rfl, rfl, rfl, fun _ _ => rfl⟩, trivial⟩)
    · have g3 : (!orderedN x) = false := g3
      refine spT (by simp) (spT (by simp) (spT (by simp) (spT (by simp) (spT (by simp) ⟨hq, rfl, ⟨rfl, trivial⟩, fun _ _ => spT (by simp) ⟨ho, rfl, ⟨rfl, trivial⟩, fun _ _ => spT (by simp) (spT (by simp) (spT (by simp) (spT (by simp) (spT (by simp) (spT (by simp) ?_))))), trivial⟩, trivial⟩))))
      exact .inr (.inr ⟨(), by rw [LN, g3]; rfl, rfl, rfl, ⟨rfl, rfl, rfl, fun _ _ => rfl⟩, rfl, rfl, rfl, ⟨rfl, rfl, rfl, fun _ _ => rfl⟩, trivial⟩)
end Go.Proofs.YtmbcpmbpkdeioaaGreatDoor.W
/- A memory in frames, and a machine of a saved guest: what is reckoned, and the loops' states. No condition. -/
namespace Go.Proofs.YtmbcpmbpkdeioaaGreatDoor.W
open Go Go.RowKit Go.Eng
set_option maxRecDepth 100000
set_option linter.unusedVariables false
set_option linter.unusedSimpArgs false
/-! ### a memory: block b its record, b + 1 its frames, b + 2 its bytes -/
def ramB (b N : Nat) : ABlk := ⟨true, 1, .cells [.sl b 0 0 N N false]⟩
def frameB (b N : Nat) : ABlk := ⟨true, 1, .recs N (fun i => [.sl b (64 * i) 0 64 64 true])⟩
def byteB (l : List Int) : ABlk := ⟨true, 1, .ints .u8 l⟩
def sizeC : Con Nat Unit where
  f := F_ram_RAM_Size
  fit vs H := match vs with
    | [.ptr b _ _] => match H.get b with
      | some k => match k.c with
        | .cells [.sl b1 _ _ n _ _] => some ([b, b1], n)
        | _ => none
      | none => none
    | _ => none
  n0 := 2
  pre n := n ≤ 512
  args n := [.ptr 0 0 0]
  L0 n := [(0, ramB 1 n)]
  outs n := [(fun _ => True, fun _ => (.ret (.int .u32 (64 * n : Nat)), 2, [(0, ramB 1 n)]))]
/-- All bytes stand within. -/
def withinC : Con Nat Unit where
  f := F_ram_RAM_within
  fit vs H := match vs with
    | [.ptr b _ _, _, _, _] => match H.get b with
      | some k => match k.c with
        | .cells [.sl b1 _ _ n _ _] => some ([b, b1], n)
        | _ => none
      | none => none
    | _ => none
  n0 := 2
  pre n := n ≤ 512
  args n := [.ptr 0 0 0, .int .u32 0, .int .i64 (64 * n : Nat), .int .i64 1]
  L0 n := [(0, ramB 1 n)]
  outs n := [(fun _ => True, fun _ => (.ret (.bool true), 2, [(0, ramB 1 n)]))]
structure AtX where
  N : Nat
  k : Nat
  all : List Int
def atC : Con AtX Unit where
  f := F_ram_RAM_at
  fit vs H := match vs with
    | [.ptr b _ _, .int _ a] => match H.get b with
      | some k => match k.c with
        | .cells [.sl b1 _ _ n _ _] => match H.get b1 with
          | some k1 => match k1.c with
            | .recs _ f => match f 0 with
              | [.sl b2 _ _ _ _ _] => match H.get b2 with
                | some k2 => match k2.c with
                  | .ints _ l => some ([b, b1, b2], ⟨n, a.toNat / 64, l⟩)
                  | _ => none
                | none => none
              | _ => none
            | _ => none
          | none => none
        | _ => none
      | none => none
    | _ => none
  n0 := 3
  pre x := x.N ≤ 512 ∧ x.k < x.N
  args x := [.ptr 0 0 0, .int .u32 (64 * x.k : Nat)]
  L0 x := [(0, ramB 1 x.N), (1, frameB 2 x.N), (2, byteB x.all)]
  outs x := [(fun _ => True, fun _ => (.ret (.sl 2 (64 * x.k) 0 64 64 true), 3, [(0, ramB 1 x.N), (1, frameB 2 x.N), (2, byteB x.all)]))]
structure LayX where
  N : Nat
  all : List Int
  mem : Row
structure LayI where
  N : Nat
  all : List Int
  mem : Row
  k : Nat
def atF (b : Nat) : AV := .fn (.func F_ram_RAM_at) [.ptr b 0 0] []
def withinF (b : Nat) : AV := .fn (.func F_ram_RAM_within) [.ptr b 0 0] []
def layL (P : Program) : Lp LayI where
  B := 4
  n := ntmpsOf P F_ram_lay
  code := loopOf P F_ram_lay 0
  fit s H := match s.get 4, s.get 1 with
    | .fn _ [.ptr b _ _] _, .msl b3 _ _ _ c => match H.get b with
      | some k => match k.c with
        | .cells [.sl b1 _ _ n _ _] => match H.get b1 with
          | some k1 => match k1.c with
            | .recs _ f => match f 0 with
              | [.sl b2 _ _ _ _ _] => match H.get b2 with
                | some k2 => match k2.c with
                  | .ints _ l => (rowOf H b3 c).map fun r => ⟨n, l, r, 0⟩
                  | _ => none
                | none => none
              | _ => none
            | _ => none
          | none => none
        | _ => none
      | none => none
    | _, _ => none
  pre i := i.N ≤ 512 ∧ i.all.length = 64 * i.N ∧ i.mem.bs.length = 64 * i.N ∧ i.mem.bs.length ≤ i.mem.c ∧ i.k ≤ i.N
  slots i := [(0, .int .u32 (64 * i.k : Nat)), (1, .msl 3 (64 * i.k) 0 (i.mem.bs.length - 64 * i.k) (i.mem.c - 64 * i.k)), (4, atF 0)]
  nx i := 4
  L i := [(0, ramB 1 i.N), (1, frameB 2 i.N), (2, byteB (i.mem.bs.take (64 * i.k) ++ i.all.drop (64 * i.k))), (3, i.mem.blk)]
  m i := i.N - i.k
  outs i := [(true, ⟨.exit 0, [], 4, [(0, ramB 1 i.N), (1, frameB 2 i.N), (2, byteB i.mem.bs), (3, i.mem.blk)]⟩)]
def layC : Con LayX Unit where
  f := F_ram_lay
  fit vs H := match vs with
    | [_, .msl b3 _ _ _ c, _, _, .fn _ [.ptr b _ _] _] => match H.get b with
      | some k => match k.c with
        | .cells [.sl b1 _ _ n _ _] => match H.get b1 with
          | some k1 => match k1.c with
            | .recs _ f => match f 0 with
              | [.sl b2 _ _ _ _ _] => match H.get b2 with
                | some k2 => match k2.c with
                  | .ints _ l => (rowOf H b3 c).map fun r => ([b, b1, b2, b3], ⟨n, l, r⟩)
                  | _ => none
                | none => none
              | _ => none
            | _ => none
          | none => none
        | _ => none
      | none => none
    | _ => none
  n0 := 4
  pre x := x.N ≤ 512 ∧ x.all.length = 64 * x.N ∧ x.mem.bs.length = 64 * x.N ∧ x.mem.bs.length ≤ x.mem.c
  args x := [.int .u32 0, x.mem.av 3, .int .i64 1, withinF 0, atF 0]
  L0 x := [(0, ramB 1 x.N), (1, frameB 2 x.N), (2, byteB x.all), (3, x.mem.blk)]
  outs x := [(fun _ => True, fun _ => (.ret (.bool true), 4, [(0, ramB 1 x.N), (1, frameB 2 x.N), (2, byteB x.mem.bs), (3, x.mem.blk)]))]
def fillC : Con LayX Unit where
  f := F_ram_RAM_Fill
  fit vs H := match vs with
    | [.ptr b _ _, _, .msl b3 _ _ _ c] => layC.fit [.nils, .msl b3 0 0 0 c, .nils, .nils, .fn (.func 0) [.ptr b 0 0] []] H
    | _ => none
  n0 := 4
  pre x := x.N ≤ 512 ∧ x.all.length = 64 * x.N ∧ x.mem.bs.length = 64 * x.N ∧ x.mem.bs.length ≤ x.mem.c
  args x := [.ptr 0 0 0, .int .u32 0, x.mem.av 3]
  L0 x := [(0, ramB 1 x.N), (1, frameB 2 x.N), (2, byteB x.all), (3, x.mem.blk)]
  outs x := [(fun _ => True, fun _ => (.ret (.bool true), 4, [(0, ramB 1 x.N), (1, frameB 2 x.N), (2, byteB x.mem.bs), (3, x.mem.blk)]))]
/-! ### a new memory -/
structure RnI where
  N : Nat
  k : Nat
  s : Bool
def ramNewL (P : Program) : Lp RnI where
  B := 0
  n := ntmpsOf P F_ram_New
  code := loopOf P F_ram_New 0
  fit s H := match s.get 0 with
    | .int _ n => some ⟨n.toNat, 0, false⟩
    | _ => none
  pre i := 1 ≤ i.N ∧ i.N ≤ 512 ∧ i.k ≤ i.N ∧ (i.s = true → 1 ≤ i.k) ∧ (i.s = false → i.k = 0)
  slots i := [(4, .ptr 0 0 0), (5, .sl 1 0 0 (64 * i.N) (64 * i.N) true), (19, .int .i64 i.N), (20, .int .i64 i.k)]
  nx i := 3
  L i := bif i.s then [(0, ⟨true, 1, .cells [.sl 2 0 0 i.k i.k false]⟩), (1, byteB (List.replicate (64 * i.N) 0)), (2, ⟨true, 1, .recs i.k (fun i => [.sl 1 (64 * i) 0 64 64 true])⟩)] else [(0, ⟨true, 1, .cells [.nils]⟩), (1, byteB (List.replicate (64 * i.N) 0))]
  m i := i.N - i.k
  outs i := [(true, ⟨.exit 0, [(4, .ptr 0 0 0)], 3, [(0, ⟨true, 1, .cells [.sl 2 0 0 i.N i.N false]⟩), (1, byteB (List.replicate (64 * i.N) 0)), (2, ⟨true, 1, .recs i.N (fun i => [.sl 1 (64 * i) 0 64 64 true])⟩)]⟩)]
  sh j := { j with s := true }
def ramNewC : Con Nat Unit where
  f := F_ram_New
  fit vs H := match vs with
    | [.int _ n] => some ([], n.toNat)
    | _ => none
  n0 := 0
  pre n := 1 ≤ n ∧ n ≤ 512
  args n := [.int .i64 n]
  L0 _ := []
  outs n := [(fun _ => True, fun _ => (.ret (.tup [.ptr 0 0 0, .int .i64 0]), 3, [(0, ramB 1 n), (1, frameB 2 n), (2, byteB (List.replicate (64 * n) 0))]))]
end Go.Proofs.YtmbcpmbpkdeioaaGreatDoor.W
/- A memory in frames: the walks. No condition. -/
namespace Go.Proofs.YtmbcpmbpkdeioaaGreatDoor.W
open Go Go.RowKit Go.Eng
set_option maxRecDepth 100000
set_option linter.unusedVariables false
set_option linter.unusedSimpArgs false
def sizeC_c_V (n : Nat) : Prop :=
  ∃ (y : Unit), True ∧ [nU (IntKind.u32.wrap (IntKind.i64.wrap ((↑n : Int) * 64)))] = [nU (↑(64 * n) : Int)] ∧ bC [AV.sl 1 0 0 n n false] = bC [AV.sl 1 0 0 n n false] ∧ True
theorem sizeC_c_e (n : Nat) : some (sizeC_c_V n) = (sizeC.cond sp Go.Proofs.Tryz.prog (drP sp Go.Proofs.Tryz.prog) noLoops noBaseK 40 2 n) := by kernel_rfl
theorem sizeC_ok : sizeC.OK Go.Proofs.Tryz.prog := by
  refine Con.by hmix (noLoops_ok _) (noBaseK_ok _) sizeC_c_V sizeC_c_e (fun n hn => ?_)
  have h : n ≤ 512 := hn
  have e1 : IntKind.wrap .i64 ((n : Int) * 64) = ((64 * n : Nat) : Int) := by rw [IntWalk.i64_in _ (by omega)]; omega
  have e2 : IntKind.wrap .u32 ((64 * n : Nat) : Int) = ((64 * n : Nat) : Int) := IntWalk.u32_in _ (by omega)
  unfold sizeC_c_V
  rw [e1, e2]
  exact ⟨(), trivial, rfl, rfl, trivial⟩
def withinC_c_V (n : Nat) : Prop :=
  n.le 512 ∧ [AV.ptr 0 0 0] = [AV.ptr 0 0 0] ∧ (some (bC [AV.sl 1 0 0 n n false]) = some (bC [AV.sl 1 0 0 n n false]) ∧ True) ∧ (∀ (y : Unit), True → sp (bif true then decide ((↑(64 * n) : Int) ≤ IntKind.i64.wrap (↑(64 * n) : Int)) else false) (n.le 512 ∧ [AV.ptr 0 0 0] = [AV.ptr 0 0 0] ∧ (some (bC [AV.sl 1 0 0 n n false]) = some (bC [AV.sl 1 0 0 n n false]) ∧ True) ∧ (∀ (y : Unit), True → ∃ (y : Unit), True ∧ [AV.bool (bif true then decide (0 ≤ IntKind.i64.wrap (IntKind.i64.wrap (↑(64 * n) : Int) - (↑(64 * n) : Int))) else false)] = [AV.bool true] ∧ bC [AV.sl 1 0 0 n n false] = bC [AV.sl 1 0 0 n n false] ∧ True) ∧ True) (∃ (y : Unit), True ∧ [AV.bool false] = [AV.bool true] ∧ bC [AV.sl 1 0 0 n n false] = bC [AV.sl 1 0 0 n n false] ∧ True)) ∧ True
theorem withinC_c_e (n : Nat) : some (withinC_c_V n) = (withinC.cond sp Go.Proofs.Tryz.prog (drP sp Go.Proofs.Tryz.prog) noLoops (sizeC.orc sp) 40 2 n) := by kernel_rfl
theorem withinC_ok : withinC.OK Go.Proofs.Tryz.prog := by
  refine Con.by hmix (noLoops_ok _) (Con.orc_ok sizeC_ok) withinC_c_V withinC_c_e (fun n hn => ?_)
  have h : n ≤ 512 := hn
  have e1 : IntKind.wrap .i64 ((64 * n : Nat) : Int) = ((64 * n : Nat) : Int) := IntWalk.i64_in _ (by omega)
  have e2 : IntKind.wrap .i64 (((64 * n : Nat) : Int) - ((64 * n : Nat) : Int)) = 0 := by rw [Int.sub_self]; decide
  unfold withinC_c_V
  rw [e1, e2]
  exact ⟨hn, rfl, ⟨rfl, trivial⟩, fun _ _ => spI (fun _ => ⟨hn, rfl, ⟨rfl, trivial⟩, fun _ _ => ⟨(), trivial, rfl, rfl, trivial⟩, trivial⟩) (fun h => by simp at h), trivial⟩
def atC_c_V (x : AtX) : Prop :=
  sp (decide (IntKind.u32.wrap ((↑(64 * x.k) : Int).tdiv 64) < (↑x.N : Int)) && true) (sp (decide (0 + (IntKind.u32.wrap ((↑(64 * x.k) : Int).tdiv 64)).toNat < x.N) && true) (sp (decide (((↑(64 * x.k) : Int).tmod 64).toNat ≤ 64) && true && true && true && true) (∃ (y : Unit), True ∧ [AV.sl 2 (64 * (0 + (IntKind.u32.wrap ((↑(64 * x.k) : Int).tdiv 64)).toNat) + ((↑(64 * x.k) : Int).tmod 64).toNat) 0 (64 - ((↑(64 * x.k) : Int).tmod 64).toNat) (64 - ((↑(64 * x.k) : Int).tmod 64).toNat) true] = [AV.sl 2 (64 * x.k) 0 64 64 true] ∧ bC [AV.sl 1 0 0 x.N x.N false] = bC [AV.sl 1 0 0 x.N x.N false] ∧ (true = true ∧ 1 = 1 ∧ x.N = x.N ∧ ∀ (i : Nat), i < x.N → [AV.sl 2 (64 * i) 0 64 64 true] = [AV.sl 2 (64 * i) 0 64 64 true]) ∧ bW x.all = bW x.all ∧ True) False) False) False
theorem atC_c_e (x : AtX) : some (atC_c_V x) = (atC.cond sp Go.Proofs.Tryz.prog (drP sp Go.Proofs.Tryz.prog) noLoops noBaseK 40 2 x) := by kernel_rfl
theorem atC_ok : atC.OK Go.Proofs.Tryz.prog := by
  refine Con.by hmix (noLoops_ok _) (noBaseK_ok _) atC_c_V atC_c_e (fun x hx => ?_)
  have h1 : x.N ≤ 512 := hx.1
  have h2 : x.k < x.N := hx.2
  have q1 : ((64 * x.k : Nat) : Int).tdiv 64 = (x.k : Int) := by rw [Int.tdiv_eq_ediv_of_nonneg (by omega)]; omega
  have q2 : ((64 * x.k : Nat) : Int).tmod 64 = 0 := by rw [Int.tmod_eq_emod_of_nonneg (by omega)]; omega
  have q3 : IntKind.wrap .u32 (x.k : Int) = (x.k : Int) := IntWalk.u32_in _ (by omega)
  have q4 : (x.k : Int) < (x.N : Int) := by omega
  unfold atC_c_V
  rw [q1, q2, q3]
  simp [sp, q4, h2]
def layL_c_V (i : LayI) : Prop :=
  sp (decide ((↑(i.mem.bs.length - 64 * i.k) : Int) > 0)) ((i.N ≤ 512 ∧ (↑(64 * i.k) : Int).toNat / 64 < i.N) ∧ [AV.ptr 0 0 0] ++ [nU (↑(64 * i.k) : Int)] ++ [] = [AV.ptr 0 0 0, nU (↑(64 * ((↑(64 * i.k) : Int).toNat / 64)) : Int)] ∧ (some (bC [AV.sl 1 0 0 i.N i.N false]) = some (bC [AV.sl 1 0 0 i.N i.N false]) ∧ some (ABlk.mk true 1 (AC.recs i.N fun (i : Nat) => [AV.sl 2 (64 * i) 0 64 64 true])) = some (ABlk.mk true 1 (AC.recs i.N fun (i : Nat) => [AV.sl 2 (64 * i) 0 64 64 true])) ∧ some (bW ((List.take (64 * i.k) i.mem.bs ++ List.drop (64 * i.k) i.all))) = some (bW ((List.take (64 * i.k) i.mem.bs ++ List.drop (64 * i.k) i.all))) ∧ True) ∧ (∀ (y : Unit), True → sp (decide (64 * ((↑(64 * i.k) : Int).toNat / 64) + 0 + (i.mem.bs.length - 64 * i.k).min 64 ≤ (List.take (64 * i.k) i.mem.bs ++ List.drop (64 * i.k) i.all).length) && decide (64 * i.k + 0 + (i.mem.bs.length - 64 * i.k).min 64 ≤
  i.mem.bs.length)) (sp (decide ((↑((i.mem.bs.length - 64 * i.k).min 64) : Int).toNat ≤ i.mem.bs.length - 64 * i.k) && decide (i.mem.bs.length - 64 * i.k ≤ i.mem.c - 64 * i.k) && decide (i.mem.c - 64 * i.k ≤ i.mem.c - 64 * i.k) && true) (∃ (j : LayI), (j.N ≤ 512 ∧ j.all.length = 64 * j.N ∧ j.mem.bs.length = 64 * j.N ∧ j.mem.bs.length ≤ j.mem.c ∧ j.k ≤ j.N) ∧ j.N - j.k < i.N - i.k ∧ [(true, LOut.mk (AX.exit 0) [] 4 [(0, bC [AV.sl 1 0 0 j.N j.N false]), (1, ABlk.mk true 1 (AC.recs j.N fun (i : Nat) => [AV.sl 2 (64 * i) 0 64 64 true])), (2, bW j.mem.bs), (3, bR j.mem.bs)])] = [(true, LOut.mk (AX.exit 0) [] 4 [(0, bC [AV.sl 1 0 0 i.N i.N false]), (1, ABlk.mk true 1 (AC.recs i.N fun (i : Nat) => [AV.sl 2 (64 * i) 0 64 64 true])), (2, bW i.mem.bs), (3, bR i.mem.bs)])] ∧ (nU (IntKind.u32.wrap ((↑(64 * i.k) : Int) + IntKind.u32.wrap (↑((i.mem.bs.length - 64 * i.k).min 64) : Int))) = nU (↑(64 * j.k)
  : Int) ∧ AV.msl 3 (64 * i.k + (↑((i.mem.bs.length - 64 * i.k).min 64) : Int).toNat) 0 (i.mem.bs.length - 64 * i.k - (↑((i.mem.bs.length - 64 * i.k).min 64) : Int).toNat) (i.mem.c - 64 * i.k - (↑((i.mem.bs.length - 64 * i.k).min 64) : Int).toNat) = AV.msl 3 (64 * j.k) 0 (j.mem.bs.length - 64 * j.k) (j.mem.c - 64 * j.k) ∧ AV.fn (Fn.func F_ram_RAM_at) [AV.ptr 0 0 0] [] = AV.fn (Fn.func F_ram_RAM_at) [AV.ptr 0 0 0] [] ∧ True) ∧ bC [AV.sl 1 0 0 i.N i.N false] = bC [AV.sl 1 0 0 j.N j.N false] ∧ (true = true ∧ 1 = 1 ∧ i.N = j.N ∧ ∀ (i_1 : Nat), i_1 < i.N → [AV.sl 2 (64 * i_1) 0 64 64 true] = [AV.sl 2 (64 * i_1) 0 64 64 true]) ∧ bW ((List.take (64 * ((↑(64 * i.k) : Int).toNat / 64) + 0) (List.take (64 * i.k) i.mem.bs ++ List.drop (64 * i.k) i.all) ++ List.take ((i.mem.bs.length - 64 * i.k).min 64) (List.drop (64 * i.k + 0) i.mem.bs) ++ List.drop (64 * ((↑(64 * i.k) : Int).toNat / 64) + 0 +
  (List.take ((i.mem.bs.length - 64 * i.k).min 64) (List.drop (64 * i.k + 0) i.mem.bs)).length) (List.take (64 * i.k) i.mem.bs ++ List.drop (64 * i.k) i.all))) = bW ((List.take (64 * j.k) j.mem.bs ++ List.drop (64 * j.k) j.all)) ∧ bR i.mem.bs = bR j.mem.bs ∧ True) False) False) ∧ True) (True ∧ bC [AV.sl 1 0 0 i.N i.N false] = bC [AV.sl 1 0 0 i.N i.N false] ∧ (true = true ∧ 1 = 1 ∧ i.N = i.N ∧ ∀ (i_1 : Nat), i_1 < i.N → [AV.sl 2 (64 * i_1) 0 64 64 true] = [AV.sl 2 (64 * i_1) 0 64 64 true]) ∧ bW ((List.take (64 * i.k) i.mem.bs ++ List.drop (64 * i.k) i.all)) = bW i.mem.bs ∧ bR i.mem.bs = bR i.mem.bs ∧ True)
theorem layL_c_e (i : LayI) : some (layL_c_V i) = (some ((layL Go.Proofs.Tryz.prog).body sp Go.Proofs.Tryz.prog (atC.orc sp) (drP sp Go.Proofs.Tryz.prog (atC.orc sp)) noLo 40 i)) := by kernel_rfl
theorem lay_eq (a : Nat) (bs al : List Int) (h1 : a + 64 ≤ bs.length) (h2 : al.length = bs.length) : List.take a (List.take a bs ++ List.drop a al) ++ List.take 64 (List.drop a bs) ++ List.drop (a + 64) (List.take a bs ++ List.drop a al) = List.take (a + 64) bs ++ List.drop (a + 64) al := by
  have e : (List.take a bs).length = a := by simp; omega
  rw [List.take_left' e, ← List.take_add, ← List.drop_drop, List.drop_left' e, List.drop_drop]
set_option maxRecDepth 100000 in
theorem layL_ok : (layL Go.Proofs.Tryz.prog).OK Go.Proofs.Tryz.prog := by
  refine Lp.ok_of (Con.orc_ok atC_ok) (drP_ok hmix _ (Con.orc_ok atC_ok)) (noLo_ok _) (by decide) 40 (fun i hi => ?_)
  rw [← Option.some.inj (layL_c_e i)]
  obtain ⟨h1, h2, h3, h4, h5⟩ := hi
  unfold layL_c_V
  by_cases hk : i.k < i.N
  · have hm : (i.mem.bs.length - 64 * i.k).min 64 = 64 := Nat.min_eq_right (by omega)
    have ht : ((64 * i.k : Nat) : Int).toNat / 64 = i.k := by rw [Int.toNat_natCast]; omega
    have hl : (List.take 64 (List.drop (64 * i.k) i.mem.bs)).length = 64 := by simp; omega
    have hl2 : (List.take (64 * i.k) i.mem.bs ++ List.drop (64 * i.k) i.all).length = 64 * i.N := by simp; omega
    rw [hm, ht]
    simp only [Nat.add_zero, hl, hl2]
    refine spI (fun _ => ⟨⟨h1, hk⟩, by simp, by simp [AV.rens, AV.ren, sig], fun _ _ => spI (fun _ => spI (fun _ => ⟨⟨i.N, i.all, i.mem, i.k + 1⟩, ⟨h1, h2, h3, h4, hk⟩, ?_, by simp, ?_⟩) (fun h => ?_)) (fun h => ?_), trivial⟩) (fun h => ?_)
    · show i.N - (i.k + 1) < i.N - i.k; omega
    · have ew : IntKind.wrap .u32 (((64 * i.k : Nat) : Int) + IntKind.wrap .u32 ((64 : Nat) : Int)) = ((64 * (i.k + 1) : Nat) : Int) := by
        rw [IntWalk.u32_in ((64 : Nat) : Int) (by omega), IntWalk.u32_in _ (by omega)]; omega
      refine ⟨⟨by rw [ew], ?_, by simp, trivial⟩, by simp, by simp, ?_, by simp, trivial⟩
      · have e1 : 64 * i.k + ((64 : Nat) : Int).toNat = 64 * (i.k + 1) := by simp; omega
        have e2 : i.mem.bs.length - 64 * i.k - ((64 : Nat) : Int).toNat = i.mem.bs.length - 64 * (i.k + 1) := by simp; omega
        have e3 : i.mem.c - 64 * i.k - ((64 : Nat) : Int).toNat = i.mem.c - 64 * (i.k + 1) := by simp; omega
        rw [e1, e2, e3]
      · rw [lay_eq _ _ _ (by omega) (by omega)]
        rw [show 64 * i.k + 64 = 64 * (i.k + 1) by omega]
    · simp at h; omega
    · simp at h; omega
    · simp at h; omega
  · have hk2 : i.k = i.N := by omega
    refine spI (fun h => ?_) (fun _ => ⟨trivial, rfl, ⟨rfl, rfl, rfl, fun _ _ => rfl⟩, ?_, rfl, trivial⟩)
    · simp at h; omega
    · rw [List.take_of_length_le (by omega), List.drop_of_length_le (by omega), List.append_nil]
abbrev layC_c_p0 (x : LayX) : Prop :=
  true = true ∧ 1 = 1 ∧ x.N = x.N ∧ ∀ (i : Nat), i < x.N → [AV.sl 2 (64 * i) 0 64 64 true] = [AV.sl 2 (64 * i) 0 64 64 true]
def layC_c_V (x : LayX) : Prop :=
  x.N.le 512 ∧ [AV.ptr 0 0 0] ++ [nU 0, nI (↑x.mem.bs.length : Int), nI 1] ++ [] = [AV.ptr 0 0 0, nU 0, nI (↑(64 * x.N) : Int), nI 1] ∧ (some (bC [AV.sl 1 0 0 x.N x.N false]) = some (bC [AV.sl 1 0 0 x.N x.N false]) ∧ True) ∧ (∀ (y : Unit), True → same (loopOf Proofs.Tryz.prog F_ram_lay 0) (loopOf Proofs.Tryz.prog F_ram_lay 0) ∧ (x.N ≤ 512 ∧ x.all.length = 64 * x.N ∧ x.mem.bs.length = 64 * x.N ∧ x.mem.bs.length ≤ x.mem.c ∧ 0 ≤ x.N) ∧ ((nU 0 = nU 0 ∧ AV.msl 3 0 0 x.mem.bs.length x.mem.c = AV.msl 3 0 0 (x.mem.bs.length - 0) (x.mem.c - 0) ∧ AV.fn (Fn.func F_ram_RAM_at) [AV.ptr 0 0 0] [] = AV.fn (Fn.func F_ram_RAM_at) [AV.ptr 0 0 0] [] ∧ True) ∧ bC [AV.sl 1 0 0 x.N x.N false] = bC [AV.sl 1 0 0 x.N x.N false] ∧ (layC_c_p0 x) ∧ bW x.all = bW ((List.take 0 x.mem.bs ++ List.drop 0 x.all)) ∧ bR x.mem.bs = bR x.mem.bs ∧ True) ∧ ∃ (y : Unit), True ∧ [AV.bool true] = [AV.bool true] ∧ bC [AV.sl 1 0 0 x.N
  x.N false] = bC [AV.sl 1 0 0 x.N x.N false] ∧ (layC_c_p0 x) ∧ bW x.mem.bs = bW x.mem.bs ∧ bR x.mem.bs = bR x.mem.bs ∧ True) ∧ True
theorem layC_c_e (x : LayX) : some (layC_c_V x) = (layC.cond sp Go.Proofs.Tryz.prog (drP sp Go.Proofs.Tryz.prog) (forF F_ram_lay ((layL Go.Proofs.Tryz.prog).lo sp Go.Proofs.Tryz.prog (isLoop 3) (loopOf Go.Proofs.Tryz.prog F_ram_lay 0)) noLoops) (orK (withinC.orc sp) (atC.orc sp)) 40 2 x) := by kernel_rfl
set_option maxRecDepth 100000 in
theorem layC_ok : layC.OK Go.Proofs.Tryz.prog := by
  refine Con.by hmix (forF_ok (Lp.lo_ok layL_ok rfl) (noLoops_ok _)) (orK_ok (Con.orc_ok withinC_ok) (Con.orc_ok atC_ok)) layC_c_V layC_c_e (fun x hx => ?_)
  obtain ⟨h1, h2, h3, h4⟩ := hx
  unfold layC_c_V layC_c_p0
  exact ⟨h1, by simp [h3], ⟨rfl, trivial⟩, fun _ _ => ⟨rfl, ⟨h1, h2, h3, h4, Nat.zero_le _⟩, ⟨⟨rfl, rfl, rfl, trivial⟩, rfl, ⟨rfl, rfl, rfl, fun _ _ => rfl⟩, rfl, rfl, trivial⟩, (), trivial, rfl, rfl, ⟨rfl, rfl, rfl, fun _ _ => rfl⟩, rfl, rfl, trivial⟩, trivial⟩
def fillC_c_V (x : LayX) : Prop :=
  (x.N ≤ 512 ∧ x.all.length = 64 * x.N ∧ x.mem.bs.length = 64 * x.N ∧ x.mem.bs.length ≤ x.mem.c) ∧ [] ++ [nU 0, AV.msl 3 0 0 x.mem.bs.length x.mem.c, nI 1, AV.fn (Fn.func 83) [AV.ptr 0 0 0] [], AV.fn (Fn.func 84) [AV.ptr 0 0 0] []] ++ [] = [nU 0, AV.msl 3 0 0 x.mem.bs.length x.mem.c, nI 1, AV.fn (Fn.func F_ram_RAM_within) [AV.ptr 0 0 0] [], AV.fn (Fn.func F_ram_RAM_at) [AV.ptr 0 0 0] []] ∧ (some (bC [AV.sl 1 0 0 x.N x.N false]) = some (bC [AV.sl 1 0 0 x.N x.N false]) ∧ some (ABlk.mk true 1 (AC.recs x.N fun (i : Nat) => [AV.sl 2 (64 * i) 0 64 64 true])) = some (ABlk.mk true 1 (AC.recs x.N fun (i : Nat) => [AV.sl 2 (64 * i) 0 64 64 true])) ∧ some (bW x.all) = some (bW x.all) ∧ some (bR x.mem.bs) = some (bR x.mem.bs) ∧ True) ∧ (∀ (y : Unit), True → ∃ (y : Unit), True ∧ [AV.bool true] = [AV.bool true] ∧ bC [AV.sl 1 0 0 x.N x.N false] = bC [AV.sl 1 0 0 x.N x.N false] ∧ (true = true ∧ 1 = 1 ∧ x.N
  = x.N ∧ ∀ (i : Nat), i < x.N → [AV.sl 2 (64 * i) 0 64 64 true] = [AV.sl 2 (64 * i) 0 64 64 true]) ∧ bW x.mem.bs = bW x.mem.bs ∧ bR x.mem.bs = bR x.mem.bs ∧ True) ∧ True
theorem fillC_c_e (x : LayX) : some (fillC_c_V x) = (fillC.cond sp Go.Proofs.Tryz.prog (drP sp Go.Proofs.Tryz.prog) noLoops (layC.orc sp) 40 2 x) := by kernel_rfl
set_option maxRecDepth 100000 in
theorem fillC_ok : fillC.OK Go.Proofs.Tryz.prog := by
  refine Con.by hmix (noLoops_ok _) (Con.orc_ok layC_ok) fillC_c_V fillC_c_e (fun x hx => ?_)
  obtain ⟨h1, h2, h3, h4⟩ := hx
  unfold fillC_c_V
  exact ⟨⟨h1, h2, h3, h4⟩, rfl, ⟨rfl, rfl, rfl, rfl, trivial⟩, fun _ _ => ⟨(), trivial, rfl, rfl, ⟨rfl, rfl, rfl, fun _ _ => rfl⟩, rfl, rfl, trivial⟩, trivial⟩
abbrev ramA_c_p0 (N k : Nat) : List AV :=
  [AV.sl 1 (0 + (IntKind.i64.wrap ((↑k : Int) * 64)).toNat) 0 ((IntKind.i64.wrap (IntKind.i64.wrap ((↑k : Int) * 64) + 64)).toNat - (IntKind.i64.wrap ((↑k : Int) * 64)).toNat) ((IntKind.i64.wrap (IntKind.i64.wrap ((↑k : Int) * 64) + 64)).toNat - (IntKind.i64.wrap ((↑k : Int) * 64)).toNat) true]
abbrev ramA_c_p1 (N k : Nat) : Prop :=
  IntKind.i64.wrap (IntKind.i64.wrap ((↑k : Int) * 64) + 64) = IntKind.i64.wrap (IntKind.i64.wrap ((↑k : Int) * 64) + 64)
abbrev ramA_c_p2 (N k : Nat) : Prop :=
  IntKind.i64.wrap ((↑k : Int) * 64) = IntKind.i64.wrap ((↑k : Int) * 64)
def ramA_c_V (N k : Nat) : Prop :=
  sp (decide ((↑k : Int) < (↑N : Int))) (sp (decide (0 ≤ IntKind.i64.wrap ((↑k : Int) * 64)) && decide (0 ≤ IntKind.i64.wrap (IntKind.i64.wrap ((↑k : Int) * 64) + 64)) && decide (0 ≤ IntKind.i64.wrap (IntKind.i64.wrap ((↑k : Int) * 64) + 64)) && decide ((IntKind.i64.wrap ((↑k : Int) * 64)).toNat ≤ (IntKind.i64.wrap (IntKind.i64.wrap ((↑k : Int) * 64) + 64)).toNat) && decide ((IntKind.i64.wrap (IntKind.i64.wrap ((↑k : Int) * 64) + 64)).toNat ≤ (IntKind.i64.wrap (IntKind.i64.wrap ((↑k : Int) * 64) + 64)).toNat) && decide ((IntKind.i64.wrap (IntKind.i64.wrap ((↑k : Int) * 64) + 64)).toNat ≤ 64 * N) && true && true && ((0 + (IntKind.i64.wrap ((↑k : Int) * 64)).toNat).beq (0 + (IntKind.i64.wrap ((↑k : Int) * 64)).toNat) && true && ((IntKind.i64.wrap (IntKind.i64.wrap ((↑k : Int) * 64) + 64)).toNat - (IntKind.i64.wrap ((↑k : Int) * 64)).toNat).beq ((IntKind.i64.wrap (IntKind.i64.wrap ((↑k : Int)
  * 64) + 64)).toNat - (IntKind.i64.wrap ((↑k : Int) * 64)).toNat) && ((IntKind.i64.wrap (IntKind.i64.wrap ((↑k : Int) * 64) + 64)).toNat - (IntKind.i64.wrap ((↑k : Int) * 64)).toNat).beq ((IntKind.i64.wrap (IntKind.i64.wrap ((↑k : Int) * 64) + 64)).toNat - (IntKind.i64.wrap ((↑k : Int) * 64)).toNat) && true)) (sp (decide (ramA_c_p1 N k)) (sp (decide (ramA_c_p2 N k)) (sp (decide (ramA_c_p1 N k)) (sp (decide (ramA_c_p2 N k)) (sp (decide (ramA_c_p2 N k)) (sp ((64 * N).beq (64 * N) && (64 * N).beq (64 * N) && true) (sp (k.beq k && k.beq k && true) (sp (k.beq k && k.beq k && true) (sp (decide (0 + k ≤ k) && true && true && true && true && decide ((k + 1) * 24 ≤ 140737488355328) && decide (k + 1 ≤ 9223372036854775807)) (∃ (j : RnI), (1 ≤ j.N ∧ j.N ≤ 512 ∧ j.k ≤ j.N ∧ (true = true → 1 ≤ j.k) ∧ (true = false → j.k = 0)) ∧ j.N - j.k < N - k ∧ [(true, LOut.mk (AX.exit 0) [(4, AV.ptr 0 0 0)] 3 [(0,
  bC [AV.sl 2 0 0 j.N j.N false]), (1, bW ((List.replicate (64 * j.N) (0 : Int)))), (2, ABlk.mk true 1 (AC.recs j.N fun (i : Nat) => [AV.sl 1 (64 * i) 0 64 64 true]))])] = [(true, LOut.mk (AX.exit 0) [(4, AV.ptr 0 0 0)] 3 [(0, bC [AV.sl 2 0 0 N N false]), (1, bW ((List.replicate (64 * N) (0 : Int)))), (2, ABlk.mk true 1 (AC.recs N fun (i : Nat) => [AV.sl 1 (64 * i) 0 64 64 true]))])] ∧ (AV.ptr 0 0 0 = AV.ptr 0 0 0 ∧ AV.sl 1 0 0 (64 * N) (64 * N) true = AV.sl 1 0 0 (64 * j.N) (64 * j.N) true ∧ nI (↑N : Int) = nI (↑j.N : Int) ∧ nI (IntKind.i64.wrap ((↑k : Int) + 1)) = nI (↑j.k : Int) ∧ True) ∧ bC (([AV.sl 2 0 0 k k false].set 0 (AV.sl 4 0 0 (k + 1) (k + 1) false))) = bC [AV.sl 4 0 0 j.k j.k false] ∧ bW ((List.replicate (64 * N) (0 : Int))) = bW ((List.replicate (64 * j.N) (0 : Int))) ∧ (true = true ∧ 1 = 1 ∧ k + (List.take 1 (List.drop 0 (ramA_c_p0 N k))).length / 1 = j.k ∧ ∀ (i : Nat), i < k
  + (List.take 1 (List.drop 0 (ramA_c_p0 N k))).length / 1 → (bif i.blt k then [AV.sl 1 (64 * (0 + i)) 0 64 64 true] else List.take 1 (List.drop ((i - k) * 1) (List.take 1 (List.drop 0 (ramA_c_p0 N k))))) = [AV.sl 1 (64 * i) 0 64 64 true]) ∧ True) False) False) False) False) False) False) False) False) False) False) ((AV.ptr 0 0 0 = AV.ptr 0 0 0 ∧ True) ∧ bC [AV.sl 2 0 0 k k false] = bC [AV.sl 2 0 0 N N false] ∧ bW ((List.replicate (64 * N) (0 : Int))) = bW ((List.replicate (64 * N) (0 : Int))) ∧ (true = true ∧ 1 = 1 ∧ k = N ∧ ∀ (i : Nat), i < k → [AV.sl 1 (64 * i) 0 64 64 true] = [AV.sl 1 (64 * i) 0 64 64 true]) ∧ True)
theorem ramA_c_e (N k : Nat) : some (ramA_c_V N k) = (some ((ramNewL Go.Proofs.Tryz.prog).body sp Go.Proofs.Tryz.prog noBaseK (drP sp Go.Proofs.Tryz.prog noBaseK) noLo 40 ⟨N, k, true⟩)) := by kernel_rfl
def ramB_c_V (N : Nat) : Prop :=
  sp (decide (0 < (↑N : Int))) (sp (decide (64 ≤ 64 * N) && true && true && true) (sp ((64 * N).beq (64 * N) && (64 * N).beq (64 * N) && true) (∃ (j : RnI), (1 ≤ j.N ∧ j.N ≤ 512 ∧ j.k ≤ j.N ∧ (true = true → 1 ≤ j.k) ∧ (true = false → j.k = 0)) ∧ j.N - j.k < N - 0 ∧ [(true, LOut.mk (AX.exit 0) [(4, AV.ptr 0 0 0)] 3 [(0, bC [AV.sl 2 0 0 j.N j.N false]), (1, bW ((List.replicate (64 * j.N) (0 : Int)))), (2, ABlk.mk true 1 (AC.recs j.N fun (i : Nat) => [AV.sl 1 (64 * i) 0 64 64 true]))])] = [(true, LOut.mk (AX.exit 0) [(4, AV.ptr 0 0 0)] 3 [(0, bC [AV.sl 2 0 0 N N false]), (1, bW ((List.replicate (64 * N) (0 : Int)))), (2, ABlk.mk true 1 (AC.recs N fun (i : Nat) => [AV.sl 1 (64 * i) 0 64 64 true]))])] ∧ (AV.ptr 0 0 0 = AV.ptr 0 0 0 ∧ AV.sl 1 0 0 (64 * N) (64 * N) true = AV.sl 1 0 0 (64 * j.N) (64 * j.N) true ∧ nI (↑N : Int) = nI (↑j.N : Int) ∧ nI 1 = nI (↑j.k : Int) ∧ True) ∧ bC [AV.sl 4 0 0 1 1
  false] = bC [AV.sl 4 0 0 j.k j.k false] ∧ bW ((List.replicate (64 * N) (0 : Int))) = bW ((List.replicate (64 * j.N) (0 : Int))) ∧ (true = true ∧ 1 = 1 ∧ 1 = j.k * 1 ∧ ∀ (i : Nat), i < j.k → ∀ (j : Nat), j < 1 → [AV.sl 1 0 0 64 64 true].getD (i * 1 + j) AV.any = [AV.sl 1 (64 * i) 0 64 64 true].getD j AV.any) ∧ True) False) False) False
theorem ramB_c_e (N : Nat) : some (ramB_c_V N) = (some ((ramNewL Go.Proofs.Tryz.prog).body sp Go.Proofs.Tryz.prog noBaseK (drP sp Go.Proofs.Tryz.prog noBaseK) noLo 40 ⟨N, 0, false⟩)) := by kernel_rfl
set_option maxRecDepth 100000 in
theorem ramB_ok (N : Nat) (h1 : 1 ≤ N) (h2 : N ≤ 512) : ramB_c_V N := by
  unfold ramB_c_V
  refine spI (fun _ => spI (fun _ => spI (fun _ => ⟨⟨N, 1, true⟩, ⟨h1, h2, h1, fun _ => Nat.le_refl _, fun h => by cases h⟩, ?_, rfl, ⟨rfl, rfl, rfl, rfl, trivial⟩, rfl, rfl, ⟨rfl, rfl, rfl, fun i hi j hj => ?_⟩, trivial⟩) (fun h => ?_)) (fun h => ?_)) (fun h => ?_)
  · show N - 1 < N - 0; omega
  · obtain rfl : i = 0 := by have : i < 1 := hi
                             omega
    obtain rfl : j = 0 := by omega
    rfl
  · simp at h
  · simp at h; omega
  · simp at h; omega
set_option maxRecDepth 100000 in
theorem ramA_ok (N k : Nat) (h1 : 1 ≤ N) (h2 : N ≤ 512) (h3 : k ≤ N) (h4 : 1 ≤ k) : ramA_c_V N k := by
  unfold ramA_c_V ramA_c_p2 ramA_c_p1 ramA_c_p0
  by_cases hk : k < N
  · have e1 : IntKind.wrap .i64 ((k : Int) * 64) = ((64 * k : Nat) : Int) := by rw [IntWalk.i64_in _ (by omega)]; omega
    have e2 : IntKind.wrap .i64 (((64 * k : Nat) : Int) + 64) = ((64 * k + 64 : Nat) : Int) := by rw [IntWalk.i64_in _ (by omega)]; omega
    have e3 : IntKind.wrap .i64 ((k : Int) + 1) = ((k + 1 : Nat) : Int) := by rw [IntWalk.i64_in _ (by omega)]; omega
    rw [e1, e2, e3]
    simp only [Int.toNat_natCast, Nat.zero_add, show 64 * k + 64 - 64 * k = 64 by omega]
    refine spI (fun _ => spI (fun _ => spI (fun _ => spI (fun _ => spI (fun _ => spI (fun _ => spI (fun _ => spI (fun _ => spI (fun _ => spI (fun _ => spI (fun _ => ⟨⟨N, k + 1, true⟩, ⟨h1, h2, hk, fun _ => by show 1 ≤ k + 1; omega, fun h => by cases h⟩, ?_, by simp, by simp, by simp, by simp, ⟨by simp, by simp, by simp, fun i hi => ?_⟩, trivial⟩)
      (fun h => ?_)) (fun h => ?_)) (fun h => ?_)) (fun h => ?_)) (fun h => ?_)) (fun h => ?_)) (fun h => ?_)) (fun h => ?_)) (fun h => ?_)) (fun h => ?_)) (fun h => ?_)
    · show N - (k + 1) < N - k; omega
    · have hi : i < k + 1 := by simpa using hi
      by_cases hik : i < k
      · rw [blt_true hik]; rfl
      · obtain rfl : i = k := by omega
        rw [blt_false hik, Nat.sub_self]; rfl
    all_goals first | (simp at h; done) | (simp at h; omega)
  · obtain rfl : k = N := by omega
    refine spI (fun h => ?_) (fun _ => ?_)
    · simp at h
    · simp
set_option maxRecDepth 100000 in
theorem ramNewL_ok : (ramNewL Go.Proofs.Tryz.prog).OK Go.Proofs.Tryz.prog := by
  refine Lp.ok_of (noBaseK_ok _) (drP_ok hmix _ (noBaseK_ok _)) (noLo_ok _) (by decide) 40 (fun i hi => ?_)
  obtain ⟨N, k, s⟩ := i
  obtain ⟨h1, h2, h3, h4, h5⟩ := hi
  cases s with
  | true =>
    rw [← Option.some.inj (ramA_c_e N k)]
    exact ramA_ok N k h1 h2 h3 (h4 rfl)
  | false =>
    have e : k = 0 := h5 rfl
    rw [e, ← Option.some.inj (ramB_c_e N)]
    exact ramB_ok N h1 h2
def ramNewC_c_V (n : Nat) : Prop :=
  sp (decide ((↑n : Int) < 1)) (∃ (y : Unit), True ∧ False) (sp (bif false then true else decide ((↑n : Int) > 512)) (∃ (y : Unit), True ∧ False) (sp (decide (0 ≤ IntKind.i64.wrap ((↑n : Int) * 64)) && decide (IntKind.i64.wrap ((↑n : Int) * 64) ≤ IntKind.i64.wrap ((↑n : Int) * 64)) && decide (1 * IntKind.i64.wrap ((↑n : Int) * 64) ≤ 281474976710656) && decide (IntKind.i64.wrap ((↑n : Int) * 64) ≤ 9223372036854775807)) (same (loopOf Proofs.Tryz.prog F_ram_New 0) (loopOf Proofs.Tryz.prog F_ram_New 0) ∧ (1 ≤ (↑n : Int).toNat ∧ (↑n : Int).toNat ≤ 512 ∧ 0 ≤ (↑n : Int).toNat ∧ (false = true → 1 ≤ 0) ∧ (false = false → 0 = 0)) ∧ ((AV.ptr 0 0 0 = AV.ptr 0 0 0 ∧ AV.sl 1 0 0 (IntKind.i64.wrap ((↑n : Int) * 64)).toNat (IntKind.i64.wrap ((↑n : Int) * 64)).toNat true = AV.sl 1 0 0 (64 * (↑n : Int).toNat) (64 * (↑n : Int).toNat) true ∧ nI (↑n : Int) = nI (↑(↑n : Int).toNat : Int) ∧ nI 0 = nI 0 ∧ True) ∧
  bC [AV.nils] = bC [AV.nils] ∧ bW ((List.replicate (IntKind.i64.wrap ((↑n : Int) * 64)).toNat 0)) = bW ((List.replicate (64 * (↑n : Int).toNat) 0)) ∧ True) ∧ ∃ (y : Unit), True ∧ [AV.tup [AV.ptr 0 0 0, nI 0]] = [AV.tup [AV.ptr 0 0 0, nI 0]] ∧ bC [AV.sl 2 0 0 (↑n : Int).toNat (↑n : Int).toNat false] = bC [AV.sl 2 0 0 n n false] ∧ (true = true ∧ 1 = 1 ∧ (↑n : Int).toNat = n ∧ ∀ (i : Nat), i < (↑n : Int).toNat → [AV.sl 1 (64 * i) 0 64 64 true] = [AV.sl 1 (64 * i) 0 64 64 true]) ∧ bW ((List.replicate (64 * (↑n : Int).toNat) 0)) = bW ((List.replicate (64 * n) (0 : Int))) ∧ True) False))
theorem ramNewC_c_e (n : Nat) : some (ramNewC_c_V n) = (ramNewC.cond sp Go.Proofs.Tryz.prog (drP sp Go.Proofs.Tryz.prog) (forF F_ram_New ((ramNewL Go.Proofs.Tryz.prog).lo sp Go.Proofs.Tryz.prog (isLoop 6) (loopOf Go.Proofs.Tryz.prog F_ram_New 0)) noLoops) noBaseK 40 2 n) := by kernel_rfl
set_option maxRecDepth 100000 in
theorem ramNewC_ok : ramNewC.OK Go.Proofs.Tryz.prog := by
  refine Con.by hmix (forF_ok (Lp.lo_ok ramNewL_ok rfl) (noLoops_ok _)) (noBaseK_ok _) ramNewC_c_V ramNewC_c_e (fun n hn => ?_)
  have h1 : 1 ≤ n := hn.1
  have h2 : n ≤ 512 := hn.2
  have e1 : IntKind.wrap .i64 ((n : Int) * 64) = ((64 * n : Nat) : Int) := by rw [IntWalk.i64_in _ (by omega)]; omega
  unfold ramNewC_c_V
  rw [e1]
  simp only [Int.toNat_natCast]
  refine spI (fun h => ?_) (fun _ => spI (fun h => ?_) (fun _ => spI (fun _ => ?_) (fun h => ?_)))
  · simp at h; omega
  · simp at h; omega
  · simp [same, h1, h2]
  · simp at h; omega
end Go.Proofs.YtmbcpmbpkdeioaaGreatDoor.W
/- Whether a guest may be kept: what is reckoned, and the loop's states. No condition. -/
namespace Go.Proofs.YtmbcpmbpkdeioaaGreatDoor.W
open Go Go.RowKit Go.Eng
set_option maxRecDepth 100000
set_option linter.unusedVariables false
set_option linter.unusedSimpArgs false
structure RsX where
  x : Sv
  N : Nat
def resumeC : Con RsX Unit where
  f := F_machine_Resume
  fit vs H := match vs with
    | [.ptr b _ _, .agg cs] => match svOf H cs, sizeC.fit [.ptr b 0 0] H with
      | some (σ, x), some (τ, N) => match H.get (τ.getD 1 0) with
        | some k => match k.c with
          | .recs _ f => match f 0 with
            | [.sl b2 _ _ _ _ _] => some (σ ++ τ ++ [b2], ⟨x, N⟩)
            | _ => none
          | _ => none
        | none => none
      | _, _ => none
    | _ => none
  n0 := 9
  pre y := y.x.fine ∧ fitsN y.x = true ∧ y.x.fr = (y.N : Int) ∧ 1 ≤ y.N ∧ y.N ≤ 64
  args y := [.ptr 6 0 0, .agg y.x.av]
  L0 y := [(0, y.x.mem.blk), (1, y.x.notes.blk), (2, y.x.out.blk), (3, y.x.disk.blk), (4, y.x.queue.blk), (5, y.x.script.blk), (6, ramB 7 y.N), (7, frameB 8 y.N), (8, byteB (List.replicate (64 * y.N) 0))]
  outs y := [(fun _ => devLN y.x = 3, fun _ => (.ret (.tup [.nilp, .int .i64 3]), 10, y.x.L)), (fun _ => devLN y.x = 2, fun _ => (.ret (.tup [.nilp, .int .i64 2]), 10, y.x.L)), (fun _ => devLN y.x = 0, fun _ => (.ret (.tup [.ptr 9 0 0, .int .i64 0]), 10, y.x.L))]
def loadN (x : Sv) : Int := bif fitsN x then devLN x else 2
def loadC : Con Sv Unit where
  f := F_machine_Load
  fit := svFit
  n0 := 6
  pre := Sv.fine
  args x := [.agg x.av]
  L0 x := x.L
  outs x := [(fun _ => loadN x = 3, fun _ => (.ret (.tup [.nilp, .int .i64 3]), 7, x.L)), (fun _ => loadN x = 2, fun _ => (.ret (.tup [.nilp, .int .i64 2]), 7, x.L)), (fun _ => loadN x = 0, fun _ => (.ret (.tup [.ptr 6 0 0, .int .i64 0]), 7, x.L))]
def noteOk (r : NRow) (i : Nat) : Bool := !(decide (r.at_ i < 0) || decide (r.at_ i > 1099511627776) || decide (r.cause i < 1) || decide (r.cause i > 11))
def notesOk (r : NRow) (k : Nat) : Bool := (List.range' k (r.n - k)).all fun i => noteOk r i
structure MyI where
  x : Sv
  k : Nat
def mayL (P : Program) : Lp MyI where
  B := 6
  n := ntmpsOf P F_file_May
  code := loopOf P F_file_May 0
  fit s H := match s.get 1 with
    | .ptr b _ _ => match H.get b with
      | some q => match q.c with
        | .cells cs => (svOf H cs).map fun r => ⟨r.2, 0⟩
        | _ => none
      | none => none
    | _ => none
  pre i := i.k ≤ i.x.notes.n ∧ i.x.notes.n ≤ 100000000
  slots i := [(26, i.x.notes.av 1), (27, .int .i64 i.x.notes.n), (28, .int .i64 i.k)]
  nx i := 6
  L i := i.x.L
  m i := i.x.notes.n - i.k
  outs i := [(notesOk i.x.notes i.k, ⟨.exit 0, [], 6, i.x.L⟩), (true, ⟨.ret, [(2, .int .i64 2)], 6, i.x.L⟩)]
def keepN (x : Sv) : Int := bif loadN x == 0 then (bif decide (x.notes.n > 4096) || decide (x.out.bs.length > 65536) then 3 else bif notesOk x.notes 0 then 0 else 2) else loadN x
def keepC : Con Sv Unit where
  f := F_file_May
  fit := svFit
  n0 := 6
  pre := Sv.fine
  args x := [.agg x.av]
  L0 x := x.L
  outs x := [(fun _ => keepN x = 3, fun _ => (.ret (.int .i64 3), 6, x.L)), (fun _ => keepN x = 2, fun _ => (.ret (.int .i64 2), 6, x.L)), (fun _ => keepN x = 0, fun _ => (.ret (.int .i64 0), 6, x.L))]
end Go.Proofs.YtmbcpmbpkdeioaaGreatDoor.W
/- Whether a guest may be kept: the walks. No condition. -/
namespace Go.Proofs.YtmbcpmbpkdeioaaGreatDoor.W
open Go Go.RowKit Go.Eng
set_option maxRecDepth 100000
set_option linter.unusedVariables false
set_option linter.unusedSimpArgs false
theorem notesOk_step (e : NRow) (k : Nat) (h : k < e.n) : notesOk e k = (noteOk e k && notesOk e (k + 1)) := by
  unfold notesOk
  rw [show e.n - k = (e.n - (k + 1)) + 1 by omega, List.range'_succ, List.all_cons]
theorem notesOk_end (e : NRow) (k : Nat) (h : e.n ≤ k) : notesOk e k = true := by
  unfold notesOk
  rw [show e.n - k = 0 by omega]; rfl
abbrev mayL_c_p1 (i : MyI) (i_1 : Nat) : List AV :=
  [nI (i.x.notes.at_ i_1), nI (i.x.notes.cause i_1), nU (i.x.notes.back i_1), nU (i.x.notes.addr i_1)]
abbrev mayL_c_p2 (i : MyI) (i_1 : Nat) : List AV :=
  [nI (i.x.script.at_ i_1), nI (i.x.script.kind i_1), nB (i.x.script.byte i_1)]
abbrev mayL_c_p0 (i : MyI) : Prop :=
  sp (notesOk i.x.notes i.k) False ((nI 2 = nI 2 ∧ True) ∧ bR i.x.mem.bs = bR i.x.mem.bs ∧ (false = false ∧ 4 = 4 ∧ i.x.notes.n = i.x.notes.n ∧ ∀ (i_1 : Nat), i_1 < i.x.notes.n → (mayL_c_p1 i i_1) = (mayL_c_p1 i i_1)) ∧ bR i.x.out.bs = bR i.x.out.bs ∧ bR i.x.disk.bs = bR i.x.disk.bs ∧ bR i.x.queue.bs = bR i.x.queue.bs ∧ (false = false ∧ 3 = 3 ∧ i.x.script.n = i.x.script.n ∧ ∀ (i_1 : Nat), i_1 < i.x.script.n → (mayL_c_p2 i i_1) = (mayL_c_p2 i i_1)) ∧ True)
def mayL_c_V (i : MyI) : Prop :=
  sp (decide ((↑i.k : Int) < (↑i.x.notes.n : Int))) (sp (decide ((↑i.k : Int) < (↑i.x.notes.n : Int)) && true) (sp (decide (0 + (↑i.k : Int).toNat < i.x.notes.n) && true && (decide (0 + (↑i.k : Int).toNat < i.x.notes.n) && true && (decide (0 + (↑i.k : Int).toNat < i.x.notes.n) && true && (decide (0 + (↑i.k : Int).toNat < i.x.notes.n) && true && true)))) (sp (decide (i.x.notes.at_ (0 + (↑i.k : Int).toNat) < 0)) (mayL_c_p0 i) (sp (bif false then true else decide (i.x.notes.at_ (0 + (↑i.k : Int).toNat) > 1099511627776)) (mayL_c_p0 i) (sp (bif false then true else decide (i.x.notes.cause (0 + (↑i.k : Int).toNat) < 1)) (mayL_c_p0 i) (sp (bif false then true else decide (i.x.notes.cause (0 + (↑i.k : Int).toNat) > 11)) (mayL_c_p0 i) (∃ (j : MyI), (j.k ≤ j.x.notes.n ∧ j.x.notes.n ≤ 100000000) ∧ j.x.notes.n - j.k < i.x.notes.n - i.k ∧ [(notesOk j.x.notes j.k, LOut.mk (AX.exit 0) [] 6 [(0, bR
  j.x.mem.bs), (1, ABlk.mk false 4 (AC.recs j.x.notes.n j.x.notes.f)), (2, bR j.x.out.bs), (3, bR j.x.disk.bs), (4, bR j.x.queue.bs), (5, ABlk.mk false 3 (AC.recs j.x.script.n j.x.script.f))]), (true, LOut.mk AX.ret [(2, nI 2)] 6 [(0, bR j.x.mem.bs), (1, ABlk.mk false 4 (AC.recs j.x.notes.n j.x.notes.f)), (2, bR j.x.out.bs), (3, bR j.x.disk.bs), (4, bR j.x.queue.bs), (5, ABlk.mk false 3 (AC.recs j.x.script.n j.x.script.f))])] = [(notesOk i.x.notes i.k, LOut.mk (AX.exit 0) [] 6 [(0, bR i.x.mem.bs), (1, ABlk.mk false 4 (AC.recs i.x.notes.n i.x.notes.f)), (2, bR i.x.out.bs), (3, bR i.x.disk.bs), (4, bR i.x.queue.bs), (5, ABlk.mk false 3 (AC.recs i.x.script.n i.x.script.f))]), (true, LOut.mk AX.ret [(2, nI 2)] 6 [(0, bR i.x.mem.bs), (1, ABlk.mk false 4 (AC.recs i.x.notes.n i.x.notes.f)), (2, bR i.x.out.bs), (3, bR i.x.disk.bs), (4, bR i.x.queue.bs), (5, ABlk.mk false 3 (AC.recs i.x.script.n
  i.x.script.f))])] ∧ (AV.msl 1 0 0 i.x.notes.n i.x.notes.c = AV.msl 1 0 0 j.x.notes.n j.x.notes.c ∧ nI (↑i.x.notes.n : Int) = nI (↑j.x.notes.n : Int) ∧ nI (IntKind.i64.wrap ((↑i.k : Int) + 1)) = nI (↑j.k : Int) ∧ True) ∧ bR i.x.mem.bs = bR j.x.mem.bs ∧ (false = false ∧ 4 = 4 ∧ i.x.notes.n = j.x.notes.n ∧ ∀ (i_1 : Nat), i_1 < i.x.notes.n → (mayL_c_p1 i i_1) = [nI (j.x.notes.at_ i_1), nI (j.x.notes.cause i_1), nU (j.x.notes.back i_1), nU (j.x.notes.addr i_1)]) ∧ bR i.x.out.bs = bR j.x.out.bs ∧ bR i.x.disk.bs = bR j.x.disk.bs ∧ bR i.x.queue.bs = bR j.x.queue.bs ∧ (false = false ∧ 3 = 3 ∧ i.x.script.n = j.x.script.n ∧ ∀ (i_1 : Nat), i_1 < i.x.script.n → (mayL_c_p2 i i_1) = [nI (j.x.script.at_ i_1), nI (j.x.script.kind i_1), nB (j.x.script.byte i_1)]) ∧ True))))) False) False) (sp (notesOk i.x.notes i.k) (True ∧ bR i.x.mem.bs = bR i.x.mem.bs ∧ (false = false ∧ 4 = 4 ∧ i.x.notes.n = i.x.notes.n
  ∧ ∀ (i_1 : Nat), i_1 < i.x.notes.n → (mayL_c_p1 i i_1) = (mayL_c_p1 i i_1)) ∧ bR i.x.out.bs = bR i.x.out.bs ∧ bR i.x.disk.bs = bR i.x.disk.bs ∧ bR i.x.queue.bs = bR i.x.queue.bs ∧ (false = false ∧ 3 = 3 ∧ i.x.script.n = i.x.script.n ∧ ∀ (i_1 : Nat), i_1 < i.x.script.n → (mayL_c_p2 i i_1) = (mayL_c_p2 i i_1)) ∧ True) False)
theorem mayL_c_e (i : MyI) : some (mayL_c_V i) = (some ((mayL Go.Proofs.Tryz.prog).body sp Go.Proofs.Tryz.prog noBaseK (drP sp Go.Proofs.Tryz.prog noBaseK) noLo 40 i)) := by kernel_rfl
set_option maxRecDepth 100000 in
theorem mayL_ok : (mayL Go.Proofs.Tryz.prog).OK Go.Proofs.Tryz.prog := by
  refine Lp.ok_of (noBaseK_ok _) (drP_ok hmix _ (noBaseK_ok _)) (noLo_ok _) (by decide) 40 (fun i hi => ?_)
  rw [← Option.some.inj (mayL_c_e i)]
  have h1 : i.k ≤ i.x.notes.n := hi.1
  have h2 : i.x.notes.n ≤ 100000000 := hi.2
  unfold mayL_c_V mayL_c_p0 mayL_c_p2 mayL_c_p1
  by_cases hk : i.k < i.x.notes.n
  · have hx0 : 0 + (i.k : Int).toNat = i.k := by simp
    have hw : IntKind.wrap .i64 ((i.k : Int) + 1) = ((i.k + 1 : Nat) : Int) := by rw [IntWalk.i64_in _ (by omega)]; omega
    have hs := notesOk_step i.x.notes i.k hk
    rw [hx0, hw]
    have bad : noteOk i.x.notes i.k = false → notesOk i.x.notes i.k = false := fun e => by rw [hs, e]; rfl
    refine spT (by simp; omega) (spT (by simp; omega) (spT (by simp [hk]) (spI (fun a1 => spF (bad ?_) ⟨⟨rfl, trivial⟩, rfl, ⟨rfl, rfl, rfl, fun _ _ => rfl⟩, rfl, rfl, rfl, ⟨rfl, rfl, rfl, fun _ _ => rfl⟩, trivial⟩) (fun a1 => spI (fun a2 => spF (bad ?_) ⟨⟨rfl, trivial⟩, rfl, ⟨rfl, rfl, rfl, fun _ _ => rfl⟩, rfl, rfl, rfl, ⟨rfl, rfl, rfl, fun _ _ => rfl⟩, trivial⟩) (fun a2 => spI (fun a3 => spF (bad ?_) ⟨⟨rfl, trivial⟩, rfl, ⟨rfl, rfl, rfl, fun _ _ => rfl⟩, rfl, rfl, rfl, ⟨rfl, rfl, rfl, fun _ _ => rfl⟩, trivial⟩) (fun a3 => spI (fun a4 => spF (bad ?_) ⟨⟨rfl, trivial⟩, rfl, ⟨rfl, rfl, rfl, fun _ _ => rfl⟩, rfl, rfl, rfl, ⟨rfl, rfl, rfl, fun _ _ => rfl⟩, trivial⟩) (fun a4 => ?_)))))))
    · simp [noteOk, a1]
    · have a2 : decide (i.x.notes.at_ i.k > 1099511627776) = true := a2
      simp [noteOk, a2]
    · have a3 : decide (i.x.notes.cause i.k < 1) = true := a3
      simp [noteOk, a3]
    · have a4 : decide (i.x.notes.cause i.k > 11) = true := a4
      simp [noteOk, a4]
    · have a2 : decide (i.x.notes.at_ i.k > 1099511627776) = false := a2
      have a3 : decide (i.x.notes.cause i.k < 1) = false := a3
      have a4 : decide (i.x.notes.cause i.k > 11) = false := a4
      have hok : noteOk i.x.notes i.k = true := by unfold noteOk; rw [a1, a2, a3, a4]; rfl
      refine ⟨⟨i.x, i.k + 1⟩, ⟨hk, h2⟩, ?_, ?_, ⟨rfl, rfl, rfl, trivial⟩, rfl, ⟨rfl, rfl, rfl, fun _ _ => rfl⟩, rfl, rfl, rfl, ⟨rfl, rfl, rfl, fun _ _ => rfl⟩, trivial⟩
      · show i.x.notes.n - (i.k + 1) < i.x.notes.n - i.k; omega
      · rw [hs, hok, Bool.true_and]
  · exact spF (by simp; omega) (spT (notesOk_end _ _ (by omega)) ⟨trivial, rfl, ⟨rfl, rfl, rfl, fun _ _ => rfl⟩, rfl, rfl, rfl, ⟨rfl, rfl, rfl, fun _ _ => rfl⟩, trivial⟩)
abbrev resumeC_c_l0 (y : RsX) : List AV :=
  [AV.agg [nI y.x.fr, AV.msl 0 0 0 y.x.mem.bs.length y.x.mem.c, nU y.x.s.r0, nU y.x.s.r1, nU y.x.s.r2, nU y.x.s.r3, nU y.x.s.r4, nU y.x.s.r5, nU y.x.s.r6, nU y.x.s.r7, nU y.x.s.pc, nU y.x.s.ps, nU y.x.s.c0, nU y.x.s.c1, nU y.x.s.c2, nU y.x.s.c3, nU y.x.s.c4, nU y.x.s.c5, nU y.x.s.c6, nU y.x.s.c7, AV.bool y.x.s.h, nI y.x.steps, AV.msl 1 0 0 y.x.notes.n y.x.notes.c, AV.msl 2 0 0 y.x.out.bs.length y.x.out.c, AV.msl 3 0 0 y.x.disk.bs.length y.x.disk.c, AV.msl 4 0 0 y.x.queue.bs.length y.x.queue.c, AV.msl 5 0 0 y.x.script.n y.x.script.c, nU y.x.b1, nU y.x.b2, nU y.x.b3, nU y.x.b4, nU y.x.b5, nU y.x.b6, nU y.x.b7, nU y.x.b8]]
abbrev resumeC_c_p1 (y : RsX) : Sv :=
  Sv.mk y.x.fr (Row.mk y.x.mem.bs y.x.mem.c) (St.mk y.x.s.r0 y.x.s.r1 y.x.s.r2 y.x.s.r3 y.x.s.r4 y.x.s.r5 y.x.s.r6 y.x.s.r7 y.x.s.pc y.x.s.ps y.x.s.c0 y.x.s.c1 y.x.s.c2 y.x.s.c3 y.x.s.c4 y.x.s.c5 y.x.s.c6 y.x.s.c7 y.x.s.h) y.x.steps (NRow.mk y.x.notes.n y.x.notes.c (fun (i : Nat) => numAt (y.x.notes.f i) 0) (fun (i : Nat) => numAt (y.x.notes.f i) 1) (fun (i : Nat) => numAt (y.x.notes.f i) 2) fun (i : Nat) => numAt (y.x.notes.f i) 3) (Row.mk y.x.out.bs y.x.out.c) (Row.mk y.x.disk.bs y.x.disk.c) (Row.mk y.x.queue.bs y.x.queue.c) (ERow.mk y.x.script.n y.x.script.c (fun (i : Nat) => numAt (y.x.script.f i) 0) (fun (i : Nat) => numAt (y.x.script.f i) 1) fun (i : Nat) => numAt (y.x.script.f i) 2) y.x.b1 y.x.b2 y.x.b3 y.x.b4 y.x.b5 y.x.b6 y.x.b7 y.x.b8
abbrev resumeC_c_p3 (y : RsX) : Prop :=
  false = false ∧ 3 = 3 ∧ y.x.script.n = y.x.script.n ∧ ∀ (i : Nat), i < y.x.script.n → [nI (y.x.script.at_ i), nI (y.x.script.kind i), nB (y.x.script.byte i)] = [nI (y.x.script.at_ i), nI (y.x.script.kind i), nB (y.x.script.byte i)]
abbrev resumeC_c_p4 (y : RsX) (i : Nat) : List AV :=
  [nI (y.x.notes.at_ i), nI (y.x.notes.cause i), nU (y.x.notes.back i), nU (y.x.notes.addr i)]
abbrev resumeC_c_p0 (y : RsX) : Sv :=
  Sv.mk y.x.fr (Row.mk y.x.mem.bs y.x.mem.c) (St.mk y.x.s.r0 y.x.s.r1 y.x.s.r2 y.x.s.r3 y.x.s.r4 y.x.s.r5 y.x.s.r6 y.x.s.r7 y.x.s.pc y.x.s.ps y.x.s.c0 y.x.s.c1 y.x.s.c2 y.x.s.c3 y.x.s.c4 y.x.s.c5 y.x.s.c6 y.x.s.c7 y.x.s.h) y.x.steps (NRow.mk y.x.notes.n y.x.notes.c (fun (i : Nat) => numAt ((fun (i : Nat) => (resumeC_c_p4 y i)) i) 0) (fun (i : Nat) => numAt ((fun (i : Nat) => (resumeC_c_p4 y i)) i) 1) (fun (i : Nat) => numAt ((fun (i : Nat) => (resumeC_c_p4 y i)) i) 2) fun (i : Nat) => numAt ((fun (i : Nat) => (resumeC_c_p4 y i)) i) 3) (Row.mk y.x.out.bs y.x.out.c) (Row.mk y.x.disk.bs y.x.disk.c) (Row.mk y.x.queue.bs y.x.queue.c) (ERow.mk y.x.script.n y.x.script.c (fun (i : Nat) => numAt ((fun (i : Nat) => [nI (y.x.script.at_ i), nI (y.x.script.kind i), nB (y.x.script.byte i)]) i) 0) (fun (i : Nat) => numAt ((fun (i : Nat) => [nI (y.x.script.at_ i), nI (y.x.script.kind i), nB
  (y.x.script.byte i)]) i) 1) fun (i : Nat) => numAt ((fun (i : Nat) => [nI (y.x.script.at_ i), nI (y.x.script.kind i), nB (y.x.script.byte i)]) i) 2) y.x.b1 y.x.b2 y.x.b3 y.x.b4 y.x.b5 y.x.b6 y.x.b7 y.x.b8
abbrev resumeC_c_p2 (y : RsX) : Prop :=
  false = false ∧ 4 = 4 ∧ y.x.notes.n = y.x.notes.n ∧ ∀ (i : Nat), i < y.x.notes.n → (resumeC_c_p4 y i) = (resumeC_c_p4 y i)
abbrev resumeC_c_p5 (y : RsX) : Prop :=
  some (bC [AV.sl 7 0 0 y.N y.N false]) = some (bC [AV.sl 7 0 0 y.N y.N false]) ∧ True
def resumeC_c_V (y : RsX) : Prop :=
  y.N.le 512 ∧ [AV.ptr 6 0 0] = [AV.ptr 6 0 0] ∧ (resumeC_c_p5 y) ∧ (∀ (y_1 : Unit), True → sp ((↑(64 * y.N) : Int) == 0) ((∃ (y_2 : Unit), devLN y.x = 3 ∧ [AV.tup [AV.nilp, nI 1]] = [AV.tup [AV.nilp, nI 3]] ∧ bR y.x.mem.bs = bR y.x.mem.bs ∧ (resumeC_c_p2 y) ∧ bR y.x.out.bs = bR y.x.out.bs ∧ bR y.x.disk.bs = bR y.x.disk.bs ∧ bR y.x.queue.bs = bR y.x.queue.bs ∧ (resumeC_c_p3 y) ∧ True) ∨ (∃ (y_2 : Unit), devLN y.x = 2 ∧ [AV.tup [AV.nilp, nI 1]] = [AV.tup [AV.nilp, nI 2]] ∧ bR y.x.mem.bs = bR y.x.mem.bs ∧ (resumeC_c_p2 y) ∧ bR y.x.out.bs = bR y.x.out.bs ∧ bR y.x.disk.bs = bR y.x.disk.bs ∧ bR y.x.queue.bs = bR y.x.queue.bs ∧ (resumeC_c_p3 y) ∧ True) ∨ ∃ (y_2 : Unit), devLN y.x = 0 ∧ [AV.tup [AV.nilp, nI 1]] = [AV.tup [AV.ptr 10 0 0, nI 0]] ∧ bR y.x.mem.bs = bR y.x.mem.bs ∧ (resumeC_c_p2 y) ∧ bR y.x.out.bs = bR y.x.out.bs ∧ bR y.x.disk.bs = bR y.x.disk.bs ∧ bR y.x.queue.bs = bR y.x.queue.bs ∧
  (resumeC_c_p3 y) ∧ True) (sp (decide (y.x.fr = y.x.fr) && (y.x.mem.bs.length.beq y.x.mem.bs.length && y.x.mem.c.beq y.x.mem.c && (decide (y.x.s.r0 = y.x.s.r0) && (decide (y.x.s.r1 = y.x.s.r1) && (decide (y.x.s.r2 = y.x.s.r2) && (decide (y.x.s.r3 = y.x.s.r3) && (decide (y.x.s.r4 = y.x.s.r4) && (decide (y.x.s.r5 = y.x.s.r5) && (decide (y.x.s.r6 = y.x.s.r6) && (decide (y.x.s.r7 = y.x.s.r7) && (decide (y.x.s.pc = y.x.s.pc) && (decide (y.x.s.ps = y.x.s.ps) && (decide (y.x.s.c0 = y.x.s.c0) && (decide (y.x.s.c1 = y.x.s.c1) && (decide (y.x.s.c2 = y.x.s.c2) && (decide (y.x.s.c3 = y.x.s.c3) && (decide (y.x.s.c4 = y.x.s.c4) && (decide (y.x.s.c5 = y.x.s.c5) && (decide (y.x.s.c6 = y.x.s.c6) && (decide (y.x.s.c7 = y.x.s.c7) && (y.x.s.h == y.x.s.h && (decide (y.x.steps = y.x.steps) && (y.x.notes.n.beq y.x.notes.n && y.x.notes.c.beq y.x.notes.c && (y.x.out.bs.length.beq y.x.out.bs.length && y.x.out.c.beq
  y.x.out.c && (y.x.disk.bs.length.beq y.x.disk.bs.length && y.x.disk.c.beq y.x.disk.c && (y.x.queue.bs.length.beq y.x.queue.bs.length && y.x.queue.c.beq y.x.queue.c && (y.x.script.n.beq y.x.script.n && y.x.script.c.beq y.x.script.c && (decide (y.x.b1 = y.x.b1) && (decide (y.x.b2 = y.x.b2) && (decide (y.x.b3 = y.x.b3) && (decide (y.x.b4 = y.x.b4) && (decide (y.x.b5 = y.x.b5) && (decide (y.x.b6 = y.x.b6) && (decide (y.x.b7 = y.x.b7) && (decide (y.x.b8 = y.x.b8) && true))))))))))))))))))))))))))))))))))) (True ∧ [] ++ (resumeC_c_l0 y) ++ [] = (resumeC_c_l0 y) ∧ (some (bR y.x.mem.bs) = some (bR y.x.mem.bs) ∧ some (ABlk.mk false 4 (AC.recs y.x.notes.n y.x.notes.f)) = some (ABlk.mk false 4 (AC.recs y.x.notes.n fun (i : Nat) => (resumeC_c_p4 y i))) ∧ some (bR y.x.out.bs) = some (bR y.x.out.bs) ∧ some (bR y.x.disk.bs) = some (bR y.x.disk.bs) ∧ some (bR y.x.queue.bs) = some (bR y.x.queue.bs) ∧ some
  (ABlk.mk false 3 (AC.recs y.x.script.n y.x.script.f)) = some (ABlk.mk false 3 (AC.recs y.x.script.n fun (i : Nat) => [nI (y.x.script.at_ i), nI (y.x.script.kind i), nB (y.x.script.byte i)])) ∧ True) ∧ (∀ (y_2 : Unit), True → sp (!fitsN (resumeC_c_p1 y)) (sp ((!fitsN (resumeC_c_p1 y)) == true) (sp ((!fitsN (resumeC_c_p1 y)) == !fitsN (resumeC_c_p1 y)) ((∃ (y_3 : Unit), devLN y.x = 3 ∧ [AV.tup [AV.nilp, nI 2]] = [AV.tup [AV.nilp, nI 3]] ∧ bR y.x.mem.bs = bR y.x.mem.bs ∧ (resumeC_c_p2 y) ∧ bR y.x.out.bs = bR y.x.out.bs ∧ bR y.x.disk.bs = bR y.x.disk.bs ∧ bR y.x.queue.bs = bR y.x.queue.bs ∧ (resumeC_c_p3 y) ∧ True) ∨ (∃ (y_3 : Unit), devLN y.x = 2 ∧ [AV.tup [AV.nilp, nI 2]] = [AV.tup [AV.nilp, nI 2]] ∧ bR y.x.mem.bs = bR y.x.mem.bs ∧ (resumeC_c_p2 y) ∧ bR y.x.out.bs = bR y.x.out.bs ∧ bR y.x.disk.bs = bR y.x.disk.bs ∧ bR y.x.queue.bs = bR y.x.queue.bs ∧ (resumeC_c_p3 y) ∧ True) ∨ ∃ (y_3 :
  Unit), devLN y.x = 0 ∧ [AV.tup [AV.nilp, nI 2]] = [AV.tup [AV.ptr 10 0 0, nI 0]] ∧ bR y.x.mem.bs = bR y.x.mem.bs ∧ (resumeC_c_p2 y) ∧ bR y.x.out.bs = bR y.x.out.bs ∧ bR y.x.disk.bs = bR y.x.disk.bs ∧ bR y.x.queue.bs = bR y.x.queue.bs ∧ (resumeC_c_p3 y) ∧ True) False) False) (sp (decide ((↑y.x.mem.bs.length : Int) = (↑y.x.mem.bs.length : Int))) (sp (y.x.mem.bs.length.beq y.x.mem.bs.length && y.x.mem.c.beq y.x.mem.c) (sp ((!fitsN (resumeC_c_p1 y)) == false) (sp ((!fitsN (resumeC_c_p1 y)) == !fitsN (resumeC_c_p1 y)) (y.N.le 512 ∧ [AV.ptr 6 0 0] = [AV.ptr 6 0 0] ∧ (resumeC_c_p5 y) ∧ (∀ (y_3 : Unit), True → sp ((bif false then true else IntKind.i64.wrap (↑(64 * y.N) : Int) != (↑y.x.mem.bs.length : Int)) == bif false then true else IntKind.i64.wrap (↑(64 * y.N) : Int) != (↑y.x.mem.bs.length : Int)) (sp ((IntKind.i64.wrap (↑(64 * y.N) : Int) != (↑y.x.mem.bs.length : Int)) == (IntKind.i64.wrap
  (↑(64 * y.N) : Int) != (↑y.x.mem.bs.length : Int))) (sp (decide (IntKind.i64.wrap (↑(64 * y.N) : Int) = IntKind.i64.wrap (↑(64 * y.N) : Int))) (sp (decide ((↑y.x.mem.bs.length : Int) = (↑y.x.mem.bs.length : Int))) (sp (y.x.mem.bs.length.beq y.x.mem.bs.length && y.x.mem.c.beq y.x.mem.c) (sp (bif false then true else IntKind.i64.wrap (↑(64 * y.N) : Int) != (↑y.x.mem.bs.length : Int)) ((∃ (y_4 : Unit), devLN y.x = 3 ∧ [AV.tup [AV.nilp, nI 2]] = [AV.tup [AV.nilp, nI 3]] ∧ bR y.x.mem.bs = bR y.x.mem.bs ∧ (resumeC_c_p2 y) ∧ bR y.x.out.bs = bR y.x.out.bs ∧ bR y.x.disk.bs = bR y.x.disk.bs ∧ bR y.x.queue.bs = bR y.x.queue.bs ∧ (resumeC_c_p3 y) ∧ True) ∨ (∃ (y_4 : Unit), devLN y.x = 2 ∧ [AV.tup [AV.nilp, nI 2]] = [AV.tup [AV.nilp, nI 2]] ∧ bR y.x.mem.bs = bR y.x.mem.bs ∧ (resumeC_c_p2 y) ∧ bR y.x.out.bs = bR y.x.out.bs ∧ bR y.x.disk.bs = bR y.x.disk.bs ∧ bR y.x.queue.bs = bR y.x.queue.bs ∧
  (resumeC_c_p3 y) ∧ True) ∨ ∃ (y_4 : Unit), devLN y.x = 0 ∧ [AV.tup [AV.nilp, nI 2]] = [AV.tup [AV.ptr 10 0 0, nI 0]] ∧ bR y.x.mem.bs = bR y.x.mem.bs ∧ (resumeC_c_p2 y) ∧ bR y.x.out.bs = bR y.x.out.bs ∧ bR y.x.disk.bs = bR y.x.disk.bs ∧ bR y.x.queue.bs = bR y.x.queue.bs ∧ (resumeC_c_p3 y) ∧ True) (((y.x.mem.bs.length ≤ 140737488351232 ∧ y.x.mem.bs.length ≤ y.x.mem.c) ∧ (y.x.notes.n ≤ 5864062014634 ∧ y.x.notes.n ≤ y.x.notes.c) ∧ (y.x.out.bs.length ≤ 140737488351232 ∧ y.x.out.bs.length ≤ y.x.out.c) ∧ (y.x.disk.bs.length ≤ 140737488351232 ∧ y.x.disk.bs.length ≤ y.x.disk.c) ∧ (y.x.queue.bs.length ≤ 140737488351232 ∧ y.x.queue.bs.length ≤ y.x.queue.c) ∧ y.x.script.n ≤ 140737488351232 ∧ y.x.script.n ≤ y.x.script.c) ∧ [] ++ (resumeC_c_l0 y) ++ [] = (resumeC_c_l0 y) ∧ (some (bR y.x.mem.bs) = some (bR y.x.mem.bs) ∧ some (ABlk.mk false 4 (AC.recs y.x.notes.n fun (i : Nat) => (resumeC_c_p4 y i))) =
  some (ABlk.mk false 4 (AC.recs y.x.notes.n fun (i : Nat) => (resumeC_c_p4 y i))) ∧ some (bR y.x.out.bs) = some (bR y.x.out.bs) ∧ some (bR y.x.disk.bs) = some (bR y.x.disk.bs) ∧ some (bR y.x.queue.bs) = some (bR y.x.queue.bs) ∧ some (ABlk.mk false 3 (AC.recs y.x.script.n fun (i : Nat) => [nI (y.x.script.at_ i), nI (y.x.script.kind i), nB (y.x.script.byte i)])) = some (ABlk.mk false 3 (AC.recs y.x.script.n fun (i : Nat) => [nI (y.x.script.at_ i), nI (y.x.script.kind i), nB (y.x.script.byte i)])) ∧ True) ∧ (∀ (y_4 : Unit), devLN (resumeC_c_p0 y) = 3 → (∃ (y_5 : Unit), devLN y.x = 3 ∧ [AV.tup [AV.nilp, nI 3]] = [AV.tup [AV.nilp, nI 3]] ∧ bR y.x.mem.bs = bR y.x.mem.bs ∧ (resumeC_c_p2 y) ∧ bR y.x.out.bs = bR y.x.out.bs ∧ bR y.x.disk.bs = bR y.x.disk.bs ∧ bR y.x.queue.bs = bR y.x.queue.bs ∧ (resumeC_c_p3 y) ∧ True) ∨ (∃ (y_5 : Unit), devLN y.x = 2 ∧ [AV.tup [AV.nilp, nI 3]] = [AV.tup [AV.nilp,
  nI 2]] ∧ bR y.x.mem.bs = bR y.x.mem.bs ∧ (resumeC_c_p2 y) ∧ bR y.x.out.bs = bR y.x.out.bs ∧ bR y.x.disk.bs = bR y.x.disk.bs ∧ bR y.x.queue.bs = bR y.x.queue.bs ∧ (resumeC_c_p3 y) ∧ True) ∨ ∃ (y_5 : Unit), devLN y.x = 0 ∧ [AV.tup [AV.nilp, nI 3]] = [AV.tup [AV.ptr 12 0 0, nI 0]] ∧ bR y.x.mem.bs = bR y.x.mem.bs ∧ (resumeC_c_p2 y) ∧ bR y.x.out.bs = bR y.x.out.bs ∧ bR y.x.disk.bs = bR y.x.disk.bs ∧ bR y.x.queue.bs = bR y.x.queue.bs ∧ (resumeC_c_p3 y) ∧ True) ∧ (∀ (y_4 : Unit), devLN (resumeC_c_p0 y) = 2 → (∃ (y_5 : Unit), devLN y.x = 3 ∧ [AV.tup [AV.nilp, nI 2]] = [AV.tup [AV.nilp, nI 3]] ∧ bR y.x.mem.bs = bR y.x.mem.bs ∧ (resumeC_c_p2 y) ∧ bR y.x.out.bs = bR y.x.out.bs ∧ bR y.x.disk.bs = bR y.x.disk.bs ∧ bR y.x.queue.bs = bR y.x.queue.bs ∧ (resumeC_c_p3 y) ∧ True) ∨ (∃ (y_5 : Unit), devLN y.x = 2 ∧ [AV.tup [AV.nilp, nI 2]] = [AV.tup [AV.nilp, nI 2]] ∧ bR y.x.mem.bs = bR y.x.mem.bs ∧
  (resumeC_c_p2 y) ∧ bR y.x.out.bs = bR y.x.out.bs ∧ bR y.x.disk.bs = bR y.x.disk.bs ∧ bR y.x.queue.bs = bR y.x.queue.bs ∧ (resumeC_c_p3 y) ∧ True) ∨ ∃ (y_5 : Unit), devLN y.x = 0 ∧ [AV.tup [AV.nilp, nI 2]] = [AV.tup [AV.ptr 12 0 0, nI 0]] ∧ bR y.x.mem.bs = bR y.x.mem.bs ∧ (resumeC_c_p2 y) ∧ bR y.x.out.bs = bR y.x.out.bs ∧ bR y.x.disk.bs = bR y.x.disk.bs ∧ bR y.x.queue.bs = bR y.x.queue.bs ∧ (resumeC_c_p3 y) ∧ True) ∧ (∀ (y_4 : Unit), devLN (resumeC_c_p0 y) = 0 → (y.N ≤ 512 ∧ (List.replicate (64 * y.N) (0 : Int)).length = 64 * y.N ∧ y.x.mem.bs.length = 64 * y.N ∧ y.x.mem.bs.length ≤ y.x.mem.c) ∧ [] ++ [AV.ptr 6 0 0, nU 0, AV.msl 0 0 0 y.x.mem.bs.length y.x.mem.c] ++ [] = [AV.ptr 6 0 0, nU 0, AV.msl 0 0 0 y.x.mem.bs.length y.x.mem.c] ∧ (some (bC [AV.sl 7 0 0 y.N y.N false]) = some (bC [AV.sl 7 0 0 y.N y.N false]) ∧ some (ABlk.mk true 1 (AC.recs y.N fun (i : Nat) => [AV.sl 8 (64 * i) 0 64 64
  true])) = some (ABlk.mk true 1 (AC.recs y.N fun (i : Nat) => [AV.sl 8 (64 * i) 0 64 64 true])) ∧ some (bW ((List.replicate (64 * y.N) (0 : Int)))) = some (bW ((List.replicate (64 * y.N) (0 : Int)))) ∧ some (bR y.x.mem.bs) = some (bR y.x.mem.bs) ∧ True) ∧ (∀ (y_5 : Unit), True → sp (y.x.notes.n.beq y.x.notes.n && y.x.notes.c.beq y.x.notes.c) (sp (decide (y.x.steps = y.x.steps)) (sp (decide (y.x.s.r0 = y.x.s.r0) && (decide (y.x.s.r1 = y.x.s.r1) && (decide (y.x.s.r2 = y.x.s.r2) && (decide (y.x.s.r3 = y.x.s.r3) && (decide (y.x.s.r4 = y.x.s.r4) && (decide (y.x.s.r5 = y.x.s.r5) && (decide (y.x.s.r6 = y.x.s.r6) && (decide (y.x.s.r7 = y.x.s.r7) && (decide (y.x.s.pc = y.x.s.pc) && (decide (y.x.s.ps = y.x.s.ps) && (decide (y.x.s.c0 = y.x.s.c0) && (decide (y.x.s.c1 = y.x.s.c1) && (decide (y.x.s.c2 = y.x.s.c2) && (decide (y.x.s.c3 = y.x.s.c3) && (decide (y.x.s.c4 = y.x.s.c4) && (decide (y.x.s.c5 =
  y.x.s.c5) && (decide (y.x.s.c6 = y.x.s.c6) && (decide (y.x.s.c7 = y.x.s.c7) && (y.x.s.h == y.x.s.h && true))))))))))))))))))) (sp (y.x.notes.n.beq y.x.notes.n && y.x.notes.c.beq y.x.notes.c) (sp (decide (y.x.steps = y.x.steps)) (sp (decide (y.x.s.r0 = y.x.s.r0) && (decide (y.x.s.r1 = y.x.s.r1) && (decide (y.x.s.r2 = y.x.s.r2) && (decide (y.x.s.r3 = y.x.s.r3) && (decide (y.x.s.r4 = y.x.s.r4) && (decide (y.x.s.r5 = y.x.s.r5) && (decide (y.x.s.r6 = y.x.s.r6) && (decide (y.x.s.r7 = y.x.s.r7) && (decide (y.x.s.pc = y.x.s.pc) && (decide (y.x.s.ps = y.x.s.ps) && (decide (y.x.s.c0 = y.x.s.c0) && (decide (y.x.s.c1 = y.x.s.c1) && (decide (y.x.s.c2 = y.x.s.c2) && (decide (y.x.s.c3 = y.x.s.c3) && (decide (y.x.s.c4 = y.x.s.c4) && (decide (y.x.s.c5 = y.x.s.c5) && (decide (y.x.s.c6 = y.x.s.c6) && (decide (y.x.s.c7 = y.x.s.c7) && (y.x.s.h == y.x.s.h && true))))))))))))))))))) (sp (decide (0 + y.x.notes.n
  ≤ y.x.notes.n) && (decide ((0 + y.x.notes.n) * 24 ≤ 140737488355328) && decide (0 + y.x.notes.n ≤ 9223372036854775807))) (sp (decide (y.x.steps = y.x.steps)) (sp (decide (y.x.s.r0 = y.x.s.r0) && (decide (y.x.s.r1 = y.x.s.r1) && (decide (y.x.s.r2 = y.x.s.r2) && (decide (y.x.s.r3 = y.x.s.r3) && (decide (y.x.s.r4 = y.x.s.r4) && (decide (y.x.s.r5 = y.x.s.r5) && (decide (y.x.s.r6 = y.x.s.r6) && (decide (y.x.s.r7 = y.x.s.r7) && (decide (y.x.s.pc = y.x.s.pc) && (decide (y.x.s.ps = y.x.s.ps) && (decide (y.x.s.c0 = y.x.s.c0) && (decide (y.x.s.c1 = y.x.s.c1) && (decide (y.x.s.c2 = y.x.s.c2) && (decide (y.x.s.c3 = y.x.s.c3) && (decide (y.x.s.c4 = y.x.s.c4) && (decide (y.x.s.c5 = y.x.s.c5) && (decide (y.x.s.c6 = y.x.s.c6) && (decide (y.x.s.c7 = y.x.s.c7) && (y.x.s.h == y.x.s.h && true))))))))))))))))))) ((∃ (y_6 : Unit), devLN y.x = 3 ∧ [AV.tup [AV.ptr 14 0 0, nI 0]] = [AV.tup [AV.nilp, nI 3]] ∧ bR
  y.x.mem.bs = bR y.x.mem.bs ∧ (resumeC_c_p2 y) ∧ bR y.x.out.bs = bR y.x.out.bs ∧ bR y.x.disk.bs = bR y.x.disk.bs ∧ bR y.x.queue.bs = bR y.x.queue.bs ∧ (resumeC_c_p3 y) ∧ True) ∨ (∃ (y_6 : Unit), devLN y.x = 2 ∧ [AV.tup [AV.ptr 14 0 0, nI 0]] = [AV.tup [AV.nilp, nI 2]] ∧ bR y.x.mem.bs = bR y.x.mem.bs ∧ (resumeC_c_p2 y) ∧ bR y.x.out.bs = bR y.x.out.bs ∧ bR y.x.disk.bs = bR y.x.disk.bs ∧ bR y.x.queue.bs = bR y.x.queue.bs ∧ (resumeC_c_p3 y) ∧ True) ∨ ∃ (y_6 : Unit), devLN y.x = 0 ∧ [AV.tup [AV.ptr 14 0 0, nI 0]] = [AV.tup [AV.ptr 14 0 0, nI 0]] ∧ bR y.x.mem.bs = bR y.x.mem.bs ∧ (resumeC_c_p2 y) ∧ bR y.x.out.bs = bR y.x.out.bs ∧ bR y.x.disk.bs = bR y.x.disk.bs ∧ bR y.x.queue.bs = bR y.x.queue.bs ∧ (resumeC_c_p3 y) ∧ True) False) False) False) False) False) False) False) False) False) ∧ True) ∧ True)) False) False) False) False) False) ∧ True) False) False) False) False)) ∧ True) False)) ∧ True
theorem resumeC_c_e (y : RsX) : some (resumeC_c_V y) = (resumeC.cond sp Go.Proofs.Tryz.prog (drP sp Go.Proofs.Tryz.prog) noLoops (orK (fitsC.orc sp) (orK (sizeC.orc sp) (orK (devLoadC.orc sp) (fillC.orc sp)))) 40 2 y) := by kernel_rfl
set_option maxRecDepth 100000 in
set_option maxHeartbeats 8000000 in
theorem resumeC_ok : resumeC.OK Go.Proofs.Tryz.prog := by
  refine Con.by hmix (noLoops_ok _) (orK_ok (Con.orc_ok fitsC_ok) (orK_ok (Con.orc_ok sizeC_ok) (orK_ok (Con.orc_ok devLoadC_ok) (Con.orc_ok fillC_ok)))) resumeC_c_V resumeC_c_e (fun y hy => ?_)
  obtain ⟨hx, hf, hfr, h1, h2⟩ := hy
  have nf : (!fitsN y.x) = false := by rw [hf]; rfl
  have hN : y.N ≤ 512 := by omega
  have hlen : (y.x.mem.bs.length : Int) = ((64 * y.N : Nat) : Int) := by
    have := hf
    simp [fitsN] at this
    have e := this.1.1.1.2
    rw [hfr, IntWalk.i64_in _ (by omega)] at e
    omega
  have hln : y.x.mem.bs.length = 64 * y.N := by omega
  have hw : IntKind.wrap .i64 ((64 * y.N : Nat) : Int) = ((64 * y.N : Nat) : Int) := IntWalk.i64_in _ (by omega)
  have hne : (IntKind.wrap .i64 ((64 * y.N : Nat) : Int) != (y.x.mem.bs.length : Int)) = false := by rw [hw, hlen]; simp
  unfold resumeC_c_V resumeC_c_p5 resumeC_c_p2 resumeC_c_p0 resumeC_c_p4 resumeC_c_p3 resumeC_c_p1
  refine ⟨hN, rfl, ⟨rfl, trivial⟩, fun _ _ => spF (by simp; omega) (spT (by simp) ⟨trivial, rfl, ⟨rfl, rfl, rfl, rfl, rfl, rfl, trivial⟩, fun _ _ => spF nf (spT (by simp) (spT (by simp) (spT (by show ((!fitsN y.x) == false) = true; rw [nf]; rfl) (spT (by simp) ⟨hN, rfl, ⟨rfl, trivial⟩, fun _ _ => spT (by simp) (spT (by simp) (spT (by simp) (spT (by simp) (spT (by simp) (spF hne ⟨hx, rfl, ⟨rfl, rfl, rfl, rfl, rfl, rfl, trivial⟩, fun _ h3 => ?_, fun _ h2 => ?_, fun _ h0 => ?_, trivial⟩))))), trivial⟩)))), trivial⟩), trivial⟩
  · have h3 : devLN y.x = 3 := h3
    exact .inl ⟨(), h3, rfl, rfl, ⟨rfl, rfl, rfl, fun _ _ => rfl⟩, rfl, rfl, rfl, ⟨rfl, rfl, rfl, fun _ _ => rfl⟩, trivial⟩
  · have h2 : devLN y.x = 2 := h2
    exact .inr (.inl ⟨(), h2, rfl, rfl, ⟨rfl, rfl, rfl, fun _ _ => rfl⟩, rfl, rfl, rfl, ⟨rfl, rfl, rfl, fun _ _ => rfl⟩, trivial⟩)
  · have h0 : devLN y.x = 0 := h0
    refine ⟨⟨hN, by simp, hln, hx.1.2⟩, rfl, ⟨rfl, rfl, rfl, rfl, trivial⟩, fun _ _ => ?_, trivial⟩
    have hno := hx.2.1.1
    repeat refine spT (by first | (simp; done) | (simp; omega)) ?_
    exact .inr (.inr ⟨(), h0, rfl, rfl, ⟨rfl, rfl, rfl, fun _ _ => rfl⟩, rfl, rfl, rfl, ⟨rfl, rfl, rfl, fun _ _ => rfl⟩, trivial⟩)
abbrev loadC_c_p3 (x : Sv) : List AV :=
  [AV.ptr 7 0 0, AV.agg [nI x.fr, AV.msl 0 0 0 x.mem.bs.length x.mem.c, nU x.s.r0, nU x.s.r1, nU x.s.r2, nU x.s.r3, nU x.s.r4, nU x.s.r5, nU x.s.r6, nU x.s.r7, nU x.s.pc, nU x.s.ps, nU x.s.c0, nU x.s.c1, nU x.s.c2, nU x.s.c3, nU x.s.c4, nU x.s.c5, nU x.s.c6, nU x.s.c7, AV.bool x.s.h, nI x.steps, AV.msl 1 0 0 x.notes.n x.notes.c, AV.msl 2 0 0 x.out.bs.length x.out.c, AV.msl 3 0 0 x.disk.bs.length x.disk.c, AV.msl 4 0 0 x.queue.bs.length x.queue.c, AV.msl 5 0 0 x.script.n x.script.c, nU x.b1, nU x.b2, nU x.b3, nU x.b4, nU x.b5, nU x.b6, nU x.b7, nU x.b8]]
abbrev loadC_c_p4 (x : Sv) : List AV :=
  [AV.agg [nI x.fr, AV.msl 0 0 0 x.mem.bs.length x.mem.c, nU x.s.r0, nU x.s.r1, nU x.s.r2, nU x.s.r3, nU x.s.r4, nU x.s.r5, nU x.s.r6, nU x.s.r7, nU x.s.pc, nU x.s.ps, nU x.s.c0, nU x.s.c1, nU x.s.c2, nU x.s.c3, nU x.s.c4, nU x.s.c5, nU x.s.c6, nU x.s.c7, AV.bool x.s.h, nI x.steps, AV.msl 1 0 0 x.notes.n x.notes.c, AV.msl 2 0 0 x.out.bs.length x.out.c, AV.msl 3 0 0 x.disk.bs.length x.disk.c, AV.msl 4 0 0 x.queue.bs.length x.queue.c, AV.msl 5 0 0 x.script.n x.script.c, nU x.b1, nU x.b2, nU x.b3, nU x.b4, nU x.b5, nU x.b6, nU x.b7, nU x.b8]]
abbrev loadC_c_p6 (x : Sv) : Prop :=
  false = false ∧ 3 = 3 ∧ x.script.n = x.script.n ∧ ∀ (i : Nat), i < x.script.n → [nI (x.script.at_ i), nI (x.script.kind i), nB (x.script.byte i)] = [nI (x.script.at_ i), nI (x.script.kind i), nB (x.script.byte i)]
abbrev loadC_c_p7 (x : Sv) (i : Nat) : List AV :=
  [nI (x.notes.at_ i), nI (x.notes.cause i), nU (x.notes.back i), nU (x.notes.addr i)]
abbrev loadC_c_p0 (x : Sv) : Sv :=
  Sv.mk x.fr (Row.mk x.mem.bs x.mem.c) (St.mk x.s.r0 x.s.r1 x.s.r2 x.s.r3 x.s.r4 x.s.r5 x.s.r6 x.s.r7 x.s.pc x.s.ps x.s.c0 x.s.c1 x.s.c2 x.s.c3 x.s.c4 x.s.c5 x.s.c6 x.s.c7 x.s.h) x.steps (NRow.mk x.notes.n x.notes.c (fun (i : Nat) => numAt ((fun (i : Nat) => (loadC_c_p7 x i)) i) 0) (fun (i : Nat) => numAt ((fun (i : Nat) => (loadC_c_p7 x i)) i) 1) (fun (i : Nat) => numAt ((fun (i : Nat) => (loadC_c_p7 x i)) i) 2) fun (i : Nat) => numAt ((fun (i : Nat) => (loadC_c_p7 x i)) i) 3) (Row.mk x.out.bs x.out.c) (Row.mk x.disk.bs x.disk.c) (Row.mk x.queue.bs x.queue.c) (ERow.mk x.script.n x.script.c (fun (i : Nat) => numAt ((fun (i : Nat) => [nI (x.script.at_ i), nI (x.script.kind i), nB (x.script.byte i)]) i) 0) (fun (i : Nat) => numAt ((fun (i : Nat) => [nI (x.script.at_ i), nI (x.script.kind i), nB (x.script.byte i)]) i) 1) fun (i : Nat) => numAt ((fun (i : Nat) => [nI (x.script.at_ i), nI
  (x.script.kind i), nB (x.script.byte i)]) i) 2) x.b1 x.b2 x.b3 x.b4 x.b5 x.b6 x.b7 x.b8
abbrev loadC_c_p5 (x : Sv) : Prop :=
  false = false ∧ 4 = 4 ∧ x.notes.n = x.notes.n ∧ ∀ (i : Nat), i < x.notes.n → (loadC_c_p7 x i) = (loadC_c_p7 x i)
abbrev loadC_c_p1 (x : Sv) : Prop :=
  ∃ (y : Unit), loadN x = 2 ∧ [AV.tup [AV.nilp, nI 2]] = [AV.tup [AV.nilp, nI 2]] ∧ bR x.mem.bs = bR x.mem.bs ∧ (loadC_c_p5 x) ∧ bR x.out.bs = bR x.out.bs ∧ bR x.disk.bs = bR x.disk.bs ∧ bR x.queue.bs = bR x.queue.bs ∧ (loadC_c_p6 x) ∧ True
abbrev loadC_c_p2 (x : Sv) : Prop :=
  ∃ (y : Unit), loadN x = 3 ∧ [AV.tup [AV.nilp, nI 2]] = [AV.tup [AV.nilp, nI 3]] ∧ bR x.mem.bs = bR x.mem.bs ∧ (loadC_c_p5 x) ∧ bR x.out.bs = bR x.out.bs ∧ bR x.disk.bs = bR x.disk.bs ∧ bR x.queue.bs = bR x.queue.bs ∧ (loadC_c_p6 x) ∧ True
def loadC_c_V (x : Sv) : Prop :=
  True ∧ [] ++ (loadC_c_p4 x) ++ [] = (loadC_c_p4 x) ∧ (some (bR x.mem.bs) = some (bR x.mem.bs) ∧ some (ABlk.mk false 4 (AC.recs x.notes.n x.notes.f)) = some (ABlk.mk false 4 (AC.recs x.notes.n fun (i : Nat) => (loadC_c_p7 x i))) ∧ some (bR x.out.bs) = some (bR x.out.bs) ∧ some (bR x.disk.bs) = some (bR x.disk.bs) ∧ some (bR x.queue.bs) = some (bR x.queue.bs) ∧ some (ABlk.mk false 3 (AC.recs x.script.n x.script.f)) = some (ABlk.mk false 3 (AC.recs x.script.n fun (i : Nat) => [nI (x.script.at_ i), nI (x.script.kind i), nB (x.script.byte i)])) ∧ True) ∧ (∀ (y : Unit), True → sp (!fitsN (Sv.mk x.fr (Row.mk x.mem.bs x.mem.c) (St.mk x.s.r0 x.s.r1 x.s.r2 x.s.r3 x.s.r4 x.s.r5 x.s.r6 x.s.r7 x.s.pc x.s.ps x.s.c0 x.s.c1 x.s.c2 x.s.c3 x.s.c4 x.s.c5 x.s.c6 x.s.c7 x.s.h) x.steps (NRow.mk x.notes.n x.notes.c (fun (i : Nat) => numAt (x.notes.f i) 0) (fun (i : Nat) => numAt (x.notes.f i) 1) (fun (i : Nat)
  => numAt (x.notes.f i) 2) fun (i : Nat) => numAt (x.notes.f i) 3) (Row.mk x.out.bs x.out.c) (Row.mk x.disk.bs x.disk.c) (Row.mk x.queue.bs x.queue.c) (ERow.mk x.script.n x.script.c (fun (i : Nat) => numAt (x.script.f i) 0) (fun (i : Nat) => numAt (x.script.f i) 1) fun (i : Nat) => numAt (x.script.f i) 2) x.b1 x.b2 x.b3 x.b4 x.b5 x.b6 x.b7 x.b8)) ((loadC_c_p2 x) ∨ (loadC_c_p1 x) ∨ ∃ (y : Unit), loadN x = 0 ∧ [AV.tup [AV.nilp, nI 2]] = [AV.tup [AV.ptr 7 0 0, nI 0]] ∧ bR x.mem.bs = bR x.mem.bs ∧ (loadC_c_p5 x) ∧ bR x.out.bs = bR x.out.bs ∧ bR x.disk.bs = bR x.disk.bs ∧ bR x.queue.bs = bR x.queue.bs ∧ (loadC_c_p6 x) ∧ True) ((1 ≤ x.fr.toNat ∧ x.fr.toNat ≤ 512) ∧ [] ++ [nI x.fr] ++ [] = [nI (↑x.fr.toNat : Int)] ∧ True ∧ (∀ (y : Unit), True → (((x.mem.bs.length ≤ 140737488351232 ∧ x.mem.bs.length ≤ x.mem.c) ∧ (x.notes.n ≤ 5864062014634 ∧ x.notes.n ≤ x.notes.c) ∧ (x.out.bs.length ≤
  140737488351232 ∧ x.out.bs.length ≤ x.out.c) ∧ (x.disk.bs.length ≤ 140737488351232 ∧ x.disk.bs.length ≤ x.disk.c) ∧ (x.queue.bs.length ≤ 140737488351232 ∧ x.queue.bs.length ≤ x.queue.c) ∧ x.script.n ≤ 140737488351232 ∧ x.script.n ≤ x.script.c) ∧ fitsN (loadC_c_p0 x) = true ∧ x.fr = (↑x.fr.toNat : Int) ∧ 1 ≤ x.fr.toNat ∧ x.fr.toNat ≤ 64) ∧ [] ++ (loadC_c_p3 x) ++ [] = (loadC_c_p3 x) ∧ (some (bR x.mem.bs) = some (bR x.mem.bs) ∧ some (ABlk.mk false 4 (AC.recs x.notes.n fun (i : Nat) => (loadC_c_p7 x i))) = some (ABlk.mk false 4 (AC.recs x.notes.n fun (i : Nat) => (loadC_c_p7 x i))) ∧ some (bR x.out.bs) = some (bR x.out.bs) ∧ some (bR x.disk.bs) = some (bR x.disk.bs) ∧ some (bR x.queue.bs) = some (bR x.queue.bs) ∧ some (ABlk.mk false 3 (AC.recs x.script.n fun (i : Nat) => [nI (x.script.at_ i), nI (x.script.kind i), nB (x.script.byte i)])) = some (ABlk.mk false 3 (AC.recs x.script.n fun (i :
  Nat) => [nI (x.script.at_ i), nI (x.script.kind i), nB (x.script.byte i)])) ∧ some (bC [AV.sl 8 0 0 x.fr.toNat x.fr.toNat false]) = some (bC [AV.sl 8 0 0 x.fr.toNat x.fr.toNat false]) ∧ some (ABlk.mk true 1 (AC.recs x.fr.toNat fun (i : Nat) => [AV.sl 9 (64 * i) 0 64 64 true])) = some (ABlk.mk true 1 (AC.recs x.fr.toNat fun (i : Nat) => [AV.sl 9 (64 * i) 0 64 64 true])) ∧ some (bW ((List.replicate (64 * x.fr.toNat) (0 : Int)))) = some (bW ((List.replicate (64 * x.fr.toNat) (0 : Int)))) ∧ True) ∧ (∀ (y : Unit), devLN (loadC_c_p0 x) = 3 → (∃ (y : Unit), loadN x = 3 ∧ [AV.tup [AV.nilp, nI 3]] = [AV.tup [AV.nilp, nI 3]] ∧ bR x.mem.bs = bR x.mem.bs ∧ (loadC_c_p5 x) ∧ bR x.out.bs = bR x.out.bs ∧ bR x.disk.bs = bR x.disk.bs ∧ bR x.queue.bs = bR x.queue.bs ∧ (loadC_c_p6 x) ∧ True) ∨ (∃ (y : Unit), loadN x = 2 ∧ [AV.tup [AV.nilp, nI 3]] = [AV.tup [AV.nilp, nI 2]] ∧ bR x.mem.bs = bR x.mem.bs ∧
  (loadC_c_p5 x) ∧ bR x.out.bs = bR x.out.bs ∧ bR x.disk.bs = bR x.disk.bs ∧ bR x.queue.bs = bR x.queue.bs ∧ (loadC_c_p6 x) ∧ True) ∨ ∃ (y : Unit), loadN x = 0 ∧ [AV.tup [AV.nilp, nI 3]] = [AV.tup [AV.ptr 11 0 0, nI 0]] ∧ bR x.mem.bs = bR x.mem.bs ∧ (loadC_c_p5 x) ∧ bR x.out.bs = bR x.out.bs ∧ bR x.disk.bs = bR x.disk.bs ∧ bR x.queue.bs = bR x.queue.bs ∧ (loadC_c_p6 x) ∧ True) ∧ (∀ (y : Unit), devLN (loadC_c_p0 x) = 2 → (loadC_c_p2 x) ∨ (loadC_c_p1 x) ∨ ∃ (y : Unit), loadN x = 0 ∧ [AV.tup [AV.nilp, nI 2]] = [AV.tup [AV.ptr 11 0 0, nI 0]] ∧ bR x.mem.bs = bR x.mem.bs ∧ (loadC_c_p5 x) ∧ bR x.out.bs = bR x.out.bs ∧ bR x.disk.bs = bR x.disk.bs ∧ bR x.queue.bs = bR x.queue.bs ∧ (loadC_c_p6 x) ∧ True) ∧ (∀ (y : Unit), devLN (loadC_c_p0 x) = 0 → (∃ (y : Unit), loadN x = 3 ∧ [AV.tup [AV.ptr 10 0 0, nI 0]] = [AV.tup [AV.nilp, nI 3]] ∧ bR x.mem.bs = bR x.mem.bs ∧ (loadC_c_p5 x) ∧ bR x.out.bs = bR
  x.out.bs ∧ bR x.disk.bs = bR x.disk.bs ∧ bR x.queue.bs = bR x.queue.bs ∧ (loadC_c_p6 x) ∧ True) ∨ (∃ (y : Unit), loadN x = 2 ∧ [AV.tup [AV.ptr 10 0 0, nI 0]] = [AV.tup [AV.nilp, nI 2]] ∧ bR x.mem.bs = bR x.mem.bs ∧ (loadC_c_p5 x) ∧ bR x.out.bs = bR x.out.bs ∧ bR x.disk.bs = bR x.disk.bs ∧ bR x.queue.bs = bR x.queue.bs ∧ (loadC_c_p6 x) ∧ True) ∨ ∃ (y : Unit), loadN x = 0 ∧ [AV.tup [AV.ptr 10 0 0, nI 0]] = [AV.tup [AV.ptr 10 0 0, nI 0]] ∧ bR x.mem.bs = bR x.mem.bs ∧ (loadC_c_p5 x) ∧ bR x.out.bs = bR x.out.bs ∧ bR x.disk.bs = bR x.disk.bs ∧ bR x.queue.bs = bR x.queue.bs ∧ (loadC_c_p6 x) ∧ True) ∧ True) ∧ True)) ∧ True
theorem loadC_c_e (x : Sv) : some (loadC_c_V x) = (loadC.cond sp Go.Proofs.Tryz.prog (drP sp Go.Proofs.Tryz.prog) noLoops (orK (fitsC.orc sp) (orK (ramNewC.orc sp) (resumeC.orc sp))) 40 2 x) := by kernel_rfl
set_option maxRecDepth 100000 in
set_option maxHeartbeats 4000000 in
theorem loadC_ok : loadC.OK Go.Proofs.Tryz.prog := by
  refine Con.by hmix (noLoops_ok _) (orK_ok (Con.orc_ok fitsC_ok) (orK_ok (Con.orc_ok ramNewC_ok) (Con.orc_ok resumeC_ok))) loadC_c_V loadC_c_e (fun x hx => ?_)
  have hf := hx
  unfold loadC_c_V loadC_c_p2 loadC_c_p1 loadC_c_p5 loadC_c_p0 loadC_c_p7 loadC_c_p6 loadC_c_p4 loadC_c_p3
  refine ⟨trivial, rfl, ⟨rfl, rfl, rfl, rfl, rfl, rfl, trivial⟩, fun _ _ => spI (fun h => ?_) (fun h => ?_), trivial⟩
  · have h : (!fitsN x) = true := h
    have h : fitsN x = false := by simpa using h
    exact .inr (.inl ⟨(), by unfold loadN; rw [h]; rfl, rfl, rfl, ⟨rfl, rfl, rfl, fun _ _ => rfl⟩, rfl, rfl, rfl, ⟨rfl, rfl, rfl, fun _ _ => rfl⟩, trivial⟩)
  · have h : (!fitsN x) = false := h
    have h : fitsN x = true := by simpa using h
    have hfr : 1 ≤ x.fr ∧ x.fr ≤ 64 := by
      have := h
      simp [fitsN] at this
      omega
    have hN : x.fr = (x.fr.toNat : Int) := by omega
    have LN : loadN x = devLN x := by unfold loadN; rw [h]; rfl
    refine ⟨⟨by omega, by omega⟩, ?_, trivial, fun _ _ => ⟨⟨hf, h, hN, by omega, by omega⟩, rfl, ⟨rfl, rfl, rfl, rfl, rfl, rfl, rfl, rfl, rfl, trivial⟩, fun _ h3 => ?_, fun _ h2 => ?_, fun _ h0 => ?_, trivial⟩, trivial⟩
    · show [AV.int .i64 x.fr] = [AV.int .i64 (x.fr.toNat : Int)]
      rw [← hN]
    · have h3 : devLN x = 3 := h3
      exact .inl ⟨(), by rw [LN, h3], rfl, rfl, ⟨rfl, rfl, rfl, fun _ _ => rfl⟩, rfl, rfl, rfl, ⟨rfl, rfl, rfl, fun _ _ => rfl⟩, trivial⟩
    · have h2 : devLN x = 2 := h2
      exact .inr (.inl ⟨(), by rw [LN, h2], rfl, rfl, ⟨rfl, rfl, rfl, fun _ _ => rfl⟩, rfl, rfl, rfl, ⟨rfl, rfl, rfl, fun _ _ => rfl⟩, trivial⟩)
    · have h0 : devLN x = 0 := h0
      exact .inr (.inr ⟨(), by rw [LN, h0], rfl, rfl, ⟨rfl, rfl, rfl, fun _ _ => rfl⟩, rfl, rfl, rfl, ⟨rfl, rfl, rfl, fun _ _ => rfl⟩, trivial⟩)
abbrev keepC_c_p1 (x : Sv) : Sv :=
  Sv.mk x.fr (Row.mk x.mem.bs x.mem.c) (St.mk x.s.r0 x.s.r1 x.s.r2 x.s.r3 x.s.r4 x.s.r5 x.s.r6 x.s.r7 x.s.pc x.s.ps x.s.c0 x.s.c1 x.s.c2 x.s.c3 x.s.c4 x.s.c5 x.s.c6 x.s.c7 x.s.h) x.steps (NRow.mk x.notes.n x.notes.c (fun (i : Nat) => numAt (x.notes.f i) 0) (fun (i : Nat) => numAt (x.notes.f i) 1) (fun (i : Nat) => numAt (x.notes.f i) 2) fun (i : Nat) => numAt (x.notes.f i) 3) (Row.mk x.out.bs x.out.c) (Row.mk x.disk.bs x.disk.c) (Row.mk x.queue.bs x.queue.c) (ERow.mk x.script.n x.script.c (fun (i : Nat) => numAt (x.script.f i) 0) (fun (i : Nat) => numAt (x.script.f i) 1) fun (i : Nat) => numAt (x.script.f i) 2) x.b1 x.b2 x.b3 x.b4 x.b5 x.b6 x.b7 x.b8
abbrev keepC_c_p4 (x : Sv) : List AV :=
  [AV.agg [nI x.fr, AV.msl 0 0 0 x.mem.bs.length x.mem.c, nU x.s.r0, nU x.s.r1, nU x.s.r2, nU x.s.r3, nU x.s.r4, nU x.s.r5, nU x.s.r6, nU x.s.r7, nU x.s.pc, nU x.s.ps, nU x.s.c0, nU x.s.c1, nU x.s.c2, nU x.s.c3, nU x.s.c4, nU x.s.c5, nU x.s.c6, nU x.s.c7, AV.bool x.s.h, nI x.steps, AV.msl 1 0 0 x.notes.n x.notes.c, AV.msl 2 0 0 x.out.bs.length x.out.c, AV.msl 3 0 0 x.disk.bs.length x.disk.c, AV.msl 4 0 0 x.queue.bs.length x.queue.c, AV.msl 5 0 0 x.script.n x.script.c, nU x.b1, nU x.b2, nU x.b3, nU x.b4, nU x.b5, nU x.b6, nU x.b7, nU x.b8]]
abbrev keepC_c_p6 (x : Sv) : Prop :=
  false = false ∧ 3 = 3 ∧ x.script.n = x.script.n ∧ ∀ (i : Nat), i < x.script.n → [nI (x.script.at_ i), nI (x.script.kind i), nB (x.script.byte i)] = [nI (x.script.at_ i), nI (x.script.kind i), nB (x.script.byte i)]
abbrev keepC_c_p7 (x : Sv) (i : Nat) : List AV :=
  [nI (x.notes.at_ i), nI (x.notes.cause i), nU (x.notes.back i), nU (x.notes.addr i)]
abbrev keepC_c_p5 (x : Sv) : Prop :=
  false = false ∧ 4 = 4 ∧ x.notes.n = x.notes.n ∧ ∀ (i : Nat), i < x.notes.n → (keepC_c_p7 x i) = (keepC_c_p7 x i)
abbrev keepC_c_p0 (x : Sv) : Prop :=
  (∃ (y : Unit), keepN x = 3 ∧ [nI 3] = [nI 3] ∧ bR x.mem.bs = bR x.mem.bs ∧ (keepC_c_p5 x) ∧ bR x.out.bs = bR x.out.bs ∧ bR x.disk.bs = bR x.disk.bs ∧ bR x.queue.bs = bR x.queue.bs ∧ (keepC_c_p6 x) ∧ True) ∨ (∃ (y : Unit), keepN x = 2 ∧ [nI 3] = [nI 2] ∧ bR x.mem.bs = bR x.mem.bs ∧ (keepC_c_p5 x) ∧ bR x.out.bs = bR x.out.bs ∧ bR x.disk.bs = bR x.disk.bs ∧ bR x.queue.bs = bR x.queue.bs ∧ (keepC_c_p6 x) ∧ True) ∨ ∃ (y : Unit), keepN x = 0 ∧ [nI 3] = [nI 0] ∧ bR x.mem.bs = bR x.mem.bs ∧ (keepC_c_p5 x) ∧ bR x.out.bs = bR x.out.bs ∧ bR x.disk.bs = bR x.disk.bs ∧ bR x.queue.bs = bR x.queue.bs ∧ (keepC_c_p6 x) ∧ True
abbrev keepC_c_p2 (x : Sv) : Prop :=
  ∃ (y : Unit), keepN x = 2 ∧ [nI 2] = [nI 2] ∧ bR x.mem.bs = bR x.mem.bs ∧ (keepC_c_p5 x) ∧ bR x.out.bs = bR x.out.bs ∧ bR x.disk.bs = bR x.disk.bs ∧ bR x.queue.bs = bR x.queue.bs ∧ (keepC_c_p6 x) ∧ True
abbrev keepC_c_p3 (x : Sv) : Prop :=
  ∃ (y : Unit), keepN x = 3 ∧ [nI 2] = [nI 3] ∧ bR x.mem.bs = bR x.mem.bs ∧ (keepC_c_p5 x) ∧ bR x.out.bs = bR x.out.bs ∧ bR x.disk.bs = bR x.disk.bs ∧ bR x.queue.bs = bR x.queue.bs ∧ (keepC_c_p6 x) ∧ True
def keepC_c_V (x : Sv) : Prop :=
  ((x.mem.bs.length ≤ 140737488351232 ∧ x.mem.bs.length ≤ x.mem.c) ∧ (x.notes.n ≤ 5864062014634 ∧ x.notes.n ≤ x.notes.c) ∧ (x.out.bs.length ≤ 140737488351232 ∧ x.out.bs.length ≤ x.out.c) ∧ (x.disk.bs.length ≤ 140737488351232 ∧ x.disk.bs.length ≤ x.disk.c) ∧ (x.queue.bs.length ≤ 140737488351232 ∧ x.queue.bs.length ≤ x.queue.c) ∧ x.script.n ≤ 140737488351232 ∧ x.script.n ≤ x.script.c) ∧ [] ++ (keepC_c_p4 x) ++ [] = (keepC_c_p4 x) ∧ (some (bR x.mem.bs) = some (bR x.mem.bs) ∧ some (ABlk.mk false 4 (AC.recs x.notes.n x.notes.f)) = some (ABlk.mk false 4 (AC.recs x.notes.n fun (i : Nat) => (keepC_c_p7 x i))) ∧ some (bR x.out.bs) = some (bR x.out.bs) ∧ some (bR x.disk.bs) = some (bR x.disk.bs) ∧ some (bR x.queue.bs) = some (bR x.queue.bs) ∧ some (ABlk.mk false 3 (AC.recs x.script.n x.script.f)) = some (ABlk.mk false 3 (AC.recs x.script.n fun (i : Nat) => [nI (x.script.at_ i), nI (x.script.kind i),
  nB (x.script.byte i)])) ∧ True) ∧ (∀ (y : Unit), loadN (keepC_c_p1 x) = 3 → (∃ (y : Unit), keepN x = 3 ∧ [nI 3] = [nI 3] ∧ bR x.mem.bs = bR x.mem.bs ∧ (keepC_c_p5 x) ∧ bR x.out.bs = bR x.out.bs ∧ bR x.disk.bs = bR x.disk.bs ∧ bR x.queue.bs = bR x.queue.bs ∧ (keepC_c_p6 x) ∧ True) ∨ (∃ (y : Unit), keepN x = 2 ∧ [nI 3] = [nI 2] ∧ bR x.mem.bs = bR x.mem.bs ∧ (keepC_c_p5 x) ∧ bR x.out.bs = bR x.out.bs ∧ bR x.disk.bs = bR x.disk.bs ∧ bR x.queue.bs = bR x.queue.bs ∧ (keepC_c_p6 x) ∧ True) ∨ ∃ (y : Unit), keepN x = 0 ∧ [nI 3] = [nI 0] ∧ bR x.mem.bs = bR x.mem.bs ∧ (keepC_c_p5 x) ∧ bR x.out.bs = bR x.out.bs ∧ bR x.disk.bs = bR x.disk.bs ∧ bR x.queue.bs = bR x.queue.bs ∧ (keepC_c_p6 x) ∧ True) ∧ (∀ (y : Unit), loadN (keepC_c_p1 x) = 2 → (keepC_c_p3 x) ∨ (keepC_c_p2 x) ∨ ∃ (y : Unit), keepN x = 0 ∧ [nI 2] = [nI 0] ∧ bR x.mem.bs = bR x.mem.bs ∧ (keepC_c_p5 x) ∧ bR x.out.bs = bR x.out.bs ∧ bR
  x.disk.bs = bR x.disk.bs ∧ bR x.queue.bs = bR x.queue.bs ∧ (keepC_c_p6 x) ∧ True) ∧ (∀ (y : Unit), loadN (keepC_c_p1 x) = 0 → sp (decide ((↑x.notes.n : Int) > 4096)) (keepC_c_p0 x) (sp (bif false then true else decide ((↑x.out.bs.length : Int) > 65536)) (keepC_c_p0 x) (same (loopOf Proofs.Tryz.prog F_file_May 0) (loopOf Proofs.Tryz.prog F_file_May 0) ∧ (0 ≤ x.notes.n ∧ x.notes.n ≤ 100000000) ∧ ((AV.msl 1 0 0 x.notes.n x.notes.c = AV.msl 1 0 0 x.notes.n x.notes.c ∧ nI (↑x.notes.n : Int) = nI (↑x.notes.n : Int) ∧ nI 0 = nI 0 ∧ True) ∧ bR x.mem.bs = bR x.mem.bs ∧ (keepC_c_p5 x) ∧ bR x.out.bs = bR x.out.bs ∧ bR x.disk.bs = bR x.disk.bs ∧ bR x.queue.bs = bR x.queue.bs ∧ (keepC_c_p6 x) ∧ True) ∧ sp (notesOk (NRow.mk x.notes.n x.notes.c (fun (i : Nat) => numAt ((fun (i : Nat) => (keepC_c_p7 x i)) i) 0) (fun (i : Nat) => numAt ((fun (i : Nat) => (keepC_c_p7 x i)) i) 1) (fun (i : Nat) => numAt
  ((fun (i : Nat) => (keepC_c_p7 x i)) i) 2) fun (i : Nat) => numAt ((fun (i : Nat) => (keepC_c_p7 x i)) i) 3) 0) ((∃ (y : Unit), keepN x = 3 ∧ [nI 0] = [nI 3] ∧ bR x.mem.bs = bR x.mem.bs ∧ (keepC_c_p5 x) ∧ bR x.out.bs = bR x.out.bs ∧ bR x.disk.bs = bR x.disk.bs ∧ bR x.queue.bs = bR x.queue.bs ∧ (keepC_c_p6 x) ∧ True) ∨ (∃ (y : Unit), keepN x = 2 ∧ [nI 0] = [nI 2] ∧ bR x.mem.bs = bR x.mem.bs ∧ (keepC_c_p5 x) ∧ bR x.out.bs = bR x.out.bs ∧ bR x.disk.bs = bR x.disk.bs ∧ bR x.queue.bs = bR x.queue.bs ∧ (keepC_c_p6 x) ∧ True) ∨ ∃ (y : Unit), keepN x = 0 ∧ [nI 0] = [nI 0] ∧ bR x.mem.bs = bR x.mem.bs ∧ (keepC_c_p5 x) ∧ bR x.out.bs = bR x.out.bs ∧ bR x.disk.bs = bR x.disk.bs ∧ bR x.queue.bs = bR x.queue.bs ∧ (keepC_c_p6 x) ∧ True) ((keepC_c_p3 x) ∨ (keepC_c_p2 x) ∨ ∃ (y : Unit), keepN x = 0 ∧ [nI 2] = [nI 0] ∧ bR x.mem.bs = bR x.mem.bs ∧ (keepC_c_p5 x) ∧ bR x.out.bs = bR x.out.bs ∧ bR x.disk.bs =
  bR x.disk.bs ∧ bR x.queue.bs = bR x.queue.bs ∧ (keepC_c_p6 x) ∧ True)))) ∧ True
theorem keepC_c_e (x : Sv) : some (keepC_c_V x) = (keepC.cond sp Go.Proofs.Tryz.prog (drP sp Go.Proofs.Tryz.prog) (forF F_file_May ((mayL Go.Proofs.Tryz.prog).lo sp Go.Proofs.Tryz.prog (isLoop 7) (loopOf Go.Proofs.Tryz.prog F_file_May 0)) noLoops) (loadC.orc sp) 40 2 x) := by kernel_rfl
set_option maxRecDepth 100000 in
set_option maxHeartbeats 4000000 in
theorem keepC_ok : keepC.OK Go.Proofs.Tryz.prog := by
  refine Con.by hmix (forF_ok (Lp.lo_ok mayL_ok rfl) (noLoops_ok _)) (Con.orc_ok loadC_ok) keepC_c_V keepC_c_e (fun x hx => ?_)
  have hb : decide ((x.notes.n : Int) > 4096) = false → x.notes.n ≤ 100000000 := fun h => by
    have : ¬ (x.notes.n : Int) > 4096 := by simpa using h
    omega
  have hf := hx
  unfold keepC_c_V keepC_c_p3 keepC_c_p2 keepC_c_p0 keepC_c_p5 keepC_c_p7 keepC_c_p6 keepC_c_p4 keepC_c_p1
  refine ⟨hf, rfl, ⟨rfl, rfl, rfl, rfl, rfl, rfl, trivial⟩, fun _ h3 => ?_, fun _ h2 => ?_, fun _ h0 => ?_, trivial⟩
  · have h3 : loadN x = 3 := h3
    exact .inl ⟨(), by unfold keepN; rw [h3]; rfl, rfl, rfl, ⟨rfl, rfl, rfl, fun _ _ => rfl⟩, rfl, rfl, rfl, ⟨rfl, rfl, rfl, fun _ _ => rfl⟩, trivial⟩
  · have h2 : loadN x = 2 := h2
    exact .inr (.inl ⟨(), by unfold keepN; rw [h2]; rfl, rfl, rfl, ⟨rfl, rfl, rfl, fun _ _ => rfl⟩, rfl, rfl, rfl, ⟨rfl, rfl, rfl, fun _ _ => rfl⟩, trivial⟩)
  · have h0 : loadN x = 0 := h0
    have LN : keepN x = bif decide (x.notes.n > 4096) || decide (x.out.bs.length > 65536) then 3 else bif notesOk x.notes 0 then 0 else 2 := by unfold keepN; rw [h0]; rfl
    refine spI (fun a1 => ?_) (fun a1 => spI (fun a2 => ?_) (fun a2 => ⟨rfl, ⟨Nat.zero_le _, hb a1⟩, ⟨⟨rfl, rfl, rfl, trivial⟩, rfl, ⟨rfl, rfl, rfl, fun _ _ => rfl⟩, rfl, rfl, rfl, ⟨rfl, rfl, rfl, fun _ _ => rfl⟩, trivial⟩, spI (fun a3 => ?_) (fun a3 => ?_)⟩))
    · have a1 : decide (x.notes.n > 4096) = true := by
        have : (x.notes.n : Int) > 4096 := by simpa using a1
        exact decide_eq_true (by omega)
      exact .inl ⟨(), by rw [LN, a1]; rfl, rfl, rfl, ⟨rfl, rfl, rfl, fun _ _ => rfl⟩, rfl, rfl, rfl, ⟨rfl, rfl, rfl, fun _ _ => rfl⟩, trivial⟩
    all_goals
      have a1 : decide (x.notes.n > 4096) = false := by
        have : ¬ (x.notes.n : Int) > 4096 := by simpa using a1
        exact decide_eq_false (by omega)
      rw [a1] at LN
    · have a2 : decide (x.out.bs.length > 65536) = true := by
        have : (x.out.bs.length : Int) > 65536 := by simpa using a2
        exact decide_eq_true (by omega)
      exact .inl ⟨(), by rw [LN, a2]; rfl, rfl, rfl, ⟨rfl, rfl, rfl, fun _ _ => rfl⟩, rfl, rfl, rfl, ⟨rfl, rfl, rfl, fun _ _ => rfl⟩, trivial⟩
    all_goals
      have a2 : decide (x.out.bs.length > 65536) = false := by
        have : ¬ (x.out.bs.length : Int) > 65536 := by simpa using a2
        exact decide_eq_false (by omega)
      rw [a2] at LN
    · have a3 : notesOk x.notes 0 = true := a3
      exact .inr (.inr ⟨(), by rw [LN, a3]; rfl, rfl, rfl, ⟨rfl, rfl, rfl, fun _ _ => rfl⟩, rfl, rfl, rfl, ⟨rfl, rfl, rfl, fun _ _ => rfl⟩, trivial⟩)
    · have a3 : notesOk x.notes 0 = false := a3
      exact .inr (.inl ⟨(), by rw [LN, a3]; rfl, rfl, rfl, ⟨rfl, rfl, rfl, fun _ _ => rfl⟩, rfl, rfl, rfl, ⟨rfl, rfl, rfl, fun _ _ => rfl⟩, trivial⟩)
end Go.Proofs.YtmbcpmbpkdeioaaGreatDoor.W
/- A guest's bytes: what is reckoned, and the loops' states. No condition. -/
namespace Go.Proofs.YtmbcpmbpkdeioaaGreatDoor.W
open Go Go.RowKit Go.Eng
set_option maxRecDepth 100000
set_option linter.unusedVariables false
set_option linter.unusedSimpArgs false
end Go.Proofs.YtmbcpmbpkdeioaaGreatDoor.W
/- A guest's bytes: the walks. No condition. -/
namespace Go.Proofs.YtmbcpmbpkdeioaaGreatDoor.W
open Go Go.RowKit Go.Eng
set_option maxRecDepth 100000
set_option linter.unusedVariables false
set_option linter.unusedSimpArgs false
end Go.Proofs.YtmbcpmbpkdeioaaGreatDoor.W
/- A guest's bytes: the walks. No condition. -/
namespace Go.Proofs.YtmbcpmbpkdeioaaGreatDoor.W
open Go Go.RowKit Go.Eng
set_option maxRecDepth 100000
set_option linter.unusedVariables false
set_option linter.unusedSimpArgs false
end Go.Proofs.YtmbcpmbpkdeioaaGreatDoor.W
/- Fields read: what is reckoned. No condition. -/
namespace Go.Proofs.YtmbcpmbpkdeioaaGreatDoor.W
open Go Go.RowKit Go.Eng
set_option maxRecDepth 100000
set_option linter.unusedVariables false
set_option linter.unusedSimpArgs false
inductive UpR where
  | ok (n : Int) (o : Nat)
  | no (e : Int)
/-- A number that is at most so great, from a place on; and the place behind it. -/
def upN (bs : List Int) (o : Nat) (most : Int) : UpR :=
  match getN (bs.drop o) with
  | (n, u, e) => if e ≠ 0 then .no e else if n > most then .no 291 else .ok n (o + u.toNat)
def wrongAV (e : Int) : AV := .ifc T_file_wrong (.agg [.int .i64 e])
def rdL (bs : List Int) (o : Nat) : LH := [(0, ⟨true, 1, .cells [Rest bs o 1]⟩), (1, ⟨true, 1, .ints .u8 bs⟩)]
structure UpX where
  bs : List Int
  o : Nat
  most : Int
structure UpY where
  n : Int
  o : Nat
def rdFit (b : Nat) (H : AH) : Option (List Nat × At) := match H.get b with
  | some k => match k.c with
    | .cells [.sl b1 o _ _ _ _] => match H.get b1 with
      | some k1 => match k1.c with
        | .ints _ bs => some ([b, b1], ⟨bs, o⟩)
        | _ => none
      | none => none
    | _ => none
  | none => none
def upToC : Con UpX UpY where
  f := F_file_reader_upTo
  fit vs H := match vs with
    | [.ptr b _ _, .int _ most] => (rdFit b H).map fun r => (r.1, ⟨r.2.bs, r.2.o, most⟩)
    | _ => none
  n0 := 2
  pre x := x.o ≤ x.bs.length ∧ x.bs.length ≤ 140737488355328
  args x := [.ptr 0 0 0, .int .u64 x.most]
  L0 x := rdL x.bs x.o
  outs x := [(fun y => upN x.bs x.o x.most = .ok y.n y.o ∧ y.o ≤ x.bs.length ∧ 0 ≤ y.n ∧ y.n ≤ x.most, fun y => (.ret (.int .u64 y.n), 2, rdL x.bs y.o)),
    (fun y => upN x.bs x.o x.most = .no 290, fun y => (.panic (wrongAV 290), 2, [])),
    (fun y => upN x.bs x.o x.most = .no 291, fun y => (.panic (wrongAV 291), 2, []))]
def numC (f : FuncId) (most : Int) (k : IntKind) : Con At UpY where
  f := f
  fit vs H := match vs with
    | [.ptr b _ _] => rdFit b H
    | _ => none
  n0 := 2
  pre x := x.o ≤ x.bs.length ∧ x.bs.length ≤ 140737488355328
  args x := [.ptr 0 0 0]
  L0 x := rdL x.bs x.o
  outs x := [(fun y => upN x.bs x.o most = .ok y.n y.o ∧ y.o ≤ x.bs.length ∧ 0 ≤ y.n ∧ y.n ≤ most, fun y => (.ret (.int k y.n), 2, rdL x.bs y.o)),
    (fun y => upN x.bs x.o most = .no 290, fun y => (.panic (wrongAV 290), 2, [])),
    (fun y => upN x.bs x.o most = .no 291, fun y => (.panic (wrongAV 291), 2, []))]
/-- How many follow. -/
def cntN (bs : List Int) (o : Nat) (most : Int) : UpR :=
  match upN bs o 1099511627776 with
  | .no e => .no e
  | .ok n o' => if n > most then .no 3 else .ok n o'
def countC : Con UpX UpY where
  f := F_file_reader_count
  fit vs H := match vs with
    | [.ptr b _ _, .int _ most] => (rdFit b H).map fun r => (r.1, ⟨r.2.bs, r.2.o, most⟩)
    | _ => none
  n0 := 2
  pre x := x.o ≤ x.bs.length ∧ x.bs.length ≤ 140737488355328
  args x := [.ptr 0 0 0, .int .i64 x.most]
  L0 x := rdL x.bs x.o
  outs x := [(fun y => cntN x.bs x.o x.most = .ok y.n y.o ∧ y.o ≤ x.bs.length ∧ 0 ≤ y.n ∧ y.n ≤ x.most, fun y => (.ret (.int .i64 y.n), 2, rdL x.bs y.o)),
    (fun y => cntN x.bs x.o x.most = .no 290, fun y => (.panic (wrongAV 290), 2, [])),
    (fun y => cntN x.bs x.o x.most = .no 291, fun y => (.panic (wrongAV 291), 2, [])),
    (fun y => cntN x.bs x.o x.most = .no 3, fun y => (.panic (wrongAV 3), 2, []))]
structure UpZ where
  u : Nat
  n : Nat
def rdRowC : Con UpX UpZ where
  f := F_file_reader_row
  fit vs H := match vs with
    | [.ptr b _ _, .int _ most] => (rdFit b H).map fun r => (r.1, ⟨r.2.bs, r.2.o, most⟩)
    | _ => none
  n0 := 2
  pre x := x.o ≤ x.bs.length ∧ x.bs.length ≤ 140737488355328
  args x := [.ptr 0 0 0, .int .i64 x.most]
  L0 x := rdL x.bs x.o
  outs x := [(fun y => rowN (x.bs.drop x.o) x.most = .ok y.u y.n, fun y => (.ret (.sl 2 0 0 y.n y.n false), 3, [(0, ⟨true, 1, .cells [Rest x.bs (x.o + (y.u + y.n)) 1]⟩), (1, ⟨true, 1, .ints .u8 x.bs⟩), (2, ⟨true, 1, .ints .u8 ((x.bs.drop (x.o + y.u)).take y.n)⟩)])),
    (fun y => rowN (x.bs.drop x.o) x.most = .no 290, fun y => (.panic (wrongAV 290), 3, [])),
    (fun y => rowN (x.bs.drop x.o) x.most = .no 291, fun y => (.panic (wrongAV 291), 3, [])),
    (fun y => rowN (x.bs.drop x.o) x.most = .no 3, fun y => (.panic (wrongAV 3), 3, []))]
theorem rowN_ok {l : List Int} {most : Int} {u n : Nat} (hl : l.length ≤ 140737488355328) (h : rowN l most = .ok u n) : u + n ≤ l.length := by
  unfold rowN at h
  rcases getN_range l with ⟨n', u', e, h3, h4, h5⟩ | e | e
  · rw [e] at h
    simp only [ne_eq, not_true_eq_false, if_false] at h
    have w1 : IntKind.wrap .i64 ((l.length : Int) - (u' : Int)) = (l.length : Int) - u' := IntWalk.i64_in _ (by omega)
    have w2 : IntKind.wrap .u64 ((l.length : Int) - (u' : Int)) = (l.length : Int) - u' := IntWalk.u64_in _ (by omega)
    rw [w1, w2] at h
    generalize IntKind.wrap .u64 (if (0 : Int) > most then 0 else most) = w at h
    split at h
    · cases h
    · split at h
      · cases h
      · cases h
        omega
  · rw [e] at h; simp at h
  · rw [e] at h; simp at h
end Go.Proofs.YtmbcpmbpkdeioaaGreatDoor.W
/- Fields read: the walks. No condition. -/
namespace Go.Proofs.YtmbcpmbpkdeioaaGreatDoor.W
open Go Go.RowKit Go.Eng
set_option maxRecDepth 100000
set_option linter.unusedVariables false
set_option linter.unusedSimpArgs false
abbrev upToC_c_p0 (x : UpX) : Prop :=
  ∃ (y : UpY), upN x.bs x.o x.most = UpR.no 290 ∧ [AV.ifc 42 (AV.agg [nI 291])] = [AV.ifc T_file_wrong (AV.agg [nI 290])] ∧ True
abbrev upToC_c_p1 (x : UpX) : Prop :=
  ∃ (y : UpY), (upN x.bs x.o x.most = UpR.ok y.n y.o ∧ y.o ≤ x.bs.length ∧ 0 ≤ y.n ∧ y.n ≤ x.most) ∧ False
def upToC_c_V (x : UpX) : Prop :=
  (x.o ≤ x.bs.length ∧ x.bs.length ≤ 140737488355328) ∧ [] ++ [AV.sl 1 x.o 0 (x.bs.length - x.o) (x.bs.length - x.o) false] ++ [] = [AV.sl 1 x.o 0 (x.bs.length - x.o) (x.bs.length - x.o) false] ∧ (some (bW x.bs) = some (bW x.bs) ∧ True) ∧ (∀ (y : Got), getN (List.drop x.o x.bs) = (y.n, (↑y.u : Int), 0) → sp (decide (y.n > x.most)) ((upToC_c_p1 x) ∨ (upToC_c_p0 x) ∨ ∃ (y : UpY), upN x.bs x.o x.most = UpR.no 291 ∧ [AV.ifc 42 (AV.agg [nI 291])] = [AV.ifc T_file_wrong (AV.agg [nI 291])] ∧ True) (sp (decide ((↑y.u : Int).toNat ≤ x.bs.length - x.o) && decide (x.bs.length - x.o ≤ x.bs.length - x.o) && decide (x.bs.length - x.o ≤ x.bs.length - x.o) && true && true) ((∃ (y_1 : UpY), (upN x.bs x.o x.most = UpR.ok y_1.n y_1.o ∧ y_1.o ≤ x.bs.length ∧ 0 ≤ y_1.n ∧ y_1.n ≤ x.most) ∧ [nL y.n] = [nL y_1.n] ∧ bC (([AV.sl 1 x.o 0 (x.bs.length - x.o) (x.bs.length - x.o) false].set 0 (AV.sl 1 (x.o + (↑y.u :
  Int).toNat) 0 (x.bs.length - x.o - (↑y.u : Int).toNat) (x.bs.length - x.o - (↑y.u : Int).toNat) false))) = bC [AV.sl 1 y_1.o 0 (x.bs.length - y_1.o) (x.bs.length - y_1.o) false] ∧ bW x.bs = bW x.bs ∧ True) ∨ (∃ (y : UpY), upN x.bs x.o x.most = UpR.no 290 ∧ False) ∨ ∃ (y : UpY), upN x.bs x.o x.most = UpR.no 291 ∧ False) False)) ∧ (∀ (y : Got), getN (List.drop x.o x.bs) = (0, 0, 290) → (upToC_c_p1 x) ∨ (∃ (y : UpY), upN x.bs x.o x.most = UpR.no 290 ∧ [AV.ifc 42 (AV.agg [nI 290])] = [AV.ifc T_file_wrong (AV.agg [nI 290])] ∧ True) ∨ ∃ (y : UpY), upN x.bs x.o x.most = UpR.no 291 ∧ [AV.ifc 42 (AV.agg [nI 290])] = [AV.ifc T_file_wrong (AV.agg [nI 291])] ∧ True) ∧ (∀ (y : Got), getN (List.drop x.o x.bs) = (0, 0, 291) → (upToC_c_p1 x) ∨ (upToC_c_p0 x) ∨ ∃ (y : UpY), upN x.bs x.o x.most = UpR.no 291 ∧ [AV.ifc 42 (AV.agg [nI 291])] = [AV.ifc T_file_wrong (AV.agg [nI 291])] ∧ True) ∧ True
theorem upToC_c_e (x : UpX) : some (upToC_c_V x) = (upToC.cond sp Go.Proofs.Tryz.prog (drP sp Go.Proofs.Tryz.prog) noLoops (getC.orc sp) 40 4 x) := by kernel_rfl
set_option maxRecDepth 100000 in
theorem upToC_ok : upToC.OK Go.Proofs.Tryz.prog := by
  refine Con.by hmix (noLoops_ok _) (Con.orc_ok getC_ok) upToC_c_V upToC_c_e (fun x hx => ?_)
  obtain ⟨h1, h2⟩ := hx
  unfold upToC_c_V upToC_c_p1 upToC_c_p0
  refine ⟨⟨h1, h2⟩, rfl, ⟨rfl, trivial⟩, fun ⟨n, u⟩ hy => ?_, fun y hy => ?_, fun y hy => ?_, trivial⟩
  · have hy : getN (x.bs.drop x.o) = (n, (u : Int), 0) := hy
    have hu : u ≤ x.bs.length - x.o ∧ 0 ≤ n := by
      rcases getN_range (x.bs.drop x.o) with ⟨n', u', h, h3, h4, h5⟩ | h | h
      · rw [h] at hy
        simp only [Prod.mk.injEq, List.length_drop] at hy h4
        omega
      · rw [h] at hy; simp at hy
      · rw [h] at hy; simp at hy
    have hN : upN x.bs x.o x.most = if n > x.most then .no 291 else .ok n (x.o + u) := by
      unfold upN; rw [hy]; simp
    refine spI (fun h => ?_) (fun h => spT ?_ ?_)
    · have h : n > x.most := by simpa using h
      rw [if_pos h] at hN
      exact .inr (.inr ⟨⟨0, 0⟩, hN, rfl, trivial⟩)
    · simp; omega
    · have h : ¬ n > x.most := by simpa using h
      rw [if_neg h] at hN
      refine .inl ⟨⟨n, x.o + u⟩, ⟨hN, ?_, hu.2, by show n ≤ x.most; omega⟩, rfl, ?_, rfl, trivial⟩
      · show x.o + u ≤ x.bs.length; omega
      · have e : x.bs.length - x.o - u = x.bs.length - (x.o + u) := by omega
        simp [e]
  · have hy : getN (x.bs.drop x.o) = (0, 0, 290) := hy
    exact .inr (.inl ⟨⟨0, 0⟩, by unfold upN; rw [hy]; simp, rfl, trivial⟩)
  · have hy : getN (x.bs.drop x.o) = (0, 0, 291) := hy
    exact .inr (.inr ⟨⟨0, 0⟩, by unfold upN; rw [hy]; simp, rfl, trivial⟩)
abbrev rdInt_c_p0 (x : At) : Prop :=
  ∃ (y : UpY), (upN x.bs x.o 1099511627776 = UpR.ok y.n y.o ∧ y.o ≤ x.bs.length ∧ 0 ≤ y.n ∧ y.n ≤ 1099511627776) ∧ False
def rdInt_c_V (x : At) : Prop :=
  (x.o ≤ x.bs.length ∧ x.bs.length ≤ 140737488355328) ∧ [AV.ptr 0 0 0, nL 1099511627776] = [AV.ptr 0 0 0, nL 1099511627776] ∧ (some (bC [AV.sl 1 x.o 0 (x.bs.length - x.o) (x.bs.length - x.o) false]) = some (bC [AV.sl 1 x.o 0 (x.bs.length - x.o) (x.bs.length - x.o) false]) ∧ some (bW x.bs) = some (bW x.bs) ∧ True) ∧ (∀ (y : UpY), upN x.bs x.o 1099511627776 = UpR.ok y.n y.o ∧ y.o ≤ x.bs.length ∧ 0 ≤ y.n ∧ y.n ≤ 1099511627776 → (∃ (y_1 : UpY), (upN x.bs x.o 1099511627776 = UpR.ok y_1.n y_1.o ∧ y_1.o ≤ x.bs.length ∧ 0 ≤ y_1.n ∧ y_1.n ≤ 1099511627776) ∧ [nI (IntKind.i64.wrap y.n)] = [nI y_1.n] ∧ bC [AV.sl 1 y.o 0 (x.bs.length - y.o) (x.bs.length - y.o) false] = bC [AV.sl 1 y_1.o 0 (x.bs.length - y_1.o) (x.bs.length - y_1.o) false] ∧ bW x.bs = bW x.bs ∧ True) ∨ (∃ (y : UpY), upN x.bs x.o 1099511627776 = UpR.no 290 ∧ False) ∨ ∃ (y : UpY), upN x.bs x.o 1099511627776 = UpR.no 291 ∧ False) ∧ (∀ (y :
  UpY), upN x.bs x.o 1099511627776 = UpR.no 290 → (rdInt_c_p0 x) ∨ (∃ (y : UpY), upN x.bs x.o 1099511627776 = UpR.no 290 ∧ [AV.ifc T_file_wrong (AV.agg [nI 290])] = [AV.ifc T_file_wrong (AV.agg [nI 290])] ∧ True) ∨ ∃ (y : UpY), upN x.bs x.o 1099511627776 = UpR.no 291 ∧ [AV.ifc T_file_wrong (AV.agg [nI 290])] = [AV.ifc T_file_wrong (AV.agg [nI 291])] ∧ True) ∧ (∀ (y : UpY), upN x.bs x.o 1099511627776 = UpR.no 291 → (rdInt_c_p0 x) ∨ (∃ (y : UpY), upN x.bs x.o 1099511627776 = UpR.no 290 ∧ [AV.ifc T_file_wrong (AV.agg [nI 291])] = [AV.ifc T_file_wrong (AV.agg [nI 290])] ∧ True) ∨ ∃ (y : UpY), upN x.bs x.o 1099511627776 = UpR.no 291 ∧ [AV.ifc T_file_wrong (AV.agg [nI 291])] = [AV.ifc T_file_wrong (AV.agg [nI 291])] ∧ True) ∧ True
theorem rdInt_c_e (x : At) : some (rdInt_c_V x) = ((numC F_file_reader_int 1099511627776 .i64).cond sp Go.Proofs.Tryz.prog (drP sp Go.Proofs.Tryz.prog) noLoops (upToC.orc sp) 40 3 x) := by kernel_rfl
set_option maxRecDepth 100000 in
theorem rdInt_ok : (numC F_file_reader_int 1099511627776 .i64).OK Go.Proofs.Tryz.prog := by
  refine Con.by hmix (noLoops_ok _) (Con.orc_ok upToC_ok) rdInt_c_V rdInt_c_e (fun x hx => ?_)
  obtain ⟨h1, h2⟩ := hx
  unfold rdInt_c_V rdInt_c_p0
  refine ⟨⟨h1, h2⟩, rfl, ⟨rfl, rfl, trivial⟩, fun y hy => ?_, fun y hy => ?_, fun y hy => ?_, trivial⟩
  · obtain ⟨g1, g2, g3, g4⟩ := hy
    have hw : IntKind.wrap .i64 y.n = y.n := IntWalk.i64_in _ (by omega)
    rw [hw]
    exact .inl ⟨y, ⟨g1, g2, g3, g4⟩, rfl, rfl, rfl, trivial⟩
  · exact .inr (.inl ⟨⟨0, 0⟩, hy, rfl, trivial⟩)
  · exact .inr (.inr ⟨⟨0, 0⟩, hy, rfl, trivial⟩)
abbrev rdNum_c_p0 (x : At) : Prop :=
  ∃ (y : UpY), (upN x.bs x.o 4294967295 = UpR.ok y.n y.o ∧ y.o ≤ x.bs.length ∧ 0 ≤ y.n ∧ y.n ≤ 4294967295) ∧ False
def rdNum_c_V (x : At) : Prop :=
  (x.o ≤ x.bs.length ∧ x.bs.length ≤ 140737488355328) ∧ [AV.ptr 0 0 0, nL 4294967295] = [AV.ptr 0 0 0, nL 4294967295] ∧ (some (bC [AV.sl 1 x.o 0 (x.bs.length - x.o) (x.bs.length - x.o) false]) = some (bC [AV.sl 1 x.o 0 (x.bs.length - x.o) (x.bs.length - x.o) false]) ∧ some (bW x.bs) = some (bW x.bs) ∧ True) ∧ (∀ (y : UpY), upN x.bs x.o 4294967295 = UpR.ok y.n y.o ∧ y.o ≤ x.bs.length ∧ 0 ≤ y.n ∧ y.n ≤ 4294967295 → (∃ (y_1 : UpY), (upN x.bs x.o 4294967295 = UpR.ok y_1.n y_1.o ∧ y_1.o ≤ x.bs.length ∧ 0 ≤ y_1.n ∧ y_1.n ≤ 4294967295) ∧ [nU (IntKind.u32.wrap y.n)] = [nU y_1.n] ∧ bC [AV.sl 1 y.o 0 (x.bs.length - y.o) (x.bs.length - y.o) false] = bC [AV.sl 1 y_1.o 0 (x.bs.length - y_1.o) (x.bs.length - y_1.o) false] ∧ bW x.bs = bW x.bs ∧ True) ∨ (∃ (y : UpY), upN x.bs x.o 4294967295 = UpR.no 290 ∧ False) ∨ ∃ (y : UpY), upN x.bs x.o 4294967295 = UpR.no 291 ∧ False) ∧ (∀ (y : UpY), upN x.bs x.o
  4294967295 = UpR.no 290 → (rdNum_c_p0 x) ∨ (∃ (y : UpY), upN x.bs x.o 4294967295 = UpR.no 290 ∧ [AV.ifc T_file_wrong (AV.agg [nI 290])] = [AV.ifc T_file_wrong (AV.agg [nI 290])] ∧ True) ∨ ∃ (y : UpY), upN x.bs x.o 4294967295 = UpR.no 291 ∧ [AV.ifc T_file_wrong (AV.agg [nI 290])] = [AV.ifc T_file_wrong (AV.agg [nI 291])] ∧ True) ∧ (∀ (y : UpY), upN x.bs x.o 4294967295 = UpR.no 291 → (rdNum_c_p0 x) ∨ (∃ (y : UpY), upN x.bs x.o 4294967295 = UpR.no 290 ∧ [AV.ifc T_file_wrong (AV.agg [nI 291])] = [AV.ifc T_file_wrong (AV.agg [nI 290])] ∧ True) ∨ ∃ (y : UpY), upN x.bs x.o 4294967295 = UpR.no 291 ∧ [AV.ifc T_file_wrong (AV.agg [nI 291])] = [AV.ifc T_file_wrong (AV.agg [nI 291])] ∧ True) ∧ True
theorem rdNum_c_e (x : At) : some (rdNum_c_V x) = ((numC F_file_reader_number 4294967295 .u32).cond sp Go.Proofs.Tryz.prog (drP sp Go.Proofs.Tryz.prog) noLoops (upToC.orc sp) 40 3 x) := by kernel_rfl
set_option maxRecDepth 100000 in
theorem rdNum_ok : (numC F_file_reader_number 4294967295 .u32).OK Go.Proofs.Tryz.prog := by
  refine Con.by hmix (noLoops_ok _) (Con.orc_ok upToC_ok) rdNum_c_V rdNum_c_e (fun x hx => ?_)
  obtain ⟨h1, h2⟩ := hx
  unfold rdNum_c_V rdNum_c_p0
  refine ⟨⟨h1, h2⟩, rfl, ⟨rfl, rfl, trivial⟩, fun y hy => ?_, fun y hy => ?_, fun y hy => ?_, trivial⟩
  · obtain ⟨g1, g2, g3, g4⟩ := hy
    have hw : IntKind.wrap .u32 y.n = y.n := IntWalk.u32_in _ (by omega)
    rw [hw]
    exact .inl ⟨y, ⟨g1, g2, g3, g4⟩, rfl, rfl, rfl, trivial⟩
  · exact .inr (.inl ⟨⟨0, 0⟩, hy, rfl, trivial⟩)
  · exact .inr (.inr ⟨⟨0, 0⟩, hy, rfl, trivial⟩)
abbrev countC_c_p0 (x : UpX) : Prop :=
  ∃ (y : UpY), (cntN x.bs x.o x.most = UpR.ok y.n y.o ∧ y.o ≤ x.bs.length ∧ 0 ≤ y.n ∧ y.n ≤ x.most) ∧ False
def countC_c_V (x : UpX) : Prop :=
  (x.o ≤ x.bs.length ∧ x.bs.length ≤ 140737488355328) ∧ [AV.ptr 0 0 0] = [AV.ptr 0 0 0] ∧ (some (bC [AV.sl 1 x.o 0 (x.bs.length - x.o) (x.bs.length - x.o) false]) = some (bC [AV.sl 1 x.o 0 (x.bs.length - x.o) (x.bs.length - x.o) false]) ∧ some (bW x.bs) = some (bW x.bs) ∧ True) ∧ (∀ (y : UpY), upN x.bs x.o 1099511627776 = UpR.ok y.n y.o ∧ y.o ≤ x.bs.length ∧ 0 ≤ y.n ∧ y.n ≤ 1099511627776 → sp (decide (y.n > x.most)) ((countC_c_p0 x) ∨ (∃ (y : UpY), cntN x.bs x.o x.most = UpR.no 290 ∧ [AV.ifc 42 (AV.agg [nI 3])] = [AV.ifc T_file_wrong (AV.agg [nI 290])] ∧ True) ∨ (∃ (y : UpY), cntN x.bs x.o x.most = UpR.no 291 ∧ [AV.ifc 42 (AV.agg [nI 3])] = [AV.ifc T_file_wrong (AV.agg [nI 291])] ∧ True) ∨ ∃ (y : UpY), cntN x.bs x.o x.most = UpR.no 3 ∧ [AV.ifc 42 (AV.agg [nI 3])] = [AV.ifc T_file_wrong (AV.agg [nI 3])] ∧ True) ((∃ (y_1 : UpY), (cntN x.bs x.o x.most = UpR.ok y_1.n y_1.o ∧ y_1.o ≤ x.bs.length
  ∧ 0 ≤ y_1.n ∧ y_1.n ≤ x.most) ∧ [nI y.n] = [nI y_1.n] ∧ bC [AV.sl 1 y.o 0 (x.bs.length - y.o) (x.bs.length - y.o) false] = bC [AV.sl 1 y_1.o 0 (x.bs.length - y_1.o) (x.bs.length - y_1.o) false] ∧ bW x.bs = bW x.bs ∧ True) ∨ (∃ (y : UpY), cntN x.bs x.o x.most = UpR.no 290 ∧ False) ∨ (∃ (y : UpY), cntN x.bs x.o x.most = UpR.no 291 ∧ False) ∨ ∃ (y : UpY), cntN x.bs x.o x.most = UpR.no 3 ∧ False)) ∧ (∀ (y : UpY), upN x.bs x.o 1099511627776 = UpR.no 290 → (countC_c_p0 x) ∨ (∃ (y : UpY), cntN x.bs x.o x.most = UpR.no 290 ∧ [AV.ifc T_file_wrong (AV.agg [nI 290])] = [AV.ifc T_file_wrong (AV.agg [nI 290])] ∧ True) ∨ (∃ (y : UpY), cntN x.bs x.o x.most = UpR.no 291 ∧ [AV.ifc T_file_wrong (AV.agg [nI 290])] = [AV.ifc T_file_wrong (AV.agg [nI 291])] ∧ True) ∨ ∃ (y : UpY), cntN x.bs x.o x.most = UpR.no 3 ∧ [AV.ifc T_file_wrong (AV.agg [nI 290])] = [AV.ifc T_file_wrong (AV.agg [nI 3])] ∧ True) ∧ (∀ (y :
  UpY), upN x.bs x.o 1099511627776 = UpR.no 291 → (countC_c_p0 x) ∨ (∃ (y : UpY), cntN x.bs x.o x.most = UpR.no 290 ∧ [AV.ifc T_file_wrong (AV.agg [nI 291])] = [AV.ifc T_file_wrong (AV.agg [nI 290])] ∧ True) ∨ (∃ (y : UpY), cntN x.bs x.o x.most = UpR.no 291 ∧ [AV.ifc T_file_wrong (AV.agg [nI 291])] = [AV.ifc T_file_wrong (AV.agg [nI 291])] ∧ True) ∨ ∃ (y : UpY), cntN x.bs x.o x.most = UpR.no 3 ∧ [AV.ifc T_file_wrong (AV.agg [nI 291])] = [AV.ifc T_file_wrong (AV.agg [nI 3])] ∧ True) ∧ True
theorem countC_c_e (x : UpX) : some (countC_c_V x) = (countC.cond sp Go.Proofs.Tryz.prog (drP sp Go.Proofs.Tryz.prog) noLoops ((numC F_file_reader_int 1099511627776 .i64).orc sp) 40 3 x) := by kernel_rfl
set_option maxRecDepth 100000 in
theorem countC_ok : countC.OK Go.Proofs.Tryz.prog := by
  refine Con.by hmix (noLoops_ok _) (Con.orc_ok rdInt_ok) countC_c_V countC_c_e (fun x hx => ?_)
  obtain ⟨h1, h2⟩ := hx
  unfold countC_c_V countC_c_p0
  refine ⟨⟨h1, h2⟩, rfl, ⟨rfl, rfl, trivial⟩, fun y hy => ?_, fun y hy => ?_, fun y hy => ?_, trivial⟩
  · obtain ⟨g1, g2, g3, g4⟩ := hy
    have hN : cntN x.bs x.o x.most = if y.n > x.most then .no 3 else .ok y.n y.o := by unfold cntN; rw [g1]
    refine spI (fun h => ?_) (fun h => ?_)
    · have h : y.n > x.most := by simpa using h
      rw [if_pos h] at hN
      exact .inr (.inr (.inr ⟨⟨0, 0⟩, hN, rfl, trivial⟩))
    · have h : ¬ y.n > x.most := by simpa using h
      rw [if_neg h] at hN
      exact .inl ⟨y, ⟨hN, g2, g3, by omega⟩, rfl, rfl, rfl, trivial⟩
  · have hy : upN x.bs x.o 1099511627776 = .no 290 := hy
    exact .inr (.inl ⟨⟨0, 0⟩, by unfold cntN; rw [hy], rfl, trivial⟩)
  · have hy : upN x.bs x.o 1099511627776 = .no 291 := hy
    exact .inr (.inr (.inl ⟨⟨0, 0⟩, by unfold cntN; rw [hy], rfl, trivial⟩))
abbrev rdRowC_c_p0 (x : UpX) : Prop :=
  ∃ (y : UpZ), rowN (List.drop x.o x.bs) x.most = RowR.ok y.u y.n ∧ False
def rdRowC_c_V (x : UpX) : Prop :=
  (x.o ≤ x.bs.length ∧ x.bs.length ≤ 140737488355328) ∧ [] ++ [AV.sl 1 x.o 0 (x.bs.length - x.o) (x.bs.length - x.o) false, nI x.most] ++ [] = [AV.sl 1 x.o 0 (x.bs.length - x.o) (x.bs.length - x.o) false, nI x.most] ∧ (some (bW x.bs) = some (bW x.bs) ∧ True) ∧ (∀ (y : UN), rowN (List.drop x.o x.bs) x.most = RowR.ok y.u y.n → sp (decide ((↑(y.u + y.n) : Int).toNat ≤ x.bs.length - x.o) && decide (x.bs.length - x.o ≤ x.bs.length - x.o) && decide (x.bs.length - x.o ≤ x.bs.length - x.o) && true && true) ((∃ (y_1 : UpZ), rowN (List.drop x.o x.bs) x.most = RowR.ok y_1.u y_1.n ∧ [AV.sl 2 0 0 y.n y.n false] = [AV.sl 2 0 0 y_1.n y_1.n false] ∧ bC (([AV.sl 1 x.o 0 (x.bs.length - x.o) (x.bs.length - x.o) false].set 0 (AV.sl 1 (x.o + (↑(y.u + y.n) : Int).toNat) 0 (x.bs.length - x.o - (↑(y.u + y.n) : Int).toNat) (x.bs.length - x.o - (↑(y.u + y.n) : Int).toNat) false))) = bC [AV.sl 1 (x.o + (y_1.u +
  y_1.n)) 0 (x.bs.length - (x.o + (y_1.u + y_1.n))) (x.bs.length - (x.o + (y_1.u + y_1.n))) false] ∧ bW x.bs = bW x.bs ∧ bW ((List.take y.n (List.drop (x.o + y.u) x.bs))) = bW ((List.take y_1.n (List.drop (x.o + y_1.u) x.bs))) ∧ True) ∨ (∃ (y : UpZ), rowN (List.drop x.o x.bs) x.most = RowR.no 290 ∧ False) ∨ (∃ (y : UpZ), rowN (List.drop x.o x.bs) x.most = RowR.no 291 ∧ False) ∨ ∃ (y : UpZ), rowN (List.drop x.o x.bs) x.most = RowR.no 3 ∧ False) False) ∧ (∀ (y : UN), rowN (List.drop x.o x.bs) x.most = RowR.no 290 → (rdRowC_c_p0 x) ∨ (∃ (y : UpZ), rowN (List.drop x.o x.bs) x.most = RowR.no 290 ∧ [AV.ifc 42 (AV.agg [nI 290])] = [AV.ifc T_file_wrong (AV.agg [nI 290])] ∧ True) ∨ (∃ (y : UpZ), rowN (List.drop x.o x.bs) x.most = RowR.no 291 ∧ [AV.ifc 42 (AV.agg [nI 290])] = [AV.ifc T_file_wrong (AV.agg [nI 291])] ∧ True) ∨ ∃ (y : UpZ), rowN (List.drop x.o x.bs) x.most = RowR.no 3 ∧ [AV.ifc 42
  (AV.agg [nI 290])] = [AV.ifc T_file_wrong (AV.agg [nI 3])] ∧ True) ∧ (∀ (y : UN), rowN (List.drop x.o x.bs) x.most = RowR.no 291 → (rdRowC_c_p0 x) ∨ (∃ (y : UpZ), rowN (List.drop x.o x.bs) x.most = RowR.no 290 ∧ [AV.ifc 42 (AV.agg [nI 291])] = [AV.ifc T_file_wrong (AV.agg [nI 290])] ∧ True) ∨ (∃ (y : UpZ), rowN (List.drop x.o x.bs) x.most = RowR.no 291 ∧ [AV.ifc 42 (AV.agg [nI 291])] = [AV.ifc T_file_wrong (AV.agg [nI 291])] ∧ True) ∨ ∃ (y : UpZ), rowN (List.drop x.o x.bs) x.most = RowR.no 3 ∧ [AV.ifc 42 (AV.agg [nI 291])] = [AV.ifc T_file_wrong (AV.agg [nI 3])] ∧ True) ∧ (∀ (y : UN), rowN (List.drop x.o x.bs) x.most = RowR.no 3 → (rdRowC_c_p0 x) ∨ (∃ (y : UpZ), rowN (List.drop x.o x.bs) x.most = RowR.no 290 ∧ [AV.ifc 42 (AV.agg [nI 3])] = [AV.ifc T_file_wrong (AV.agg [nI 290])] ∧ True) ∨ (∃ (y : UpZ), rowN (List.drop x.o x.bs) x.most = RowR.no 291 ∧ [AV.ifc 42 (AV.agg [nI 3])] = [AV.ifc
  T_file_wrong (AV.agg [nI 291])] ∧ True) ∨ ∃ (y : UpZ), rowN (List.drop x.o x.bs) x.most = RowR.no 3 ∧ [AV.ifc 42 (AV.agg [nI 3])] = [AV.ifc T_file_wrong (AV.agg [nI 3])] ∧ True) ∧ True
theorem rdRowC_c_e (x : UpX) : some (rdRowC_c_V x) = (rdRowC.cond sp Go.Proofs.Tryz.prog (drP sp Go.Proofs.Tryz.prog) noLoops (getBytesC.orc sp) 40 4 x) := by kernel_rfl
set_option maxRecDepth 100000 in
theorem rdRowC_ok : rdRowC.OK Go.Proofs.Tryz.prog := by
  refine Con.by hmix (noLoops_ok _) (Con.orc_ok getBytesC_ok) rdRowC_c_V rdRowC_c_e (fun x hx => ?_)
  obtain ⟨h1, h2⟩ := hx
  unfold rdRowC_c_V rdRowC_c_p0
  refine ⟨⟨h1, h2⟩, rfl, ⟨rfl, trivial⟩, fun y hy => ?_, fun y hy => ?_, fun y hy => ?_, fun y hy => ?_, trivial⟩
  · have hy : rowN (x.bs.drop x.o) x.most = .ok y.u y.n := hy
    have hb := rowN_ok (by simp; omega) hy
    rw [List.length_drop] at hb
    refine spT (by simp; omega) (.inl ⟨⟨y.u, y.n⟩, hy, rfl, ?_, rfl, rfl, trivial⟩)
    have e : x.bs.length - x.o - (y.u + y.n) = x.bs.length - (x.o + (y.u + y.n)) := by omega
    have e2 : ((y.u : Int) + (y.n : Int)).toNat = y.u + y.n := by omega
    simp [e, e2]
  · exact .inr (.inl ⟨⟨0, 0⟩, hy, rfl, trivial⟩)
  · exact .inr (.inr (.inl ⟨⟨0, 0⟩, hy, rfl, trivial⟩))
  · exact .inr (.inr (.inr ⟨⟨0, 0⟩, hy, rfl, trivial⟩))
end Go.Proofs.YtmbcpmbpkdeioaaGreatDoor.W
