/- LimitMore: more tasks, steps and nodes never take fewer rounds, and a job that fits, fits greater limits. The law's walk, for any five integers and any limits, and the statement. -/
import Derived.Test.YtahcjjelamknnaaLim
import Derived.ProofKit
import Derived.OpenShut
import Derived.ChangeOld
import Derived.Below
import Derived.OwnWalk
import Derived.Lib.SmallJoins
namespace Go.Proofs.Ytahcjjelamknnaa.limitMore
open Go.ChangeShapes Go.WideShapes Go.ChangeAt Go.RowKit
open Lim
set_option linter.unusedVariables false

theorem own : ownKnob Try.prog.godebug = none := by kernel_rfl
theorem laidOut : laidOutB Try.prog = true := by kernel_rfl

theorem more1 (a b c d : Int) (h : 0 ≤ d) : rounds a b c ≤ rounds (a + d) b c := by
  have := cut_mono a (a + d) (by omega)
  unfold rounds; omega
theorem more2 (a b c d : Int) (h : 0 ≤ d) : rounds a b c ≤ rounds a (b + d) c := by
  have := cut_mono b (b + d) (by omega)
  unfold rounds; omega
theorem more3 (a b c d : Int) (h : 0 ≤ d) : rounds a b c ≤ rounds a b (c + d) := by
  have := cut_mono c (c + d) (by omega)
  unfold rounds; omega
theorem more0 (a b c : Int) : 2000 ≤ rounds a b c := by
  have h1 := cut_bd a
  have h2 := cut_bd b
  have h3 := cut_bd c
  unfold rounds; omega
theorem fits_up {t s u n t' s' : Int} (h : fitsB t s u n = true) (h1 : t ≤ t') (h2 : t' ≤ 1000) (h3 : s ≤ s') (h4 : s' ≤ 1073741824) : fitsB t' s' u n = true := by
  unfold fitsB mayB at h ⊢
  rw [Bool.and_eq_true, decide_eq_true_iff, decide_eq_true_iff] at h ⊢
  omega
theorem fits_may {t s u n : Int} (h : fitsB t s u n = true) : mayB t s u = true := by
  unfold fitsB at h
  rw [Bool.and_eq_true] at h
  exact h.1
theorem may_bd {t s u : Int} (h : mayB t s u = true) : 1 ≤ t ∧ t ≤ 1000 ∧ 1000 ≤ s ∧ s ≤ 1073741824 := by
  unfold mayB at h
  rw [decide_eq_true_iff] at h
  omega
theorem made_facts {w w1 : World} {t s u : Int} (hgrow : (w.alloc (box t s u)).grownBy w1 none) :
    w1.cell? ⟨w.heap.size, 0, none⟩ = some (.int .i64 t) ∧ w1.cell? ⟨w.heap.size, 1, none⟩ = some (.int .i64 s) ∧ w1.cell? ⟨w.heap.size, 2, none⟩ = some (.int .i64 u) ∧ w.heap.size + 1 ≤ w1.heap.size ∧ Below w.heap.size w w1 := by
  have hbel := below_made hgrow
  refine ⟨(hbel.cell (p := ⟨w.heap.size, 0, none⟩) (by simp)).trans (by simp), (hbel.cell (p := ⟨w.heap.size, 1, none⟩) (by simp)).trans (by simp), (hbel.cell (p := ⟨w.heap.size, 2, none⟩) (by simp)).trans (by simp), ?_, ((Below.refl w.heap.size w).alloc (Nat.le_refl _) _).trans (hbel.mono (by simp))⟩
  have := hbel.size
  simp at this
  omega
set_option maxRecDepth 100000 in
set_option maxHeartbeats 1000000 in
theorem walk_no (a b c d t s u : Int) (n : Nat) (a0 : 0 ≤ a) (a1 : a ≤ 100000) (b0 : 0 ≤ b) (b1 : b ≤ 100000) (c0 : 0 ≤ c) (c1 : c ≤ 100000) (d0 : 0 ≤ d) (d1 : d ≤ 1000) (n1 : (n : Int) ≤ 600)
    (F : Hid (fitsB t s u n = false)) (w : World) :
    Calls Try.prog 4 #[.int .i64 a, .int .i64 b, .int .i64 c, .int .i64 d, .agg #[.int .i64 t, .int .i64 s, .int .i64 u], .int .i64 n] w fun e w' => e = .returned (.bool true) ∧ Below w.heap.size w w' := by
  obtain ⟨i, z, hi, hz, hs, hb⟩ := entry_parts
  have Hi := Lib.hid hi
  have Hz := Lib.hid hz
  have Hs := Lib.hid hs
  have Hb := Lib.hid hb
  clear hi hz hs hb
  have m0 := more0 a b c
  have m1 := more1 a b c d d0
  have m2 := more2 a b c d d0
  have m3 := more3 a b c d d0
  go_enter Try.func4, Try.ntmps4
  go_wp2_with fail
  refine (alive_any _).mono ?_
  rintro e w' ⟨rfl, rfl⟩
  go_wp2_with fail
  refine (rounds_any _ _ _ _).mono ?_
  rintro e w' ⟨rfl, rfl⟩
  go_wp2_with fail
  refine (rounds_any _ _ _ _).mono ?_
  rintro e w' ⟨rfl, rfl⟩
  go_wp2_with fail
  refine (rounds_any _ _ _ _).mono ?_
  rintro e w' ⟨rfl, rfl⟩
  go_wp2_with fail
  refine (rounds_any _ _ _ _).mono ?_
  rintro e w' ⟨rfl, rfl⟩
  go_wp2_with (at_make; refine wpList_make_full _ rfl _ _ 25 rfl _ 71 i z 8 Try.underlying25 Hi.out Hz.out Hs.out _ _ _ _ n rfl rfl rfl rfl (by rw [Hb.out]; omega) (by unfold maxLen; omega) (Nat.le_refl _) ?_; intro w1 hown hgrow; obtain ⟨h0, h1, h2, hsz, hB⟩ := made_facts hgrow; clear hown hgrow m0 m1 m2 m3)
  refine (fits_any _ _ _ _ n n (by omega) _).mono ?_
  rintro e w' ⟨rfl, rfl⟩
  rw [F.out]
  have g0 : ((w1.alloc (box t s u)).alloc (box t s u)).cell? ⟨w.heap.size, 0, none⟩ = some (.int .i64 t) := by rw [World.cell?_alloc_lt, World.cell?_alloc_lt] <;> first | assumption | (simp; omega)
  have g1 : ((w1.alloc (box t s u)).alloc (box t s u)).cell? ⟨w.heap.size, 1, none⟩ = some (.int .i64 s) := by rw [World.cell?_alloc_lt, World.cell?_alloc_lt] <;> first | assumption | (simp; omega)
  have g2 : ((w1.alloc (box t s u)).alloc (box t s u)).cell? ⟨w.heap.size, 2, none⟩ = some (.int .i64 u) := by rw [World.cell?_alloc_lt, World.cell?_alloc_lt] <;> first | assumption | (simp; omega)
  have hb2 : Below w.heap.size w ((w1.alloc (box t s u)).alloc (box t s u)) := (hB.alloc (by omega) _).alloc (by simp; omega) _
  have hs2 : w.heap.size + 1 ≤ ((w1.alloc (box t s u)).alloc (box t s u)).heap.size := by simp; omega
  generalize (w1.alloc (box t s u)).alloc (box t s u) = w2 at *
  clear h0 h1 h2 hsz hB
  have g0' : ∀ o, (w2.alloc o).cell? ⟨w.heap.size, 0, none⟩ = some (.int .i64 t) := fun o => (World.cell?_alloc_lt w2 o _ (by simp; omega)).trans g0
  have g1' : ∀ o, (w2.alloc o).cell? ⟨w.heap.size, 1, none⟩ = some (.int .i64 s) := fun o => (World.cell?_alloc_lt w2 o _ (by simp; omega)).trans g1
  have g2' : ∀ o, (w2.alloc o).cell? ⟨w.heap.size, 2, none⟩ = some (.int .i64 u) := fun o => (World.cell?_alloc_lt w2 o _ (by simp; omega)).trans g2
  go_wp2_with fail
  all_goals
    go_ret
    refine ⟨rfl, ?_⟩
    repeat (first | exact hb2 | refine Below.alloc ?_ (by first | omega | (simp; omega)) _)

set_option maxRecDepth 100000 in
set_option maxHeartbeats 1000000 in
theorem walk_yes1 (a b c d t s u : Int) (n : Nat) (a0 : 0 ≤ a) (a1 : a ≤ 100000) (b0 : 0 ≤ b) (b1 : b ≤ 100000) (c0 : 0 ≤ c) (c1 : c ≤ 100000) (d0 : 0 ≤ d) (d1 : d ≤ 1000) (n1 : (n : Int) ≤ 600)
    (F : Hid (fitsB t s u n = true)) (q1 : t < 1000) (q2 : s < 1073741824) (w : World) :
    Calls Try.prog 4 #[.int .i64 a, .int .i64 b, .int .i64 c, .int .i64 d, .agg #[.int .i64 t, .int .i64 s, .int .i64 u], .int .i64 n] w fun e w' => e = .returned (.bool true) ∧ Below w.heap.size w w' := by
  obtain ⟨i, z, hi, hz, hs, hb⟩ := entry_parts
  have Hi := Lib.hid hi
  have Hz := Lib.hid hz
  have Hs := Lib.hid hs
  have Hb := Lib.hid hb
  clear hi hz hs hb
  have m0 := more0 a b c
  have m1 := more1 a b c d d0
  have m2 := more2 a b c d d0
  have m3 := more3 a b c d d0
  have M := Lib.hid (fits_may F.out)
  obtain ⟨t0, t1, s0, s1⟩ := may_bd M.out
  have G := Lib.hid (fits_up (t' := t + 1) (s' := s + 1) F.out (by omega) (by omega) (by omega) (by omega))
  go_enter Try.func4, Try.ntmps4
  go_wp2_with fail
  refine (alive_any _).mono ?_
  rintro e w' ⟨rfl, rfl⟩
  go_wp2_with fail
  refine (rounds_any _ _ _ _).mono ?_
  rintro e w' ⟨rfl, rfl⟩
  go_wp2_with fail
  refine (rounds_any _ _ _ _).mono ?_
  rintro e w' ⟨rfl, rfl⟩
  go_wp2_with fail
  refine (rounds_any _ _ _ _).mono ?_
  rintro e w' ⟨rfl, rfl⟩
  go_wp2_with fail
  refine (rounds_any _ _ _ _).mono ?_
  rintro e w' ⟨rfl, rfl⟩
  go_wp2_with (at_make; refine wpList_make_full _ rfl _ _ 25 rfl _ 71 i z 8 Try.underlying25 Hi.out Hz.out Hs.out _ _ _ _ n rfl rfl rfl rfl (by rw [Hb.out]; omega) (by unfold maxLen; omega) (Nat.le_refl _) ?_; intro w1 hown hgrow; obtain ⟨h0, h1, h2, hsz, hB⟩ := made_facts hgrow; clear hown hgrow m0 m1 m2 m3)
  refine (fits_any _ _ _ _ n n (by omega) _).mono ?_
  rintro e w' ⟨rfl, rfl⟩
  rw [F.out]
  have g0 : ((w1.alloc (box t s u)).alloc (box t s u)).cell? ⟨w.heap.size, 0, none⟩ = some (.int .i64 t) := by rw [World.cell?_alloc_lt, World.cell?_alloc_lt] <;> first | assumption | (simp; omega)
  have g1 : ((w1.alloc (box t s u)).alloc (box t s u)).cell? ⟨w.heap.size, 1, none⟩ = some (.int .i64 s) := by rw [World.cell?_alloc_lt, World.cell?_alloc_lt] <;> first | assumption | (simp; omega)
  have g2 : ((w1.alloc (box t s u)).alloc (box t s u)).cell? ⟨w.heap.size, 2, none⟩ = some (.int .i64 u) := by rw [World.cell?_alloc_lt, World.cell?_alloc_lt] <;> first | assumption | (simp; omega)
  have hb2 : Below w.heap.size w ((w1.alloc (box t s u)).alloc (box t s u)) := (hB.alloc (by omega) _).alloc (by simp; omega) _
  have hs2 : w.heap.size + 1 ≤ ((w1.alloc (box t s u)).alloc (box t s u)).heap.size := by simp; omega
  generalize (w1.alloc (box t s u)).alloc (box t s u) = w2 at *
  clear h0 h1 h2 hsz hB
  have g0' : ∀ o, (w2.alloc o).cell? ⟨w.heap.size, 0, none⟩ = some (.int .i64 t) := fun o => (World.cell?_alloc_lt w2 o _ (by simp; omega)).trans g0
  have g1' : ∀ o, (w2.alloc o).cell? ⟨w.heap.size, 1, none⟩ = some (.int .i64 s) := fun o => (World.cell?_alloc_lt w2 o _ (by simp; omega)).trans g1
  have g2' : ∀ o, (w2.alloc o).cell? ⟨w.heap.size, 2, none⟩ = some (.int .i64 u) := fun o => (World.cell?_alloc_lt w2 o _ (by simp; omega)).trans g2
  go_wp2_with fail
  refine (may_any _ _ _ _).mono ?_
  rintro e w' ⟨rfl, rfl⟩
  rw [M.out]
  go_wp2_with fail
  refine (fits_any _ _ _ _ n n (by omega) _).mono ?_
  rintro e w' ⟨rfl, rfl⟩
  rw [G.out]
  go_wp2_with fail
  go_ret
  refine ⟨rfl, ?_⟩
  repeat (first | exact hb2 | refine Below.alloc ?_ (by first | omega | (simp; omega)) _)

set_option maxRecDepth 100000 in
set_option maxHeartbeats 1000000 in
theorem walk_yes2 (a b c d t s u : Int) (n : Nat) (a0 : 0 ≤ a) (a1 : a ≤ 100000) (b0 : 0 ≤ b) (b1 : b ≤ 100000) (c0 : 0 ≤ c) (c1 : c ≤ 100000) (d0 : 0 ≤ d) (d1 : d ≤ 1000) (n1 : (n : Int) ≤ 600)
    (F : Hid (fitsB t s u n = true)) (q1 : t < 1000) (q2 : 1073741824 ≤ s) (w : World) :
    Calls Try.prog 4 #[.int .i64 a, .int .i64 b, .int .i64 c, .int .i64 d, .agg #[.int .i64 t, .int .i64 s, .int .i64 u], .int .i64 n] w fun e w' => e = .returned (.bool true) ∧ Below w.heap.size w w' := by
  obtain ⟨i, z, hi, hz, hs, hb⟩ := entry_parts
  have Hi := Lib.hid hi
  have Hz := Lib.hid hz
  have Hs := Lib.hid hs
  have Hb := Lib.hid hb
  clear hi hz hs hb
  have m0 := more0 a b c
  have m1 := more1 a b c d d0
  have m2 := more2 a b c d d0
  have m3 := more3 a b c d d0
  have M := Lib.hid (fits_may F.out)
  obtain ⟨t0, t1, s0, s1⟩ := may_bd M.out
  have G := Lib.hid (fits_up (t' := t + 1) (s' := s) F.out (by omega) (by omega) (by omega) (by omega))
  go_enter Try.func4, Try.ntmps4
  go_wp2_with fail
  refine (alive_any _).mono ?_
  rintro e w' ⟨rfl, rfl⟩
  go_wp2_with fail
  refine (rounds_any _ _ _ _).mono ?_
  rintro e w' ⟨rfl, rfl⟩
  go_wp2_with fail
  refine (rounds_any _ _ _ _).mono ?_
  rintro e w' ⟨rfl, rfl⟩
  go_wp2_with fail
  refine (rounds_any _ _ _ _).mono ?_
  rintro e w' ⟨rfl, rfl⟩
  go_wp2_with fail
  refine (rounds_any _ _ _ _).mono ?_
  rintro e w' ⟨rfl, rfl⟩
  go_wp2_with (at_make; refine wpList_make_full _ rfl _ _ 25 rfl _ 71 i z 8 Try.underlying25 Hi.out Hz.out Hs.out _ _ _ _ n rfl rfl rfl rfl (by rw [Hb.out]; omega) (by unfold maxLen; omega) (Nat.le_refl _) ?_; intro w1 hown hgrow; obtain ⟨h0, h1, h2, hsz, hB⟩ := made_facts hgrow; clear hown hgrow m0 m1 m2 m3)
  refine (fits_any _ _ _ _ n n (by omega) _).mono ?_
  rintro e w' ⟨rfl, rfl⟩
  rw [F.out]
  have g0 : ((w1.alloc (box t s u)).alloc (box t s u)).cell? ⟨w.heap.size, 0, none⟩ = some (.int .i64 t) := by rw [World.cell?_alloc_lt, World.cell?_alloc_lt] <;> first | assumption | (simp; omega)
  have g1 : ((w1.alloc (box t s u)).alloc (box t s u)).cell? ⟨w.heap.size, 1, none⟩ = some (.int .i64 s) := by rw [World.cell?_alloc_lt, World.cell?_alloc_lt] <;> first | assumption | (simp; omega)
  have g2 : ((w1.alloc (box t s u)).alloc (box t s u)).cell? ⟨w.heap.size, 2, none⟩ = some (.int .i64 u) := by rw [World.cell?_alloc_lt, World.cell?_alloc_lt] <;> first | assumption | (simp; omega)
  have hb2 : Below w.heap.size w ((w1.alloc (box t s u)).alloc (box t s u)) := (hB.alloc (by omega) _).alloc (by simp; omega) _
  have hs2 : w.heap.size + 1 ≤ ((w1.alloc (box t s u)).alloc (box t s u)).heap.size := by simp; omega
  generalize (w1.alloc (box t s u)).alloc (box t s u) = w2 at *
  clear h0 h1 h2 hsz hB
  have g0' : ∀ o, (w2.alloc o).cell? ⟨w.heap.size, 0, none⟩ = some (.int .i64 t) := fun o => (World.cell?_alloc_lt w2 o _ (by simp; omega)).trans g0
  have g1' : ∀ o, (w2.alloc o).cell? ⟨w.heap.size, 1, none⟩ = some (.int .i64 s) := fun o => (World.cell?_alloc_lt w2 o _ (by simp; omega)).trans g1
  have g2' : ∀ o, (w2.alloc o).cell? ⟨w.heap.size, 2, none⟩ = some (.int .i64 u) := fun o => (World.cell?_alloc_lt w2 o _ (by simp; omega)).trans g2
  go_wp2_with fail
  refine (may_any _ _ _ _).mono ?_
  rintro e w' ⟨rfl, rfl⟩
  rw [M.out]
  go_wp2_with fail
  refine (fits_any _ _ _ _ n n (by omega) _).mono ?_
  rintro e w' ⟨rfl, rfl⟩
  rw [G.out]
  go_wp2_with fail
  go_ret
  refine ⟨rfl, ?_⟩
  repeat (first | exact hb2 | refine Below.alloc ?_ (by first | omega | (simp; omega)) _)

set_option maxRecDepth 100000 in
set_option maxHeartbeats 1000000 in
theorem walk_yes3 (a b c d t s u : Int) (n : Nat) (a0 : 0 ≤ a) (a1 : a ≤ 100000) (b0 : 0 ≤ b) (b1 : b ≤ 100000) (c0 : 0 ≤ c) (c1 : c ≤ 100000) (d0 : 0 ≤ d) (d1 : d ≤ 1000) (n1 : (n : Int) ≤ 600)
    (F : Hid (fitsB t s u n = true)) (q1 : 1000 ≤ t) (q2 : s < 1073741824) (w : World) :
    Calls Try.prog 4 #[.int .i64 a, .int .i64 b, .int .i64 c, .int .i64 d, .agg #[.int .i64 t, .int .i64 s, .int .i64 u], .int .i64 n] w fun e w' => e = .returned (.bool true) ∧ Below w.heap.size w w' := by
  obtain ⟨i, z, hi, hz, hs, hb⟩ := entry_parts
  have Hi := Lib.hid hi
  have Hz := Lib.hid hz
  have Hs := Lib.hid hs
  have Hb := Lib.hid hb
  clear hi hz hs hb
  have m0 := more0 a b c
  have m1 := more1 a b c d d0
  have m2 := more2 a b c d d0
  have m3 := more3 a b c d d0
  have M := Lib.hid (fits_may F.out)
  obtain ⟨t0, t1, s0, s1⟩ := may_bd M.out
  have G := Lib.hid (fits_up (t' := t) (s' := s + 1) F.out (by omega) (by omega) (by omega) (by omega))
  go_enter Try.func4, Try.ntmps4
  go_wp2_with fail
  refine (alive_any _).mono ?_
  rintro e w' ⟨rfl, rfl⟩
  go_wp2_with fail
  refine (rounds_any _ _ _ _).mono ?_
  rintro e w' ⟨rfl, rfl⟩
  go_wp2_with fail
  refine (rounds_any _ _ _ _).mono ?_
  rintro e w' ⟨rfl, rfl⟩
  go_wp2_with fail
  refine (rounds_any _ _ _ _).mono ?_
  rintro e w' ⟨rfl, rfl⟩
  go_wp2_with fail
  refine (rounds_any _ _ _ _).mono ?_
  rintro e w' ⟨rfl, rfl⟩
  go_wp2_with (at_make; refine wpList_make_full _ rfl _ _ 25 rfl _ 71 i z 8 Try.underlying25 Hi.out Hz.out Hs.out _ _ _ _ n rfl rfl rfl rfl (by rw [Hb.out]; omega) (by unfold maxLen; omega) (Nat.le_refl _) ?_; intro w1 hown hgrow; obtain ⟨h0, h1, h2, hsz, hB⟩ := made_facts hgrow; clear hown hgrow m0 m1 m2 m3)
  refine (fits_any _ _ _ _ n n (by omega) _).mono ?_
  rintro e w' ⟨rfl, rfl⟩
  rw [F.out]
  have g0 : ((w1.alloc (box t s u)).alloc (box t s u)).cell? ⟨w.heap.size, 0, none⟩ = some (.int .i64 t) := by rw [World.cell?_alloc_lt, World.cell?_alloc_lt] <;> first | assumption | (simp; omega)
  have g1 : ((w1.alloc (box t s u)).alloc (box t s u)).cell? ⟨w.heap.size, 1, none⟩ = some (.int .i64 s) := by rw [World.cell?_alloc_lt, World.cell?_alloc_lt] <;> first | assumption | (simp; omega)
  have g2 : ((w1.alloc (box t s u)).alloc (box t s u)).cell? ⟨w.heap.size, 2, none⟩ = some (.int .i64 u) := by rw [World.cell?_alloc_lt, World.cell?_alloc_lt] <;> first | assumption | (simp; omega)
  have hb2 : Below w.heap.size w ((w1.alloc (box t s u)).alloc (box t s u)) := (hB.alloc (by omega) _).alloc (by simp; omega) _
  have hs2 : w.heap.size + 1 ≤ ((w1.alloc (box t s u)).alloc (box t s u)).heap.size := by simp; omega
  generalize (w1.alloc (box t s u)).alloc (box t s u) = w2 at *
  clear h0 h1 h2 hsz hB
  have g0' : ∀ o, (w2.alloc o).cell? ⟨w.heap.size, 0, none⟩ = some (.int .i64 t) := fun o => (World.cell?_alloc_lt w2 o _ (by simp; omega)).trans g0
  have g1' : ∀ o, (w2.alloc o).cell? ⟨w.heap.size, 1, none⟩ = some (.int .i64 s) := fun o => (World.cell?_alloc_lt w2 o _ (by simp; omega)).trans g1
  have g2' : ∀ o, (w2.alloc o).cell? ⟨w.heap.size, 2, none⟩ = some (.int .i64 u) := fun o => (World.cell?_alloc_lt w2 o _ (by simp; omega)).trans g2
  go_wp2_with fail
  refine (may_any _ _ _ _).mono ?_
  rintro e w' ⟨rfl, rfl⟩
  rw [M.out]
  go_wp2_with fail
  refine (fits_any _ _ _ _ n n (by omega) _).mono ?_
  rintro e w' ⟨rfl, rfl⟩
  rw [G.out]
  go_wp2_with fail
  go_ret
  refine ⟨rfl, ?_⟩
  repeat (first | exact hb2 | refine Below.alloc ?_ (by first | omega | (simp; omega)) _)

set_option maxRecDepth 100000 in
set_option maxHeartbeats 1000000 in
theorem walk_yes4 (a b c d t s u : Int) (n : Nat) (a0 : 0 ≤ a) (a1 : a ≤ 100000) (b0 : 0 ≤ b) (b1 : b ≤ 100000) (c0 : 0 ≤ c) (c1 : c ≤ 100000) (d0 : 0 ≤ d) (d1 : d ≤ 1000) (n1 : (n : Int) ≤ 600)
    (F : Hid (fitsB t s u n = true)) (q1 : 1000 ≤ t) (q2 : 1073741824 ≤ s) (w : World) :
    Calls Try.prog 4 #[.int .i64 a, .int .i64 b, .int .i64 c, .int .i64 d, .agg #[.int .i64 t, .int .i64 s, .int .i64 u], .int .i64 n] w fun e w' => e = .returned (.bool true) ∧ Below w.heap.size w w' := by
  obtain ⟨i, z, hi, hz, hs, hb⟩ := entry_parts
  have Hi := Lib.hid hi
  have Hz := Lib.hid hz
  have Hs := Lib.hid hs
  have Hb := Lib.hid hb
  clear hi hz hs hb
  have m0 := more0 a b c
  have m1 := more1 a b c d d0
  have m2 := more2 a b c d d0
  have m3 := more3 a b c d d0
  have M := Lib.hid (fits_may F.out)
  obtain ⟨t0, t1, s0, s1⟩ := may_bd M.out
  have G := Lib.hid (fits_up (t' := t) (s' := s) F.out (by omega) (by omega) (by omega) (by omega))
  go_enter Try.func4, Try.ntmps4
  go_wp2_with fail
  refine (alive_any _).mono ?_
  rintro e w' ⟨rfl, rfl⟩
  go_wp2_with fail
  refine (rounds_any _ _ _ _).mono ?_
  rintro e w' ⟨rfl, rfl⟩
  go_wp2_with fail
  refine (rounds_any _ _ _ _).mono ?_
  rintro e w' ⟨rfl, rfl⟩
  go_wp2_with fail
  refine (rounds_any _ _ _ _).mono ?_
  rintro e w' ⟨rfl, rfl⟩
  go_wp2_with fail
  refine (rounds_any _ _ _ _).mono ?_
  rintro e w' ⟨rfl, rfl⟩
  go_wp2_with (at_make; refine wpList_make_full _ rfl _ _ 25 rfl _ 71 i z 8 Try.underlying25 Hi.out Hz.out Hs.out _ _ _ _ n rfl rfl rfl rfl (by rw [Hb.out]; omega) (by unfold maxLen; omega) (Nat.le_refl _) ?_; intro w1 hown hgrow; obtain ⟨h0, h1, h2, hsz, hB⟩ := made_facts hgrow; clear hown hgrow m0 m1 m2 m3)
  refine (fits_any _ _ _ _ n n (by omega) _).mono ?_
  rintro e w' ⟨rfl, rfl⟩
  rw [F.out]
  have g0 : ((w1.alloc (box t s u)).alloc (box t s u)).cell? ⟨w.heap.size, 0, none⟩ = some (.int .i64 t) := by rw [World.cell?_alloc_lt, World.cell?_alloc_lt] <;> first | assumption | (simp; omega)
  have g1 : ((w1.alloc (box t s u)).alloc (box t s u)).cell? ⟨w.heap.size, 1, none⟩ = some (.int .i64 s) := by rw [World.cell?_alloc_lt, World.cell?_alloc_lt] <;> first | assumption | (simp; omega)
  have g2 : ((w1.alloc (box t s u)).alloc (box t s u)).cell? ⟨w.heap.size, 2, none⟩ = some (.int .i64 u) := by rw [World.cell?_alloc_lt, World.cell?_alloc_lt] <;> first | assumption | (simp; omega)
  have hb2 : Below w.heap.size w ((w1.alloc (box t s u)).alloc (box t s u)) := (hB.alloc (by omega) _).alloc (by simp; omega) _
  have hs2 : w.heap.size + 1 ≤ ((w1.alloc (box t s u)).alloc (box t s u)).heap.size := by simp; omega
  generalize (w1.alloc (box t s u)).alloc (box t s u) = w2 at *
  clear h0 h1 h2 hsz hB
  have g0' : ∀ o, (w2.alloc o).cell? ⟨w.heap.size, 0, none⟩ = some (.int .i64 t) := fun o => (World.cell?_alloc_lt w2 o _ (by simp; omega)).trans g0
  have g1' : ∀ o, (w2.alloc o).cell? ⟨w.heap.size, 1, none⟩ = some (.int .i64 s) := fun o => (World.cell?_alloc_lt w2 o _ (by simp; omega)).trans g1
  have g2' : ∀ o, (w2.alloc o).cell? ⟨w.heap.size, 2, none⟩ = some (.int .i64 u) := fun o => (World.cell?_alloc_lt w2 o _ (by simp; omega)).trans g2
  go_wp2_with fail
  refine (may_any _ _ _ _).mono ?_
  rintro e w' ⟨rfl, rfl⟩
  rw [M.out]
  go_wp2_with fail
  refine (fits_any _ _ _ _ n n (by omega) _).mono ?_
  rintro e w' ⟨rfl, rfl⟩
  rw [G.out]
  go_wp2_with fail
  go_ret
  refine ⟨rfl, ?_⟩
  repeat (first | exact hb2 | refine Below.alloc ?_ (by first | omega | (simp; omega)) _)

theorem walk_in (a b c d t s u : Int) (n : Nat) (a0 : 0 ≤ a) (a1 : a ≤ 100000) (b0 : 0 ≤ b) (b1 : b ≤ 100000) (c0 : 0 ≤ c) (c1 : c ≤ 100000) (d0 : 0 ≤ d) (d1 : d ≤ 1000) (n1 : (n : Int) ≤ 600) (w : World) :
    Calls Try.prog 4 #[.int .i64 a, .int .i64 b, .int .i64 c, .int .i64 d, .agg #[.int .i64 t, .int .i64 s, .int .i64 u], .int .i64 n] w fun e w' => e = .returned (.bool true) ∧ Below w.heap.size w w' := by
  cases F : fitsB t s u n
  · exact walk_no a b c d t s u n a0 a1 b0 b1 c0 c1 d0 d1 n1 F w
  · by_cases q1 : t < 1000
    · by_cases q2 : s < 1073741824
      · exact walk_yes1 a b c d t s u n a0 a1 b0 b1 c0 c1 d0 d1 n1 F q1 q2 w
      · exact walk_yes2 a b c d t s u n a0 a1 b0 b1 c0 c1 d0 d1 n1 F q1 (by omega) w
    · by_cases q2 : s < 1073741824
      · exact walk_yes3 a b c d t s u n a0 a1 b0 b1 c0 c1 d0 d1 n1 F (by omega) q2 w
      · exact walk_yes4 a b c d t s u n a0 a1 b0 b1 c0 c1 d0 d1 n1 F (by omega) (by omega) w
set_option maxRecDepth 100000 in
set_option maxHeartbeats 1000000 in
theorem out0 (a b c d t s u n : Int) (w : World)  (q0 : a < 0) :
    Calls Try.prog 4 #[.int .i64 a, .int .i64 b, .int .i64 c, .int .i64 d, .agg #[.int .i64 t, .int .i64 s, .int .i64 u], .int .i64 n] w fun e w' => e = .returned (.bool true) ∧ Below w.heap.size w w' := by
  go_enter Try.func4, Try.ntmps4
  go_wp2_with fail
  refine (alive_any _).mono ?_
  rintro e w' ⟨rfl, rfl⟩
  go_wp2_with fail
  go_ret
  exact ⟨rfl, (Below.refl _ _).alloc (Nat.le_refl _) _⟩
set_option maxRecDepth 100000 in
set_option maxHeartbeats 1000000 in
theorem out1 (a b c d t s u n : Int) (w : World) (q0 : 0 ≤ a) (q1 : b < 0) :
    Calls Try.prog 4 #[.int .i64 a, .int .i64 b, .int .i64 c, .int .i64 d, .agg #[.int .i64 t, .int .i64 s, .int .i64 u], .int .i64 n] w fun e w' => e = .returned (.bool true) ∧ Below w.heap.size w w' := by
  go_enter Try.func4, Try.ntmps4
  go_wp2_with fail
  refine (alive_any _).mono ?_
  rintro e w' ⟨rfl, rfl⟩
  go_wp2_with fail
  go_ret
  exact ⟨rfl, (Below.refl _ _).alloc (Nat.le_refl _) _⟩
set_option maxRecDepth 100000 in
set_option maxHeartbeats 1000000 in
theorem out2 (a b c d t s u n : Int) (w : World) (q0 : 0 ≤ a) (q1 : 0 ≤ b) (q2 : c < 0) :
    Calls Try.prog 4 #[.int .i64 a, .int .i64 b, .int .i64 c, .int .i64 d, .agg #[.int .i64 t, .int .i64 s, .int .i64 u], .int .i64 n] w fun e w' => e = .returned (.bool true) ∧ Below w.heap.size w w' := by
  go_enter Try.func4, Try.ntmps4
  go_wp2_with fail
  refine (alive_any _).mono ?_
  rintro e w' ⟨rfl, rfl⟩
  go_wp2_with fail
  go_ret
  exact ⟨rfl, (Below.refl _ _).alloc (Nat.le_refl _) _⟩
set_option maxRecDepth 100000 in
set_option maxHeartbeats 1000000 in
theorem out3 (a b c d t s u n : Int) (w : World) (q0 : 0 ≤ a) (q1 : 0 ≤ b) (q2 : 0 ≤ c) (q3 : d < 0) :
    Calls Try.prog 4 #[.int .i64 a, .int .i64 b, .int .i64 c, .int .i64 d, .agg #[.int .i64 t, .int .i64 s, .int .i64 u], .int .i64 n] w fun e w' => e = .returned (.bool true) ∧ Below w.heap.size w w' := by
  go_enter Try.func4, Try.ntmps4
  go_wp2_with fail
  refine (alive_any _).mono ?_
  rintro e w' ⟨rfl, rfl⟩
  go_wp2_with fail
  go_ret
  exact ⟨rfl, (Below.refl _ _).alloc (Nat.le_refl _) _⟩
set_option maxRecDepth 100000 in
set_option maxHeartbeats 1000000 in
theorem out4 (a b c d t s u n : Int) (w : World) (q0 : 0 ≤ a) (q1 : 0 ≤ b) (q2 : 0 ≤ c) (q3 : 0 ≤ d) (q4 : 1000 < d) :
    Calls Try.prog 4 #[.int .i64 a, .int .i64 b, .int .i64 c, .int .i64 d, .agg #[.int .i64 t, .int .i64 s, .int .i64 u], .int .i64 n] w fun e w' => e = .returned (.bool true) ∧ Below w.heap.size w w' := by
  go_enter Try.func4, Try.ntmps4
  go_wp2_with fail
  refine (alive_any _).mono ?_
  rintro e w' ⟨rfl, rfl⟩
  go_wp2_with fail
  go_ret
  exact ⟨rfl, (Below.refl _ _).alloc (Nat.le_refl _) _⟩
set_option maxRecDepth 100000 in
set_option maxHeartbeats 1000000 in
theorem out5 (a b c d t s u n : Int) (w : World) (q0 : 0 ≤ a) (q1 : 0 ≤ b) (q2 : 0 ≤ c) (q3 : 0 ≤ d) (q4 : d ≤ 1000) (q5 : 100000 < a) :
    Calls Try.prog 4 #[.int .i64 a, .int .i64 b, .int .i64 c, .int .i64 d, .agg #[.int .i64 t, .int .i64 s, .int .i64 u], .int .i64 n] w fun e w' => e = .returned (.bool true) ∧ Below w.heap.size w w' := by
  go_enter Try.func4, Try.ntmps4
  go_wp2_with fail
  refine (alive_any _).mono ?_
  rintro e w' ⟨rfl, rfl⟩
  go_wp2_with fail
  go_ret
  exact ⟨rfl, (Below.refl _ _).alloc (Nat.le_refl _) _⟩
set_option maxRecDepth 100000 in
set_option maxHeartbeats 1000000 in
theorem out6 (a b c d t s u n : Int) (w : World) (q0 : 0 ≤ a) (q1 : 0 ≤ b) (q2 : 0 ≤ c) (q3 : 0 ≤ d) (q4 : d ≤ 1000) (q5 : a ≤ 100000) (q6 : 100000 < b) :
    Calls Try.prog 4 #[.int .i64 a, .int .i64 b, .int .i64 c, .int .i64 d, .agg #[.int .i64 t, .int .i64 s, .int .i64 u], .int .i64 n] w fun e w' => e = .returned (.bool true) ∧ Below w.heap.size w w' := by
  go_enter Try.func4, Try.ntmps4
  go_wp2_with fail
  refine (alive_any _).mono ?_
  rintro e w' ⟨rfl, rfl⟩
  go_wp2_with fail
  go_ret
  exact ⟨rfl, (Below.refl _ _).alloc (Nat.le_refl _) _⟩
set_option maxRecDepth 100000 in
set_option maxHeartbeats 1000000 in
theorem out7 (a b c d t s u n : Int) (w : World) (q0 : 0 ≤ a) (q1 : 0 ≤ b) (q2 : 0 ≤ c) (q3 : 0 ≤ d) (q4 : d ≤ 1000) (q5 : a ≤ 100000) (q6 : b ≤ 100000) (q7 : 100000 < c) :
    Calls Try.prog 4 #[.int .i64 a, .int .i64 b, .int .i64 c, .int .i64 d, .agg #[.int .i64 t, .int .i64 s, .int .i64 u], .int .i64 n] w fun e w' => e = .returned (.bool true) ∧ Below w.heap.size w w' := by
  go_enter Try.func4, Try.ntmps4
  go_wp2_with fail
  refine (alive_any _).mono ?_
  rintro e w' ⟨rfl, rfl⟩
  go_wp2_with fail
  go_ret
  exact ⟨rfl, (Below.refl _ _).alloc (Nat.le_refl _) _⟩
set_option maxRecDepth 100000 in
set_option maxHeartbeats 1000000 in
theorem out8 (a b c d t s u n : Int) (w : World) (q0 : 0 ≤ a) (q1 : 0 ≤ b) (q2 : 0 ≤ c) (q3 : 0 ≤ d) (q4 : d ≤ 1000) (q5 : a ≤ 100000) (q6 : b ≤ 100000) (q7 : c ≤ 100000) (q8 : n < 0) :
    Calls Try.prog 4 #[.int .i64 a, .int .i64 b, .int .i64 c, .int .i64 d, .agg #[.int .i64 t, .int .i64 s, .int .i64 u], .int .i64 n] w fun e w' => e = .returned (.bool true) ∧ Below w.heap.size w w' := by
  go_enter Try.func4, Try.ntmps4
  go_wp2_with fail
  refine (alive_any _).mono ?_
  rintro e w' ⟨rfl, rfl⟩
  go_wp2_with fail
  go_ret
  exact ⟨rfl, (Below.refl _ _).alloc (Nat.le_refl _) _⟩
set_option maxRecDepth 100000 in
set_option maxHeartbeats 1000000 in
theorem out9 (a b c d t s u n : Int) (w : World) (q0 : 0 ≤ a) (q1 : 0 ≤ b) (q2 : 0 ≤ c) (q3 : 0 ≤ d) (q4 : d ≤ 1000) (q5 : a ≤ 100000) (q6 : b ≤ 100000) (q7 : c ≤ 100000) (q8 : 0 ≤ n) (q9 : 600 < n) :
    Calls Try.prog 4 #[.int .i64 a, .int .i64 b, .int .i64 c, .int .i64 d, .agg #[.int .i64 t, .int .i64 s, .int .i64 u], .int .i64 n] w fun e w' => e = .returned (.bool true) ∧ Below w.heap.size w w' := by
  go_enter Try.func4, Try.ntmps4
  go_wp2_with fail
  refine (alive_any _).mono ?_
  rintro e w' ⟨rfl, rfl⟩
  go_wp2_with fail
  go_ret
  exact ⟨rfl, (Below.refl _ _).alloc (Nat.le_refl _) _⟩
theorem walk_out (a b c d t s u n : Int) (w : World) (h : ¬ (0 ≤ a ∧ 0 ≤ b ∧ 0 ≤ c ∧ 0 ≤ d ∧ d ≤ 1000 ∧ a ≤ 100000 ∧ b ≤ 100000 ∧ c ≤ 100000 ∧ 0 ≤ n ∧ n ≤ 600)) :
    Calls Try.prog 4 #[.int .i64 a, .int .i64 b, .int .i64 c, .int .i64 d, .agg #[.int .i64 t, .int .i64 s, .int .i64 u], .int .i64 n] w fun e w' => e = .returned (.bool true) ∧ Below w.heap.size w w' := by
  refine (Classical.em (0 ≤ a)).elim (fun q0 => ?_) (fun no => out0 a b c d t s u n w  (by omega))
  refine (Classical.em (0 ≤ b)).elim (fun q1 => ?_) (fun no => out1 a b c d t s u n w q0 (by omega))
  refine (Classical.em (0 ≤ c)).elim (fun q2 => ?_) (fun no => out2 a b c d t s u n w q0 q1 (by omega))
  refine (Classical.em (0 ≤ d)).elim (fun q3 => ?_) (fun no => out3 a b c d t s u n w q0 q1 q2 (by omega))
  refine (Classical.em (d ≤ 1000)).elim (fun q4 => ?_) (fun no => out4 a b c d t s u n w q0 q1 q2 q3 (by omega))
  refine (Classical.em (a ≤ 100000)).elim (fun q5 => ?_) (fun no => out5 a b c d t s u n w q0 q1 q2 q3 q4 (by omega))
  refine (Classical.em (b ≤ 100000)).elim (fun q6 => ?_) (fun no => out6 a b c d t s u n w q0 q1 q2 q3 q4 q5 (by omega))
  refine (Classical.em (c ≤ 100000)).elim (fun q7 => ?_) (fun no => out7 a b c d t s u n w q0 q1 q2 q3 q4 q5 q6 (by omega))
  refine (Classical.em (0 ≤ n)).elim (fun q8 => ?_) (fun no => out8 a b c d t s u n w q0 q1 q2 q3 q4 q5 q6 q7 (by omega))
  exact out9 a b c d t s u n w q0 q1 q2 q3 q4 q5 q6 q7 q8 (by omega)
theorem walk (a b c d t s u n : Int) (w : World) (w0 : (Lit.int .i64 a).wf = true) (w1 : (Lit.int .i64 b).wf = true) (w2 : (Lit.int .i64 c).wf = true) (w3 : (Lit.int .i64 d).wf = true)
    (w40 : (Lit.int .i64 t).wf = true) (w41 : (Lit.int .i64 s).wf = true) (w42 : (Lit.int .i64 u).wf = true) (w5 : (Lit.int .i64 n).wf = true) :
    Calls Try.prog 4 #[.int .i64 a, .int .i64 b, .int .i64 c, .int .i64 d, .agg #[.int .i64 t, .int .i64 s, .int .i64 u], .int .i64 n] w fun e w' => e = .returned (.bool true) ∧ Below w.heap.size w w' := by
  by_cases h : 0 ≤ a ∧ 0 ≤ b ∧ 0 ≤ c ∧ 0 ≤ d ∧ d ≤ 1000 ∧ a ≤ 100000 ∧ b ≤ 100000 ∧ c ≤ 100000 ∧ 0 ≤ n ∧ n ≤ 600
  · obtain ⟨a0, b0, c0, d0, d1, a1, b1, c1, n0, n1⟩ := h
    obtain ⟨m, hm⟩ := Int.eq_ofNat_of_zero_le n0
    subst hm
    exact walk_in a b c d t s u m a0 a1 b0 b1 c0 c1 d0 d1 n1 w
  · exact walk_out a b c d t s u n w h

set_option maxRecDepth 100000 in
theorem lifted (os : Os) (started : os.Started) (H : Type) (enc : TypeId × Value → H) :
    ReturnsInHanded {} Try.checked os 4 .any (Rows.limitMoreSpec.pre6 enc Try.prog Try.f4 Rows.limitMoreRow.domain false) (Rows.limitMoreSpec.post enc Try.prog Try.f4 false true false false) := by
  refine returnsInHanded_of_change (C := Try.checked) own started (by kernel_rfl) Try.func4
    (ChangeSpec.witness6 (enc := enc) (C := Try.checked) false ⟨#[], #[.int .i64 0, .int .i64 0, .int .i64 0, .int .i64 0, .agg #[.int .i64 0, .int .i64 0, .int .i64 0], .int .i64 0], []⟩ 8 (by kernel_rfl) (by kernel_rfl) (by kernel_rfl) (by kernel_rfl)) ?_
  intro W base args ds gs before hval0 hW hcnd _
  have hval : ∀ (j : Nat) t v, Try.f4.params[j]? = some t → args[j]? = some v → Value.okWide Try.prog W .any base t v := hval0
  have hW' := hW
  obtain ⟨p, q, hA0, hV, rfl, hfz, hnd⟩ := hW
  have hA : DataW.TrodAll enc Try.prog W 0 (fun _ => true) true Try.f4.params.toList args.toList ds p := hA0
  rw [Try.params4] at hA hval
  obtain ⟨v0, vs0, d0, ds0, p0, q0, hargs, rfl, rfl, h0, r0⟩ := trodAll_cons hA
  obtain ⟨v1, vs1, d1, ds1, p1, q1, rfl, rfl, rfl, h1, r1⟩ := trodAll_cons r0
  obtain ⟨v2, vs2, d2, ds2, p2, q2, rfl, rfl, rfl, h2, r2⟩ := trodAll_cons r1
  obtain ⟨v3, vs3, d3, ds3, p3, q3, rfl, rfl, rfl, h3, r3⟩ := trodAll_cons r2
  obtain ⟨v4, vs4, d4, ds4, p4, q4, rfl, rfl, rfl, h4, r4⟩ := trodAll_cons r3
  obtain ⟨v5, vs5, d5, ds5, p5, q5, rfl, rfl, rfl, h5, r5⟩ := trodAll_cons r4
  obtain ⟨rfl, rfl, rfl⟩ := trodAll_nil r5
  obtain rfl : args = #[v0, v1, v2, v3, v4, v5] := by cases args; simp_all
  obtain ⟨rfl, rfl⟩ := trodVars_none hV
  obtain ⟨a0, rfl, rfl, rfl, w0⟩ := open_int Try.underlying3 (hval 0 3 v0 rfl rfl) h0
  obtain ⟨a1, rfl, rfl, rfl, w1⟩ := open_int Try.underlying3 (hval 1 3 v1 rfl rfl) h1
  obtain ⟨a2, rfl, rfl, rfl, w2⟩ := open_int Try.underlying3 (hval 2 3 v2 rfl rfl) h2
  obtain ⟨a3, rfl, rfl, rfl, w3⟩ := open_int Try.underlying3 (hval 3 3 v3 rfl rfl) h3
  have k4 := h4
  have lt4 : ∀ x ∈ p4, x.block < W.heap.size := by obtain ⟨m, hm⟩ := k4; exact DataW.trod_lt m _ _ _ hm
  obtain ⟨c40, c41, c42, y40, y41, y42, m4, rfl, ed4, ep4, hy40, hy41, hy42⟩ := Joins.open_agg3 Try.underlying23 (by kernel_rfl) (by kernel_rfl) (hval 4 23 v4 rfl rfl) h4
  obtain ⟨t4, e40, x40, w40⟩ := DataW.trod_int Try.underlying3 hy40
  obtain ⟨s4, e41, x41, w41⟩ := DataW.trod_int Try.underlying3 hy41
  obtain ⟨u4, e42, x42, w42⟩ := DataW.trod_int Try.underlying3 hy42
  simp only [List.cons.injEq, and_true] at e40 e41 e42
  subst e40 e41 e42
  obtain ⟨a5, rfl, rfl, rfl, w5⟩ := open_int Try.underlying3 (hval 5 3 v5 rfl rfl) h5
  clear hA0 hval0
  refine (walk a0 a1 a2 a3 t4 s4 u4 a5 W w0 w1 w2 w3 w40 w41 w42 w5).mono fun e W' ⟨he, bel⟩ => ?_
  subst he
  exact ⟨_, rfl, _, _, _, [], _, [], hW', trodAll_mk1 (shut_bool Try.underlying4 _), (trodAll_cons_mk (shut_int Try.underlying3 w0) (trodAll_cons_mk (shut_int Try.underlying3 w1) (trodAll_cons_mk (shut_int Try.underlying3 w2) (trodAll_cons_mk (shut_int Try.underlying3 w3) (trodAll_cons_mk (Below.trod laidOut (by kernel_rfl) (of_decide_eq_true (by kernel_rfl)) k4 bel lt4) (trodAll_cons_mk (shut_int Try.underlying3 w5) trodAll_mk0)))))), rfl, bel.frame _, fun h => by cases h⟩

theorem over : Rows.limitMoreRow.holds Try.pinned (OpenSpec.ofChange Rows.limitMoreSpec) :=
  OpenClaim.holds_of_wide 4 Try.f4 rfl rfl rfl rfl rfl rfl rfl ⟨rfl, rfl, rfl, rfl, rfl⟩ rfl rfl rfl rfl rfl (by kernel_rfl) Try.func4 (by kernel_rfl)
    (of_decide_eq_true (by kernel_rfl)) (by unfold Func.isWrapper; first | (rw [if_pos (by decide +kernel)]; kernel_rfl) | (rw [if_neg (by decide +kernel)]; exact ⟨rfl, rfl⟩))
    (fun os started H enc _ => lifted os started H enc)

/-- the statement -/
theorem proved : Rows.LimitMoreSaid := over
#print axioms proved
end Go.Proofs.Ytahcjjelamknnaa.limitMore
