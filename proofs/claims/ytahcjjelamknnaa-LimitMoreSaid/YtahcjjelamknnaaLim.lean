/- What the functions of package limit and of its reference answer, as contracts over the translation: the cut of a number, the rounds, which limits may be, what fits. -/
import Derived.Test.YtahcjjelamknnaaRows
import Derived.WalkKit
import Derived.WalkLawsBesides
import Derived.WalkSpells
import Derived.Outline
import Derived.RegionTactic
import Derived.Deep.QuietTactic
import Derived.BigQuiet
import Derived.Lib.Hide
import Derived.OwnWalk
import Derived.Below
namespace Go.Proofs.Ytahcjjelamknnaa
open Go.RowKit

namespace Lim
/-- the cut of a number to 0 .. a million -/
def cut (n : Int) : Int := if n < 0 then 0 else if 1000000 < n then 1000000 else n
theorem cut_bd (n : Int) : 0 ≤ cut n ∧ cut n ≤ 1000000 := by unfold cut; split <;> (try split) <;> omega
theorem cut_lo (n : Int) (h : n ≤ 0) : cut n = 0 := by unfold cut; split <;> (try split) <;> omega
theorem cut_hi (n : Int) (h : 1000000 ≤ n) : cut n = 1000000 := by unfold cut; split <;> (try split) <;> omega
theorem cut_mid (n : Int) (h : 0 ≤ n) (h2 : n ≤ 1000000) : cut n = n := by unfold cut; split <;> (try split) <;> omega
theorem cut_mono (a b : Int) (h : a ≤ b) : cut a ≤ cut b := by unfold cut; repeat' split
                                                               all_goals omega
theorem ret_int {k : IntKind} {a b : Int} (h : a = b) : Ending.returned (.int k a) = .returned (.int k b) := by rw [h]

theorem cut_any (n : Int) (w : World) : Calls Try.prog 25 #[.int .i64 n] w fun e w' => e = .returned (.int .i64 (cut n)) ∧ w = w' := by
  by_cases h1 : n ≤ 0
  · go_enter Try.func25, Try.ntmps25
    go_wp2
    all_goals (go_ret; exact ⟨ret_int (cut_lo n (by omega)).symm, rfl⟩)
  · by_cases h2 : 1000000 < n
    · go_enter Try.func25, Try.ntmps25
      go_wp2
      all_goals (go_ret; exact ⟨ret_int (cut_hi n (by omega)).symm, rfl⟩)
    · go_enter Try.func25, Try.ntmps25
      go_wp2
      all_goals (go_ret; exact ⟨ret_int (cut_mid n (by omega) (by omega)).symm, rfl⟩)

theorem rcut_any (n : Int) (w : World) : Calls Try.prog 26 #[.int .i64 n] w fun e w' => e = .returned (.int .i64 (cut n)) ∧ w = w' := by
  by_cases h1 : n < 0
  · go_enter Try.func26, Try.ntmps26
    go_wp2
    go_ret
    exact ⟨ret_int (cut_lo n (by omega)).symm, rfl⟩
  · by_cases h2 : 1000000 < n
    · go_enter Try.func26, Try.ntmps26
      go_wp2
      go_ret
      exact ⟨ret_int (cut_hi n (by omega)).symm, rfl⟩
    · go_enter Try.func26, Try.ntmps26
      go_wp2
      go_ret
      exact ⟨ret_int (cut_mid n (by omega) (by omega)).symm, rfl⟩

/-- how many rounds a job may take -/
def rounds (t s n : Int) : Int := 2000 + 200 * cut t + 4 * cut s + 100 * cut n
theorem rounds_any (t s n : Int) (w : World) : Calls Try.prog 15 #[.int .i64 t, .int .i64 s, .int .i64 n] w fun e w' => e = .returned (.int .i64 (rounds t s n)) ∧ w = w' := by
  have b1 := cut_bd t
  have b2 := cut_bd s
  have b3 := cut_bd n
  go_enter Try.func15, Try.ntmps15
  go_wp2_with fail
  refine (cut_any t _).mono ?_
  rintro e w' ⟨rfl, rfl⟩
  go_wp2_with fail
  refine (cut_any s _).mono ?_
  rintro e w' ⟨rfl, rfl⟩
  go_wp2_with fail
  refine (cut_any n _).mono ?_
  rintro e w' ⟨rfl, rfl⟩
  go_wp2_with fail
  go_ret
  exact ⟨ret_int rfl, rfl⟩
theorem rrounds_any (t s n : Int) (w : World) : Calls Try.prog 16 #[.int .i64 t, .int .i64 s, .int .i64 n] w fun e w' => e = .returned (.int .i64 (rounds t s n)) ∧ w = w' := by
  have b1 := cut_bd t
  have b2 := cut_bd s
  have b3 := cut_bd n
  go_enter Try.func16, Try.ntmps16
  go_wp2_with fail
  refine (rcut_any t _).mono ?_
  rintro e w' ⟨rfl, rfl⟩
  go_wp2_with fail
  refine (rcut_any s _).mono ?_
  rintro e w' ⟨rfl, rfl⟩
  go_wp2_with fail
  refine (rcut_any n _).mono ?_
  rintro e w' ⟨rfl, rfl⟩
  go_wp2_with fail
  go_ret
  exact ⟨ret_int rfl, rfl⟩

theorem rounds_001 : rounds 0 0 1 = 2100 := by decide
theorem alive_any (w : World) : Calls Try.prog 12 #[] w fun e w' => e = .returned (.bool true) ∧ w = w' := by
  have h := Lib.hid rounds_001
  go_enter Try.func12, Try.ntmps12
  go_wp2_with fail
  refine (rounds_any 0 0 1 _).mono ?_
  rintro e w' ⟨rfl, rfl⟩
  rw [h.out]
  go_wp2_with fail
  go_ret
  exact ⟨rfl, rfl⟩

/-- may limits be? -/
def mayB (t s p : Int) : Bool := decide (1 ≤ t ∧ t ≤ 1000 ∧ 1000 ≤ s ∧ s ≤ 1073741824 ∧ 1 ≤ p ∧ p ≤ 1000)
theorem ret_bool {a b : Bool} (h : a = b) : Ending.returned (.bool a) = .returned (.bool b) := by rw [h]
theorem dec_yes {P : Prop} [Decidable P] (h : P) : true = decide P := (decide_eq_true h).symm
theorem dec_no {P : Prop} [Decidable P] (h : ¬ P) : false = decide P := (decide_eq_false h).symm
theorem dec_dec {P Q : Prop} [Decidable P] [Decidable Q] (h : P ↔ Q) : decide P = decide Q := by rw [Bool.eq_iff_iff, decide_eq_true_iff, decide_eq_true_iff]; exact h
abbrev box (t s p : Int) : Obj := .cells #[.int .i64 t, .int .i64 s, .int .i64 p] 23
theorem may_any (t s p : Int) (w : World) : Calls Try.prog 13 #[.agg #[.int .i64 t, .int .i64 s, .int .i64 p]] w fun e w' => e = .returned (.bool (mayB t s p)) ∧ w.alloc (box t s p) = w' := by
  go_enter Try.func13, Try.ntmps13
  go_wp2
  all_goals (go_ret; exact ⟨ret_bool (by unfold mayB; first | (apply dec_yes; omega) | (apply dec_no; omega) | (apply dec_dec; omega)), rfl⟩)
theorem rmay_any (t s p : Int) (w : World) : Calls Try.prog 14 #[.agg #[.int .i64 t, .int .i64 s, .int .i64 p]] w fun e w' => e = .returned (.bool (mayB t s p)) ∧ w.alloc (box t s p) = w' := by
  go_enter Try.func14, Try.ntmps14
  go_wp2
  all_goals (go_ret; exact ⟨ret_bool (by unfold mayB; first | (apply dec_yes; omega) | (apply dec_no; omega) | (apply dec_dec; omega)), rfl⟩)
/-- do n tasks fit in? -/
def fitsB (t s p n : Int) : Bool := mayB t s p && decide (n ≤ t ∧ 1000 + 400 * n ≤ s)
theorem fits_any (t s p : Int) (a : Option Addr) (n c : Nat) (hn : n ≤ 2000) (w : World) : Calls Try.prog 17 #[.agg #[.int .i64 t, .int .i64 s, .int .i64 p], .slice a n c] w
    fun e w' => e = .returned (.bool (fitsB t s p n)) ∧ (w.alloc (box t s p)).alloc (box t s p) = w' := by
  cases hm : mayB t s p
  · have H := Lib.hid hm; clear hm
    go_enter Try.func17, Try.ntmps17
    go_wp2_with fail
    refine (may_any t s p _).mono ?_
    rintro e w' ⟨rfl, rfl⟩
    rw [H.out]
    go_wp2_with fail
    go_ret
    exact ⟨ret_bool (by rw [fitsB, H.out, Bool.false_and]), rfl⟩
  · have H := Lib.hid hm; clear hm
    go_enter Try.func17, Try.ntmps17
    go_wp2_with fail
    refine (may_any t s p _).mono ?_
    rintro e w' ⟨rfl, rfl⟩
    rw [H.out]
    go_wp2_with fail
    all_goals (go_ret; exact ⟨ret_bool (by rw [fitsB, H.out, Bool.true_and]; first | (apply dec_yes; omega) | (apply dec_no; omega) | (apply dec_dec; omega)), rfl⟩)
theorem rfits_any (t s p : Int) (a : Option Addr) (n c : Nat) (hn : n ≤ 2000) (w : World) : Calls Try.prog 18 #[.agg #[.int .i64 t, .int .i64 s, .int .i64 p], .slice a n c] w
    fun e w' => e = .returned (.bool (fitsB t s p n)) ∧ (w.alloc (box t s p)).alloc (box t s p) = w' := by
  cases hm : mayB t s p
  · have H := Lib.hid hm; clear hm
    go_enter Try.func18, Try.ntmps18
    go_wp2_with fail
    refine (rmay_any t s p _).mono ?_
    rintro e w' ⟨rfl, rfl⟩
    rw [H.out]
    go_wp2_with fail
    go_ret
    exact ⟨ret_bool (by rw [fitsB, H.out, Bool.false_and]), rfl⟩
  · have H := Lib.hid hm; clear hm
    go_enter Try.func18, Try.ntmps18
    go_wp2_with fail
    refine (rmay_any t s p _).mono ?_
    rintro e w' ⟨rfl, rfl⟩
    rw [H.out]
    go_wp2_with fail
    all_goals (go_ret; exact ⟨ret_bool (by rw [fitsB, H.out, Bool.true_and]; first | (apply dec_yes; omega) | (apply dec_no; omega) | (apply dec_dec; omega)), rfl⟩)

/-- the row of the table for an entry: it has a zero value, eight cells, 104 bytes -/
theorem entry_row : (match Try.prog.info? 71 with | some i => i.zero.isSome && (i.size == 8 && i.bytes == 104) | none => false) = true := by kernel_rfl
theorem entry_parts : ∃ i z, Try.prog.info? 71 = some i ∧ i.zero = some z ∧ i.size = 8 ∧ i.bytes = 104 := by
  have h := entry_row
  cases hi : Try.prog.info? 71 with
  | none => rw [hi] at h; cases h
  | some i =>
    rw [hi] at h
    simp only [Bool.and_eq_true, beq_iff_eq] at h
    obtain ⟨h1, h2, h3⟩ := h
    obtain ⟨z, hz⟩ := Option.isSome_iff_exists.1 h1
    exact ⟨i, z, rfl, hz, h2, h3⟩
theorem below_made {w w' : World} (h : w.grownBy w' none) : Below w.heap.size w w' :=
  (Below.refl _ _).grown h (Nat.le_refl _) (fun _ hk => by cases hk)
theorem may_y {t s p : Int} (h : 1 ≤ t ∧ t ≤ 1000 ∧ 1000 ≤ s ∧ s ≤ 1073741824 ∧ 1 ≤ p ∧ p ≤ 1000) : mayB t s p = true := by unfold mayB; exact decide_eq_true h
theorem may_n {t s p : Int} (h : ¬ (1 ≤ t ∧ t ≤ 1000 ∧ 1000 ≤ s ∧ s ≤ 1073741824 ∧ 1 ≤ p ∧ p ≤ 1000)) : mayB t s p = false := by unfold mayB; exact decide_eq_false h
theorem fits_n {t s p n : Int} (h : mayB t s p = false) : fitsB t s p n = false := by unfold fitsB; rw [h]; rfl
end Lim
end Go.Proofs.Ytahcjjelamknnaa
