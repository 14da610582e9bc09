/- LimitEnds: where limits end. The law's walk, for any two integers, and the statement. -/
import Derived.Test.YtahcjjelamknnaaLim
import Derived.ProofKit
import Derived.OpenShut
import Derived.ChangeOld
import Derived.Below
namespace Go.Proofs.Ytahcjjelamknnaa.limitEnds
open Go.ChangeShapes Go.WideShapes Go.ChangeAt Go.RowKit
open Lim
set_option linter.unusedVariables false

theorem own : ownKnob Try.prog.godebug = none := by kernel_rfl
theorem laidOut : laidOutB Try.prog = true := by kernel_rfl

theorem r555 : rounds (-5) (-5) (-5) = 2000 := by decide

theorem walk0 (a1 : Int) (w : World) :
    Calls Try.prog 5 #[.int .i64 0, .int .i64 a1] w fun e w' => e = .returned (.bool true) ∧ Below w.heap.size w w' := by
  have H5 := Lib.hid r555
  by_cases k : 1 ≤ a1 ∧ a1 ≤ 1000
  · have M := Lib.hid (may_y (t := a1) (s := 10000) (p := 10) (by omega))
    obtain ⟨k1, k2⟩ := k
    go_enter Try.func5, Try.ntmps5
    go_wp2_with fail
    refine (alive_any _).mono ?_
    rintro e w' ⟨rfl, rfl⟩
    go_wp2_with fail
    refine (may_any _ _ _ _).mono ?_
    rintro e w' ⟨rfl, rfl⟩
    rw [M.out]
    go_wp2_with fail
    refine (rounds_any _ _ _ _).mono ?_
    rintro e w' ⟨rfl, rfl⟩
    rw [H5.out]
    go_wp2_with fail
    go_ret
    exact ⟨rfl, ((Below.refl _ _).alloc (Nat.le_refl _) _).alloc (by simp) _⟩
  · have M := Lib.hid (may_n (t := a1) (s := 10000) (p := 10) (by omega))
    rcases (show a1 < 1 ∨ ((1 ≤ a1 ∧ 1000 < a1) ∧ decide (a1 ≤ 1000) = false) by
      by_cases q : a1 < 1
      · exact .inl q
      · exact .inr ⟨by omega, decide_eq_false (by omega)⟩) with k1 | ⟨⟨k1, k2⟩, k3⟩
    all_goals
      clear k
      go_enter Try.func5, Try.ntmps5
      go_wp2_with fail
      refine (alive_any _).mono ?_
      rintro e w' ⟨rfl, rfl⟩
      go_wp2_with fail
      refine (may_any _ _ _ _).mono ?_
      rintro e w' ⟨rfl, rfl⟩
      rw [M.out]
      go_wp2_with fail
      refine (fits_any _ _ _ none 0 0 (by omega) _).mono ?_
      rintro e w' ⟨rfl, rfl⟩
      rw [fits_n M.out]
      go_wp2_with fail
      refine (rounds_any _ _ _ _).mono ?_
      rintro e w' ⟨rfl, rfl⟩
      rw [H5.out]
      go_wp2_with fail
      go_ret
      exact ⟨rfl, ((((Below.refl _ _).alloc (Nat.le_refl _) _).alloc (by simp) _).alloc (by simp; omega) _).alloc (by simp; omega) _⟩

theorem walk1 (a1 : Int) (w : World) :
    Calls Try.prog 5 #[.int .i64 1, .int .i64 a1] w fun e w' => e = .returned (.bool true) ∧ Below w.heap.size w w' := by
  have H5 := Lib.hid r555
  by_cases k : 1000 ≤ a1 ∧ a1 ≤ 1073741824
  · have M := Lib.hid (may_y (t := 10) (s := a1) (p := 10) (by omega))
    obtain ⟨k1, k2⟩ := k
    go_enter Try.func5, Try.ntmps5
    go_wp2_with fail
    refine (alive_any _).mono ?_
    rintro e w' ⟨rfl, rfl⟩
    go_wp2_with fail
    refine (may_any _ _ _ _).mono ?_
    rintro e w' ⟨rfl, rfl⟩
    rw [M.out]
    go_wp2_with fail
    refine (rounds_any _ _ _ _).mono ?_
    rintro e w' ⟨rfl, rfl⟩
    rw [H5.out]
    go_wp2_with fail
    go_ret
    exact ⟨rfl, ((Below.refl _ _).alloc (Nat.le_refl _) _).alloc (by simp) _⟩
  · have M := Lib.hid (may_n (t := 10) (s := a1) (p := 10) (by omega))
    rcases (show a1 < 1000 ∨ ((1000 ≤ a1 ∧ 1073741824 < a1) ∧ decide (a1 ≤ 1073741824) = false) by
      by_cases q : a1 < 1000
      · exact .inl q
      · exact .inr ⟨by omega, decide_eq_false (by omega)⟩) with k1 | ⟨⟨k1, k2⟩, k3⟩
    all_goals
      clear k
      go_enter Try.func5, Try.ntmps5
      go_wp2_with fail
      refine (alive_any _).mono ?_
      rintro e w' ⟨rfl, rfl⟩
      go_wp2_with fail
      refine (may_any _ _ _ _).mono ?_
      rintro e w' ⟨rfl, rfl⟩
      rw [M.out]
      go_wp2_with fail
      refine (fits_any _ _ _ none 0 0 (by omega) _).mono ?_
      rintro e w' ⟨rfl, rfl⟩
      rw [fits_n M.out]
      go_wp2_with fail
      refine (rounds_any _ _ _ _).mono ?_
      rintro e w' ⟨rfl, rfl⟩
      rw [H5.out]
      go_wp2_with fail
      go_ret
      exact ⟨rfl, ((((Below.refl _ _).alloc (Nat.le_refl _) _).alloc (by simp) _).alloc (by simp; omega) _).alloc (by simp; omega) _⟩

theorem walk2 (a0 : Int) (e0 : (a0 == 0) = false) (e1 : (a0 == 1) = false) (a1 : Int) (w : World) :
    Calls Try.prog 5 #[.int .i64 a0, .int .i64 a1] w fun e w' => e = .returned (.bool true) ∧ Below w.heap.size w w' := by
  have H5 := Lib.hid r555
  by_cases k : 1 ≤ a1 ∧ a1 ≤ 1000
  · have M := Lib.hid (may_y (t := 10) (s := 10000) (p := a1) (by omega))
    obtain ⟨k1, k2⟩ := k
    go_enter Try.func5, Try.ntmps5
    go_wp2_with fail
    refine (alive_any _).mono ?_
    rintro e w' ⟨rfl, rfl⟩
    go_wp2_with fail
    refine (may_any _ _ _ _).mono ?_
    rintro e w' ⟨rfl, rfl⟩
    rw [M.out]
    go_wp2_with fail
    refine (rounds_any _ _ _ _).mono ?_
    rintro e w' ⟨rfl, rfl⟩
    rw [H5.out]
    go_wp2_with fail
    go_ret
    exact ⟨rfl, ((Below.refl _ _).alloc (Nat.le_refl _) _).alloc (by simp) _⟩
  · have M := Lib.hid (may_n (t := 10) (s := 10000) (p := a1) (by omega))
    rcases (show a1 < 1 ∨ ((1 ≤ a1 ∧ 1000 < a1) ∧ decide (a1 ≤ 1000) = false) by
      by_cases q : a1 < 1
      · exact .inl q
      · exact .inr ⟨by omega, decide_eq_false (by omega)⟩) with k1 | ⟨⟨k1, k2⟩, k3⟩
    all_goals
      clear k
      go_enter Try.func5, Try.ntmps5
      go_wp2_with fail
      refine (alive_any _).mono ?_
      rintro e w' ⟨rfl, rfl⟩
      go_wp2_with fail
      refine (may_any _ _ _ _).mono ?_
      rintro e w' ⟨rfl, rfl⟩
      rw [M.out]
      go_wp2_with fail
      refine (fits_any _ _ _ none 0 0 (by omega) _).mono ?_
      rintro e w' ⟨rfl, rfl⟩
      rw [fits_n M.out]
      go_wp2_with fail
      refine (rounds_any _ _ _ _).mono ?_
      rintro e w' ⟨rfl, rfl⟩
      rw [H5.out]
      go_wp2_with fail
      go_ret
      exact ⟨rfl, ((((Below.refl _ _).alloc (Nat.le_refl _) _).alloc (by simp) _).alloc (by simp; omega) _).alloc (by simp; omega) _⟩

theorem walk (a0 : Int) (a1 : Int) (w : World) :
    Calls Try.prog 5 #[.int .i64 a0, .int .i64 a1] w fun e w' => e = .returned (.bool true) ∧ Below w.heap.size w w' := by
  by_cases c0 : a0 = 0
  · subst c0; exact walk0 a1 w
  · by_cases c1 : a0 = 1
    · subst c1; exact walk1 a1 w
    · exact walk2 a0 (beq_eq_false_iff_ne.2 c0) (beq_eq_false_iff_ne.2 c1) a1 w

set_option maxRecDepth 100000 in
theorem lifted (os : Os) (started : os.Started) (H : Type) (enc : TypeId × Value → H) :
    ReturnsInHanded {} Try.checked os 5 .any (Rows.limitEndsSpec.pre6 enc Try.prog Try.f5 Rows.limitEndsRow.domain false) (Rows.limitEndsSpec.post enc Try.prog Try.f5 false true false false) := by
  refine returnsInHanded_of_change (C := Try.checked) own started (by kernel_rfl) Try.func5
    (ChangeSpec.witness6 (enc := enc) (C := Try.checked) false ⟨#[], #[.int .i64 0, .int .i64 0], []⟩ 8 (by kernel_rfl) (by kernel_rfl) (by kernel_rfl) (by kernel_rfl)) ?_
  intro W base args ds gs before hval0 hW hcnd _
  have hval : ∀ (j : Nat) t v, Try.f5.params[j]? = some t → args[j]? = some v → Value.okWide Try.prog W .any base t v := hval0
  have hW' := hW
  obtain ⟨p, q, hA0, hV, rfl, hfz, hnd⟩ := hW
  have hA : DataW.TrodAll enc Try.prog W 0 (fun _ => true) true Try.f5.params.toList args.toList ds p := hA0
  rw [Try.params5] at hA hval
  obtain ⟨v0, vs0, d0, ds0, p0, q0, hargs, rfl, rfl, h0, r0⟩ := trodAll_cons hA
  obtain ⟨v1, vs1, d1, ds1, p1, q1, rfl, rfl, rfl, h1, r1⟩ := trodAll_cons r0
  obtain ⟨rfl, rfl, rfl⟩ := trodAll_nil r1
  obtain rfl : args = #[v0, v1] := by cases args; simp_all
  obtain ⟨rfl, rfl⟩ := trodVars_none hV
  obtain ⟨a0, rfl, rfl, rfl, w0⟩ := open_int Try.underlying3 (hval 0 3 v0 rfl rfl) h0
  obtain ⟨a1, rfl, rfl, rfl, w1⟩ := open_int Try.underlying3 (hval 1 3 v1 rfl rfl) h1
  clear hA0 hval0
  refine (walk a0 a1 W).mono fun e W' ⟨he, bel⟩ => ?_
  subst he
  exact ⟨_, rfl, _, _, _, [], _, [], hW', trodAll_mk1 (shut_bool Try.underlying4 _), (trodAll_cons_mk (shut_int Try.underlying3 w0) (trodAll_cons_mk (shut_int Try.underlying3 w1) trodAll_mk0)), rfl, bel.frame _, fun h => by cases h⟩

theorem over : Rows.limitEndsRow.holds Try.pinned (OpenSpec.ofChange Rows.limitEndsSpec) :=
  OpenClaim.holds_of_wide 5 Try.f5 rfl rfl rfl rfl rfl rfl rfl ⟨rfl, rfl, rfl, rfl, rfl⟩ rfl rfl rfl rfl rfl (by kernel_rfl) Try.func5 (by kernel_rfl)
    (of_decide_eq_true (by kernel_rfl)) (by unfold Func.isWrapper; first | (rw [if_pos (by decide +kernel)]; kernel_rfl) | (rw [if_neg (by decide +kernel)]; exact ⟨rfl, rfl⟩))
    (fun os started H enc _ => lifted os started H enc)

/-- the statement -/
theorem proved : Rows.LimitEndsSaid := over
#print axioms proved
end Go.Proofs.Ytahcjjelamknnaa.limitEnds
