/- LimitFits: how many tasks fit into which table, over which links. The law's walk, for any three integers, and the statement. -/
import Derived.Test.YtahcjjelamknnaaLim
import Derived.ProofKit
import Derived.OpenShut
import Derived.ChangeOld
import Derived.Below
import Derived.OwnWalk
namespace Go.Proofs.Ytahcjjelamknnaa.limitFits
open Go.ChangeShapes Go.WideShapes Go.ChangeAt Go.RowKit
open Lim
set_option linter.unusedVariables false

theorem own : ownKnob Try.prog.godebug = none := by kernel_rfl
theorem laidOut : laidOutB Try.prog = true := by kernel_rfl

theorem fits_is {t s n : Int} (h : 1 ≤ t ∧ t ≤ 1000 ∧ 1000 ≤ s ∧ s ≤ 1073741824) : fitsB t s 5 n = decide (n ≤ t ∧ n ≤ (s - 1000) / 400) := by
  unfold fitsB
  rw [may_y (by omega), Bool.true_and]
  exact dec_dec (by omega)
set_option maxHeartbeats 400000 in
theorem walk_in1 (a0 a1 : Int) (n : Nat) (k1 : 1 ≤ a0) (k2 : a0 ≤ 1000) (k3 : 1000 ≤ a1) (k4 : a1 ≤ 1073741824) (k6 : (n : Int) ≤ 1100) (q1 : (n : Int) ≤ a0) (q2 : (n : Int) ≤ (a1 - 1000) / 400) (w : World) :
    Calls Try.prog 6 #[.int .i64 a0, .int .i64 a1, .int .i64 n] w fun e w' => e = .returned (.bool true) ∧ Below w.heap.size w w' := by
  obtain ⟨i, z, hi, hz, hs, hb⟩ := entry_parts
  have Hi := Lib.hid hi
  have Hz := Lib.hid hz
  have Hs := Lib.hid hs
  have Hb := Lib.hid hb
  clear hi hz hs hb
  have F := Lib.hid ((fits_is (n := n) ⟨k1, k2, k3, k4⟩).trans (decide_eq_true ⟨q1, q2⟩))
  go_enter Try.func6, Try.ntmps6
  go_wp2_with fail
  refine (alive_any _).mono ?_
  rintro e w' ⟨rfl, rfl⟩
  go_wp2_with (at_make; refine wpList_make_full _ rfl _ _ 25 rfl _ 71 i z 8 Try.underlying25 Hi.out Hz.out Hs.out _ _ _ _ n rfl rfl rfl rfl (by rw [Hb.out]; omega) (by unfold maxLen; omega) (Nat.le_refl _) ?_; intro w1 hown hgrow)
  refine (fits_any _ _ _ _ n n (by omega) _).mono ?_
  rintro e w' ⟨rfl, rfl⟩
  rw [F.out]
  go_wp2_with fail
  go_ret
  exact ⟨rfl, (((below_made hgrow).alloc (below_made hgrow).size _).alloc (by simp; have := (below_made hgrow).size; omega) _)⟩
set_option maxHeartbeats 400000 in
theorem walk_in2 (a0 a1 : Int) (n : Nat) (k1 : 1 ≤ a0) (k2 : a0 ≤ 1000) (k3 : 1000 ≤ a1) (k4 : a1 ≤ 1073741824) (k6 : (n : Int) ≤ 1100) (q1 : (n : Int) ≤ a0) (q2 : (a1 - 1000) / 400 < (n : Int)) (w : World) :
    Calls Try.prog 6 #[.int .i64 a0, .int .i64 a1, .int .i64 n] w fun e w' => e = .returned (.bool true) ∧ Below w.heap.size w w' := by
  obtain ⟨i, z, hi, hz, hs, hb⟩ := entry_parts
  have Hi := Lib.hid hi
  have Hz := Lib.hid hz
  have Hs := Lib.hid hs
  have Hb := Lib.hid hb
  clear hi hz hs hb
  have F := Lib.hid ((fits_is (n := n) ⟨k1, k2, k3, k4⟩).trans (decide_eq_false (by omega)))
  have q3 : decide ((n : Int) ≤ (a1 - 1000) / 400) = false := decide_eq_false (by omega)
  go_enter Try.func6, Try.ntmps6
  go_wp2_with fail
  refine (alive_any _).mono ?_
  rintro e w' ⟨rfl, rfl⟩
  go_wp2_with (at_make; refine wpList_make_full _ rfl _ _ 25 rfl _ 71 i z 8 Try.underlying25 Hi.out Hz.out Hs.out _ _ _ _ n rfl rfl rfl rfl (by rw [Hb.out]; omega) (by unfold maxLen; omega) (Nat.le_refl _) ?_; intro w1 hown hgrow)
  refine (fits_any _ _ _ _ n n (by omega) _).mono ?_
  rintro e w' ⟨rfl, rfl⟩
  rw [F.out]
  go_wp2_with fail
  go_ret
  exact ⟨rfl, (((below_made hgrow).alloc (below_made hgrow).size _).alloc (by simp; have := (below_made hgrow).size; omega) _)⟩
set_option maxHeartbeats 400000 in
theorem walk_in3 (a0 a1 : Int) (n : Nat) (k1 : 1 ≤ a0) (k2 : a0 ≤ 1000) (k3 : 1000 ≤ a1) (k4 : a1 ≤ 1073741824) (k6 : (n : Int) ≤ 1100) (q1 : a0 < (n : Int)) (w : World) :
    Calls Try.prog 6 #[.int .i64 a0, .int .i64 a1, .int .i64 n] w fun e w' => e = .returned (.bool true) ∧ Below w.heap.size w w' := by
  obtain ⟨i, z, hi, hz, hs, hb⟩ := entry_parts
  have Hi := Lib.hid hi
  have Hz := Lib.hid hz
  have Hs := Lib.hid hs
  have Hb := Lib.hid hb
  clear hi hz hs hb
  have F := Lib.hid ((fits_is (n := n) ⟨k1, k2, k3, k4⟩).trans (decide_eq_false (by omega)))
  go_enter Try.func6, Try.ntmps6
  go_wp2_with fail
  refine (alive_any _).mono ?_
  rintro e w' ⟨rfl, rfl⟩
  go_wp2_with (at_make; refine wpList_make_full _ rfl _ _ 25 rfl _ 71 i z 8 Try.underlying25 Hi.out Hz.out Hs.out _ _ _ _ n rfl rfl rfl rfl (by rw [Hb.out]; omega) (by unfold maxLen; omega) (Nat.le_refl _) ?_; intro w1 hown hgrow)
  refine (fits_any _ _ _ _ n n (by omega) _).mono ?_
  rintro e w' ⟨rfl, rfl⟩
  rw [F.out]
  go_wp2_with fail
  go_ret
  exact ⟨rfl, (((below_made hgrow).alloc (below_made hgrow).size _).alloc (by simp; have := (below_made hgrow).size; omega) _)⟩
theorem walk (a0 a1 a2 : Int) (w : World) (w0 : (Lit.int .i64 a0).wf = true) (w1 : (Lit.int .i64 a1).wf = true) (w2 : (Lit.int .i64 a2).wf = true) :
    Calls Try.prog 6 #[.int .i64 a0, .int .i64 a1, .int .i64 a2] w fun e w' => e = .returned (.bool true) ∧ Below w.heap.size w w' := by
  clear w0 w1 w2
  by_cases k : 1 ≤ a0 ∧ a0 ≤ 1000 ∧ 1000 ≤ a1 ∧ a1 ≤ 1073741824 ∧ 0 ≤ a2 ∧ a2 ≤ 1100
  · obtain ⟨k1, k2, k3, k4, k5, k6⟩ := k
    obtain ⟨n, hn⟩ := Int.eq_ofNat_of_zero_le k5
    subst hn
    by_cases q1 : (n : Int) ≤ a0
    · by_cases q2 : (n : Int) ≤ (a1 - 1000) / 400
      · exact walk_in1 a0 a1 n k1 k2 k3 k4 k6 q1 q2 w
      · exact walk_in2 a0 a1 n k1 k2 k3 k4 k6 q1 (by omega) w
    · exact walk_in3 a0 a1 n k1 k2 k3 k4 k6 (by omega) w
  · rcases (show a0 < 1 ∨ (1 ≤ a0 ∧ 1000 < a0) ∨ ((1 ≤ a0 ∧ a0 ≤ 1000) ∧ a1 < 1000) ∨ ((1 ≤ a0 ∧ a0 ≤ 1000) ∧ 1000 ≤ a1 ∧ 1073741824 < a1) ∨
      ((1 ≤ a0 ∧ a0 ≤ 1000) ∧ (1000 ≤ a1 ∧ a1 ≤ 1073741824) ∧ a2 < 0) ∨ ((1 ≤ a0 ∧ a0 ≤ 1000) ∧ (1000 ≤ a1 ∧ a1 ≤ 1073741824) ∧ 0 ≤ a2 ∧ 1100 < a2) by omega)
      with h | ⟨h, h'⟩ | ⟨⟨h, h'⟩, g⟩ | ⟨⟨h, h'⟩, g, g'⟩ | ⟨⟨h, h'⟩, ⟨g, g'⟩, j⟩ | ⟨⟨h, h'⟩, ⟨g, g'⟩, j, j'⟩
    all_goals
      clear k
      go_enter Try.func6, Try.ntmps6
      go_wp2_with fail
      refine (alive_any _).mono ?_
      rintro e w' ⟨rfl, rfl⟩
      go_wp2_with fail
      go_ret
      exact ⟨rfl, Below.refl _ _⟩

set_option maxRecDepth 100000 in
theorem lifted (os : Os) (started : os.Started) (H : Type) (enc : TypeId × Value → H) :
    ReturnsInHanded {} Try.checked os 6 .any (Rows.limitFitsSpec.pre6 enc Try.prog Try.f6 Rows.limitFitsRow.domain false) (Rows.limitFitsSpec.post enc Try.prog Try.f6 false true false false) := by
  refine returnsInHanded_of_change (C := Try.checked) own started (by kernel_rfl) Try.func6
    (ChangeSpec.witness6 (enc := enc) (C := Try.checked) false ⟨#[], #[.int .i64 0, .int .i64 0, .int .i64 0], []⟩ 8 (by kernel_rfl) (by kernel_rfl) (by kernel_rfl) (by kernel_rfl)) ?_
  intro W base args ds gs before hval0 hW hcnd _
  have hval : ∀ (j : Nat) t v, Try.f6.params[j]? = some t → args[j]? = some v → Value.okWide Try.prog W .any base t v := hval0
  have hW' := hW
  obtain ⟨p, q, hA0, hV, rfl, hfz, hnd⟩ := hW
  have hA : DataW.TrodAll enc Try.prog W 0 (fun _ => true) true Try.f6.params.toList args.toList ds p := hA0
  rw [Try.params6] at hA hval
  obtain ⟨v0, vs0, d0, ds0, p0, q0, hargs, rfl, rfl, h0, r0⟩ := trodAll_cons hA
  obtain ⟨v1, vs1, d1, ds1, p1, q1, rfl, rfl, rfl, h1, r1⟩ := trodAll_cons r0
  obtain ⟨v2, vs2, d2, ds2, p2, q2, rfl, rfl, rfl, h2, r2⟩ := trodAll_cons r1
  obtain ⟨rfl, rfl, rfl⟩ := trodAll_nil r2
  obtain rfl : args = #[v0, v1, v2] := by cases args; simp_all
  obtain ⟨rfl, rfl⟩ := trodVars_none hV
  obtain ⟨a0, rfl, rfl, rfl, w0⟩ := open_int Try.underlying3 (hval 0 3 v0 rfl rfl) h0
  obtain ⟨a1, rfl, rfl, rfl, w1⟩ := open_int Try.underlying3 (hval 1 3 v1 rfl rfl) h1
  obtain ⟨a2, rfl, rfl, rfl, w2⟩ := open_int Try.underlying3 (hval 2 3 v2 rfl rfl) h2
  clear hA0 hval0
  refine (walk a0 a1 a2 W w0 w1 w2).mono fun e W' ⟨he, bel⟩ => ?_
  subst he
  exact ⟨_, rfl, _, _, _, [], _, [], hW', trodAll_mk1 (shut_bool Try.underlying4 _), (trodAll_cons_mk (shut_int Try.underlying3 w0) (trodAll_cons_mk (shut_int Try.underlying3 w1) (trodAll_cons_mk (shut_int Try.underlying3 w2) trodAll_mk0))), rfl, bel.frame _, fun h => by cases h⟩

theorem over : Rows.limitFitsRow.holds Try.pinned (OpenSpec.ofChange Rows.limitFitsSpec) :=
  OpenClaim.holds_of_wide 6 Try.f6 rfl rfl rfl rfl rfl rfl rfl ⟨rfl, rfl, rfl, rfl, rfl⟩ rfl rfl rfl rfl rfl (by kernel_rfl) Try.func6 (by kernel_rfl)
    (of_decide_eq_true (by kernel_rfl)) (by unfold Func.isWrapper; first | (rw [if_pos (by decide +kernel)]; kernel_rfl) | (rw [if_neg (by decide +kernel)]; exact ⟨rfl, rfl⟩))
    (fun os started H enc _ => lifted os started H enc)

/-- the statement -/
theorem proved : Rows.LimitFitsSaid := over
#print axioms proved
end Go.Proofs.Ytahcjjelamknnaa.limitFits
