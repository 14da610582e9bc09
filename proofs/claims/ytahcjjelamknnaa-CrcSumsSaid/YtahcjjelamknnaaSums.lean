/- CrcSums: the sum of any lists of bytes, as of one. The law's walk, for any list of lists of bytes, and the statement. -/
import Derived.Test.YtahcjjelamknnaaJoin
import Derived.Test.YtahcjjelamknnaaRead
namespace Go.Proofs.Ytahcjjelamknnaa.crcSums
open Go.ChangeShapes Go.WideShapes Go.ChangeAt Go.RowKit
open Crc (own laidOut Holds RowsAt BytesAt)
set_option linter.unusedVariables false

theorem one_flat (l : List Int) : [l].flatten = l := by simp
set_option maxHeartbeats 400000 in
theorem walk (a : Option Addr) (c : Nat) (L : List (List Int)) (w : World) (h : RowsAt w a L) :
    Calls Try.prog 7 #[.slice a L.length c] w fun e w' => e = .returned (.bool true) ∧ Below w.heap.size w w' := by
  have H := Lib.hid h
  clear h
  go_enter Try.func7, Try.ntmps7
  go_wp2_with fail
  refine (Crc.alive_any _).mono ?_
  rintro e w1 ⟨rfl, hb1⟩
  have H1 := Lib.hid (H.out.keep (Holds.below hb1))
  go_wp2_with fail
  refine (Crc.join_any a c L _ H1.out).mono ?_
  rintro e w2 ⟨hb2, hj⟩
  have hb : Below w.heap.size w w2 := hb1.trans (hb2.mono hb1.size)
  have H2 := Lib.hid (H1.out.keep (Holds.below hb2))
  clear hb1 hb2
  rcases hj with ⟨hno, rfl⟩ | ⟨hfits, v, rfl, hv⟩
  · clear hno
    go_wp2_with fail
    go_ret
    exact ⟨rfl, hb⟩
  · clear hfits
    generalize hF : L.flatten = F at hv
    have HF := Lib.hid hF
    clear hF
    have V := Lib.hid hv
    obtain ⟨av, cv, rfl, _, _, _, _⟩ := hv
    go_wp2_with fail
    refine (Crc.sum_any a c L _ H2.out).mono ?_
    rintro e w3 ⟨rfl, rfl⟩
    rw [HF.out]
    go_wp2_with fail
    refine (Crc.rsum_any _ _ _ V.out).mono ?_
    rintro e w3 ⟨rfl, rfl⟩
    go_wp2_with fail
    refine (Crc.sum_any _ 1 [F] _ (Crc.rows_one V.out _ rfl)).mono ?_
    rintro e w3 ⟨rfl, rfl⟩
    rw [one_flat]
    go_wp2_with fail
    refine (Crc.rsum_any _ _ _ (V.out.keep (Holds.alloc _ _))).mono ?_
    rintro e w3 ⟨rfl, rfl⟩
    go_wp2_with fail
    go_ret
    exact ⟨rfl, hb.alloc hb.size _⟩

set_option maxRecDepth 100000 in
theorem lifted (os : Os) (started : os.Started) (H : Type) (enc : TypeId × Value → H) :
    ReturnsInHanded {} Try.checked os 7 .any (Rows.crcSumsSpec.pre6 enc Try.prog Try.f7 Rows.crcSumsRow.domain false) (Rows.crcSumsSpec.post enc Try.prog Try.f7 false true false false) := by
  refine returnsInHanded_of_change (C := Try.checked) own started (by kernel_rfl) Try.func7
    (ChangeSpec.witness6 (enc := enc) (C := Try.checked) false ⟨#[], #[.slice none 0 0], []⟩ 8 (by kernel_rfl) (by kernel_rfl) (by kernel_rfl) (by kernel_rfl)) ?_
  intro W base args ds gs before hval0 hW hcnd _
  have hval : ∀ (j : Nat) t v, Try.f7.params[j]? = some t → args[j]? = some v → Value.okWide Try.prog W .any base t v := hval0
  have hW' := hW
  obtain ⟨p, q, hA0, hV, rfl, hfz, hnd⟩ := hW
  have hA : DataW.TrodAll enc Try.prog W 0 (fun _ => true) true Try.f7.params.toList args.toList ds p := hA0
  rw [Try.params7] at hA hval
  obtain ⟨v0, vs0, d0, ds0, p0, q0, hargs, rfl, rfl, h0, r0⟩ := trodAll_cons hA
  obtain ⟨rfl, rfl, rfl⟩ := trodAll_nil r0
  obtain rfl : args = #[v0] := by cases args; simp_all
  obtain ⟨rfl, rfl⟩ := trodVars_none hV
  have k0 := h0
  have lt0 : ∀ x ∈ p0, x.block < W.heap.size := by obtain ⟨m, hm⟩ := k0; exact DataW.trod_lt m _ _ _ hm
  obtain ⟨a0, len0, cap0, rfl⟩ := okWide_slice Try.underlying34 (hval 0 34 v0 rfl rfl)
  obtain ⟨z0, hz0, w0⟩ := Crc.rows_of k0
  subst hz0
  clear hA0 hval0
  refine (walk a0 cap0 z0 W w0).mono fun e W' ⟨he, bel⟩ => ?_
  subst he
  exact ⟨_, rfl, _, _, _, [], _, [], hW', trodAll_mk1 (shut_bool Try.underlying4 _), (trodAll_cons_mk (Below.trod laidOut (by kernel_rfl) (of_decide_eq_true (by kernel_rfl)) k0 bel lt0) trodAll_mk0), rfl, bel.frame _, fun h => by cases h⟩

theorem over : Rows.crcSumsRow.holds Try.pinned (OpenSpec.ofChange Rows.crcSumsSpec) :=
  OpenClaim.holds_of_wide 7 Try.f7 rfl rfl rfl rfl rfl rfl rfl ⟨rfl, rfl, rfl, rfl, rfl⟩ rfl rfl rfl rfl rfl (by kernel_rfl) Try.func7 (by kernel_rfl)
    (of_decide_eq_true (by kernel_rfl)) (by unfold Func.isWrapper; first | (rw [if_pos (by decide +kernel)]; kernel_rfl) | (rw [if_neg (by decide +kernel)]; exact ⟨rfl, rfl⟩))
    (fun os started H enc _ => lifted os started H enc)

/-- the statement -/
theorem proved : Rows.CrcSumsSaid := over
#print axioms proved
end Go.Proofs.Ytahcjjelamknnaa.crcSums
