/- CrcMore: a sum goes on with more bytes, of any number as a sum. The law's walk, for any integer, any list of lists of bytes and any list of bytes, and the statement. -/
import Derived.Test.YtahcjjelamknnaaApp
import Derived.Test.YtahcjjelamknnaaRead
namespace Go.Proofs.Ytahcjjelamknnaa.crcMore
open Go.ChangeShapes Go.WideShapes Go.ChangeAt Go.RowKit
open Crc (own laidOut Holds RowsAt BytesAt Src sumOf w32 ones run)
set_option linter.unusedVariables false

theorem w32_toNat (x : BitVec 32) : w32 (x.toNat : Int) = x := by
  unfold w32
  rw [BitVec.ofInt_natCast]
  simp
/-- a sum goes on -/
theorem sum_on (b f : List Int) : sumOf (sumOf 0 b) f = sumOf 0 (b ++ f) := by
  unfold sumOf
  rw [w32_toNat, BitVec.xor_assoc, BitVec.xor_self, BitVec.xor_zero, List.map_append, Crc.run_append]
theorem one_flat (l : List Int) : [l].flatten = l := by simp

theorem below_made' {w w' : World} (h : w.grownBy w' none) : Below w.heap.size w w' :=
  (Below.refl _ _).grown h (Nat.le_refl _) (fun _ hk => by cases hk)
theorem slice_form {w : World} {base : Nat} {v : Value} {n : Nat} {xs : List Value} (h : w.ownsRow base 5 1 v n xs) : ∃ a c m, v = .slice a m c ∧ m = n := by
  rcases h.2 with ⟨rfl, hn⟩ | ⟨g, cap, cur, rfl, _⟩
  · exact ⟨none, 0, 0, rfl, hn.symm⟩
  · exact ⟨_, _, n, rfl, rfl⟩
theorem both {B F : List Int} (h1 : ∀ u ∈ B, 0 ≤ u ∧ u < 256) (h2 : ∀ u ∈ F, 0 ≤ u ∧ u < 256) : ∀ u ∈ [] ++ B ++ F, 0 ≤ u ∧ u < 256 := by
  intro u hu
  simp only [List.nil_append, List.mem_append] at hu
  rcases hu with hu | hu
  · exact h1 u hu
  · exact h2 u hu
theorem flat_len : ∀ (L : List (List Int)), (∀ l ∈ L, l.length ≤ 2000) → L.flatten.length ≤ 2000 * L.length
  | [], _ => by simp
  | l :: L, h => by
    have h1 := h l (List.mem_cons_self ..)
    have h2 := flat_len L fun x hx => h x (List.mem_cons_of_mem _ hx)
    rw [List.flatten_cons, List.length_append, List.length_cons]
    omega
theorem flen {L : List (List Int)} {F : List Int} (hF : L.flatten = F) (h : Crc.Fits L) : F.length ≤ 100000 := by
  rw [← hF]
  have h1 := flat_len L h.2
  have h2 := h.1
  omega
set_option maxRecDepth 100000 in
set_option maxHeartbeats 1000000 in
theorem walk_core (s : Int) (a : Option Addr) (c : Nat) (L : List (List Int)) (a2 : Option Addr) (c2 : Nat) (B : List Int) (w : World) (h : RowsAt w a L) (hB : BytesAt w (.slice a2 B.length c2) B) :
    Calls Try.prog 8 #[.int .i64 s, .slice a L.length c, .slice a2 B.length c2] w fun e w' => e = .returned (.bool true) ∧ Below w.heap.size w w' := by
  have H := Lib.hid h
  have G := Lib.hid hB
  clear h hB
  by_cases hlen : 2000 < B.length
  all_goals
    go_enter Try.func8, Try.ntmps8
    go_wp2_with fail
    refine (Crc.alive_any _).mono ?_
    rintro e w1 ⟨rfl, hb1⟩
    have H1 := Lib.hid (H.out.keep (Holds.below hb1))
    go_wp2_with fail
    refine (Crc.join_any a c L _ H1.out).mono ?_
    rintro e w2 ⟨hb2, hj⟩
    have hb : Below w.heap.size w w2 := hb1.trans (hb2.mono hb1.size)
    have H2 := Lib.hid (H1.out.keep (Holds.below hb2))
    have G2 := Lib.hid (G.out.keep (Holds.below hb))
    clear hb1 hb2
    rcases hj with ⟨hno, rfl⟩ | ⟨hfits, v, rfl, hv⟩
    · clear hno
      go_wp2_with fail
      go_ret
      exact ⟨rfl, hb⟩
    generalize hF : L.flatten = F at hv
    have HF := Lib.hid hF
    clear hF
    have V := Lib.hid hv
    obtain ⟨av, cv, rfl, _, _, _, _⟩ := hv
  · clear hfits
    go_wp2_with fail
    go_ret
    exact ⟨rfl, hb⟩
  · have hFl := flen HF.out hfits
    clear hfits
    go_wp2_with fail
    refine (Crc.more_any s a c L _ H2.out).mono ?_
    rintro e w3 ⟨rfl, rfl⟩
    rw [HF.out]
    go_wp2_with fail
    refine (Crc.rmore_any s _ _ _ V.out).mono ?_
    rintro e w3 ⟨rfl, rfl⟩
    go_wp2_with fail
    refine (Crc.sum_any _ 1 [B] _ (Crc.rows_one G2.out _ rfl)).mono ?_
    rintro e w3 ⟨rfl, rfl⟩
    rw [one_flat]
    have hb3 := hb.alloc hb.size (.cells #[.slice a2 B.length c2] 35)
    have H3 := Lib.hid (H2.out.keep (Holds.alloc _ (.cells #[.slice a2 B.length c2] 35)))
    have G3 := Lib.hid (G2.out.keep (Holds.alloc _ (.cells #[.slice a2 B.length c2] 35)))
    have V3 := Lib.hid (V.out.keep (Holds.alloc _ (.cells #[.slice a2 B.length c2] 35)))
    generalize w2.alloc (.cells #[.slice a2 B.length c2] 35) = w3 at *
    go_wp2_with fail
    refine (Crc.more_any _ a c L _ H3.out).mono ?_
    rintro e w4 ⟨rfl, rfl⟩
    rw [HF.out, sum_on]
    go_wp2_with (at_builtin; refine Crc.wpList_append_bytes _ rfl (.const (.slice none 0 0)) (.tmp 41) rfl w.heap.size (.slice none 0 0) [] rfl (World.ownsRow_nil _ _ _ _) _ B rfl G3.out (by simp; omega) hb3.size ?_; intro v4 w4 hown4 hgrow4; have hb4 := hb3.grown hgrow4 hb3.size (fun _ hk => by cases hk); have hb34 : Below w3.heap.size w3 w4 := below_made' hgrow4; have V4 := Lib.hid (V3.out.keep (Holds.below hb34)); have Hown4 := Lib.hid hown4; clear hown4 hgrow4 hb34; go_wp2_with (at_builtin; refine Crc.wpList_append_bytes _ rfl (.tmp 42) (.tmp 43) rfl w.heap.size _ _ rfl Hown4.out _ F rfl V4.out (by simp; omega) hb4.size ?_; intro v5 w5 hown5 hgrow5; have hb5 := hb4.grown hgrow5 hb4.size (fun g hk => (Hown4.out.lt g hk).1); have Hown5 := Lib.hid hown5; clear hown5 hgrow5; obtain ⟨a5, c5, n5, rfl, hn5⟩ := slice_form Hown5.out; clear hn5))
    have V5 := Lib.hid (Crc.bytes_of_own Hown5.out (by unfold maxLen; simp; omega) (both (Crc.bytes_bd G.out) (Crc.bytes_bd V3.out)))
    refine (Crc.sum_any _ 1 [B ++ F] _ (Crc.rows_one V5.out _ rfl)).mono ?_
    rintro e w6 ⟨rfl, rfl⟩
    rw [one_flat]
    go_wp2_with fail
    go_ret
    exact ⟨rfl, hb5.alloc hb5.size _⟩

theorem walk (s : Int) (a : Option Addr) (c : Nat) (L : List (List Int)) (a2 : Option Addr) (len2 c2 : Nat) (z : List Int) (w : World) (w0 : (Lit.int .i64 s).wf = true) (h : RowsAt w a L) (hB : Src w a2 len2 c2 z) :
    Calls Try.prog 8 #[.int .i64 s, .slice a L.length c, .slice a2 len2 c2] w fun e w' => e = .returned (.bool true) ∧ Below w.heap.size w w' := by
  have h1 := hB.all
  have h2 := hB.len_take len2 hB.2.1
  generalize z.take len2 = B at h1 h2
  subst h2
  exact walk_core s a c L a2 c2 B w h h1

set_option maxRecDepth 100000 in
theorem lifted (os : Os) (started : os.Started) (H : Type) (enc : TypeId × Value → H) :
    ReturnsInHanded {} Try.checked os 8 .any (Rows.crcMoreSpec.pre6 enc Try.prog Try.f8 Rows.crcMoreRow.domain false) (Rows.crcMoreSpec.post enc Try.prog Try.f8 false true false false) := by
  refine returnsInHanded_of_change (C := Try.checked) own started (by kernel_rfl) Try.func8
    (ChangeSpec.witness6 (enc := enc) (C := Try.checked) false ⟨#[], #[.int .i64 0, .slice none 0 0, .slice none 0 0], []⟩ 8 (by kernel_rfl) (by kernel_rfl) (by kernel_rfl) (by kernel_rfl)) ?_
  intro W base args ds gs before hval0 hW hcnd _
  have hval : ∀ (j : Nat) t v, Try.f8.params[j]? = some t → args[j]? = some v → Value.okWide Try.prog W .any base t v := hval0
  have hW' := hW
  obtain ⟨p, q, hA0, hV, rfl, hfz, hnd⟩ := hW
  have hA : DataW.TrodAll enc Try.prog W 0 (fun _ => true) true Try.f8.params.toList args.toList ds p := hA0
  rw [Try.params8] at hA hval
  obtain ⟨v0, vs0, d0, ds0, p0, q0, hargs, rfl, rfl, h0, r0⟩ := trodAll_cons hA
  obtain ⟨v1, vs1, d1, ds1, p1, q1, rfl, rfl, rfl, h1, r1⟩ := trodAll_cons r0
  obtain ⟨v2, vs2, d2, ds2, p2, q2, rfl, rfl, rfl, h2, r2⟩ := trodAll_cons r1
  obtain ⟨rfl, rfl, rfl⟩ := trodAll_nil r2
  obtain rfl : args = #[v0, v1, v2] := by cases args; simp_all
  obtain ⟨rfl, rfl⟩ := trodVars_none hV
  obtain ⟨a0, rfl, rfl, rfl, w0⟩ := open_int Try.underlying3 (hval 0 3 v0 rfl rfl) h0
  have k1 := h1
  have lt1 : ∀ x ∈ p1, x.block < W.heap.size := by obtain ⟨m, hm⟩ := k1; exact DataW.trod_lt m _ _ _ hm
  obtain ⟨a1, len1, cap1, rfl⟩ := okWide_slice Try.underlying34 (hval 1 34 v1 rfl rfl)
  obtain ⟨z1, hz1, w1⟩ := Crc.rows_of k1
  subst hz1
  have k2 := h2
  have lt2 : ∀ x ∈ p2, x.block < W.heap.size := by obtain ⟨m, hm⟩ := k2; exact DataW.trod_lt m _ _ _ hm
  obtain ⟨a2, len2, cap2, rfl⟩ := okWide_slice Try.underlying35 (hval 2 35 v2 rfl rfl)
  obtain ⟨z2, w2⟩ := Crc.bytes_of k2
  clear hA0 hval0
  refine (walk a0 a1 cap1 z1 a2 len2 cap2 z2 W w0 w1 w2).mono fun e W' ⟨he, bel⟩ => ?_
  subst he
  exact ⟨_, rfl, _, _, _, [], _, [], hW', trodAll_mk1 (shut_bool Try.underlying4 _), (trodAll_cons_mk (shut_int Try.underlying3 w0) (trodAll_cons_mk (Below.trod laidOut (by kernel_rfl) (of_decide_eq_true (by kernel_rfl)) k1 bel lt1) (trodAll_cons_mk (Below.trod laidOut (by kernel_rfl) (of_decide_eq_true (by kernel_rfl)) k2 bel lt2) trodAll_mk0))), rfl, bel.frame _, fun h => by cases h⟩

theorem over : Rows.crcMoreRow.holds Try.pinned (OpenSpec.ofChange Rows.crcMoreSpec) :=
  OpenClaim.holds_of_wide 8 Try.f8 rfl rfl rfl rfl rfl rfl rfl ⟨rfl, rfl, rfl, rfl, rfl⟩ rfl rfl rfl rfl rfl (by kernel_rfl) Try.func8 (by kernel_rfl)
    (of_decide_eq_true (by kernel_rfl)) (by unfold Func.isWrapper; first | (rw [if_pos (by decide +kernel)]; kernel_rfl) | (rw [if_neg (by decide +kernel)]; exact ⟨rfl, rfl⟩))
    (fun os started H enc _ => lifted os started H enc)

/-- the statement -/
theorem proved : Rows.CrcMoreSaid := over
#print axioms proved
end Go.Proofs.Ytahcjjelamknnaa.crcMore
