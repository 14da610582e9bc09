/- CrcTurned: up to 32 bits side by side that are turned turn the sum. The law's walk, for any list of bytes and any two integers, and the statement. -/
import Derived.Test.YtahcjjelamknnaaApp
import Derived.Test.YtahcjjelamknnaaRead
namespace Go.Proofs.Ytahcjjelamknnaa.crcTurned
open Go.ChangeShapes Go.WideShapes Go.ChangeAt Go.RowKit
open Crc (own laidOut Holds RowsAt BytesAt Src sumOf w32 ones run steps lows)
set_option linter.unusedVariables false

theorem mask_int (s : Int) : bits .and .i64 s 4294967295 = ((w32 s).toNat : Int) := by
  have h : (BitVec.ofInt 64 s &&& BitVec.ofInt 64 4294967295).toNat = (s % 4294967296).toNat := by
    rw [BitVec.toNat_and, show (BitVec.ofInt 64 4294967295).toNat = 2 ^ 32 - 1 from by decide, Nat.and_two_pow_sub_one_eq_mod, BitVec.toNat_ofInt]
    omega
  show IntKind.i64.wrap ((BitVec.ofInt 64 s &&& BitVec.ofInt 64 4294967295).toNat : Int) = _
  rw [h, IntKind.wrap_i64, Crc.toNat_w32]
  omega
theorem below_made' {w w' : World} (h : w.grownBy w' none) : Below w.heap.size w w' :=
  (Below.refl _ _).grown h (Nat.le_refl _) (fun _ hk => by cases hk)
/-- what the loop keeps -/
def Sofar (w : World) (g n cap : Nat) (B : List Int) (A : Nat) (M : BitVec 32) (k : Nat) (wr : World) : Prop :=
  ∃ l : List Int, l.length = n ∧ (∀ u ∈ l, 0 ≤ u ∧ u < 256) ∧ wr.ownsRow w.heap.size 5 1 (.slice (some ⟨g, 0, none⟩) n cap) n (l.map (Value.int .u8)) ∧ Below w.heap.size w wr ∧
    run (w32 0 ^^^ ones) (l.map w32) = run (w32 0 ^^^ ones) (B.map w32) ^^^ steps (8 * n - A) (lows M k)
theorem sofar_zero {w w4 : World} {g cap : Nat} {B : List Int} (hown : w4.ownsRow w.heap.size 5 1 (.slice (some ⟨g, 0, none⟩) B.length cap) B.length (B.map (Value.int .u8))) (hb : Below w.heap.size w w4)
    (hby : ∀ u ∈ B, 0 ≤ u ∧ u < 256) (d : Nat) (M : BitVec 32) : ∃ l : List Int, l.length = B.length ∧ (∀ u ∈ l, 0 ≤ u ∧ u < 256) ∧ w4.ownsRow w.heap.size 5 1 (.slice (some ⟨g, 0, none⟩) B.length cap) B.length (l.map (Value.int .u8)) ∧ Below w.heap.size w w4 ∧
    run (w32 0 ^^^ ones) (l.map w32) = run (w32 0 ^^^ ones) (B.map w32) ^^^ steps d (lows M 0) :=
  ⟨B, rfl, hby, hown, hb, by unfold lows; rw [Crc.steps_zero, BitVec.xor_zero]⟩
theorem one_flat (l : List Int) : [l].flatten = l := by simp
/-- the program's test of a bit -/
theorem low_bit (x : Int) : bits .and .i64 x 1 = x % 2 := by
  have h : (BitVec.ofInt 64 x &&& BitVec.ofInt 64 1).toNat = (x % 2).toNat := by
    rw [BitVec.toNat_and, show (BitVec.ofInt 64 1).toNat = 2 ^ 1 - 1 from by decide, Nat.and_two_pow_sub_one_eq_mod, BitVec.toNat_ofInt]
    omega
  show IntKind.i64.wrap ((BitVec.ofInt 64 x &&& BitVec.ofInt 64 1).toNat : Int) = _
  rw [h, IntKind.wrap_i64]
  omega
theorem bit_mod (y : Int) (k : Nat) (hk : k < 32) : y / 2 ^ k % 2 = (y % 4294967296) / 2 ^ k % 2 := by
  have hp : (2 : Int) ^ k ≠ 0 := by
    have := Int.pow_pos (n := 2) (m := k) (by decide)
    omega
  have e : y = y % 4294967296 + 2 ^ k * (2 * (2 ^ (31 - k) * (y / 4294967296))) := by
    have h1 : (2 : Int) ^ k * (2 * (2 ^ (31 - k) * (y / 4294967296))) = 4294967296 * (y / 4294967296) := by
      rw [← Int.mul_assoc, ← Int.mul_assoc, Int.mul_assoc (2 ^ k) 2, ← Int.pow_succ', ← Int.pow_add, show k + (31 - k + 1) = 32 by omega]
      rfl
    rw [h1]
    omega
  calc y / 2 ^ k % 2 = (y % 4294967296 + 2 ^ k * (2 * (2 ^ (31 - k) * (y / 4294967296)))) / 2 ^ k % 2 := by rw [← e]
    _ = _ := by rw [Int.add_mul_ediv_left _ _ hp, Int.add_mul_emod_self_left]
theorem test_is (y : Int) (k : Nat) (hk : k < 32) : (bits .and .i64 (y / 2 ^ k) 1 == 1) = (w32 y).getLsbD k := by
  rw [low_bit, bit_mod y k hk, ← Crc.toNat_w32]
  rw [BitVec.getLsbD, Nat.testBit_eq_decide_div_mod_eq]
  generalize (w32 y).toNat = n
  have e : (n : Int) / 2 ^ k % 2 = ((n / 2 ^ k % 2 : Nat) : Int) := by
    rw [Int.natCast_emod, Int.natCast_ediv, Int.natCast_pow]
    rfl
  rw [e, Bool.eq_iff_iff, beq_iff_eq, decide_eq_true_iff]
  omega
theorem shl_nat (j : Nat) (hj : j < 8) : (2 : Int) ^ j % 256 = ((2 ^ j : Nat) : Int) ∧ 2 ^ j < 256 ∧ BitVec.ofNat 32 (2 ^ j) = 1#32 <<< j := by
  have h : ∀ j : Fin 8, (2 : Int) ^ j.val % 256 = ((2 ^ j.val : Nat) : Int) ∧ 2 ^ j.val < 256 ∧ BitVec.ofNat 32 (2 ^ j.val) = 1#32 <<< j.val := by decide
  exact h ⟨j, hj⟩
theorem flip_val {x : Int} (h0 : 0 ≤ x) (h1 : x < 256) (j : Nat) (hj : j < 8) :
    (0 ≤ bits .xor .u8 x (2 ^ j % 256) ∧ bits .xor .u8 x (2 ^ j % 256) < 256) ∧ w32 (bits .xor .u8 x (2 ^ j % 256)) = w32 x ^^^ 1#32 <<< j := by
  obtain ⟨X, rfl⟩ := Int.eq_ofNat_of_zero_le h0
  obtain ⟨e, hy, hs⟩ := shl_nat j hj
  rw [e, u8_xor_nat X _ (by omega) hy]
  have hlt : X ^^^ 2 ^ j < 2 ^ 8 := Nat.xor_lt_two_pow (by omega) hy
  refine ⟨⟨by omega, by omega⟩, ?_⟩
  unfold w32
  rw [BitVec.ofInt_natCast, BitVec.ofInt_natCast, ← hs]
  apply BitVec.eq_of_toNat_eq
  rw [BitVec.toNat_xor, BitVec.toNat_ofNat, BitVec.toNat_ofNat, BitVec.toNat_ofNat, Nat.mod_eq_of_lt (by omega), Nat.mod_eq_of_lt (by omega), Nat.mod_eq_of_lt (by omega)]
theorem sofar_stay {w wr : World} {g n cap : Nat} {B : List Int} {A k : Nat} {M : BitVec 32} (h : Sofar w g n cap B A M k wr) (hb : M.getLsbD k = false) : Sofar w g n cap B A M (k + 1) wr := by
  obtain ⟨l, h1, h2, h3, h4, h5⟩ := h
  refine ⟨l, h1, h2, h3, h4, ?_⟩
  rw [h5]
  have : lows M (k + 1) = lows M k := by rw [lows, if_neg (by rw [hb]; decide)]
  rw [this]
theorem sofar_flip {w wr : World} {g n cap : Nat} {B l : List Int} {A k : Nat} {M : BitVec 32} {x : Int} (hA : A + 32 ≤ 8 * n) (hk : k < 32) (h1 : l.length = n) (h2 : ∀ u ∈ l, 0 ≤ u ∧ u < 256)
    (h3 : wr.ownsRow w.heap.size 5 1 (.slice (some ⟨g, 0, none⟩) n cap) n (l.map (Value.int .u8))) (h4 : Below w.heap.size w wr)
    (h5 : run (w32 0 ^^^ ones) (l.map w32) = run (w32 0 ^^^ ones) (B.map w32) ^^^ steps (8 * n - A) (lows M k)) (hx : l.getD ((A + k) / 8) 0 = x) (hb : M.getLsbD k = true) :
    Sofar w g n cap B A M (k + 1) (wr.setCell ⟨g, (A + k) / 8, none⟩ (.int .u8 (bits .xor .u8 x (2 ^ ((A + k) % 8) % 256)))) := by
  have hi : (A + k) / 8 < l.length := by omega
  have hxl : l[(A + k) / 8] = x := by rw [← hx, List.getD_eq_getElem?_getD, List.getElem?_eq_getElem hi]; rfl
  have hxb := h2 x (by rw [← hxl]; exact List.getElem_mem hi)
  obtain ⟨hu, hw⟩ := flip_val hxb.1 hxb.2 ((A + k) % 8) (by omega)
  generalize bits .xor .u8 x (2 ^ ((A + k) % 8) % 256) = u at hu hw
  have hst := h3.stored ((A + k) / 8) (.int .u8 u)
  have hg : w.heap.size ≤ g := (h3.lt g rfl).1
  refine ⟨l.set ((A + k) / 8) u, by rw [List.length_set]; exact h1, fun v hv => ?_, by rw [List.map_set]; exact hst.1, h4.setCell hg _, ?_⟩
  · rcases List.mem_or_eq_of_mem_set hv with hv | hv
    · exact h2 v hv
    · rw [hv]; exact hu
  · have hi' : (A + k) / 8 < (l.map w32).length := by rw [List.length_map]; exact hi
    have hr := Crc.run_set_flip (w32 0 ^^^ ones) (l.map w32) ((A + k) / 8) ((A + k) % 8) hi' (by omega)
    rw [List.getElem_map, hxl, ← hw] at hr
    rw [List.map_set, hr, h5, BitVec.xor_assoc]
    congr 1
    have hl : lows M (k + 1) = lows M k ^^^ 1#32 <<< k := by rw [lows, if_pos hb]
    rw [hl, Crc.steps_xor]
    congr 1
    rw [List.length_map, h1, show 8 * n - (8 * ((A + k) / 8) + (A + k) % 8) = 8 * n - A - k by omega]
    rw [show steps (8 * n - A) (1#32 <<< k) = steps ((8 * n - A - k) + k) (1#32 <<< k) by rw [Nat.sub_add_cancel (by omega)], Crc.steps_add, Crc.steps_bit k hk]
theorem sums_differ {l B : List Int} {d : Nat} {M : BitVec 32} (h : run (w32 0 ^^^ ones) (l.map w32) = run (w32 0 ^^^ ones) (B.map w32) ^^^ steps d (lows M 32)) (hM : M ≠ 0#32) : (sumOf 0 l == sumOf 0 B) = false := by
  rw [beq_eq_false_iff_ne]
  intro e
  unfold sumOf at e
  have e2 : run (w32 0 ^^^ ones) (l.map w32) ^^^ ones = run (w32 0 ^^^ ones) (B.map w32) ^^^ ones := BitVec.eq_of_toNat_eq (Int.ofNat.inj e)
  have e3 := congrArg (fun z => z ^^^ ones) e2
  simp only [BitVec.xor_assoc, BitVec.xor_self, BitVec.xor_zero] at e3
  rw [h, Crc.lows_all] at e3
  exact hM (Crc.steps_ne d (Crc.xor_self_cancel _ _ e3))
set_option maxRecDepth 100000 in
set_option maxHeartbeats 1000000 in
theorem walk_core (a : Option Addr) (c : Nat) (B : List Int) (A : Nat) (y : Int) (w : World) (h : BytesAt w (.slice a B.length c) B) (h1 : 8 ≤ B.length) (h2 : B.length ≤ 2000) (h3 : A + 32 ≤ 8 * B.length) (hM : Hid (w32 y ≠ 0#32)) (hM2 : (bits .and .i64 y 4294967295 == 0) = false) :
    Calls Try.prog 9 #[.slice a B.length c, .int .i64 A, .int .i64 y] w fun e w' => e = .returned (.bool true) ∧ Below w.heap.size w w' := by
  have H := Lib.hid h
  clear h
  go_enter Try.func9, Try.ntmps9
  go_wp2_with fail
  refine (Crc.alive_any _).mono ?_
  rintro e w1 ⟨rfl, hb1⟩
  have H1 := Lib.hid (H.out.keep (Holds.below hb1))
  go_wp2_with (at_builtin; refine Crc.wpList_append_bytes _ rfl (.const (.slice none 0 0)) (.tmp 41) rfl w.heap.size (.slice none 0 0) [] rfl (World.ownsRow_nil _ _ _ _) _ B rfl H1.out (by simp; omega) hb1.size ?_; intro v4 w4 hown4 hgrow4; have hb4 := hb1.grown hgrow4 hb1.size (fun _ hk => by cases hk); go_must (simp only [List.nil_append] at hown4); go_must (obtain ⟨g, cap, rfl, _, _⟩ := Crc.own_form hown4 (by omega)); go_must (have S0 := Lib.hid (sofar_zero (g := g) (cap := cap) hown4 hb4 (Crc.bytes_bd H1.out) (8 * B.length - A) (w32 y))); clear hown4 hgrow4 hb4)
  go_loopw [9] (fun i wr => ∃ k : Nat, k ≤ 32 ∧ i = .int .i64 k ∧ Sofar w g B.length cap B A (w32 y) k wr) (fun i _ => 32 - (intOf i).toNat)
  case atStart => exact ⟨0, by omega, rfl, S0.out⟩
  case round =>
    obtain ⟨k, hk, rfl, hso⟩ := hrel
    have Hso := Lib.hid hso
    clear hso
    by_cases hlt : k < 32
    · obtain ⟨l, hl, hby, hown, hbel, hrun⟩ := Hso.out
      have hi : (A + k) / 8 < l.length := by omega
      have hcell : wr.cell? ⟨g, (A + k) / 8, none⟩ = some (.int .u8 (l.getD ((A + k) / 8) 0)) := by
        rw [hown.cellAt _ (by omega), List.getElem?_map, List.getD_eq_getElem?_getD, List.getElem?_eq_getElem hi]; rfl
      have hfz := hown.frozenAt ((A + k) / 8)
      have hx := hby _ (Crc.getD_mem l 0 _ hi)
      generalize hxx : l.getD ((A + k) / 8) 0 = x at *
      have Hx := Lib.hid hxx
      have Hown := Lib.hid hown
      have Hrun := Lib.hid hrun
      have Hby := Lib.hid hby
      have Hl := Lib.hid hl
      have Hbel := Lib.hid hbel
      clear hxx hown hrun hby hl hbel
      obtain ⟨hx0, hx1⟩ := hx
      cases hbit : (w32 y).getLsbD k
      · have e1 := (test_is y k hlt).trans hbit
        have Hbit := Lib.hid hbit
        clear hbit
        go_wp2
        go_roundw
        case rel => exact ⟨k + 1, by omega, by go_num, sofar_stay Hso.out Hbit.out⟩
        case measure => simp [intOf]; omega
      · have e1 := (test_is y k hlt).trans hbit
        have Hbit := Lib.hid hbit
        clear hbit
        go_wp2
        go_roundw
        case rel => exact ⟨k + 1, by omega, by go_num, sofar_flip h3 hlt Hl.out Hby.out Hown.out Hbel.out Hrun.out Hx.out Hbit.out⟩
        case measure => simp [intOf]; omega
    · have hk32 : k = 32 := by omega
      subst hk32
      clear hlt
      obtain ⟨l, hl, hby, hown, hbel, hrun⟩ := Hso.out
      have Vx := Lib.hid (Crc.bytes_of_own (v := .slice (some ⟨g, 0, none⟩) B.length cap) (l := l) (by rw [hl]; exact hown) (by unfold maxLen; omega) hby)
      have Hne := Lib.hid (sums_differ hrun hM.out)
      have Hbel := Lib.hid hbel
      have Hb2 := Lib.hid (H.out.keep (Holds.below hbel))
      have hsz := hbel.size
      clear hl hby hown hbel hrun
      go_wp2_with fail
      refine (Crc.sum_any _ 1 [l] _ (Crc.rows_one Vx.out _ rfl)).mono ?_
      rintro e w6 ⟨rfl, rfl⟩
      rw [one_flat]
      go_wp2_with fail
      refine (Crc.sum_any _ 1 [B] _ (Crc.rows_one (Hb2.out.keep (Holds.alloc _ _)) (wr.heap.size + 1) (by simp))).mono ?_
      rintro e w6 ⟨rfl, rfl⟩
      rw [one_flat]
      have hne1 := Hne.out
      have hne2 : (sumOf 0 l != sumOf 0 B) = true := by rw [bne, hne1]; rfl
      go_wp2_with fail
      go_ret
      exact ⟨rfl, (Hbel.out.alloc hsz _).alloc (by simp; omega) _⟩
theorem out0 (a : Option Addr) (n c : Nat) (x y : Int) (w : World)  (q0 : (n : Int) < 8) :
    Calls Try.prog 9 #[.slice a n c, .int .i64 x, .int .i64 y] w fun e w' => e = .returned (.bool true) ∧ Below w.heap.size w w' := by
  go_enter Try.func9, Try.ntmps9
  go_wp2_with fail
  refine (Crc.alive_any _).mono ?_
  rintro e w1 ⟨rfl, hb1⟩
  go_wp2_with fail
  go_ret
  exact ⟨rfl, hb1⟩
theorem out1 (a : Option Addr) (n c : Nat) (x y : Int) (w : World) (q0 : 8 ≤ (n : Int)) (q1 : 2000 < (n : Int)) :
    Calls Try.prog 9 #[.slice a n c, .int .i64 x, .int .i64 y] w fun e w' => e = .returned (.bool true) ∧ Below w.heap.size w w' := by
  go_enter Try.func9, Try.ntmps9
  go_wp2_with fail
  refine (Crc.alive_any _).mono ?_
  rintro e w1 ⟨rfl, hb1⟩
  go_wp2_with fail
  go_ret
  exact ⟨rfl, hb1⟩
theorem out2 (a : Option Addr) (n c : Nat) (x y : Int) (w : World) (q0 : 8 ≤ (n : Int)) (q1 : (n : Int) ≤ 2000) (q2 : x < 0) :
    Calls Try.prog 9 #[.slice a n c, .int .i64 x, .int .i64 y] w fun e w' => e = .returned (.bool true) ∧ Below w.heap.size w w' := by
  go_enter Try.func9, Try.ntmps9
  go_wp2_with fail
  refine (Crc.alive_any _).mono ?_
  rintro e w1 ⟨rfl, hb1⟩
  go_wp2_with fail
  go_ret
  exact ⟨rfl, hb1⟩
theorem out3 (a : Option Addr) (n c : Nat) (x y : Int) (w : World) (q0 : 8 ≤ (n : Int)) (q1 : (n : Int) ≤ 2000) (q2 : 0 ≤ x) (q3 : 8 * (n : Int) - 32 < x) :
    Calls Try.prog 9 #[.slice a n c, .int .i64 x, .int .i64 y] w fun e w' => e = .returned (.bool true) ∧ Below w.heap.size w w' := by
  go_enter Try.func9, Try.ntmps9
  go_wp2_with fail
  refine (Crc.alive_any _).mono ?_
  rintro e w1 ⟨rfl, hb1⟩
  go_wp2_with fail
  go_ret
  exact ⟨rfl, hb1⟩
theorem out4 (a : Option Addr) (n c : Nat) (x y : Int) (w : World) (q0 : 8 ≤ (n : Int)) (q1 : (n : Int) ≤ 2000) (q2 : 0 ≤ x) (q3 : x ≤ 8 * (n : Int) - 32) (q4 : (bits .and .i64 y 4294967295 == 0) = true) :
    Calls Try.prog 9 #[.slice a n c, .int .i64 x, .int .i64 y] w fun e w' => e = .returned (.bool true) ∧ Below w.heap.size w w' := by
  go_enter Try.func9, Try.ntmps9
  go_wp2_with fail
  refine (Crc.alive_any _).mono ?_
  rintro e w1 ⟨rfl, hb1⟩
  go_wp2_with fail
  go_ret
  exact ⟨rfl, hb1⟩
theorem walk (a : Option Addr) (len c : Nat) (z : List Int) (x y : Int) (w : World) (h : Src w a len c z) (w1 : (Lit.int .i64 x).wf = true) (w2 : (Lit.int .i64 y).wf = true) :
    Calls Try.prog 9 #[.slice a len c, .int .i64 x, .int .i64 y] w fun e w' => e = .returned (.bool true) ∧ Below w.heap.size w w' := by
  refine (Classical.em (8 ≤ (len : Int))).elim (fun q0 => ?_) (fun no => out0 a len c x y w (by omega))
  refine (Classical.em ((len : Int) ≤ 2000)).elim (fun q1 => ?_) (fun no => out1 a len c x y w q0 (by omega))
  refine (Classical.em (0 ≤ x)).elim (fun q2 => ?_) (fun no => out2 a len c x y w q0 q1 (by omega))
  refine (Classical.em (x ≤ 8 * (len : Int) - 32)).elim (fun q3 => ?_) (fun no => out3 a len c x y w q0 q1 q2 (by omega))
  cases q4 : (bits .and .i64 y 4294967295 == 0)
  · have hM : w32 y ≠ 0#32 := by
      intro e
      rw [mask_int, e] at q4
      exact absurd q4 (by decide)
    obtain ⟨A, hA⟩ := Int.eq_ofNat_of_zero_le q2
    subst hA
    have h1 := h.all
    have h2 := h.len_take len h.2.1
    generalize z.take len = B at h1 h2
    subst h2
    exact walk_core a c B A y w h1 (by omega) (by omega) (by omega) hM q4
  · exact out4 a len c x y w q0 q1 q2 q3 q4

set_option maxRecDepth 100000 in
theorem lifted (os : Os) (started : os.Started) (H : Type) (enc : TypeId × Value → H) :
    ReturnsInHanded {} Try.checked os 9 .any (Rows.crcTurnedSpec.pre6 enc Try.prog Try.f9 Rows.crcTurnedRow.domain false) (Rows.crcTurnedSpec.post enc Try.prog Try.f9 false true false false) := by
  refine returnsInHanded_of_change (C := Try.checked) own started (by kernel_rfl) Try.func9
    (ChangeSpec.witness6 (enc := enc) (C := Try.checked) false ⟨#[], #[.slice none 0 0, .int .i64 0, .int .i64 0], []⟩ 8 (by kernel_rfl) (by kernel_rfl) (by kernel_rfl) (by kernel_rfl)) ?_
  intro W base args ds gs before hval0 hW hcnd _
  have hval : ∀ (j : Nat) t v, Try.f9.params[j]? = some t → args[j]? = some v → Value.okWide Try.prog W .any base t v := hval0
  have hW' := hW
  obtain ⟨p, q, hA0, hV, rfl, hfz, hnd⟩ := hW
  have hA : DataW.TrodAll enc Try.prog W 0 (fun _ => true) true Try.f9.params.toList args.toList ds p := hA0
  rw [Try.params9] at hA hval
  obtain ⟨v0, vs0, d0, ds0, p0, q0, hargs, rfl, rfl, h0, r0⟩ := trodAll_cons hA
  obtain ⟨v1, vs1, d1, ds1, p1, q1, rfl, rfl, rfl, h1, r1⟩ := trodAll_cons r0
  obtain ⟨v2, vs2, d2, ds2, p2, q2, rfl, rfl, rfl, h2, r2⟩ := trodAll_cons r1
  obtain ⟨rfl, rfl, rfl⟩ := trodAll_nil r2
  obtain rfl : args = #[v0, v1, v2] := by cases args; simp_all
  obtain ⟨rfl, rfl⟩ := trodVars_none hV
  have k0 := h0
  have lt0 : ∀ x ∈ p0, x.block < W.heap.size := by obtain ⟨m, hm⟩ := k0; exact DataW.trod_lt m _ _ _ hm
  obtain ⟨a0, len0, cap0, rfl⟩ := okWide_slice Try.underlying35 (hval 0 35 v0 rfl rfl)
  obtain ⟨z0, w0⟩ := Crc.bytes_of k0
  obtain ⟨a1, rfl, rfl, rfl, w1⟩ := open_int Try.underlying3 (hval 1 3 v1 rfl rfl) h1
  obtain ⟨a2, rfl, rfl, rfl, w2⟩ := open_int Try.underlying3 (hval 2 3 v2 rfl rfl) h2
  clear hA0 hval0
  refine (walk a0 len0 cap0 z0 a1 a2 W w0 w1 w2).mono fun e W' ⟨he, bel⟩ => ?_
  subst he
  exact ⟨_, rfl, _, _, _, [], _, [], hW', trodAll_mk1 (shut_bool Try.underlying4 _), (trodAll_cons_mk (Below.trod laidOut (by kernel_rfl) (of_decide_eq_true (by kernel_rfl)) k0 bel lt0) (trodAll_cons_mk (shut_int Try.underlying3 w1) (trodAll_cons_mk (shut_int Try.underlying3 w2) trodAll_mk0))), rfl, bel.frame _, fun h => by cases h⟩

theorem over : Rows.crcTurnedRow.holds Try.pinned (OpenSpec.ofChange Rows.crcTurnedSpec) :=
  OpenClaim.holds_of_wide 9 Try.f9 rfl rfl rfl rfl rfl rfl rfl ⟨rfl, rfl, rfl, rfl, rfl⟩ rfl rfl rfl rfl rfl (by kernel_rfl) Try.func9 (by kernel_rfl)
    (of_decide_eq_true (by kernel_rfl)) (by unfold Func.isWrapper; first | (rw [if_pos (by decide +kernel)]; kernel_rfl) | (rw [if_neg (by decide +kernel)]; exact ⟨rfl, rfl⟩))
    (fun os started H enc _ => lifted os started H enc)

/-- the statement -/
theorem proved : Rows.CrcTurnedSaid := over
#print axioms proved
end Go.Proofs.Ytahcjjelamknnaa.crcTurned
