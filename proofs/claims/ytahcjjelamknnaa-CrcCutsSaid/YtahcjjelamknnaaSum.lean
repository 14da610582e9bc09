/- What Sum of package crc, Sum and More of its reference, and the law's 'alive' answer, as contracts over the translation. -/
import Derived.Test.YtahcjjelamknnaaCrc
import Derived.Lib.SlBytesConst
namespace Go.Proofs.Ytahcjjelamknnaa.Crc
open Go.RowKit

/-- what is there in one world is there in the other -/
def Holds (w w' : World) : Prop := ∀ p u, w.cell? p = some u → w'.cell? p = some u
theorem Holds.refl (w : World) : Holds w w := fun _ _ h => h
theorem Holds.trans {a b c : World} (h : Holds a b) (k : Holds b c) : Holds a c := fun p u e => k p u (h p u e)
theorem Holds.alloc (w : World) (o : Obj) : Holds w (w.alloc o) := fun p _ h => (World.cell?_alloc_lt w o p (World.block_lt_of_cell? w p h)).trans h
theorem Holds.below {w w' : World} (hb : Below w.heap.size w w') : Holds w w' := fun p _ h => (hb.cell (World.block_lt_of_cell? w p h)).trans h
theorem BytesAt.keep {w w' : World} {v : Value} {l : List Int} (h : BytesAt w v l) (k : Holds w w') : BytesAt w' v l := by
  obtain ⟨a, c, hv, h1, h2, h3, h4⟩ := h
  refine ⟨a, c, hv, h1, h2, fun hp => ?_, h4⟩
  obtain ⟨b, off, ha, hc⟩ := h3 hp
  exact ⟨b, off, ha, fun j hj => k _ _ (hc j hj)⟩
theorem RowsAt.keep {w w' : World} {a : Option Addr} {L : List (List Int)} (h : RowsAt w a L) (k : Holds w w') : RowsAt w' a L := by
  obtain ⟨h0, vs, h1, h2, h3⟩ := h
  refine ⟨h0, vs, h1, fun i hi => (h2 i hi).keep k, fun hp => ?_⟩
  obtain ⟨b, off, ha, hc⟩ := h3 hp
  exact ⟨b, off, ha, fun j hj => k _ _ (hc j hj)⟩
theorem rows_nil (w : World) : RowsAt w none [] := ⟨by simp [maxLen], [], rfl, fun i hi => absurd hi (Nat.not_lt_zero _), fun h => absurd h (Nat.lt_irrefl _)⟩
theorem rows_one {w : World} {v : Value} {l : List Int} (h : BytesAt w v l) (g : Nat) (hg : g = w.heap.size) : RowsAt (w.alloc (.cells #[v] 35)) (some ⟨g, 0, none⟩) [l] := by
  subst hg
  refine ⟨by simp [maxLen], [v], rfl, fun i hi => ?_, fun _ => ⟨w.heap.size, 0, rfl, fun i hi => ?_⟩⟩
  · obtain rfl : i = 0 := by simpa using hi
    exact h.keep (Holds.alloc w _)
  · obtain rfl : i = 0 := by simpa using hi
    simp
theorem mask (s : Int) : bits .and .i64 s 4294967295 % 4294967296 = s % 4294967296 := by
  have h : (BitVec.ofInt 64 s &&& BitVec.ofInt 64 4294967295).toNat = (s % 4294967296).toNat := by
    rw [BitVec.toNat_and, show (BitVec.ofInt 64 4294967295).toNat = 2 ^ 32 - 1 from by decide, Nat.and_two_pow_sub_one_eq_mod, BitVec.toNat_ofInt]
    omega
  show IntKind.i64.wrap ((BitVec.ofInt 64 s &&& BitVec.ofInt 64 4294967295).toNat : Int) % 4294967296 = _
  rw [h, IntKind.wrap_i64]
  omega
theorem low_no {e : BitVec 32} (h : e &&& 1#32 = 0#32) : (bits .and .u32 (e.toNat : Int) 1 == 1) = false := by rw [low_int, h]; rfl
theorem low_yes {e : BitVec 32} (h : e &&& 1#32 = 1#32) : (bits .and .u32 (e.toNat : Int) 1 == 1) = true := by rw [low_int, h]; rfl
theorem step_no {e : BitVec 32} (h : e &&& 1#32 = 0#32) : (e.toNat : Int) / (2 : Int) = ((step e).toNat : Int) := by rw [half, step_low0 h]
theorem step_yes {e : BitVec 32} (h : e &&& 1#32 = 1#32) : bits .xor .u32 ((e.toNat : Int) / (2 : Int)) 3988292384 = ((step e).toNat : Int) := by
  rw [half, step_low1 h, ← bits_xor]; rfl
theorem sum_any (a : Option Addr) (c : Nat) (L : List (List Int)) (w : World) (h : RowsAt w a L) :
    Calls Try.prog 21 #[.slice a L.length c] w fun e w' => e = .returned (.int .i64 (sumOf 0 L.flatten)) ∧ w = w' := by
  have H := Lib.hid h
  clear h
  go_enter Try.func21, Try.ntmps21
  go_wp2_with fail
  refine (more_any 0 a c L _ H.out).mono ?_
  rintro e w' ⟨rfl, rfl⟩
  go_wp2_with fail
  go_ret
  exact ⟨rfl, rfl⟩

set_option maxHeartbeats 400000 in
theorem rmore_any (s : Int) (v : Value) (l : List Int) (w : World) (h : BytesAt w v l) :
    Calls Try.prog 24 #[.int .i64 s, v] w fun e w' => e = .returned (.int .i64 (sumOf s l)) ∧ w = w' := by
  obtain ⟨a, c, rfl, hlen, hby, hcs, _⟩ := h
  have Hby := Lib.hid hby
  have Hcs := Lib.hid hcs
  clear hby hcs
  unfold maxLen at hlen
  go_enter Try.func24, Try.ntmps24
  go_wp2
  go_loop [5, 6] (fun d i => ∃ m : Nat, m ≤ l.length ∧ i = .int .i64 m ∧ d = .int .u32 ((run (w32 s ^^^ ones) ((l.take m).map w32)).toNat : Int)) (fun _ i => l.length - (intOf i).toNat)
  case atStart => exact ⟨0, Nat.zero_le _, rfl, by rw [mask, start]; rfl⟩
  case round =>
    obtain ⟨m, hm, rfl, rfl⟩ := hrel
    generalize hD : run (w32 s ^^^ ones) ((l.take m).map w32) = D
    have HD := Lib.hid hD
    clear hD
    by_cases hmt : m < l.length
    · obtain ⟨b2, off2, rfl, hcell2⟩ := Hcs.out (by omega)
      have hc2 := hcell2 m hmt
      have hx := Hby.out (l.getD m 0) (by rw [List.getD_eq_getElem?_getD, List.getElem?_eq_getElem hmt]; exact List.getElem_mem hmt)
      generalize hxx : l.getD m 0 = x at *
      have Hx := Lib.hid hxx
      have Hc2 := Lib.hid hcell2
      clear hxx hcell2
      obtain ⟨hx0, hx1⟩ := hx
      go_wp2
      go_loop [5, 7] (fun d r => ∃ q : Nat, q ≤ 8 ∧ r = .int .i64 q ∧ d = .int .u32 ((steps q (D ^^^ w32 x)).toNat : Int)) (fun _ r => 8 - (intOf r).toNat)
      case atStart => exact ⟨0, by omega, rfl, by rw [bits_byte _ _ hx0 hx1]; rfl⟩
      case round =>
        obtain ⟨q, hq, rfl, rfl⟩ := hrel
        generalize hE : steps q (D ^^^ w32 x) = E
        have HE := Lib.hid hE
        clear hE
        by_cases hqt : q < 8
        · rcases low_cases E with he | he
          · have e1 := low_no he
            have He := Lib.hid he
            clear he
            go_wp2
            go_round
            case rel => exact ⟨q + 1, by omega, by go_num, u32_eq (by rw [step_no He.out, ← HE.out]; rfl)⟩
            case measure => simp [intOf]; omega
          · have e1 := low_yes he
            have He := Lib.hid he
            clear he
            go_wp2
            go_round
            case rel => exact ⟨q + 1, by omega, by go_num, u32_eq (by rw [step_yes He.out, ← HE.out]; rfl)⟩
            case measure => simp [intOf]; omega
        · have hq8 : q = 8 := by omega
          subst hq8
          go_wp2
          go_round
          case rel => exact ⟨m + 1, by omega, by go_num, u32_eq (by rw [run_take_more _ l m hmt, HD.out, Hx.out, HE.out])⟩
          case measure => simp [intOf]; omega
    · have hmm : m = l.length := by omega
      subst hmm
      go_wp2
      go_ret
      exact ⟨ret_i64 (by rw [finish, ← HD.out, List.take_length]; rfl), rfl⟩
theorem rsum_any (v : Value) (l : List Int) (w : World) (h : BytesAt w v l) : Calls Try.prog 22 #[v] w fun e w' => e = .returned (.int .i64 (sumOf 0 l)) ∧ w = w' := by
  have H := Lib.hid h
  clear h
  go_enter Try.func22, Try.ntmps22
  go_wp2_with fail
  refine (rmore_any 0 v l _ H.out).mono ?_
  rintro e w' ⟨rfl, rfl⟩
  go_wp2_with fail
  go_ret
  exact ⟨rfl, rfl⟩

def nine : List Int := [49, 50, 51, 52, 53, 54, 55, 56, 57]
theorem nine_sum : sumOf 0 [nine].flatten = 3421780262 := by decide +kernel
theorem nine_at (w : World) : BytesAt (w.alloc (.cells #[.int .u8 49, .int .u8 50, .int .u8 51, .int .u8 52, .int .u8 53, .int .u8 54, .int .u8 55, .int .u8 56, .int .u8 57] 5 (9, 10))) (.slice (some ⟨w.heap.size, 0, none⟩) 9 9) nine := by
  refine ⟨some ⟨w.heap.size, 0, none⟩, 9, rfl, by simp [maxLen, nine], by decide, fun _ => ⟨w.heap.size, 0, rfl, fun j hj => ?_⟩, fun h => by cases h⟩
  rw [World.cell?_alloc_mark]
  have h : ∀ j : Fin 9, (#[Value.int .u8 49, .int .u8 50, .int .u8 51, .int .u8 52, .int .u8 53, .int .u8 54, .int .u8 55, .int .u8 56, .int .u8 57] : Array Value)[0 + j.val]? = some (.int .u8 (nine.getD j.val 0)) := by
    intro j
    match j with
    | 0 => rfl
    | 1 => rfl
    | 2 => rfl
    | 3 => rfl
    | 4 => rfl
    | 5 => rfl
    | 6 => rfl
    | 7 => rfl
    | 8 => rfl
  exact h ⟨j, hj⟩
theorem alive_any (w : World) : Calls Try.prog 19 #[] w fun e w' => e = .returned (.bool true) ∧ Below w.heap.size w w' := by
  have H := Lib.hid nine_sum
  have kc := fun (w : World) (C : Array Value) (n c : Nat) => Lib.run_convert_bytes_const (P := Try.prog) w 35 5 C n c Try.underlying35 Try.underlying5
  go_enter Try.func19, Try.ntmps19
  go_wp2_with fail
  refine (sum_any _ 1 [nine] _ (rows_one (nine_at w) (w.heap.size + 1) (by simp))).mono ?_
  rintro e w' ⟨rfl, rfl⟩
  rw [H.out]
  go_wp2_with fail
  go_ret
  exact ⟨rfl, ((Below.refl _ _).alloc (Nat.le_refl _) _).alloc (by simp) _⟩
end Go.Proofs.Ytahcjjelamknnaa.Crc
