/- What the functions of package crc and of its reference answer, as contracts over the translation, for any lists of bytes in memory. -/
import Derived.Test.YtahcjjelamknnaaRows
import Derived.Test.YtahcjjelamknnaaBits
import Derived.WalkKit
import Derived.WalkLawsBesides
import Derived.WalkSpells
import Derived.Outline
import Derived.RegionTactic
import Derived.LoopTactic
import Derived.Lib.Hide
import Derived.OwnWalk
import Derived.Below
import Derived.Laws.BitsAllLaws
namespace Go.Proofs.Ytahcjjelamknnaa.Crc
open Go.RowKit

/-- an integer as a word -/
def w32 (s : Int) : BitVec 32 := BitVec.ofInt 32 s
def ones : BitVec 32 := 4294967295#32
/-- the sum of a list behind a sum -/
def sumOf (s : Int) (l : List Int) : Int := ((run (w32 s ^^^ ones) (l.map w32) ^^^ ones).toNat : Int)

/-- a value that is a list of bytes in memory, nil let in -/
def BytesAt (w : World) (v : Value) (l : List Int) : Prop :=
  ∃ a c, v = .slice a l.length c ∧ l.length ≤ maxLen ∧ (∀ u ∈ l, 0 ≤ u ∧ u < 256) ∧
    (0 < l.length → ∃ b off, a = some ⟨b, off, none⟩ ∧ ∀ j, j < l.length → w.cell? ⟨b, off + j, none⟩ = some (.int .u8 (l.getD j 0))) ∧ (a = none → c = 0)
/-- the cells of a list of lists of bytes -/
def RowsAt (w : World) (a : Option Addr) (L : List (List Int)) : Prop :=
  L.length ≤ maxLen ∧ ∃ vs : List Value, vs.length = L.length ∧ (∀ i, i < L.length → BytesAt w (vs.getD i undef) (L.getD i [])) ∧
    (0 < L.length → ∃ b off, a = some ⟨b, off, none⟩ ∧ ∀ i, i < L.length → w.cell? ⟨b, off + i, none⟩ = some (vs.getD i undef))

theorem toNat_w32 (s : Int) : ((w32 s).toNat : Int) = s % 4294967296 := by
  unfold w32
  rw [BitVec.toNat_ofInt]
  omega
theorem toNat_byte (u : Int) (h : 0 ≤ u ∧ u < 256) : ((w32 u).toNat : Int) = u := by rw [toNat_w32]; omega
theorem bits_xor (x y : BitVec 32) : bits .xor .u32 (x.toNat : Int) (y.toNat : Int) = ((x ^^^ y).toNat : Int) := by
  have hx : (BitVec.ofInt 32 (x.toNat : Int)) = x := by rw [BitVec.ofInt_natCast]; simp
  have hy : (BitVec.ofInt 32 (y.toNat : Int)) = y := by rw [BitVec.ofInt_natCast]; simp
  show IntKind.u32.wrap ((BitVec.ofInt 32 (x.toNat : Int) ^^^ BitVec.ofInt 32 (y.toNat : Int)).toNat : Int) = _
  rw [hx, hy, IntKind.wrap_u32']
  have := (x ^^^ y).isLt
  omega
theorem bits_and (x y : BitVec 32) : bits .and .u32 (x.toNat : Int) (y.toNat : Int) = ((x &&& y).toNat : Int) := by
  have hx : (BitVec.ofInt 32 (x.toNat : Int)) = x := by rw [BitVec.ofInt_natCast]; simp
  have hy : (BitVec.ofInt 32 (y.toNat : Int)) = y := by rw [BitVec.ofInt_natCast]; simp
  show IntKind.u32.wrap ((BitVec.ofInt 32 (x.toNat : Int) &&& BitVec.ofInt 32 (y.toNat : Int)).toNat : Int) = _
  rw [hx, hy, IntKind.wrap_u32']
  have := (x &&& y).isLt
  omega
theorem start (s : Int) : bits .xor .u32 (s % 4294967296) 4294967295 = ((w32 s ^^^ ones).toNat : Int) := by
  rw [← toNat_w32, ← bits_xor]
  rfl
theorem take_more {α : Type} (l : List α) (d : α) (k : Nat) (h : k < l.length) : l.take (k + 1) = l.take k ++ [l.getD k d] := by
  rw [List.take_succ_eq_append_getElem h, List.getD_eq_getElem?_getD, List.getElem?_eq_getElem h]
  rfl
theorem bits_byte (d : BitVec 32) (x : Int) (h0 : 0 ≤ x) (h1 : x < 256) : bits .xor .u32 (d.toNat : Int) x = ((d ^^^ w32 x).toNat : Int) := by
  rw [← bits_xor, toNat_byte x ⟨h0, h1⟩]
theorem half (e : BitVec 32) : (e.toNat : Int) / (2 : Int) = ((e >>> 1).toNat : Int) := by
  rw [BitVec.toNat_ushiftRight, Nat.shiftRight_eq_div_pow]
  omega
theorem low_int (e : BitVec 32) : bits .and .u32 (e.toNat : Int) 1 = ((e &&& 1#32).toNat : Int) := bits_and e 1#32
theorem mul_int (y : BitVec 32) : 3988292384 * (y.toNat : Int) % 4294967296 = ((3988292384#32 * y).toNat : Int) := by
  rw [BitVec.toNat_mul, show (3988292384#32).toNat = 3988292384 from rfl]
  omega
theorem step_int (e : BitVec 32) : bits .xor .u32 ((e.toNat : Int) / 2) (3988292384 * bits .and .u32 (e.toNat : Int) 1 % 4294967296) = ((step e).toNat : Int) := by
  rw [half, low_int, mul_int, bits_xor]
  rfl
theorem finish (e : BitVec 32) : wrap64 (bits .xor .u32 (e.toNat : Int) 4294967295) = ((e ^^^ ones).toNat : Int) := by
  have h : bits .xor .u32 (e.toNat : Int) 4294967295 = ((e ^^^ ones).toNat : Int) := bits_xor e ones
  rw [h]
  have := (e ^^^ ones).isLt
  exact IntWalk.wrap64_in _ ⟨by omega, by omega⟩
theorem u32_eq {a b : Int} (h : a = b) : Value.int .u32 a = .int .u32 b := by rw [h]
theorem ret_i64 {a b : Int} (h : a = b) : Ending.returned (.int .i64 a) = .returned (.int .i64 b) := by rw [h]
theorem run_take_more (c : BitVec 32) (l : List Int) (m : Nat) (h : m < l.length) : run c ((l.take (m + 1)).map w32) = steps 8 (run c ((l.take m).map w32) ^^^ w32 (l.getD m 0)) := by
  rw [take_more l 0 m h, List.map_append, run_append]
  rfl
def flat (L : List (List Int)) (k : Nat) : List (BitVec 32) := (L.take k).flatten.map w32
theorem flat_zero (L : List (List Int)) : flat L 0 = [] := rfl
theorem flat_more (L : List (List Int)) (k : Nat) (h : k < L.length) : flat L (k + 1) = flat L k ++ (L.getD k []).map w32 := by
  unfold flat
  rw [take_more L [] k h]
  simp
theorem flat_all (L : List (List Int)) : flat L L.length = L.flatten.map w32 := by unfold flat; rw [List.take_length]

set_option maxHeartbeats 400000 in
theorem more_any (s : Int) (a : Option Addr) (c : Nat) (L : List (List Int)) (w : World) (h : RowsAt w a L) :
    Calls Try.prog 23 #[.int .i64 s, .slice a L.length c] w fun e w' => e = .returned (.int .i64 (sumOf s L.flatten)) ∧ w = w' := by
  obtain ⟨hL, vs, hvs, hin, hout⟩ := h
  unfold maxLen at hL
  have Hin := Lib.hid hin
  have Hout := Lib.hid hout
  clear hin hout hvs
  go_enter Try.func23, Try.ntmps23
  go_wp2
  go_loop [5, 15] (fun d i => ∃ k : Nat, k ≤ L.length ∧ i = .int .i64 k ∧ d = .int .u32 ((run (w32 s ^^^ ones) (flat L k)).toNat : Int)) (fun _ i => L.length - (intOf i).toNat)
  case atStart => exact ⟨0, Nat.zero_le _, rfl, by rw [start]; rfl⟩
  case round =>
    obtain ⟨k, hk, rfl, rfl⟩ := hrel
    generalize hC : run (w32 s ^^^ ones) (flat L k) = C
    have HC := Lib.hid hC
    clear hC
    by_cases hlt : k < L.length
    · obtain ⟨b, off, rfl, hcell⟩ := Hout.out (by omega)
      have hc := hcell k hlt
      obtain ⟨ai, ci, hv, hlen, hby, hcs, _⟩ := Hin.out k hlt
      rw [hv] at hc
      generalize hl : L.getD k [] = l at *
      have Hl := Lib.hid hl
      have Hcell := Lib.hid hcell
      have Hv := Lib.hid hv
      have Hby := Lib.hid hby
      have Hcs := Lib.hid hcs
      clear hl hcell hv hby hcs
      unfold maxLen at hlen
      go_wp2
      go_loop [5, 21] (fun d j => ∃ m : Nat, m ≤ l.length ∧ j = .int .i64 m ∧ d = .int .u32 ((run C ((l.take m).map w32)).toNat : Int)) (fun _ j => l.length - (intOf j).toNat)
      case atStart => exact ⟨0, Nat.zero_le _, rfl, rfl⟩
      case round =>
        obtain ⟨m, hm, rfl, rfl⟩ := hrel
        generalize hD : run C ((l.take m).map w32) = D
        have HD := Lib.hid hD
        clear hD
        by_cases hmt : m < l.length
        · obtain ⟨b2, off2, rfl, hcell2⟩ := Hcs.out (by omega)
          have hc2 := hcell2 m hmt
          have hx := Hby.out (l.getD m 0) (by rw [List.getD_eq_getElem?_getD, List.getElem?_eq_getElem hmt]; exact List.getElem_mem hmt)
          generalize hxx : l.getD m 0 = x at *
          have Hx := Lib.hid hxx
          have Hc2 := Lib.hid hcell2
          clear hxx hcell2
          obtain ⟨hx0, hx1⟩ := hx
          go_wp2
          go_loop [5, 29] (fun d r => ∃ q : Nat, q ≤ 8 ∧ r = .int .i64 q ∧ d = .int .u32 ((steps q (D ^^^ w32 x)).toNat : Int)) (fun _ r => 8 - (intOf r).toNat)
          case atStart => exact ⟨0, by omega, rfl, by rw [bits_byte _ _ hx0 hx1]; rfl⟩
          case round =>
            obtain ⟨q, hq, rfl, rfl⟩ := hrel
            generalize hE : steps q (D ^^^ w32 x) = E
            have HE := Lib.hid hE
            clear hE
            by_cases hqt : q < 8
            · go_wp2
              go_round
              case rel => exact ⟨q + 1, by omega, by go_num, u32_eq (by rw [step_int, ← HE.out]; rfl)⟩
              case measure => simp [intOf]; omega
            · have hq8 : q = 8 := by omega
              subst hq8
              go_wp2
              go_round
              case rel => exact ⟨m + 1, by omega, by go_num, u32_eq (by rw [run_take_more C l m hmt, HD.out, Hx.out, HE.out])⟩
              case measure => simp [intOf]; omega
        · have hmm : m = l.length := by omega
          subst hmm
          go_wp2
          go_round
          case rel => exact ⟨k + 1, by omega, by go_num, u32_eq (by rw [flat_more L k hlt, run_append, HC.out, Hl.out, ← HD.out, List.take_length])⟩
          case measure => simp [intOf]; omega
    · have hkk : k = L.length := by omega
      have HF := Lib.hid (flat_all L)
      go_wp2
      go_ret
      exact ⟨ret_i64 (by subst hkk; rw [finish, ← HC.out, HF.out]; rfl), rfl⟩
end Go.Proofs.Ytahcjjelamknnaa.Crc
