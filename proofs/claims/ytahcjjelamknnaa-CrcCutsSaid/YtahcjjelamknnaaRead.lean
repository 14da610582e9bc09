/- From the form's reading of an argument to a list: a slice of bytes, a slice of integers, a slice of slices of bytes. -/
import Derived.Test.YtahcjjelamknnaaSum
import Derived.ProofKit
import Derived.OpenShut
import Derived.ChangeOld
import Derived.Below
import Derived.Deep.Matrix
namespace Go.Proofs.Ytahcjjelamknnaa.Crc
open Go.ChangeShapes Go.WideShapes Go.ChangeAt Go.RowKit

theorem own : ownKnob Try.prog.godebug = none := by kernel_rfl
theorem laidOut : laidOutB Try.prog = true := by kernel_rfl

theorem plain_addr {w : World} {a : Addr} {u : Value} (h : w.cell? (a.add 0) = some u) : ∃ b off, a = ⟨b, off, none⟩ ∧ ∀ j, a.add j = ⟨b, off + j, none⟩ := by
  obtain ⟨b, off, spot⟩ := a
  have hs : spot = none := by simpa [Addr.add] using World.cell?_spot h
  subst hs
  refine ⟨b, off, rfl, fun j => ?_⟩
  unfold Addr.add
  by_cases hj : j = 0
  · subst hj; simp
  · simp [hj]
/-- the first n of a row of numbers that are bytes -/
theorem bytes_row {w : World} {a : Option Addr} {n c : Nat} {zs : List Int} (hl : n ≤ c) (hm : c ≤ maxLen) (hz : zs.length = c) (hw : ∀ u ∈ zs, (Lit.int .u8 u).wf = true) (hn : a = none → c = 0)
    (hc : ∀ a', a = some a' → ∀ j, j < c → w.cell? (a'.add j) = some (.int .u8 (zs.getD j 0))) : BytesAt w (.slice a n c) (zs.take n) := by
  have hlen : (zs.take n).length = n := by rw [List.length_take]; omega
  refine ⟨a, c, by rw [hlen], by omega, fun u hu => ⟨(bounds_u8 (hw u (List.mem_of_mem_take hu))).1, by have := (bounds_u8 (hw u (List.mem_of_mem_take hu))).2; omega⟩, fun hp => ?_, hn⟩
  rw [hlen] at hp
  rcases a with _ | a'
  · have := hn rfl; omega
  · obtain ⟨b, off, rfl, hadd⟩ := plain_addr (hc a' rfl 0 (by omega))
    refine ⟨b, off, rfl, fun j hj => ?_⟩
    rw [hlen] at hj
    rw [← hadd, hc _ rfl j (by omega), List.getD_eq_getElem?_getD, List.getD_eq_getElem?_getD, List.getElem?_take, if_pos hj]

theorem range_getD {α : Type} (f : Nat → α) (d : α) (n i : Nat) (h : i < n) : ((List.range n).map f).getD i d = f i := by
  rw [List.getD_eq_getElem?_getD, List.getElem?_map, List.getElem?_range h]
  rfl
/-- a slice of slices of bytes, as it is read -/
theorem rows_of {H : Type} {enc : TypeId × Value → H} {W : World} {base : Nat} {held : Bool} {a : Option Addr} {len cap : Nat} {d : DataW H} {p : List MemPlace}
    (h : DataW.Trod enc Try.prog W base (fun _ => true) held 34 (.slice a len cap) d p) : ∃ L : List (List Int), len = L.length ∧ RowsAt W a L := by
  obtain ⟨fuel, hf⟩ := h
  rcases Deep.open_int_rows Try.underlying34 Try.underlying35 Try.underlying5 (by kernel_rfl) (by kernel_rfl) hf with ⟨hcs, _⟩ | ⟨a1, l1, c1, A, N, C, Z, hcs, _, hl, hm, _, hr⟩
  · simp [Value.cells] at hcs
    obtain ⟨rfl, rfl, rfl⟩ := hcs
    exact ⟨[], rfl, rows_nil W⟩
  · simp [Value.cells] at hcs
    obtain ⟨rfl, rfl, rfl⟩ := hcs
    refine ⟨(List.range len).map fun r => (Z r).take (N r), by simp, by simp; omega, (List.range len).map fun r => .slice (A r) (N r) (C r), by simp, fun i hi => ?_, fun hp => ?_⟩
    · have hi' : i < len := by simpa using hi
      rw [range_getD _ _ _ _ hi', range_getD _ _ _ _ hi']
      obtain ⟨_, r1, r2, r3, r4, r5, r6⟩ := hr i (by omega)
      exact bytes_row r1 r2 r3 r4 r5 fun a' e => (r6 a' e).2
    · have hp' : 0 < len := by simpa using hp
      obtain ⟨b, off, rfl, hadd⟩ := plain_addr (hr 0 (by omega)).1
      refine ⟨b, off, rfl, fun i hi => ?_⟩
      have hi' : i < len := by simpa using hi
      rw [range_getD _ _ _ _ hi', ← hadd]
      exact (hr i (by omega)).1
/-- a slice of bytes that came in: its row up to the capacity -/
def Src (W : World) (a : Option Addr) (len cap : Nat) (z : List Int) : Prop := z.length = cap ∧ len ≤ cap ∧ BytesAt W (.slice a cap cap) z
theorem bytes_of {H : Type} {enc : TypeId × Value → H} {W : World} {base : Nat} {held : Bool} {a : Option Addr} {len cap : Nat} {d : DataW H} {p : List MemPlace}
    (h : DataW.Trod enc Try.prog W base (fun _ => true) held 35 (.slice a len cap) d p) : ∃ z : List Int, Src W a len cap z := by
  obtain ⟨fuel, hf⟩ := h
  rcases open_ints Try.underlying35 Try.underlying5 (by kernel_rfl) hf with ⟨hcs, _⟩ | ⟨x, l, c, zs, hcs, _, hl, hm, hz, _, hcell, hwz⟩
  · simp [Value.cells] at hcs
    obtain ⟨rfl, rfl, rfl⟩ := hcs
    exact ⟨[], rfl, Nat.le_refl _, none, 0, rfl, by simp, by simp, fun h => absurd h (Nat.lt_irrefl _), fun _ => rfl⟩
  · simp [Value.cells] at hcs
    obtain ⟨rfl, rfl, rfl⟩ := hcs
    have hz' : zs.length = cap := by simpa using hz
    refine ⟨zs, hz', hl, ?_⟩
    have := bytes_row (w := W) (a := some x) (n := cap) (c := cap) (zs := zs) (Nat.le_refl _) hm hz' hwz (fun e => by cases e) (fun a' e j hj => by cases e; exact hcell j (by omega))
    rwa [List.take_of_length_le (by omega)] at this
theorem Src.keep {w w' : World} {a : Option Addr} {len cap : Nat} {z : List Int} (h : Src w a len cap z) (k : Holds w w') : Src w' a len cap z := ⟨h.1, h.2.1, h.2.2.keep k⟩
theorem Src.small {w : World} {a : Option Addr} {len cap : Nat} {z : List Int} (h : Src w a len cap z) : cap ≤ maxLen := by
  obtain ⟨hz, _, _, _, _, hm, _⟩ := h
  omega
theorem Src.byte {w : World} {a : Option Addr} {len cap : Nat} {z : List Int} (h : Src w a len cap z) : ∀ u ∈ z, 0 ≤ u ∧ u < 256 := by
  obtain ⟨_, _, _, _, _, _, hb, _⟩ := h
  exact hb
/-- a piece of a list of bytes that came in, from its beginning -/
theorem Src.front {w : World} {a : Option Addr} {len cap : Nat} {z : List Int} (h : Src w a len cap z) (n : Nat) (hn : n ≤ cap) : BytesAt w (.slice a n cap) (z.take n) := by
  obtain ⟨hz, _, a', c, hv, hm, hb, hc, hnil⟩ := h
  injection hv with h1 h2 h3
  subst h1 h3
  have hlen : (z.take n).length = n := by rw [List.length_take]; omega
  refine ⟨a, cap, by rw [hlen], by omega, fun u hu => hb u (List.mem_of_mem_take hu), fun hp => ?_, hnil⟩
  rw [hlen] at hp
  obtain ⟨b, off, ha, hcell⟩ := hc (by omega)
  refine ⟨b, off, ha, fun j hj => ?_⟩
  rw [hlen] at hj
  rw [hcell j (by omega), List.getD_eq_getElem?_getD, List.getD_eq_getElem?_getD, List.getElem?_take, if_pos hj]
theorem Src.all {w : World} {a : Option Addr} {len cap : Nat} {z : List Int} (h : Src w a len cap z) : BytesAt w (.slice a len cap) (z.take len) := h.front len h.2.1
theorem Src.len_take {w : World} {a : Option Addr} {len cap : Nat} {z : List Int} (h : Src w a len cap z) (n : Nat) (hn : n ≤ cap) : (z.take n).length = n := by
  have := h.1
  rw [List.length_take]; omega
end Go.Proofs.Ytahcjjelamknnaa.Crc
