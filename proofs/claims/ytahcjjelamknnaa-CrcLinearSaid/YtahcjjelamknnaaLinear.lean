/- CrcLinear: of three lists of one length the sums go together as their bits do. The law's walk, for any three lists of bytes, and the statement. -/
import Derived.Test.YtahcjjelamknnaaApp
import Derived.Test.YtahcjjelamknnaaRead
import Derived.Test.YtahcjjelamknnaaInv
import Derived.RegionTactic
import Derived.ChangeAlike
import Derived.StillTailTactics
import Derived.BigQuiet
import Derived.Deep.DeepCutAuto
namespace Go.Proofs.Ytahcjjelamknnaa.crcLinear
open Go.ChangeShapes Go.WideShapes Go.ChangeAt Go.RowKit
open Crc (own laidOut Holds RowsAt BytesAt Src sumOf w32 ones run)
set_option linter.unusedVariables false

/-! ### The plain law -/
/-- the bytes of three lists, bit by bit -/
def x3 (a b c : Int) : Int := bits .xor .u8 (bits .xor .u8 a b) c
theorem w32_xor (X Y : Nat) (hx : X < 256) (hy : Y < 256) : w32 ((X ^^^ Y : Nat) : Int) = w32 (X : Int) ^^^ w32 (Y : Int) := by
  have hlt : X ^^^ Y < 2 ^ 8 := Nat.xor_lt_two_pow (by omega) (by omega)
  unfold w32
  rw [BitVec.ofInt_natCast, BitVec.ofInt_natCast, BitVec.ofInt_natCast]
  apply BitVec.eq_of_toNat_eq
  rw [BitVec.toNat_xor, BitVec.toNat_ofNat, BitVec.toNat_ofNat, BitVec.toNat_ofNat, Nat.mod_eq_of_lt (by omega), Nat.mod_eq_of_lt (by omega), Nat.mod_eq_of_lt (by omega)]
theorem x3_is {a b c : Int} (ha : 0 ≤ a ∧ a < 256) (hb : 0 ≤ b ∧ b < 256) (hc : 0 ≤ c ∧ c < 256) : (0 ≤ x3 a b c ∧ x3 a b c < 256) ∧ w32 (x3 a b c) = w32 a ^^^ w32 b ^^^ w32 c := by
  obtain ⟨A, rfl⟩ := Int.eq_ofNat_of_zero_le ha.1
  obtain ⟨B, rfl⟩ := Int.eq_ofNat_of_zero_le hb.1
  obtain ⟨C, rfl⟩ := Int.eq_ofNat_of_zero_le hc.1
  have h1 : A ^^^ B < 2 ^ 8 := Nat.xor_lt_two_pow (by omega) (by omega)
  have h2 : (A ^^^ B) ^^^ C < 2 ^ 8 := Nat.xor_lt_two_pow h1 (by omega)
  unfold x3
  rw [u8_xor_nat A B (by omega) (by omega), u8_xor_nat _ C (by omega) (by omega)]
  refine ⟨⟨by omega, by omega⟩, ?_⟩
  rw [w32_xor _ C (by omega) (by omega), w32_xor A B (by omega) (by omega)]
theorem i64_xor (x y : BitVec 32) : bits .xor .i64 (x.toNat : Int) (y.toNat : Int) = ((x ^^^ y).toNat : Int) := by
  have hx := x.isLt
  have hy := y.isLt
  have e1 : (BitVec.ofInt 64 (x.toNat : Int)).toNat = x.toNat := by rw [BitVec.ofInt_natCast, BitVec.toNat_ofNat]; omega
  have e2 : (BitVec.ofInt 64 (y.toNat : Int)).toNat = y.toNat := by rw [BitVec.ofInt_natCast, BitVec.toNat_ofNat]; omega
  show IntKind.i64.wrap ((BitVec.ofInt 64 (x.toNat : Int) ^^^ BitVec.ofInt 64 (y.toNat : Int)).toNat : Int) = _
  rw [BitVec.toNat_xor, e1, e2, ← BitVec.toNat_xor, IntKind.wrap_i64]
  have := (x ^^^ y).isLt
  omega
theorem xor3_of : ∀ (l a b c : List Int), l.length = a.length → l.length = b.length → l.length = c.length → (∀ u ∈ a, 0 ≤ u ∧ u < 256) → (∀ u ∈ b, 0 ≤ u ∧ u < 256) → (∀ u ∈ c, 0 ≤ u ∧ u < 256) →
    (∀ j, j < l.length → l.getD j 0 = x3 (a.getD j 0) (b.getD j 0) (c.getD j 0)) → l.map w32 = Crc.xor3 (a.map w32) (b.map w32) (c.map w32)
  | [], [], [], [], _, _, _, _, _, _, _ => rfl
  | x :: l, p :: a, q :: b, r :: c, h1, h2, h3, ha, hb, hc, h => by
    have h0 := h 0 (by simp)
    simp only [List.getD_cons_zero] at h0
    have ih := xor3_of l a b c (by simpa using h1) (by simpa using h2) (by simpa using h3) (fun u hu => ha u (List.mem_cons_of_mem _ hu)) (fun u hu => hb u (List.mem_cons_of_mem _ hu)) (fun u hu => hc u (List.mem_cons_of_mem _ hu))
      fun j hj => by
        have := h (j + 1) (by simpa using hj)
        simpa only [List.getD_cons_succ] using this
    simp only [List.map_cons, Crc.xor3, ih, h0]
    rw [(x3_is (ha p (List.mem_cons_self ..)) (hb q (List.mem_cons_self ..)) (hc r (List.mem_cons_self ..))).2]
  | [], _ :: _, _, _, h, _, _, _, _, _, _ => by simp at h
  | [], _, _ :: _, _, _, h, _, _, _, _, _ => by simp at h
  | [], _, _, _ :: _, _, _, h, _, _, _, _ => by simp at h
  | _ :: _, [], _, _, h, _, _, _, _, _, _ => by simp at h
  | _ :: _, _, [], _, _, h, _, _, _, _, _ => by simp at h
  | _ :: _, _, _, [], _, _, h, _, _, _, _ => by simp at h
theorem sums_go {l a b c : List Int} (h1 : l.length = a.length) (h2 : l.length = b.length) (h3 : l.length = c.length) (ha : ∀ u ∈ a, 0 ≤ u ∧ u < 256) (hb : ∀ u ∈ b, 0 ≤ u ∧ u < 256) (hc : ∀ u ∈ c, 0 ≤ u ∧ u < 256)
    (h : ∀ j, j < l.length → l.getD j 0 = x3 (a.getD j 0) (b.getD j 0) (c.getD j 0)) : sumOf 0 l = bits .xor .i64 (bits .xor .i64 (sumOf 0 a) (sumOf 0 b)) (sumOf 0 c) := by
  have e := xor3_of l a b c h1 h2 h3 ha hb hc h
  have hr := Crc.run_xor3 (w32 0 ^^^ ones) (w32 0 ^^^ ones) (w32 0 ^^^ ones) (a.map w32) (b.map w32) (c.map w32) (by simp; omega) (by simp; omega)
  rw [BitVec.xor_self, BitVec.zero_xor, ← e] at hr
  unfold sumOf
  rw [i64_xor, i64_xor, hr]
  congr 2
  generalize run (w32 0 ^^^ ones) (a.map w32) = p
  generalize run (w32 0 ^^^ ones) (b.map w32) = q
  generalize run (w32 0 ^^^ ones) (c.map w32) = r
  rw [Crc.xor4 p ones q ones, BitVec.xor_self, BitVec.xor_zero, ← BitVec.xor_assoc]

/-! ### The loop -/
/-- what the loop keeps: the first k places are done -/
def Sofar (w : World) (g n : Nat) (za zb zc : List Int) (k : Nat) (wr : World) : Prop :=
  ∃ l : List Int, l.length = n ∧ (∀ u ∈ l, 0 ≤ u ∧ u < 256) ∧ wr.ownsRow w.heap.size 5 1 (.slice (some ⟨g, 0, none⟩) n n) n (l.map (Value.int .u8)) ∧ Below w.heap.size w wr ∧
    ∀ j, j < k → l.getD j 0 = x3 (za.getD j 0) (zb.getD j 0) (zc.getD j 0)
theorem sofar_zero {w w4 : World} {g n : Nat} (hown : w4.ownsRow w.heap.size 5 1 (.slice (some ⟨g, 0, none⟩) n n) n (madeCells (Value.int .u8 0).cells (n * 1)).toList) (hb : Below w.heap.size w w4) (za zb zc : List Int) : Sofar w g n za zb zc 0 w4 := by
  refine ⟨List.replicate n 0, by simp, fun u hu => ?_, ?_, hb, fun j hj => absurd hj (Nat.not_lt_zero _)⟩
  · rw [(List.mem_replicate.1 hu).2]; omega
  · have e : (madeCells (Value.int .u8 0).cells (n * 1)).toList = (List.replicate n 0).map (Value.int .u8) := by
      rw [List.map_replicate, Nat.mul_one]
      exact toList_madeCells_one (.int .u8 0) n
    rw [e] at hown
    exact hown
theorem cell_of {w wr : World} {a : Option Addr} {len c : Nat} {z : List Int} (h : Src w a len c z) (hs : Below w.heap.size w wr) (j : Nat) (hj : j < len) :
    ∃ b off, a = some ⟨b, off, none⟩ ∧ wr.cell? ⟨b, off + j, none⟩ = some (.int .u8 (z.getD j 0)) ∧ 0 ≤ z.getD j 0 ∧ z.getD j 0 < 256 := by
  have hby := h.byte
  obtain ⟨hz, hle, a', c', hv, _, _, hc, _⟩ := h
  injection hv with e1 e2 e3
  subst e1 e3
  obtain ⟨b, off, ha, hcell⟩ := hc (by omega)
  have h1 := hcell j (by omega)
  have hm := hby (z.getD j 0) (Crc.getD_mem z 0 j (by omega))
  exact ⟨b, off, ha, (hs.cell (p := ⟨b, off + j, none⟩) (World.block_lt_of_cell? w _ h1)).trans h1, hm.1, hm.2⟩
theorem sofar_next {w wr : World} {g n k : Nat} {za zb zc l : List Int} {xa xb xc : Int} (hk : k < n) (h1 : l.length = n) (h2 : ∀ u ∈ l, 0 ≤ u ∧ u < 256)
    (h3 : wr.ownsRow w.heap.size 5 1 (.slice (some ⟨g, 0, none⟩) n n) n (l.map (Value.int .u8))) (h4 : Below w.heap.size w wr)
    (h5 : ∀ j, j < k → l.getD j 0 = x3 (za.getD j 0) (zb.getD j 0) (zc.getD j 0)) (ha : za.getD k 0 = xa) (hb : zb.getD k 0 = xb) (hc : zc.getD k 0 = xc)
    (ba : 0 ≤ xa ∧ xa < 256) (bb : 0 ≤ xb ∧ xb < 256) (bc : 0 ≤ xc ∧ xc < 256) :
    Sofar w g n za zb zc (k + 1) (wr.setCell ⟨g, k, none⟩ (.int .u8 (bits .xor .u8 (bits .xor .u8 xa xb) xc))).drew := by
  have hu := (x3_is ba bb bc).1
  have hst := h3.stored k (.int .u8 (x3 xa xb xc))
  have hg : w.heap.size ≤ g := (h3.lt g rfl).1
  refine ⟨l.set k (x3 xa xb xc), by rw [List.length_set]; exact h1, fun v hv => ?_, ?_, (h4.setCell hg _).drew, fun j hj => ?_⟩
  · rcases List.mem_or_eq_of_mem_set hv with hv | hv
    · exact h2 v hv
    · rw [hv]; exact hu
  · rw [List.map_set]
    exact hst.1
  · rw [List.getD_eq_getElem?_getD]
    by_cases hjk : j = k
    · subst hjk
      rw [List.getElem?_set_self (by omega), ha, hb, hc]
      rfl
    · rw [List.getElem?_set_ne (fun h => hjk h.symm), ← List.getD_eq_getElem?_getD]
      exact h5 j (by omega)

/-! ### The last statement: it draws its order -/
def dst (j : Nat) : Nat := if j = 21 then 6 else 57 + j
/-- a slice of one list, made on the way -/
def One (v x : Value) (w : World) : Prop := ∃ q, v = .slice (some ⟨q, 0, none⟩) 1 1 ∧ w.cell? ⟨q, 0, none⟩ = some x
/-- what operation j has left -/
def Good (x a b c a' b' c' : Value) (n : Nat) (sx sa sb sc : Int) (j : Nat) (v : Value) (w : World) : Prop :=
  match j with
  | 0 => v = x | 1 => One v x w | 2 => v = .int .i64 sx
  | 3 => v = a | 4 => v = .int .i64 n | 5 => v = a' | 6 => One v a' w | 7 => v = .int .i64 sa
  | 8 => v = b | 9 => v = .int .i64 n | 10 => v = b' | 11 => One v b' w | 12 => v = .int .i64 sb
  | 13 => v = .int .i64 (bits .xor .i64 sa sb)
  | 14 => v = c | 15 => v = .int .i64 n | 16 => v = c' | 17 => One v c' w | 18 => v = .int .i64 sc
  | 19 => v = .int .i64 (bits .xor .i64 (bits .xor .i64 sa sb) sc)
  | 20 => v = .bool true | 21 => v = .bool true
  | _ => True
theorem One.keep {v x : Value} {w w' : World} (h : One v x w) (k : Holds w w') : One v x w' := by
  obtain ⟨q, h1, h2⟩ := h
  exact ⟨q, h1, k _ _ h2⟩
theorem Good.keep {x a b c a' b' c' : Value} {n : Nat} {sx sa sb sc : Int} {j : Nat} {v : Value} {w w' : World} (hj : j < 22) (h : Good x a b c a' b' c' n sx sa sb sc j v w) (k : Holds w w') : Good x a b c a' b' c' n sx sa sb sc j v w' := by
  match j, hj, h with
  | 0, _, h => exact h
  | 1, _, h => exact One.keep h k
  | 2, _, h => exact h
  | 3, _, h => exact h
  | 4, _, h => exact h
  | 5, _, h => exact h
  | 6, _, h => exact One.keep h k
  | 7, _, h => exact h
  | 8, _, h => exact h
  | 9, _, h => exact h
  | 10, _, h => exact h
  | 11, _, h => exact One.keep h k
  | 12, _, h => exact h
  | 13, _, h => exact h
  | 14, _, h => exact h
  | 15, _, h => exact h
  | 16, _, h => exact h
  | 17, _, h => exact One.keep h k
  | 18, _, h => exact h
  | 19, _, h => exact h
  | 20, _, h => exact h
  | 21, _, h => exact h
  | _ + 22, hj, _ => exact absurd hj (by omega)
structure Going (w0 : World) (x a b c a' b' c' : Value) (n : Nat) (sx sa sb sc : Int) (d : Nat → Bool) (act : Act) (w : World) : Prop where
  bel : Below w0.heap.size w0 w
  defers : act.defers = []
  size : act.tmps.size = 78
  s0 : act.tmps.getD 0 undef = a
  s1 : act.tmps.getD 1 undef = b
  s2 : act.tmps.getD 2 undef = c
  s8 : act.tmps.getD 8 undef = .int .i64 n
  s9 : act.tmps.getD 9 undef = x
  good : ∀ j, j < 22 → d j = true → Good x a b c a' b' c' n sx sa sb sc j (act.tmps.getD (dst j) undef) w
theorem dst_lt {i : Nat} (hi : i < 22) : dst i < 78 ∧ (dst i = 6 ∨ 57 ≤ dst i) := by unfold dst; split <;> omega
theorem dst_ne {i j : Nat} (hi : i < 22) (hj : j < 22) (h : i ≠ j) : dst i ≠ dst j := by unfold dst; split <;> split <;> omega
theorem Going.put {w0 : World} {x a b c a' b' c' : Value} {n : Nat} {sx sa sb sc : Int} {d : Nat → Bool} {act : Act} {w w' : World} (h : Going w0 x a b c a' b' c' n sx sa sb sc d act w) {i : Nat} {v : Value} (hi : i < 22)
    (hw : Below w.heap.size w w') (hg : Good x a b c a' b' c' n sx sa sb sc i v w') : Going w0 x a b c a' b' c' n sx sa sb sc (Drawn.mark d i) (act.put (some (dst i)) v) w' := by
  have hlt := dst_lt hi
  have far : ∀ s, s < 57 → s ≠ 6 → (act.put (some (dst i)) v).tmps.getD s undef = act.tmps.getD s undef := fun s h1 h2 => Drawn.put_other (by omega)
  refine ⟨h.bel.trans (hw.mono h.bel.size), h.defers, by rw [Drawn.put_tmps, Array.size_setIfInBounds]; exact h.size, (far 0 (by omega) (by omega)).trans h.s0, (far 1 (by omega) (by omega)).trans h.s1, (far 2 (by omega) (by omega)).trans h.s2,
    (far 8 (by omega) (by omega)).trans h.s8, (far 9 (by omega) (by omega)).trans h.s9, fun j hj hm => ?_⟩
  by_cases hji : j = i
  · subst hji
    rw [Drawn.put_same (by rw [h.size]; exact hlt.1)]
    exact hg
  · rw [Drawn.put_other (dst_ne hi hj (fun e => hji e.symm))]
    unfold Drawn.mark at hm
    rw [if_neg hji] at hm
    exact (h.good j hj hm).keep hj (Holds.below hw)
theorem one_new (w : World) (v : Value) : One (.slice (some ⟨w.heap.size, 0, none⟩) 1 1) v (w.alloc (.cells #[v] 35)) := ⟨w.heap.size, rfl, by simp⟩
theorem below_alloc (w : World) (o : Obj) : Below w.heap.size w (w.alloc o) := (Below.refl _ _).alloc (Nat.le_refl _) o
/-- Sum of one list, told through a slice that was made on the way -/
theorem rows_cell {w : World} {q : Nat} {v : Value} {l : List Int} (h : w.cell? ⟨q, 0, none⟩ = some v) (hb : BytesAt w v l) : RowsAt w (some ⟨q, 0, none⟩) [l] := by
  refine ⟨by simp [maxLen], [v], rfl, fun i hi => ?_, fun _ => ⟨q, 0, rfl, fun i hi => ?_⟩⟩
  · obtain rfl : i = 0 := by simpa using hi
    exact hb
  · obtain rfl : i = 0 := by simpa using hi
    exact h
theorem getD_take (z : List Int) (j k : Nat) (h : j < k) : (z.take k).getD j 0 = z.getD j 0 := by
  rw [List.getD_eq_getElem?_getD, List.getD_eq_getElem?_getD, List.getElem?_take, if_pos h]
theorem sum_one {w0 w : World} {q : Nat} {v : Value} {l : List Int} (hw : Below w0.heap.size w0 w) (h : w.cell? ⟨q, 0, none⟩ = some v) (hb : BytesAt w0 v l) :
    Calls Try.prog 21 #[.slice (some ⟨q, 0, none⟩) 1 1] w fun e w' => e = .returned (.int .i64 (sumOf 0 l)) ∧ w = w' := by
  have hs := Crc.sum_any (some ⟨q, 0, none⟩) 1 [l] w (rows_cell h (hb.keep (Holds.below hw)))
  rwa [show [l].flatten = l by simp] at hs
set_option maxRecDepth 100000 in
set_option maxHeartbeats 2000000 in
theorem walk (aa : Option Addr) (la ca : Nat) (za : List Int) (ab : Option Addr) (lb cb : Nat) (zb : List Int) (ac : Option Addr) (lc cc : Nat) (zc : List Int) (w : World) (ha : Src w aa la ca za) (hb : Src w ab lb cb zb) (hc : Src w ac lc cc zc) :
    Calls Try.prog 10 #[.slice aa la ca, .slice ab lb cb, .slice ac lc cc] w fun e w' => e = .returned (.bool true) ∧ Below w.heap.size w w' := by
  obtain ⟨i0, hi0, hz0, hz1, hz2⟩ := info_parts Crc.info5
  have Hi := Lib.hid hi0
  have Hz := Lib.hid hz0
  have Hs := Lib.hid hz1
  have Hb := Lib.hid hz2
  clear hi0 hz0 hz1 hz2
  have ma := ha.small
  have mb := hb.small
  have mc := hc.small
  have na := ha.2.1
  have nb := hb.2.1
  have nc := hc.2.1
  have SA := Lib.hid ha
  have SB := Lib.hid hb
  have SC := Lib.hid hc
  clear ha hb hc
  unfold maxLen at ma mb mc
  go_enter Try.func10, Try.ntmps10
  go_wp2_with fail
  refine (Crc.alive_any _).mono ?_
  rintro e w1 ⟨rfl, hb1⟩
  go_upto_if 17 with (fail)
  go_cut [8] (fun s8 wx => ∃ m : Nat, s8 = .int .i64 m ∧ (m ≤ la ∧ m ≤ lb ∧ (m = la ∨ m = lb)) ∧ w1 = wx)
  case first =>
    go_wp2
    · go_meet
      exact ⟨lb, rfl, ⟨by omega, Nat.le_refl _, .inr rfl⟩, rfl⟩
    · go_meet
      exact ⟨la, rfl, ⟨Nat.le_refl _, by omega, .inl rfl⟩, rfl⟩
  case rest =>
    obtain ⟨m, rfl, hm, rfl⟩ := hcut
    obtain ⟨m1, m2, m3⟩ := hm
    have M3 := Lib.hid m3
    clear m3
    go_upto_if 23 with (fail)
    go_cut [8] (fun s8 wx => ∃ n : Nat, s8 = .int .i64 n ∧ (n ≤ la ∧ n ≤ lb ∧ n ≤ lc) ∧ w1 = wx)
    case first =>
      go_wp2
      · go_meet
        exact ⟨lc, rfl, ⟨by omega, by omega, Nat.le_refl _⟩, rfl⟩
      · go_meet
        exact ⟨m, rfl, ⟨m1, m2, by omega⟩, rfl⟩
    case rest =>
      obtain ⟨n, rfl, hn, rfl⟩ := hcut
      obtain ⟨n1, n2, n3⟩ := hn
      clear m1 m2 M3
      by_cases hbig : 2000 < n
      · go_wp2_with fail
        go_ret
        exact ⟨rfl, hb1⟩
      · go_wp2_with (at_make; refine wpList_make_full _ rfl _ _ 35 rfl w.heap.size 5 i0 (.int .u8 0) 1 Try.underlying35 Hi.out Hz.out Hs.out _ _ _ _ n rfl rfl rfl rfl (by rw [Hb.out]; omega) (by unfold maxLen; omega) hb1.size ?_; intro w4 hown4 hgrow4; have S0 := Lib.hid (sofar_zero (g := w1.heap.size) hown4 (hb1.grown hgrow4 hb1.size (fun _ hk => by cases hk)) za zb zc); clear hown4 hgrow4; generalize hg : w1.heap.size = g at *; have Hg := Lib.hid hg; clear hg)
        go_loopw [10] (fun i wr => ∃ k : Nat, k ≤ n ∧ i = .int .i64 k ∧ Sofar w g n za zb zc k wr) (fun i _ => n - (intOf i).toNat)
        case atStart => exact ⟨0, by omega, rfl, S0.out⟩
        case round =>
          obtain ⟨k, hk, rfl, hso⟩ := hrel
          obtain ⟨l, hl, hby, hown, hbel, hdone⟩ := hso
          by_cases hlt : k < n
          · obtain ⟨ba, oa, ra, fa, xa0, xa1⟩ := cell_of SA.out hbel k (by omega)
            obtain ⟨bb, ob, rb, fb, xb0, xb1⟩ := cell_of SB.out hbel k (by omega)
            obtain ⟨bc, oc, rc, fc, xc0, xc1⟩ := cell_of SC.out hbel k (by omega)
            subst ra rb rc
            have hcell : wr.cell? ⟨g, k, none⟩ = some (.int .u8 (l.getD k 0)) := by
              rw [hown.cellAt _ (by omega), List.getElem?_map, List.getD_eq_getElem?_getD, List.getElem?_eq_getElem (by omega)]; rfl
            have hfz := hown.frozenAt k
            have Hown := Lib.hid hown
            have Hdone := Lib.hid hdone
            have Hby := Lib.hid hby
            have Hl := Lib.hid hl
            have Hbel := Lib.hid hbel
            clear hown hdone hby hl hbel
            generalize hxa : za.getD k 0 = xa at *
            generalize hxb : zb.getD k 0 = xb at *
            generalize hxc : zc.getD k 0 = xc at *
            generalize hxl : l.getD k 0 = xl at *
            have Hxa := Lib.hid hxa
            have Hxb := Lib.hid hxb
            have Hxc := Lib.hid hxc
            clear hxa hxb hxc hxl
            have ia : (k : Int) < (la : Int) := by omega
            have ib : (k : Int) < (lb : Int) := by omega
            have ic : (k : Int) < (lc : Int) := by omega
            have ig : (k : Int) < (n : Int) := by omega
            go_wp2
            go_still_tail 17, (by kernel_rfl)
            change wpList _ _ _ _ _ wr.drew
            have hcell' : wr.drew.cell? ⟨g, k, none⟩ = some (.int .u8 xl) := hcell
            have hfz' : wr.drew.frozen? ⟨g, k, none⟩ = false := hfz
            go_wp2
            go_roundw
            case rel => exact ⟨k + 1, by omega, by go_num, sofar_next hlt Hl.out Hby.out Hown.out Hbel.out Hdone.out Hxa.out Hxb.out Hxc.out ⟨xa0, xa1⟩ ⟨xb0, xb1⟩ ⟨xc0, xc1⟩⟩
            case measure => simp [intOf]; omega
          · have hkn : k = n := by omega
            subst hkn
            clear hlt hk
            have ka : k ≤ ca := by omega
            have kb : k ≤ cb := by omega
            have kc : k ≤ cc := by omega
            have Vx := Lib.hid (Crc.bytes_of_own (v := .slice (some ⟨g, 0, none⟩) k k) (l := l) (by rw [hl]; exact hown) (by unfold maxLen; omega) hby)
            have Va := Lib.hid ((SA.out.front k ka).keep (Holds.below hbel))
            have Vb := Lib.hid ((SB.out.front k kb).keep (Holds.below hbel))
            have Vc := Lib.hid ((SC.out.front k kc).keep (Holds.below hbel))
            have Hsum := Lib.hid (sums_go (l := l) (a := za.take k) (b := zb.take k) (c := zc.take k) (by rw [hl, SA.out.len_take k ka]) (by rw [hl, SB.out.len_take k kb]) (by rw [hl, SC.out.len_take k kc])
              (fun u hu => SA.out.byte u (List.mem_of_mem_take hu)) (fun u hu => SB.out.byte u (List.mem_of_mem_take hu)) (fun u hu => SC.out.byte u (List.mem_of_mem_take hu))
              (fun j hj => by rw [hdone j (by omega), getD_take _ j k (by omega), getD_take _ j k (by omega), getD_take _ j k (by omega)]))
            have Hbel := Lib.hid hbel
            clear hl hby hown hbel hdone
            go_wp2
            refine Drawn.wp_region_inv (by kernel_rfl) (Going wr (.slice (some ⟨g, 0, none⟩) k k) (.slice aa la ca) (.slice ab lb cb) (.slice ac lc cc) (.slice aa k ca) (.slice ab k cb) (.slice ac k cc) k
              (sumOf 0 l) (sumOf 0 (za.take k)) (sumOf 0 (zb.take k)) (sumOf 0 (zc.take k))) (by kernel_rfl) ?_ ?_ ?_
            · exact ⟨(Below.refl _ _).drew, rfl, rfl, rfl, rfl, rfl, rfl, rfl, fun j _ h => by cases h⟩
            · intro d act wx hI i hi hdi hd
              have hall : i = 0 ∨ i = 1 ∨ i = 2 ∨ i = 3 ∨ i = 4 ∨ i = 5 ∨ i = 6 ∨ i = 7 ∨ i = 8 ∨ i = 9 ∨ i = 10 ∨ i = 11 ∨ i = 12 ∨ i = 13 ∨ i = 14 ∨ i = 15 ∨ i = 16 ∨ i = 17 ∨ i = 18 ∨ i = 19 ∨ i = 20 ∨ i = 21 := by
                have hi' : i < 22 := hi
                omega
              clear hi hdi
              rcases hall with rfl | rfl | rfl | rfl | rfl | rfl | rfl | rfl | rfl | rfl | rfl | rfl | rfl | rfl | rfl | rfl | rfl | rfl | rfl | rfl | rfl | rfl
              · exact Drawn.step_move rfl hI.s9 (hI.put (i := 0) (by decide) (Below.refl _ _) rfl)
              · have d0 := hd _ rfl ⟨0, .data⟩ (by simp) rfl
                have g0 := hI.good 0 (by decide) d0
                exact Drawn.step_build rfl g0 (hI.put (i := 1) (by decide) (below_alloc _ _) (one_new _ _))
              · have d1 := hd _ rfl ⟨1, .data⟩ (by simp) rfl
                have g1 := hI.good 1 (by decide) d1
                obtain ⟨q, hq, hc⟩ := g1
                exact Drawn.step_sum rfl hq (sum_one hI.bel hc Vx.out) (hI.put (i := 2) (by decide) (Below.refl _ _) rfl)
              · exact Drawn.step_move rfl hI.s0 (hI.put (i := 3) (by decide) (Below.refl _ _) rfl)
              · exact Drawn.step_move rfl hI.s8 (hI.put (i := 4) (by decide) (Below.refl _ _) rfl)
              · have d3 := hd _ rfl ⟨3, .data⟩ (by simp) rfl
                have g3 := hI.good 3 (by decide) d3
                have d4 := hd _ rfl ⟨4, .data⟩ (by simp) rfl
                have g4 := hI.good 4 (by decide) d4
                exact Drawn.step_slice rfl g3 g4 ka (hI.put (i := 5) (by decide) (Below.refl _ _) rfl)
              · have d5 := hd _ rfl ⟨5, .data⟩ (by simp) rfl
                have g5 := hI.good 5 (by decide) d5
                exact Drawn.step_build rfl g5 (hI.put (i := 6) (by decide) (below_alloc _ _) (one_new _ _))
              · have d6 := hd _ rfl ⟨6, .data⟩ (by simp) rfl
                have g6 := hI.good 6 (by decide) d6
                obtain ⟨q, hq, hc⟩ := g6
                exact Drawn.step_sum rfl hq (sum_one hI.bel hc Va.out) (hI.put (i := 7) (by decide) (Below.refl _ _) rfl)
              · exact Drawn.step_move rfl hI.s1 (hI.put (i := 8) (by decide) (Below.refl _ _) rfl)
              · exact Drawn.step_move rfl hI.s8 (hI.put (i := 9) (by decide) (Below.refl _ _) rfl)
              · have d8 := hd _ rfl ⟨8, .data⟩ (by simp) rfl
                have g8 := hI.good 8 (by decide) d8
                have d9 := hd _ rfl ⟨9, .data⟩ (by simp) rfl
                have g9 := hI.good 9 (by decide) d9
                exact Drawn.step_slice rfl g8 g9 kb (hI.put (i := 10) (by decide) (Below.refl _ _) rfl)
              · have d10 := hd _ rfl ⟨10, .data⟩ (by simp) rfl
                have g10 := hI.good 10 (by decide) d10
                exact Drawn.step_build rfl g10 (hI.put (i := 11) (by decide) (below_alloc _ _) (one_new _ _))
              · have d11 := hd _ rfl ⟨11, .data⟩ (by simp) rfl
                have g11 := hI.good 11 (by decide) d11
                obtain ⟨q, hq, hc⟩ := g11
                exact Drawn.step_sum rfl hq (sum_one hI.bel hc Vb.out) (hI.put (i := 12) (by decide) (Below.refl _ _) rfl)
              · have d7 := hd _ rfl ⟨7, .data⟩ (by simp) rfl
                have g7 := hI.good 7 (by decide) d7
                have d12 := hd _ rfl ⟨12, .data⟩ (by simp) rfl
                have g12 := hI.good 12 (by decide) d12
                exact Drawn.step_xor rfl g7 g12 (hI.put (i := 13) (by decide) (Below.refl _ _) rfl)
              · exact Drawn.step_move rfl hI.s2 (hI.put (i := 14) (by decide) (Below.refl _ _) rfl)
              · exact Drawn.step_move rfl hI.s8 (hI.put (i := 15) (by decide) (Below.refl _ _) rfl)
              · have d14 := hd _ rfl ⟨14, .data⟩ (by simp) rfl
                have g14 := hI.good 14 (by decide) d14
                have d15 := hd _ rfl ⟨15, .data⟩ (by simp) rfl
                have g15 := hI.good 15 (by decide) d15
                exact Drawn.step_slice rfl g14 g15 kc (hI.put (i := 16) (by decide) (Below.refl _ _) rfl)
              · have d16 := hd _ rfl ⟨16, .data⟩ (by simp) rfl
                have g16 := hI.good 16 (by decide) d16
                exact Drawn.step_build rfl g16 (hI.put (i := 17) (by decide) (below_alloc _ _) (one_new _ _))
              · have d17 := hd _ rfl ⟨17, .data⟩ (by simp) rfl
                have g17 := hI.good 17 (by decide) d17
                obtain ⟨q, hq, hc⟩ := g17
                exact Drawn.step_sum rfl hq (sum_one hI.bel hc Vc.out) (hI.put (i := 18) (by decide) (Below.refl _ _) rfl)
              · have d13 := hd _ rfl ⟨13, .data⟩ (by simp) rfl
                have g13 := hI.good 13 (by decide) d13
                have d18 := hd _ rfl ⟨18, .data⟩ (by simp) rfl
                have g18 := hI.good 18 (by decide) d18
                exact Drawn.step_xor rfl g13 g18 (hI.put (i := 19) (by decide) (Below.refl _ _) rfl)
              · have d2 := hd _ rfl ⟨2, .data⟩ (by simp) rfl
                have g2 := hI.good 2 (by decide) d2
                have d19 := hd _ rfl ⟨19, .data⟩ (by simp) rfl
                have g19 := hI.good 19 (by decide) d19
                exact Drawn.step_eql rfl g2 g19 (hI.put (i := 20) (by decide) (Below.refl _ _) (by rw [beq_iff_eq.2 Hsum.out]; rfl))
              · have d20 := hd _ rfl ⟨20, .data⟩ (by simp) rfl
                have g20 := hI.good 20 (by decide) d20
                exact Drawn.step_assign rfl g20 (hI.put (i := 21) (by decide) (Below.refl _ _) rfl)
            · intro d act wx hI hd
              have h6 : act.tmps[6]?.getD undef = .bool true := by rw [← Array.getD_eq_getD_getElem?]; exact hI.good 21 (by decide) (hd 21 (by decide))
              have hdf := hI.defers
              have hbx := hI.bel
              clear hI hd
              go_wp2_with fail
              exact bodyPost_ret (v := .bool true) (by simp [results, Try.results10, go_sem, h6]) hdf ⟨rfl, Hbel.out.trans (hbx.mono Hbel.out.size)⟩

set_option maxRecDepth 100000 in
theorem lifted (os : Os) (started : os.Started) (H : Type) (enc : TypeId × Value → H) :
    ReturnsInHanded {} Try.checked os 10 .any (Rows.crcLinearSpec.pre6 enc Try.prog Try.f10 Rows.crcLinearRow.domain false) (Rows.crcLinearSpec.post enc Try.prog Try.f10 false true false false) := by
  refine returnsInHanded_of_change (C := Try.checked) own started (by kernel_rfl) Try.func10
    (ChangeSpec.witness6 (enc := enc) (C := Try.checked) false ⟨#[], #[.slice none 0 0, .slice none 0 0, .slice none 0 0], []⟩ 8 (by kernel_rfl) (by kernel_rfl) (by kernel_rfl) (by kernel_rfl)) ?_
  intro W base args ds gs before hval0 hW hcnd _
  have hval : ∀ (j : Nat) t v, Try.f10.params[j]? = some t → args[j]? = some v → Value.okWide Try.prog W .any base t v := hval0
  have hW' := hW
  obtain ⟨p, q, hA0, hV, rfl, hfz, hnd⟩ := hW
  have hA : DataW.TrodAll enc Try.prog W 0 (fun _ => true) true Try.f10.params.toList args.toList ds p := hA0
  rw [Try.params10] at hA hval
  obtain ⟨v0, vs0, d0, ds0, p0, q0, hargs, rfl, rfl, h0, r0⟩ := trodAll_cons hA
  obtain ⟨v1, vs1, d1, ds1, p1, q1, rfl, rfl, rfl, h1, r1⟩ := trodAll_cons r0
  obtain ⟨v2, vs2, d2, ds2, p2, q2, rfl, rfl, rfl, h2, r2⟩ := trodAll_cons r1
  obtain ⟨rfl, rfl, rfl⟩ := trodAll_nil r2
  obtain rfl : args = #[v0, v1, v2] := by cases args; simp_all
  obtain ⟨rfl, rfl⟩ := trodVars_none hV
  have k0 := h0
  have lt0 : ∀ x ∈ p0, x.block < W.heap.size := by obtain ⟨m, hm⟩ := k0; exact DataW.trod_lt m _ _ _ hm
  obtain ⟨a0, len0, cap0, rfl⟩ := okWide_slice Try.underlying35 (hval 0 35 v0 rfl rfl)
  obtain ⟨z0, w0⟩ := Crc.bytes_of k0
  have k1 := h1
  have lt1 : ∀ x ∈ p1, x.block < W.heap.size := by obtain ⟨m, hm⟩ := k1; exact DataW.trod_lt m _ _ _ hm
  obtain ⟨a1, len1, cap1, rfl⟩ := okWide_slice Try.underlying35 (hval 1 35 v1 rfl rfl)
  obtain ⟨z1, w1⟩ := Crc.bytes_of k1
  have k2 := h2
  have lt2 : ∀ x ∈ p2, x.block < W.heap.size := by obtain ⟨m, hm⟩ := k2; exact DataW.trod_lt m _ _ _ hm
  obtain ⟨a2, len2, cap2, rfl⟩ := okWide_slice Try.underlying35 (hval 2 35 v2 rfl rfl)
  obtain ⟨z2, w2⟩ := Crc.bytes_of k2
  clear hA0 hval0
  refine (walk a0 len0 cap0 z0 a1 len1 cap1 z1 a2 len2 cap2 z2 W w0 w1 w2).mono fun e W' ⟨he, bel⟩ => ?_
  subst he
  exact ⟨_, rfl, _, _, _, [], _, [], hW', trodAll_mk1 (shut_bool Try.underlying4 _), (trodAll_cons_mk (Below.trod laidOut (by kernel_rfl) (of_decide_eq_true (by kernel_rfl)) k0 bel lt0) (trodAll_cons_mk (Below.trod laidOut (by kernel_rfl) (of_decide_eq_true (by kernel_rfl)) k1 bel lt1) (trodAll_cons_mk (Below.trod laidOut (by kernel_rfl) (of_decide_eq_true (by kernel_rfl)) k2 bel lt2) trodAll_mk0))), rfl, bel.frame _, fun h => by cases h⟩

theorem over : Rows.crcLinearRow.holds Try.pinned (OpenSpec.ofChange Rows.crcLinearSpec) :=
  OpenClaim.holds_of_wide 10 Try.f10 rfl rfl rfl rfl rfl rfl rfl ⟨rfl, rfl, rfl, rfl, rfl⟩ rfl rfl rfl rfl rfl (by kernel_rfl) Try.func10 (by kernel_rfl)
    (of_decide_eq_true (by kernel_rfl)) (by unfold Func.isWrapper; first | (rw [if_pos (by decide +kernel)]; kernel_rfl) | (rw [if_neg (by decide +kernel)]; exact ⟨rfl, rfl⟩))
    (fun os started H enc _ => lifted os started H enc)

/-- the statement -/
theorem proved : Rows.CrcLinearSaid := over
#print axioms proved
end Go.Proofs.Ytahcjjelamknnaa.crcLinear
