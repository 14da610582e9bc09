/- CrcCuts: where a list is cut does not matter, nor empty lists between. The law's walk, for any list of bytes and any list of integers, and the statement. -/
import Derived.Test.YtahcjjelamknnaaApp
import Derived.Test.YtahcjjelamknnaaRead
namespace Go.Proofs.Ytahcjjelamknnaa.crcCuts
open Go.ChangeShapes Go.WideShapes Go.ChangeAt Go.RowKit
open Crc (own laidOut Holds RowsAt BytesAt Src sumOf w32 ones run)
set_option linter.unusedVariables false

theorem info35 : (Try.prog.info? 35).map (fun i => (i.zero, i.size, i.bytes)) = some (some (.slice none 0 0), 1, 24) := by kernel_rfl
theorem and31 (c : Int) : ∃ D : Nat, D ≤ 31 ∧ bits .and .i64 c 31 = (D : Int) := by
  have h : (BitVec.ofInt 64 c &&& BitVec.ofInt 64 31).toNat = (c % 32).toNat := by
    rw [BitVec.toNat_and, show (BitVec.ofInt 64 31).toNat = 2 ^ 5 - 1 from by decide, Nat.and_two_pow_sub_one_eq_mod, BitVec.toNat_ofInt]
    omega
  refine ⟨(c % 32).toNat, by omega, ?_⟩
  show IntKind.i64.wrap ((BitVec.ofInt 64 c &&& BitVec.ofInt 64 31).toNat : Int) = _
  rw [h, IntKind.wrap_i64]
  omega
/-- the integers of a list that came in -/
def IntsAt (w : World) (a : Option Addr) (z : List Int) : Prop := 0 < z.length → ∃ b off, a = some ⟨b, off, none⟩ ∧ ∀ j, j < z.length → w.cell? ⟨b, off + j, none⟩ = some (.int .i64 (z.getD j 0))
/-- the values of a row that read as lists -/
def Pieces (w : World) (vs : List Value) (LL : List (List Int)) : Prop := vs.length = LL.length ∧ (∀ v ∈ vs, v.oneCell' = true) ∧ ∀ j, j < LL.length → BytesAt w (vs.getD j undef) (LL.getD j [])
theorem pieces_nil (w : World) : Pieces w [] [] := ⟨rfl, (fun v h => by cases h), fun j h => absurd h (Nat.not_lt_zero _)⟩
theorem Pieces.more {w : World} {vs : List Value} {LL : List (List Int)} {v : Value} {l : List Int} (h : Pieces w vs LL) (hb : BytesAt w v l) : Pieces w (vs ++ [v]) (LL ++ [l]) := by
  obtain ⟨h1, h2, h3⟩ := h
  refine ⟨by simp [h1], fun u hu => ?_, fun j hj => ?_⟩
  · rcases List.mem_append.1 hu with hu | hu
    · exact h2 u hu
    · obtain rfl : u = v := by simpa using hu
      obtain ⟨_, _, rfl, _⟩ := hb
      rfl
  · rw [List.getD_eq_getElem?_getD, List.getD_eq_getElem?_getD, List.getElem?_append, List.getElem?_append, h1]
    by_cases hlt : j < LL.length
    · rw [if_pos hlt, if_pos hlt, ← List.getD_eq_getElem?_getD, ← List.getD_eq_getElem?_getD]
      exact h3 j hlt
    · rw [if_neg hlt, if_neg hlt]
      have hj' : j - LL.length = 0 := by
        rw [List.length_append] at hj
        simp only [List.length_cons, List.length_nil] at hj
        omega
      rw [hj']
      exact hb
theorem nil_at (w : World) : BytesAt w (.slice none 0 0) [] := ⟨none, 0, rfl, by simp, by simp, fun h => absurd h (Nat.lt_irrefl _), fun _ => rfl⟩
/-- a piece of a list of bytes that came in -/
theorem piece_at {w : World} {a : Option Addr} {len cap : Nat} {z : List Int} (h : Src w a len cap z) (f m : Nat) (hf : f + m ≤ cap) :
    BytesAt w (.slice (if cap = f then a else Option.map (fun x => x.add f) a) m (cap - f)) ((z.drop f).take m) := by
  have hby := h.byte
  have hmax := h.small
  obtain ⟨hz, hle, a', c', hv, _, _, hc, hnil⟩ := h
  injection hv with e1 e2 e3
  subst e1 e3
  have hlen : ((z.drop f).take m).length = m := by rw [List.length_take, List.length_drop]; omega
  refine ⟨_, _, by rw [hlen], by omega, fun u hu => hby u (List.mem_of_mem_drop (List.mem_of_mem_take hu)), fun hp => ?_, fun hn => ?_⟩
  · rw [hlen] at hp
    rw [if_neg (by omega)]
    obtain ⟨b, off, ha, hcell⟩ := hc (by omega)
    subst ha
    have hadd : (⟨b, off, none⟩ : Addr).add f = ⟨b, off + f, none⟩ := by
      unfold Addr.add
      by_cases h0 : f = 0
      · subst h0; simp
      · simp [h0]
    refine ⟨b, off + f, by rw [Option.map_some, hadd], fun j hj => ?_⟩
    rw [hlen] at hj
    rw [Nat.add_assoc, hcell (f + j) (by omega), List.getD_eq_getElem?_getD, List.getD_eq_getElem?_getD, List.getElem?_take, if_pos hj, List.getElem?_drop]
  · by_cases hcf : cap = f
    · omega
    · rw [if_neg hcf] at hn
      rcases a with _ | a
      · have := hnil rfl; omega
      · cases hn
theorem take_piece {z : List Int} (f m : Nat) : z.take f ++ (z.drop f).take m = z.take (f + m) := by rw [List.take_add]
/-- what the first loop keeps: the pieces of the first f bytes, an empty one behind each -/
def Sofar (w : World) (z : List Int) (k f : Nat) (v : Value) (wr : World) : Prop :=
  ∃ vs LL, wr.ownsRow w.heap.size 35 1 v (2 * k) vs ∧ Pieces w vs LL ∧ LL.length = 2 * k ∧ LL.flatten = z.take f ∧ Below w.heap.size w wr
theorem sofar_zero {w w1 : World} (z : List Int) (h : Below w.heap.size w w1) : Sofar w z 0 0 (.slice none 0 0) w1 :=
  ⟨[], [], World.ownsRow_nil _ _ _ _, pieces_nil w, rfl, by simp, h⟩
theorem two_new (w : World) (p q : Value) : ∀ j u, [p, q][j]? = some u → (w.alloc (.cells #[p, q] 35)).cell? ((⟨w.heap.size, 0, none⟩ : Addr).add j) = some u := by
  intro j u h
  match j, h with
  | 0, h => simp at h; subst h; simp [Addr.add]
  | 1, h => simp at h; subst h; simp [Addr.add]
  | j + 2, h => simp at h
theorem one_new (w : World) (p : Value) : ∀ j u, [p][j]? = some u → (w.alloc (.cells #[p] 35)).cell? ((⟨w.heap.size, 0, none⟩ : Addr).add j) = some u := by
  intro j u h
  match j, h with
  | 0, h => simp at h; subst h; simp [Addr.add]
  | j + 1, h => simp at h
theorem below_alloc {w wr : World} (h : Below w.heap.size w wr) (o : Obj) : Below w.heap.size w (wr.alloc o) := h.alloc h.size o
theorem sofar_next {w wr w1 : World} {z : List Int} {k f m : Nat} {v v1 p : Value} {vs : List Value} {LL : List (List Int)} {o : Obj} (hv : wr.ownsRow w.heap.size 35 1 v (2 * k) vs) (hp : Pieces w vs LL) (hl : LL.length = 2 * k) (hfl : LL.flatten = z.take f)
    (hb : Below w.heap.size w wr) (hpp : BytesAt w p ((z.drop f).take m)) (hown : w1.ownsRow w.heap.size 35 1 v1 (2 * k + 2) (vs ++ [p, .slice none 0 0])) (hg : (wr.alloc o).grownBy w1 v.ownBlock) {t : Nat} (ht : f + m = t) : Sofar w z (k + 1) t v1 w1 := by
  subst ht
  refine ⟨vs ++ [p] ++ [.slice none 0 0], LL ++ [(z.drop f).take m] ++ [[]], ?_, (hp.more hpp).more (nil_at w), by simp; omega, ?_, ?_⟩
  · rw [show 2 * (k + 1) = 2 * k + 2 by omega, List.append_assoc]
    exact hown
  · simp only [List.flatten_append, List.flatten_cons, List.flatten_nil, List.append_nil, hfl]
    exact take_piece f m
  · exact (below_alloc hb o).grown hg (below_alloc hb o).size (fun g he => (hv.lt g he).1)
theorem slice_one (b : Option Addr) (n c : Nat) : (Value.slice b n c).oneCell' = true := rfl
theorem one_cells {p : Value} {w : World} {l : List Int} (h : BytesAt w p l) : ∀ u ∈ [p, .slice none 0 0], u.oneCell' = true := by
  obtain ⟨_, _, rfl, _⟩ := h
  intro u hu
  rcases List.mem_cons.1 hu with rfl | hu
  · rfl
  · obtain rfl : u = .slice none 0 0 := by simpa using hu
    rfl
theorem one_cells1 {p : Value} {w : World} {l : List Int} (h : BytesAt w p l) : ∀ u ∈ [p], u.oneCell' = true := by
  obtain ⟨_, _, rfl, _⟩ := h
  intro u hu
  obtain rfl : u = _ := by simpa using hu
  rfl
/-- what all pieces are: their values, their lists -/
def Done (w : World) (z : List Int) (n m : Nat) (v : Value) (wr : World) : Prop :=
  ∃ vs LL, wr.ownsRow w.heap.size 35 1 v m vs ∧ Pieces w vs LL ∧ LL.length = m ∧ LL.flatten = z.take n ∧ Below w.heap.size w wr
theorem done_of {w wr w1 : World} {z : List Int} {k f n : Nat} {v v1 p : Value} {vs : List Value} {LL : List (List Int)} {o : Obj} (hf : f ≤ n) (hv : wr.ownsRow w.heap.size 35 1 v (2 * k) vs) (hp : Pieces w vs LL) (hl : LL.length = 2 * k) (hfl : LL.flatten = z.take f)
    (hb : Below w.heap.size w wr) (hpp : BytesAt w p ((z.drop f).take (n - f))) (hown : w1.ownsRow w.heap.size 35 1 v1 (2 * k + 1) (vs ++ [p])) (hg : (wr.alloc o).grownBy w1 v.ownBlock) : Done w z n (2 * k + 1) v1 w1 := by
  refine ⟨vs ++ [p], LL ++ [(z.drop f).take (n - f)], hown, hp.more hpp, by simp; omega, ?_, ?_⟩
  · simp only [List.flatten_append, List.flatten_cons, List.flatten_nil, List.append_nil, hfl]
    rw [take_piece f (n - f)]
    congr 1
    omega
  · exact (below_alloc hb o).grown hg (below_alloc hb o).size (fun g he => (hv.lt g he).1)

theorem one_flat (l : List Int) : [l].flatten = l := by simp
theorem w32_toNat (x : BitVec 32) : w32 (x.toNat : Int) = x := by
  unfold w32
  rw [BitVec.ofInt_natCast]
  simp
/-- a sum goes on -/
theorem sum_on (b f : List Int) : sumOf (sumOf 0 b) f = sumOf 0 (b ++ f) := by
  unfold sumOf
  rw [w32_toNat, BitVec.xor_assoc, BitVec.xor_self, BitVec.xor_zero, List.map_append, Crc.run_append]
theorem sum_next (M : List (List Int)) (j : Nat) (h : j < M.length) : sumOf (sumOf 0 (M.take j).flatten) [M.getD j []].flatten = sumOf 0 (M.take (j + 1)).flatten := by
  rw [one_flat, sum_on]
  congr 1
  exact (Crc.fl_more M j h).symm
theorem cell_own {wr : World} {base g cap m j : Nat} {vs : List Value} (hv : wr.ownsRow base 35 1 (.slice (some ⟨g, 0, none⟩) m cap) m vs) (hj : j < m) : wr.cell? ⟨g, j, none⟩ = some (vs.getD j undef) := by
  have hl : vs.length = m * 1 := hv.1
  rw [hv.cellAt j (by omega), List.getD_eq_getElem?_getD, List.getElem?_eq_getElem (by omega)]
  rfl
theorem sum_len {wr : World} {a : Option Addr} {c m : Nat} {LL : List (List Int)} (hl : LL.length = m) (h : RowsAt wr a LL) : Calls Try.prog 21 #[.slice a m c] wr fun e w' => e = .returned (.int .i64 (sumOf 0 LL.flatten)) ∧ wr = w' := by
  subst hl
  exact Crc.sum_any a c LL wr h
theorem sum_nil : sumOf 0 [] = 0 := by decide +kernel
/-- the pieces, as lists in memory -/
theorem rows_own {w wr : World} {g cap m : Nat} {vs : List Value} {LL : List (List Int)} (hv : wr.ownsRow w.heap.size 35 1 (.slice (some ⟨g, 0, none⟩) m cap) m vs) (hp : Pieces w vs LL) (hl : LL.length = m) (hb : Below w.heap.size w wr) (hm : m ≤ 1000) :
    RowsAt wr (some ⟨g, 0, none⟩) LL := by
  obtain ⟨h1, h2, h3⟩ := hp
  refine ⟨by unfold maxLen; omega, vs, h1, fun i hi => (h3 i hi).keep (Holds.below hb), fun _ => ⟨g, 0, rfl, fun i hi => ?_⟩⟩
  rw [Nat.zero_add, hv.cellAt i (by omega), List.getD_eq_getElem?_getD, List.getElem?_eq_getElem (by omega)]
  rfl
set_option maxRecDepth 100000 in
set_option maxHeartbeats 2000000 in
theorem walk_core (aa : Option Addr) (n ca : Nat) (za : List Int) (ab : Option Addr) (zb : List Int) (cb : Nat) (w : World) (ha : Src w aa n ca za) (hb : IntsAt w ab zb) (hn : n ≤ 2000) (hm : zb.length ≤ 50) :
    Calls Try.prog 11 #[.slice aa n ca, .slice ab zb.length cb] w fun e w' => e = .returned (.bool true) ∧ Below w.heap.size w w' := by
  obtain ⟨i0, hi0, hz0, hz1, hz2⟩ := info_parts info35
  have Hi := Lib.hid hi0
  have Hz := Lib.hid hz0
  have Hs := Lib.hid hz1
  have Hb := Lib.hid hz2
  clear hi0 hz0 hz1 hz2
  have ma := ha.small
  have na := ha.2.1
  unfold maxLen at ma
  have SA := Lib.hid ha
  have SB := Lib.hid hb
  have Sz := Lib.hid (show sumOf 0 ([] : List (List Int)).flatten = 0 from sum_nil)
  clear ha hb
  go_enter Try.func11, Try.ntmps11
  go_wp2_with fail
  refine (Crc.alive_any _).mono ?_
  rintro e w1 ⟨rfl, hb1⟩
  have S0 := Lib.hid (sofar_zero za hb1)
  clear hb1
  go_wp2_with fail
  go_loopw [6, 7, 8] (fun v f i wr => ∃ k m : Nat, k ≤ zb.length ∧ m ≤ n ∧ i = .int .i64 k ∧ f = .int .i64 m ∧ Sofar w za k m v wr) (fun _ _ i _ => zb.length - (intOf i).toNat)
  case atStart => exact ⟨0, 0, Nat.zero_le _, Nat.zero_le _, rfl, rfl, S0.out⟩
  case round =>
    obtain ⟨k, f, hk, hf, rfl, rfl, hso⟩ := hrel
    obtain ⟨vs, LL, hown, hpc, hll, hfl, hbel⟩ := hso
    have Hown := Lib.hid hown
    have Hpc := Lib.hid hpc
    have Hll := Lib.hid hll
    have Hfl := Lib.hid hfl
    by_cases hlt : k < zb.length
    · obtain ⟨b, off, rfl, hcell⟩ := SB.out (by omega)
      have hc := hcell k hlt
      have hc1 := (hbel.cell (p := ⟨b, off + k, none⟩) (World.block_lt_of_cell? w _ hc)).trans hc
      clear hc
      have Hcell := Lib.hid hcell
      have Hbel := Lib.hid hbel
      clear hcell hbel hown hpc hll hfl
      generalize hx : zb.getD k 0 = x at *
      clear hx
      obtain ⟨D, hD, eD⟩ := and31 x
      by_cases hto : f + D ≤ n
      · have Pp := Lib.hid (piece_at SA.out f D (by omega))
        go_wp2_with (at_builtin; refine wpList_append_own _ rfl (.tmp 45) (.tmp 50) 34 rfl w.heap.size 35 i0 (.slice none 0 0) 1 24 Try.underlying34 Hi.out Hz.out Hs.out Hb.out rfl (by decide) _ (2 * k) vs rfl (Hown.out.alloc _) ⟨wr.heap.size, 0, none⟩ 2 2 [_, .slice none 0 0] rfl rfl (two_new _ _ _) (one_cells Pp.out) (by unfold maxLen; omega) (by omega) (below_alloc Hbel.out _).size ?_; intro v1 w2 hown1 hgrow1 hnil1; clear hnil1)
        go_roundw
        case rel => exact ⟨k + 1, f + D, by omega, by omega, by go_num, by go_num, sofar_next Hown.out Hpc.out Hll.out Hfl.out Hbel.out Pp.out hown1 hgrow1 rfl⟩
        case measure => simp [intOf]; omega
      · have Pp := Lib.hid (piece_at SA.out f (n - f) (by omega))
        go_wp2_with (at_builtin; refine wpList_append_own _ rfl (.tmp 45) (.tmp 50) 34 rfl w.heap.size 35 i0 (.slice none 0 0) 1 24 Try.underlying34 Hi.out Hz.out Hs.out Hb.out rfl (by decide) _ (2 * k) vs rfl (Hown.out.alloc _) ⟨wr.heap.size, 0, none⟩ 2 2 [_, .slice none 0 0] rfl rfl (two_new _ _ _) (one_cells Pp.out) (by unfold maxLen; omega) (by omega) (below_alloc Hbel.out _).size ?_; intro v1 w2 hown1 hgrow1 hnil1; clear hnil1)
        go_roundw
        case rel => exact ⟨k + 1, n, by omega, by omega, by go_num, rfl, sofar_next Hown.out Hpc.out Hll.out Hfl.out Hbel.out Pp.out hown1 hgrow1 (by omega)⟩
        case measure => simp [intOf]; omega
    · have hkz : k = zb.length := by omega
      have hk50 : k ≤ 50 := by omega
      have Hbel := Lib.hid hbel
      clear hbel hown hpc hll hfl hkz
      have Pp := Lib.hid (piece_at SA.out f (n - f) (by omega))
      go_wp2_with (at_builtin; refine wpList_append_own _ rfl (.tmp 53) (.tmp 57) 34 rfl w.heap.size 35 i0 (.slice none 0 0) 1 24 Try.underlying34 Hi.out Hz.out Hs.out Hb.out rfl (by decide) _ (2 * k) vs rfl (Hown.out.alloc _) ⟨wr.heap.size, 0, none⟩ 1 1 [_] rfl rfl (one_new _ _) (one_cells1 Pp.out) (by unfold maxLen; omega) (by omega) (below_alloc Hbel.out _).size ?_; intro v1 w2 hown1 hgrow1 hnil1; clear hnil1; have Hdone := Lib.hid (done_of hf Hown.out Hpc.out Hll.out Hfl.out Hbel.out Pp.out hown1 hgrow1); clear hown1 hgrow1; generalize (if ca = f then aa else Option.map (fun x => x.add f) aa) = A)
      · refine (Crc.sum_any none 0 [] _ (Crc.rows_nil _)).mono ?_
        rintro e w3 ⟨rfl, rfl⟩
        rw [Sz.out]
        obtain ⟨ws, MM, hown2, hpc2, hll2, hfl2, hbel2⟩ := Hdone.out
        obtain ⟨g, cap, rfl, _, _⟩ := Crc.own_form hown2 (by omega)
        have Rows2 := Lib.hid (rows_own hown2 hpc2 hll2 hbel2 (by omega))
        have Hown2 := Lib.hid hown2
        have Hpc2 := Lib.hid hpc2
        have Hll2 := Lib.hid hll2
        have Hfl2 := Lib.hid hfl2
        have Hbel2 := Lib.hid hbel2
        clear hown2 hpc2 hll2 hfl2 hbel2
        go_wp2_with fail
        go_loopw [10, 11] (fun s i wx => ∃ j : Nat, j ≤ 2 * k + 1 ∧ i = .int .i64 j ∧ s = .int .i64 (sumOf 0 (MM.take j).flatten) ∧ Below w2.heap.size w2 wx) (fun _ i _ => 2 * k + 1 - (intOf i).toNat)
        case atStart => exact ⟨0, by omega, rfl, by rw [List.take_zero, List.flatten_nil, sum_nil], Below.refl _ _⟩
        case round =>
          obtain ⟨j, hj, rfl, rfl, hbx⟩ := hrel
          by_cases hjt : j < 2 * k + 1
          · obtain ⟨av, cv, hv, _, _, _, _⟩ := Hpc2.out.2.2 j (by rw [Hll2.out]; exact hjt)
            have hcj := cell_own Hown2.out hjt
            rw [hv] at hcj
            have hcx : wr.cell? ⟨g, j, none⟩ = some (.slice av (MM.getD j []).length cv) := Holds.below hbx _ _ hcj
            have hpj := (Hpc2.out.2.2 j (by rw [Hll2.out]; exact hjt)).keep ((Holds.below Hbel2.out).trans (Holds.below hbx))
            rw [hv] at hpj
            have Hpj := Lib.hid hpj
            have Hbx := Lib.hid hbx
            clear hpj hbx hcj hv
            have Hnext := Lib.hid (sum_next MM j (by rw [Hll2.out]; exact hjt))
            generalize MM.getD j [] = lj at *
            go_wp2_with fail
            refine (Crc.more_any _ _ 1 [lj] _ (Crc.rows_one Hpj.out _ rfl)).mono ?_
            rintro e w3 ⟨rfl, rfl⟩
            rw [Hnext.out]
            go_wp2_with fail
            go_roundw
            case rel => exact ⟨j + 1, by omega, by go_num, rfl, Hbx.out.alloc Hbx.out.size _⟩
            case measure => simp [intOf]; omega
          · have hjm : j = MM.length := by rw [Hll2.out]; omega
            have Hs := Lib.hid (show (MM.take j).flatten = za.take n by rw [hjm, List.take_length]; exact Hfl2.out)
            have Hbx := Lib.hid hbx
            have Rx := Lib.hid (Rows2.out.keep (Holds.below hbx))
            have Va := Lib.hid (SA.out.all.keep ((Holds.below Hbel2.out).trans (Holds.below hbx)))
            have hsx := hbx.size
            clear hbx hjm
            go_wp2_with fail
            refine (sum_len Hll2.out Rx.out).mono ?_
            rintro e w3 ⟨rfl, rfl⟩
            rw [Hfl2.out]
            go_wp2_with fail
            refine (Crc.sum_any _ 1 [za.take n] _ (Crc.rows_one Va.out _ rfl)).mono ?_
            rintro e w3 ⟨rfl, rfl⟩
            rw [one_flat, Hs.out]
            go_wp2_with fail
            refine (Crc.sum_any _ 1 [za.take n] _ (Crc.rows_one (Va.out.keep (Holds.alloc _ _)) (wr.heap.size + 1) (by simp))).mono ?_
            rintro e w3 ⟨rfl, rfl⟩
            rw [one_flat]
            go_wp2_with fail
            refine (Crc.sum_any none 0 [] _ (Crc.rows_nil _)).mono ?_
            rintro e w3 ⟨rfl, rfl⟩
            rw [Sz.out]
            go_wp2_with fail
            go_ret
            exact ⟨rfl, ((Hbel2.out.trans (Hbx.out.mono Hbel2.out.size)).alloc (Nat.le_trans Hbel2.out.size hsx) _).alloc (by have := Hbel2.out.size; simp; omega) _⟩
theorem out0 (aa : Option Addr) (n ca : Nat) (ab : Option Addr) (m cb : Nat) (w : World) (q0 : 2000 < (n : Int)) :
    Calls Try.prog 11 #[.slice aa n ca, .slice ab m cb] w fun e w' => e = .returned (.bool true) ∧ Below w.heap.size w w' := by
  go_enter Try.func11, Try.ntmps11
  go_wp2_with fail
  refine (Crc.alive_any _).mono ?_
  rintro e w1 ⟨rfl, hb1⟩
  go_wp2_with fail
  go_ret
  exact ⟨rfl, hb1⟩
theorem out1 (aa : Option Addr) (n ca : Nat) (ab : Option Addr) (m cb : Nat) (w : World) (q0 : (n : Int) ≤ 2000) (q1 : 50 < (m : Int)) :
    Calls Try.prog 11 #[.slice aa n ca, .slice ab m cb] w fun e w' => e = .returned (.bool true) ∧ Below w.heap.size w w' := by
  go_enter Try.func11, Try.ntmps11
  go_wp2_with fail
  refine (Crc.alive_any _).mono ?_
  rintro e w1 ⟨rfl, hb1⟩
  go_wp2_with fail
  go_ret
  exact ⟨rfl, hb1⟩
/-- a slice of integers, as it is read -/
theorem ints_of {H : Type} {enc : TypeId × Value → H} {W : World} {base : Nat} {held : Bool} {a : Option Addr} {len cap : Nat} {d : DataW H} {p : List MemPlace}
    (h : DataW.Trod enc Try.prog W base (fun _ => true) held 47 (.slice a len cap) d p) : ∃ z : List Int, z.length = len ∧ IntsAt W a z := by
  obtain ⟨fuel, hf⟩ := h
  rcases open_ints Try.underlying47 Try.underlying3 (by kernel_rfl) hf with ⟨hcs, _⟩ | ⟨x, l, c, zs, hcs, _, hl, hm, hz, _, hcell, hwz⟩
  · simp [Value.cells] at hcs
    obtain ⟨rfl, rfl, rfl⟩ := hcs
    exact ⟨[], rfl, fun h => absurd h (Nat.lt_irrefl _)⟩
  · simp [Value.cells] at hcs
    obtain ⟨rfl, rfl, rfl⟩ := hcs
    have hz' : zs.length = cap := by simpa using hz
    have hlen : (zs.take len).length = len := by rw [List.length_take]; omega
    refine ⟨zs.take len, hlen, fun hp => ?_⟩
    rw [hlen] at hp
    obtain ⟨b, off, rfl, hadd⟩ := Crc.plain_addr (hcell 0 (by omega))
    refine ⟨b, off, rfl, fun j hj => ?_⟩
    rw [hlen] at hj
    rw [← hadd, hcell j (by omega), List.getD_eq_getElem?_getD, List.getD_eq_getElem?_getD, List.getElem?_take, if_pos hj]
theorem walk (aa : Option Addr) (n ca : Nat) (za : List Int) (ab : Option Addr) (m cb : Nat) (zb : List Int) (w : World) (ha : Src w aa n ca za) (hb : zb.length = m ∧ IntsAt w ab zb) :
    Calls Try.prog 11 #[.slice aa n ca, .slice ab m cb] w fun e w' => e = .returned (.bool true) ∧ Below w.heap.size w w' := by
  obtain ⟨hm, hi⟩ := hb
  subst hm
  refine (Classical.em ((n : Int) ≤ 2000)).elim (fun q0 => ?_) (fun no => out0 aa n ca ab _ cb w (by omega))
  refine (Classical.em ((zb.length : Int) ≤ 50)).elim (fun q1 => ?_) (fun no => out1 aa n ca ab _ cb w q0 (by omega))
  exact walk_core aa n ca za ab zb cb w ha hi (by omega) (by omega)

set_option maxRecDepth 100000 in
theorem lifted (os : Os) (started : os.Started) (H : Type) (enc : TypeId × Value → H) :
    ReturnsInHanded {} Try.checked os 11 .any (Rows.crcCutsSpec.pre6 enc Try.prog Try.f11 Rows.crcCutsRow.domain false) (Rows.crcCutsSpec.post enc Try.prog Try.f11 false true false false) := by
  refine returnsInHanded_of_change (C := Try.checked) own started (by kernel_rfl) Try.func11
    (ChangeSpec.witness6 (enc := enc) (C := Try.checked) false ⟨#[], #[.slice none 0 0, .slice none 0 0], []⟩ 8 (by kernel_rfl) (by kernel_rfl) (by kernel_rfl) (by kernel_rfl)) ?_
  intro W base args ds gs before hval0 hW hcnd _
  have hval : ∀ (j : Nat) t v, Try.f11.params[j]? = some t → args[j]? = some v → Value.okWide Try.prog W .any base t v := hval0
  have hW' := hW
  obtain ⟨p, q, hA0, hV, rfl, hfz, hnd⟩ := hW
  have hA : DataW.TrodAll enc Try.prog W 0 (fun _ => true) true Try.f11.params.toList args.toList ds p := hA0
  rw [Try.params11] at hA hval
  obtain ⟨v0, vs0, d0, ds0, p0, q0, hargs, rfl, rfl, h0, r0⟩ := trodAll_cons hA
  obtain ⟨v1, vs1, d1, ds1, p1, q1, rfl, rfl, rfl, h1, r1⟩ := trodAll_cons r0
  obtain ⟨rfl, rfl, rfl⟩ := trodAll_nil r1
  obtain rfl : args = #[v0, v1] := by cases args; simp_all
  obtain ⟨rfl, rfl⟩ := trodVars_none hV
  have k0 := h0
  have lt0 : ∀ x ∈ p0, x.block < W.heap.size := by obtain ⟨m, hm⟩ := k0; exact DataW.trod_lt m _ _ _ hm
  obtain ⟨a0, len0, cap0, rfl⟩ := okWide_slice Try.underlying35 (hval 0 35 v0 rfl rfl)
  obtain ⟨z0, w0⟩ := Crc.bytes_of k0
  have k1 := h1
  have lt1 : ∀ x ∈ p1, x.block < W.heap.size := by obtain ⟨m, hm⟩ := k1; exact DataW.trod_lt m _ _ _ hm
  obtain ⟨a1, len1, cap1, rfl⟩ := okWide_slice Try.underlying47 (hval 1 47 v1 rfl rfl)
  obtain ⟨z1, w1⟩ := ints_of k1
  clear hA0 hval0
  refine (walk a0 len0 cap0 z0 a1 len1 cap1 z1 W w0 w1).mono fun e W' ⟨he, bel⟩ => ?_
  subst he
  exact ⟨_, rfl, _, _, _, [], _, [], hW', trodAll_mk1 (shut_bool Try.underlying4 _), (trodAll_cons_mk (Below.trod laidOut (by kernel_rfl) (of_decide_eq_true (by kernel_rfl)) k0 bel lt0) (trodAll_cons_mk (Below.trod laidOut (by kernel_rfl) (of_decide_eq_true (by kernel_rfl)) k1 bel lt1) trodAll_mk0)), rfl, bel.frame _, fun h => by cases h⟩

theorem over : Rows.crcCutsRow.holds Try.pinned (OpenSpec.ofChange Rows.crcCutsSpec) :=
  OpenClaim.holds_of_wide 11 Try.f11 rfl rfl rfl rfl rfl rfl rfl ⟨rfl, rfl, rfl, rfl, rfl⟩ rfl rfl rfl rfl rfl (by kernel_rfl) Try.func11 (by kernel_rfl)
    (of_decide_eq_true (by kernel_rfl)) (by unfold Func.isWrapper; first | (rw [if_pos (by decide +kernel)]; kernel_rfl) | (rw [if_neg (by decide +kernel)]; exact ⟨rfl, rfl⟩))
    (fun os started H enc _ => lifted os started H enc)

/-- the statement -/
theorem proved : Rows.CrcCutsSaid := over
#print axioms proved
end Go.Proofs.Ytahcjjelamknnaa.crcCuts
