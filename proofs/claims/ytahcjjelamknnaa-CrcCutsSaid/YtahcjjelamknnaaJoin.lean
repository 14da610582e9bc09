/- What the law's 'join' answers: lists one behind the other, or false where there are more than fifty or one is longer than two thousand. -/
import Derived.Test.YtahcjjelamknnaaSum
import Derived.Laws.AppendOwn
import Derived.Laws.AppendOwnNone
namespace Go.Proofs.Ytahcjjelamknnaa.Crc
open Go.RowKit

/-- the lists that join takes -/
def Fits (L : List (List Int)) : Prop := L.length ≤ 50 ∧ ∀ l ∈ L, l.length ≤ 2000
theorem info5 : (Try.prog.info? 5).map (fun i => (i.zero, i.size, i.bytes)) = some (some (.int .u8 0), 1, 1) := by kernel_rfl

/-- join's answer -/
def Joined (L : List (List Int)) (w : World) (e : Ending) (w' : World) : Prop :=
  Below w.heap.size w w' ∧ ((¬ Fits L ∧ e = .returned (.tuple #[.slice none 0 0, .bool false])) ∨ (Fits L ∧ ∃ v, e = .returned (.tuple #[v, .bool true]) ∧ BytesAt w' v L.flatten))

theorem join_many (a : Option Addr) (c : Nat) (L : List (List Int)) (w : World) (h : 50 < L.length) :
    Calls Try.prog 20 #[.slice a L.length c] w (Joined L w) := by
  go_enter Try.func20, Try.ntmps20
  go_wp2
  go_ret2
  exact ⟨Below.refl _ _, .inl ⟨fun f => by have := f.1; omega, rfl⟩⟩

/-- the first k lists, one behind the other -/
def fl (L : List (List Int)) (k : Nat) : List Int := (L.take k).flatten
theorem fl_more (L : List (List Int)) (k : Nat) (h : k < L.length) : fl L (k + 1) = fl L k ++ L.getD k [] := by
  unfold fl
  rw [take_more L [] k h]
  simp
theorem fl_all (L : List (List Int)) : fl L L.length = L.flatten := by unfold fl; rw [List.take_length]
theorem getD_mem {α : Type} (l : List α) (d : α) (k : Nat) (h : k < l.length) : l.getD k d ∈ l := by
  rw [List.getD_eq_getElem?_getD, List.getElem?_eq_getElem h]
  exact List.getElem_mem h
/-- what the loop keeps -/
def Sofar (L : List (List Int)) (w : World) (k : Nat) (v : Value) (wr : World) : Prop :=
  wr.ownsRow w.heap.size 5 1 v (fl L k).length ((fl L k).map (Value.int .u8)) ∧ Below w.heap.size w wr ∧ (fl L k).length ≤ 2000 * k ∧ (∀ i, i < k → (L.getD i []).length ≤ 2000) ∧ ∀ u ∈ fl L k, 0 ≤ u ∧ u < 256
theorem sofar_zero (L : List (List Int)) (w : World) : Sofar L w 0 (.slice none 0 0) w :=
  ⟨World.ownsRow_nil w _ _ _, Below.refl _ _, by simp [fl], fun i hi => absurd hi (Nat.not_lt_zero _), fun u hu => by simp [fl] at hu⟩
theorem sofar_same {L : List (List Int)} {w wr : World} {k : Nat} {v : Value} (h : Sofar L w k v wr) (hk : k < L.length) (h0 : L.getD k [] = []) : Sofar L w (k + 1) v wr := by
  obtain ⟨h1, h2, h3, h4, h5⟩ := h
  have e : fl L (k + 1) = fl L k := by rw [fl_more L k hk, h0, List.append_nil]
  refine ⟨by rw [e]; exact h1, h2, by rw [e]; omega, fun i hi => ?_, by rw [e]; exact h5⟩
  by_cases hik : i < k
  · exact h4 i hik
  · obtain rfl : i = k := by omega
    rw [h0]; simp
theorem sofar_next {L : List (List Int)} {w wr w1 : World} {k : Nat} {v v1 : Value} (h : Sofar L w k v wr) (hk : k < L.length) (hl : (L.getD k []).length ≤ 2000) (hb : ∀ u ∈ L.getD k [], 0 ≤ u ∧ u < 256)
    (hown : w1.ownsRow w.heap.size 5 1 v1 ((fl L k).length + (L.getD k []).length) ((fl L k).map (Value.int .u8) ++ (L.getD k []).map (Value.int .u8))) (hg : wr.grownBy w1 v.ownBlock) : Sofar L w (k + 1) v1 w1 := by
  obtain ⟨h1, h2, h3, h4, h5⟩ := h
  have e := fl_more L k hk
  refine ⟨by rw [e, List.length_append, List.map_append]; exact hown, h2.grown hg h2.size (fun g he => (h1.lt g he).1), by rw [e, List.length_append]; omega, fun i hi => ?_, fun u hu => ?_⟩
  · by_cases hik : i < k
    · exact h4 i hik
    · obtain rfl : i = k := by omega
      exact hl
  · rw [e, List.mem_append] at hu
    rcases hu with hu | hu
    · exact h5 u hu
    · exact hb u hu
theorem oneCells (l : List Int) : ∀ u ∈ l.map (Value.int .u8), u.oneCell' = true := by
  intro u hu
  obtain ⟨x, _, rfl⟩ := List.mem_map.1 hu
  rfl
/-- an owned row of bytes is a list of bytes in memory -/
theorem bytes_of_own {w : World} {base : Nat} {v : Value} {l : List Int} (h : w.ownsRow base 5 1 v l.length (l.map (Value.int .u8))) (hl : l.length ≤ maxLen) (hb : ∀ u ∈ l, 0 ≤ u ∧ u < 256) : BytesAt w v l := by
  rcases h.2 with ⟨rfl, hn⟩ | ⟨g, cap, cur, rfl, hbase, hh, hnc, hcm, hcs, htk⟩
  · refine ⟨none, 0, by rw [hn], hl, hb, fun hp => absurd hp (by omega), fun _ => rfl⟩
  · refine ⟨some ⟨g, 0, none⟩, cap, rfl, hl, hb, fun _ => ⟨g, 0, rfl, fun j hj => ?_⟩, fun h => by cases h⟩
    rw [Nat.zero_add, h.cellAt j (by omega), List.getElem?_map, List.getD_eq_getElem?_getD, List.getElem?_eq_getElem hj]
    rfl

theorem news_of {w wr : World} {ad : Addr} {l : List Int} (hb : Below w.heap.size w wr) (h : 0 < l.length → ∃ b off, (some ad : Option Addr) = some ⟨b, off, none⟩ ∧ ∀ j, j < l.length → w.cell? ⟨b, off + j, none⟩ = some (.int .u8 (l.getD j 0))) :
    ∀ j u, (l.map (Value.int .u8))[j]? = some u → wr.cell? (ad.add j) = some u := by
  intro j u hu
  rw [List.getElem?_map] at hu
  obtain ⟨x, hx, rfl⟩ := Option.map_eq_some_iff.1 hu
  obtain ⟨hj, hxj⟩ := List.getElem?_eq_some_iff.1 hx
  obtain ⟨b, off, ha, hc⟩ := h (by omega)
  cases ha
  have h1 := hc j hj
  have h2 := (hb.cell (p := ⟨b, off + j, none⟩) (World.block_lt_of_cell? w _ h1)).trans h1
  rw [List.getD_eq_getElem?_getD, hx] at h2
  unfold Addr.add
  by_cases h0 : j = 0
  · subst h0; simpa using h2
  · simpa [h0] using h2
set_option maxHeartbeats 400000 in
theorem join_few (a : Option Addr) (c : Nat) (L : List (List Int)) (w : World) (h : RowsAt w a L) (h50 : L.length ≤ 50) :
    Calls Try.prog 20 #[.slice a L.length c] w (Joined L w) := by
  obtain ⟨i0, hi0, hz0, hz1, hz2⟩ := info_parts info5
  have Hi := Lib.hid hi0
  have Hz := Lib.hid hz0
  have Hs := Lib.hid hz1
  have Hb := Lib.hid hz2
  clear hi0 hz0 hz1 hz2
  obtain ⟨hL, vs, hvs, hin, hout⟩ := h
  have Hin := Lib.hid hin
  have Hout := Lib.hid hout
  clear hin hout hvs hL
  go_enter Try.func20, Try.ntmps20
  go_wp2
  go_loopw [4, 5] (fun v i wr => ∃ k : Nat, k ≤ L.length ∧ i = .int .i64 k ∧ Sofar L w k v wr) (fun _ i _ => L.length - (intOf i).toNat)
  case atStart => exact ⟨0, Nat.zero_le _, rfl, sofar_zero L w⟩
  case round =>
    obtain ⟨k, hk, rfl, hso⟩ := hrel
    have Hso := Lib.hid hso
    clear hso
    by_cases hlt : k < L.length
    · obtain ⟨b, off, rfl, hcell⟩ := Hout.out (by omega)
      have hc := hcell k hlt
      have hblt := World.block_lt_of_cell? w _ hc
      have hc1 := (Hso.out.2.1.cell (p := ⟨b, off + k, none⟩) hblt).trans hc
      obtain ⟨ai, ci, hv, hlen, hby, hcs, hnil⟩ := Hin.out k hlt
      rw [hv] at hc1
      clear hc hblt
      have Hcell := Lib.hid hcell
      have Hv := Lib.hid hv
      have Hby := Lib.hid hby
      have Hcs := Lib.hid hcs
      have Hnil := Lib.hid hnil
      clear hcell hv hby hcs hnil
      generalize hl : L.getD k [] = l at *
      have Hl := Lib.hid hl
      clear hl
      unfold maxLen at hlen
      by_cases h2 : 2000 < l.length
      · have Hno := Lib.hid (show ¬ Fits L from fun f => by
          have := f.2 _ (getD_mem L [] k hlt)
          rw [Hl.out] at this
          omega)
        go_wp2
        go_ret2
        exact ⟨Hso.out.2.1, .inl ⟨Hno.out, rfl⟩⟩
      · have h3 : l.length ≤ 2000 := by omega
        clear h2
        have hfl := Hso.out.2.2.1
        rcases ai with _ | ad
        · have hl0 : l.length = 0 := by
            rcases Nat.eq_zero_or_pos l.length with h0 | h0
            · exact h0
            · obtain ⟨_, _, h', _⟩ := Hcs.out h0
              cases h'
          have hl0' : l = [] := List.eq_nil_of_length_eq_zero hl0
          have hci := Hnil.out rfl
          subst hci hl0'
          clear hl0 hlen h3
          go_wp2_with (at_builtin; refine wpList_append_own_none rfl _ _ 35 rfl w.heap.size 5 i0 1 Try.underlying35 Hi.out _ _ _ rfl Hso.out.1 rfl ?_)
          go_roundw
          case rel => exact ⟨k + 1, by omega, by go_num, sofar_same Hso.out hlt Hl.out⟩
          case measure => simp [intOf]; omega
        · have Hnews := Lib.hid (news_of (Hso.out.2.1) Hcs.out)
          go_wp2_with (at_builtin; refine wpList_append_own _ rfl _ _ 35 rfl w.heap.size 5 i0 (.int .u8 0) 1 1 Try.underlying35 Hi.out Hz.out Hs.out Hb.out rfl (by decide) _ _ _ rfl Hso.out.1 ad l.length ci (l.map (Value.int .u8)) rfl (by simp) Hnews.out (oneCells l) (by unfold maxLen; omega) (by omega) Hso.out.2.1.size ?_; intro v1 w1 hown1 hgrow1 _)
          go_roundw
          case rel => exact ⟨k + 1, by omega, by go_num, sofar_next Hso.out hlt (by rw [Hl.out]; omega) (by rw [Hl.out]; exact Hby.out) (by rw [Hl.out]; exact hown1) hgrow1⟩
          case measure => simp [intOf]; omega
    · have hkk : k = L.length := by omega
      subst hkk
      go_wp2
      go_ret2
      have hso := Hso.out
      refine ⟨hso.2.1, .inr ⟨⟨h50, fun l hl => ?_⟩, _, rfl, ?_⟩⟩
      · obtain ⟨i, hi, rfl⟩ := List.mem_iff_getElem.1 hl
        have := hso.2.2.2.1 i hi
        rwa [List.getD_eq_getElem?_getD, List.getElem?_eq_getElem hi] at this
      · have hb := bytes_of_own hso.1 (by have := hso.2.2.1; unfold maxLen; omega) hso.2.2.2.2
        rwa [fl_all] at hb
theorem join_any (a : Option Addr) (c : Nat) (L : List (List Int)) (w : World) (h : RowsAt w a L) : Calls Try.prog 20 #[.slice a L.length c] w (Joined L w) := by
  by_cases h50 : 50 < L.length
  · exact join_many a c L w h50
  · exact join_few a c L w h (by omega)
end Go.Proofs.Ytahcjjelamknnaa.Crc
