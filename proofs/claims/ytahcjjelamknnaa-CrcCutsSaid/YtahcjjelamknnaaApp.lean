/- The walk's law for append of a list of bytes, nil or not, onto bytes that the call owns, guarded or not. -/
import Derived.Test.YtahcjjelamknnaaJoin
namespace Go.Proofs.Ytahcjjelamknnaa.Crc
open Go.RowKit

theorem wpList_wanted {P : Program} {ops : Array Oper} {Q : Exit → Act → World → Prop} {a : Act} {w : World} {rest : List Oper} {o : Oper}
    (hw : Region.wanted o (yielded ops a.tmps) = true) (h : ∀ K : Act → World → Prop, (∀ a w, wpList P ops Q rest a w → K a w) → o.wp P a w K Q) : wpList P ops Q (o :: rest) a w :=
  wpList_step fun K hK => by rw [if_pos hw]; exact h K hK

theorem bytes_bd {w : World} {v : Value} {l : List Int} (h : BytesAt w v l) : ∀ u ∈ l, 0 ≤ u ∧ u < 256 := by
  obtain ⟨_, _, _, _, hb, _⟩ := h
  exact hb
theorem own_form {w : World} {base size : Nat} {e : TypeId} {v : Value} {n : Nat} {xs : List Value} (h : w.ownsRow base e size v n xs) (hn : 0 < n) : ∃ g cap, v = .slice (some ⟨g, 0, none⟩) n cap ∧ n ≤ cap ∧ cap ≤ maxLen := by
  rcases h.2 with ⟨rfl, h0⟩ | ⟨g, cap, cur, rfl, _, _, h1, h2, _⟩
  · omega
  · exact ⟨g, cap, rfl, h1, h2⟩
theorem wpList_append_bytes {ops : Array Oper} {rest : List Oper} {o : Oper} {a : Act} {Q : Exit → Act → World → Prop} (w : World)
    (hw : Region.wanted o (yielded ops a.tmps) = true) (s x : Operand) (ho : o.op = .call { callee := .builtin .append, args := #[s, x], argTypes := #[35, 35] })
    (base : Nat) (v : Value) (l : List Int) (hs : a.eval s = v) (hown : w.ownsRow base 5 1 v l.length (l.map (Value.int .u8)))
    (xv : Value) (m : List Int) (hx : a.eval x = xv) (hb : BytesAt w xv m) (hlen : l.length + m.length ≤ 1000000) (hbase : base ≤ w.heap.size)
    (h : ∀ v' w', w'.ownsRow base 5 1 v' (l ++ m).length ((l ++ m).map (Value.int .u8)) → w.grownBy w' v.ownBlock → wpList Try.prog ops Q rest (a.put o.dst v') w') :
    wpList Try.prog ops Q (o :: rest) a w := by
  obtain ⟨i0, hi, hz, hs1, hb1⟩ := info_parts info5
  obtain ⟨av, c, rfl, hmax, hby, hc, hnil⟩ := hb
  refine wpList_wanted hw fun K hK => ?_
  rcases av with _ | ad
  · have hm0 : m.length = 0 := by
      rcases Nat.eq_zero_or_pos m.length with h0 | h0
      · exact h0
      · obtain ⟨_, _, h', _⟩ := hc h0
        cases h'
    have hm : m = [] := List.eq_nil_of_length_eq_zero hm0
    have hc0 := hnil rfl
    subst hm hc0
    have hrun := run_append_owned_none (P := Try.prog) (w := w) base 35 o.type 5 i0 1 Try.underlying35 hi v _ _ hown
    unfold Oper.wp
    simp [execOp, ho, resolve, invoke, builtin, hs, hx, hrun, Result.andThen]
    exact hK _ _ (h v w (by simpa using hown) (World.grownBy.refl w _))
  · have hnews := news_of (w := w) (wr := w) (ad := ad) (l := m) (Below.refl _ _) hc
    exact wp_append_own w s x 35 ho base 5 i0 (.int .u8 0) 1 1 Try.underlying35 hi hz hs1 hb1 rfl (by decide) v _ _ hs hown ad m.length c (m.map (Value.int .u8)) hx (by simp) hnews (oneCells m)
      (by unfold maxLen; omega) (by omega) hbase fun v' w' hown' hgrow _ => hK _ _ (h v' w' (by rw [List.length_append, List.map_append]; exact hown') hgrow)
end Go.Proofs.Ytahcjjelamknnaa.Crc
