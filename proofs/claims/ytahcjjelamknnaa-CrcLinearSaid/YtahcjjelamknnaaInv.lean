/- A region that draws its order, by an invariant: whatever comes up next keeps it; where all have come up it gives what follows. -/
import Derived.Test.YtahcjjelamknnaaApp
import Derived.Orders
import Derived.RegionTactic
namespace Go.Proofs.Ytahcjjelamknnaa.Drawn
open Go.RowKit

/-- which operations have come up -/
def mark (d : Nat → Bool) (i : Nat) : Nat → Bool := fun j => if j = i then true else d j

theorem any_of_inv {P : Program} {ops : Array Oper} {Q : Exit → Act → World → Prop} (I : (Nat → Bool) → Act → World → Prop)
    (hord : ∀ (i : Nat) (o : Oper), ops[i]? = some o → ∀ e ∈ o.after, e.on < i)
    (hstep : ∀ d a w, I d a w → ∀ i, i < ops.size → d i = false → (∀ (o : Oper), ops[i]? = some o → ∀ e ∈ o.after, Region.binds .any e = true → d e.on = true) → wpOp P ops Q i (I (mark d i)) a w)
    (hend : ∀ d a w, I d a w → (∀ i, i < ops.size → d i = true) → Q .normal a w) :
    ∀ (fuel : Nat) (listed : Array Bool) (d : Nat → Bool) (a : Act) (w : World), listed.size = ops.size → (∀ i, i < ops.size → listed[i]? = some (d i)) →
      ((List.range ops.size).filter fun i => !d i).length ≤ fuel → I d a w → wpAny P .any ops Q fuel listed a w := by
  have hall : ∀ (listed : Array Bool) (d : Nat → Bool), listed.size = ops.size → (∀ i, i < ops.size → listed[i]? = some (d i)) → Region.ready .any ops listed = [] → ∀ i, i < ops.size → d i = true := by
    intro listed d hs hl hr i
    induction i using Nat.strongRecOn with
    | ind i ih =>
      intro hi
      cases hd : d i with
      | true => rfl
      | false =>
        have : i ∈ Region.ready .any ops listed := by
          rw [mem_ready]
          refine ⟨by rw [Array.getD_eq_getD_getElem?, hl i hi, hd]; rfl, ops[i], Array.getElem?_eq_getElem hi, fun e he _ => ?_⟩
          have hlt := hord i _ (Array.getElem?_eq_getElem hi) e he
          rw [Array.getD_eq_getD_getElem?, hl e.on (by omega)]
          exact ih e.on hlt (by omega)
        rw [hr] at this
        cases this
  intro fuel
  induction fuel with
  | zero =>
    intro listed d a w hs hl hf hI
    have hd : ∀ i, i < ops.size → d i = true := by
      intro i hi
      cases hdi : d i with
      | true => rfl
      | false =>
        have hm : i ∈ (List.range ops.size).filter fun i => !d i := by
          rw [List.mem_filter, List.mem_range]
          exact ⟨hi, by rw [hdi]; rfl⟩
        have := List.length_pos_of_mem hm
        omega
    refine ⟨?_, hend d a w hI hd⟩
    rw [List.eq_nil_iff_forall_not_mem]
    intro i hi
    rw [mem_ready] at hi
    obtain ⟨h0, o, ho, _⟩ := hi
    have hlt : i < ops.size := (Array.getElem?_eq_some_iff.1 ho).1
    rw [Array.getD_eq_getD_getElem?, hl i hlt, hd i hlt] at h0
    cases h0
  | succ fuel ih =>
    intro listed d a w hs hl hf hI
    refine ⟨fun hr => hend d a w hI (hall listed d hs hl hr), fun i hi => ?_⟩
    rw [mem_ready] at hi
    obtain ⟨h0, o, ho, hdep⟩ := hi
    have hlt : i < ops.size := (Array.getElem?_eq_some_iff.1 ho).1
    have hdi : d i = false := by
      rw [Array.getD_eq_getD_getElem?, hl i hlt] at h0
      exact h0
    refine wpOp_mono (fun a' w' h => ih (listed.setIfInBounds i true) (mark d i) a' w' (by rw [Array.size_setIfInBounds]; exact hs) (fun j hj => ?_) ?_ h) (hstep d a w hI i hlt hdi fun o' ho' e he hb => ?_)
    · rw [Array.getElem?_setIfInBounds]
      unfold mark
      by_cases hji : i = j
      · subst hji
        simp [hs, hlt]
      · rw [if_neg hji, if_neg (fun h => hji h.symm)]
        exact hl j hj
    · have hlen : ((List.range ops.size).filter fun j => !mark d i j).length < ((List.range ops.size).filter fun j => !d j).length := by
        have e : ((List.range ops.size).filter fun j => !mark d i j) = ((List.range ops.size).filter fun j => !d j).filter fun j => !(j == i) := by
          rw [List.filter_filter]
          apply List.filter_congr
          intro j _
          unfold mark
          by_cases hj : j = i
          · subst hj; simp
          · simp [hj]
        rw [e]
        apply List.length_filter_lt_length_iff_exists.2
        exact ⟨i, by rw [List.mem_filter, List.mem_range]; exact ⟨hlt, by rw [hdi]; rfl⟩, by simp⟩
      omega
    · rw [ho] at ho'
      cases ho'
      have h1 := hdep e he hb
      have h2 : e.on < ops.size := by
        rcases Nat.lt_or_ge e.on listed.size with h | h
        · omega
        · rw [Array.getD_eq_getD_getElem?, Array.getElem?_eq_none h] at h1
          cases h1
      rw [Array.getD_eq_getD_getElem?, hl e.on h2] at h1
      exact h1
def ordB (ops : Array Oper) : Bool := (List.range ops.size).all fun i => match ops[i]? with | some o => o.after.all fun e => decide (e.on < i) | none => true
theorem ord_of {ops : Array Oper} (h : ordB ops = true) : ∀ (i : Nat) (o : Oper), ops[i]? = some o → ∀ e ∈ o.after, e.on < i := by
  intro i o ho e he
  have hlt : i < ops.size := (Array.getElem?_eq_some_iff.1 ho).1
  have h1 := List.all_eq_true.1 h i (List.mem_range.2 hlt)
  rw [ho] at h1
  have h2 := Array.all_eq_true_iff_forall_mem.1 h1 e he
  exact of_decide_eq_true h2
theorem wp_region_inv {P : Program} {id : Nat} {ops : Array Oper} {Q : Exit → Act → World → Prop} {a : Act} {w : World} (hm : P.follows .mixedOrders = true) (I : (Nat → Bool) → Act → World → Prop)
    (hord : ordB ops = true) (h0 : I (fun _ => false) a w.drew)
    (hstep : ∀ d a w, I d a w → ∀ i, i < ops.size → d i = false → (∀ (o : Oper), ops[i]? = some o → ∀ e ∈ o.after, Region.binds .any e = true → d e.on = true) → wpOp P ops Q i (I (mark d i)) a w)
    (hend : ∀ d a w, I d a w → (∀ i, i < ops.size → d i = true) → Q .normal a w) : (Code.region id ops true).wp P Q a w := by
  refine wp_region_any hm (any_of_inv I (ord_of hord) hstep hend ops.size _ (fun _ => false) a w.drew (by simp) (fun i hi => ?_) ?_ h0)
  · rw [Array.getElem?_replicate, if_pos hi]
  · exact Nat.le_trans (List.length_filter_le _ _) (by simp)
/-! ### One operation, the frame a letter -/
section
variable {P : Program} {ops : Array Oper} {Q : Exit → Act → World → Prop} {i : Nat} {t : Tmp} {op : Op} {ty : TypeId} {pos : String} {after : Array Edge} {K : Act → World → Prop} {a : Act} {w w' : World} {v : Value}
theorem step_value (ho : ops[i]? = some ⟨some t, op, ty, pos, after, none⟩) (hrun : (execOp a.eval ⟨some t, op, ty, pos, after, none⟩).run P w = .ok (.value v) w') (hK : K (a.put (some t) v) w') : wpOp P ops Q i K a w :=
  wpOp_step ho fun K' hK' => by
    rw [if_pos (show Region.wanted _ _ = true from rfl)]
    unfold Oper.wp
    rw [hrun]
    exact hK' _ _ hK
theorem step_move {x : Operand} (ho : ops[i]? = some ⟨some t, .move x, ty, pos, after, none⟩) (hv : a.eval x = v) (hK : K (a.put (some t) v) w) : wpOp P ops Q i K a w :=
  step_value ho (by simp [execOp, hv]) hK
theorem step_assign {x : Operand} (ho : ops[i]? = some ⟨some t, .assign x, ty, pos, after, none⟩) (hv : a.eval x = v) (hK : K (a.put (some t) v) w) : wpOp P ops Q i K a w :=
  step_value ho (by simp [execOp, hv]) hK
end
section
variable {ops : Array Oper} {Q : Exit → Act → World → Prop} {i : Nat} {t : Tmp} {ty : TypeId} {pos : String} {after : Array Edge} {K : Act → World → Prop} {a : Act} {w w' : World} {v : Value}
theorem step_slice {x m : Operand} {b : Option Addr} {n c k : Nat} (ho : ops[i]? = some ⟨some t, .slice 35 x none (some m) none, ty, pos, after, none⟩) (hx : a.eval x = .slice b n c) (hm : a.eval m = .int .i64 k) (hk : k ≤ c)
    (hK : K (a.put (some t) (.slice b k c)) w) : wpOp Try.prog ops Q i K a w := by
  refine step_value ho ?_ hK
  generalize a.eval = ρ at hx hm ⊢
  simp [execOp, hx, hm, go_sem, hk]
theorem step_build {x : Operand} {b : Option Addr} {n c : Nat} (ho : ops[i]? = some ⟨some t, .buildSlice 34 1 #[(0, x)], ty, pos, after, none⟩) (hx : a.eval x = .slice b n c)
    (hK : K (a.put (some t) (.slice (some ⟨w.heap.size, 0, none⟩) 1 1)) (w.alloc (.cells #[.slice b n c] 35))) : wpOp Try.prog ops Q i K a w := by
  refine step_value ho ?_ hK
  generalize a.eval = ρ at hx ⊢
  simp [execOp, hx, go_sem]
theorem step_xor {x y : Operand} {p q : Int} (ho : ops[i]? = some ⟨some t, .binOp .xor 3 x y 3, ty, pos, after, none⟩) (hx : a.eval x = .int .i64 p) (hy : a.eval y = .int .i64 q)
    (hK : K (a.put (some t) (.int .i64 (bits .xor .i64 p q))) w) : wpOp Try.prog ops Q i K a w := by
  refine step_value ho ?_ hK
  generalize a.eval = ρ at hx hy ⊢
  simp [execOp, hx, hy, go_sem]
theorem step_eql {x y : Operand} {p q : Int} (ho : ops[i]? = some ⟨some t, .binOp .eql 3 x y 3, ty, pos, after, none⟩) (hx : a.eval x = .int .i64 p) (hy : a.eval y = .int .i64 q)
    (hK : K (a.put (some t) (.bool (p == q))) w) : wpOp Try.prog ops Q i K a w := by
  refine step_value ho ?_ hK
  generalize a.eval = ρ at hx hy ⊢
  simp [execOp, hx, hy, go_sem]
theorem eval_tmp (a : Act) (t : Nat) : a.eval (.tmp t) = a.tmps.getD t undef := rfl
theorem put_tmps (a : Act) (t : Nat) (v : Value) : (a.put (some t) v).tmps = a.tmps.setIfInBounds t v := rfl
theorem put_same {a : Act} {t : Nat} {v : Value} (h : t < a.tmps.size) : (a.put (some t) v).tmps.getD t undef = v := by
  rw [put_tmps, Array.getD_eq_getD_getElem?, Array.getElem?_setIfInBounds_self_of_lt h]
  rfl
theorem put_other {a : Act} {t s : Nat} {v : Value} (h : t ≠ s) : (a.put (some t) v).tmps.getD s undef = a.tmps.getD s undef := by
  rw [put_tmps, Array.getD_eq_getD_getElem?, Array.getD_eq_getD_getElem?, Array.getElem?_setIfInBounds_ne h]
theorem step_sum {x : Operand} {v r : Value} (ho : ops[i]? = some ⟨some t, .call { callee := .value (.func 21), args := #[x], argTypes := #[34] }, ty, pos, after, none⟩) (hx : a.eval x = v)
    (hc : Calls Try.prog 21 #[v] w fun e w' => e = .returned r ∧ w = w') (hK : K (a.put (some t) r) w) : wpOp Try.prog ops Q i K a w :=
  wpOp_step ho fun K' hK' => by
    rw [if_pos (show Region.wanted _ _ = true from rfl)]
    unfold Oper.wp
    have hrun : (execOp a.eval ⟨some t, .call { callee := .value (.func 21), args := #[x], argTypes := #[34] }, ty, pos, after, none⟩).run Try.prog w = .ok (.enter 21 #[v]) w := by
      have hf : a.eval (.func 21) = .func (.func 21) #[] #[] := rfl
      generalize a.eval = ρ at hx hf ⊢
      simp [execOp, hx, hf, go_sem]
    rw [hrun]
    refine hc.mono ?_
    rintro e w' ⟨rfl, rfl⟩
    exact hK' _ _ hK
end
end Go.Proofs.Ytahcjjelamknnaa.Drawn
