/- The sum of bytes, without the program: one step, a byte, a list of bytes; that a step is linear and turns no word but nought into nought; what a turned bit does to the sum. -/
namespace Go.Proofs.Ytahcjjelamknnaa.Crc

/-- one bit's step, as the program has it -/
def step (c : BitVec 32) : BitVec 32 := c >>> 1 ^^^ 3988292384#32 * (c &&& 1#32)
/-- k steps -/
def steps : Nat → BitVec 32 → BitVec 32
  | 0, c => c
  | k + 1, c => step (steps k c)
/-- a byte -/
def byte (c : BitVec 32) (x : BitVec 32) : BitVec 32 := steps 8 (c ^^^ x)
/-- bytes -/
def run (c : BitVec 32) (l : List (BitVec 32)) : BitVec 32 := l.foldl byte c

theorem low_cases (c : BitVec 32) : c &&& 1#32 = 0#32 ∨ c &&& 1#32 = 1#32 := by
  by_cases h : c.getLsbD 0
  · right
    apply BitVec.eq_of_getLsbD_eq
    intro i hi
    rcases i with _ | i
    · simp [h]
    · simp
  · left
    apply BitVec.eq_of_getLsbD_eq
    intro i hi
    rcases i with _ | i
    · simpa using h
    · simp

theorem step_low0 {c : BitVec 32} (h : c &&& 1#32 = 0#32) : step c = c >>> 1 := by unfold step; rw [h]; simp
theorem step_low1 {c : BitVec 32} (h : c &&& 1#32 = 1#32) : step c = c >>> 1 ^^^ 3988292384#32 := by unfold step; rw [h]; simp

theorem and_xor_one (a b : BitVec 32) : (a ^^^ b) &&& 1#32 = (a &&& 1#32) ^^^ (b &&& 1#32) := by
  apply BitVec.eq_of_getLsbD_eq
  intro i hi
  simp only [BitVec.getLsbD_and, BitVec.getLsbD_xor]
  cases a.getLsbD i <;> cases b.getLsbD i <;> simp
theorem mul_xor (a b : BitVec 32) : 3988292384#32 * ((a &&& 1#32) ^^^ (b &&& 1#32)) = 3988292384#32 * (a &&& 1#32) ^^^ 3988292384#32 * (b &&& 1#32) := by
  rcases low_cases a with ha | ha <;> rcases low_cases b with hb | hb <;> rw [ha, hb] <;> simp
theorem xor4 (a b c d : BitVec 32) : (a ^^^ b) ^^^ (c ^^^ d) = (a ^^^ c) ^^^ (b ^^^ d) := by
  rw [BitVec.xor_assoc, BitVec.xor_assoc, ← BitVec.xor_assoc b c d, BitVec.xor_comm b c, BitVec.xor_assoc c b d]
theorem step_xor (a b : BitVec 32) : step (a ^^^ b) = step a ^^^ step b := by
  unfold step
  rw [and_xor_one, mul_xor, BitVec.ushiftRight_xor_distrib, xor4]
theorem steps_xor (k : Nat) (a b : BitVec 32) : steps k (a ^^^ b) = steps k a ^^^ steps k b := by
  induction k with
  | zero => rfl
  | succ k ih => simp only [steps, ih, step_xor]
theorem step_zero : step 0#32 = 0#32 := by decide
theorem steps_zero (k : Nat) : steps k 0#32 = 0#32 := by
  induction k with
  | zero => rfl
  | succ k ih => simp only [steps, ih, step_zero]
theorem steps_add (k m : Nat) (c : BitVec 32) : steps (k + m) c = steps k (steps m c) := by
  induction k with
  | zero => simp [steps]
  | succ k ih => rw [show k + 1 + m = (k + m) + 1 by omega]; simp only [steps, ih]

/-- a step turns no word but nought into nought -/
theorem step_ne {c : BitVec 32} (h : step c = 0#32) : c = 0#32 := by
  rcases low_cases c with hc | hc
  · rw [step_low0 hc] at h
    apply BitVec.eq_of_getLsbD_eq
    intro i hi
    rcases i with _ | i
    · have := congrArg (fun x : BitVec 32 => x.getLsbD 0) hc
      simpa using this
    · have := congrArg (fun x : BitVec 32 => x.getLsbD i) h
      simp only [BitVec.getLsbD_ushiftRight, BitVec.getLsbD_zero] at this
      rw [Nat.add_comm i 1]; rw [this]; simp
  · exfalso
    rw [step_low1 hc] at h
    have := congrArg (fun x : BitVec 32 => x.getLsbD 31) h
    simp at this
theorem steps_ne (k : Nat) {c : BitVec 32} (h : steps k c = 0#32) : c = 0#32 := by
  induction k with
  | zero => exact h
  | succ k ih => exact ih (step_ne h)

theorem xor_self_cancel (a b : BitVec 32) (h : a ^^^ b = a) : b = 0#32 := by
  have := congrArg (fun x => a ^^^ x) h
  simpa [← BitVec.xor_assoc] using this

/-- bytes behind bytes -/
theorem run_append (c : BitVec 32) (a b : List (BitVec 32)) : run c (a ++ b) = run (run c a) b := List.foldl_append
theorem run_nil (c : BitVec 32) : run c [] = c := rfl
theorem run_cons (c x : BitVec 32) (l : List (BitVec 32)) : run c (x :: l) = run (byte c x) l := rfl
theorem run_snoc (c x : BitVec 32) (l : List (BitVec 32)) : run c (l ++ [x]) = byte (run c l) x := by rw [run_append]; rfl
theorem byte_xor (a b x y : BitVec 32) : byte (a ^^^ b) (x ^^^ y) = byte a x ^^^ byte b y := by
  unfold byte
  rw [xor4, steps_xor]
theorem run_turn (c e : BitVec 32) (l : List (BitVec 32)) : run (c ^^^ e) l = run c l ^^^ steps (8 * l.length) e := by
  induction l generalizing c e with
  | nil => rfl
  | cons x l ih =>
    have h : byte (c ^^^ e) x = byte c x ^^^ steps 8 e := by
      have := byte_xor c e x 0#32
      simpa [byte] using this
    rw [run_cons, run_cons, h, ih]
    congr 1
    rw [List.length_cons, show 8 * (l.length + 1) = 8 * l.length + 8 by omega, steps_add]

/-- three lists of one length, bit by bit -/
def xor3 : List (BitVec 32) → List (BitVec 32) → List (BitVec 32) → List (BitVec 32)
  | a :: as, b :: bs, c :: cs => (a ^^^ b ^^^ c) :: xor3 as bs cs
  | _, _, _ => []
theorem run_xor3 (p q r : BitVec 32) : ∀ (a b c : List (BitVec 32)), a.length = b.length → a.length = c.length → run (p ^^^ q ^^^ r) (xor3 a b c) = run p a ^^^ run q b ^^^ run r c := by
  intro a
  induction a generalizing p q r with
  | nil =>
    intro b c hb hc
    cases b with
    | nil => cases c with
      | nil => rfl
      | cons _ _ => simp at hc
    | cons _ _ => simp at hb
  | cons x a ih =>
    intro b c hb hc
    cases b with
    | nil => simp at hb
    | cons y b => cases c with
      | nil => simp at hc
      | cons z c =>
        simp only [xor3, run_cons, byte_xor]
        exact ih _ _ _ b c (by simpa using hb) (by simpa using hc)

/-- k steps of the k-th bit alone lead to the lowest bit -/
theorem steps_bit (k : Nat) (hk : k < 32) : steps k (1#32 <<< k) = 1#32 := by
  have h : ∀ k : Fin 32, steps k.val (1#32 <<< k.val) = 1#32 := by decide +kernel
  exact h ⟨k, hk⟩

/-- a turned bit: the j-th of the byte behind pre -/
theorem run_flip (c x : BitVec 32) (j : Nat) (hj : j < 8) (pre post : List (BitVec 32)) :
    run c (pre ++ (x ^^^ 1#32 <<< j) :: post) = run c (pre ++ x :: post) ^^^ steps (8 * (post.length + 1) - j) 1#32 := by
  rw [run_append, run_append, run_cons, run_cons]
  have h : byte (run c pre) (x ^^^ 1#32 <<< j) = byte (run c pre) x ^^^ steps (8 - j) 1#32 := by
    have h1 := byte_xor (run c pre) 0#32 x (1#32 <<< j)
    rw [BitVec.xor_zero] at h1
    rw [h1]
    congr 1
    unfold byte
    rw [BitVec.zero_xor, show steps 8 (1#32 <<< j) = steps ((8 - j) + j) (1#32 <<< j) by rw [Nat.sub_add_cancel (by omega)], steps_add, steps_bit j (by omega)]
  rw [h, run_turn]
  congr 1
  rw [← steps_add]
  congr 1
  omega
theorem run_set_flip (c : BitVec 32) (l : List (BitVec 32)) (i j : Nat) (hi : i < l.length) (hj : j < 8) :
    run c (l.set i (l[i] ^^^ 1#32 <<< j)) = run c l ^^^ steps (8 * l.length - (8 * i + j)) 1#32 := by
  have e : l = l.take i ++ l[i] :: l.drop (i + 1) := by rw [← List.drop_eq_getElem_cons hi, List.take_append_drop]
  have e2 : l.set i (l[i] ^^^ 1#32 <<< j) = l.take i ++ (l[i] ^^^ 1#32 <<< j) :: l.drop (i + 1) := by
    rw [List.set_eq_take_append_cons_drop, if_pos hi]
  rw [e2, run_flip c l[i] j hj, ← e]
  congr 2
  rw [List.length_drop]
  omega

/-- the lowest k bits of a word -/
def lows (b : BitVec 32) : Nat → BitVec 32
  | 0 => 0#32
  | k + 1 => if b.getLsbD k then lows b k ^^^ 1#32 <<< k else lows b k
theorem lows_bit (b : BitVec 32) (k i : Nat) (hi : i < 32) (hk : k ≤ 32) : (lows b k).getLsbD i = (decide (i < k) && b.getLsbD i) := by
  induction k with
  | zero => simp [lows]
  | succ k ih =>
    unfold lows
    have hs : (1#32 <<< k).getLsbD i = decide (i = k) := by
      simp only [BitVec.getLsbD_shiftLeft, BitVec.getLsbD_one]
      by_cases h : i = k
      · subst h; simp [hi]
      · by_cases h2 : i < k
        · simp [h2, h]
        · simp [h]; omega
    by_cases hb : b.getLsbD k
    · rw [if_pos hb, BitVec.getLsbD_xor, ih (by omega), hs]
      by_cases h : i = k
      · subst h; simp [hb]
      · have : decide (i < k + 1) = decide (i < k) := by rw [Bool.eq_iff_iff, decide_eq_true_iff, decide_eq_true_iff]; omega
        simp [h, this]
    · rw [if_neg hb, ih (by omega)]
      by_cases h : i = k
      · subst h
        have hb' : b.getLsbD i = false := by simpa using hb
        simp [hb']
      · have : decide (i < k + 1) = decide (i < k) := by rw [Bool.eq_iff_iff, decide_eq_true_iff, decide_eq_true_iff]; omega
        rw [this]
theorem lows_all (b : BitVec 32) : lows b 32 = b := by
  apply BitVec.eq_of_getLsbD_eq
  intro i hi
  rw [lows_bit b 32 i hi (Nat.le_refl _)]
  simp [hi]
end Go.Proofs.Ytahcjjelamknnaa.Crc
