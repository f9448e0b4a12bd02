/- Zeros before a number and behind its fraction change nothing. -/
import Derived.Test.YtojdneepnfcnjaaDoorUMath4
namespace Go.Proofs.YtojdneepnfcnjaaDoor.U

theorem amountT_scale (dim : Int) (N D c : Nat) (hc : 0 < c) : amountT dim (N * c) (D * c) = amountT dim N D := by
  unfold amountT
  rw [Nat.mul_mod_mul_right, Nat.mul_div_mul_right _ _ hc]
  have e : (N % D * c = 0) = (N % D = 0) := by
    apply propext
    constructor
    · intro h
      rcases Nat.mul_eq_zero.1 h with h | h
      · exact h
      · omega
    · intro h; rw [h, Nat.zero_mul]
  simp only [e]

theorem cutDot_cons (x : UInt8) (r : List UInt8) : cutDot (x :: r) = if x == 46 then ([], r, true) else (x :: (cutDot r).1, (cutDot r).2.1, (cutDot r).2.2) := rfl
theorem cutDot_zeros (i : Nat) (s : List UInt8) : cutDot (List.replicate i 48 ++ s) = (List.replicate i 48 ++ (cutDot s).1, (cutDot s).2.1, (cutDot s).2.2) := by
  induction i with
  | zero => simp
  | succ i ih =>
    rw [List.replicate_succ, List.cons_append, cutDot_cons, if_neg (by decide), ih]
    rfl
theorem cutDot_behind (s z : List UInt8) (h : (cutDot s).2.2 = true) : cutDot (s ++ z) = ((cutDot s).1, (cutDot s).2.1 ++ z, true) := by
  induction s with
  | nil => cases h
  | cons x r ih =>
    unfold cutDot at h ⊢
    rw [List.cons_append]
    simp only
    by_cases hx : (x == 46) = true
    · simp [hx]
    · simp only [hx, Bool.false_eq_true, if_false] at h ⊢
      rw [ih h]

theorem digVal_zeros (i : Nat) (l : List UInt8) : digVal (List.replicate i 48 ++ l) = digVal l := by
  induction i with
  | zero => simp
  | succ i ih =>
    rw [List.replicate_succ, List.cons_append, digVal_cons, ih]
    simp
theorem digVal_behind (j : Nat) (l : List UInt8) : digVal (l ++ List.replicate j 48) = digVal l * 10 ^ j := by
  induction j with
  | zero => simp
  | succ j ih =>
    rw [List.replicate_succ', ← List.append_assoc, digVal_append, ih, Nat.pow_succ]
    show 10 * (digVal l * 10 ^ j) + (48 - 48) = _
    rw [Nat.sub_self, Nat.add_zero, Nat.mul_comm 10, Nat.mul_assoc]
theorem all_zeros (i : Nat) : (List.replicate i (48 : UInt8)).all isDig = true := by
  rw [List.all_eq_true]
  intro x hx
  rw [(List.mem_replicate.1 hx).2]
  decide

theorem split_ok {s : List UInt8} (h : (splitR s).2.2 = true) :
    plain s = true ∧ 1 ≤ (cutDot s).1.length ∧ (cutDot s).1.length ≤ 20 ∧ (cutDot s).2.1.length ≤ 9 ∧ ((cutDot s).2.2 = true ↔ 0 < (cutDot s).2.1.length) ∧ (splitR s).2.1 = (cutDot s).2.1.length := by
  unfold splitR at h ⊢
  cases hp : plain s with
  | false => rw [hp] at h; cases h
  | true =>
    rw [hp] at h
    simp only [if_true, Bool.and_eq_true, decide_eq_true_eq] at h
    obtain ⟨⟨⟨h1, h2⟩, h3⟩, h4⟩ := h
    refine ⟨rfl, h1, h2, h3, ?_, rfl⟩
    rw [beq_iff_eq] at h4
    rw [h4, decide_eq_true_eq]

theorem amountU_ok {s name : List UInt8} (h : (splitR s).2.2 = true) :
    amountU s name = match unitOf name with
      | some (dim, num, den) => amountM dim num den (cutDot s).1 (cutDot s).2.1
      | none => (0, 0, 6) := by
  have hb := split_bad s
  rw [h] at hb
  unfold amountU
  rw [cut_eq]
  have hb' : (!digitsB (cutDot s).1 20 || ((cutDot s).2.2 && !digitsB (cutDot s).2.1 9)) = false := by
    cases hx : (!digitsB (cutDot s).1 20 || ((cutDot s).2.2 && !digitsB (cutDot s).2.1 9)) with
    | false => rfl
    | true => rw [hx] at hb; cases hb
  rw [hb']
  rfl

theorem len_ok {s : List UInt8} (h : (splitR s).2.2 = true) : s.length ≤ 31 := by
  obtain ⟨_, _, h2, h3, _, _⟩ := split_ok h
  have : ∀ s : List UInt8, s.length ≤ (cutDot s).1.length + (cutDot s).2.1.length + 1 := by
    intro s
    induction s with
    | nil => simp
    | cons x r ih =>
      unfold cutDot
      by_cases hx : (x == 46) = true
      · simp [hx]
      · simp only [hx, Bool.false_eq_true, if_false, List.length_cons]
        omega
  have := this s
  omega

/-- The law, plainly. -/
theorem zeros_law (s name : List UInt8) (i j : Nat) (h : (splitR s).2.2 = true) (hj : j = 0 ∨ 0 < (splitR s).2.1)
    (h2 : (splitR (List.replicate i 48 ++ s ++ List.replicate j 48)).2.2 = true) :
    amountU (List.replicate i 48 ++ s ++ List.replicate j 48) name = amountU s name := by
  obtain ⟨p1, p2, p3, p4, p5, p6⟩ := split_ok h
  rw [amountU_ok h, amountU_ok h2]
  obtain ⟨q1, q2, q3, q4, q5, q6⟩ := split_ok h2
  have hcut : cutDot (List.replicate i 48 ++ s ++ List.replicate j 48) = (List.replicate i 48 ++ (cutDot s).1, (cutDot s).2.1 ++ List.replicate j 48, (cutDot s).2.2) := by
    rcases hj with rfl | hj
    · simp only [List.replicate_zero, List.append_nil]
      exact cutDot_zeros i s
    · rw [p6] at hj
      have hf := p5.2 hj
      rw [List.append_assoc, cutDot_zeros, cutDot_behind s _ hf, hf]
  rw [hcut] at q2 q3 q4 ⊢
  simp only at q2 q3 q4 ⊢
  cases unitOf name with
  | none => rfl
  | some u =>
    obtain ⟨dim, num, den⟩ := u
    simp only
    unfold plain at p1
    simp only [Bool.and_eq_true] at p1
    obtain ⟨a1, a2⟩ := p1
    generalize (cutDot s).1 = A at *
    generalize (cutDot s).2.1 = B at *
    have hAne : A ≠ [] := by rintro rfl; simp at p2
    have hV : valueOf (List.replicate i 48 ++ A) = valueOf A := by
      rw [valueOf_digits _ (by rw [List.all_append, all_zeros, a1]; rfl) (by simp [hAne]), valueOf_digits _ a1 hAne, digVal_zeros]
    unfold amountM
    have hT : total (List.replicate i 48 ++ A) (B ++ List.replicate j 48) = total A B * 10 ^ j := by
      unfold total
      rw [hV, List.length_append, List.length_replicate, Nat.pow_add, Nat.add_mul, Nat.mul_assoc]
      congr 1
      cases hB : B with
      | nil =>
        subst hB
        rcases hj with rfl | hj
        · simp
        · rw [p6] at hj; simp at hj
      | cons x r =>
        rw [← hB]
        have hBne : B ≠ [] := by rw [hB]; simp
        have hBne2 : B ++ List.replicate j 48 ≠ [] := by simp [hBne]
        have hall2 : (B ++ List.replicate j 48).all isDig = true := by rw [List.all_append, a2, all_zeros]; rfl
        rw [if_neg hBne, if_neg hBne2, valueOf_digits _ a2 hBne, valueOf_digits _ hall2 hBne2]
        have l1 := digVal_lt B a2
        have l2 := digVal_lt _ hall2
        have b1 : 10 ^ B.length ≤ 10 ^ 9 := Nat.pow_le_pow_right (by decide) p4
        have b2 : 10 ^ (B ++ List.replicate j 48).length ≤ 10 ^ 9 := Nat.pow_le_pow_right (by decide) q4
        rw [Nat.min_eq_left (by unfold capV; omega), Nat.min_eq_left (by unfold capV; omega), digVal_behind]
    rw [hT, List.length_append, List.length_replicate, Nat.pow_add, Nat.mul_right_comm, Nat.mul_right_comm (10 ^ B.length), amountT_scale _ _ _ _ (Nat.pow_pos (by decide))]
end Go.Proofs.YtojdneepnfcnjaaDoor.U
