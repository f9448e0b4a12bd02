/- Amounts of whole numbers, and of sums. -/
import Derived.Test.YtojdneepnfcnjaaDoorUMath2
namespace Go.Proofs.YtojdneepnfcnjaaDoor.U

theorem amount_int (m : Nat) (name : List UInt8) (hm : m ≤ 4398046511104) :
    amountU (Lib.decDigits m) name = match unitOf name with
      | some (dim, num, den) => amountT dim (m * num) den
      | none => (0, 0, 6) := by
  obtain ⟨a, b, c, _⟩ := dec_all 15 m (by omega)
  have hl := dec_len 15 m (by omega)
  have hdg : digitsB (Lib.decDigits m) 20 = true := by
    unfold digitsB
    rw [a, decide_eq_true (show (Lib.decDigits m).length ≤ 20 by omega)]
    cases hh : Lib.decDigits m with
    | nil => exact absurd hh c
    | cons x r => rfl
  unfold amountU
  rw [cut_digits _ a]
  simp only [hdg, Bool.not_true, Bool.false_and, Bool.or_self, Bool.false_eq_true, if_false]
  cases unitOf name with
  | none => rfl
  | some u =>
    obtain ⟨dim, num, den⟩ := u
    simp only
    unfold amountM total
    rw [valueOf_digits _ a c, b, Nat.min_eq_left (by unfold capV; omega)]
    simp

theorem unit_den (name : List UInt8) (dim num den : Nat) (h : unitOf name = some (dim, num, den)) : 1 ≤ den ∧ dim ≤ 6 ∧ 1 ≤ num := by
  unfold unitOf at h
  obtain ⟨u, hu, he⟩ := Option.map_eq_some_iff.1 h
  have hm := List.mem_of_find?_eq_some hu
  have t : ∀ u ∈ unitTab, 1 ≤ u.2.2.2 ∧ u.2.1 ≤ 6 ∧ 1 ≤ u.2.2.1 := by decide +kernel
  have := t u hm
  rw [he] at this
  exact this

theorem adds_law (m n : Nat) (name : List UInt8) (hm : m ≤ 1099511627776) (hn : n ≤ 1099511627776) (A B C : Int × Int × Int)
    (hA : amountU (Lib.decDigits m) name = A) (hB : amountU (Lib.decDigits n) name = B) (hC : amountU (Lib.decDigits (m + n)) name = C) :
    (A.2.2 ≠ 0 ∨ (A.2.2 = 0 ∧ B.2.2 ≠ 0) ∨ (A.2.2 = 0 ∧ B.2.2 = 0 ∧ 1125899906842624 < A.1 + B.1 ∧ C.2.2 = 7) ∨
      (A.2.2 = 0 ∧ B.2.2 = 0 ∧ A.1 + B.1 ≤ 1125899906842624 ∧ C.2.2 = 0 ∧ C.1 = A.1 + B.1 ∧ C.2.1 = A.2.1 ∧ A.2.1 = B.2.1)) ∧
    0 ≤ A.1 ∧ A.1 ≤ 1125899906842624 ∧ 0 ≤ B.1 ∧ B.1 ≤ 1125899906842624 := by
  rw [amount_int _ _ (by omega)] at hA hB hC
  cases hu : unitOf name with
  | none =>
    rw [hu] at hA hB hC
    simp only at hA hB hC
    subst hA hB hC
    exact ⟨.inl (by decide), by decide, by decide, by decide, by decide⟩
  | some u =>
    obtain ⟨dim, num, den⟩ := u
    rw [hu] at hA hB hC
    simp only at hA hB hC
    obtain ⟨hden, _, _⟩ := unit_den name dim num den hu
    unfold amountT at hA hB
    have bnd : ∀ k : Nat, (if k * num % den = 0 ∧ k * num / den ≤ 1125899906842624 then (((k * num / den : Nat) : Int), (dim : Int), (0 : Int)) else (0, 0, 7)).1 ≤ 1125899906842624 ∧
        0 ≤ (if k * num % den = 0 ∧ k * num / den ≤ 1125899906842624 then (((k * num / den : Nat) : Int), (dim : Int), (0 : Int)) else (0, 0, 7)).1 := by
      intro k
      split
      · rename_i h; exact ⟨Int.ofNat_le.2 h.2, Int.natCast_nonneg _⟩
      · exact ⟨by decide, by decide⟩
    have bA := bnd m
    have bB := bnd n
    rw [hA] at bA
    rw [hB] at bB
    refine ⟨?_, bA.2, bA.1, bB.2, bB.1⟩
    split at hA
    · rename_i h1
      split at hB
      · rename_i h2
        subst hA hB
        have hdiv : (m + n) * num % den = 0 ∧ (m + n) * num / den = m * num / den + n * num / den := by
          obtain ⟨x, hx⟩ := Nat.dvd_of_mod_eq_zero h1.1
          obtain ⟨y, hy⟩ := Nat.dvd_of_mod_eq_zero h2.1
          rw [Nat.add_mul, hx, hy, ← Nat.mul_add, Nat.mul_div_cancel_left _ (by omega), Nat.mul_div_cancel_left _ (by omega), Nat.mul_div_cancel_left _ (by omega)]
          exact ⟨Nat.mul_mod_right _ _, rfl⟩
        unfold amountT at hC
        rw [hdiv.2] at hC
        by_cases hle : m * num / den + n * num / den ≤ 1125899906842624
        · rw [if_pos ⟨hdiv.1, hle⟩] at hC
          subst hC
          exact .inr (.inr (.inr ⟨rfl, rfl, by simp only; omega, rfl, by simp only; omega, rfl, rfl⟩))
        · rw [if_neg (fun h => hle h.2)] at hC
          subst hC
          exact .inr (.inr (.inl ⟨rfl, rfl, by simp only; omega, rfl⟩))
      · subst hA hB
        exact .inr (.inl ⟨rfl, by decide⟩)
    · subst hA
      exact .inl (by decide)
end Go.Proofs.YtojdneepnfcnjaaDoor.U
