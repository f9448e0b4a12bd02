/- Amounts by the reference's factors. -/
import Derived.Test.YtojdneepnfcnjaaDoorUMath6
namespace Go.Proofs.YtojdneepnfcnjaaDoor.U

theorem fac_of_unit {name : List UInt8} {dim num den : Nat} (h : unitOf name = some (dim, num, den)) :
    ∃ c x d, facOf name = some (dim, c, x, d) ∧ num * d = c * 10 ^ x * den ∧ c ≤ 36 ∧ x ≤ 9 ∧ d ≤ 24 := by
  unfold unitOf at h
  obtain ⟨u, hu, he⟩ := Option.map_eq_some_iff.1 h
  have hm := List.mem_of_find?_eq_some hu
  have hn : u.1 = name := by simpa using List.find?_some hu
  obtain ⟨v, h1, h2, h3, h4, h5, h6⟩ := fac_units.2 u hm
  rw [hn] at h1
  rw [he] at h2 h3
  obtain ⟨v1, v2, v3, v4⟩ := v
  simp only at h2 h3 h4 h5 h6
  subst h2
  exact ⟨v2, v3, v4, h1, h3, h4, h5, h6⟩

theorem ratio_one (n : Nat) (name : List UInt8) (hn : n ≤ 1099511627776) (a1 a2 : Int) (hA : amountU (Lib.decDigits n) name = (a1, a2, 0)) :
    ∃ (N dim c x d : Nat), a1 = N ∧ N ≤ 1125899906842624 ∧ facOf name = some (dim, c, x, d) ∧ N * d = n * c * 10 ^ x ∧ c ≤ 36 ∧ x ≤ 9 ∧ d ≤ 24 := by
  rw [amount_int _ _ (by omega)] at hA
  cases hu : unitOf name with
  | none => rw [hu] at hA; simp at hA
  | some u =>
    obtain ⟨dim, num, den⟩ := u
    rw [hu] at hA
    simp only at hA
    obtain ⟨hden, _, _⟩ := unit_den name dim num den hu
    obtain ⟨c, x, d, h1, h2, h3, h4, h5⟩ := fac_of_unit hu
    unfold amountT at hA
    split at hA
    · rename_i h
      simp only [Prod.mk.injEq] at hA
      refine ⟨n * num / den, dim, c, x, d, hA.1.symm, h.2, h1, ?_, h3, h4, h5⟩
      obtain ⟨N, hN⟩ := Nat.dvd_of_mod_eq_zero h.1
      rw [hN, Nat.mul_div_cancel_left _ (by omega)]
      apply Nat.eq_of_mul_eq_mul_left (show 0 < den by omega)
      calc den * (N * d) = den * N * d := (Nat.mul_assoc ..).symm
        _ = n * num * d := by rw [hN]
        _ = n * (num * d) := Nat.mul_assoc ..
        _ = n * (c * 10 ^ x * den) := by rw [h2]
        _ = n * (c * 10 ^ x) * den := (Nat.mul_assoc ..).symm
        _ = den * (n * (c * 10 ^ x)) := Nat.mul_comm ..
        _ = den * (n * c * 10 ^ x) := by rw [Nat.mul_assoc n c]
    · simp at hA

/-- The law, plainly. -/
theorem ratios {n A B c x d p y q : Nat} (hA : A * d = n * c * 10 ^ x) (hB : B * q = n * p * 10 ^ y) : B * (c * q) * 10 ^ x = A * (p * d) * 10 ^ y := by
  have e1 : B * (c * q) * 10 ^ x = B * q * (c * 10 ^ x) := by
    rw [Nat.mul_comm c q, ← Nat.mul_assoc, Nat.mul_assoc (B * q)]
  have e2 : A * (p * d) * 10 ^ y = A * d * (p * 10 ^ y) := by
    rw [Nat.mul_comm p d, ← Nat.mul_assoc, Nat.mul_assoc (A * d)]
  rw [e1, e2, hA, hB]
  have : ∀ P Q : Nat, n * p * P * (c * Q) = n * c * Q * (p * P) := by
    intro P Q
    ac_rfl
  exact this _ _
end Go.Proofs.YtojdneepnfcnjaaDoor.U
