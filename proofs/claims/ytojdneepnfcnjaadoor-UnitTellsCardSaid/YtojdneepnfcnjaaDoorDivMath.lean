/- Plain arithmetic behind math/bits.Div64: Knuth's division of 128 bits by 64 bits, on natural numbers. -/
import Derived.WalkKit
namespace Go.Proofs.YtojdneepnfcnjaaDoor.DivMath

/-- What one loop of Div64 keeps: q and r with A = q * yn1 + r, and the true quotient is at most q. The divisor is 2^32 * y1 + y0. -/
structure Inv (A d y1 y0 q r : Nat) : Prop where
  eq : A = q * y1 + r
  ge : (A * 4294967296 + d) / (4294967296 * y1 + y0) ≤ q
  le : q ≤ 4294967297
  rl : r < 4294967296

/-- What is known of the numbers. -/
structure Ok (A d y1 y0 : Nat) : Prop where
  hA : A < 4294967296 * y1 + y0
  hd : d < 4294967296
  lo : 2147483648 ≤ y1
  hi : y1 < 4294967296
  h0 : y0 < 4294967296

theorem mul_split (q y1 y0 : Nat) : q * (4294967296 * y1 + y0) = 4294967296 * (q * y1) + q * y0 := by
  rw [Nat.mul_add, Nat.mul_left_comm]

theorem inv_start {A d y1 y0 : Nat} (h : Ok A d y1 y0) : Inv A d y1 y0 (A / y1) (A - A / y1 * y1) := by
  obtain ⟨hA, hd, lo, hi, h0⟩ := h
  have hdm := Nat.div_add_mod A y1
  have hm := Nat.mod_lt A (show 0 < y1 by omega)
  have hcomm : A / y1 * y1 = y1 * (A / y1) := Nat.mul_comm _ _
  generalize hq : A / y1 = q at *
  generalize hr : A % y1 = r at *
  refine ⟨by omega, ?_, ?_, by omega⟩
  · have hlt : A * 4294967296 + d < (4294967296 * y1 + y0) * (q + 1) := by
      rw [Nat.mul_comm (4294967296 * y1 + y0) (q + 1), mul_split, Nat.add_mul q 1 y1, Nat.one_mul]
      have : 0 ≤ (q + 1) * y0 := Nat.zero_le _
      omega
    have hlt2 := Nat.div_lt_of_lt_mul hlt
    omega
  · have h3 : q * y1 < 4294967298 * y1 := by omega
    have := Nat.lt_of_mul_lt_mul_right h3
    omega

/-- The test of the loop: true means that q is too large. -/
theorem too_large {A d y1 y0 q r : Nat} (h : Inv A d y1 y0 q r) (k : Ok A d y1 y0)
    (ht : 4294967296 ≤ q ∨ 4294967296 * r + d < q * y0) : (A * 4294967296 + d) / (4294967296 * y1 + y0) + 1 ≤ q := by
  obtain ⟨hA, hd, lo, hi, h0⟩ := k
  obtain ⟨he, _, _, _⟩ := h
  rcases ht with ht | ht
  · have hlt : A * 4294967296 + d < (4294967296 * y1 + y0) * 4294967296 := by omega
    have := Nat.div_lt_of_lt_mul hlt
    omega
  · have hlt : A * 4294967296 + d < (4294967296 * y1 + y0) * q := by
      rw [Nat.mul_comm _ q, mul_split]
      omega
    have := Nat.div_lt_of_lt_mul hlt
    omega

/-- The test false: q is the quotient. -/
theorem exact_q {A d y1 y0 q r : Nat} (h : Inv A d y1 y0 q r) (k : Ok A d y1 y0)
    (h2 : q * y0 ≤ 4294967296 * r + d) : (A * 4294967296 + d) / (4294967296 * y1 + y0) = q := by
  obtain ⟨hA, hd, lo, hi, h0⟩ := k
  obtain ⟨he, hge, _, _⟩ := h
  have hle : q * (4294967296 * y1 + y0) ≤ A * 4294967296 + d := by
    rw [mul_split]
    omega
  have := (Nat.le_div_iff_mul_le (show 0 < 4294967296 * y1 + y0 by omega)).2 hle
  omega

/-- One step down. -/
theorem step {A d y1 y0 q r : Nat} (h : Inv A d y1 y0 q r) (k : Ok A d y1 y0)
    (ht : 4294967296 ≤ q ∨ 4294967296 * r + d < q * y0) (hr : r + y1 < 4294967296) : Inv A d y1 y0 (q - 1) (r + y1) := by
  have hl := too_large h k ht
  obtain ⟨he, _, hle, _⟩ := h
  refine ⟨?_, by omega, by omega, hr⟩
  obtain ⟨j, rfl⟩ : ∃ j, q = j + 1 := ⟨q - 1, by have := Nat.zero_le ((A * 4294967296 + d) / (4294967296 * y1 + y0)); omega⟩
  simp only [Nat.add_sub_cancel]
  rw [Nat.add_mul] at he
  omega

/-- The loop is left by its break: the step down gave the quotient. -/
theorem break_q {A d y1 y0 q r : Nat} (h : Inv A d y1 y0 q r) (k : Ok A d y1 y0)
    (ht : 4294967296 ≤ q ∨ 4294967296 * r + d < q * y0) (hr : 4294967296 ≤ r + y1) : (A * 4294967296 + d) / (4294967296 * y1 + y0) = q - 1 := by
  have hl := too_large h k ht
  obtain ⟨hA, hd, lo, hi, h0⟩ := k
  obtain ⟨he, _, hle, _⟩ := h
  obtain ⟨j, rfl⟩ : ∃ j, q = j + 1 := ⟨q - 1, by have := Nat.zero_le ((A * 4294967296 + d) / (4294967296 * y1 + y0)); omega⟩
  simp only [Nat.add_sub_cancel]
  have hk : j * (4294967296 * y1 + y0) ≤ A * 4294967296 + d := by
    have e2 : (j + 1) * y1 = j * y1 + y1 := by rw [Nat.add_mul, Nat.one_mul]
    have b : j * y0 ≤ 4294967296 * 4294967295 := Nat.mul_le_mul (by omega) (by omega)
    rw [mul_split]
    omega
  have := (Nat.le_div_iff_mul_le (show 0 < 4294967296 * y1 + y0 by omega)).2 hk
  omega

theorem q_lt {A d y1 y0 : Nat} (k : Ok A d y1 y0) : (A * 4294967296 + d) / (4294967296 * y1 + y0) < 4294967296 := by
  obtain ⟨hA, hd, lo, hi, h0⟩ := k
  exact Nat.div_lt_of_lt_mul (by omega)

/-- Two steps of Knuth's division are one division. -/
theorem two_steps (V u0 y : Nat) (hy : 0 < y) :
    (V * 4294967296 + u0) / y = V / y * 4294967296 + (V % y * 4294967296 + u0) / y ∧ (V * 4294967296 + u0) % y = (V % y * 4294967296 + u0) % y := by
  have hV := Nat.div_add_mod V y
  have e : V * 4294967296 + u0 = y * (V / y * 4294967296) + (V % y * 4294967296 + u0) := by
    have e1 : V * 4294967296 = (y * (V / y) + V % y) * 4294967296 := by rw [hV]
    rw [e1, Nat.add_mul, Nat.mul_assoc, Nat.add_assoc]
  constructor
  · rw [e, Nat.mul_add_div hy]
  · rw [e, Nat.mul_add_mod]

end Go.Proofs.YtojdneepnfcnjaaDoor.DivMath
