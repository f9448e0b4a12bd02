/- The reference's amount is the program's. -/
import Derived.Test.YtojdneepnfcnjaaDoorUMath7
namespace Go.Proofs.YtojdneepnfcnjaaDoor.U

theorem fac_none {name : List UInt8} (h : unitOf name = none) : facOf name = none := by
  unfold unitOf at h
  unfold facOf
  have h1 := List.find?_eq_none.1 (Option.map_eq_none_iff.1 h)
  rw [List.find?_eq_none.2]
  · rfl
  · intro u hu hb
    have hm : u.1 ∈ facTab.map (·.1) := List.mem_map.2 ⟨u, hu, rfl⟩
    obtain ⟨v, hv, he⟩ := List.mem_map.1 (fac_units.1.mem_iff.1 hm)
    exact h1 v hv (by rw [he]; exact hb)

theorem fac_den {name : List UInt8} {dim c x d : Nat} (h : facOf name = some (dim, c, x, d)) : 1 ≤ d ∧ 1 ≤ c := by
  unfold facOf at h
  obtain ⟨u, hu, he⟩ := Option.map_eq_some_iff.1 h
  have hm := List.mem_of_find?_eq_some hu
  have t : ∀ u ∈ facTab, 1 ≤ u.2.2.2.2 ∧ 1 ≤ u.2.2.1 := by decide +kernel
  have := t u hm
  rw [he] at this
  exact this

/-- What the reference answers: the number before the point's digits, these digits, the remainder. -/
def refT (dim : Nat) (N low r : Nat) : Int × Int × Int := if N ≤ 1125899906842624 ∧ low = 0 ∧ r = 0 then ((N : Int), (dim : Int), 0) else (0, 0, 7)

theorem ref_law {A B : List UInt8} {name : List UInt8} {dim num den c x d N low r : Nat} (hA : A.all isDig = true) (hB : B.all isDig = true) (hAne : A ≠ []) (hBl : B.length ≤ 9)
    (hu : unitOf name = some (dim, num, den)) (hnum : num * d = c * 10 ^ x * den) (hd : 1 ≤ d) (hd24 : d ≤ 24) (hc : 1 ≤ c)
    (hV : digVal (A ++ B) * c * 10 ^ x = (N * 10 ^ B.length + low) * d + r) (hlow : low < 10 ^ B.length) (hr : r < d) :
    amountM dim num den A B = refT dim N low r := by
  obtain ⟨hden, _, hnum1⟩ := unit_den name dim num den hu
  have hP : 0 < 10 ^ B.length := Nat.pow_pos (by decide)
  have hX : 0 < 10 ^ x := Nat.pow_pos (by decide)
  obtain ⟨P, hPe⟩ : ∃ P, 10 ^ B.length = P := ⟨_, rfl⟩
  obtain ⟨X, hXe⟩ : ∃ X, 10 ^ x = X := ⟨_, rfl⟩
  have hBv : (if B = [] then 0 else valueOf B) = digVal B := by
    cases hB0 : B with
    | nil => rfl
    | cons y t =>
      rw [← hB0]
      have hBne : B ≠ [] := by rw [hB0]; simp
      rw [if_neg hBne, valueOf_digits _ hB hBne]
      have l1 := digVal_lt B hB
      have b1 : 10 ^ B.length ≤ 10 ^ 9 := Nat.pow_le_pow_right (by decide) hBl
      exact Nat.min_eq_left (by unfold capV; omega)
  have hBlt := digVal_lt B hB
  unfold amountM total
  rw [hBv, valueOf_digits _ hA hAne, digVal_app] at *
  rw [hPe] at hV hlow hP hBlt ⊢
  rw [hXe] at hV hX hnum
  generalize digVal A = a at *
  generalize digVal B = b at *
  -- the remainder over all
  have hQ : (N * P + low) * d + r = N * (P * d) + (low * d + r) := by
    rw [Nat.add_mul, Nat.mul_assoc, Nat.add_assoc]
  have hrem : low * d + r < P * d := by
    have : (low + 1) * d ≤ P * d := Nat.mul_le_mul_right _ hlow
    rw [Nat.add_mul] at this
    omega
  by_cases hcap : a ≤ capV
  · rw [Nat.min_eq_left hcap]
    have key : (a * P + b) * num * d = (N * (P * d) + (low * d + r)) * den := by
      calc (a * P + b) * num * d = (a * P + b) * (num * d) := Nat.mul_assoc ..
        _ = (a * P + b) * (c * X * den) := by rw [hnum]
        _ = (a * P + b) * c * X * den := by rw [← Nat.mul_assoc, ← Nat.mul_assoc]
        _ = (N * (P * d) + (low * d + r)) * den := by rw [hV, hQ]
    rw [← amountT_scale dim _ (P * den) d hd, key, Nat.mul_right_comm, amountT_scale dim _ (P * d) den hden]
    unfold amountT refT
    have e1 : (N * (P * d) + (low * d + r)) / (P * d) = N := by
      rw [Nat.add_comm, Nat.add_mul_div_right _ _ (by omega), Nat.div_eq_of_lt hrem, Nat.zero_add]
    have e2 : (N * (P * d) + (low * d + r)) % (P * d) = low * d + r := by
      rw [Nat.add_comm, Nat.add_mul_mod_self_right, Nat.mod_eq_of_lt hrem]
    rw [e1, e2]
    by_cases h0 : low = 0 ∧ r = 0
    · rw [h0.1, h0.2]
      simp
    · have hne : low * d + r ≠ 0 := by
        intro h
        have h1 : r = 0 := by omega
        have h2 : low * d = 0 := by omega
        rcases Nat.mul_eq_zero.1 h2 with h | h
        · exact h0 ⟨h, h1⟩
        · omega
      rw [if_neg (fun h => hne h.1), if_neg (fun h => h0 h.2)]
  · have hmin : min a capV = capV := Nat.min_eq_right (by omega)
    rw [hmin]
    have hlhs : amountT dim ((capV * P + b) * num) (P * den) = (0, 0, 7) := by
      unfold amountT
      rw [if_neg]
      rintro ⟨_, h⟩
      have h1 : (capV * P + b) * num < (1125899906842624 + 1) * (P * den) := by
        rw [← Nat.div_lt_iff_lt_mul (by rcases Nat.eq_zero_or_pos (P * den) with h | h
                                        · rcases Nat.mul_eq_zero.1 h with h | h <;> omega
                                        · exact h)]
        omega
      have h2 : (capV * P + b) * num * d < 1125899906842625 * (P * den) * d := Nat.mul_lt_mul_of_pos_right h1 hd
      have h3 : capV * P * (num * d) ≤ (capV * P + b) * num * d := by
        rw [Nat.mul_assoc (capV * P + b)]
        exact Nat.mul_le_mul_right _ (by omega)
      rw [hnum] at h3
      have h4 : capV * P * den ≤ capV * P * (c * X * den) := by
        refine Nat.mul_le_mul_left _ ?_
        have : 1 * den ≤ c * X * den := Nat.mul_le_mul_right _ (Nat.mul_pos hc hX)
        omega
      have h5 : 1125899906842625 * (P * den) * d ≤ 1125899906842625 * (P * den) * 24 := Nat.mul_le_mul_left _ hd24
      have h6 : capV * P * den = capV * (P * den) := Nat.mul_assoc ..
      unfold capV at *
      generalize P * den = W at *
      omega
    rw [hlhs]
    unfold refT
    rw [if_neg]
    rintro ⟨h, _⟩
    have h1 : a * P ≤ (a * P + b) * c * X := by
      have e : (a * P + b) * 1 ≤ (a * P + b) * (c * X) := Nat.mul_le_mul_left _ (Nat.mul_pos hc hX)
      rw [Nat.mul_assoc]
      omega
    rw [hV, hQ] at h1
    have h2 : N * (P * d) + (low * d + r) < (1125899906842624 + 1) * (P * d) := by
      have : N * (P * d) ≤ 1125899906842624 * (P * d) := Nat.mul_le_mul_right _ h
      rw [Nat.add_mul]
      omega
    have h3 : (1125899906842624 + 1) * (P * d) ≤ (1125899906842624 + 1) * (P * 24) := Nat.mul_le_mul_left _ (Nat.mul_le_mul_left _ hd24)
    have h4 : (capV + 1) * P ≤ a * P := Nat.mul_le_mul_right _ (by omega)
    unfold capV at h4
    omega
end Go.Proofs.YtojdneepnfcnjaaDoor.U
