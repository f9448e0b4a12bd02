/- What is written is read again: digits, values and amounts of decimal numerals. -/
import Derived.Test.YtojdneepnfcnjaaDoorUMath
namespace Go.Proofs.YtojdneepnfcnjaaDoor.U

theorem dec_all : ∀ (k u : Nat), u < 10 ^ (k + 1) → (Lib.decDigits u).all isDig = true ∧ digVal (Lib.decDigits u) = u ∧ (Lib.decDigits u ≠ []) ∧ ((Lib.decDigits u).head? = some 48 → u = 0)
  | 0, u, h => by
    have h' : u < 10 := by omega
    unfold Lib.decDigits
    rw [dif_pos h']
    have : ∀ u : Fin 10, ([UInt8.ofNat (48 + u.val)].all isDig = true ∧ digVal [UInt8.ofNat (48 + u.val)] = u.val ∧ ([UInt8.ofNat (48 + u.val)] ≠ []) ∧ (([UInt8.ofNat (48 + u.val)]).head? = some 48 → u.val = 0)) := by decide +kernel
    exact this ⟨u, h'⟩
  | k + 1, u, h => by
    by_cases h' : u < 10
    · exact dec_all 0 u (by omega)
    · obtain ⟨a, b, c, d⟩ := dec_all k (u / 10) (by rw [Nat.pow_succ] at h; omega)
      unfold Lib.decDigits
      rw [dif_neg h']
      have t : ∀ r : Fin 10, isDig (UInt8.ofNat (48 + r.val)) = true ∧ (UInt8.ofNat (48 + r.val)).toNat - 48 = r.val := by decide +kernel
      obtain ⟨t1, t2⟩ := t ⟨u % 10, Nat.mod_lt _ (by decide)⟩
      refine ⟨?_, ?_, by simp, ?_⟩
      · rw [List.all_append, a, List.all_cons, List.all_nil, Bool.and_true, Bool.true_and]; exact t1
      · rw [digVal_append, b, t2]; show 10 * (u / 10) + u % 10 = u; omega
      · intro hh
        obtain ⟨x, r, hx⟩ := List.exists_cons_of_ne_nil c
        rw [hx] at d hh
        have := d hh
        omega
theorem dec_big (u : Nat) (h : u ≤ 1125899906842624) : u < 10 ^ (15 + 1) := by omega

theorem dec_len : ∀ (k u : Nat), u < 10 ^ (k + 1) → (Lib.decDigits u).length ≤ k + 1
  | 0, u, h => by unfold Lib.decDigits; rw [dif_pos (by omega)]; simp
  | k + 1, u, h => by
    unfold Lib.decDigits
    split
    · simp
    · have := dec_len k (u / 10) (by rw [Nat.pow_succ] at h; omega)
      simp only [List.length_append, List.length_singleton]
      omega

theorem itoa_nat (n : Int) (h0 : 0 ≤ n) : Lib.itoa n = Lib.decDigits n.toNat := by
  unfold Lib.itoa
  rw [if_neg (by omega)]

/-- strings.Cut at a point, byte by byte. -/
def cutDot : List UInt8 → List UInt8 × List UInt8 × Bool
  | [] => ([], [], false)
  | c :: r => if c == 46 then ([], r, true) else (c :: (cutDot r).1, (cutDot r).2.1, (cutDot r).2.2)
theorem cut_eq (l : List UInt8) : Lib.cut l [46] = cutDot l := by
  induction l with
  | nil => rfl
  | cons c r ih =>
    have hge := Lib.index_ge r [46]
    unfold Lib.cut at ih ⊢
    unfold Lib.index cutDot
    have hp : [(46 : UInt8)].isPrefixOf (c :: r) = (46 == c) := by simp [List.isPrefixOf]
    rw [hp]
    by_cases h : (46 : UInt8) = c
    · subst h
      simp
    · have h1 : ((46 : UInt8) == c) = false := by simpa using h
      have h2 : (c == (46 : UInt8)) = false := by simpa using fun e => h e.symm
      rw [h1, h2, ← ih]
      by_cases hi : Lib.index r [46] = -1
      · rw [hi]; simp
      · have h3 : (Lib.index r [46] == -1) = false := by simpa using hi
        have h4 : 0 ≤ Lib.index r [46] := by omega
        have h5 : 0 ≤ Lib.index r [46] + 1 := by omega
        have h6 : (Lib.index r [46] + 1).toNat = (Lib.index r [46]).toNat + 1 := by omega
        rw [h3]
        simp only [Bool.false_eq_true, if_false, if_pos h4, if_pos h5, h6, List.take_succ_cons]
        congr 2
theorem cut_digits (l : List UInt8) (h : l.all isDig = true) : Lib.cut l [46] = (l, [], false) := by
  rw [cut_eq]
  induction l with
  | nil => rfl
  | cons c r ih =>
    simp only [List.all_cons, Bool.and_eq_true] at h
    have hc : (c == (46 : UInt8)) = false := by
      rw [beq_eq_false_iff_ne]
      rintro rfl
      exact absurd h.1 (by decide)
    unfold cutDot
    rw [hc, ih h.2]
    simp

theorem base_unit (d : Int) (nm : List UInt8) (h : baseName d = some nm) : unitOf nm = some (d.toNat, 1, 1) ∧ 0 ≤ d ∧ d ≤ 6 := by
  by_cases hd : 0 ≤ d ∧ d ≤ 6
  · obtain ⟨k, rfl⟩ := Int.eq_ofNat_of_zero_le hd.1
    have t : ∀ k : Fin 7, unitOf ((baseName (k.val : Int)).getD []) = some (k.val, 1, 1) := by decide +kernel
    have := t ⟨k, by omega⟩
    simp only [h, Option.getD_some] at this
    exact ⟨by rw [Int.toNat_natCast]; exact this, hd⟩
  · have : baseName d = none := baseName_none fun j hj => by
      have := (u_bounds j hj).2.2.2.2
      omega
    rw [this] at h
    cases h

theorem base_len (d : Int) (nm : List UInt8) (h : baseName d = some nm) : nm.length ≤ 8 := by
  obtain ⟨_, h0, h6⟩ := base_unit d nm h
  obtain ⟨k, rfl⟩ := Int.eq_ofNat_of_zero_le h0
  have t : ∀ k : Fin 7, ((baseName (k.val : Int)).getD []).length ≤ 8 := by decide +kernel
  have := t ⟨k, by omega⟩
  simp only [h, Option.getD_some] at this
  exact this
theorem ba_ext {a b : ByteArray} (h : a.data.toList = b.data.toList) : a = b := by
  apply ByteArray.ext
  exact Array.ext' h

/-- The numeral of an amount, in the base unit, is this amount. -/
theorem back_amount (n d : Int) (nm : List UInt8) (h0 : 0 ≤ n) (h1 : n ≤ 1125899906842624) (h : baseName d = some nm) :
    amountU (Lib.itoa n) nm = (n, d, 0) := by
  obtain ⟨hu, hd0, hd6⟩ := base_unit d nm h
  rw [itoa_nat n h0]
  obtain ⟨a, b, c, _⟩ := dec_all 15 n.toNat (dec_big _ (by omega))
  have hl : (Lib.decDigits n.toNat).length ≤ 20 := by have := dec_len 15 n.toNat (dec_big _ (by omega)); omega
  unfold amountU
  rw [cut_digits _ a, hu]
  have hdg : digitsB (Lib.decDigits n.toNat) 20 = true := by
    unfold digitsB
    rw [a, decide_eq_true hl]
    cases hh : Lib.decDigits n.toNat with
    | nil => exact absurd hh c
    | cons x r => rfl
  simp only [hdg]
  unfold amountM total
  rw [valueOf_digits _ a c, b]
  unfold capV
  rw [Nat.min_eq_left (by omega)]
  simp only [List.length_nil, Nat.pow_zero, Nat.mul_one, if_true, Nat.add_zero]
  rw [amountT_ok (by omega) (by omega)]
  simp only [Bool.not_true, Bool.false_and, Bool.or_self, Bool.false_eq_true, if_false]
  rw [Nat.div_one]
  congr 1
  · omega
  · congr 1
    omega
end Go.Proofs.YtojdneepnfcnjaaDoor.U
