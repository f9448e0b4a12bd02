/- Plain functions and facts of layer 14 (amounts with units): digits, values, amounts; no program in sight. -/
import Derived.WalkKit
import Derived.Lib.ParseIntB
import Derived.Lib.ParseIntBCases
import Derived.Lib.SlTrimSet
import Derived.Lib.IndexMore
import Derived.Lib.ItoaNum
namespace Go.Proofs.YtojdneepnfcnjaaDoor.U

def isDig (c : UInt8) : Bool := decide (48 ≤ c.toNat ∧ c.toNat ≤ 57)
/-- The number that a row of decimal digits denotes. -/
def digVal (l : List UInt8) : Nat := l.foldl (fun n c => 10 * n + (c.toNat - 48)) 0
def capV : Nat := 54043195528445952
/-- unit.value -/
def valueOf (l : List UInt8) : Nat :=
  match Lib.parseUintB 64 l with
  | .ok u => if capV < u then capV else u
  | _ => capV
/-- unit.digits -/
def digitsB (l : List UInt8) (most : Nat) : Bool := !l.isEmpty && decide (l.length ≤ most) && l.all isDig

theorem digVal_append (a : List UInt8) (c : UInt8) : digVal (a ++ [c]) = 10 * digVal a + (c.toNat - 48) := by
  unfold digVal; rw [List.foldl_append]; rfl

theorem foldl_acc (l : List UInt8) : ∀ n : Nat, l.foldl (fun n c => 10 * n + (c.toNat - 48)) n = n * 10 ^ l.length + digVal l := by
  unfold digVal
  induction l with
  | nil => intro n; simp
  | cons c r ih =>
    intro n
    simp only [List.foldl_cons, List.length_cons]
    rw [ih, ih (10 * 0 + (c.toNat - 48)), Nat.pow_succ]
    generalize 10 ^ r.length = p
    generalize r.foldl _ 0 = z
    rw [Nat.add_mul]
    have : 10 * n * p = n * (p * 10) := by rw [Nat.mul_comm 10 n, Nat.mul_assoc, Nat.mul_comm 10 p]
    have e0 : 10 * 0 + (c.toNat - 48) = c.toNat - 48 := by omega
    rw [this, e0]
    omega

theorem digVal_cons (c : UInt8) (r : List UInt8) : digVal (c :: r) = (c.toNat - 48) * 10 ^ r.length + digVal r := by
  show (c :: r).foldl _ 0 = _
  rw [List.foldl_cons, foldl_acc]
  simp

theorem digVal_app (a b : List UInt8) : digVal (a ++ b) = digVal a * 10 ^ b.length + digVal b := by
  show (a ++ b).foldl _ 0 = _
  rw [List.foldl_append, foldl_acc]
  rfl

theorem digVal_lt (l : List UInt8) (h : l.all isDig = true) : digVal l < 10 ^ l.length := by
  induction l with
  | nil => simp [digVal]
  | cons c r ih =>
    simp only [List.all_cons, Bool.and_eq_true] at h
    have hc := h.1
    unfold isDig at hc
    have hc' := of_decide_eq_true hc
    have := ih h.2
    rw [digVal_cons, List.length_cons, Nat.pow_succ]
    generalize 10 ^ r.length = p at *
    have h9 : (c.toNat - 48) * p ≤ 9 * p := Nat.mul_le_mul_right _ (by omega)
    omega

theorem parseUint10_digits : ∀ (l : List UInt8) (acc : Nat), l.all isDig = true →
    (Lib.parseUint10 acc l = .ok (acc * 10 ^ l.length + digVal l) ∧ acc * 10 ^ l.length + digVal l < 18446744073709551616 ∨ acc ≥ 18446744073709551616 ∧ l = []) ∨ (Lib.parseUint10 acc l = .range ∧ 18446744073709551616 ≤ acc * 10 ^ l.length + digVal l)
  | [], acc, _ => by
    left
    by_cases h : acc < 18446744073709551616
    · left; exact ⟨by simp [Lib.parseUint10, digVal], by simpa [digVal] using h⟩
    · right; exact ⟨by omega, rfl⟩
  | c :: r, acc, h => by
    simp only [List.all_cons, Bool.and_eq_true] at h
    have hc := h.1
    unfold isDig at hc
    have hc' := of_decide_eq_true hc
    have e : acc * 10 ^ (c :: r).length + digVal (c :: r) = (acc * 10 + (c.toNat - 48)) * 10 ^ r.length + digVal r := by
      rw [digVal_cons, List.length_cons, Nat.pow_succ, Nat.add_mul, Nat.mul_assoc, Nat.mul_comm (10 ^ r.length) 10]
      omega
    rw [e]
    have hp : 0 < 10 ^ r.length := Nat.pow_pos (by decide)
    simp only [Lib.parseUint10]
    rw [if_pos hc']
    by_cases h1 : 1844674407370955162 ≤ acc
    · rw [if_pos h1]
      right
      refine ⟨rfl, ?_⟩
      have : (acc * 10 + (c.toNat - 48)) * 1 ≤ (acc * 10 + (c.toNat - 48)) * 10 ^ r.length := Nat.mul_le_mul_left _ hp
      omega
    · rw [if_neg h1]
      by_cases h2 : 18446744073709551616 ≤ acc * 10 + (c.toNat - 48)
      · rw [if_pos h2]
        right
        refine ⟨rfl, ?_⟩
        have : (acc * 10 + (c.toNat - 48)) * 1 ≤ (acc * 10 + (c.toNat - 48)) * 10 ^ r.length := Nat.mul_le_mul_left _ hp
        omega
      · rw [if_neg h2]
        rcases parseUint10_digits r (acc * 10 + (c.toNat - 48)) h.2 with (h3 | ⟨h3, _⟩) | h3
        · exact .inl (.inl h3)
        · omega
        · exact .inr h3

theorem valueOf_digits (l : List UInt8) (h : l.all isDig = true) (hne : l ≠ []) : valueOf l = min (digVal l) capV := by
  have hp : Lib.parseUintB 64 l = Lib.parseUint10 0 l := by
    rw [Lib.parseUintB]
    rw [if_neg hne]
    exact Lib.parseUintM_64 l 0
  unfold valueOf
  rw [hp]
  rcases parseUint10_digits l 0 h with (h3 | ⟨h3, _⟩) | h3
  · rw [Nat.zero_mul, Nat.zero_add] at h3
    rw [h3.1]
    simp only
    split <;> omega
  · omega
  · rw [Nat.zero_mul, Nat.zero_add] at h3
    rw [h3.1]
    unfold capV
    simp only
    omega

theorem valueOf_le (l : List UInt8) : valueOf l ≤ capV := by
  unfold valueOf
  split
  · split <;> omega
  · exact Nat.le_refl _

/-- The cutset of unit.digits. -/
def tens : List UInt8 := [48, 49, 50, 51, 52, 53, 54, 55, 56, 57]
theorem tens_dig (c : UInt8) : tens.contains c = isDig c := by
  have : ∀ i : Fin 256, tens.contains (UInt8.ofNat i.val) = isDig (UInt8.ofNat i.val) := by decide +kernel
  have h := this ⟨c.toNat, c.toNat_lt⟩
  simpa using h

theorem dropWhile_nil {α : Type} (p : α → Bool) (l : List α) : l.dropWhile p = [] ↔ l.all p = true := by
  induction l with
  | nil => simp
  | cons x r ih =>
    rw [List.dropWhile_cons]
    cases h : p x <;> simp [h, ih]

theorem trim_nil (l : List UInt8) : Lib.trimS l tens = [] ↔ l.all isDig = true := by
  have e : (fun c : UInt8 => tens.contains c) = isDig := funext tens_dig
  unfold Lib.trimS Lib.trimLeftS Lib.trimRightS
  rw [e, dropWhile_nil]
  constructor
  · intro h
    by_cases hl : l.all isDig = true
    · exact hl
    · exfalso
      -- the first non-digit from the end stays
      have hr : ¬ l.reverse.all isDig = true := by simpa using hl
      have : (l.reverse.dropWhile isDig) ≠ [] := fun hh => hr ((dropWhile_nil _ _).1 hh)
      obtain ⟨x, r, hx⟩ := List.exists_cons_of_ne_nil this
      have hd : isDig x = false := by
        have := List.head?_dropWhile_not isDig l.reverse
        rw [hx] at this
        simpa using this
      rw [hx] at h
      simp [hd] at h
  · intro h
    have : l.reverse.dropWhile isDig = [] := (dropWhile_nil _ _).2 (by simpa using h)
    rw [this]
    rfl

/-- What a division of N by D comes to as an amount of a dimension. -/
def amountT (dim : Int) (N D : Nat) : Int × Int × Int := if N % D = 0 ∧ N / D ≤ 1125899906842624 then (((N / D : Nat) : Int), dim, 0) else (0, 0, 7)
/-- The digits of a number, without its point; the whole part is limited. -/
def total (s1 s2 : List UInt8) : Nat := valueOf s1 * 10 ^ s2.length + (if s2 = [] then 0 else valueOf s2)
/-- (measure).amount -/
def amountM (dim : Int) (num den : Nat) (s1 s2 : List UInt8) : Int × Int × Int := amountT dim (total s1 s2 * num) (10 ^ s2.length * den)

/-- The numbers of 64 bits through which (measure).amount goes. -/
structure Nums (V P F num den h1 l1 c l2 H a b1 b0 nh D : Nat) : Prop where
  m1 : V * P = h1 * 18446744073709551616 + l1
  m2 : l1 + F = c * 18446744073709551616 + l2
  m3 : h1 + c = H
  m4 : H * num = a
  m5 : l2 * num = b1 * 18446744073709551616 + b0
  m6 : a + b1 = nh
  m7 : P * den = D
  m8 : nh * 18446744073709551616 + b0 = (V * P + F) * num
  bl1 : (l1 : Int) < 18446744073709551616
  bl2 : (l2 : Int) < 18446744073709551616
  bb0 : (b0 : Int) < 18446744073709551616
  bc : (c : Int) ≤ 1
  bh1 : (h1 : Int) < 4294967296
  bH : (H : Int) < 4294967297
  bab : (a : Int) + (b1 : Int) < 18446744073709551616
  bnh : (nh : Int) < 18446744073709551616
  bD : (D : Int) ≤ 24000000000
  bD1 : 1 ≤ (D : Int)
theorem nums (V P F num den : Nat) (hV : V ≤ 54043195528445952) (hP : P ≤ 1000000000) (hP1 : 1 ≤ P) (hF : F ≤ 54043195528445952) (hn : num ≤ 1000000000) (hd : den ≤ 24) (hd1 : 1 ≤ den) :
    ∃ h1 l1 c l2 H a b1 b0 nh D, Nums V P F num den h1 l1 c l2 H a b1 b0 nh D := by
  have e1 : V * P = V * P / 18446744073709551616 * 18446744073709551616 + V * P % 18446744073709551616 := by omega
  have e2 : V * P % 18446744073709551616 + F = (V * P % 18446744073709551616 + F) / 18446744073709551616 * 18446744073709551616 + (V * P % 18446744073709551616 + F) % 18446744073709551616 := by omega
  have bVP : V * P ≤ 54043195528445952 * 1000000000 := Nat.mul_le_mul hV hP
  generalize hh1 : V * P / 18446744073709551616 = h1 at *
  generalize hl1 : V * P % 18446744073709551616 = l1 at *
  have bl1 : l1 < 18446744073709551616 := by rw [← hl1]; exact Nat.mod_lt _ (by decide)
  generalize hc : (l1 + F) / 18446744073709551616 = c at *
  generalize hl2 : (l1 + F) % 18446744073709551616 = l2 at *
  have bl2 : l2 < 18446744073709551616 := by rw [← hl2]; exact Nat.mod_lt _ (by decide)
  have e3 : l2 * num = l2 * num / 18446744073709551616 * 18446744073709551616 + l2 * num % 18446744073709551616 := by omega
  have bb1 : l2 * num ≤ 18446744073709551616 * 1000000000 := Nat.mul_le_mul (by omega) hn
  generalize hb1 : l2 * num / 18446744073709551616 = b1 at *
  generalize hb0 : l2 * num % 18446744073709551616 = b0 at *
  have bb0 : b0 < 18446744073709551616 := by rw [← hb0]; exact Nat.mod_lt _ (by decide)
  have bc : c ≤ 1 := by omega
  have bh1 : h1 < 4294967296 := by omega
  have ba : (h1 + c) * num ≤ 4294967297 * 1000000000 := Nat.mul_le_mul (by omega) hn
  have bD : P * den ≤ 1000000000 * 24 := Nat.mul_le_mul hP hd
  have bD1 : 1 * 1 ≤ P * den := Nat.mul_le_mul hP1 hd1
  refine ⟨h1, l1, c, l2, h1 + c, (h1 + c) * num, b1, b0, (h1 + c) * num + b1, P * den, ⟨e1, e2, rfl, rfl, e3, rfl, rfl, ?_, by omega, by omega, by omega, by omega, by omega, by omega, by omega, by omega, by omega, by omega⟩⟩
  have e4 : V * P + F = (h1 + c) * 18446744073709551616 + l2 := by omega
  rw [e4, Nat.add_mul ((h1 + c) * 18446744073709551616) l2 num, e3, Nat.mul_right_comm]
  omega

theorem amountM_eq {dim : Int} {num den : Nat} {s1 s2 : List UInt8} {V P F h1 l1 c l2 H a b1 b0 nh D : Nat} (hN : Nums V P F num den h1 l1 c l2 H a b1 b0 nh D)
    (hV : V = valueOf s1) (hP : P = 10 ^ s2.length) (hF : F = if s2 = [] then 0 else valueOf s2) :
    amountM dim num den s1 s2 = amountT dim (nh * 18446744073709551616 + b0) D := by
  have h := hN.m8
  have h' := hN.m7
  rw [hV, hP, hF] at h
  rw [hP] at h'
  unfold amountM total
  rw [h', h]

theorem amountT_top {dim : Int} {nh b0 D : Nat} (h : D ≤ nh) (hD : 1 ≤ D) : amountT dim (nh * 18446744073709551616 + b0) D = (0, 0, 7) := by
  unfold amountT
  rw [if_neg]
  rintro ⟨_, h2⟩
  have h3 : 18446744073709551616 ≤ (nh * 18446744073709551616 + b0) / D := (Nat.le_div_iff_mul_le (by omega)).2 (by
    have := Nat.mul_le_mul_left 18446744073709551616 h
    omega)
  omega
theorem amountT_rest {dim : Int} {N D : Nat} (h : N % D ≠ 0) : amountT dim N D = (0, 0, 7) := by
  unfold amountT
  rw [if_neg]
  exact fun h2 => h h2.1
theorem amountT_big {dim : Int} {N D : Nat} (h : 1125899906842624 < N / D) : amountT dim N D = (0, 0, 7) := by
  unfold amountT
  rw [if_neg]
  rintro ⟨_, h2⟩
  omega
theorem amountT_ok {dim : Int} {N D : Nat} (h : N % D = 0) (h2 : N / D ≤ 1125899906842624) : amountT dim N D = (((N / D : Nat) : Int), dim, 0) := by
  unfold amountT
  rw [if_pos ⟨h, h2⟩]

/-- The units: name, dimension, numerator, denominator. -/
def unitTab : List (List UInt8 × Nat × Nat × Nat) :=
  [([], 0, 1, 1), ([108], 1, 1, 1), ([109, 51], 1, 1000, 1), ([77, 76], 1, 1000000, 1), ([71, 76], 1, 1000000000, 1), ([108, 112, 104], 2, 1, 1), ([108, 112, 115], 2, 3600, 1), ([109, 51, 112, 115], 2, 3600000, 1),
   ([77, 76, 112, 100], 2, 1000000, 24), ([109, 109], 3, 1, 1), ([99, 109], 3, 10, 1), ([109], 3, 1000, 1), ([104], 4, 1, 1), ([100], 4, 24, 1), ([109, 50], 5, 1, 1), ([104, 97], 5, 10000, 1), ([107, 109, 50], 5, 1000000, 1),
   ([112, 101, 114, 109, 105, 108, 108, 101], 6, 1, 1), ([112, 101, 114, 99, 101, 110, 116], 6, 10, 1)]
def uName (k : Nat) : List UInt8 := (unitTab.getD k ([], 0, 1, 1)).1
def uDim (k : Nat) : Nat := (unitTab.getD k ([], 0, 1, 1)).2.1
def uNum (k : Nat) : Nat := (unitTab.getD k ([], 0, 1, 1)).2.2.1
def uDen (k : Nat) : Nat := (unitTab.getD k ([], 0, 1, 1)).2.2.2
def unitOf (name : List UInt8) : Option (Nat × Nat × Nat) := (unitTab.find? fun u => u.1 == name).map (·.2)
/-- unit.Amount -/
def amountU (number name : List UInt8) : Int × Int × Int :=
  if !digitsB (Lib.cut number [46]).1 20 || ((Lib.cut number [46]).2.2 && !digitsB (Lib.cut number [46]).2.1 9) then (0, 0, 2) else
    match unitOf name with
    | some (dim, num, den) => amountM dim num den (Lib.cut number [46]).1 (Lib.cut number [46]).2.1
    | none => (0, 0, 6)

theorem unitOf_at {name : List UInt8} {k : Nat} (hk : k < 19) (h : uName k = name) (hb : ∀ j, j < k → uName j ≠ name) : unitOf name = some (uDim k, uNum k, uDen k) := by
  subst h
  unfold unitOf
  have : ∀ k : Fin 19, (unitTab.find? fun u => u.1 == uName k.val).map (·.2) = some (uDim k.val, uNum k.val, uDen k.val) := by decide +kernel
  exact this ⟨k, hk⟩
theorem unitOf_none {name : List UInt8} (hb : ∀ j, j < 19 → uName j ≠ name) : unitOf name = none := by
  unfold unitOf
  rw [List.find?_eq_none.2]
  · rfl
  · intro x hx
    obtain ⟨i, hi, rfl⟩ := List.mem_iff_getElem.1 hx
    have := hb i hi
    unfold uName at this
    rw [List.getD_eq_getElem?_getD, List.getElem?_eq_getElem hi] at this
    simpa using this
theorem u_bounds (k : Nat) (h : k < 19) : 1 ≤ uNum k ∧ uNum k ≤ 1000000000 ∧ 1 ≤ uDen k ∧ uDen k ≤ 24 ∧ uDim k ≤ 6 := by
  have : ∀ k : Fin 19, 1 ≤ uNum k.val ∧ uNum k.val ≤ 1000000000 ∧ 1 ≤ uDen k.val ∧ uDen k.val ≤ 24 ∧ uDim k.val ≤ 6 := by decide +kernel
  exact this ⟨k, h⟩

/-- The base unit of a dimension: the first unit of the table that has it. -/
def baseName (d : Int) : Option (List UInt8) := (unitTab.find? fun u => (u.2.1 : Int) == d).map (·.1)
/-- unit.Write -/
def writeU (n d : Int) : List UInt8 :=
  if n < 0 ∨ 1125899906842624 < n then [] else
    match baseName d with
    | some nm => if nm = [] then Lib.itoa n else Lib.itoa n ++ [32] ++ nm
    | none => []
theorem baseName_at {d : Int} {k : Nat} (hk : k < 19) (h : (uDim k : Int) = d) (hb : ∀ j, j < k → (uDim j : Int) ≠ d) : baseName d = some (uName k) := by
  subst h
  have : ∀ k : Fin 19, (∀ j : Fin 19, j < k → (uDim j.val : Int) ≠ (uDim k.val : Int)) → baseName (uDim k.val) = some (uName k.val) := by decide +kernel
  exact this ⟨k, hk⟩ fun j hj => hb j.val hj
theorem baseName_none {d : Int} (hb : ∀ j, j < 19 → (uDim j : Int) ≠ d) : baseName d = none := by
  unfold baseName
  rw [List.find?_eq_none.2]
  · rfl
  · intro x hx
    obtain ⟨i, hi, rfl⟩ := List.mem_iff_getElem.1 hx
    have := hb i hi
    unfold uDim at this
    rw [List.getD_eq_getElem?_getD, List.getElem?_eq_getElem hi] at this
    simpa using this

end Go.Proofs.YtojdneepnfcnjaaDoor.U
