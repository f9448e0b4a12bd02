/- Plain functions and facts of layer 14 (amounts with units): digits, values, amounts; no program in sight. What is written is read again: digits, values and amounts of decimal numerals. Plain arithmetic behind math/bits.Div64: Knuth's division of 128 bits by 64 bits, on natural numbers. Layer 13's scanner, plainly. Layer 13's white space, plainly. Layer 13's tokens, plainly. Layer 15's parser, plainly: trees, and what Parse makes of tokens. Layer 15's parser, plainly: each step goes on; the loops between two rounds. Layer 15's parser, plainly: offsets change nothing but offsets. Layer 15's grammar: what the parser accepts, as a relation; each success of the parser is one of its derivations. Layer 15's grammar: what the parser's errors are, and where. Layer 15's grammar: tokens that are cut at the place of an error of form. Layer 13's scanner, plainly: what a token is by itself, what may stand behind it. Layer 13's scanner, plainly: a source's tokens one by one, where they stand, and a source that is cut at a token. -/
import Derived.WalkKit
import Derived.Lib.ParseIntB
import Derived.Lib.ParseIntBCases
import Derived.Lib.SlTrimSet
import Derived.Lib.IndexMore
import Derived.Lib.ItoaNum
import Derived.Lib.Strings
import Derived.Lib.Bytealg
namespace Go.Proofs.YtooajmbpncmgjaaGreatDoor.U

def isDig (c : UInt8) : Bool := decide (48 ≤ c.toNat ∧ c.toNat ≤ 57)
/-- The number that a row of decimal digits denotes. -/
def digVal (l : List UInt8) : Nat := l.foldl (fun n c => 10 * n + (c.toNat - 48)) 0
def capV : Nat := 54043195528445952
/-- unit.value -/
def valueOf (l : List UInt8) : Nat :=
  match Lib.parseUintB 64 l with
  | .ok u => if capV < u then capV else u
  | _ => capV
/-- unit.digits -/
def digitsB (l : List UInt8) (most : Nat) : Bool := !l.isEmpty && decide (l.length ≤ most) && l.all isDig

theorem digVal_append (a : List UInt8) (c : UInt8) : digVal (a ++ [c]) = 10 * digVal a + (c.toNat - 48) := by
  unfold digVal; rw [List.foldl_append]; rfl

theorem foldl_acc (l : List UInt8) : ∀ n : Nat, l.foldl (fun n c => 10 * n + (c.toNat - 48)) n = n * 10 ^ l.length + digVal l := by
  unfold digVal
  induction l with
  | nil => intro n; simp
  | cons c r ih =>
    intro n
    simp only [List.foldl_cons, List.length_cons]
    rw [ih, ih (10 * 0 + (c.toNat - 48)), Nat.pow_succ]
    generalize 10 ^ r.length = p
    generalize r.foldl _ 0 = z
    rw [Nat.add_mul]
    have : 10 * n * p = n * (p * 10) := by rw [Nat.mul_comm 10 n, Nat.mul_assoc, Nat.mul_comm 10 p]
    have e0 : 10 * 0 + (c.toNat - 48) = c.toNat - 48 := by omega
    rw [this, e0]
    omega

theorem digVal_cons (c : UInt8) (r : List UInt8) : digVal (c :: r) = (c.toNat - 48) * 10 ^ r.length + digVal r := by
  show (c :: r).foldl _ 0 = _
  rw [List.foldl_cons, foldl_acc]
  simp

theorem digVal_app (a b : List UInt8) : digVal (a ++ b) = digVal a * 10 ^ b.length + digVal b := by
  show (a ++ b).foldl _ 0 = _
  rw [List.foldl_append, foldl_acc]
  rfl

theorem digVal_lt (l : List UInt8) (h : l.all isDig = true) : digVal l < 10 ^ l.length := by
  induction l with
  | nil => simp [digVal]
  | cons c r ih =>
    simp only [List.all_cons, Bool.and_eq_true] at h
    have hc := h.1
    unfold isDig at hc
    have hc' := of_decide_eq_true hc
    have := ih h.2
    rw [digVal_cons, List.length_cons, Nat.pow_succ]
    generalize 10 ^ r.length = p at *
    have h9 : (c.toNat - 48) * p ≤ 9 * p := Nat.mul_le_mul_right _ (by omega)
    omega

theorem parseUint10_digits : ∀ (l : List UInt8) (acc : Nat), l.all isDig = true →
    (Lib.parseUint10 acc l = .ok (acc * 10 ^ l.length + digVal l) ∧ acc * 10 ^ l.length + digVal l < 18446744073709551616 ∨ acc ≥ 18446744073709551616 ∧ l = []) ∨ (Lib.parseUint10 acc l = .range ∧ 18446744073709551616 ≤ acc * 10 ^ l.length + digVal l)
  | [], acc, _ => by
    left
    by_cases h : acc < 18446744073709551616
    · left; exact ⟨by simp [Lib.parseUint10, digVal], by simpa [digVal] using h⟩
    · right; exact ⟨by omega, rfl⟩
  | c :: r, acc, h => by
    simp only [List.all_cons, Bool.and_eq_true] at h
    have hc := h.1
    unfold isDig at hc
    have hc' := of_decide_eq_true hc
    have e : acc * 10 ^ (c :: r).length + digVal (c :: r) = (acc * 10 + (c.toNat - 48)) * 10 ^ r.length + digVal r := by
      rw [digVal_cons, List.length_cons, Nat.pow_succ, Nat.add_mul, Nat.mul_assoc, Nat.mul_comm (10 ^ r.length) 10]
      omega
    rw [e]
    have hp : 0 < 10 ^ r.length := Nat.pow_pos (by decide)
    simp only [Lib.parseUint10]
    rw [if_pos hc']
    by_cases h1 : 1844674407370955162 ≤ acc
    · rw [if_pos h1]
      right
      refine ⟨rfl, ?_⟩
      have : (acc * 10 + (c.toNat - 48)) * 1 ≤ (acc * 10 + (c.toNat - 48)) * 10 ^ r.length := Nat.mul_le_mul_left _ hp
      omega
    · rw [if_neg h1]
      by_cases h2 : 18446744073709551616 ≤ acc * 10 + (c.toNat - 48)
      · rw [if_pos h2]
        right
        refine ⟨rfl, ?_⟩
        have : (acc * 10 + (c.toNat - 48)) * 1 ≤ (acc * 10 + (c.toNat - 48)) * 10 ^ r.length := Nat.mul_le_mul_left _ hp
        omega
      · rw [if_neg h2]
        rcases parseUint10_digits r (acc * 10 + (c.toNat - 48)) h.2 with (h3 | ⟨h3, _⟩) | h3
        · exact .inl (.inl h3)
        · omega
        · exact .inr h3

theorem valueOf_digits (l : List UInt8) (h : l.all isDig = true) (hne : l ≠ []) : valueOf l = min (digVal l) capV := by
  have hp : Lib.parseUintB 64 l = Lib.parseUint10 0 l := by
    rw [Lib.parseUintB]
    rw [if_neg hne]
    exact Lib.parseUintM_64 l 0
  unfold valueOf
  rw [hp]
  rcases parseUint10_digits l 0 h with (h3 | ⟨h3, _⟩) | h3
  · rw [Nat.zero_mul, Nat.zero_add] at h3
    rw [h3.1]
    simp only
    split <;> omega
  · omega
  · rw [Nat.zero_mul, Nat.zero_add] at h3
    rw [h3.1]
    unfold capV
    simp only
    omega

theorem valueOf_le (l : List UInt8) : valueOf l ≤ capV := by
  unfold valueOf
  split
  · split <;> omega
  · exact Nat.le_refl _

/-- The cutset of unit.digits. -/
def tens : List UInt8 := [48, 49, 50, 51, 52, 53, 54, 55, 56, 57]
theorem tens_dig (c : UInt8) : tens.contains c = isDig c := by
  have : ∀ i : Fin 256, tens.contains (UInt8.ofNat i.val) = isDig (UInt8.ofNat i.val) := by decide +kernel
  have h := this ⟨c.toNat, c.toNat_lt⟩
  simpa using h

theorem dropWhile_nil {α : Type} (p : α → Bool) (l : List α) : l.dropWhile p = [] ↔ l.all p = true := by
  induction l with
  | nil => simp
  | cons x r ih =>
    rw [List.dropWhile_cons]
    cases h : p x <;> simp [h, ih]

theorem trim_nil (l : List UInt8) : Lib.trimS l tens = [] ↔ l.all isDig = true := by
  have e : (fun c : UInt8 => tens.contains c) = isDig := funext tens_dig
  unfold Lib.trimS Lib.trimLeftS Lib.trimRightS
  rw [e, dropWhile_nil]
  constructor
  · intro h
    by_cases hl : l.all isDig = true
    · exact hl
    · exfalso
      -- the first non-digit from the end stays
      have hr : ¬ l.reverse.all isDig = true := by simpa using hl
      have : (l.reverse.dropWhile isDig) ≠ [] := fun hh => hr ((dropWhile_nil _ _).1 hh)
      obtain ⟨x, r, hx⟩ := List.exists_cons_of_ne_nil this
      have hd : isDig x = false := by
        have := List.head?_dropWhile_not isDig l.reverse
        rw [hx] at this
        simpa using this
      rw [hx] at h
      simp [hd] at h
  · intro h
    have : l.reverse.dropWhile isDig = [] := (dropWhile_nil _ _).2 (by simpa using h)
    rw [this]
    rfl

/-- What a division of N by D comes to as an amount of a dimension. -/
def amountT (dim : Int) (N D : Nat) : Int × Int × Int := if N % D = 0 ∧ N / D ≤ 1125899906842624 then (((N / D : Nat) : Int), dim, 0) else (0, 0, 7)
/-- The digits of a number, without its point; the whole part is limited. -/
def total (s1 s2 : List UInt8) : Nat := valueOf s1 * 10 ^ s2.length + (if s2 = [] then 0 else valueOf s2)
/-- (measure).amount -/
def amountM (dim : Int) (num den : Nat) (s1 s2 : List UInt8) : Int × Int × Int := amountT dim (total s1 s2 * num) (10 ^ s2.length * den)

/-- The numbers of 64 bits through which (measure).amount goes. -/
structure Nums (V P F num den h1 l1 c l2 H a b1 b0 nh D : Nat) : Prop where
  m1 : V * P = h1 * 18446744073709551616 + l1
  m2 : l1 + F = c * 18446744073709551616 + l2
  m3 : h1 + c = H
  m4 : H * num = a
  m5 : l2 * num = b1 * 18446744073709551616 + b0
  m6 : a + b1 = nh
  m7 : P * den = D
  m8 : nh * 18446744073709551616 + b0 = (V * P + F) * num
  bl1 : (l1 : Int) < 18446744073709551616
  bl2 : (l2 : Int) < 18446744073709551616
  bb0 : (b0 : Int) < 18446744073709551616
  bc : (c : Int) ≤ 1
  bh1 : (h1 : Int) < 4294967296
  bH : (H : Int) < 4294967297
  bab : (a : Int) + (b1 : Int) < 18446744073709551616
  bnh : (nh : Int) < 18446744073709551616
  bD : (D : Int) ≤ 24000000000
  bD1 : 1 ≤ (D : Int)
theorem nums (V P F num den : Nat) (hV : V ≤ 54043195528445952) (hP : P ≤ 1000000000) (hP1 : 1 ≤ P) (hF : F ≤ 54043195528445952) (hn : num ≤ 1000000000) (hd : den ≤ 24) (hd1 : 1 ≤ den) :
    ∃ h1 l1 c l2 H a b1 b0 nh D, Nums V P F num den h1 l1 c l2 H a b1 b0 nh D := by
  have e1 : V * P = V * P / 18446744073709551616 * 18446744073709551616 + V * P % 18446744073709551616 := by omega
  have e2 : V * P % 18446744073709551616 + F = (V * P % 18446744073709551616 + F) / 18446744073709551616 * 18446744073709551616 + (V * P % 18446744073709551616 + F) % 18446744073709551616 := by omega
  have bVP : V * P ≤ 54043195528445952 * 1000000000 := Nat.mul_le_mul hV hP
  generalize hh1 : V * P / 18446744073709551616 = h1 at *
  generalize hl1 : V * P % 18446744073709551616 = l1 at *
  have bl1 : l1 < 18446744073709551616 := by rw [← hl1]; exact Nat.mod_lt _ (by decide)
  generalize hc : (l1 + F) / 18446744073709551616 = c at *
  generalize hl2 : (l1 + F) % 18446744073709551616 = l2 at *
  have bl2 : l2 < 18446744073709551616 := by rw [← hl2]; exact Nat.mod_lt _ (by decide)
  have e3 : l2 * num = l2 * num / 18446744073709551616 * 18446744073709551616 + l2 * num % 18446744073709551616 := by omega
  have bb1 : l2 * num ≤ 18446744073709551616 * 1000000000 := Nat.mul_le_mul (by omega) hn
  generalize hb1 : l2 * num / 18446744073709551616 = b1 at *
  generalize hb0 : l2 * num % 18446744073709551616 = b0 at *
  have bb0 : b0 < 18446744073709551616 := by rw [← hb0]; exact Nat.mod_lt _ (by decide)
  have bc : c ≤ 1 := by omega
  have bh1 : h1 < 4294967296 := by omega
  have ba : (h1 + c) * num ≤ 4294967297 * 1000000000 := Nat.mul_le_mul (by omega) hn
  have bD : P * den ≤ 1000000000 * 24 := Nat.mul_le_mul hP hd
  have bD1 : 1 * 1 ≤ P * den := Nat.mul_le_mul hP1 hd1
  refine ⟨h1, l1, c, l2, h1 + c, (h1 + c) * num, b1, b0, (h1 + c) * num + b1, P * den, ⟨e1, e2, rfl, rfl, e3, rfl, rfl, ?_, by omega, by omega, by omega, by omega, by omega, by omega, by omega, by omega, by omega, by omega⟩⟩
  have e4 : V * P + F = (h1 + c) * 18446744073709551616 + l2 := by omega
  rw [e4, Nat.add_mul ((h1 + c) * 18446744073709551616) l2 num, e3, Nat.mul_right_comm]
  omega

theorem amountM_eq {dim : Int} {num den : Nat} {s1 s2 : List UInt8} {V P F h1 l1 c l2 H a b1 b0 nh D : Nat} (hN : Nums V P F num den h1 l1 c l2 H a b1 b0 nh D)
    (hV : V = valueOf s1) (hP : P = 10 ^ s2.length) (hF : F = if s2 = [] then 0 else valueOf s2) :
    amountM dim num den s1 s2 = amountT dim (nh * 18446744073709551616 + b0) D := by
  have h := hN.m8
  have h' := hN.m7
  rw [hV, hP, hF] at h
  rw [hP] at h'
  unfold amountM total
  rw [h', h]

theorem amountT_top {dim : Int} {nh b0 D : Nat} (h : D ≤ nh) (hD : 1 ≤ D) : amountT dim (nh * 18446744073709551616 + b0) D = (0, 0, 7) := by
  unfold amountT
  rw [if_neg]
  rintro ⟨_, h2⟩
  have h3 : 18446744073709551616 ≤ (nh * 18446744073709551616 + b0) / D := (Nat.le_div_iff_mul_le (by omega)).2 (by
    have := Nat.mul_le_mul_left 18446744073709551616 h
    omega)
  omega
theorem amountT_rest {dim : Int} {N D : Nat} (h : N % D ≠ 0) : amountT dim N D = (0, 0, 7) := by
  unfold amountT
  rw [if_neg]
  exact fun h2 => h h2.1
theorem amountT_big {dim : Int} {N D : Nat} (h : 1125899906842624 < N / D) : amountT dim N D = (0, 0, 7) := by
  unfold amountT
  rw [if_neg]
  rintro ⟨_, h2⟩
  omega
theorem amountT_ok {dim : Int} {N D : Nat} (h : N % D = 0) (h2 : N / D ≤ 1125899906842624) : amountT dim N D = (((N / D : Nat) : Int), dim, 0) := by
  unfold amountT
  rw [if_pos ⟨h, h2⟩]

/-- The units: name, dimension, numerator, denominator. -/
def unitTab : List (List UInt8 × Nat × Nat × Nat) :=
  [([], 0, 1, 1), ([108], 1, 1, 1), ([109, 51], 1, 1000, 1), ([77, 76], 1, 1000000, 1), ([71, 76], 1, 1000000000, 1), ([108, 112, 104], 2, 1, 1), ([108, 112, 115], 2, 3600, 1), ([109, 51, 112, 115], 2, 3600000, 1),
   ([77, 76, 112, 100], 2, 1000000, 24), ([109, 109], 3, 1, 1), ([99, 109], 3, 10, 1), ([109], 3, 1000, 1), ([104], 4, 1, 1), ([100], 4, 24, 1), ([109, 50], 5, 1, 1), ([104, 97], 5, 10000, 1), ([107, 109, 50], 5, 1000000, 1),
   ([112, 101, 114, 109, 105, 108, 108, 101], 6, 1, 1), ([112, 101, 114, 99, 101, 110, 116], 6, 10, 1)]
def uName (k : Nat) : List UInt8 := (unitTab.getD k ([], 0, 1, 1)).1
def uDim (k : Nat) : Nat := (unitTab.getD k ([], 0, 1, 1)).2.1
def uNum (k : Nat) : Nat := (unitTab.getD k ([], 0, 1, 1)).2.2.1
def uDen (k : Nat) : Nat := (unitTab.getD k ([], 0, 1, 1)).2.2.2
def unitOf (name : List UInt8) : Option (Nat × Nat × Nat) := (unitTab.find? fun u => u.1 == name).map (·.2)
/-- unit.Amount -/
def amountU (number name : List UInt8) : Int × Int × Int :=
  if !digitsB (Lib.cut number [46]).1 20 || ((Lib.cut number [46]).2.2 && !digitsB (Lib.cut number [46]).2.1 9) then (0, 0, 2) else
    match unitOf name with
    | some (dim, num, den) => amountM dim num den (Lib.cut number [46]).1 (Lib.cut number [46]).2.1
    | none => (0, 0, 6)

theorem unitOf_at {name : List UInt8} {k : Nat} (hk : k < 19) (h : uName k = name) (hb : ∀ j, j < k → uName j ≠ name) : unitOf name = some (uDim k, uNum k, uDen k) := by
  subst h
  unfold unitOf
  have : ∀ k : Fin 19, (unitTab.find? fun u => u.1 == uName k.val).map (·.2) = some (uDim k.val, uNum k.val, uDen k.val) := by decide +kernel
  exact this ⟨k, hk⟩
theorem unitOf_none {name : List UInt8} (hb : ∀ j, j < 19 → uName j ≠ name) : unitOf name = none := by
  unfold unitOf
  rw [List.find?_eq_none.2]
  · rfl
  · intro x hx
    obtain ⟨i, hi, rfl⟩ := List.mem_iff_getElem.1 hx
    have := hb i hi
    unfold uName at this
    rw [List.getD_eq_getElem?_getD, List.getElem?_eq_getElem hi] at this
    simpa using this
theorem u_bounds (k : Nat) (h : k < 19) : 1 ≤ uNum k ∧ uNum k ≤ 1000000000 ∧ 1 ≤ uDen k ∧ uDen k ≤ 24 ∧ uDim k ≤ 6 := by
  have : ∀ k : Fin 19, 1 ≤ uNum k.val ∧ uNum k.val ≤ 1000000000 ∧ 1 ≤ uDen k.val ∧ uDen k.val ≤ 24 ∧ uDim k.val ≤ 6 := by decide +kernel
  exact this ⟨k, h⟩

/-- The base unit of a dimension: the first unit of the table that has it. -/
def baseName (d : Int) : Option (List UInt8) := (unitTab.find? fun u => (u.2.1 : Int) == d).map (·.1)
/-- unit.Write -/
def writeU (n d : Int) : List UInt8 :=
  if n < 0 ∨ 1125899906842624 < n then [] else
    match baseName d with
    | some nm => if nm = [] then Lib.itoa n else Lib.itoa n ++ [32] ++ nm
    | none => []
theorem baseName_at {d : Int} {k : Nat} (hk : k < 19) (h : (uDim k : Int) = d) (hb : ∀ j, j < k → (uDim j : Int) ≠ d) : baseName d = some (uName k) := by
  subst h
  have : ∀ k : Fin 19, (∀ j : Fin 19, j < k → (uDim j.val : Int) ≠ (uDim k.val : Int)) → baseName (uDim k.val) = some (uName k.val) := by decide +kernel
  exact this ⟨k, hk⟩ fun j hj => hb j.val hj
theorem baseName_none {d : Int} (hb : ∀ j, j < 19 → (uDim j : Int) ≠ d) : baseName d = none := by
  unfold baseName
  rw [List.find?_eq_none.2]
  · rfl
  · intro x hx
    obtain ⟨i, hi, rfl⟩ := List.mem_iff_getElem.1 hx
    have := hb i hi
    unfold uDim at this
    rw [List.getD_eq_getElem?_getD, List.getElem?_eq_getElem hi] at this
    simpa using this

end Go.Proofs.YtooajmbpncmgjaaGreatDoor.U
namespace Go.Proofs.YtooajmbpncmgjaaGreatDoor.U

theorem dec_all : ∀ (k u : Nat), u < 10 ^ (k + 1) → (Lib.decDigits u).all isDig = true ∧ digVal (Lib.decDigits u) = u ∧ (Lib.decDigits u ≠ []) ∧ ((Lib.decDigits u).head? = some 48 → u = 0)
  | 0, u, h => by
    have h' : u < 10 := by omega
    unfold Lib.decDigits
    rw [dif_pos h']
    have : ∀ u : Fin 10, ([UInt8.ofNat (48 + u.val)].all isDig = true ∧ digVal [UInt8.ofNat (48 + u.val)] = u.val ∧ ([UInt8.ofNat (48 + u.val)] ≠ []) ∧ (([UInt8.ofNat (48 + u.val)]).head? = some 48 → u.val = 0)) := by decide +kernel
    exact this ⟨u, h'⟩
  | k + 1, u, h => by
    by_cases h' : u < 10
    · exact dec_all 0 u (by omega)
    · obtain ⟨a, b, c, d⟩ := dec_all k (u / 10) (by rw [Nat.pow_succ] at h; omega)
      unfold Lib.decDigits
      rw [dif_neg h']
      have t : ∀ r : Fin 10, isDig (UInt8.ofNat (48 + r.val)) = true ∧ (UInt8.ofNat (48 + r.val)).toNat - 48 = r.val := by decide +kernel
      obtain ⟨t1, t2⟩ := t ⟨u % 10, Nat.mod_lt _ (by decide)⟩
      refine ⟨?_, ?_, by simp, ?_⟩
      · rw [List.all_append, a, List.all_cons, List.all_nil, Bool.and_true, Bool.true_and]; exact t1
      · rw [digVal_append, b, t2]; show 10 * (u / 10) + u % 10 = u; omega
      · intro hh
        obtain ⟨x, r, hx⟩ := List.exists_cons_of_ne_nil c
        rw [hx] at d hh
        have := d hh
        omega
theorem dec_big (u : Nat) (h : u ≤ 1125899906842624) : u < 10 ^ (15 + 1) := by omega

theorem dec_len : ∀ (k u : Nat), u < 10 ^ (k + 1) → (Lib.decDigits u).length ≤ k + 1
  | 0, u, h => by unfold Lib.decDigits; rw [dif_pos (by omega)]; simp
  | k + 1, u, h => by
    unfold Lib.decDigits
    split
    · simp
    · have := dec_len k (u / 10) (by rw [Nat.pow_succ] at h; omega)
      simp only [List.length_append, List.length_singleton]
      omega

theorem itoa_nat (n : Int) (h0 : 0 ≤ n) : Lib.itoa n = Lib.decDigits n.toNat := by
  unfold Lib.itoa
  rw [if_neg (by omega)]

/-- strings.Cut at a point, byte by byte. -/
def cutDot : List UInt8 → List UInt8 × List UInt8 × Bool
  | [] => ([], [], false)
  | c :: r => if c == 46 then ([], r, true) else (c :: (cutDot r).1, (cutDot r).2.1, (cutDot r).2.2)
theorem cut_eq (l : List UInt8) : Lib.cut l [46] = cutDot l := by
  induction l with
  | nil => rfl
  | cons c r ih =>
    have hge := Lib.index_ge r [46]
    unfold Lib.cut at ih ⊢
    unfold Lib.index cutDot
    have hp : [(46 : UInt8)].isPrefixOf (c :: r) = (46 == c) := by simp [List.isPrefixOf]
    rw [hp]
    by_cases h : (46 : UInt8) = c
    · subst h
      simp
    · have h1 : ((46 : UInt8) == c) = false := by simpa using h
      have h2 : (c == (46 : UInt8)) = false := by simpa using fun e => h e.symm
      rw [h1, h2, ← ih]
      by_cases hi : Lib.index r [46] = -1
      · rw [hi]; simp
      · have h3 : (Lib.index r [46] == -1) = false := by simpa using hi
        have h4 : 0 ≤ Lib.index r [46] := by omega
        have h5 : 0 ≤ Lib.index r [46] + 1 := by omega
        have h6 : (Lib.index r [46] + 1).toNat = (Lib.index r [46]).toNat + 1 := by omega
        rw [h3]
        simp only [Bool.false_eq_true, if_false, if_pos h4, if_pos h5, h6, List.take_succ_cons]
        congr 2
theorem cut_digits (l : List UInt8) (h : l.all isDig = true) : Lib.cut l [46] = (l, [], false) := by
  rw [cut_eq]
  induction l with
  | nil => rfl
  | cons c r ih =>
    simp only [List.all_cons, Bool.and_eq_true] at h
    have hc : (c == (46 : UInt8)) = false := by
      rw [beq_eq_false_iff_ne]
      rintro rfl
      exact absurd h.1 (by decide)
    unfold cutDot
    rw [hc, ih h.2]
    simp

theorem base_unit (d : Int) (nm : List UInt8) (h : baseName d = some nm) : unitOf nm = some (d.toNat, 1, 1) ∧ 0 ≤ d ∧ d ≤ 6 := by
  by_cases hd : 0 ≤ d ∧ d ≤ 6
  · obtain ⟨k, rfl⟩ := Int.eq_ofNat_of_zero_le hd.1
    have t : ∀ k : Fin 7, unitOf ((baseName (k.val : Int)).getD []) = some (k.val, 1, 1) := by decide +kernel
    have := t ⟨k, by omega⟩
    simp only [h, Option.getD_some] at this
    exact ⟨by rw [Int.toNat_natCast]; exact this, hd⟩
  · have : baseName d = none := baseName_none fun j hj => by
      have := (u_bounds j hj).2.2.2.2
      omega
    rw [this] at h
    cases h

theorem base_len (d : Int) (nm : List UInt8) (h : baseName d = some nm) : nm.length ≤ 8 := by
  obtain ⟨_, h0, h6⟩ := base_unit d nm h
  obtain ⟨k, rfl⟩ := Int.eq_ofNat_of_zero_le h0
  have t : ∀ k : Fin 7, ((baseName (k.val : Int)).getD []).length ≤ 8 := by decide +kernel
  have := t ⟨k, by omega⟩
  simp only [h, Option.getD_some] at this
  exact this
theorem ba_ext {a b : ByteArray} (h : a.data.toList = b.data.toList) : a = b := by
  apply ByteArray.ext
  exact Array.ext' h

/-- The numeral of an amount, in the base unit, is this amount. -/
theorem back_amount (n d : Int) (nm : List UInt8) (h0 : 0 ≤ n) (h1 : n ≤ 1125899906842624) (h : baseName d = some nm) :
    amountU (Lib.itoa n) nm = (n, d, 0) := by
  obtain ⟨hu, hd0, hd6⟩ := base_unit d nm h
  rw [itoa_nat n h0]
  obtain ⟨a, b, c, _⟩ := dec_all 15 n.toNat (dec_big _ (by omega))
  have hl : (Lib.decDigits n.toNat).length ≤ 20 := by have := dec_len 15 n.toNat (dec_big _ (by omega)); omega
  unfold amountU
  rw [cut_digits _ a, hu]
  have hdg : digitsB (Lib.decDigits n.toNat) 20 = true := by
    unfold digitsB
    rw [a, decide_eq_true hl]
    cases hh : Lib.decDigits n.toNat with
    | nil => exact absurd hh c
    | cons x r => rfl
  simp only [hdg]
  unfold amountM total
  rw [valueOf_digits _ a c, b]
  unfold capV
  rw [Nat.min_eq_left (by omega)]
  simp only [List.length_nil, Nat.pow_zero, Nat.mul_one, if_true, Nat.add_zero]
  rw [amountT_ok (by omega) (by omega)]
  simp only [Bool.not_true, Bool.false_and, Bool.or_self, Bool.false_eq_true, if_false]
  rw [Nat.div_one]
  congr 1
  · omega
  · congr 1
    omega
end Go.Proofs.YtooajmbpncmgjaaGreatDoor.U
namespace Go.Proofs.YtooajmbpncmgjaaGreatDoor.DivMath

/-- What one loop of Div64 keeps: q and r with A = q * yn1 + r, and the true quotient is at most q. The divisor is 2^32 * y1 + y0. -/
structure Inv (A d y1 y0 q r : Nat) : Prop where
  eq : A = q * y1 + r
  ge : (A * 4294967296 + d) / (4294967296 * y1 + y0) ≤ q
  le : q ≤ 4294967297
  rl : r < 4294967296

/-- What is known of the numbers. -/
structure Ok (A d y1 y0 : Nat) : Prop where
  hA : A < 4294967296 * y1 + y0
  hd : d < 4294967296
  lo : 2147483648 ≤ y1
  hi : y1 < 4294967296
  h0 : y0 < 4294967296

theorem mul_split (q y1 y0 : Nat) : q * (4294967296 * y1 + y0) = 4294967296 * (q * y1) + q * y0 := by
  rw [Nat.mul_add, Nat.mul_left_comm]

theorem inv_start {A d y1 y0 : Nat} (h : Ok A d y1 y0) : Inv A d y1 y0 (A / y1) (A - A / y1 * y1) := by
  obtain ⟨hA, hd, lo, hi, h0⟩ := h
  have hdm := Nat.div_add_mod A y1
  have hm := Nat.mod_lt A (show 0 < y1 by omega)
  have hcomm : A / y1 * y1 = y1 * (A / y1) := Nat.mul_comm _ _
  generalize hq : A / y1 = q at *
  generalize hr : A % y1 = r at *
  refine ⟨by omega, ?_, ?_, by omega⟩
  · have hlt : A * 4294967296 + d < (4294967296 * y1 + y0) * (q + 1) := by
      rw [Nat.mul_comm (4294967296 * y1 + y0) (q + 1), mul_split, Nat.add_mul q 1 y1, Nat.one_mul]
      have : 0 ≤ (q + 1) * y0 := Nat.zero_le _
      omega
    have hlt2 := Nat.div_lt_of_lt_mul hlt
    omega
  · have h3 : q * y1 < 4294967298 * y1 := by omega
    have := Nat.lt_of_mul_lt_mul_right h3
    omega

/-- The test of the loop: true means that q is too large. -/
theorem too_large {A d y1 y0 q r : Nat} (h : Inv A d y1 y0 q r) (k : Ok A d y1 y0)
    (ht : 4294967296 ≤ q ∨ 4294967296 * r + d < q * y0) : (A * 4294967296 + d) / (4294967296 * y1 + y0) + 1 ≤ q := by
  obtain ⟨hA, hd, lo, hi, h0⟩ := k
  obtain ⟨he, _, _, _⟩ := h
  rcases ht with ht | ht
  · have hlt : A * 4294967296 + d < (4294967296 * y1 + y0) * 4294967296 := by omega
    have := Nat.div_lt_of_lt_mul hlt
    omega
  · have hlt : A * 4294967296 + d < (4294967296 * y1 + y0) * q := by
      rw [Nat.mul_comm _ q, mul_split]
      omega
    have := Nat.div_lt_of_lt_mul hlt
    omega

/-- The test false: q is the quotient. -/
theorem exact_q {A d y1 y0 q r : Nat} (h : Inv A d y1 y0 q r) (k : Ok A d y1 y0)
    (h2 : q * y0 ≤ 4294967296 * r + d) : (A * 4294967296 + d) / (4294967296 * y1 + y0) = q := by
  obtain ⟨hA, hd, lo, hi, h0⟩ := k
  obtain ⟨he, hge, _, _⟩ := h
  have hle : q * (4294967296 * y1 + y0) ≤ A * 4294967296 + d := by
    rw [mul_split]
    omega
  have := (Nat.le_div_iff_mul_le (show 0 < 4294967296 * y1 + y0 by omega)).2 hle
  omega

/-- One step down. -/
theorem step {A d y1 y0 q r : Nat} (h : Inv A d y1 y0 q r) (k : Ok A d y1 y0)
    (ht : 4294967296 ≤ q ∨ 4294967296 * r + d < q * y0) (hr : r + y1 < 4294967296) : Inv A d y1 y0 (q - 1) (r + y1) := by
  have hl := too_large h k ht
  obtain ⟨he, _, hle, _⟩ := h
  refine ⟨?_, by omega, by omega, hr⟩
  obtain ⟨j, rfl⟩ : ∃ j, q = j + 1 := ⟨q - 1, by have := Nat.zero_le ((A * 4294967296 + d) / (4294967296 * y1 + y0)); omega⟩
  simp only [Nat.add_sub_cancel]
  rw [Nat.add_mul] at he
  omega

/-- The loop is left by its break: the step down gave the quotient. -/
theorem break_q {A d y1 y0 q r : Nat} (h : Inv A d y1 y0 q r) (k : Ok A d y1 y0)
    (ht : 4294967296 ≤ q ∨ 4294967296 * r + d < q * y0) (hr : 4294967296 ≤ r + y1) : (A * 4294967296 + d) / (4294967296 * y1 + y0) = q - 1 := by
  have hl := too_large h k ht
  obtain ⟨hA, hd, lo, hi, h0⟩ := k
  obtain ⟨he, _, hle, _⟩ := h
  obtain ⟨j, rfl⟩ : ∃ j, q = j + 1 := ⟨q - 1, by have := Nat.zero_le ((A * 4294967296 + d) / (4294967296 * y1 + y0)); omega⟩
  simp only [Nat.add_sub_cancel]
  have hk : j * (4294967296 * y1 + y0) ≤ A * 4294967296 + d := by
    have e2 : (j + 1) * y1 = j * y1 + y1 := by rw [Nat.add_mul, Nat.one_mul]
    have b : j * y0 ≤ 4294967296 * 4294967295 := Nat.mul_le_mul (by omega) (by omega)
    rw [mul_split]
    omega
  have := (Nat.le_div_iff_mul_le (show 0 < 4294967296 * y1 + y0 by omega)).2 hk
  omega

theorem q_lt {A d y1 y0 : Nat} (k : Ok A d y1 y0) : (A * 4294967296 + d) / (4294967296 * y1 + y0) < 4294967296 := by
  obtain ⟨hA, hd, lo, hi, h0⟩ := k
  exact Nat.div_lt_of_lt_mul (by omega)

/-- Two steps of Knuth's division are one division. -/
theorem two_steps (V u0 y : Nat) (hy : 0 < y) :
    (V * 4294967296 + u0) / y = V / y * 4294967296 + (V % y * 4294967296 + u0) / y ∧ (V * 4294967296 + u0) % y = (V % y * 4294967296 + u0) % y := by
  have hV := Nat.div_add_mod V y
  have e : V * 4294967296 + u0 = y * (V / y * 4294967296) + (V % y * 4294967296 + u0) := by
    have e1 : V * 4294967296 = (y * (V / y) + V % y) * 4294967296 := by rw [hV]
    rw [e1, Nat.add_mul, Nat.mul_assoc, Nat.add_assoc]
  constructor
  · rw [e, Nat.mul_add_div hy]
  · rw [e, Nat.mul_add_mod]

end Go.Proofs.YtooajmbpncmgjaaGreatDoor.DivMath
namespace Go.Proofs.YtooajmbpncmgjaaGreatDoor.L

def digitN (c : Nat) : Bool := decide (48 ≤ c) && decide (c ≤ 57)
def letterN (c : Nat) : Bool := (decide (97 ≤ c) && decide (c ≤ 122)) || (decide (65 ≤ c) && decide (c ≤ 90))
def nameN (c : Nat) : Bool := letterN c || digitN c || c == 95
def textN (c : Nat) : Bool := decide (32 ≤ c) && decide (c ≤ 126) && !(c == 34) && !(c == 92)

/-- prefix: the longest prefix whose bytes are of a class. -/
def pre (p : Nat → Bool) (s : List UInt8) : List UInt8 := s.takeWhile fun c => p c.toNat

theorem pre_all {p : Nat → Bool} : ∀ {s : List UInt8} (_ : ∀ j (h : j < s.length), p s[j].toNat = true), pre p s = s
  | [], _ => rfl
  | c :: s, h => by
    have h0 : p c.toNat = true := h 0 (by simp)
    have ih := pre_all (p := p) (s := s) (fun j hj => h (j + 1) (by simpa using hj))
    simp only [pre] at ih
    simp [pre, h0, ih]
theorem pre_at {p : Nat → Bool} : ∀ {s : List UInt8} {k : Nat} (_ : ∀ j (h : j < s.length), j < k → p s[j].toNat = true) (hk : k < s.length) (_ : p s[k].toNat = false), pre p s = s.take k
  | [], k, _, hk, _ => by simp at hk
  | c :: s, 0, _, _, h2 => by
    have : p c.toNat = false := h2
    simp [pre, this]
  | c :: s, k + 1, h1, hk, h2 => by
    have h0 : p c.toNat = true := h1 0 (by simp) (by omega)
    have ih := pre_at (p := p) (s := s) (k := k) (fun j h hj => h1 (j + 1) (by simpa using h) (by omega)) (by simpa using hk) (by simpa using h2)
    simp only [pre] at ih
    simp [pre, h0, ih]
theorem pre_len (p : Nat → Bool) (s : List UInt8) : (pre p s).length ≤ s.length := (List.takeWhile_prefix _).length_le

theorem ba_ext {a b : ByteArray} (h : a.data.toList = b.data.toList) : a = b := by
  cases a with | mk x => cases b with | mk y => cases x; cases y; simp at h; subst h; rfl
theorem ba_size (l : List UInt8) : (ByteArray.mk l.toArray).size = l.length := List.size_toArray (as := l)
theorem ba_take (s : ByteArray) (k : Nat) : s.extract 0 k = ⟨(s.data.toList.take k).toArray⟩ := ba_ext (by rw [Lib.extract_data]; simp)
theorem ba_drop (s : ByteArray) (k : Nat) : s.extract k s.size = ⟨(s.data.toList.drop k).toArray⟩ := ba_ext (by
  rw [Lib.extract_data]
  have : s.size = s.data.toList.length := by simp
  rw [this, List.take_of_length_le (by simp)])
theorem ba_mid (s : ByteArray) (i k : Nat) : s.extract i k = ⟨((s.data.toList.drop i).take (k - i)).toArray⟩ := ba_ext (Lib.extract_data s i k)

/-- The signs, in the order in which they are tried. -/
def signsL : List (List UInt8) := [[60, 61], [62, 61], [61, 61], [33, 61], [123], [125], [40], [41], [44], [59], [58], [61], [43], [45], [42], [47], [37], [60], [62]]
/-- The number at the beginning: digits, and a point with digits behind it. -/
def numberL (s : List UInt8) : List UInt8 :=
  let whole := pre digitN s
  if Lib.hasPrefix (s.drop whole.length) [46] = true then
    let part := pre digitN (s.drop (whole.length + 1))
    if part = [] then whole else s.take (whole.length + 1 + part.length)
  else whole
/-- The string at the beginning, behind its first quote; nothing: there is none. -/
def stringL (s : List UInt8) : List UInt8 :=
  let text := pre textN (s.drop 1)
  if Lib.hasPrefix (s.drop (1 + text.length)) [34] = true then s.take (text.length + 2) else []
def signL (s : List UInt8) : List UInt8 := (signsL.find? fun g => Lib.hasPrefix s g).getD []
/-- first: the kind and the bytes of the token at the beginning. -/
def firstL : List UInt8 → Nat × List UInt8
  | [] => (3, [])
  | c :: r =>
    if letterN c.toNat = true then (0, pre nameN (c :: r))
    else if digitN c.toNat = true then (1, numberL (c :: r))
    else if c = 34 then (2, stringL (c :: r))
    else (3, signL (c :: r))
def blankB (c : UInt8) : Bool := c == 32 || c == 9 || c == 13 || c == 10
/-- What is left behind white space and comments; true: inside a comment. -/
def rest : Bool → List UInt8 → List UInt8
  | _, [] => []
  | false, c :: r => if blankB c then rest false r else if c == 35 then rest true r else c :: r
  | true, c :: r => if c == 10 then rest false r else rest true r
theorem rest_len : ∀ (b : Bool) (s : List UInt8), (rest b s).length ≤ s.length
  | _, [] => by simp [rest]
  | false, c :: r => by
    have h1 := rest_len false r
    have h2 := rest_len true r
    simp only [rest]
    split
    · simp; omega
    · split
      · simp; omega
      · simp
  | true, c :: r => by
    have h1 := rest_len false r
    have h2 := rest_len true r
    simp only [rest]
    split <;> (simp; omega)
/-- space -/
def spaceL (s : List UInt8) : Nat := s.length - (rest false s).length

/-- Pieces with a space between two of them. -/
def joinSp : List (List UInt8) → List UInt8
  | [] => []
  | [g] => g
  | g :: r => g ++ 32 :: joinSp r
theorem joinSp_cons (g : List UInt8) (r : List (List UInt8)) (h : r ≠ []) : joinSp (g :: r) = g ++ 32 :: joinSp r := by
  cases r with
  | nil => exact absurd rfl h
  | cons _ _ => rfl
theorem index_app : ∀ (g X : List UInt8), (32 : UInt8) ∉ g → Lib.indexByte (g ++ 32 :: X) 32 = g.length
  | [], X, _ => by simp [Lib.indexByte]
  | c :: g, X, h => by
    have ih := index_app g X (fun h2 => h (List.mem_cons_of_mem _ h2))
    have hc : (c == 32) = false := beq_eq_false_iff_ne.2 fun h2 => h (by rw [h2]; exact List.mem_cons_self)
    simp only [List.cons_append, Lib.indexByte, hc, ih, Bool.false_eq_true, if_false]
    rw [if_neg (by simp)]
    simp
theorem index_none : ∀ (g : List UInt8), (32 : UInt8) ∉ g → Lib.indexByte g 32 = -1
  | [], _ => rfl
  | c :: g, h => by
    have ih := index_none g (fun h2 => h (List.mem_cons_of_mem _ h2))
    have hc : (c == 32) = false := beq_eq_false_iff_ne.2 fun h2 => h (by rw [h2]; exact List.mem_cons_self)
    simp only [Lib.indexByte, hc, ih, Bool.false_eq_true, if_false]
    rw [if_pos (by simp)]
theorem signs_plain : ∀ g ∈ signsL, (32 : UInt8) ∉ g := by decide
theorem signs_join : joinSp signsL = [60, 61, 32, 62, 61, 32, 61, 61, 32, 33, 61, 32, 123, 32, 125, 32, 40, 32, 41, 32, 44, 32, 59, 32, 58, 32, 61, 32, 43, 32, 45, 32, 42, 32, 47, 32, 37, 32, 60, 32, 62] := by decide
theorem signs_short : ∀ g ∈ signsL, g.length ≤ 2 := by decide
theorem joinSp_len : ∀ (l : List (List UInt8)), (∀ g ∈ l, g.length ≤ 2) → (joinSp l).length ≤ 3 * l.length
  | [], _ => by simp [joinSp]
  | [g], h => by have := h g (by simp); simp [joinSp]; omega
  | g :: x :: r, h => by
    have h1 := h g (by simp)
    have ih := joinSp_len (x :: r) (fun y hy => h y (List.mem_cons_of_mem _ hy))
    rw [joinSp_cons g _ (by simp)]
    simp at ih ⊢
    omega
end Go.Proofs.YtooajmbpncmgjaaGreatDoor.L
namespace Go.Proofs.YtooajmbpncmgjaaGreatDoor.L

theorem index_cases : ∀ (l : List UInt8) (c : UInt8), (Lib.indexByte l c = -1 ∧ c ∉ l) ∨ ∃ a b, l = a ++ c :: b ∧ c ∉ a ∧ Lib.indexByte l c = (a.length : Int)
  | [], c => .inl ⟨rfl, by simp⟩
  | x :: l, c => by
    by_cases hx : x = c
    · subst hx
      exact .inr ⟨[], l, rfl, by simp, by simp [Lib.indexByte]⟩
    · have hb : (x == c) = false := beq_eq_false_iff_ne.2 hx
      rcases index_cases l c with ⟨h1, h2⟩ | ⟨a, b, rfl, h2, h3⟩
      · exact .inl ⟨by simp [Lib.indexByte, hb, h1], fun h => by rcases List.mem_cons.1 h with h | h; exact hx h.symm; exact h2 h⟩
      · refine .inr ⟨x :: a, b, rfl, fun h => by rcases List.mem_cons.1 h with h | h; exact hx h.symm; exact h2 h, ?_⟩
        simp only [Lib.indexByte, hb, h3, Bool.false_eq_true, if_false]
        rw [if_neg (by simp)]
        simp

theorem rest_true_no : ∀ (l : List UInt8), (10 : UInt8) ∉ l → rest true l = []
  | [], _ => rfl
  | c :: r, h => by
    have hc : (c == 10) = false := beq_eq_false_iff_ne.2 fun h2 => h (by rw [h2]; exact List.mem_cons_self)
    simp only [rest, hc, Bool.false_eq_true, if_false]
    exact rest_true_no r (fun h2 => h (List.mem_cons_of_mem _ h2))
theorem rest_true_app : ∀ (a b : List UInt8), (10 : UInt8) ∉ a → rest true (a ++ 10 :: b) = rest false (10 :: b)
  | [], b, _ => by simp [rest, blankB]
  | c :: a, b, h => by
    have hc : (c == 10) = false := beq_eq_false_iff_ne.2 fun h2 => h (by rw [h2]; exact List.mem_cons_self)
    simp only [List.cons_append, rest, hc, Bool.false_eq_true, if_false]
    exact rest_true_app a b (fun h2 => h (List.mem_cons_of_mem _ h2))

def blanks : List UInt8 := [32, 9, 13, 10]
theorem blank_iff (c : UInt8) : blanks.contains c = blankB c := by
  rw [Bool.eq_iff_iff]
  simp [blanks, blankB, or_assoc]
theorem rest_trim : ∀ (l : List UInt8), rest false (Lib.trimLeftS l blanks) = rest false l
  | [] => rfl
  | c :: r => by
    unfold Lib.trimLeftS
    rw [List.dropWhile_cons]
    rw [blank_iff]
    cases h : blankB c
    · rfl
    · simp only [if_true]
      have ih := rest_trim r
      unfold Lib.trimLeftS at ih
      rw [ih]
      simp only [rest, h, if_true]
theorem trim_head (l : List UInt8) : Lib.trimLeftS l blanks = [] ∨ ∃ c r, Lib.trimLeftS l blanks = c :: r ∧ blankB c = false := by
  induction l with
  | nil => exact .inl rfl
  | cons c r ih =>
    unfold Lib.trimLeftS at ih ⊢
    rw [List.dropWhile_cons, blank_iff]
    cases h : blankB c
    · exact .inr ⟨c, r, rfl, h⟩
    · exact ih
theorem trim_len (l cs : List UInt8) : (Lib.trimLeftS l cs).length ≤ l.length := List.Sublist.length_le (List.dropWhile_sublist _)

/-- Behind the blanks stands no '#': all is skipped. -/
theorem rest_done (l : List UInt8) (h : Lib.hasPrefix (Lib.trimLeftS l blanks) [35] = false) : rest false l = Lib.trimLeftS l blanks := by
  rw [← rest_trim]
  rcases trim_head l with h1 | ⟨c, r, h1, h2⟩
  · rw [h1]; rfl
  · rw [h1] at h ⊢
    have hc : (c == 35) = false := by
      cases hc : c == 35
      · rfl
      · have : c = 35 := by simpa using hc
        subst this
        simp [Lib.hasPrefix] at h
    simp only [rest, h2, hc, Bool.false_eq_true, if_false]
theorem prefix_hash (l : List UInt8) (h : Lib.hasPrefix l [35] = true) : ∃ r, l = 35 :: r := by
  obtain ⟨r, hr⟩ := List.isPrefixOf_iff_prefix.1 h
  exact ⟨r, hr.symm⟩
/-- A comment without an end. -/
theorem rest_open (l : List UInt8) (h : Lib.hasPrefix (Lib.trimLeftS l blanks) [35] = true) (hi : (10 : UInt8) ∉ Lib.trimLeftS l blanks) : rest false l = [] := by
  rw [← rest_trim]
  obtain ⟨r, hr⟩ := prefix_hash _ h
  rw [hr] at hi ⊢
  have : rest false (35 :: r) = rest true r := by simp [rest, blankB]
  rw [this]
  exact rest_true_no r (fun h2 => hi (List.mem_cons_of_mem _ h2))
/-- A comment with an end. -/
theorem rest_comment (l a b : List UInt8) (h : Lib.hasPrefix (Lib.trimLeftS l blanks) [35] = true) (hi : Lib.trimLeftS l blanks = a ++ 10 :: b) (ha : (10 : UInt8) ∉ a) : rest false l = rest false (10 :: b) ∧ 0 < a.length := by
  rw [← rest_trim, hi]
  rw [hi] at h
  obtain ⟨r, hr⟩ := prefix_hash _ h
  cases a with
  | nil => simp at hr
  | cons x a =>
    simp at hr
    obtain ⟨rfl, hr⟩ := hr
    have : rest false (35 :: a ++ 10 :: b) = rest true (a ++ 10 :: b) := by simp [rest, blankB]
    rw [this]
    exact ⟨rest_true_app a b (fun h2 => ha (List.mem_cons_of_mem _ h2)), by simp⟩
end Go.Proofs.YtooajmbpncmgjaaGreatDoor.L
namespace Go.Proofs.YtooajmbpncmgjaaGreatDoor.L

/-- A token: its kind (0 name, 1 number, 2 string, 3 sign, 4 end), its text, its offset. -/
structure Tok where
  kind : Nat
  text : List UInt8
  pos : Nat

def mostL (k : Nat) : Nat := if k = 2 then 502 else 24
def okL (x : Nat × List UInt8) : Bool := !x.2.isEmpty && decide (x.2.length ≤ mostL x.1)
def textOf (x : Nat × List UInt8) : List UInt8 := if x.1 = 2 ∧ x.2 ≠ [] then (x.2.drop 1).take (x.2.length - 1 - 1) else x.2
def mkTok (x : Nat × List UInt8) (pos : Nat) : Tok := ⟨x.1, textOf x, pos⟩

/-- The tokens of what is left (r begins with a token, or is empty), and what is no token. -/
def toksR : Nat → Nat → List UInt8 → List Tok × Option Tok
  | 0, _, _ => ([], none)
  | f + 1, pos, r =>
    if r = [] then ([], none)
    else
      let x := firstL r
      if okL x = true then
        let r1 := r.drop x.2.length
        let q := toksR f (pos + x.2.length + spaceL r1) (rest false r1)
        (mkTok x pos :: q.1, q.2)
      else ([], some (mkTok x pos))

theorem toksR_nil (f pos : Nat) : toksR f pos [] = ([], none) := by cases f <;> simp [toksR]
theorem toksR_bad (f pos : Nat) (r : List UInt8) (hr : r ≠ []) (x : Nat × List UInt8) (hx : firstL r = x) (ho : okL x = false) : toksR (f + 1) pos r = ([], some (mkTok x pos)) := by
  simp [toksR, hr, hx, ho]
theorem toksR_step (f pos : Nat) (r : List UInt8) (hr : r ≠ []) (x : Nat × List UInt8) (hx : firstL r = x) (ho : okL x = true) :
    toksR (f + 1) pos r = (mkTok x pos :: (toksR f (pos + x.2.length + spaceL (r.drop x.2.length)) (rest false (r.drop x.2.length))).1, (toksR f (pos + x.2.length + spaceL (r.drop x.2.length)) (rest false (r.drop x.2.length))).2) := by
  simp [toksR, hr, hx, ho]

/-- The tokens of a source; none: it holds no more of them. -/
def scanL (s : List UInt8) : List Tok × Option Tok := toksR (s.length + 1) (spaceL s) (rest false s)

theorem rest_suffix : ∀ (b : Bool) (s : List UInt8), ∃ k, k ≤ s.length ∧ rest b s = s.drop k
  | _, [] => ⟨0, by simp, by simp [rest]⟩
  | false, c :: r => by
    simp only [rest]
    split
    · obtain ⟨k, h1, h2⟩ := rest_suffix false r
      exact ⟨k + 1, by simp; omega, by rw [h2]; rfl⟩
    · split
      · obtain ⟨k, h1, h2⟩ := rest_suffix true r
        exact ⟨k + 1, by simp; omega, by rw [h2]; rfl⟩
      · exact ⟨0, by simp, rfl⟩
  | true, c :: r => by
    simp only [rest]
    split
    · obtain ⟨k, h1, h2⟩ := rest_suffix false r
      exact ⟨k + 1, by simp; omega, by rw [h2]; rfl⟩
    · obtain ⟨k, h1, h2⟩ := rest_suffix true r
      exact ⟨k + 1, by simp; omega, by rw [h2]; rfl⟩
theorem rest_drop (s : List UInt8) : rest false s = s.drop (spaceL s) ∧ spaceL s ≤ s.length := by
  obtain ⟨k, h1, h2⟩ := rest_suffix false s
  have : spaceL s = k := by unfold spaceL; rw [h2]; simp; omega
  rw [this]
  exact ⟨h2, h1⟩

theorem numberL_len (s : List UInt8) : (numberL s).length ≤ s.length := by
  unfold numberL
  have := pre_len digitN s
  dsimp only
  split
  · split
    · omega
    · simp; omega
  · omega
theorem stringL_len (s : List UInt8) : (stringL s).length ≤ s.length := by
  unfold stringL
  dsimp only
  split
  · simp; omega
  · simp
theorem signL_cases (s : List UInt8) : signL s = [] ∨ (signL s ∈ signsL ∧ Lib.hasPrefix s (signL s) = true) := by
  unfold signL
  cases h : signsL.find? fun g => Lib.hasPrefix s g with
  | none => exact .inl rfl
  | some g => exact .inr ⟨List.mem_of_find?_eq_some h, by simpa using List.find?_some h⟩
theorem signL_len (s : List UInt8) : (signL s).length ≤ s.length := by
  rcases signL_cases s with h | ⟨_, h⟩
  · rw [h]; simp
  · exact (List.isPrefixOf_iff_prefix.1 h).length_le
theorem firstL_len : ∀ (s : List UInt8), (firstL s).2.length ≤ s.length
  | [] => by simp [firstL]
  | c :: r => by
    simp only [firstL]
    split
    · exact pre_len _ _
    · split
      · exact numberL_len _
      · split
        · exact stringL_len _
        · exact signL_len _
theorem firstL_kind : ∀ (s : List UInt8), (firstL s).1 ≤ 3
  | [] => by simp [firstL]
  | c :: r => by
    simp only [firstL]
    split
    · simp
    · split
      · simp
      · split <;> simp
theorem string_two : ∀ (s tx : List UInt8), firstL s = (2, tx) → tx ≠ [] → 2 ≤ tx.length
  | [], tx, h, _ => by simp [firstL] at h
  | c :: r, tx, h, hn => by
    simp only [firstL] at h
    split at h
    · simp at h
    · split at h
      · simp at h
      · split at h
        · have h2 : stringL (c :: r) = tx := by simpa using h
          rw [← h2] at hn ⊢
          unfold stringL at hn ⊢
          dsimp only at hn ⊢
          split
          · rename_i hp
            have := (List.isPrefixOf_iff_prefix.1 hp).length_le
            simp at this
            simp
            omega
          · rename_i hp
            rw [if_neg hp] at hn
            exact absurd rfl hn
        · simp at h
end Go.Proofs.YtooajmbpncmgjaaGreatDoor.L
namespace Go.Proofs.YtooajmbpncmgjaaGreatDoor.Tr
open L (Tok)

/-- A node: its kind, its text, its amount (a number and a dimension), its offset, its kids. -/
structure Tree where
  kind : Int
  text : List UInt8
  num : Int
  dim : Int
  pos : Int
  kids : List Tree

/-- The parser's answer: an error and its offset, or a value and the tokens that are left. -/
abbrev Res (α : Type) := Except (Nat × Nat) (α × List Tok)

def signB (t : Tok) (s : List UInt8) : Bool := t.kind == 3 && t.text == s
def known (name : List UInt8) : Bool := (U.amountU [48] name).2.2 != 6
def hd (ts : List Tok) : Tok := ts.headD ⟨4, [], 0⟩

def skipP (s : List UInt8) (ts : List Tok) : Except (Nat × Nat) (List Tok) :=
  if signB (hd ts) s then .ok ts.tail else .error (2, (hd ts).pos)
def takeP (k : Nat) (ts : List Tok) : Res Tok :=
  if (hd ts).kind == k then .ok (hd ts, ts.tail) else .error (2, (hd ts).pos)
def leafP (ts : List Tok) : Option (Tree × List Tok) :=
  if (hd ts).kind == 0 then some (⟨3, (hd ts).text, 0, 0, (hd ts).pos, []⟩, ts.tail)
  else if (hd ts).kind == 2 then some (⟨4, (hd ts).text, 0, 0, (hd ts).pos, []⟩, ts.tail)
  else none
/-- The name behind a number, if it is a unit, and what is left. -/
def unitP (ts : List Tok) : List UInt8 × List Tok :=
  if (hd ts).kind == 0 && known (hd ts).text then ((hd ts).text, ts.tail) else ([], ts)
def amountP (ts : List Tok) : Res Tree :=
  if (hd ts).kind == 1 then
    let u := unitP ts.tail
    let a := U.amountU (hd ts).text u.1
    if a.2.2 == 0 then .ok (⟨5, [], a.1, a.2.1, (hd ts).pos, []⟩, u.2) else .error (7, (hd ts).pos)
  else .error (2, (hd ts).pos)

/-- The values of a group, each behind a sign: '(' ahead of the first, ',' ahead of the others; g: at most so many. -/
def groupL (val : List Tok → Res Tree) : Nat → List UInt8 → List Tok → Res (List Tree)
  | 0, _, ts => .error (0, (hd ts).pos)
  | g + 1, s, ts =>
    match skipP s ts with
    | .error e => .error e
    | .ok ts =>
      match val ts with
      | .error e => .error e
      | .ok (v, ts) =>
        if signB (hd ts) [41] then .ok ([v], ts)
        else
          match groupL val g [44] ts with
          | .error e => .error e
          | .ok (l, ts) => .ok (v :: l, ts)
/-- A value that lies in 40 - f groups. -/
def valueP : Nat → List Tok → Res Tree
  | 0, ts =>
    if signB (hd ts) [40] then .error (8, (hd ts).pos)
    else match leafP ts with
      | some r => .ok r
      | none => amountP ts
  | f + 1, ts =>
    if signB (hd ts) [40] then
      match groupL (valueP f) (ts.length + 1) [40] ts with
      | .error e => .error e
      | .ok (l, r) =>
        match skipP [41] r with
        | .error e => .error e
        | .ok r => .ok (⟨6, [], 0, 0, (hd ts).pos, l⟩, r)
    else match leafP ts with
      | some r => .ok r
      | none => amountP ts
/-- Values or properties up to a sign. -/
def untilL (val : List Tok → Res Tree) (s : List UInt8) : Nat → List Tok → Res (List Tree)
  | 0, ts => .error (0, (hd ts).pos)
  | g + 1, ts =>
    if signB (hd ts) s then .ok ([], ts)
    else match val ts with
      | .error e => .error e
      | .ok (v, ts) =>
        match untilL val s g ts with
        | .error e => .error e
        | .ok (l, ts) => .ok (v :: l, ts)
def propP (ts : List Tok) : Res Tree :=
  match takeP 0 ts with
  | .error e => .error e
  | .ok (t, r) =>
    match untilL (valueP 40) [59] (r.length + 1) r with
    | .error e => .error e
    | .ok (l, r) =>
      match skipP [59] r with
      | .error e => .error e
      | .ok r => .ok (⟨2, t.text, 0, 0, t.pos, l⟩, r)
/-- The words of a declaration. -/
def wordsL : Nat → List Tok → List Tree × List Tok
  | 0, ts => ([], ts)
  | g + 1, ts =>
    match leafP ts with
    | some (v, r) => (v :: (wordsL g r).1, (wordsL g r).2)
    | none => ([], ts)
def declP (ts : List Tok) : Res Tree :=
  match takeP 0 ts with
  | .error e => .error e
  | .ok (t, r) =>
    let w := wordsL (r.length + 1) r
    match skipP [123] w.2 with
    | .error e => .error e
    | .ok r =>
      match untilL propP [125] (r.length + 1) r with
      | .error e => .error e
      | .ok (l, r) =>
        match skipP [125] r with
        | .error e => .error e
        | .ok r => .ok (⟨1, t.text, 0, 0, t.pos, w.1 ++ l⟩, r)
def fileL : Nat → List Tok → Except (Nat × Nat) (List Tree)
  | 0, ts => .error (0, (hd ts).pos)
  | g + 1, ts =>
    if (hd ts).kind == 4 then .ok []
    else match declP ts with
      | .error e => .error e
      | .ok (v, ts) =>
        match fileL g ts with
        | .error e => .error e
        | .ok l => .ok (v :: l)
def zero : Tree := ⟨0, [], 0, 0, 0, []⟩
/-- Parse: the tree, the error, its offset. -/
def parseP (l : List Tok) : Tree × Nat × Nat :=
  match fileL (l.length + 1) l with
  | .error (e, p) => (zero, e, p)
  | .ok l => (⟨0, [], 0, 0, 0, l⟩, 0, 0)
end Go.Proofs.YtooajmbpncmgjaaGreatDoor.Tr
namespace Go.Proofs.YtooajmbpncmgjaaGreatDoor.Tr
open L (Tok)

def Shrinks {α : Type} (P : List Tok → Res α) : Prop := ∀ ts v r, P ts = .ok (v, r) → r.length < ts.length

theorem hd_ne (ts : List Tok) (h : (hd ts).kind ≠ 4) : ts.tail.length < ts.length := by
  cases ts with
  | nil => exact absurd rfl h
  | cons t r => simp
theorem sign_ne (ts : List Tok) (s : List UInt8) (h : signB (hd ts) s = true) : ts.tail.length < ts.length :=
  hd_ne ts (by simp [signB] at h; omega)
theorem skip_len (s : List UInt8) (ts r : List Tok) (h : skipP s ts = .ok r) : r.length < ts.length := by
  unfold skipP at h
  split at h
  · rename_i hs
    injection h with h
    subst h
    exact sign_ne ts s hs
  · cases h
theorem take_len (k : Nat) (hk : k ≠ 4) : Shrinks (takeP k) := fun ts v r h => by
  unfold takeP at h
  split at h
  · rename_i hs
    injection h with h
    injection h with h1 h2
    subst h2
    exact hd_ne ts (by simp at hs; omega)
  · cases h
theorem leaf_len (ts r : List Tok) (t : Tree) (h : leafP ts = some (t, r)) : r.length < ts.length := by
  unfold leafP at h
  split at h
  · rename_i hs
    injection h with h
    injection h with h1 h2
    subst h2
    exact hd_ne ts (by simp at hs; omega)
  · split at h
    · rename_i hs
      injection h with h
      injection h with h1 h2
      subst h2
      exact hd_ne ts (by simp at hs; omega)
    · cases h
theorem unit_len (ts : List Tok) : (unitP ts).2.length ≤ ts.length := by
  unfold unitP
  split
  · simp
  · simp
theorem amount_len : Shrinks amountP := fun ts v r h => by
  unfold amountP at h
  split at h
  · rename_i hs
    dsimp only at h
    split at h
    · injection h with h
      injection h with h1 h2
      subst h2
      have h3 := hd_ne ts (by simp at hs; omega)
      have h4 := unit_len ts.tail
      omega
    · cases h
  · cases h
theorem group_len (val : List Tok → Res Tree) (hv : Shrinks val) : ∀ (g : Nat) (s : List UInt8), Shrinks (groupL val g s)
  | 0, s => fun ts v r h => by simp [groupL] at h
  | g + 1, s => fun ts v r h => by
    unfold groupL at h
    split at h
    · cases h
    · rename_i t1 h1
      have l1 := skip_len _ _ _ h1
      split at h
      · cases h
      · rename_i v2 t2 h2
        have l2 := hv _ _ _ h2
        split at h
        · injection h with h
          injection h with h3 h4
          subst h4
          omega
        · split at h
          · cases h
          · rename_i l5 t5 h5
            have := group_len val hv g [44] _ _ _ h5
            injection h with h
            injection h with h3 h4
            subst h4
            omega
theorem value_rest (ts : List Tok) (v : Tree) (r : List Tok) (h : (match leafP ts with
      | some r => (Except.ok r : Res Tree)
      | none => amountP ts) = .ok (v, r)) : r.length < ts.length := by
  cases hl : leafP ts with
  | some x =>
    rw [hl] at h
    obtain ⟨a, b⟩ := x
    injection h with h
    injection h with h1 h2
    subst h2
    exact leaf_len _ _ _ hl
  | none =>
    rw [hl] at h
    exact amount_len _ _ _ h
theorem value_len : ∀ (f : Nat), Shrinks (valueP f)
  | 0 => fun ts v r h => by
    unfold valueP at h
    split at h
    · cases h
    · exact value_rest ts v r h
  | f + 1 => fun ts v r h => by
    unfold valueP at h
    split at h
    · split at h
      · cases h
      · rename_i l1 t1 h1
        have l1 := group_len _ (value_len f) _ _ _ _ _ h1
        split at h
        · cases h
        · rename_i t2 h2
          have l2 := skip_len _ _ _ h2
          injection h with h
          injection h with h3 h4
          subst h4
          omega
    · exact value_rest ts v r h
theorem until_len (val : List Tok → Res Tree) (hv : Shrinks val) (s : List UInt8) : ∀ (g : Nat) ts v r, untilL val s g ts = .ok (v, r) → r.length ≤ ts.length
  | 0, ts, v, r, h => by simp [untilL] at h
  | g + 1, ts, v, r, h => by
    unfold untilL at h
    split at h
    · injection h with h
      injection h with h1 h2
      subst h2
      omega
    · split at h
      · cases h
      · rename_i v1 t1 h1
        have l1 := hv _ _ _ h1
        split at h
        · cases h
        · rename_i v2 t2 h2
          have := until_len val hv s g _ _ _ h2
          injection h with h
          injection h with h3 h4
          subst h4
          omega
theorem prop_len : Shrinks propP := fun ts v r h => by
  unfold propP at h
  split at h
  · cases h
  · rename_i t1 r1 h1
    have l1 := take_len 0 (by decide) _ _ _ h1
    split at h
    · cases h
    · rename_i l2 r2 h2
      have l2 := until_len _ (value_len 40) _ _ _ _ _ h2
      split at h
      · cases h
      · rename_i r3 h3
        have l3 := skip_len _ _ _ h3
        injection h with h
        injection h with h4 h5
        subst h5
        omega

/-- untilL, part of the way: l has been collected, the parser stands at kk. -/
def UntilAt (val : List Tok → Res Tree) (s : List UInt8) (T : List Tok) (k1 kk : Nat) (l : List Tree) : Prop :=
  ∃ g, (T.drop kk).length < g ∧ untilL val s ((T.drop k1).length + 1) (T.drop k1) = (match untilL val s g (T.drop kk) with | .error e => .error e | .ok (l', ts) => .ok (l ++ l', ts))
theorem until_start (val : List Tok → Res Tree) (s : List UInt8) (T : List Tok) (k1 : Nat) : UntilAt val s T k1 k1 [] :=
  ⟨_, Nat.lt_succ_self _, by cases untilL val s ((T.drop k1).length + 1) (T.drop k1) with | error e => rfl | ok x => rfl⟩
theorem until_end {val : List Tok → Res Tree} {s : List UInt8} {T : List Tok} {k1 kk : Nat} {l : List Tree} (h : UntilAt val s T k1 kk l) (hs : signB (hd (T.drop kk)) s = true) : untilL val s ((T.drop k1).length + 1) (T.drop k1) = .ok (l, T.drop kk) := by
  obtain ⟨g, hg, h⟩ := h
  cases g with
  | zero => omega
  | succ g => rw [h, untilL, if_pos hs]; simp
theorem until_bad {val : List Tok → Res Tree} {s : List UInt8} {T : List Tok} {k1 kk : Nat} {l : List Tree} (h : UntilAt val s T k1 kk l) (hs : signB (hd (T.drop kk)) s = false) {e : Nat × Nat} (hv : val (T.drop kk) = .error e) : untilL val s ((T.drop k1).length + 1) (T.drop k1) = .error e := by
  obtain ⟨g, hg, h⟩ := h
  cases g with
  | zero => omega
  | succ g => rw [h, untilL, if_neg (by rw [hs]; simp), hv]
theorem until_step {val : List Tok → Res Tree} {s : List UInt8} {T : List Tok} {k1 kk k2 : Nat} {l : List Tree} (h : UntilAt val s T k1 kk l) (hs : signB (hd (T.drop kk)) s = false) {v : Tree} (hv : val (T.drop kk) = .ok (v, T.drop k2)) (hl : (T.drop k2).length < (T.drop kk).length) : UntilAt val s T k1 k2 (l ++ [v]) := by
  obtain ⟨g, hg, h⟩ := h
  cases g with
  | zero => omega
  | succ g =>
    refine ⟨g, by omega, ?_⟩
    rw [h, untilL, if_neg (by rw [hs]; simp), hv]
    dsimp only
    cases untilL val s g (T.drop k2) with
    | error e => rfl
    | ok x => simp

/-- groupL, part of the way: l has been collected, the parser stands at kk ahead of the sign s. -/
def GroupAt (val : List Tok → Res Tree) (T : List Tok) (k1 kk : Nat) (s : List UInt8) (l : List Tree) : Prop :=
  ∃ g, (T.drop kk).length < g ∧ groupL val ((T.drop k1).length + 1) [40] (T.drop k1) = (match groupL val g s (T.drop kk) with | .error e => .error e | .ok (l', ts) => .ok (l ++ l', ts))
theorem group_start (val : List Tok → Res Tree) (T : List Tok) (k1 : Nat) : GroupAt val T k1 k1 [40] [] :=
  ⟨_, Nat.lt_succ_self _, by cases groupL val ((T.drop k1).length + 1) [40] (T.drop k1) with | error e => rfl | ok x => rfl⟩
theorem group_sign {val : List Tok → Res Tree} {T : List Tok} {k1 kk : Nat} {s : List UInt8} {l : List Tree} (h : GroupAt val T k1 kk s l) (hs : signB (hd (T.drop kk)) s = false) : groupL val ((T.drop k1).length + 1) [40] (T.drop k1) = .error (2, (hd (T.drop kk)).pos) := by
  obtain ⟨g, hg, h⟩ := h
  cases g with
  | zero => omega
  | succ g => rw [h, groupL, skipP, if_neg (by rw [hs]; simp)]
theorem group_bad {val : List Tok → Res Tree} {T : List Tok} {k1 kk : Nat} {s : List UInt8} {l : List Tree} (h : GroupAt val T k1 kk s l) (hs : signB (hd (T.drop kk)) s = true) {e : Nat × Nat} (hv : val (T.drop (kk + 1)) = .error e) : groupL val ((T.drop k1).length + 1) [40] (T.drop k1) = .error e := by
  obtain ⟨g, hg, h⟩ := h
  cases g with
  | zero => omega
  | succ g =>
    rw [h, groupL, skipP, if_pos hs]
    dsimp only
    rw [show (T.drop kk).tail = T.drop (kk + 1) by simp, hv]
theorem group_last {val : List Tok → Res Tree} {T : List Tok} {k1 kk k2 : Nat} {s : List UInt8} {l : List Tree} (h : GroupAt val T k1 kk s l) (hs : signB (hd (T.drop kk)) s = true) {v : Tree} (hv : val (T.drop (kk + 1)) = .ok (v, T.drop k2)) (he : signB (hd (T.drop k2)) [41] = true) : groupL val ((T.drop k1).length + 1) [40] (T.drop k1) = .ok (l ++ [v], T.drop k2) := by
  obtain ⟨g, hg, h⟩ := h
  cases g with
  | zero => omega
  | succ g =>
    rw [h, groupL, skipP, if_pos hs]
    dsimp only
    rw [show (T.drop kk).tail = T.drop (kk + 1) by simp, hv]
    dsimp only
    rw [if_pos he]
theorem group_step {val : List Tok → Res Tree} {T : List Tok} {k1 kk k2 : Nat} {s : List UInt8} {l : List Tree} (h : GroupAt val T k1 kk s l) (hs : signB (hd (T.drop kk)) s = true) {v : Tree} (hv : val (T.drop (kk + 1)) = .ok (v, T.drop k2)) (he : signB (hd (T.drop k2)) [41] = false) (hl : (T.drop k2).length < (T.drop kk).length) : GroupAt val T k1 k2 [44] (l ++ [v]) := by
  obtain ⟨g, hg, h⟩ := h
  cases g with
  | zero => omega
  | succ g =>
    refine ⟨g, by omega, ?_⟩
    rw [h, groupL, skipP, if_pos hs]
    dsimp only
    rw [show (T.drop kk).tail = T.drop (kk + 1) by simp, hv]
    dsimp only
    rw [if_neg (by rw [he]; simp)]
    cases groupL val g [44] (T.drop k2) with
    | error e => rfl
    | ok x => simp

/-- wordsL, part of the way. -/
def WordsAt (T : List Tok) (k1 kk : Nat) (l : List Tree) : Prop :=
  ∃ g, (T.drop kk).length < g ∧ wordsL ((T.drop k1).length + 1) (T.drop k1) = (l ++ (wordsL g (T.drop kk)).1, (wordsL g (T.drop kk)).2)
theorem words_start (T : List Tok) (k1 : Nat) : WordsAt T k1 k1 [] := ⟨_, Nat.lt_succ_self _, by simp⟩
theorem words_end {T : List Tok} {k1 kk : Nat} {l : List Tree} (h : WordsAt T k1 kk l) (hn : leafP (T.drop kk) = none) : wordsL ((T.drop k1).length + 1) (T.drop k1) = (l, T.drop kk) := by
  obtain ⟨g, hg, h⟩ := h
  cases g with
  | zero => omega
  | succ g => rw [h, wordsL, hn]; simp
theorem words_step {T : List Tok} {k1 kk k2 : Nat} {l : List Tree} (h : WordsAt T k1 kk l) {v : Tree} (hn : leafP (T.drop kk) = some (v, T.drop k2)) (hl : (T.drop k2).length < (T.drop kk).length) : WordsAt T k1 k2 (l ++ [v]) := by
  obtain ⟨g, hg, h⟩ := h
  cases g with
  | zero => omega
  | succ g =>
    refine ⟨g, by omega, ?_⟩
    rw [h, wordsL, hn]
    simp
theorem words_len : ∀ (g : Nat) (ts : List Tok), (wordsL g ts).2.length ≤ ts.length
  | 0, ts => by simp [wordsL]
  | g + 1, ts => by
    unfold wordsL
    split
    · rename_i v r h
      have h1 := leaf_len _ _ _ h
      have h2 := words_len g r
      dsimp only
      omega
    · simp
theorem decl_len : Shrinks declP := fun ts v r h => by
  unfold declP at h
  split at h
  · cases h
  · rename_i t1 r1 h1
    have l1 := take_len 0 (by decide) _ _ _ h1
    have lw := words_len (r1.length + 1) r1
    dsimp only at h
    split at h
    · cases h
    · rename_i r2 h2
      have l2 := skip_len _ _ _ h2
      split at h
      · cases h
      · rename_i l3 r3 h3
        have l3 := until_len _ prop_len _ _ _ _ _ h3
        split at h
        · cases h
        · rename_i r4 h4
          have l4 := skip_len _ _ _ h4
          injection h with h
          injection h with h5 h6
          subst h6
          omega
end Go.Proofs.YtooajmbpncmgjaaGreatDoor.Tr
namespace Go.Proofs.YtooajmbpncmgjaaGreatDoor.Tr
open L (Tok)

mutual
/-- A tree without its offsets. -/
def bare : Tree → Tree
  | ⟨k, x, n, d, _, l⟩ => ⟨k, x, n, d, 0, bareL l⟩
def bareL : List Tree → List Tree
  | [] => []
  | t :: r => bare t :: bareL r
end
theorem bareL_map (l : List Tree) : bareL l = l.map bare := by
  induction l with
  | nil => simp [bareL]
  | cons t r ih => simp [bareL, ih]
theorem bareL_app (a b : List Tree) : bareL (a ++ b) = bareL a ++ bareL b := by simp [bareL_map]
theorem bare_eq (t : Tree) : bare t = ⟨t.kind, t.text, t.num, t.dim, 0, bareL t.kids⟩ := by cases t; simp [bare]

def flat (t : Tok) : Tok := ⟨t.kind, t.text, 0⟩
def flatR : Res Tree → Res Tree
  | .error e => .error (e.1, 0)
  | .ok x => .ok (bare x.1, x.2.map flat)
def flatL : Res (List Tree) → Res (List Tree)
  | .error e => .error (e.1, 0)
  | .ok x => .ok (bareL x.1, x.2.map flat)

theorem hd_flat (ts : List Tok) : hd (ts.map flat) = flat (hd ts) := by cases ts <;> rfl
theorem tail_flat (ts : List Tok) : (ts.map flat).tail = ts.tail.map flat := by cases ts <;> rfl
theorem sign_flat (t : Tok) (s : List UInt8) : signB (flat t) s = signB t s := rfl
theorem skip_flat (s : List UInt8) (ts : List Tok) : skipP s (ts.map flat) = (match skipP s ts with | .error e => .error (e.1, 0) | .ok r => .ok (r.map flat)) := by
  unfold skipP
  rw [hd_flat, tail_flat, sign_flat]
  split <;> rfl
theorem take_flat (k : Nat) (ts : List Tok) : takeP k (ts.map flat) = (match takeP k ts with | .error e => .error (e.1, 0) | .ok x => .ok (flat x.1, x.2.map flat)) := by
  unfold takeP
  rw [hd_flat, tail_flat, show (flat (hd ts)).kind = (hd ts).kind from rfl]
  split <;> rfl
theorem leaf_flat (ts : List Tok) : leafP (ts.map flat) = (leafP ts).map fun x => (bare x.1, x.2.map flat) := by
  unfold leafP
  rw [hd_flat, tail_flat, show (flat (hd ts)).kind = (hd ts).kind from rfl, show (flat (hd ts)).text = (hd ts).text from rfl, show (flat (hd ts)).pos = 0 from rfl]
  split
  · simp [bare, bareL]
  · split
    · simp [bare, bareL]
    · rfl
theorem unit_flat (ts : List Tok) : unitP (ts.map flat) = ((unitP ts).1, (unitP ts).2.map flat) := by
  unfold unitP
  rw [hd_flat, tail_flat, show (flat (hd ts)).kind = (hd ts).kind from rfl, show (flat (hd ts)).text = (hd ts).text from rfl]
  split <;> rfl
theorem amount_flat (ts : List Tok) : amountP (ts.map flat) = flatR (amountP ts) := by
  unfold amountP
  rw [hd_flat, tail_flat, unit_flat, show (flat (hd ts)).kind = (hd ts).kind from rfl, show (flat (hd ts)).text = (hd ts).text from rfl, show (flat (hd ts)).pos = 0 from rfl]
  dsimp only
  split
  · split
    · simp [flatR, bare, bareL]
    · rfl
  · rfl
theorem group_flat (val : List Tok → Res Tree) (hv : ∀ ts, val (ts.map flat) = flatR (val ts)) : ∀ (g : Nat) (s : List UInt8) (ts : List Tok), groupL val g s (ts.map flat) = flatL (groupL val g s ts)
  | 0, s, ts => by simp only [groupL, flatL, hd_flat]; rfl
  | g + 1, s, ts => by
    unfold groupL
    rw [skip_flat]
    cases skipP s ts with
    | error e => rfl
    | ok r =>
      dsimp only
      rw [hv]
      cases val r with
      | error e => rfl
      | ok x =>
        obtain ⟨v, r2⟩ := x
        simp only [flatR]
        rw [hd_flat, sign_flat]
        by_cases hs : signB (hd r2) [41] = true
        · rw [if_pos hs, if_pos hs]; simp [flatL, bareL]
        · rw [if_neg hs, if_neg hs, group_flat val hv g [44] r2]
          cases groupL val g [44] r2 with
          | error e => rfl
          | ok y => simp [flatL, bareL]
theorem rest_flat (ts : List Tok) : (match leafP (ts.map flat) with | some r => (Except.ok r : Res Tree) | none => amountP (ts.map flat)) = flatR (match leafP ts with | some r => (Except.ok r : Res Tree) | none => amountP ts) := by
  rw [leaf_flat]
  cases leafP ts with
  | some x => rfl
  | none => exact amount_flat ts
theorem value_flat : ∀ (f : Nat) (ts : List Tok), valueP f (ts.map flat) = flatR (valueP f ts)
  | 0, ts => by
    unfold valueP
    rw [hd_flat, sign_flat]
    split
    · rfl
    · exact rest_flat ts
  | f + 1, ts => by
    unfold valueP
    rw [hd_flat, sign_flat, List.length_map]
    split
    · rw [group_flat _ (value_flat f)]
      cases groupL (valueP f) (ts.length + 1) [40] ts with
      | error e => rfl
      | ok x =>
        simp only [flatL]
        rw [skip_flat]
        cases skipP [41] x.2 with
        | error e => rfl
        | ok r => simp [flatR, bare, flat]
    · exact rest_flat ts
theorem until_flat (val : List Tok → Res Tree) (hv : ∀ ts, val (ts.map flat) = flatR (val ts)) (s : List UInt8) : ∀ (g : Nat) (ts : List Tok), untilL val s g (ts.map flat) = flatL (untilL val s g ts)
  | 0, ts => by simp only [untilL, flatL, hd_flat]; rfl
  | g + 1, ts => by
    unfold untilL
    rw [hd_flat, sign_flat]
    split
    · simp [flatL, bareL]
    · rw [hv]
      cases val ts with
      | error e => rfl
      | ok x =>
        simp only [flatR]
        rw [until_flat val hv s g x.2]
        cases untilL val s g x.2 with
        | error e => rfl
        | ok y => simp [flatL, bareL]
theorem prop_flat (ts : List Tok) : propP (ts.map flat) = flatR (propP ts) := by
  unfold propP
  rw [take_flat]
  cases takeP 0 ts with
  | error e => rfl
  | ok x =>
    dsimp only
    rw [List.length_map, until_flat _ (value_flat 40)]
    cases untilL (valueP 40) [59] (x.2.length + 1) x.2 with
    | error e => rfl
    | ok y =>
      simp only [flatL]
      rw [skip_flat]
      cases skipP [59] y.2 with
      | error e => rfl
      | ok r => simp [flatR, bare, flat]
theorem words_flat : ∀ (g : Nat) (ts : List Tok), wordsL g (ts.map flat) = (bareL (wordsL g ts).1, (wordsL g ts).2.map flat)
  | 0, ts => by simp [wordsL, bareL]
  | g + 1, ts => by
    unfold wordsL
    rw [leaf_flat]
    cases leafP ts with
    | none => simp [bareL]
    | some x =>
      obtain ⟨v, r⟩ := x
      simp only [Option.map_some]
      rw [words_flat g r]
      simp [bareL]
theorem decl_flat (ts : List Tok) : declP (ts.map flat) = flatR (declP ts) := by
  unfold declP
  rw [take_flat]
  cases takeP 0 ts with
  | error e => rfl
  | ok x =>
    dsimp only
    rw [List.length_map, words_flat, skip_flat]
    cases skipP [123] (wordsL (x.2.length + 1) x.2).2 with
    | error e => rfl
    | ok r =>
      dsimp only
      rw [List.length_map, until_flat _ prop_flat]
      cases untilL propP [125] (r.length + 1) r with
      | error e => rfl
      | ok y =>
        simp only [flatL]
        rw [skip_flat]
        cases skipP [125] y.2 with
        | error e => rfl
        | ok r => simp [flatR, bare, flat, bareL_app]
theorem file_flat : ∀ (g : Nat) (ts : List Tok), fileL g (ts.map flat) = (match fileL g ts with | .error e => .error (e.1, 0) | .ok l => .ok (bareL l))
  | 0, ts => by simp only [fileL, hd_flat]; rfl
  | g + 1, ts => by
    unfold fileL
    rw [hd_flat, show (flat (hd ts)).kind = (hd ts).kind from rfl]
    split
    · simp [bareL]
    · rw [decl_flat]
      cases declP ts with
      | error e => rfl
      | ok x =>
        simp only [flatR]
        rw [file_flat g x.2]
        cases fileL g x.2 with
        | error e => rfl
        | ok l => simp [bareL]
theorem parse_flat (l : List Tok) : parseP (l.map flat) = (bare (parseP l).1, (parseP l).2.1, 0) := by
  unfold parseP
  rw [List.length_map, file_flat]
  cases fileL (l.length + 1) l with
  | error e => simp [zero, bare, bareL]
  | ok l => simp [bare]
end Go.Proofs.YtooajmbpncmgjaaGreatDoor.Tr
namespace Go.Proofs.YtooajmbpncmgjaaGreatDoor.Tr
open L (Tok)

inductive NT where
  | val (f : Nat)
  | grp (f : Nat)
  | vals
  | prop
  | props
  | words
  | decl
  | file

/-- From tokens to trees and what is left of the tokens. -/
inductive G : NT → List Tok → List Tree → List Tok → Prop where
  | word (f : Nat) (t : Tok) (r : List Tok) (h : t.kind = 0) : G (.val f) (t :: r) [⟨3, t.text, 0, 0, t.pos, []⟩] r
  | text (f : Nat) (t : Tok) (r : List Tok) (h : t.kind = 2) : G (.val f) (t :: r) [⟨4, t.text, 0, 0, t.pos, []⟩] r
  | amount (f : Nat) (t : Tok) (r : List Tok) (n d : Int) (h : t.kind = 1) (ha : U.amountU t.text (unitP r).1 = (n, d, 0)) : G (.val f) (t :: r) [⟨5, [], n, d, t.pos, []⟩] (unitP r).2
  | group (f : Nat) (t c : Tok) (r r' : List Tok) (l : List Tree) (h : signB t [40] = true) (hl : G (.grp f) r l (c :: r')) (hc : signB c [41] = true) : G (.val (f + 1)) (t :: r) [⟨6, [], 0, 0, t.pos, l⟩] r'
  | one (f : Nat) (ts r : List Tok) (v : Tree) (h : G (.val f) ts [v] r) : G (.grp f) ts [v] r
  | comma (f : Nat) (ts r r' : List Tok) (c : Tok) (v : Tree) (l : List Tree) (h : G (.val f) ts [v] (c :: r)) (hc : signB c [44] = true) (hl : G (.grp f) r l r') : G (.grp f) ts (v :: l) r'
  | vnil (ts : List Tok) : G .vals ts [] ts
  | vcons (ts r r' : List Tok) (v : Tree) (l : List Tree) (h : G (.val 40) ts [v] r) (hl : G .vals r l r') : G .vals ts (v :: l) r'
  | prop (t c : Tok) (r r' : List Tok) (l : List Tree) (h : t.kind = 0) (hl : G .vals r l (c :: r')) (hc : signB c [59] = true) : G .prop (t :: r) [⟨2, t.text, 0, 0, t.pos, l⟩] r'
  | pnil (ts : List Tok) : G .props ts [] ts
  | pcons (ts r r' : List Tok) (v : Tree) (l : List Tree) (h : G .prop ts [v] r) (hl : G .props r l r') : G .props ts (v :: l) r'
  | wnil (ts : List Tok) : G .words ts [] ts
  | wcons (t : Tok) (r r' : List Tok) (k : Int) (l : List Tree) (h : t.kind = 0 ∧ k = 3 ∨ t.kind = 2 ∧ k = 4) (hl : G .words r l r') : G .words (t :: r) (⟨k, t.text, 0, 0, t.pos, []⟩ :: l) r'
  | decl (t c e : Tok) (r r1 r2 : List Tok) (l1 l2 : List Tree) (h : t.kind = 0) (hw : G .words r l1 (c :: r1)) (hc : signB c [123] = true) (hp : G .props r1 l2 (e :: r2)) (he : signB e [125] = true) : G .decl (t :: r) [⟨1, t.text, 0, 0, t.pos, l1 ++ l2⟩] r2
  | fnil (ts : List Tok) (h : (hd ts).kind = 4) : G .file ts [] ts
  | fcons (ts r r' : List Tok) (v : Tree) (l : List Tree) (h : G .decl ts [v] r) (hl : G .file r l r') : G .file ts (v :: l) r'

theorem hd_kind {ts : List Tok} {k : Nat} (h : (hd ts).kind = k) (hk : k ≠ 4) : ∃ r, ts = hd ts :: r ∧ ts.tail = r := by
  cases ts with
  | nil => exact absurd h.symm hk
  | cons t r => exact ⟨r, rfl, rfl⟩
theorem hd_sign {ts : List Tok} {s : List UInt8} (h : signB (hd ts) s = true) : ∃ r, ts = hd ts :: r ∧ ts.tail = r :=
  hd_kind (k := 3) (by unfold signB at h; simp at h; exact h.1) (by decide)
theorem skip_ok {s : List UInt8} {ts r : List Tok} (h : skipP s ts = .ok r) : ∃ c, ts = c :: r ∧ signB c s = true := by
  unfold skipP at h
  split at h
  · rename_i hs
    obtain ⟨q, h1, h2⟩ := hd_sign hs
    injection h with h
    exact ⟨hd ts, by rw [← h, h2]; exact h1, hs⟩
  · cases h
theorem take_ok {k : Nat} (hk : k ≠ 4) {ts r : List Tok} {t : Tok} (h : takeP k ts = .ok (t, r)) : ts = t :: r ∧ t.kind = k := by
  unfold takeP at h
  split at h
  · rename_i hs
    have hs : (hd ts).kind = k := by simpa using hs
    obtain ⟨q, h1, h2⟩ := hd_kind hs hk
    injection h with h
    injection h with h3 h4
    subst h3
    exact ⟨by rw [← h4, h2]; exact h1, hs⟩
  · cases h
theorem leaf_ok {ts r : List Tok} {v : Tree} (h : leafP ts = some (v, r)) : ∃ (t : Tok) (k : Int), ts = t :: r ∧ v = ⟨k, t.text, 0, 0, t.pos, []⟩ ∧ (t.kind = 0 ∧ k = 3 ∨ t.kind = 2 ∧ k = 4) := by
  unfold leafP at h
  split at h
  · rename_i hs
    have hs : (hd ts).kind = 0 := by simpa using hs
    obtain ⟨q, h1, h2⟩ := hd_kind hs (by decide)
    injection h with h
    injection h with h3 h4
    exact ⟨hd ts, 3, by rw [← h4, h2]; exact h1, h3.symm, .inl ⟨hs, rfl⟩⟩
  · split at h
    · rename_i hs
      have hs : (hd ts).kind = 2 := by simpa using hs
      obtain ⟨q, h1, h2⟩ := hd_kind hs (by decide)
      injection h with h
      injection h with h3 h4
      exact ⟨hd ts, 4, by rw [← h4, h2]; exact h1, h3.symm, .inr ⟨hs, rfl⟩⟩
    · cases h
theorem leaf_val {f : Nat} {ts r : List Tok} {v : Tree} (h : leafP ts = some (v, r)) : G (.val f) ts [v] r := by
  obtain ⟨t, k, rfl, rfl, h | h⟩ := leaf_ok h
  · rw [h.2]; exact G.word f t r h.1
  · rw [h.2]; exact G.text f t r h.1
theorem amount_ok {f : Nat} {ts r : List Tok} {v : Tree} (h : amountP ts = .ok (v, r)) : G (.val f) ts [v] r := by
  unfold amountP at h
  split at h
  · rename_i hs
    have hs : (hd ts).kind = 1 := by simpa using hs
    obtain ⟨q, h1, h2⟩ := hd_kind hs (by decide)
    dsimp only at h
    rw [h2] at h
    split at h
    · rename_i ha
      injection h with h
      injection h with h3 h4
      rw [h1, ← h3, ← h4]
      have ha : (U.amountU (hd ts).text (unitP q).1).2.2 = 0 := by simpa using ha
      exact G.amount f (hd ts) q _ _ hs (Prod.ext rfl (Prod.ext rfl ha))
    · cases h
  · cases h
theorem rest_ok {f : Nat} {ts r : List Tok} {v : Tree} (h : (match leafP ts with | some r => (Except.ok r : Res Tree) | none => amountP ts) = .ok (v, r)) : G (.val f) ts [v] r := by
  cases hl : leafP ts with
  | some x =>
    rw [hl] at h
    injection h with h
    rw [h] at hl
    exact leaf_val hl
  | none =>
    rw [hl] at h
    exact amount_ok h
theorem group_ok {f : Nat} {val : List Tok → Res Tree} (hv : ∀ ts v r, val ts = .ok (v, r) → G (.val f) ts [v] r) : ∀ (g : Nat) (s : List UInt8) (ts r : List Tok) (l : List Tree), groupL val g s ts = .ok (l, r) → skipP [41] r ≠ .error (2, (hd r).pos) → ∃ c q, ts = c :: q ∧ signB c s = true ∧ G (.grp f) q l r
  | 0, s, ts, r, l, h, _ => by simp [groupL] at h
  | g + 1, s, ts, r, l, h, hr => by
    unfold groupL at h
    cases hs : skipP s ts with
    | error e => rw [hs] at h; cases h
    | ok q =>
      rw [hs] at h
      dsimp only at h
      obtain ⟨c, rfl, hc⟩ := skip_ok hs
      refine ⟨c, q, rfl, hc, ?_⟩
      cases h1 : val q with
      | error e => rw [h1] at h; cases h
      | ok x =>
        obtain ⟨v, q2⟩ := x
        rw [h1] at h
        dsimp only at h
        split at h
        · injection h with h
          injection h with h2 h3
          subst h2
          subst h3
          exact G.one f _ _ _ (hv _ _ _ h1)
        · cases h2 : groupL val g [44] q2 with
          | error e => rw [h2] at h; cases h
          | ok y =>
            obtain ⟨l2, q3⟩ := y
            rw [h2] at h
            injection h with h
            injection h with h3 h4
            subst h3
            subst h4
            obtain ⟨c2, q4, rfl, hc2, hl⟩ := group_ok hv g [44] q2 q3 l2 h2 hr
            exact G.comma f _ _ _ c2 v l2 (hv _ _ _ h1) hc2 hl
theorem value_ok : ∀ (f : Nat) (ts : List Tok) (v : Tree) (r : List Tok), valueP f ts = .ok (v, r) → G (.val f) ts [v] r
  | 0, ts, v, r, h => by
    unfold valueP at h
    split at h
    · cases h
    · exact rest_ok h
  | f + 1, ts, v, r, h => by
    unfold valueP at h
    split at h
    · cases h1 : groupL (valueP f) (ts.length + 1) [40] ts with
      | error e => rw [h1] at h; cases h
      | ok x =>
        obtain ⟨l, q⟩ := x
        rw [h1] at h
        dsimp only at h
        cases h2 : skipP [41] q with
        | error e => rw [h2] at h; cases h
        | ok q2 =>
          rw [h2] at h
          injection h with h
          injection h with h3 h4
          subst h4
          obtain ⟨c, q3, rfl, hc, hl⟩ := group_ok (value_ok f) _ _ _ _ _ h1 (by rw [h2]; exact fun e => by cases e)
          obtain ⟨c2, rfl, hc2⟩ := skip_ok h2
          rw [← h3]
          exact G.group f c c2 _ _ l hc hl hc2
    · exact rest_ok h
theorem vals_ok (s : List UInt8) : ∀ (g : Nat) (ts r : List Tok) (l : List Tree), untilL (valueP 40) s g ts = .ok (l, r) → G .vals ts l r
  | 0, ts, r, l, h => by simp [untilL] at h
  | g + 1, ts, r, l, h => by
    unfold untilL at h
    split at h
    · injection h with h
      injection h with h1 h2
      subst h1
      subst h2
      exact G.vnil _
    · cases h1 : valueP 40 ts with
      | error e => rw [h1] at h; cases h
      | ok x =>
        obtain ⟨v, q⟩ := x
        rw [h1] at h
        dsimp only at h
        cases h2 : untilL (valueP 40) s g q with
        | error e => rw [h2] at h; cases h
        | ok y =>
          obtain ⟨l2, q2⟩ := y
          rw [h2] at h
          injection h with h
          injection h with h3 h4
          subst h3
          subst h4
          exact G.vcons _ _ _ v l2 (value_ok 40 _ _ _ h1) (vals_ok s g _ _ _ h2)
theorem prop_ok {ts r : List Tok} {v : Tree} (h : propP ts = .ok (v, r)) : G .prop ts [v] r := by
  unfold propP at h
  cases h1 : takeP 0 ts with
  | error e => rw [h1] at h; cases h
  | ok x =>
    obtain ⟨t, q⟩ := x
    rw [h1] at h
    dsimp only at h
    obtain ⟨rfl, ht⟩ := take_ok (by decide) h1
    cases h2 : untilL (valueP 40) [59] (q.length + 1) q with
    | error e => rw [h2] at h; cases h
    | ok y =>
      obtain ⟨l, q2⟩ := y
      rw [h2] at h
      dsimp only at h
      cases h3 : skipP [59] q2 with
      | error e => rw [h3] at h; cases h
      | ok q3 =>
        rw [h3] at h
        injection h with h
        injection h with h4 h5
        subst h4
        subst h5
        obtain ⟨c, rfl, hc⟩ := skip_ok h3
        exact G.prop t c _ _ l ht (vals_ok _ _ _ _ _ h2) hc
theorem props_ok (s : List UInt8) : ∀ (g : Nat) (ts r : List Tok) (l : List Tree), untilL propP s g ts = .ok (l, r) → G .props ts l r
  | 0, ts, r, l, h => by simp [untilL] at h
  | g + 1, ts, r, l, h => by
    unfold untilL at h
    split at h
    · injection h with h
      injection h with h1 h2
      subst h1
      subst h2
      exact G.pnil _
    · cases h1 : propP ts with
      | error e => rw [h1] at h; cases h
      | ok x =>
        obtain ⟨v, q⟩ := x
        rw [h1] at h
        dsimp only at h
        cases h2 : untilL propP s g q with
        | error e => rw [h2] at h; cases h
        | ok y =>
          obtain ⟨l2, q2⟩ := y
          rw [h2] at h
          injection h with h
          injection h with h3 h4
          subst h3
          subst h4
          exact G.pcons _ _ _ v l2 (prop_ok h1) (props_ok s g _ _ _ h2)
theorem words_ok : ∀ (g : Nat) (ts : List Tok), G .words ts (wordsL g ts).1 (wordsL g ts).2
  | 0, ts => by unfold wordsL; exact G.wnil _
  | g + 1, ts => by
    unfold wordsL
    cases h : leafP ts with
    | none => exact G.wnil _
    | some x =>
      obtain ⟨v, r⟩ := x
      obtain ⟨t, k, rfl, rfl, hk⟩ := leaf_ok h
      exact G.wcons t r _ k _ hk (words_ok g r)
theorem decl_ok {ts r : List Tok} {v : Tree} (h : declP ts = .ok (v, r)) : G .decl ts [v] r := by
  unfold declP at h
  cases h1 : takeP 0 ts with
  | error e => rw [h1] at h; cases h
  | ok x =>
    obtain ⟨t, q⟩ := x
    rw [h1] at h
    dsimp only at h
    obtain ⟨rfl, ht⟩ := take_ok (by decide) h1
    have hw := words_ok (q.length + 1) q
    generalize wordsL (q.length + 1) q = wq at h hw
    obtain ⟨l1, q1⟩ := wq
    dsimp only at h hw
    cases h2 : skipP [123] q1 with
    | error e => rw [h2] at h; cases h
    | ok q2 =>
      rw [h2] at h
      dsimp only at h
      obtain ⟨c, rfl, hc⟩ := skip_ok h2
      cases h3 : untilL propP [125] (q2.length + 1) q2 with
      | error e => rw [h3] at h; cases h
      | ok y =>
        obtain ⟨l2, q3⟩ := y
        rw [h3] at h
        dsimp only at h
        cases h4 : skipP [125] q3 with
        | error e => rw [h4] at h; cases h
        | ok q4 =>
          rw [h4] at h
          injection h with h
          injection h with h5 h6
          subst h5
          subst h6
          obtain ⟨e, rfl, he⟩ := skip_ok h4
          exact G.decl t c e _ _ _ l1 l2 ht hw hc (props_ok _ _ _ _ _ h3) he
theorem file_ok : ∀ (g : Nat) (ts : List Tok) (l : List Tree), fileL g ts = .ok l → ∃ r, G .file ts l r
  | 0, ts, l, h => by simp [fileL] at h
  | g + 1, ts, l, h => by
    unfold fileL at h
    split at h
    · rename_i hk
      injection h with h
      subst h
      exact ⟨_, G.fnil _ (by simpa using hk)⟩
    · cases h1 : declP ts with
      | error e => rw [h1] at h; cases h
      | ok x =>
        obtain ⟨v, q⟩ := x
        rw [h1] at h
        dsimp only at h
        cases h2 : fileL g q with
        | error e => rw [h2] at h; cases h
        | ok l2 =>
          rw [h2] at h
          injection h with h
          subst h
          obtain ⟨r, hr⟩ := file_ok g q l2 h2
          exact ⟨r, G.fcons _ _ _ v l2 (decl_ok h1) hr⟩
/-- What Parse returns without an error. -/
theorem parse_ok {T : List Tok} (h : (parseP T).2.1 = 0) (hT : ∀ e, fileL (T.length + 1) T = .error e → e.1 ≠ 0) : ∃ l r, parseP T = (⟨0, [], 0, 0, 0, l⟩, 0, 0) ∧ G .file T l r := by
  unfold parseP at h ⊢
  cases h1 : fileL (T.length + 1) T with
  | error e => rw [h1] at h; exact absurd h (hT e h1)
  | ok l =>
    obtain ⟨r, hr⟩ := file_ok _ _ _ h1
    exact ⟨l, r, rfl, hr⟩
/-- What is left of the tokens is an end of them. -/
theorem G.suffix {n : NT} {ts r : List Tok} {l : List Tree} (h : G n ts l r) : r <:+ ts := by
  induction h with
  | word => exact List.suffix_cons _ _
  | text => exact List.suffix_cons _ _
  | amount f t r =>
    refine List.IsSuffix.trans ?_ (List.suffix_cons t r)
    unfold unitP
    split
    · exact List.tail_suffix r
    · exact List.suffix_rfl
  | group f t c r r' l h hl hc ih => exact ((List.suffix_cons _ _).trans ih).trans (List.suffix_cons _ _)
  | one _ _ _ _ _ ih => exact ih
  | comma f ts r r' c v l h hc hl ih1 ih2 => exact ih2.trans ((List.suffix_cons _ _).trans ih1)
  | vnil => exact List.suffix_rfl
  | vcons _ _ _ _ _ _ _ ih1 ih2 => exact ih2.trans ih1
  | prop t c r r' l h hl hc ih => exact ((List.suffix_cons _ _).trans ih).trans (List.suffix_cons _ _)
  | pnil => exact List.suffix_rfl
  | pcons _ _ _ _ _ _ _ ih1 ih2 => exact ih2.trans ih1
  | wnil => exact List.suffix_rfl
  | wcons _ _ _ _ _ _ _ ih => exact ih.trans (List.suffix_cons _ _)
  | decl t c e r r1 r2 l1 l2 h hw hc hp he ih1 ih2 => exact (((List.suffix_cons _ _).trans ih2).trans ((List.suffix_cons _ _).trans ih1)).trans (List.suffix_cons _ _)
  | fnil => exact List.suffix_rfl
  | fcons _ _ _ _ _ _ _ ih1 ih2 => exact ih2.trans ih1
end Go.Proofs.YtooajmbpncmgjaaGreatDoor.Tr
namespace Go.Proofs.YtooajmbpncmgjaaGreatDoor.Tr
open L (Tok)

/-- Tokens of which the last one alone is the end. -/
def Ended (ts : List Tok) : Prop := ∃ a z, ts = a ++ [z] ∧ z.kind = 4 ∧ ∀ t ∈ a, t.kind ≠ 4
theorem ended_tail {t : Tok} {r : List Tok} (h : Ended (t :: r)) (ht : t.kind ≠ 4) : Ended r := by
  obtain ⟨a, z, h1, h2, h3⟩ := h
  cases a with
  | nil =>
    simp at h1
    rw [h1.1] at ht
    exact absurd h2 ht
  | cons c a =>
    simp at h1
    exact ⟨a, z, h1.2, h2, fun x hx => h3 x (by simp [hx])⟩
theorem ended_ne {ts : List Tok} (h : Ended ts) : ts = hd ts :: ts.tail := by
  obtain ⟨a, z, rfl, _⟩ := h
  cases a <;> rfl
theorem sign_kind {t : Tok} {s : List UInt8} (h : signB t s = true) : t.kind = 3 := by unfold signB at h; simp at h; exact h.1
theorem unit_ended {r : List Tok} (h : Ended r) : Ended (unitP r).2 := by
  unfold unitP
  split
  · rename_i hk
    simp at hk
    rw [ended_ne h] at h
    exact ended_tail h (by omega)
  · exact h
theorem G.ended {n : NT} {ts r : List Tok} {l : List Tree} (h : G n ts l r) : Ended ts → Ended r := by
  induction h with
  | word f t r h => exact fun e => ended_tail e (by omega)
  | text f t r h => exact fun e => ended_tail e (by omega)
  | amount f t r n d h => exact fun e => unit_ended (ended_tail e (by omega))
  | group f t c r r' l h hl hc ih =>
    have h1 := sign_kind h
    have h2 := sign_kind hc
    exact fun e => ended_tail (ih (ended_tail e (by omega))) (by omega)
  | one _ _ _ _ _ ih => exact ih
  | comma f ts r r' c v l h hc hl ih1 ih2 =>
    have h2 := sign_kind hc
    exact fun e => ih2 (ended_tail (ih1 e) (by omega))
  | vnil => exact id
  | vcons _ _ _ _ _ _ _ ih1 ih2 => exact fun e => ih2 (ih1 e)
  | prop t c r r' l h hl hc ih =>
    have h2 := sign_kind hc
    exact fun e => ended_tail (ih (ended_tail e (by omega))) (by omega)
  | pnil => exact id
  | pcons _ _ _ _ _ _ _ ih1 ih2 => exact fun e => ih2 (ih1 e)
  | wnil => exact id
  | wcons _ _ _ _ _ h _ ih => exact fun e => ih (ended_tail e (by omega))
  | decl t c e r r1 r2 l1 l2 h hw hc hp he ih1 ih2 =>
    have h1 := sign_kind hc
    have h2 := sign_kind he
    exact fun x => ended_tail (ih2 (ended_tail (ih1 (ended_tail x (by omega))) (by omega))) (by omega)
  | fnil => exact id
  | fcons _ _ _ _ _ _ _ ih1 ih2 => exact fun e => ih2 (ih1 e)

/-- An error's number and place. -/
def Bad (ts : List Tok) (e : Nat × Nat) : Prop := (e.1 = 2 ∨ e.1 = 7 ∨ e.1 = 8) ∧ ∃ t ∈ ts, e.2 = t.pos
theorem Bad.of {ts r : List Tok} {e : Nat × Nat} (h : Bad r e) (hs : r <:+ ts) : Bad ts e := by
  obtain ⟨h1, t, h2, h3⟩ := h
  exact ⟨h1, t, hs.subset h2, h3⟩
theorem hd_mem {ts : List Tok} (h : Ended ts) : hd ts ∈ ts := by
  have := ended_ne h
  rw [this]
  exact List.mem_cons_self
theorem skip_err {s : List UInt8} {ts : List Tok} {e : Nat × Nat} (hE : Ended ts) (h : skipP s ts = .error e) : Bad ts e := by
  unfold skipP at h
  split at h
  · cases h
  · injection h with h; subst h; exact ⟨.inl rfl, _, hd_mem hE, rfl⟩
theorem take_err {k : Nat} {ts : List Tok} {e : Nat × Nat} (hE : Ended ts) (h : takeP k ts = .error e) : Bad ts e := by
  unfold takeP at h
  split at h
  · cases h
  · injection h with h; subst h; exact ⟨.inl rfl, _, hd_mem hE, rfl⟩
theorem amount_err {ts : List Tok} {e : Nat × Nat} (hE : Ended ts) (h : amountP ts = .error e) : Bad ts e := by
  unfold amountP at h
  split at h
  · dsimp only at h
    split at h
    · cases h
    · injection h with h; subst h; exact ⟨.inr (.inl rfl), _, hd_mem hE, rfl⟩
  · injection h with h; subst h; exact ⟨.inl rfl, _, hd_mem hE, rfl⟩
theorem rest_err {ts : List Tok} {e : Nat × Nat} (hE : Ended ts) (h : (match leafP ts with | some r => (Except.ok r : Res Tree) | none => amountP ts) = .error e) : Bad ts e := by
  cases hl : leafP ts with
  | some x => rw [hl] at h; cases h
  | none => rw [hl] at h; exact amount_err hE h
theorem skip_ended {s : List UInt8} {ts r : List Tok} (hE : Ended ts) (h : skipP s ts = .ok r) : Ended r ∧ r <:+ ts ∧ r.length < ts.length := by
  obtain ⟨c, rfl, hc⟩ := skip_ok h
  exact ⟨ended_tail hE (by have := sign_kind hc; omega), List.suffix_cons _ _, by simp⟩
theorem group_err {f : Nat} {val : List Tok → Res Tree} (hv : ∀ ts e, Ended ts → val ts = .error e → Bad ts e) (hg : ∀ ts v r, val ts = .ok (v, r) → G (.val f) ts [v] r) (hs : Shrinks val) : ∀ (g : Nat) (s : List UInt8) (ts : List Tok) (e : Nat × Nat), ts.length < g → Ended ts → groupL val g s ts = .error e → Bad ts e
  | 0, s, ts, e, hl, _, _ => by omega
  | g + 1, s, ts, e, hl, hE, h => by
    unfold groupL at h
    cases h1 : skipP s ts with
    | error x => rw [h1] at h; injection h with h; subst h; exact skip_err hE h1
    | ok q =>
      rw [h1] at h
      dsimp only at h
      obtain ⟨a1, a2, a3⟩ := skip_ended hE h1
      cases h2 : val q with
      | error x => rw [h2] at h; injection h with h; subst h; exact (hv _ _ a1 h2).of a2
      | ok x =>
        obtain ⟨v, q2⟩ := x
        rw [h2] at h
        dsimp only at h
        have b1 := (hg _ _ _ h2).ended a1
        have b2 := (hg _ _ _ h2).suffix
        have b3 := hs _ _ _ h2
        split at h
        · cases h
        · cases h3 : groupL val g [44] q2 with
          | error x => rw [h3] at h; injection h with h; subst h; exact (group_err hv hg hs g [44] q2 _ (by omega) b1 h3).of (b2.trans a2)
          | ok y => rw [h3] at h; cases h
theorem group_end {f : Nat} {val : List Tok → Res Tree} (hg : ∀ ts v r, val ts = .ok (v, r) → G (.val f) ts [v] r) : ∀ (g : Nat) (s : List UInt8) (ts r : List Tok) (l : List Tree), Ended ts → groupL val g s ts = .ok (l, r) → Ended r ∧ r <:+ ts
  | 0, s, ts, r, l, _, h => by simp [groupL] at h
  | g + 1, s, ts, r, l, hE, h => by
    unfold groupL at h
    cases h1 : skipP s ts with
    | error x => rw [h1] at h; cases h
    | ok q =>
      rw [h1] at h
      dsimp only at h
      obtain ⟨a1, a2, a3⟩ := skip_ended hE h1
      cases h2 : val q with
      | error x => rw [h2] at h; cases h
      | ok x =>
        obtain ⟨v, q2⟩ := x
        rw [h2] at h
        dsimp only at h
        have b1 := (hg _ _ _ h2).ended a1
        have b2 := (hg _ _ _ h2).suffix
        split at h
        · injection h with h
          injection h with h3 h4
          subst h4
          exact ⟨b1, b2.trans a2⟩
        · cases h3 : groupL val g [44] q2 with
          | error x => rw [h3] at h; cases h
          | ok y =>
            rw [h3] at h
            injection h with h
            injection h with h4 h5
            subst h5
            obtain ⟨c1, c2⟩ := group_end hg g [44] q2 _ _ b1 h3
            exact ⟨c1, c2.trans (b2.trans a2)⟩
theorem value_err : ∀ (f : Nat) (ts : List Tok) (e : Nat × Nat), Ended ts → valueP f ts = .error e → Bad ts e
  | 0, ts, e, hE, h => by
    unfold valueP at h
    split at h
    · injection h with h; subst h; exact ⟨.inr (.inr rfl), _, hd_mem hE, rfl⟩
    · exact rest_err hE h
  | f + 1, ts, e, hE, h => by
    unfold valueP at h
    split at h
    · cases h1 : groupL (valueP f) (ts.length + 1) [40] ts with
      | error x => rw [h1] at h; injection h with h; subst h; exact group_err (value_err f) (value_ok f) (value_len f) _ _ _ _ (Nat.lt_succ_self _) hE h1
      | ok x =>
        obtain ⟨l, q⟩ := x
        rw [h1] at h
        dsimp only at h
        obtain ⟨a1, a2⟩ := group_end (value_ok f) _ _ _ _ _ hE h1
        cases h2 : skipP [41] q with
        | error x => rw [h2] at h; injection h with h; subst h; exact (skip_err a1 h2).of a2
        | ok q2 => rw [h2] at h; cases h
    · exact rest_err hE h
theorem until_err {val : List Tok → Res Tree} {n : NT} (hv : ∀ ts e, Ended ts → val ts = .error e → Bad ts e) (hg : ∀ ts v r, val ts = .ok (v, r) → G n ts [v] r) (hs : Shrinks val) (s : List UInt8) : ∀ (g : Nat) (ts : List Tok) (e : Nat × Nat), ts.length < g → Ended ts → untilL val s g ts = .error e → Bad ts e
  | 0, ts, e, hl, _, _ => by omega
  | g + 1, ts, e, hl, hE, h => by
    unfold untilL at h
    split at h
    · cases h
    · cases h1 : val ts with
      | error x => rw [h1] at h; injection h with h; subst h; exact hv _ _ hE h1
      | ok x =>
        obtain ⟨v, q⟩ := x
        rw [h1] at h
        dsimp only at h
        have b1 := (hg _ _ _ h1).ended hE
        have b2 := (hg _ _ _ h1).suffix
        have b3 := hs _ _ _ h1
        cases h3 : untilL val s g q with
        | error x => rw [h3] at h; injection h with h; subst h; exact (until_err hv hg hs s g q _ (by omega) b1 h3).of b2
        | ok y => rw [h3] at h; cases h
theorem prop_err (ts : List Tok) (e : Nat × Nat) (hE : Ended ts) (h : propP ts = .error e) : Bad ts e := by
  unfold propP at h
  cases h1 : takeP 0 ts with
  | error x => rw [h1] at h; injection h with h; subst h; exact take_err hE h1
  | ok x =>
    obtain ⟨t, q⟩ := x
    rw [h1] at h
    dsimp only at h
    obtain ⟨rfl, ht⟩ := take_ok (by decide) h1
    have a1 := ended_tail hE (by omega)
    cases h2 : untilL (valueP 40) [59] (q.length + 1) q with
    | error x => rw [h2] at h; injection h with h; subst h; exact (until_err (value_err 40) (value_ok 40) (value_len 40) _ _ _ _ (Nat.lt_succ_self _) a1 h2).of (List.suffix_cons _ _)
    | ok y =>
      rw [h2] at h
      dsimp only at h
      have b := vals_ok _ _ _ _ _ h2
      cases h3 : skipP [59] y.2 with
      | error x => rw [h3] at h; injection h with h; subst h; exact (skip_err (b.ended a1) h3).of (b.suffix.trans (List.suffix_cons _ _))
      | ok q3 => rw [h3] at h; cases h
theorem decl_err (ts : List Tok) (e : Nat × Nat) (hE : Ended ts) (h : declP ts = .error e) : Bad ts e := by
  unfold declP at h
  cases h1 : takeP 0 ts with
  | error x => rw [h1] at h; injection h with h; subst h; exact take_err hE h1
  | ok x =>
    obtain ⟨t, q⟩ := x
    rw [h1] at h
    dsimp only at h
    obtain ⟨rfl, ht⟩ := take_ok (by decide) h1
    have a1 := ended_tail hE (by omega)
    have hw := words_ok (q.length + 1) q
    generalize wordsL (q.length + 1) q = wq at h hw
    obtain ⟨l1, q1⟩ := wq
    dsimp only at h hw
    have b1 := hw.ended a1
    have b2 := hw.suffix.trans (List.suffix_cons t _)
    cases h2 : skipP [123] q1 with
    | error x => rw [h2] at h; injection h with h; subst h; exact (skip_err b1 h2).of b2
    | ok q2 =>
      rw [h2] at h
      dsimp only at h
      obtain ⟨c1, c2, c3⟩ := skip_ended b1 h2
      cases h3 : untilL propP [125] (q2.length + 1) q2 with
      | error x => rw [h3] at h; injection h with h; subst h; exact (until_err (n := .prop) prop_err (fun _ _ _ => prop_ok) prop_len _ _ _ _ (Nat.lt_succ_self _) c1 h3).of (c2.trans b2)
      | ok y =>
        rw [h3] at h
        dsimp only at h
        have d := props_ok _ _ _ _ _ h3
        cases h4 : skipP [125] y.2 with
        | error x => rw [h4] at h; injection h with h; subst h; exact (skip_err (d.ended c1) h4).of (d.suffix.trans (c2.trans b2))
        | ok q4 => rw [h4] at h; cases h
theorem file_err : ∀ (g : Nat) (ts : List Tok) (e : Nat × Nat), ts.length < g → Ended ts → fileL g ts = .error e → Bad ts e
  | 0, ts, e, hl, _, _ => by omega
  | g + 1, ts, e, hl, hE, h => by
    unfold fileL at h
    split at h
    · cases h
    · cases h1 : declP ts with
      | error x => rw [h1] at h; injection h with h; subst h; exact decl_err _ _ hE h1
      | ok x =>
        obtain ⟨v, q⟩ := x
        rw [h1] at h
        dsimp only at h
        have b := decl_ok h1
        have b3 := decl_len _ _ _ h1
        cases h3 : fileL g q with
        | error x => rw [h3] at h; injection h with h; subst h; exact (file_err g q _ (by omega) (b.ended hE) h3).of b.suffix
        | ok y => rw [h3] at h; cases h
/-- Parse, by its tokens: a tree, or an error at one of them. -/
theorem parse_cases {T : List Tok} (hE : Ended T) : (∃ l r, parseP T = (⟨0, [], 0, 0, 0, l⟩, 0, 0) ∧ fileL (T.length + 1) T = .ok l ∧ G .file T l r) ∨ ∃ e, parseP T = (zero, e.1, e.2) ∧ fileL (T.length + 1) T = .error e ∧ Bad T e := by
  unfold parseP
  cases h1 : fileL (T.length + 1) T with
  | error e => exact .inr ⟨e, rfl, rfl, file_err _ _ _ (Nat.lt_succ_self _) hE h1⟩
  | ok l =>
    obtain ⟨r, hr⟩ := file_ok _ _ _ h1
    exact .inl ⟨l, r, rfl, rfl, hr⟩
end Go.Proofs.YtooajmbpncmgjaaGreatDoor.Tr
namespace Go.Proofs.YtooajmbpncmgjaaGreatDoor.Tr
open L (Tok)

section
variable (t z : Tok) (b : List Tok)

/-- The parsing of a ++ t :: b beside that of a ++ [z]: the same so far, both ahead of t and z; or the second ends at z with an error of form; or the first has an error that is not one of form at t; or the first has gone past t. -/
def Out {α : Type} (a : List Tok) (x x' : Res α) : Prop :=
  (∃ v a', a' <:+ a ∧ x = .ok (v, a' ++ t :: b) ∧ x' = .ok (v, a' ++ [z])) ∨ x' = .error (2, t.pos) ∨ (∃ e, x = .error e ∧ e ≠ (2, t.pos)) ∨ (∃ v r, x = .ok (v, r) ∧ r <:+ b ∧ Ended r)

structure Cut (a : List Tok) : Prop where
  z4 : z.kind = 4
  zp : z.pos = t.pos
  t4 : t.kind ≠ 4
  a4 : ∀ c ∈ a, c.kind ≠ 4
  ap : ∀ c ∈ a, c.pos ≠ t.pos
  bp : ∀ c ∈ b, c.pos ≠ t.pos
  be : Ended b
end
section
variable {t z : Tok} {b : List Tok}
theorem Cut.of {a a' : List Tok} (h : Cut t z b a) (hs : a' <:+ a) : Cut t z b a' := ⟨h.z4, h.zp, h.t4, fun c hc => h.a4 c (hs.subset hc), fun c hc => h.ap c (hs.subset hc), h.bp, h.be⟩
theorem Cut.tail {a : List Tok} {c : Tok} (h : Cut t z b (c :: a)) : Cut t z b a := h.of (List.suffix_cons _ _)
theorem Cut.sign {a : List Tok} (h : Cut t z b a) (s : List UInt8) : signB z s = false := by
  cases hs : signB z s with
  | false => rfl
  | true => have := sign_kind hs; have := h.z4; omega
/-- An error behind t. -/
theorem Cut.past {a r : List Tok} {e : Nat × Nat} (h : Cut t z b a) (hr : r <:+ b) (hb : Bad r e) : e ≠ (2, t.pos) := by
  obtain ⟨_, c, hc, hp⟩ := hb
  rintro rfl
  exact h.bp c (hr.subset hc) hp.symm
theorem skip_cut {a : List Tok} (h : Cut t z b a) (s : List UInt8) : (∃ c a', a = c :: a' ∧ skipP s (a ++ t :: b) = .ok (a' ++ t :: b) ∧ skipP s (a ++ [z]) = .ok (a' ++ [z])) ∨ skipP s (a ++ [z]) = .error (2, t.pos) ∨ (∃ e, skipP s (a ++ t :: b) = .error e ∧ e ≠ (2, t.pos)) := by
  cases a with
  | nil =>
    refine .inr (.inl ?_)
    unfold skipP
    rw [List.nil_append, show hd [z] = z from rfl, h.sign s, if_neg (by simp), h.zp]
  | cons c a =>
    have hc := h.ap c (by simp)
    unfold skipP
    rw [show hd (c :: a ++ t :: b) = c from rfl, show hd (c :: a ++ [z]) = c from rfl, show (c :: a ++ t :: b).tail = a ++ t :: b from rfl, show (c :: a ++ [z]).tail = a ++ [z] from rfl]
    split
    · exact .inl ⟨c, a, rfl, rfl, rfl⟩
    · exact .inr (.inr ⟨_, rfl, fun e => hc (congrArg Prod.snd e)⟩)
theorem take_cut {a : List Tok} (h : Cut t z b a) (k : Nat) (hk : k ≠ 4) : Out t z b a (takeP k (a ++ t :: b)) (takeP k (a ++ [z])) := by
  cases a with
  | nil =>
    refine .inr (.inl ?_)
    unfold takeP
    rw [List.nil_append, show hd [z] = z from rfl, if_neg (by rw [h.z4]; simpa using fun e => hk e.symm), h.zp]
  | cons c a =>
    have hc := h.ap c (by simp)
    unfold takeP
    rw [show hd (c :: a ++ t :: b) = c from rfl, show hd (c :: a ++ [z]) = c from rfl, show (c :: a ++ t :: b).tail = a ++ t :: b from rfl, show (c :: a ++ [z]).tail = a ++ [z] from rfl]
    split
    · exact .inl ⟨c, a, List.suffix_cons _ _, rfl, rfl⟩
    · exact .inr (.inr (.inl ⟨_, rfl, fun e => hc (congrArg Prod.snd e)⟩))
theorem leaf_cut {a : List Tok} (h : Cut t z b a) : (∃ v a' c, a = c :: a' ∧ leafP (a ++ t :: b) = some (v, a' ++ t :: b) ∧ leafP (a ++ [z]) = some (v, a' ++ [z])) ∨ (leafP (a ++ [z]) = none ∧ (a ≠ [] → leafP (a ++ t :: b) = none)) := by
  cases a with
  | nil =>
    refine .inr ⟨?_, fun e => absurd rfl e⟩
    unfold leafP
    rw [List.nil_append, show hd [z] = z from rfl, h.z4]
    rfl
  | cons c a =>
    unfold leafP
    rw [show hd (c :: a ++ t :: b) = c from rfl, show hd (c :: a ++ [z]) = c from rfl, show (c :: a ++ t :: b).tail = a ++ t :: b from rfl, show (c :: a ++ [z]).tail = a ++ [z] from rfl]
    split
    · exact .inl ⟨_, a, c, rfl, rfl, rfl⟩
    · split
      · exact .inl ⟨_, a, c, rfl, rfl, rfl⟩
      · exact .inr ⟨rfl, fun _ => rfl⟩
theorem amount_end {a : List Tok} (h : Cut t z b a) : amountP [z] = .error (2, t.pos) := by
  unfold amountP
  rw [show hd [z] = z from rfl, h.z4, h.zp]
  rfl
theorem amount_cut {a : List Tok} (h : Cut t z b a) : Out t z b a (amountP (a ++ t :: b)) (amountP (a ++ [z])) := by
  cases a with
  | nil => exact .inr (.inl (amount_end h))
  | cons c a =>
    have hc := h.ap c (by simp)
    unfold amountP
    rw [show hd (c :: a ++ t :: b) = c from rfl, show hd (c :: a ++ [z]) = c from rfl, show (c :: a ++ t :: b).tail = a ++ t :: b from rfl, show (c :: a ++ [z]).tail = a ++ [z] from rfl]
    split
    · dsimp only
      have hz : unitP [z] = ([], [z]) := by
        unfold unitP
        rw [show hd [z] = z from rfl, h.z4]
        rfl
      have same : ∀ a', (unitP (a ++ t :: b)) = ((unitP (a ++ [z])).1, a' ++ t :: b) → (unitP (a ++ [z])).2 = a' ++ [z] → a' <:+ c :: a → Out t z b (c :: a)
          (if ((U.amountU c.text (unitP (a ++ t :: b)).1).2.2 == 0) = true then (Except.ok (⟨5, [], (U.amountU c.text (unitP (a ++ t :: b)).1).1, (U.amountU c.text (unitP (a ++ t :: b)).1).2.1, c.pos, []⟩, (unitP (a ++ t :: b)).2) : Res Tree) else .error (7, c.pos))
          (if ((U.amountU c.text (unitP (a ++ [z])).1).2.2 == 0) = true then .ok (⟨5, [], (U.amountU c.text (unitP (a ++ [z])).1).1, (U.amountU c.text (unitP (a ++ [z])).1).2.1, c.pos, []⟩, (unitP (a ++ [z])).2) else .error (7, c.pos)) := by
        intro a' h1 h2 h3
        rw [h1, h2]
        dsimp only
        split
        · exact .inl ⟨_, a', h3, rfl, rfl⟩
        · exact .inr (.inr (.inl ⟨_, rfl, fun e => hc (congrArg Prod.snd e)⟩))
      cases a with
      | nil =>
        by_cases hk : ((hd (t :: b)).kind == 0 && known (hd (t :: b)).text) = true
        · have e : unitP (t :: b) = (t.text, b) := by unfold unitP; rw [if_pos hk]; rfl
          rw [List.nil_append, e]
          dsimp only
          split
          · exact .inr (.inr (.inr ⟨_, _, rfl, List.suffix_rfl, h.be⟩))
          · exact .inr (.inr (.inl ⟨_, rfl, fun e => hc (congrArg Prod.snd e)⟩))
        · have e : unitP (t :: b) = ([], t :: b) := by unfold unitP; rw [if_neg hk]
          exact same [] (by rw [List.nil_append, List.nil_append, e, hz]) (by rw [List.nil_append, hz]) (List.nil_suffix)
      | cons d a =>
        by_cases hk : (d.kind == 0 && known d.text) = true
        · have e1 : unitP (d :: a ++ t :: b) = (d.text, a ++ t :: b) := by unfold unitP; rw [show hd (d :: a ++ t :: b) = d from rfl, if_pos hk]; rfl
          have e2 : unitP (d :: a ++ [z]) = (d.text, a ++ [z]) := by unfold unitP; rw [show hd (d :: a ++ [z]) = d from rfl, if_pos hk]; rfl
          exact same a (by rw [e1, e2]) (by rw [e2]) ((List.suffix_cons _ _).trans (List.suffix_cons _ _))
        · have e1 : unitP (d :: a ++ t :: b) = ([], d :: a ++ t :: b) := by unfold unitP; rw [show hd (d :: a ++ t :: b) = d from rfl, if_neg hk]
          have e2 : unitP (d :: a ++ [z]) = ([], d :: a ++ [z]) := by unfold unitP; rw [show hd (d :: a ++ [z]) = d from rfl, if_neg hk]
          exact same (d :: a) (by rw [e1, e2]) (by rw [e2]) (List.suffix_cons _ _)
    · exact .inr (.inr (.inl ⟨_, rfl, fun e => hc (congrArg Prod.snd e)⟩))
theorem rest_cut {a : List Tok} (h : Cut t z b a) : Out t z b a (match leafP (a ++ t :: b) with | some r => (Except.ok r : Res Tree) | none => amountP (a ++ t :: b)) (match leafP (a ++ [z]) with | some r => (Except.ok r : Res Tree) | none => amountP (a ++ [z])) := by
  rcases leaf_cut h with ⟨v, a', c, e, h1, h2⟩ | ⟨h1, h2⟩
  · rw [h1, h2]
    exact .inl ⟨v, a', by rw [e]; exact List.suffix_cons _ _, rfl, rfl⟩
  · rw [h1]
    cases a with
    | nil => exact .inr (.inl (amount_end h))
    | cons c a => rw [h2 (by simp)]; exact amount_cut h
theorem ended_cut {a : List Tok} (h : Cut t z b a) : Ended (a ++ t :: b) := by
  obtain ⟨a2, z2, h1, h2, h3⟩ := h.be
  refine ⟨a ++ t :: a2, z2, by rw [h1]; simp, h2, fun c hc => ?_⟩
  rcases List.mem_append.1 hc with hc | hc
  · exact h.a4 c hc
  · rcases List.mem_cons.1 hc with rfl | hc
    · exact h.t4
    · exact h3 c hc
theorem group_cut {f : Nat} {val : List Tok → Res Tree} (hv : ∀ a, Cut t z b a → Out t z b a (val (a ++ t :: b)) (val (a ++ [z]))) (he : ∀ ts e, Ended ts → val ts = .error e → Bad ts e) (hg : ∀ ts v r, val ts = .ok (v, r) → G (.val f) ts [v] r) (hs : Shrinks val) :
    ∀ (g g' : Nat) (s : List UInt8) (a : List Tok), Cut t z b a → (a ++ t :: b).length < g → (a ++ [z]).length < g' → Out t z b a (groupL val g s (a ++ t :: b)) (groupL val g' s (a ++ [z]))
  | 0, _, s, a, h, h1, _ => by omega
  | _, 0, s, a, h, _, h1 => by omega
  | g + 1, g' + 1, s, a, h, hg1, hg2 => by
    unfold groupL
    rcases skip_cut h s with ⟨c, a1, rfl, e1, e2⟩ | e2 | ⟨e, e1, hne⟩
    · rw [e1, e2]
      dsimp only
      have hl : (a1 ++ t :: b).length < g := by simp at hg1 ⊢; omega
      have hl' : (a1 ++ [z]).length < g' := by simp at hg2 ⊢; omega
      rcases hv a1 h.tail with ⟨v, a2, hs2, f1, f2⟩ | f2 | ⟨e, f1, hne⟩ | ⟨v, r, f1, hr, hE⟩
      · rw [f1, f2]
        dsimp only
        have h2 := h.tail.of hs2
        cases a2 with
        | nil =>
          rw [List.nil_append, List.nil_append, show hd [z] = z from rfl, if_neg (c := signB z [41] = true) (by rw [h.sign [41]]; simp)]
          have : groupL val g' [44] [z] = .error (2, t.pos) := by
            have hg' : 0 < g' := by omega
            obtain ⟨q, rfl⟩ : ∃ q, g' = q + 1 := ⟨g' - 1, by omega⟩
            unfold groupL skipP
            rw [show hd [z] = z from rfl, h.sign [44], if_neg (by simp), h.zp]
          rw [this]
          exact .inr (.inl rfl)
        | cons d a2 =>
          rw [show hd (d :: a2 ++ t :: b) = d from rfl, show hd (d :: a2 ++ [z]) = d from rfl]
          split
          · exact .inl ⟨_, d :: a2, hs2.trans (List.suffix_cons _ _), rfl, rfl⟩
          · have hsh := hs _ _ _ f1
            have hle := hs2.length_le
            rcases group_cut hv he hg hs g g' [44] (d :: a2) h2 (by omega) (by simp at hl' hle ⊢; omega) with ⟨v3, a3, hs3, k1, k2⟩ | k2 | ⟨e, k1, hne⟩ | ⟨v3, r, k1, hr, hE⟩
            · rw [k1, k2]; exact .inl ⟨_, a3, (hs3.trans hs2).trans (List.suffix_cons _ _), rfl, rfl⟩
            · rw [k2]; exact .inr (.inl rfl)
            · rw [k1]; exact .inr (.inr (.inl ⟨_, rfl, hne⟩))
            · rw [k1]; exact .inr (.inr (.inr ⟨_, _, rfl, hr, hE⟩))
      · rw [f2]; exact .inr (.inl rfl)
      · rw [f1]; exact .inr (.inr (.inl ⟨_, rfl, hne⟩))
      · rw [f1]
        dsimp only
        split
        · exact .inr (.inr (.inr ⟨_, _, rfl, hr, hE⟩))
        · have hsh := hs _ _ _ f1
          cases k1 : groupL val g [44] r with
          | error e => exact .inr (.inr (.inl ⟨_, rfl, h.past hr (group_err he hg hs g [44] r e (by omega) hE k1)⟩))
          | ok y =>
            obtain ⟨c1, c2⟩ := group_end hg g [44] r _ _ hE k1
            exact .inr (.inr (.inr ⟨_, _, rfl, c2.trans hr, c1⟩))
    · rw [e2]; exact .inr (.inl rfl)
    · rw [e1]; exact .inr (.inr (.inl ⟨_, rfl, hne⟩))
theorem value_cut : ∀ (f : Nat) (a : List Tok), Cut t z b a → Out t z b a (valueP f (a ++ t :: b)) (valueP f (a ++ [z]))
  | 0, a, h => by
    unfold valueP
    cases a with
    | nil =>
      rw [List.nil_append, List.nil_append, show hd [z] = z from rfl, if_neg (c := signB z [40] = true) (by rw [h.sign [40]]; simp)]
      refine .inr (.inl ?_)
      have := (leaf_cut h).resolve_left (by rintro ⟨_, _, _, e, _⟩; cases e)
      rw [List.nil_append] at this
      rw [this.1]
      exact amount_end h
    | cons c a =>
      rw [show hd (c :: a ++ t :: b) = c from rfl, show hd (c :: a ++ [z]) = c from rfl]
      split
      · exact .inr (.inr (.inl ⟨_, rfl, fun e => by cases e⟩))
      · exact rest_cut h
  | f + 1, a, h => by
    unfold valueP
    cases a with
    | nil =>
      rw [List.nil_append, List.nil_append, show hd [z] = z from rfl, if_neg (c := signB z [40] = true) (by rw [h.sign [40]]; simp)]
      refine .inr (.inl ?_)
      have := (leaf_cut h).resolve_left (by rintro ⟨_, _, _, e, _⟩; cases e)
      rw [List.nil_append] at this
      rw [this.1]
      exact amount_end h
    | cons c a =>
      rw [show hd (c :: a ++ t :: b) = c from rfl, show hd (c :: a ++ [z]) = c from rfl]
      split
      · rcases group_cut (value_cut f) (value_err f) (value_ok f) (value_len f) _ _ [40] (c :: a) h (Nat.lt_succ_self _) (Nat.lt_succ_self _) with ⟨l, a2, hs2, k1, k2⟩ | k2 | ⟨e, k1, hne⟩ | ⟨l, r, k1, hr, hE⟩
        · rw [k1, k2]
          dsimp only
          rcases skip_cut (h.of hs2) [41] with ⟨d, a3, rfl, e1, e2⟩ | e2 | ⟨e, e1, hne⟩
          · rw [e1, e2]; exact .inl ⟨_, a3, (List.suffix_cons _ _).trans hs2, rfl, rfl⟩
          · rw [e2]; exact .inr (.inl rfl)
          · rw [e1]; exact .inr (.inr (.inl ⟨_, rfl, hne⟩))
        · rw [k2]; exact .inr (.inl rfl)
        · rw [k1]; exact .inr (.inr (.inl ⟨_, rfl, hne⟩))
        · rw [k1]
          dsimp only
          cases e1 : skipP [41] r with
          | error e => exact .inr (.inr (.inl ⟨_, rfl, h.past hr (skip_err hE e1)⟩))
          | ok q =>
            obtain ⟨c1, c2, _⟩ := skip_ended hE e1
            exact .inr (.inr (.inr ⟨_, _, rfl, c2.trans hr, c1⟩))
      · exact rest_cut h
theorem until_cut {n : NT} {val : List Tok → Res Tree} (hz : ∀ a, Cut t z b a → val [z] = .error (2, t.pos)) (hv : ∀ a, Cut t z b a → Out t z b a (val (a ++ t :: b)) (val (a ++ [z]))) (he : ∀ ts e, Ended ts → val ts = .error e → Bad ts e) (hg : ∀ ts v r, val ts = .ok (v, r) → G n ts [v] r) (hs : Shrinks val)
    (hend : ∀ s g ts l r, untilL val s g ts = .ok (l, r) → Ended ts → Ended r ∧ r <:+ ts) (s : List UInt8) :
    ∀ (g g' : Nat) (a : List Tok), Cut t z b a → (a ++ t :: b).length < g → (a ++ [z]).length < g' → Out t z b a (untilL val s g (a ++ t :: b)) (untilL val s g' (a ++ [z]))
  | 0, _, a, h, h1, _ => by omega
  | _, 0, a, h, _, h1 => by omega
  | g + 1, g' + 1, a, h, hg1, hg2 => by
    cases a with
    | nil =>
      refine .inr (.inl ?_)
      unfold untilL
      rw [List.nil_append, show hd [z] = z from rfl, h.sign s, if_neg (by simp), hz [] h]
    | cons c a =>
      unfold untilL
      rw [show hd (c :: a ++ t :: b) = c from rfl, show hd (c :: a ++ [z]) = c from rfl]
      split
      · exact .inl ⟨_, c :: a, List.suffix_rfl, rfl, rfl⟩
      · rcases hv (c :: a) h with ⟨v, a2, hs2, f1, f2⟩ | f2 | ⟨e, f1, hne⟩ | ⟨v, r, f1, hr, hE⟩
        · rw [f1, f2]
          dsimp only
          have hsh := hs _ _ _ f1
          have hsh2 := hs _ _ _ f2
          rcases until_cut hz hv he hg hs hend s g g' a2 (h.of hs2) (by omega) (by omega) with ⟨v3, a3, hs3, k1, k2⟩ | k2 | ⟨e, k1, hne⟩ | ⟨v3, r, k1, hr, hE⟩
          · rw [k1, k2]; exact .inl ⟨_, a3, hs3.trans hs2, rfl, rfl⟩
          · rw [k2]; exact .inr (.inl rfl)
          · rw [k1]; exact .inr (.inr (.inl ⟨_, rfl, hne⟩))
          · rw [k1]; exact .inr (.inr (.inr ⟨_, _, rfl, hr, hE⟩))
        · rw [f2]; exact .inr (.inl rfl)
        · rw [f1]; exact .inr (.inr (.inl ⟨_, rfl, hne⟩))
        · rw [f1]
          dsimp only
          have hsh := hs _ _ _ f1
          cases k1 : untilL val s g r with
          | error e => exact .inr (.inr (.inl ⟨_, rfl, h.past hr (until_err he hg hs s g r e (by omega) hE k1)⟩))
          | ok y =>
            obtain ⟨c1, c2⟩ := hend s g r _ _ k1 hE
            exact .inr (.inr (.inr ⟨_, _, rfl, c2.trans hr, c1⟩))
theorem value_end (f : Nat) {a : List Tok} (h : Cut t z b a) : valueP f [z] = .error (2, t.pos) := by
  have := (leaf_cut (h.of (a' := []) List.nil_suffix)).resolve_left (by rintro ⟨_, _, _, e, _⟩; cases e)
  rw [List.nil_append] at this
  cases f <;> (unfold valueP; rw [show hd [z] = z from rfl, h.sign [40], if_neg (by simp), this.1]; exact amount_end h)
theorem prop_end {a : List Tok} (h : Cut t z b a) : propP [z] = .error (2, t.pos) := by
  unfold propP takeP
  rw [show hd [z] = z from rfl, h.z4, h.zp]
  rfl
theorem prop_cut (a : List Tok) (h : Cut t z b a) : Out t z b a (propP (a ++ t :: b)) (propP (a ++ [z])) := by
  unfold propP
  rcases take_cut h 0 (by decide) with ⟨v, a2, hs2, f1, f2⟩ | f2 | ⟨e, f1, hne⟩ | ⟨v, r, f1, hr, hE⟩
  · rw [f1, f2]
    dsimp only
    rcases until_cut (n := .val 40) (fun a h => value_end 40 h) (value_cut 40) (value_err 40) (value_ok 40) (value_len 40) (fun s g ts l r h1 h2 => ⟨(vals_ok s g ts r l h1).ended h2, (vals_ok s g ts r l h1).suffix⟩) [59] _ _ a2 (h.of hs2) (Nat.lt_succ_self _) (Nat.lt_succ_self _) with ⟨v3, a3, hs3, k1, k2⟩ | k2 | ⟨e, k1, hne⟩ | ⟨v3, r, k1, hr, hE⟩
    · rw [k1, k2]
      dsimp only
      rcases skip_cut (h.of (hs3.trans hs2)) [59] with ⟨d, a4, rfl, e1, e2⟩ | e2 | ⟨e, e1, hne⟩
      · rw [e1, e2]; exact .inl ⟨_, a4, ((List.suffix_cons _ _).trans hs3).trans hs2, rfl, rfl⟩
      · rw [e2]; exact .inr (.inl rfl)
      · rw [e1]; exact .inr (.inr (.inl ⟨_, rfl, hne⟩))
    · rw [k2]; exact .inr (.inl rfl)
    · rw [k1]; exact .inr (.inr (.inl ⟨_, rfl, hne⟩))
    · rw [k1]
      dsimp only
      cases e1 : skipP [59] r with
      | error e => exact .inr (.inr (.inl ⟨_, rfl, h.past hr (skip_err hE e1)⟩))
      | ok q =>
        obtain ⟨c1, c2, _⟩ := skip_ended hE e1
        exact .inr (.inr (.inr ⟨_, _, rfl, c2.trans hr, c1⟩))
  · rw [f2]; exact .inr (.inl rfl)
  · rw [f1]; exact .inr (.inr (.inl ⟨_, rfl, hne⟩))
  · rw [f1]
    dsimp only
    cases k1 : untilL (valueP 40) [59] (r.length + 1) r with
    | error e => exact .inr (.inr (.inl ⟨_, rfl, h.past hr (until_err (value_err 40) (value_ok 40) (value_len 40) _ _ r e (Nat.lt_succ_self _) hE k1)⟩))
    | ok y =>
      have d := vals_ok _ _ _ _ _ k1
      dsimp only
      cases e1 : skipP [59] y.2 with
      | error e => exact .inr (.inr (.inl ⟨_, rfl, h.past (d.suffix.trans hr) (skip_err (d.ended hE) e1)⟩))
      | ok q =>
        obtain ⟨c1, c2, _⟩ := skip_ended (d.ended hE) e1
        exact .inr (.inr (.inr ⟨_, _, rfl, (c2.trans d.suffix).trans hr, c1⟩))
theorem words_cut : ∀ (g g' : Nat) (a : List Tok), Cut t z b a → (a ++ t :: b).length < g → (a ++ [z]).length < g' → (∃ l a', a' <:+ a ∧ wordsL g (a ++ t :: b) = (l, a' ++ t :: b) ∧ wordsL g' (a ++ [z]) = (l, a' ++ [z])) ∨ (wordsL g' (a ++ [z])).2 = [z]
  | 0, _, a, h, h1, _ => by omega
  | _, 0, a, h, _, h1 => by omega
  | g + 1, g' + 1, a, h, hg1, hg2 => by
    unfold wordsL
    rcases leaf_cut h with ⟨v, a', c, rfl, h1, h2⟩ | ⟨h1, h2⟩
    · rw [h1, h2]
      dsimp only
      rcases words_cut g g' a' h.tail (by simp at hg1 ⊢; omega) (by simp at hg2 ⊢; omega) with ⟨l, a2, hs, k1, k2⟩ | k2
      · rw [k1, k2]; exact .inl ⟨_, a2, hs.trans (List.suffix_cons _ _), rfl, rfl⟩
      · exact .inr k2
    · rw [h1]
      cases a with
      | nil => exact .inr rfl
      | cons c a =>
        rw [h2 (by simp)]
        exact .inl ⟨_, c :: a, List.suffix_rfl, rfl, rfl⟩
theorem decl_cut (a : List Tok) (h : Cut t z b a) : Out t z b a (declP (a ++ t :: b)) (declP (a ++ [z])) := by
  unfold declP
  rcases take_cut h 0 (by decide) with ⟨v, a2, hs2, f1, f2⟩ | f2 | ⟨e, f1, hne⟩ | ⟨v, r, f1, hr, hE⟩
  · rw [f1, f2]
    dsimp only
    have h2 := h.of hs2
    rcases words_cut _ _ a2 h2 (Nat.lt_succ_self _) (Nat.lt_succ_self _) with ⟨l, a3, hs3, k1, k2⟩ | k2
    · rw [k1, k2]
      dsimp only
      rcases skip_cut (h2.of hs3) [123] with ⟨d, a4, rfl, e1, e2⟩ | e2 | ⟨e, e1, hne⟩
      · rw [e1, e2]
        dsimp only
        have h4 := (h2.of hs3).tail
        have hs4 : a4 <:+ a := ((List.suffix_cons _ _).trans hs3).trans hs2
        rcases until_cut (n := .prop) (fun a h => prop_end h) prop_cut prop_err (fun _ _ _ => prop_ok) prop_len (fun s g ts l r h1 h2 => ⟨(props_ok s g ts r l h1).ended h2, (props_ok s g ts r l h1).suffix⟩) [125] _ _ a4 h4 (Nat.lt_succ_self _) (Nat.lt_succ_self _) with ⟨v3, a5, hs5, m1, m2⟩ | m2 | ⟨e, m1, hne⟩ | ⟨v3, r, m1, hr, hE⟩
        · rw [m1, m2]
          dsimp only
          rcases skip_cut (h4.of hs5) [125] with ⟨d, a6, rfl, n1, n2⟩ | n2 | ⟨e, n1, hne⟩
          · rw [n1, n2]; exact .inl ⟨_, a6, ((List.suffix_cons _ _).trans hs5).trans hs4, rfl, rfl⟩
          · rw [n2]; exact .inr (.inl rfl)
          · rw [n1]; exact .inr (.inr (.inl ⟨_, rfl, hne⟩))
        · rw [m2]; exact .inr (.inl rfl)
        · rw [m1]; exact .inr (.inr (.inl ⟨_, rfl, hne⟩))
        · rw [m1]
          dsimp only
          cases n1 : skipP [125] r with
          | error e => exact .inr (.inr (.inl ⟨_, rfl, h.past hr (skip_err hE n1)⟩))
          | ok q =>
            obtain ⟨c1, c2, _⟩ := skip_ended hE n1
            exact .inr (.inr (.inr ⟨_, _, rfl, c2.trans hr, c1⟩))
      · rw [e2]; exact .inr (.inl rfl)
      · rw [e1]; exact .inr (.inr (.inl ⟨_, rfl, hne⟩))
    · rw [k2]
      refine .inr (.inl ?_)
      have : skipP [123] [z] = .error (2, t.pos) := by unfold skipP; rw [show hd [z] = z from rfl, h.sign [123], if_neg (by simp), h.zp]
      rw [this]
  · rw [f2]; exact .inr (.inl rfl)
  · rw [f1]; exact .inr (.inr (.inl ⟨_, rfl, hne⟩))
  · rw [f1]
    dsimp only
    have hw := words_ok (r.length + 1) r
    generalize wordsL (r.length + 1) r = wq at hw ⊢
    obtain ⟨l1, q1⟩ := wq
    dsimp only at hw ⊢
    have b1 := hw.ended hE
    have b2 := hw.suffix.trans hr
    cases e1 : skipP [123] q1 with
    | error e => exact .inr (.inr (.inl ⟨_, rfl, h.past b2 (skip_err b1 e1)⟩))
    | ok q =>
      dsimp only
      obtain ⟨c1, c2, _⟩ := skip_ended b1 e1
      cases k1 : untilL propP [125] (q.length + 1) q with
      | error e => exact .inr (.inr (.inl ⟨_, rfl, h.past (c2.trans b2) (until_err (n := .prop) prop_err (fun _ _ _ => prop_ok) prop_len _ _ q e (Nat.lt_succ_self _) c1 k1)⟩))
      | ok y =>
        have d := props_ok _ _ _ _ _ k1
        dsimp only
        cases n1 : skipP [125] y.2 with
        | error e => exact .inr (.inr (.inl ⟨_, rfl, h.past (d.suffix.trans (c2.trans b2)) (skip_err (d.ended c1) n1)⟩))
        | ok q =>
          obtain ⟨e1, e2, _⟩ := skip_ended (d.ended c1) n1
          exact .inr (.inr (.inr ⟨_, _, rfl, (e2.trans d.suffix).trans (c2.trans b2), e1⟩))
/-- A file that is cut at an error of form is accepted, or ends with such an error. -/
theorem file_cut : ∀ (g g' : Nat) (a : List Tok), Cut t z b a → (a ++ t :: b).length < g → (a ++ [z]).length < g' → (∃ l, fileL g' (a ++ [z]) = .ok l) ∨ fileL g' (a ++ [z]) = .error (2, t.pos) ∨ fileL g (a ++ t :: b) ≠ .error (2, t.pos)
  | 0, _, a, h, h1, _ => by omega
  | _, 0, a, h, _, h1 => by omega
  | g + 1, g' + 1, a, h, hg1, hg2 => by
    cases a with
    | nil =>
      refine .inl ⟨[], ?_⟩
      unfold fileL
      rw [List.nil_append, show hd [z] = z from rfl, h.z4]
      rfl
    | cons c a =>
      unfold fileL
      rw [show hd (c :: a ++ t :: b) = c from rfl, show hd (c :: a ++ [z]) = c from rfl]
      split
      · exact .inl ⟨_, rfl⟩
      · rcases decl_cut (c :: a) h with ⟨v, a2, hs2, f1, f2⟩ | f2 | ⟨e, f1, hne⟩ | ⟨v, r, f1, hr, hE⟩
        · rw [f1, f2]
          dsimp only
          have l1 := decl_len _ _ _ f1
          have l2 := decl_len _ _ _ f2
          rcases file_cut g g' a2 (h.of hs2) (by omega) (by omega) with ⟨l, k1⟩ | k1 | k1
          · rw [k1]; exact .inl ⟨_, rfl⟩
          · rw [k1]; exact .inr (.inl rfl)
          · refine .inr (.inr fun e => k1 ?_)
            cases k2 : fileL g (a2 ++ t :: b) with
            | error x => rw [k2] at e; exact e
            | ok l => rw [k2] at e; cases e
        · rw [f2]; exact .inr (.inl rfl)
        · rw [f1]; exact .inr (.inr fun x => hne (by injection x))
        · rw [f1]
          dsimp only
          refine .inr (.inr fun e => ?_)
          have l1 := decl_len _ _ _ f1
          cases k2 : fileL g r with
          | error x =>
            rw [k2] at e
            injection e with e
            exact h.past hr (file_err g r x (by omega) hE k2) e
          | ok l => rw [k2] at e; cases e
end
end Go.Proofs.YtooajmbpncmgjaaGreatDoor.Tr
namespace Go.Proofs.YtooajmbpncmgjaaGreatDoor.L

/-- A token as it is written. -/
def spell (k : Nat) (x : List UInt8) : List UInt8 := if k = 2 then 34 :: (x ++ [34]) else x

theorem pre_app {p : Nat → Bool} : ∀ (g r : List UInt8), (∀ c ∈ g, p c.toNat = true) → (∀ c ∈ r.head?, p c.toNat = false) → pre p (g ++ r) = g
  | [], [], _, _ => rfl
  | [], c :: r, _, h => by
    have : p c.toNat = false := h c (by simp)
    simp [pre, this]
  | c :: g, r, h1, h2 => by
    have h0 : p c.toNat = true := h1 c (by simp)
    have ih := pre_app (p := p) g r (fun x hx => h1 x (by simp [hx])) h2
    simp only [pre] at ih
    simp [pre, h0, ih]
theorem pre_mem {p : Nat → Bool} : ∀ (s : List UInt8), ∀ c ∈ pre p s, p c.toNat = true
  | [], c, h => by simp [pre] at h
  | a :: s, c, h => by
    by_cases ha : p a.toNat = true
    · simp only [pre, List.takeWhile_cons, ha, if_true] at h
      rcases List.mem_cons.1 h with rfl | h
      · exact ha
      · exact pre_mem s c h
    · simp [pre, ha] at h
theorem pre_split {p : Nat → Bool} : ∀ (s : List UInt8), ∃ r, s = pre p s ++ r ∧ ∀ c ∈ r.head?, p c.toNat = false
  | [] => ⟨[], by simp [pre], by simp⟩
  | a :: s => by
    by_cases ha : p a.toNat = true
    · obtain ⟨r, h1, h2⟩ := pre_split (p := p) s
      refine ⟨r, ?_, h2⟩
      simp only [pre, List.takeWhile_cons, ha, if_true, List.cons_append]
      simp only [pre] at h1
      rw [← h1]
    · refine ⟨a :: s, by simp [pre, ha], fun c hc => ?_⟩
      simp at hc
      subst hc
      simpa using ha
theorem pre_take {p : Nat → Bool} : ∀ (s : List UInt8) (m : Nat), (pre p s).length ≤ m → pre p (s.take m) = pre p s
  | [], m, _ => by simp
  | a :: s, 0, h => by
    have : pre p (a :: s) = [] := List.length_eq_zero_iff.1 (by omega)
    rw [this]
    simp [pre]
  | a :: s, m + 1, h => by
    by_cases ha : p a.toNat = true
    · have e : pre p (a :: s) = a :: pre p s := by simp [pre, ha]
      rw [e] at h ⊢
      rw [← pre_take s m (by simpa using h)]
      simp [pre, ha]
    · simp [pre, ha]

theorem has_dot (s : List UInt8) (c : UInt8) : Lib.hasPrefix s [c] = true ↔ ∃ r, s = c :: r := by
  constructor
  · intro h
    obtain ⟨r, hr⟩ := List.isPrefixOf_iff_prefix.1 h
    exact ⟨r, hr.symm⟩
  · rintro ⟨r, rfl⟩
    exact List.isPrefixOf_iff_prefix.2 ⟨r, rfl⟩
theorem has_head (s : List UInt8) (c : UInt8) (h : ∀ x ∈ s.head?, x ≠ c) : Lib.hasPrefix s [c] = false := by
  cases hp : Lib.hasPrefix s [c] with
  | false => rfl
  | true =>
    obtain ⟨r, rfl⟩ := (has_dot s c).1 hp
    exact absurd rfl (h c (by simp))

theorem take_app (a b : List UInt8) (n : Nat) (h : n = a.length) : (a ++ b).take n = a := by
  subst h
  simp

/-- A number, taken apart. -/
theorem number_cases (s : List UInt8) : ∃ w r, s = w ++ r ∧ pre digitN s = w ∧ ((numberL s = w ∧ ∀ q, r = 46 :: q → pre digitN q = []) ∨ ∃ q, r = 46 :: q ∧ pre digitN q ≠ [] ∧ numberL s = w ++ 46 :: pre digitN q) := by
  obtain ⟨r, h1, h2⟩ := pre_split (p := digitN) s
  refine ⟨pre digitN s, r, h1, rfl, ?_⟩
  have e0 : s.drop (pre digitN s).length = r := by
    conv => lhs; rw [h1]
    rw [List.drop_append_of_le_length (by rw [← h1]; exact Nat.le_refl _)]
    rw [← h1]; simp
  have e1 : s.drop ((pre digitN s).length + 1) = r.drop 1 := by rw [← List.drop_drop, e0]
  unfold numberL
  dsimp only
  rw [e0, e1]
  by_cases hp : Lib.hasPrefix r [46] = true
  · rw [if_pos hp]
    obtain ⟨q, rfl⟩ := (has_dot r 46).1 hp
    rw [List.drop_one, List.tail_cons]
    by_cases hq : pre digitN q = []
    · rw [if_pos hq]
      exact .inl ⟨rfl, fun q' h => by injection h with _ h; subst h; exact hq⟩
    · rw [if_neg hq]
      refine .inr ⟨q, rfl, hq, ?_⟩
      obtain ⟨q2, h3, _⟩ := pre_split (p := digitN) q
      exact (congrArg _ (show s = (pre digitN s ++ 46 :: pre digitN q) ++ q2 by rw [List.append_assoc, List.cons_append, ← h3, ← h1])).trans (take_app _ _ _ (by simp; omega))
  · rw [if_neg hp]
    exact .inl ⟨rfl, fun q h => absurd ((has_dot r 46).2 ⟨q, h⟩) hp⟩
theorem number_of (w r : List UInt8) (hw : ∀ c ∈ w, digitN c.toNat = true) (hr : ∀ c ∈ r.head?, digitN c.toNat = false) (hq : ∀ q, r = 46 :: q → pre digitN q = []) : numberL (w ++ r) = w := by
  have hp := pre_app w r hw hr
  unfold numberL
  dsimp only
  rw [hp]
  rw [show (w ++ r).drop w.length = r by simp]
  by_cases h : Lib.hasPrefix r [46] = true
  · obtain ⟨q, rfl⟩ := (has_dot r 46).1 h
    rw [if_pos h]
    rw [show (w ++ 46 :: q).drop (w.length + 1) = q by rw [← List.drop_drop]; simp]
    rw [if_pos (hq q rfl)]
  · rw [if_neg h]
theorem number_of2 (w q r : List UInt8) (hw : ∀ c ∈ w, digitN c.toNat = true) (hq : ∀ c ∈ q, digitN c.toNat = true) (hn : q ≠ []) (hr : ∀ c ∈ r.head?, digitN c.toNat = false) : numberL (w ++ 46 :: q ++ r) = w ++ 46 :: q := by
  have hp := pre_app w (46 :: (q ++ r)) hw (by simp [digitN])
  have hp2 := pre_app q r hq hr
  rw [show w ++ 46 :: q ++ r = w ++ 46 :: (q ++ r) by simp]
  unfold numberL
  dsimp only
  rw [hp]
  rw [show (w ++ 46 :: (q ++ r)).drop w.length = 46 :: (q ++ r) by simp, show (w ++ 46 :: (q ++ r)).drop (w.length + 1) = q ++ r by rw [← List.drop_drop]; simp]
  rw [hp2, if_pos ((has_dot _ 46).2 ⟨_, rfl⟩), if_neg hn]
  rw [show w ++ 46 :: (q ++ r) = (w ++ 46 :: q) ++ r by simp, List.take_append_of_le_length (by simp; omega)]
  exact List.take_of_length_le (by simp; omega)

/-- A string, taken apart. -/
theorem string_shape (s g : List UInt8) (c : UInt8) (r : List UInt8) (hs : s = c :: r) (h : stringL s = g) (hn : g ≠ []) : ∃ x q, r = x ++ 34 :: q ∧ (∀ c ∈ x, textN c.toNat = true) ∧ g = c :: (x ++ [34]) := by
  subst hs
  obtain ⟨q, h1, h2⟩ := pre_split (p := textN) r
  unfold stringL at h
  dsimp only at h
  rw [List.drop_one, List.tail_cons] at h
  have e0 : (c :: r).drop (1 + (pre textN r).length) = q := by
    rw [Nat.add_comm, List.drop_succ_cons]
    conv => lhs; rw [h1]
    rw [List.drop_append_of_le_length (by rw [← h1]; exact Nat.le_refl _)]
    rw [← h1]; simp
  rw [e0] at h
  by_cases hp : Lib.hasPrefix q [34] = true
  · rw [if_pos hp] at h
    obtain ⟨q2, rfl⟩ := (has_dot q 34).1 hp
    refine ⟨pre textN r, q2, h1, pre_mem r, ?_⟩
    rw [← h]
    exact (congrArg _ (show c :: r = (c :: (pre textN r ++ [34])) ++ q2 by rw [List.cons_append, List.append_assoc, List.singleton_append, ← h1])).trans (take_app _ _ _ (by simp))
  · rw [if_neg hp] at h
    exact absurd h.symm hn
theorem string_of (x q : List UInt8) (hx : ∀ c ∈ x, textN c.toNat = true) : stringL (34 :: (x ++ 34 :: q)) = 34 :: (x ++ [34]) := by
  have hp := pre_app x (34 :: q) hx (by simp [textN])
  unfold stringL
  dsimp only
  rw [List.drop_one, List.tail_cons, hp]
  rw [show (34 :: (x ++ 34 :: q)).drop (1 + x.length) = 34 :: q by rw [Nat.add_comm, List.drop_succ_cons]; simp]
  rw [if_pos ((has_dot _ 34).2 ⟨_, rfl⟩)]
  rw [show 34 :: (x ++ 34 :: q) = (34 :: (x ++ [34])) ++ q by simp, List.take_append_of_le_length (by simp)]
  exact List.take_of_length_le (by simp)

/-- What firstL says, by kinds. -/
theorem first_cases {s g : List UInt8} {k : Nat} (h : firstL s = (k, g)) (hn : g ≠ []) : ∃ c r, s = c :: r ∧
    ((k = 0 ∧ letterN c.toNat = true ∧ g = pre nameN s) ∨ (k = 1 ∧ letterN c.toNat = false ∧ digitN c.toNat = true ∧ g = numberL s) ∨
     (k = 2 ∧ c = 34 ∧ ∃ x q, r = x ++ 34 :: q ∧ (∀ c ∈ x, textN c.toNat = true) ∧ g = 34 :: (x ++ [34])) ∨
     (k = 3 ∧ letterN c.toNat = false ∧ digitN c.toNat = false ∧ c ≠ 34 ∧ g = signL s)) := by
  cases s with
  | nil => simp [firstL] at h; exact absurd h.2 (by simpa using hn)
  | cons c r =>
    refine ⟨c, r, rfl, ?_⟩
    simp only [firstL] at h
    by_cases h1 : letterN c.toNat = true
    · rw [if_pos h1] at h
      injection h with h2 h3
      exact .inl ⟨h2.symm, h1, h3.symm⟩
    · rw [if_neg h1] at h
      by_cases h2 : digitN c.toNat = true
      · rw [if_pos h2] at h
        injection h with h3 h4
        exact .inr (.inl ⟨h3.symm, by simpa using h1, h2, h4.symm⟩)
      · rw [if_neg h2] at h
        by_cases h3 : c = 34
        · rw [if_pos h3] at h
          injection h with h4 h5
          subst h3
          exact .inr (.inr (.inl ⟨h4.symm, rfl, string_shape _ g 34 r rfl h5 hn⟩))
        · rw [if_neg h3] at h
          injection h with h4 h5
          exact .inr (.inr (.inr ⟨h4.symm, by simpa using h1, by simpa using h2, h3, h5.symm⟩))
theorem first_of {c : UInt8} {r : List UInt8} : (letterN c.toNat = true → firstL (c :: r) = (0, pre nameN (c :: r))) ∧ (letterN c.toNat = false → digitN c.toNat = true → firstL (c :: r) = (1, numberL (c :: r))) ∧
    (c = 34 → firstL (c :: r) = (2, stringL (c :: r))) ∧ (letterN c.toNat = false → digitN c.toNat = false → c ≠ 34 → firstL (c :: r) = (3, signL (c :: r))) := by
  refine ⟨fun h => by simp [firstL, h], fun h1 h2 => by simp [firstL, h1, h2], fun h => ?_, fun h1 h2 h3 => by simp [firstL, h1, h2, h3]⟩
  subst h
  rfl

theorem sign_take (s : List UInt8) (m : Nat) (hn : signL s ≠ []) (hm : (signL s).length ≤ m) : signL (s.take m) = signL s := by
  unfold signL at hn hm ⊢
  cases h : signsL.find? fun g => Lib.hasPrefix s g with
  | none => rw [h] at hn; exact absurd rfl hn
  | some g =>
    rw [h] at hm
    have e : signsL.find? (fun g => Lib.hasPrefix (s.take m) g) = some g := by
      rw [List.find?_eq_some_iff_append] at h ⊢
      obtain ⟨hg, a, b, hab, hno⟩ := h
      have hgm : g.length ≤ m := hm
      refine ⟨?_, a, b, hab, fun x hx => ?_⟩
      · obtain ⟨r, hr⟩ := List.isPrefixOf_iff_prefix.1 hg
        refine List.isPrefixOf_iff_prefix.2 ?_
        rw [← hr, List.take_append, List.take_of_length_le hgm]
        exact ⟨_, rfl⟩
      · have := hno x hx
        cases hp : Lib.hasPrefix (s.take m) x with
        | false => rfl
        | true =>
          obtain ⟨r, hr⟩ := List.isPrefixOf_iff_prefix.1 hp
          have h2 : Lib.hasPrefix s x = true := by
            refine List.isPrefixOf_iff_prefix.2 ⟨r ++ s.drop m, ?_⟩
            rw [← List.append_assoc, hr, List.take_append_drop]
          rw [h2] at this
          simp at this
    rw [e]
/-- What is behind a token may be cut away. -/
theorem first_take {s g : List UInt8} {k : Nat} (h : firstL s = (k, g)) (hn : g ≠ []) (m : Nat) (hm : g.length ≤ m) : firstL (s.take m) = (k, g) := by
  have hm0 : 0 < m := by exact Nat.lt_of_lt_of_le (List.length_pos_iff.2 hn) hm
  obtain ⟨c, r, rfl, hc⟩ := first_cases h hn
  obtain ⟨m, rfl⟩ : ∃ n, m = n + 1 := ⟨m - 1, by omega⟩
  obtain ⟨f1, f2, f3, f4⟩ := first_of (c := c) (r := r.take m)
  rw [List.take_succ_cons]
  rcases hc with ⟨rfl, h1, h2⟩ | ⟨rfl, h0, h1, h2⟩ | ⟨rfl, rfl, x, q, h1, h2, h3⟩ | ⟨rfl, h0, h1, h2, h3⟩
  · rw [f1 h1, ← List.take_succ_cons, pre_take _ _ (by rw [← h2]; exact hm), h2]
  · rw [f2 h0 h1, ← List.take_succ_cons]
    obtain ⟨w, r0, e1, e2, e3⟩ := number_cases (c :: r)
    have hw := pre_mem (p := digitN) (c :: r)
    have hr := pre_split (p := digitN) (c :: r)
    rw [e2] at hw
    have hhead : ∀ x ∈ r0.head?, digitN x.toNat = false := by
      obtain ⟨r1, a1, a2⟩ := hr
      rw [e2, e1] at a1
      rw [List.append_cancel_left a1]
      exact a2
    rw [e1, List.take_append]
    rcases e3 with ⟨e4, e5⟩ | ⟨q, rfl, e5, e6⟩
    · rw [← h2] at e4
      subst e4
      rw [List.take_of_length_le hm, number_of g _ hw]
      · intro x hx
        cases r0 with
        | nil => simp at hx
        | cons y r0 =>
          cases hz : m + 1 - g.length with
          | zero => rw [hz] at hx; simp at hx
          | succ z => rw [hz] at hx; simp at hx; subst hx; exact hhead _ (by simp)
      · intro q hq
        cases r0 with
        | nil => simp at hq
        | cons y r0 =>
          cases hz : m + 1 - g.length with
          | zero => rw [hz] at hq; simp at hq
          | succ z =>
            rw [hz] at hq
            simp at hq
            obtain ⟨rfl, rfl⟩ := hq
            have := e5 r0 rfl
            rw [pre_take _ _ (by rw [this]; simp), this]
    · rw [← h2] at e6
      rw [e6] at hm
      simp at hm
      rw [List.take_of_length_le (by omega)]
      obtain ⟨z, hz⟩ : ∃ z, m + 1 - w.length = z + 1 := ⟨m - w.length, by omega⟩
      rw [hz, List.take_succ_cons]
      obtain ⟨q2, a1, a2⟩ := pre_split (p := digitN) q
      have ht : q.take z = pre digitN q ++ q2.take (z - (pre digitN q).length) := by
        conv => lhs; rw [a1]
        rw [List.take_append, List.take_of_length_le (by omega)]
      rw [ht, show w ++ 46 :: (pre digitN q ++ q2.take (z - (pre digitN q).length)) = w ++ 46 :: pre digitN q ++ q2.take (z - (pre digitN q).length) by simp, number_of2 w (pre digitN q) _ hw (pre_mem q) e5, e6]
      intro x hx
      cases q2 with
      | nil => simp at hx
      | cons y q2 =>
        cases hz2 : z - (pre digitN q).length with
        | zero => rw [hz2] at hx; simp at hx
        | succ z2 => rw [hz2] at hx; simp at hx; subst hx; exact a2 _ (by simp)
  · rw [f3 rfl]
    subst h1
    rw [h3] at hm
    simp at hm
    rw [List.take_append, List.take_of_length_le (by omega)]
    obtain ⟨z, hz⟩ : ∃ z, m - x.length = z + 1 := ⟨m - x.length - 1, by omega⟩
    rw [hz, List.take_succ_cons, string_of x _ h2, h3]
  · rw [f4 h0 h1 h2, ← List.take_succ_cons, sign_take _ _ (by rw [← h3]; exact hn) (by rw [← h3]; exact hm), h3]

theorem first_split {s g : List UInt8} {k : Nat} (h : firstL s = (k, g)) (hn : g ≠ []) : ∃ r, s = g ++ r := by
  obtain ⟨c, r, rfl, hc⟩ := first_cases h hn
  rcases hc with ⟨rfl, h1, h2⟩ | ⟨rfl, h0, h1, h2⟩ | ⟨rfl, rfl, x, q, h1, h2, h3⟩ | ⟨rfl, h0, h1, h2, h3⟩
  · obtain ⟨q, h3, _⟩ := pre_split (p := nameN) (c :: r)
    exact ⟨q, by rw [h2, ← h3]⟩
  · obtain ⟨w, r0, e1, e2, e3⟩ := number_cases (c :: r)
    rcases e3 with ⟨e4, e5⟩ | ⟨q, rfl, e5, e6⟩
    · exact ⟨r0, by rw [h2, e4, ← e1]⟩
    · obtain ⟨q2, a1, a2⟩ := pre_split (p := digitN) q
      refine ⟨q2, ?_⟩
      rw [h2, e6]
      conv => lhs; rw [e1, a1]
      simp
  · exact ⟨q, by rw [h1, h3]; simp⟩
  · rcases signL_cases (c :: r) with h4 | ⟨_, h4⟩
    · rw [← h3] at h4; exact absurd h4 hn
    · obtain ⟨q, hq⟩ := List.isPrefixOf_iff_prefix.1 h4
      exact ⟨q, by rw [h3, hq]⟩
/-- A token by itself. -/
theorem first_self {s g : List UInt8} {k : Nat} (h : firstL s = (k, g)) (hn : g ≠ []) : firstL g = (k, g) := by
  have h2 := first_take h hn g.length (Nat.le_refl _)
  obtain ⟨r, rfl⟩ := first_split h hn
  rwa [List.take_append_of_le_length (Nat.le_refl _), List.take_length] at h2

/-- What may stand behind every token. -/
def stopB (c : UInt8) : Bool := c == 32 || c == 10 || c == 59 || c == 44 || c == 41
def Stop (r : List UInt8) : Prop := ∀ c ∈ r.head?, stopB c = true
theorem stop_cases {c : UInt8} (h : stopB c = true) : c = 32 ∨ c = 10 ∨ c = 59 ∨ c = 44 ∨ c = 41 := by
  simp only [stopB, Bool.or_eq_true, beq_iff_eq, or_assoc] at h
  exact h
theorem stop_class {c : UInt8} (h : stopB c = true) : nameN c.toNat = false ∧ digitN c.toNat = false ∧ c ≠ 46 := by
  rcases stop_cases h with rfl | rfl | rfl | rfl | rfl <;> decide
theorem sign_stop : ∀ g ∈ signsL, ∀ (c : UInt8), stopB c = true → ∀ r, signL (g ++ c :: r) = g := by
  intro g hg c hc r
  have q : ∀ g ∈ signsL, ∀ c ∈ [(32 : UInt8), 10, 59, 44, 41], (signsL.find? fun x => Lib.hasPrefix (g ++ [c]) x) = some g ∧ g.length ≤ 2 := by decide
  have hc2 : c ∈ [(32 : UInt8), 10, 59, 44, 41] := by rcases stop_cases hc with rfl | rfl | rfl | rfl | rfl <;> simp
  obtain ⟨h1, h2⟩ := q g hg c hc2
  have q2 : ∀ x ∈ signsL, Lib.hasPrefix (g ++ c :: r) x = Lib.hasPrefix (g ++ [c]) x := by
    intro x hx
    have hx2 := signs_short x hx
    have hg1 : 0 < g.length := by
      have : ∀ g ∈ signsL, 0 < g.length := by decide
      exact this g hg
    rw [Bool.eq_iff_iff]
    unfold Lib.hasPrefix
    rw [List.isPrefixOf_iff_prefix, List.isPrefixOf_iff_prefix, show g ++ c :: r = (g ++ [c]) ++ r by simp]
    constructor
    · intro h
      exact List.prefix_of_prefix_length_le h (List.prefix_append _ _) (by simp; omega)
    · intro h
      exact h.trans (List.prefix_append _ _)
  unfold signL
  have e : (signsL.find? fun x => Lib.hasPrefix (g ++ c :: r) x) = signsL.find? fun x => Lib.hasPrefix (g ++ [c]) x := by
    have q3 : ∀ l : List (List UInt8), (∀ x ∈ l, Lib.hasPrefix (g ++ c :: r) x = Lib.hasPrefix (g ++ [c]) x) → (l.find? fun x => Lib.hasPrefix (g ++ c :: r) x) = l.find? fun x => Lib.hasPrefix (g ++ [c]) x := by
      intro l
      induction l with
      | nil => intro _; rfl
      | cons x l ih =>
        intro h
        simp only [List.find?_cons]
        rw [h x (by simp), ih fun y hy => h y (by simp [hy])]
    exact q3 signsL q2
  rw [e, h1]
  rfl
/-- A token is the same with a stop behind it. -/
theorem first_stop {g r : List UInt8} {k : Nat} (h : firstL g = (k, g)) (hn : g ≠ []) (hr : Stop r) : firstL (g ++ r) = (k, g) := by
  obtain ⟨c, g1, rfl, hc⟩ := first_cases h hn
  obtain ⟨f1, f2, f3, f4⟩ := first_of (c := c) (r := g1 ++ r)
  have hd : ∀ c ∈ r.head?, digitN c.toNat = false := fun c hc => (stop_class (hr c hc)).2.1
  rcases hc with ⟨rfl, h1, h2⟩ | ⟨rfl, h0, h1, h2⟩ | ⟨rfl, rfl, x, q, h1, h2, h3⟩ | ⟨rfl, h0, h1, h2, h3⟩
  · rw [List.cons_append, f1 h1, ← List.cons_append, pre_app _ _ (by rw [h2]; exact pre_mem _) fun c hc => (stop_class (hr c hc)).1]
  · rw [List.cons_append, f2 h0 h1, ← List.cons_append]
    obtain ⟨w, r0, e1, e2, e3⟩ := number_cases (c :: g1)
    have hw := pre_mem (p := digitN) (c :: g1)
    rw [e2] at hw
    rcases e3 with ⟨e4, e5⟩ | ⟨q, rfl, e5, e6⟩
    · rw [← h2] at e4
      rw [number_of _ _ (by rw [e4]; exact hw) hd]
      intro q hq
      subst hq
      exact absurd rfl (stop_class (hr 46 (by simp))).2.2
    · rw [← h2] at e6
      rw [e6, number_of2 w _ r hw (pre_mem q) e5 hd]
  · rw [List.cons_append, f3 rfl]
    injection h3 with _ h3
    rw [h3, show (x ++ [34]) ++ r = x ++ 34 :: r by simp, string_of x r h2]
  · rw [List.cons_append, f4 h0 h1 h2, ← List.cons_append]
    cases r with
    | nil => rw [List.append_nil, ← h3]
    | cons z r =>
      rcases signL_cases (c :: g1) with h4 | ⟨h4, _⟩
      · rw [← h3] at h4; exact absurd h4 hn
      · rw [← h3] at h4
        rw [sign_stop _ h4 z (hr z (by simp)) r]
/-- Signs that end by themselves. -/
def soloB (g : List UInt8) : Bool := g == [123] || g == [125] || g == [40] || g == [41] || g == [44] || g == [59]
theorem solo_cases {g : List UInt8} (h : soloB g = true) : g = [123] ∨ g = [125] ∨ g = [40] ∨ g = [41] ∨ g = [44] ∨ g = [59] := by
  simp only [soloB, Bool.or_eq_true, beq_iff_eq, or_assoc] at h
  exact h
theorem first_solo {g : List UInt8} (h : soloB g = true) (r : List UInt8) : firstL (g ++ r) = (3, g) := by
  rcases solo_cases h with rfl | rfl | rfl | rfl | rfl | rfl <;> rfl
theorem spell_text {s g : List UInt8} {k : Nat} (h : firstL s = (k, g)) (hn : g ≠ []) : spell k (textOf (k, g)) = g := by
  obtain ⟨c, r, rfl, hc⟩ := first_cases h hn
  unfold spell textOf
  rcases hc with ⟨rfl, h1, h2⟩ | ⟨rfl, h0, h1, h2⟩ | ⟨rfl, rfl, x, q, h1, h2, h3⟩ | ⟨rfl, h0, h1, h2, h3⟩
  · simp
  · simp
  · subst h3; simp
  · simp
end Go.Proofs.YtooajmbpncmgjaaGreatDoor.L
namespace Go.Proofs.YtooajmbpncmgjaaGreatDoor.L

theorem okL_ne {x : Nat × List UInt8} (h : okL x = true) : x.2 ≠ [] := by
  unfold okL at h
  intro e
  rw [e] at h
  simp at h
theorem toksR_fuel : ∀ (f f' pos : Nat) (r : List UInt8), r.length < f → r.length < f' → toksR f pos r = toksR f' pos r
  | 0, _, _, _, h, _ => by omega
  | _, 0, _, _, _, h => by omega
  | f + 1, f' + 1, pos, r, h, h' => by
    by_cases hr : r = []
    · subst hr; rw [toksR_nil, toksR_nil]
    · cases ho : okL (firstL r) with
      | false => rw [toksR_bad f pos r hr _ rfl ho, toksR_bad f' pos r hr _ rfl ho]
      | true =>
        have hn := List.length_pos_iff.2 (okL_ne ho)
        have hrl := List.length_pos_iff.2 hr
        have hl := rest_len false (r.drop (firstL r).2.length)
        simp at hl
        rw [toksR_step f pos r hr _ rfl ho, toksR_step f' pos r hr _ rfl ho, toksR_fuel f f' _ _ (by omega) (by omega)]

/-- The tokens of what is left of a source behind its first pos bytes. -/
def toks (pos : Nat) (s : List UInt8) : List Tok × Option Tok := toksR (s.length + 1) (pos + spaceL s) (rest false s)
theorem scan_toks (s : List UInt8) : scanL s = toks 0 s := by unfold scanL toks; rw [Nat.zero_add]
theorem toks_nil {pos : Nat} {s : List UInt8} (h : rest false s = []) : toks pos s = ([], none) := by unfold toks; rw [h, toksR_nil]
theorem toks_step {pos k : Nat} {s g r : List UInt8} (hs : rest false s = g ++ r) (hf : firstL (g ++ r) = (k, g)) (ho : okL (k, g) = true) :
    toks pos s = (mkTok (k, g) (pos + spaceL s) :: (toks (pos + spaceL s + g.length) r).1, (toks (pos + spaceL s + g.length) r).2) := by
  have hn : g ≠ [] := okL_ne ho
  have hlen := rest_len false s
  rw [hs, List.length_append] at hlen
  have hg := List.length_pos_iff.2 hn
  have hl := rest_len false r
  have hd : (g ++ r).drop g.length = r := by simp
  unfold toks
  rw [hs, toksR_step s.length (pos + spaceL s) (g ++ r) (by simp [hn]) _ hf ho]
  dsimp only
  rw [hd, toksR_fuel s.length (r.length + 1) _ _ (by omega) (by omega)]
theorem toks_cases (pos : Nat) (s : List UInt8) : (rest false s = [] ∧ toks pos s = ([], none)) ∨
    (∃ k g r, rest false s = g ++ r ∧ firstL (g ++ r) = (k, g) ∧ okL (k, g) = true ∧ toks pos s = (mkTok (k, g) (pos + spaceL s) :: (toks (pos + spaceL s + g.length) r).1, (toks (pos + spaceL s + g.length) r).2)) ∨
    ∃ t, toks pos s = ([], some t) := by
  by_cases h : rest false s = []
  · exact .inl ⟨h, toks_nil h⟩
  · cases ho : okL (firstL (rest false s)) with
    | false =>
      refine .inr (.inr ⟨mkTok (firstL (rest false s)) (pos + spaceL s), ?_⟩)
      unfold toks
      rw [toksR_bad s.length _ _ h _ rfl ho]
    | true =>
      obtain ⟨r, hr⟩ := first_split (s := rest false s) (k := (firstL (rest false s)).1) (g := (firstL (rest false s)).2) rfl (okL_ne ho)
      refine .inr (.inl ⟨(firstL (rest false s)).1, (firstL (rest false s)).2, r, hr, by rw [← hr], ho, ?_⟩)
      exact toks_step hr (by rw [← hr]) ho

/-- A token of a source s (offsets from pos on): there stands what it is. -/
structure TokAt (pos : Nat) (s : List UInt8) (t : Tok) : Prop where
  le : pos ≤ t.pos
  self : firstL (spell t.kind t.text) = (t.kind, spell t.kind t.text)
  ok : okL (t.kind, spell t.kind t.text) = true
  at' : ∃ r, s.drop (t.pos - pos) = spell t.kind t.text ++ r
theorem spell_mk {k pos : Nat} {g r : List UInt8} (hf : firstL (g ++ r) = (k, g)) (ho : okL (k, g) = true) : spell (mkTok (k, g) pos).kind (mkTok (k, g) pos).text = g := spell_text hf (okL_ne ho)
theorem toks_at : ∀ (n pos : Nat) (s : List UInt8), s.length < n → (∀ t ∈ (toks pos s).1, TokAt (pos + spaceL s) (rest false s) t) ∧ (toks pos s).1.Pairwise (fun a b => a.pos + (spell a.kind a.text).length ≤ b.pos)
  | 0, _, _, h => by omega
  | n + 1, pos, s, h => by
    rcases toks_cases pos s with ⟨_, e⟩ | ⟨k, g, r, hs, hf, ho, e⟩ | ⟨t, e⟩
    · rw [e]; simp
    · have hn : g ≠ [] := okL_ne ho
      have hlen := rest_len false s
      rw [hs, List.length_append] at hlen
      have hg := List.length_pos_iff.2 hn
      obtain ⟨ih1, ih2⟩ := toks_at n (pos + spaceL s + g.length) r (by omega)
      have hsp := spell_mk (pos := pos + spaceL s) hf ho
      have hk : (mkTok (k, g) (pos + spaceL s)).kind = k := rfl
      rw [e]
      constructor
      · intro t ht
        rcases List.mem_cons.1 ht with rfl | ht
        · refine ⟨Nat.le_refl _, ?_, ?_, r, ?_⟩
          · rw [hsp]; exact first_self hf hn
          · rw [hsp]; exact ho
          · rw [hsp, show (mkTok (k, g) (pos + spaceL s)).pos = pos + spaceL s from rfl, Nat.sub_self, hs]; rfl
        · obtain ⟨a1, a2, a3, q, a4⟩ := ih1 t ht
          refine ⟨by omega, a2, a3, q, ?_⟩
          rw [(rest_drop r).1, List.drop_drop] at a4
          rw [hs, show t.pos - (pos + spaceL s) = g.length + (spaceL r + (t.pos - (pos + spaceL s + g.length + spaceL r))) by omega, ← List.drop_drop]
          rw [show (g ++ r).drop g.length = r by simp]
          exact a4
      · refine List.pairwise_cons.2 ⟨fun t ht => ?_, ih2⟩
        rw [hsp]
        have := (ih1 t ht).le
        show pos + spaceL s + g.length ≤ t.pos
        omega
    · rw [e]; simp
/-- Each token of a source: where it stands. -/
theorem scan_at (s : List UInt8) : (∀ t ∈ (scanL s).1, TokAt 0 s t) ∧ (scanL s).1.Pairwise (fun a b => a.pos + (spell a.kind a.text).length ≤ b.pos) := by
  rw [scan_toks]
  obtain ⟨h1, h2⟩ := toks_at (s.length + 1) 0 s (Nat.lt_succ_self _)
  refine ⟨fun t ht => ?_, h2⟩
  obtain ⟨a1, a2, a3, q, a4⟩ := h1 t ht
  refine ⟨Nat.zero_le _, a2, a3, q, ?_⟩
  rw [(rest_drop s).1, List.drop_drop] at a4
  rw [← a4]
  congr 1
  omega
theorem TokAt.len {s : List UInt8} {t : Tok} (h : TokAt 0 s t) : t.pos + (spell t.kind t.text).length ≤ s.length := by
  obtain ⟨r, hr⟩ := h.at'
  have hn : 0 < (spell t.kind t.text).length := List.length_pos_iff.2 (okL_ne h.ok)
  have := congrArg List.length hr
  simp at this
  omega

theorem rest_take : ∀ (b : Bool) (s : List UInt8) (m : Nat), s.length - (rest b s).length ≤ m → rest b (s.take m) = (rest b s).take (m - (s.length - (rest b s).length)) ∧ (s.take m).length - (rest b (s.take m)).length = s.length - (rest b s).length
  | b, [], m, _ => by simp [rest]
  | false, c :: r, 0, h => by
    have hl : (rest false (c :: r)).length = (c :: r).length := by have := rest_len false (c :: r); omega
    rw [hl]
    simp [rest]
  | true, c :: r, 0, h => by
    have hl : (rest true (c :: r)).length = (c :: r).length := by have := rest_len true (c :: r); omega
    rw [hl]
    simp [rest]
  | false, c :: r, m + 1, h => by
    have l1 := rest_len false r
    have l2 := rest_len true r
    rw [List.take_succ_cons]
    simp only [rest] at h ⊢
    by_cases hb : blankB c = true
    · rw [if_pos hb] at h ⊢
      rw [if_pos hb]
      simp only [List.length_cons] at h ⊢
      obtain ⟨a1, a2⟩ := rest_take false r m (by omega)
      have l3 := rest_len false (r.take m)
      rw [a1] at a2 l3 ⊢
      exact ⟨by congr 1; omega, by omega⟩
    · rw [if_neg hb] at h ⊢
      rw [if_neg hb]
      by_cases hc : (c == 35) = true
      · rw [if_pos hc] at h ⊢
        rw [if_pos hc]
        simp only [List.length_cons] at h ⊢
        obtain ⟨a1, a2⟩ := rest_take true r m (by omega)
        have l3 := rest_len true (r.take m)
        rw [a1] at a2 l3 ⊢
        exact ⟨by congr 1; omega, by omega⟩
      · rw [if_neg hc] at h ⊢
        rw [if_neg hc]
        simp
  | true, c :: r, m + 1, h => by
    have l1 := rest_len false r
    have l2 := rest_len true r
    rw [List.take_succ_cons]
    simp only [rest] at h ⊢
    by_cases hb : (c == 10) = true
    · rw [if_pos hb] at h ⊢
      rw [if_pos hb]
      simp only [List.length_cons] at h ⊢
      obtain ⟨a1, a2⟩ := rest_take false r m (by omega)
      have l3 := rest_len false (r.take m)
      rw [a1] at a2 l3 ⊢
      exact ⟨by congr 1; omega, by omega⟩
    · rw [if_neg hb] at h ⊢
      rw [if_neg hb]
      simp only [List.length_cons] at h ⊢
      obtain ⟨a1, a2⟩ := rest_take true r m (by omega)
      have l3 := rest_len true (r.take m)
      rw [a1] at a2 l3 ⊢
      exact ⟨by congr 1; omega, by omega⟩
theorem space_take (s : List UInt8) (m : Nat) (h : spaceL s ≤ m) : rest false (s.take m) = (rest false s).take (m - spaceL s) ∧ spaceL (s.take m) = spaceL s := rest_take false s m h

/-- A source that is cut at one of its tokens has the tokens before it. -/
theorem toks_cut : ∀ (l1 : List Tok) (pos : Nat) (s : List UInt8) (t : Tok) (l2 : List Tok) (o : Option Tok), toks pos s = (l1 ++ t :: l2, o) → toks pos (s.take (t.pos - pos)) = (l1, none)
  | [], pos, s, t, l2, o, h => by
    rcases toks_cases pos s with ⟨_, e⟩ | ⟨k, g, r, hs, hf, ho, e⟩ | ⟨t, e⟩
    · rw [e] at h; simp at h
    · rw [e] at h
      injection h with h1 h2
      injection h1 with h1 h3
      subst h1
      obtain ⟨a1, a2⟩ := space_take s (spaceL s) (Nat.le_refl _)
      rw [show (mkTok (k, g) (pos + spaceL s)).pos - pos = spaceL s from Nat.add_sub_cancel_left _ _]
      exact toks_nil (by rw [a1]; simp)
    · rw [e] at h; simp at h
  | a :: l1, pos, s, t, l2, o, h => by
    rcases toks_cases pos s with ⟨_, e⟩ | ⟨k, g, r, hs, hf, ho, e⟩ | ⟨t, e⟩
    · rw [e] at h; simp at h
    · have hn : g ≠ [] := okL_ne ho
      rw [e] at h
      injection h with h1 h2
      injection h1 with h1 h3
      have hle : pos + spaceL s + g.length ≤ t.pos := by
        have h4 := (toks_at (r.length + 1) (pos + spaceL s + g.length) r (Nat.lt_succ_self _)).1 t (by rw [h3]; simp)
        have := h4.le
        omega
      have ih := toks_cut l1 (pos + spaceL s + g.length) r t l2 o (Prod.ext h3 h2)
      obtain ⟨a1, a2⟩ := space_take s (t.pos - pos) (by omega)
      have e2 : rest false (s.take (t.pos - pos)) = g ++ r.take (t.pos - (pos + spaceL s + g.length)) := by
        rw [a1, hs, List.take_append, List.take_of_length_le (by omega)]
        congr 2
        omega
      have hf2 : firstL (g ++ r.take (t.pos - (pos + spaceL s + g.length))) = (k, g) := by
        have := first_take hf hn (g.length + (t.pos - (pos + spaceL s + g.length))) (by omega)
        rwa [List.take_append, List.take_of_length_le (by omega), Nat.add_sub_cancel_left] at this
      rw [toks_step e2 hf2 ho, a2, ih, ← h1]
    · rw [e] at h; simp at h
theorem scan_cut {s : List UInt8} {l1 l2 : List Tok} {t : Tok} {o : Option Tok} (h : scanL s = (l1 ++ t :: l2, o)) : scanL (s.take t.pos) = (l1, none) := by
  rw [scan_toks] at h ⊢
  exact toks_cut l1 0 s t l2 o h
end Go.Proofs.YtooajmbpncmgjaaGreatDoor.L
