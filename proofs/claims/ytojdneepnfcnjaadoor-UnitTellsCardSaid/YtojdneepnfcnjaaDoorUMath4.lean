/- The reference's Split, as a function of the text; and numbers with zeros more. -/
import Derived.Test.YtojdneepnfcnjaaDoorUMath3
namespace Go.Proofs.YtojdneepnfcnjaaDoor.U

theorem cutDot_snoc (p : List UInt8) (c : UInt8) : cutDot (p ++ [c]) =
    if (cutDot p).2.2 then ((cutDot p).1, (cutDot p).2.1 ++ [c], true) else if c == 46 then ((cutDot p).1, [], true) else ((cutDot p).1 ++ [c], [], false) := by
  induction p with
  | nil => simp [cutDot]
  | cons x r ih =>
    simp only [List.cons_append, cutDot]
    by_cases h : (x == 46) = true
    · simp [h]
    · simp only [h, Bool.false_eq_true, if_false, ih]
      by_cases h2 : (cutDot r).2.2 = true
      · simp [h2]
      · simp only [h2, Bool.false_eq_true, if_false]
        by_cases h3 : (c == 46) = true
        · simp [h3]
        · simp [h3]
theorem cutDot_none (p : List UInt8) (h : (cutDot p).2.2 = false) : (cutDot p).2.1 = [] := by
  induction p with
  | nil => rfl
  | cons x r ih =>
    unfold cutDot at h ⊢
    by_cases h1 : (x == 46) = true
    · simp [h1] at h
    · simp only [h1, Bool.false_eq_true, if_false] at h ⊢
      exact ih h
theorem cutDot_len (p : List UInt8) : (cutDot p).1.length + (cutDot p).2.1.length ≤ p.length := by
  induction p with
  | nil => simp [cutDot]
  | cons x r ih =>
    unfold cutDot
    by_cases h1 : (x == 46) = true
    · simp [h1]
    · simp only [h1, Bool.false_eq_true, if_false, List.length_cons]
      omega

/-- Whether a text is of digits, with one point at most. -/
def plain (s : List UInt8) : Bool := (cutDot s).1.all isDig && (cutDot s).2.1.all isDig
/-- bourneref14.Split: the digits, how many stand behind the point, whether it is a number. -/
def splitR (s : List UInt8) : List UInt8 × Nat × Bool :=
  if plain s then ((cutDot s).1 ++ (cutDot s).2.1, (cutDot s).2.1.length,
    decide (1 ≤ (cutDot s).1.length) && decide ((cutDot s).1.length ≤ 20) && decide ((cutDot s).2.1.length ≤ 9) && ((cutDot s).2.2 == decide (0 < (cutDot s).2.1.length)))
  else ([], 0, false)

/-- A byte that is neither a digit nor the first point spoils every text that begins so. -/
theorem plain_bad (p : List UInt8) (c : UInt8) (r : List UInt8) (hc : isDig c = false) (h : (cutDot p).2.2 = true ∨ (c == 46) = false) : plain (p ++ c :: r) = false := by
  induction p with
  | nil =>
    rcases h with h | h
    · cases h
    · simp [plain, cutDot, h, hc]
  | cons x q ih =>
    by_cases hx : (x == 46) = true
    · simp [plain, cutDot, hx, hc]
    · have h' : (cutDot q).2.2 = true ∨ (c == 46) = false := by
        rcases h with h | h
        · left; simpa [cutDot, hx] using h
        · exact .inr h
      have := ih h'
      simp only [plain, List.cons_append, cutDot, hx, Bool.false_eq_true, if_false, List.all_cons] at this ⊢
      rw [Bool.and_assoc, this, Bool.and_false]

/-- A number is what Amount takes for one. -/
theorem split_bad (s : List UInt8) : (splitR s).2.2 = !(!digitsB (cutDot s).1 20 || ((cutDot s).2.2 && !digitsB (cutDot s).2.1 9)) := by
  unfold splitR plain digitsB
  generalize hA : (cutDot s).1 = A
  generalize hB : (cutDot s).2.1 = B
  cases hf : (cutDot s).2.2 with
  | false =>
    have hB0 : B = [] := by rw [← hB]; exact cutDot_none s hf
    subst hB0
    cases hall : A.all isDig with
    | false => simp
    | true =>
      cases A with
      | nil => simp
      | cons x r => simp
  | true =>
    cases hall : A.all isDig with
    | false => simp
    | true =>
      cases hall2 : B.all isDig with
      | false => simp
      | true =>
        cases A with
        | nil => simp
        | cons x r =>
          cases B with
          | nil => simp
          | cons y q => simp [Bool.and_comm]
end Go.Proofs.YtojdneepnfcnjaaDoor.U
