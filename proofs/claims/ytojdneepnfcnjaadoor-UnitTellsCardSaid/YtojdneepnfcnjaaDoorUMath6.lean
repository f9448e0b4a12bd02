/- The reference's units and digits, plainly. -/
import Derived.Test.YtojdneepnfcnjaaDoorUMath5
namespace Go.Proofs.YtojdneepnfcnjaaDoor.U

/-- bourneref14.Factor's table. -/
def facTab : List (List UInt8 × (Nat × Nat × Nat × Nat)) := [
  ([], (0, 1, 0, 1)),
  ([108], (1, 1, 0, 1)),
  ([109, 51], (1, 1, 3, 1)),
  ([77, 76], (1, 1, 6, 1)),
  ([71, 76], (1, 1, 9, 1)),
  ([108, 112, 104], (2, 1, 0, 1)),
  ([108, 112, 115], (2, 36, 2, 1)),
  ([109, 51, 112, 115], (2, 36, 5, 1)),
  ([77, 76, 112, 100], (2, 1, 6, 24)),
  ([109, 109], (3, 1, 0, 1)),
  ([99, 109], (3, 1, 1, 1)),
  ([109], (3, 1, 3, 1)),
  ([104], (4, 1, 0, 1)),
  ([100], (4, 24, 0, 1)),
  ([109, 50], (5, 1, 0, 1)),
  ([104, 97], (5, 1, 4, 1)),
  ([107, 109, 50], (5, 1, 6, 1)),
  ([112, 101, 114, 109, 105, 108, 108, 101], (6, 1, 0, 1)),
  ([112, 101, 114, 99, 101, 110, 116], (6, 1, 1, 1))]
/-- bourneref14.Factor -/
def facOf (name : List UInt8) : Option (Nat × Nat × Nat × Nat) := (facTab.find? fun u => u.1 == name).map (·.2)

theorem fac_units : (facTab.map (·.1)).Perm (unitTab.map (·.1)) ∧ ∀ u ∈ unitTab, ∃ v, facOf u.1 = some v ∧ v.1 = u.2.1 ∧ u.2.2.1 * v.2.2.2 = v.2.1 * 10 ^ v.2.2.1 * u.2.2.2 ∧ v.2.1 ≤ 36 ∧ v.2.2.1 ≤ 9 ∧ v.2.2.2 ≤ 24 := ⟨by decide +kernel, by decide +kernel⟩

/-- A list of digits, most significant first. -/
def valL : List Nat → Nat
  | [] => 0
  | d :: r => d * 10 ^ r.length + valL r
theorem valL_drop (E : List Nat) (k : Nat) (h : k < E.length) : valL (E.drop k) = E[k] * 10 ^ (E.length - (k + 1)) + valL (E.drop (k + 1)) := by
  rw [List.drop_eq_getElem_cons h]
  simp only [valL, List.length_drop]
theorem valL_append (a b : List Nat) : valL (a ++ b) = valL a * 10 ^ b.length + valL b := by
  induction a with
  | nil => simp [valL]
  | cons x r ih => simp only [List.cons_append, valL, ih, List.length_append, Nat.pow_add, Nat.add_mul, Nat.mul_assoc, Nat.add_assoc]
theorem valL_lt (a : List Nat) (h : ∀ d ∈ a, d < 10) : valL a < 10 ^ a.length := by
  induction a with
  | nil => simp [valL]
  | cons x r ih =>
    have h1 := ih fun d hd => h d (List.mem_cons_of_mem _ hd)
    have h2 := h x (List.mem_cons_self ..)
    simp only [valL, List.length_cons, Nat.pow_succ]
    have : x * 10 ^ r.length ≤ 9 * 10 ^ r.length := Nat.mul_le_mul_right _ (by omega)
    omega
/-- The same length and number: the same digits. -/
theorem valL_inj : ∀ (a b : List Nat), a.length = b.length → (∀ d ∈ a, d < 10) → (∀ d ∈ b, d < 10) → valL a = valL b → a = b
  | [], [], _, _, _, _ => rfl
  | x :: r, y :: t, hl, ha, hb, hv => by
    have h1 := valL_lt r fun d hd => ha d (List.mem_cons_of_mem _ hd)
    have h2 := valL_lt t fun d hd => hb d (List.mem_cons_of_mem _ hd)
    have hlt : r.length = t.length := by simpa using hl
    simp only [valL, hlt] at hv h1
    have hxy : x = y := by
      rcases Nat.lt_trichotomy x y with h | h | h
      · have : (x + 1) * 10 ^ t.length ≤ y * 10 ^ t.length := Nat.mul_le_mul_right _ h
        rw [Nat.add_mul] at this
        omega
      · exact h
      · have : (y + 1) * 10 ^ t.length ≤ x * 10 ^ t.length := Nat.mul_le_mul_right _ h
        rw [Nat.add_mul] at this
        omega
    subst hxy
    rw [valL_inj r t hlt (fun d hd => ha d (List.mem_cons_of_mem _ hd)) (fun d hd => hb d (List.mem_cons_of_mem _ hd)) (by omega)]
theorem valL_digs (l : List UInt8) : valL (l.map fun c => c.toNat - 48) = digVal l := by
  induction l with
  | nil => rfl
  | cons x r ih => rw [List.map_cons, valL, ih, digVal_cons, List.length_map]
end Go.Proofs.YtojdneepnfcnjaaDoor.U
