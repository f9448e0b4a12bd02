/- Layer 15's written trees: values, plainly. -/
import Derived.Test.YtooajmbpncmgjaaGreatDoorNodeF
import Derived.Test.YtooajmbpncmgjaaGreatDoorUnitD
namespace Go.Proofs.YtooajmbpncmgjaaGreatDoor.Tr

/-- A value as it is written; d: a bound of its depth. -/
def writeV : Nat → Tree → List UInt8
  | 0, _ => []
  | d + 1, t =>
    if t.kind = 4 then 34 :: (t.text ++ [34]) else if t.kind = 5 then U.writeU t.num t.dim
    else if t.kind = 6 then 40 :: (Lib.join (t.kids.map (writeV d)) [44, 32] ++ [41]) else t.text
def nodes : Nat → Tree → Nat
  | 0, _ => 1
  | d + 1, t => 1 + (t.kids.map (nodes d)).sum
theorem nodes_pos : ∀ (d : Nat) (t : Tree), 1 ≤ nodes d t
  | 0, _ => by simp [nodes]
  | d + 1, t => by unfold nodes; omega
theorem join_sum (c : Nat) (f : Tree → List UInt8) (n : Tree → Nat) (l : List Tree) (h : ∀ t ∈ l, (f t).length + 2 ≤ c * n t) : (Lib.join (l.map f) [44, 32]).length ≤ c * (l.map n).sum := by
  cases l with
  | nil => simp [Lib.join_nil]
  | cons x r =>
    have q : ∀ (r : List Tree), (∀ t ∈ r, (f t).length + 2 ≤ c * n t) → Lib.lens (r.map f) + 2 * r.length ≤ c * (r.map n).sum := fun r => by
      induction r with
      | nil => intro _; simp [Lib.lens]
      | cons x r ih =>
        intro h
        have h1 := h x (by simp)
        have h2 := ih fun t ht => h t (by simp [ht])
        simp only [List.map_cons, List.sum_cons, List.length_cons, Nat.mul_add] at h2 ⊢
        have : Lib.lens (f x :: r.map f) = (f x).length + Lib.lens (r.map f) := by simp [Lib.lens]
        omega
    have h1 := h x (by simp)
    have h2 := q r fun t ht => h t (by simp [ht])
    simp only [List.map_cons, List.sum_cons, Nat.mul_add]
    rw [Lib.join_cons, List.length_append, Lib.joinTail_length]
    simp only [List.length_map, List.length_cons, List.length_nil]
    omega
theorem writeU_len (n d : Int) : (U.writeU n d).length ≤ 1000 := by
  unfold U.writeU
  split
  · simp
  · rename_i h
    have h1 := itoa_len n (by omega) (by omega)
    split
    · rename_i nm hb
      have h2 : nm.length ≤ 100 := by
        unfold U.baseName at hb
        obtain ⟨u, hu, rfl⟩ := Option.map_eq_some_iff.1 hb
        have q : ∀ u ∈ U.unitTab, u.1.length ≤ 100 := by decide +kernel
        exact q u (List.mem_of_find?_eq_some hu)
      split
      · omega
      · simp; omega
    · simp
theorem writeV_len : ∀ (d : Nat) (t : Tree), Tr.Short d t → (writeV d t).length + 2 ≤ 1000010 * nodes d t
  | 0, t, _ => by simp [writeV, nodes]
  | d + 1, t, ⟨h1, h2⟩ => by
    have ih := join_sum 1000010 (writeV d) (nodes d) t.kids fun k hk => writeV_len d k (h2 k hk)
    have hw := writeU_len t.num t.dim
    unfold writeV nodes
    rw [Nat.mul_add]
    split
    · simp; omega
    · split
      · omega
      · split
        · simp; omega
        · omega
end Go.Proofs.YtooajmbpncmgjaaGreatDoor.Tr
