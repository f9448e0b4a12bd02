/- Layer 15's written trees, plainly: by the tree's own structure; a whole file. -/
import Derived.Test.YtooajmbpncmgjaaGreatDoorNodeH
namespace Go.Proofs.YtooajmbpncmgjaaGreatDoor.Tr

mutual
/-- A value as it is written. -/
def wrV : Tree → List UInt8
  | ⟨k, x, n, d, _, l⟩ => if k = 4 then 34 :: (x ++ [34]) else if k = 5 then U.writeU n d else if k = 6 then 40 :: (wrG l ++ [41]) else x
def wrG : List Tree → List UInt8
  | [] => []
  | t :: r => wrV t ++ wrT r
def wrT : List Tree → List UInt8
  | [] => []
  | t :: r => 44 :: 32 :: (wrV t ++ wrT r)
end
theorem wrV_eq (t : Tree) : wrV t = if t.kind = 4 then 34 :: (t.text ++ [34]) else if t.kind = 5 then U.writeU t.num t.dim else if t.kind = 6 then 40 :: (wrG t.kids ++ [41]) else t.text := by cases t; rw [wrV]
theorem wrT_join : ∀ l : List Tree, wrT l = Lib.joinTail [44, 32] (l.map wrV)
  | [] => by simp [wrT, Lib.joinTail]
  | t :: r => by rw [wrT, wrT_join r]; simp [Lib.joinTail]
theorem wrG_join (l : List Tree) : wrG l = Lib.join (l.map wrV) [44, 32] := by
  cases l with
  | nil => simp [wrG, Lib.join_nil]
  | cons t r => rw [wrG, wrT_join, List.map_cons, Lib.join_cons]
/-- d: a bound of the depth. -/
def Deep : Nat → Tree → Prop
  | 0, _ => False
  | d + 1, t => ∀ k ∈ t.kids, Deep d k
theorem writeV_eq : ∀ (d : Nat) (t : Tree), Deep d t → writeV d t = wrV t
  | 0, _, h => h.elim
  | d + 1, t, h => by
    unfold writeV
    rw [wrV_eq, wrG_join, List.map_congr_left fun k hk => writeV_eq d k (h k hk)]
/-- A value behind a space. -/
def wrS (t : Tree) : List UInt8 := 32 :: wrV t
/-- A property. -/
def wrP (t : Tree) : List UInt8 := 32 :: 32 :: (t.text ++ (t.kids.flatMap wrS ++ [59, 10]))
/-- The number of words ahead of the properties. -/
def words (l : List Tree) : Nat := (l.takeWhile fun t => t.kind != 2).length
/-- A declaration. -/
def wrD (t : Tree) : List UInt8 := t.text ++ ((t.kids.take (words t.kids)).flatMap wrS ++ (32 :: 123 :: 10 :: ((t.kids.drop (words t.kids)).flatMap wrP ++ [125, 10])))
/-- A file. -/
def wrF (t : Tree) : List UInt8 := t.kids.flatMap wrD

theorem words_le (l : List Tree) : words l ≤ l.length := (List.takeWhile_prefix _).length_le
theorem words_at : ∀ (l : List Tree) (k : Nat) (h : k < l.length), (k < words l → l[k].kind ≠ 2) ∧ (k = words l → l[k].kind = 2)
  | [], k, h => by simp at h
  | t :: r, k, h => by
    unfold words
    by_cases ht : t.kind = 2
    · have e : (t :: r).takeWhile (fun t => t.kind != 2) = [] := by simp [ht]
      rw [e]
      refine ⟨fun h => by simp at h, fun h => ?_⟩
      subst h
      exact ht
    · have e : (t :: r).takeWhile (fun t => t.kind != 2) = t :: r.takeWhile fun t => t.kind != 2 := by simp [ht]
      rw [e]
      cases k with
      | zero => exact ⟨fun _ => ht, fun h => by simp at h⟩
      | succ k =>
        have ih := words_at r k (by simpa using h)
        unfold words at ih
        refine ⟨fun h => ih.1 (by simpa using h), fun h => ih.2 (by simpa using h)⟩
theorem flat_take {α : Type} (f : α → List UInt8) (l : List α) (k : Nat) (h : k < l.length) : (l.take (k + 1)).flatMap f = (l.take k).flatMap f ++ f l[k] := by
  rw [List.take_succ_eq_append_getElem h, List.flatMap_append]
  simp
theorem flat_len {α : Type} (f : α → List UInt8) (l : List α) (k : Nat) (h : k < l.length) : ((l.take k).flatMap f).length + (f l[k]).length ≤ (l.flatMap f).length := by
  have e : l.flatMap f = (l.take (k + 1)).flatMap f ++ (l.drop (k + 1)).flatMap f := by rw [← List.flatMap_append, List.take_append_drop]
  rw [e, flat_take f l k h]
  simp
/-- A file's size. -/
theorem wrV_len (d : Nat) (t : Tree) (h : Deep d t) (hs : Short d t) : (wrV t).length + 2 ≤ 1000010 * nodes d t := by
  rw [← writeV_eq d t h]; exact writeV_len d t hs
theorem flat_nodes (c : Nat) (f : Tree → List UInt8) (n : Tree → Nat) : ∀ (l : List Tree), (∀ t ∈ l, (f t).length ≤ c * n t) → (l.flatMap f).length ≤ c * (l.map n).sum
  | [], _ => by simp
  | t :: r, h => by
    have h1 := h t (by simp)
    have h2 := flat_nodes c f n r fun x hx => h x (by simp [hx])
    simp only [List.flatMap_cons, List.length_append, List.map_cons, List.sum_cons, Nat.mul_add]
    omega
theorem wrS_len (d : Nat) (t : Tree) (h : Deep d t) (hs : Short d t) : (wrS t).length ≤ 1000010 * nodes d t := by
  have := wrV_len d t h hs
  simp [wrS]; omega
theorem wrP_len (d : Nat) (t : Tree) (h : Deep d t) (hs : Short d t) : (wrP t).length ≤ 1000010 * nodes d t := by
  cases d with
  | zero => exact h.elim
  | succ d =>
    have h1 := flat_nodes 1000010 wrS (nodes d) t.kids fun k hk => wrS_len d k (h k hk) (hs.2 k hk)
    have := hs.1
    unfold wrP nodes
    rw [Nat.mul_add]
    simp only [List.length_cons, List.length_append, List.length_nil]
    omega
theorem sum_split (n : Tree → Nat) (l : List Tree) (k : Nat) : (l.map n).sum = ((l.take k).map n).sum + ((l.drop k).map n).sum := by
  rw [← List.sum_append, ← List.map_append, List.take_append_drop]
theorem wrD_len (d : Nat) (t : Tree) (h : Deep d t) (hs : Short d t) : (wrD t).length ≤ 1000010 * nodes d t := by
  cases d with
  | zero => exact h.elim
  | succ d =>
    have h1 := flat_nodes 1000010 wrS (nodes d) (t.kids.take (words t.kids)) fun k hk => wrS_len d k (h k (List.mem_of_mem_take hk)) (hs.2 k (List.mem_of_mem_take hk))
    have h2 := flat_nodes 1000010 wrP (nodes d) (t.kids.drop (words t.kids)) fun k hk => wrP_len d k (h k (List.mem_of_mem_drop hk)) (hs.2 k (List.mem_of_mem_drop hk))
    have h3 := sum_split (nodes d) t.kids (words t.kids)
    have := hs.1
    unfold wrD nodes
    rw [Nat.mul_add, h3, Nat.mul_add]
    simp only [List.length_cons, List.length_append, List.length_nil]
    omega
theorem wrF_len (d : Nat) (t : Tree) (h : Deep d t) (hs : Short d t) : (wrF t).length ≤ 1000010 * nodes d t := by
  cases d with
  | zero => exact h.elim
  | succ d =>
    have h1 := flat_nodes 1000010 wrD (nodes d) t.kids fun k hk => wrD_len d k (h k hk) (hs.2 k hk)
    unfold wrF nodes
    rw [Nat.mul_add]
    omega
theorem nodes_kid (d : Nat) (k : Tree) : ∀ l : List Tree, k ∈ l → nodes d k ≤ (l.map (nodes d)).sum := fun l => by
  induction l with
  | nil => intro h; cases h
  | cons x r ih =>
    intro h
    rcases List.mem_cons.1 h with rfl | h
    · simp
    · have := ih h; simp; omega
end Go.Proofs.YtooajmbpncmgjaaGreatDoor.Tr
namespace Go.Proofs.YtooajmbpncmgjaaGreatDoor
open Go.RowKit
theorem NodeRd.deep {w : World} {lim : Nat} : ∀ (d : Nat) (v : Value) (t : Tr.Tree), NodeRd w lim d v t → Tr.Deep d t
  | 0, _, _, h => h.elim
  | d + 1, v, t, ⟨o, c, vs, h1, h2, h3, h4, h5, h6⟩ => fun k hk => by
      obtain ⟨i, hi, rfl⟩ := List.getElem_of_mem hk
      have hm : (vs[i]'(by omega), t.kids[i]) ∈ vs.zip t.kids := by
        rw [List.mem_iff_getElem]
        exact ⟨i, by simp; omega, by simp⟩
      exact NodeRd.deep d _ _ (h6 _ hm)
/-- tree.write, by the tree's own structure. -/
theorem writev_any {m d : Nat} {w : World} {lim : Nat} {v : Value} {t : Tr.Tree} (hv : Tr.valueB m t = true) (h : NodeRd w lim d v t) (hl : lim ≤ w.heap.size) (hs : Std w) (hn : Tr.nodes d t ≤ 100000) :
    Calls Tryz.prog 19 #[v] w fun e w' => e = .returned (.string ⟨(Tr.wrV t).toArray⟩) ∧ Below w.heap.size w w' := by
  rw [← Tr.writeV_eq d t (NodeRd.deep _ _ _ h)]
  exact write_any m d w lim v t hv h hl hs hn
end Go.Proofs.YtooajmbpncmgjaaGreatDoor
