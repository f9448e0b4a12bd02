/- Layer 15's trees as they are read: whatever memory holds the kids. -/
import Derived.Test.YtooajmbpncmgjaaGreatDoorTreeT
namespace Go.Proofs.YtooajmbpncmgjaaGreatDoor
open Go.RowKit

theorem add_block (a : Addr) (n : Nat) : (a.add n).block = a.block := by unfold Addr.add; split <;> rfl
theorem add_zero_off (g n : Nat) : (⟨g, 0, none⟩ : Addr).add n = ⟨g, n, none⟩ := by unfold Addr.add; split <;> simp_all
theorem add_add (a : Addr) (n m : Nat) : (a.add n).add m = a.add (n + m) := by
  unfold Addr.add
  by_cases h1 : n = 0
  · by_cases h2 : m = 0 <;> simp [h1, h2]
  · by_cases h2 : m = 0 <;> simp [h1, h2, Nat.add_assoc]

/-- The value v is the tree t, d: a bound of its depth; its kids lie below block lim. -/
def NodeRd (w : World) (lim : Nat) : Nat → Value → Tr.Tree → Prop
  | 0, _, _ => False
  | d + 1, v, t => ∃ (o : Option Addr) (c : Nat) (vs : List Value), v = .agg #[.int .i64 t.kind, .string ⟨t.text.toArray⟩, .int .i64 t.num, .int .i64 t.dim, .int .i64 t.pos, .slice o t.kids.length c] ∧ vs.length = t.kids.length ∧ (t.kids.length ≤ maxLen ∧ t.kids.length ≤ c) ∧
      t.text.length ≤ 1000000 ∧ (∀ i (h : i < vs.length), ∃ a, o = some a ∧ a.block < lim ∧ ∀ j, j < 6 → w.cell? (a.add (i * 6 + j)) = vs[i].cells[j]?) ∧ ∀ p ∈ vs.zip t.kids, NodeRd w lim d p.1 p.2

theorem NodeRd.kept {w w' : World} {lim : Nat} (hb : Below lim w w') : ∀ (d : Nat) (v : Value) (t : Tr.Tree), NodeRd w lim d v t → NodeRd w' lim d v t
  | 0, _, _, h => h.elim
  | d + 1, v, t, ⟨o, c, vs, h1, h2, h3, h4, h5, h6⟩ => ⟨o, c, vs, h1, h2, h3, h4, fun i hi => by
      obtain ⟨a, ha, hl, hc⟩ := h5 i hi
      exact ⟨a, ha, hl, fun j hj => (hb.cell (p := a.add (i * 6 + j)) (by rw [add_block]; exact hl)).trans (hc j hj)⟩, fun p hp => NodeRd.kept hb d p.1 p.2 (h6 p hp)⟩
theorem NodeRd.wide {w : World} {lim lim' : Nat} (hl : lim ≤ lim') : ∀ (d : Nat) (v : Value) (t : Tr.Tree), NodeRd w lim d v t → NodeRd w lim' d v t
  | 0, _, _, h => h.elim
  | d + 1, v, t, ⟨o, c, vs, h1, h2, h3, h4, h5, h6⟩ => ⟨o, c, vs, h1, h2, h3, h4, fun i hi => by
      obtain ⟨a, ha, h, hc⟩ := h5 i hi
      exact ⟨a, ha, Nat.lt_of_lt_of_le h hl, hc⟩, fun p hp => NodeRd.wide hl d p.1 p.2 (h6 p hp)⟩
/-- All texts are short. -/
def Tr.Short : Nat → Tr.Tree → Prop
  | 0, _ => True
  | d + 1, t => t.text.length ≤ 1000000 ∧ ∀ k ∈ t.kids, Tr.Short d k
theorem NodeIn.read {w : World} {S : Nat → Prop} {lim : Nat} (hS : ∀ b, S b → b < lim) : ∀ (d : Nat) (v : Value) (t : Tr.Tree), Tr.Short d t → NodeIn w S d v t → NodeRd w lim d v t
  | 0, _, _, _, h => h.elim
  | d + 1, v, t, ⟨s1, s2⟩, ⟨kv, vs, h1, h2, h3, h4, h5⟩ => by
    have hk : ∀ p ∈ vs.zip t.kids, NodeRd w lim d p.1 p.2 := fun p hp => NodeIn.read hS d p.1 p.2 (s2 _ (List.of_mem_zip hp).2) (h5 p hp)
    have h6 : ∀ v ∈ vs, v.cells.toList.length = 6 := fun v hv => by
      obtain ⟨i, hi, rfl⟩ := List.getElem_of_mem hv
      have hm : (vs[i], t.kids[i]) ∈ vs.zip t.kids := by
        rw [List.mem_iff_getElem]
        exact ⟨i, by simp; omega, by simp⟩
      obtain ⟨a, n, c, e⟩ := (h5 _ hm).form
      dsimp only at e
      rw [e]
      rfl
    rcases h2.2 with ⟨e, e0⟩ | ⟨g, cap, cur, e, hb, hg, hc, hm, hsz, htk⟩
    · refine ⟨none, 0, vs, by rw [h1, e, e0], h3, by rw [e0]; exact ⟨Nat.zero_le _, Nat.zero_le _⟩, s1, fun i hi => by omega, hk⟩
    · subst e
      refine ⟨some ⟨g, 0, none⟩, cap, vs, h1, h3, ⟨Nat.le_trans hc hm, hc⟩, s1, fun i hi => ⟨_, rfl, hS g (h4 g rfl), fun j hj => ?_⟩, hk⟩
      rw [add_zero_off, h2.cellAt _ (by omega)]
      clear h1 h2 hk h5 h4 htk hsz s2 hg
      have q : ∀ (vs : List Value) (i : Nat) (hi : i < vs.length), (∀ v ∈ vs, v.cells.toList.length = 6) → (vs.flatMap fun v => v.cells.toList)[i * 6 + j]? = vs[i].cells[j]? := fun vs => by
        induction vs with
        | nil => intro i hi; simp at hi
        | cons v r ih =>
          intro i hi hv
          have h0 := hv v (by simp)
          rw [List.flatMap_cons]
          cases i with
          | zero => rw [List.getElem?_append_left (by omega)]; simp
          | succ i =>
            rw [List.getElem?_append_right (by omega), h0, show (i + 1) * 6 + j - 6 = i * 6 + j by omega]
            exact ih i (by simpa using hi) fun v hv' => hv v (by simp [hv'])
      exact q vs i hi h6

theorem NodeRd.cap {w : World} {lim d c : Nat} {o : Option Addr} {t : Tr.Tree} (h : NodeRd w lim d (.agg #[.int .i64 t.kind, .string ⟨t.text.toArray⟩, .int .i64 t.num, .int .i64 t.dim, .int .i64 t.pos, .slice o t.kids.length c]) t) : t.kids.length ≤ c := by
  cases d with
  | zero => exact h.elim
  | succ d =>
    obtain ⟨o1, c1, vs, h1, h2, h3, _⟩ := h
    obtain rfl : c = c1 := by simp at h1; exact h1.2
    exact h3.2
namespace Tr
def plainB (t : Tree) : Bool :=
  ((t.kind != 3 && t.kind != 4 && t.kind != 5) || t.kids.length == 0) && (t.kind == 1 || t.kind == 2 || t.kind == 3 || t.kind == 4 || t.text == []) && (t.kind == 5 || (t.num == 0 && t.dim == 0))
end Tr
set_option maxRecDepth 100000 in
set_option maxHeartbeats 2000000 in
theorem plain_any {w : World} {lim d : Nat} {v : Value} {t : Tr.Tree} (h : NodeRd w lim d v t) :
    Calls Tryz.prog 21 #[v] w fun e w' => e = .returned (.bool (Tr.plainB t)) ∧ Below w.heap.size w w' := by
  obtain ⟨o, c, vs, rfl, _, hm, _⟩ : ∃ (o : Option Addr) (c : Nat) (vs : List Value), v = .agg #[.int .i64 t.kind, .string ⟨t.text.toArray⟩, .int .i64 t.num, .int .i64 t.dim, .int .i64 t.pos, .slice o t.kids.length c] ∧ vs.length = t.kids.length ∧ t.kids.length ≤ maxLen ∧ True := by
    cases d with
    | zero => exact h.elim
    | succ d => obtain ⟨o, c, vs, h1, h2, h3, _⟩ := h; exact ⟨o, c, vs, h1, h2, h3.1, trivial⟩
  clear h
  go_enter Tryz.func21, Tryz.ntmps21
  go_wp2
  all_goals
    go_ret
    refine ⟨tret_bool ?_, (Below.refl _ _).alloc (Nat.le_refl _) _⟩
    unfold Tr.plainB
    first | (simp_all; done) | (rw [Bool.eq_iff_iff]; simp_all; done) | (rw [Bool.eq_iff_iff]; simp_all; omega)
end Go.Proofs.YtooajmbpncmgjaaGreatDoor
