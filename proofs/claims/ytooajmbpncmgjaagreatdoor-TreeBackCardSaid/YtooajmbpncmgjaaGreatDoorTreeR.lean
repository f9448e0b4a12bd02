/- Layer 15's parser: what Parse keeps between its rounds. -/
import Derived.Test.YtooajmbpncmgjaaGreatDoorTreeQ
import Derived.Laws.OwnMore
namespace Go.Proofs.YtooajmbpncmgjaaGreatDoor
open Go.RowKit

def nodeRow (kv : Value) : Obj := .cells #[.int .i64 0, .string ⟨#[]⟩, .int .i64 0, .int .i64 0, .int .i64 0, kv] 26 (0, 0)
/-- Between two declarations: w the world at Parse's call; the kids so far. -/
structure Par (lim B : Nat) (T : List L.Tok) (w wr : World) (k : Nat) (l : List Tr.Tree) (kv : Value) (vs : List Value) (S : Nat → Prop) (d : Nat) : Prop where
  pos : PAt lim wr B T k 0
  hl : lim = B + 1
  hB : w.heap.size + 2 < B
  old : Below w.heap.size w wr
  size : lim ≤ wr.heap.size
  node : wr.heap[w.heap.size]? = some (.cells #[.int .i64 0, .string ⟨#[]⟩, .int .i64 0, .int .i64 0, .int .i64 0, kv] 26 (0, 0))
  err : wr.heap[w.heap.size + 1]? = some (.cells #[.int .i64 0] 31 (0, 0))
  at' : wr.heap[w.heap.size + 2]? = some (.cells #[.int .i64 0] 3 (0, 0))
  kids : Kids wr B w.heap.size l kv vs S d
  std : Std wr

theorem PAt.aside {lim : Nat} {w : World} {B : Nat} {T : List L.Tok} {k nest : Nat} (h : PAt lim w B T k nest) {r : Nat} (hB : r ≠ B) {cs : Array Value} (hr : w.heap[r]? = some (.cells cs 26 (0, 0))) (i : Nat) (v : Value) : PAt lim (w.setCell ⟨r, i, none⟩ v) B T k nest := by
  obtain ⟨a, b, c, d, ng, sh, tb, cap, n0, h1, h2, h3, h4⟩ := h
  have hne : tb ≠ r := by
    rcases h4.2 with ⟨h', _⟩ | ⟨g', cap', cur, h', _, hg, _⟩
    · simp at h'
    · simp only [Value.slice.injEq, Option.some.injEq, Addr.mk.injEq, and_true, true_and] at h'
      obtain ⟨rfl, rfl⟩ := h'
      rintro rfl
      rw [hr] at hg
      simp at hg
  exact ⟨a, b, c, d, ng, sh, tb, cap, n0, row_far h1 (fun e => hB e.symm) _, h2, h3, h4.kept (grownBy_setCell2 _ _ _ _) (.inr (by simpa [Value.ownBlock] using hne))⟩

section
variable {lim B : Nat} {T : List L.Tok} {w wr w' : World} {k k' : Nat} {l : List Tr.Tree} {kv : Value} {vs : List Value} {S : Nat → Prop} {d : Nat}
theorem Par.below (h : Par lim B T w wr k l kv vs S d) (hb : Below wr.heap.size wr w') : Par lim B T w w' k l kv vs S d := by
  have f : ∀ {b : Nat} {o : Obj}, wr.heap[b]? = some o → w'.heap[b]? = some o := fun e => (hb.block _ (Array.getElem?_eq_some_iff.1 e).1).trans e
  have hs := h.old.size
  exact ⟨h.pos.grown (grown_none hb) (fun r e => by cases e), h.hl, h.hB, h.old.trans (hb.mono hs), Nat.le_trans h.size hb.size, f h.node, f h.err, f h.at', h.kids.kept (grown_none hb) (fun r e => by cases e), h.std.below hb⟩
theorem Par.call (h : Par lim B T w wr k l kv vs S d) (hp : PTo lim B T wr w' k' 0) : Par lim B T w w' k' l kv vs S d := by
  have hB := h.hB
  have hs := h.old.size
  have f : ∀ {b : Nat} {o : Obj}, wr.heap[b]? = some o → b ≠ B → w'.heap[b]? = some o := fun e hn => (hp.only.block _ (Array.getElem?_eq_some_iff.1 e).1 (fun c => by cases c; exact hn rfl)).trans e
  exact ⟨hp.pos, h.hl, h.hB, h.old.trans ⟨hp.only.os, hp.only.tape, hp.only.output, hp.only.size, fun j hj => hp.only.block j (by omega) (fun e => by cases e; omega)⟩, hp.lim_le, f h.node (by omega), f h.err (by omega), f h.at' (by omega), h.kids.kept hp.only (fun r e => by cases e; omega), hp.std h.std⟩
end

/-- Behind the append: the row of kids holds xs, the node's kids are kv2. -/
structure Mid (lim B : Nat) (T : List L.Tok) (w wr : World) (k : Nat) (l : List Tr.Tree) (kv2 : Value) (vs : List Value) (S : Nat → Prop) (d g cap : Nat) (xs : List Value) : Prop where
  pos : PAt lim wr B T k 0
  hl : lim = B + 1
  hB : w.heap.size + 2 < B
  old : Below w.heap.size w wr
  size : lim ≤ wr.heap.size
  node : wr.heap[w.heap.size]? = some (.cells #[.int .i64 0, .string ⟨#[]⟩, .int .i64 0, .int .i64 0, .int .i64 0, kv2] 26 (0, 0))
  err : wr.heap[w.heap.size + 1]? = some (.cells #[.int .i64 0] 31 (0, 0))
  at' : wr.heap[w.heap.size + 2]? = some (.cells #[.int .i64 0] 3 (0, 0))
  row : wr.ownsRow B 26 6 (.slice (some ⟨g, 0, none⟩) l.length cap) l.length xs
  len : vs.length = l.length
  each : ∀ p ∈ vs.zip l, NodeIn wr S d p.1 p.2
  blk : ∀ c, S c → B < c ∧ c < wr.heap.size ∧ c ≠ g
  hg : B < g ∧ g < wr.heap.size
  std : Std wr

section
variable {lim B : Nat} {T : List L.Tok} {w wr w' w4 : World} {k k' : Nat} {l : List Tr.Tree} {kv kv2 v : Value} {vs : List Value} {S S' : Nat → Prop} {d d' g cap : Nat} {xs : List Value} {tr : Tr.Tree}
theorem Par.push {m : Nat} (h : Par lim B T w wr k l kv vs S d) (hn : NodeIn wr S' d' v tr) (hS : ∀ c, S' c → m ≤ c ∧ c < wr.heap.size) (hm : B < m) (hk : ∀ c, kv.ownBlock = some c → c < m)
    (hown : w4.ownsRow B 26 6 (.slice (some ⟨g, 0, none⟩) (l.length + 1) cap) (l.length + 1) xs)
    (hg : wr.grownBy w4 kv.ownBlock) (hat : kv.ownBlock = some g ∨ g = wr.heap.size) (hlt : g < w4.heap.size) :
    Mid lim B T w w4 k (l ++ [tr]) kv (vs ++ [v]) (fun c => S c ∨ S' c) (max d d') g cap xs := by
  have hB := h.hB
  have hl := h.hl
  have hsz := hg.size
  have n1 : ∀ r, kv.ownBlock = some r → ¬ S r := fun r e => (h.kids.own r e).2.2.2
  have n2 : ∀ r, kv.ownBlock = some r → ¬ S' r := fun r e hs => by have := hS r hs; have := hk r e; omega
  have n3 : ∀ r, kv.ownBlock = some r → B < r := fun r e => (h.kids.own r e).1
  have f : ∀ {b : Nat} {o : Obj}, wr.heap[b]? = some o → b < B → w4.heap[b]? = some o := fun e hn => (hg.block _ (Array.getElem?_eq_some_iff.1 e).1 (fun c => by have := n3 _ c.symm; omega)).trans e
  refine ⟨h.pos.grown hg (fun r e => by have := n3 r e; omega), hl, hB, h.old.trans ⟨hg.os, hg.tape, hg.output, hsz, fun j hj => hg.block j (by have := h.size; omega) (fun e => by have := n3 _ e.symm; omega)⟩, Nat.le_trans h.size hsz,
    f h.node (by omega), f h.err (by omega), f h.at' (by omega), by rw [List.length_append]; exact hown, by simp [h.kids.len], fun p hp => ?_, fun c hc => ?_, ?_, h.std.grown hg (fun r e => by have := n3 r e; have := h.pos.ng; omega)⟩
  · rw [List.zip_append h.kids.len] at hp
    rcases List.mem_append.1 hp with hp | hp
    · exact NodeIn.le (Nat.le_max_left _ _) (NodeIn.wide (fun c hc => .inl hc) _ _ _ (NodeIn.kept hg n1 _ _ _ (h.kids.each p hp)))
    · obtain rfl : p = (v, tr) := by simpa using hp
      exact NodeIn.le (Nat.le_max_right _ _) (NodeIn.wide (fun c hc => .inr hc) _ _ _ (NodeIn.kept hg n2 _ _ _ hn))
  · rcases hc with hc | hc
    · have := h.kids.blk c hc
      exact ⟨this.1, by omega, fun e => by subst e; rcases hat with e | e; exact n1 _ e hc; omega⟩
    · have := hS c hc
      exact ⟨by omega, by omega, fun e => by subst e; rcases hat with e | e; exact n2 _ e hc; omega⟩
  · rcases hat with e | e
    · exact ⟨n3 _ e, hlt⟩
    · have := h.size; exact ⟨by omega, hlt⟩

theorem Mid.cell (h : Mid lim B T w wr k l kv2 vs S d g cap xs) (j : Nat) (u : Value) : Mid lim B T w (wr.setCell ⟨g, j, none⟩ u) k l kv2 vs S d g cap (xs.set j u) := by
  have hB := h.hB
  have hl := h.hl
  have hgg := h.hg
  have hg := grownBy_setCell2 wr g j u
  have hsz := hg.size
  have f : ∀ {b : Nat} {o : Obj}, wr.heap[b]? = some o → b < B → (wr.setCell ⟨g, j, none⟩ u).heap[b]? = some o := fun e hn => row_far e (by omega) _
  exact ⟨h.pos.grown hg (fun r e => by cases e; omega), hl, hB, h.old.setCell (by simp; omega) _, Nat.le_trans h.size hsz, f h.node (by omega), f h.err (by omega), f h.at' (by omega), (h.row.stored j u).1, h.len,
    fun p hp => NodeIn.kept hg (fun r e => by cases e; exact fun hs => (h.blk _ hs).2.2 rfl) _ _ _ (h.each p hp), fun c hc => ⟨(h.blk c hc).1, Nat.lt_of_lt_of_le (h.blk c hc).2.1 hsz, (h.blk c hc).2.2⟩, ⟨hgg.1, Nat.lt_of_lt_of_le hgg.2 hsz⟩, h.std.grown hg (fun r e => by cases e; have := h.pos.ng; omega)⟩
theorem Mid.kids (h : Mid lim B T w wr k l kv2 vs S d g cap xs) (hw : NG ≤ w.heap.size) (u : Value) : Mid lim B T w (wr.setCell ⟨w.heap.size, 5, none⟩ u) k l u vs S d g cap xs := by
  have hB := h.hB
  have hl := h.hl
  have hgg := h.hg
  have hg := grownBy_setCell2 wr w.heap.size 5 u
  have hsz := hg.size
  exact ⟨h.pos.aside (by omega) h.node _ _, hl, hB, h.old.setCell (by simp) _, Nat.le_trans h.size hsz, row_setCell h.node u, row_far h.err (by omega) _, row_far h.at' (by omega) _, h.row.kept hg (.inr (by simp [Value.ownBlock]; omega)), h.len,
    fun p hp => NodeIn.kept hg (fun r e => by cases e; exact fun hs => by have := (h.blk _ hs).1; omega) _ _ _ (h.each p hp), fun c hc => ⟨(h.blk c hc).1, Nat.lt_of_lt_of_le (h.blk c hc).2.1 hsz, (h.blk c hc).2.2⟩, ⟨hgg.1, Nat.lt_of_lt_of_le hgg.2 hsz⟩, h.std.grown hg (fun r e => by cases e; exact hw)⟩
theorem Mid.done (h : Mid lim B T w wr k l (.slice (some ⟨g, 0, none⟩) l.length cap) vs S d g cap xs) (hx : xs = vs.flatMap fun v => v.cells.toList) : Par lim B T w wr k l (.slice (some ⟨g, 0, none⟩) l.length cap) vs S d := by
  have hB := h.hB
  have hgg := h.hg
  subst hx
  exact ⟨h.pos, h.hl, hB, h.old, h.size, h.node, h.err, h.at', ⟨h.row, h.len, h.each, fun c hc => ⟨(h.blk c hc).1, by have := (h.blk c hc).1; omega, (h.blk c hc).2.1⟩, fun c hc => by
    obtain rfl : g = c := by simpa [Value.ownBlock] using hc
    exact ⟨hgg.1, by omega, hgg.2, fun hs => (h.blk _ hs).2.2 rfl⟩⟩, h.std⟩
end

theorem set_six (xs : List Value) (n : Nat) (hn : xs.length = n) (z0 z1 z2 z3 z4 z5 a0 a1 a2 a3 a4 a5 : Value) :
    ((((((xs ++ [z0, z1, z2, z3, z4, z5]).set n a0).set (n + 1) a1).set (n + 2) a2).set (n + 3) a3).set (n + 4) a4).set (n + 5) a5 = xs ++ [a0, a1, a2, a3, a4, a5] := by
  subst hn
  simp [List.set_append]
end Go.Proofs.YtooajmbpncmgjaaGreatDoor
