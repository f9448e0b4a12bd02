/- Layer 15's parser: a node's kids while they are collected. -/
import Derived.Test.YtooajmbpncmgjaaGreatDoorTreeV
import Derived.Deep.AppendLies
namespace Go.Proofs.YtooajmbpncmgjaaGreatDoor
open Go.RowKit

/-- The kids that have been collected in the node in block b (the result lies in block n0). -/
structure Kids (w : World) (n0 b : Nat) (l : List Tr.Tree) (kv : Value) (vs : List Value) (S : Nat → Prop) (d : Nat) : Prop where
  row : w.ownsRow n0 26 6 kv l.length (vs.flatMap fun v => v.cells.toList)
  len : vs.length = l.length
  each : ∀ p ∈ vs.zip l, NodeIn w S d p.1 p.2
  blk : ∀ c, S c → n0 < c ∧ c ≠ b ∧ c < w.heap.size
  own : ∀ c, kv.ownBlock = some c → n0 < c ∧ c ≠ b ∧ c < w.heap.size ∧ ¬ S c

theorem Kids.nil (w : World) (n0 b : Nat) : Kids w n0 b [] (.slice none 0 0) [] (fun _ => False) 0 :=
  ⟨World.ownsRow_nil _ _ _ _, rfl, fun p hp => by simp at hp, fun c h => h.elim, fun c h => by simp [Value.ownBlock] at h⟩
theorem Kids.kept {w w' : World} {n0 b : Nat} {l : List Tr.Tree} {kv : Value} {vs : List Value} {S : Nat → Prop} {d : Nat} (h : Kids w n0 b l kv vs S d) {row : Option Nat} (hg : w.grownBy w' row) (hr : ∀ r, row = some r → r ≤ n0 ∨ r = b ∨ w.heap.size ≤ r) : Kids w' n0 b l kv vs S d := by
  have hS : ∀ r, row = some r → ¬ S r := fun r e hs => by have := h.blk r hs; have := hr r e; omega
  refine ⟨h.row.kept hg ?_, h.len, fun p hp => NodeIn.kept hg hS _ _ _ (h.each p hp), fun c hc => ⟨(h.blk c hc).1, (h.blk c hc).2.1, Nat.lt_of_lt_of_le (h.blk c hc).2.2 hg.size⟩, fun c hc => ⟨(h.own c hc).1, (h.own c hc).2.1, Nat.lt_of_lt_of_le (h.own c hc).2.2.1 hg.size, (h.own c hc).2.2.2⟩⟩
  cases ho : kv.ownBlock with
  | none => exact .inl rfl
  | some c => exact .inr fun e => by have := h.own c ho; have := hr c e.symm; omega
theorem Kids.kept2 {w w' : World} {n0 b : Nat} {l : List Tr.Tree} {kv : Value} {vs : List Value} {S : Nat → Prop} {d : Nat} (h : Kids w n0 b l kv vs S d) {row : Option Nat} (hg : w.grownBy w' row) (hr : ∀ r, row = some r → ¬ S r ∧ kv.ownBlock ≠ some r) : Kids w' n0 b l kv vs S d := by
  refine ⟨h.row.kept hg ?_, h.len, fun p hp => NodeIn.kept hg (fun r e => (hr r e).1) _ _ _ (h.each p hp), fun c hc => ⟨(h.blk c hc).1, (h.blk c hc).2.1, Nat.lt_of_lt_of_le (h.blk c hc).2.2 hg.size⟩, fun c hc => ⟨(h.own c hc).1, (h.own c hc).2.1, Nat.lt_of_lt_of_le (h.own c hc).2.2.1 hg.size, (h.own c hc).2.2.2⟩⟩
  cases ho : kv.ownBlock with
  | none => exact .inl rfl
  | some c => exact .inr fun e => (hr c e.symm).2 ho
theorem Kids.push {w1 w2 : World} {n0 b : Nat} {l : List Tr.Tree} {kv : Value} {vs : List Value} {S S' : Nat → Prop} {d d' g cap k : Nat} {v : Value} {tr : Tr.Tree} {o : Obj}
    (h : Kids w1 n0 b l kv vs S d) (hv : NodeIn w1 S' d' v tr) (hS' : ∀ c, S' c → k ≤ c ∧ c < w1.heap.size) (hk : ∀ c, kv.ownBlock = some c → c < k) (hn : n0 < k) (hb : b < k)
    (hown : w2.ownsRow n0 26 6 (.slice (some ⟨g, 0, none⟩) (l.length + 1) cap) (l.length + 1) ((vs.flatMap fun v => v.cells.toList) ++ v.cells.toList))
    (hgrow : (w1.alloc o).grownBy w2 kv.ownBlock) (hat : kv.ownBlock = some g ∨ g = w1.heap.size + 1) (hlt : g < w2.heap.size) (hkw : k ≤ w1.heap.size) :
    Kids w2 n0 b (l ++ [tr]) (.slice (some ⟨g, 0, none⟩) (l.length + 1) cap) (vs ++ [v]) (fun c => S c ∨ S' c) (max d d') := by
  have hg : w1.grownBy w2 kv.ownBlock := ⟨hgrow.os, hgrow.tape, hgrow.output, Nat.le_trans (by simp) hgrow.size, fun c hc hne => (hgrow.block c (by simp; omega) hne).trans (Below.heap_alloc _ _ _ hc)⟩
  have n1 : ∀ r, kv.ownBlock = some r → ¬ S r := fun r e => (h.own r e).2.2.2
  have n2 : ∀ r, kv.ownBlock = some r → ¬ S' r := fun r e hs => by have := hS' r hs; have := hk r e; omega
  have hsz : w1.heap.size ≤ w2.heap.size := hg.size
  refine ⟨?_, by simp [h.len], fun p hp => ?_, fun c hc => ?_, fun c hc => ?_⟩
  · rw [List.length_append, List.flatMap_append]
    simpa using hown
  · rw [List.zip_append h.len] at hp
    rcases List.mem_append.1 hp with hp | hp
    · exact NodeIn.le (Nat.le_max_left _ _) (NodeIn.wide (fun c hc => .inl hc) _ _ _ (NodeIn.kept hg n1 _ _ _ (h.each p hp)))
    · obtain rfl : p = (v, tr) := by simpa using hp
      exact NodeIn.le (Nat.le_max_right _ _) (NodeIn.wide (fun c hc => .inr hc) _ _ _ (NodeIn.kept hg n2 _ _ _ hv))
  · rcases hc with hc | hc
    · have := h.blk c hc; omega
    · have := hS' c hc; omega
  · obtain rfl : g = c := by simpa [Value.ownBlock] using hc
    rcases hat with hat | hat
    · have := h.own g hat
      exact ⟨this.1, this.2.1, hlt, fun hs => hs.elim (n1 g hat) (n2 g hat)⟩
    · exact ⟨by omega, by omega, hlt, fun hs => by rcases hs with hs | hs; have := h.blk g hs; omega; have := hS' g hs; omega⟩

/-- The node with its kids. -/
theorem Kids.node {w : World} {n0 b : Nat} {l : List Tr.Tree} {kv : Value} {vs : List Value} {S : Nat → Prop} {d : Nat} (h : Kids w n0 b l kv vs S d) (k n dm p : Int) (t : List UInt8) :
    NodeIn w (fun c => S c ∨ kv.ownBlock = some c) (d + 1) (.agg #[.int .i64 k, .string ⟨t.toArray⟩, .int .i64 n, .int .i64 dm, .int .i64 p, kv]) ⟨k, t, n, dm, p, l⟩ :=
  ⟨kv, vs, rfl, by
    obtain ⟨h1, h2⟩ := h.row
    refine ⟨h1, ?_⟩
    rcases h2 with h2 | ⟨g, cap, cur, a, b, c⟩
    · exact .inl h2
    · exact .inr ⟨g, cap, cur, a, Nat.zero_le _, c⟩, h.len, fun b hb => .inr hb, fun p hp => NodeIn.wide (fun c hc => .inl hc) _ _ _ (h.each p hp)⟩
theorem Kids.blocks {w : World} {n0 b : Nat} {l : List Tr.Tree} {kv : Value} {vs : List Value} {S : Nat → Prop} {d : Nat} (h : Kids w n0 b l kv vs S d) : ∀ c, (S c ∨ kv.ownBlock = some c) → n0 < c ∧ c ≠ b ∧ c < w.heap.size := fun c hc =>
  hc.elim (h.blk c) (fun e => ⟨(h.own c e).1, (h.own c e).2.1, (h.own c e).2.2.1⟩)
theorem Tryz.infoNode : (Tryz.prog.info? 26).map (fun i => (i.zero, i.size, i.bytes)) = some (some (.agg #[.int .i64 0, .string ⟨#[]⟩, .int .i64 0, .int .i64 0, .int .i64 0, .slice none 0 0]), 6, 72) := by kernel_rfl
end Go.Proofs.YtooajmbpncmgjaaGreatDoor
