/- Layer 15's Parse, by contract: the source that has no tokens. -/
import Derived.Test.YtooajmbpncmgjaaGreatDoorTreeR
namespace Go.Proofs.YtooajmbpncmgjaaGreatDoor
open Go.RowKit

/-- Parse: the tree, the error, its offset. -/
def parseS (s : List UInt8) : Tr.Tree × Nat × Nat :=
  if (scanR s).2.1 = 0 then Tr.parseP (scanR s).1 else (Tr.zero, (scanR s).2.1, (scanR s).2.2)
def ParseAt (s : List UInt8) (w : World) (e : Ending) (w' : World) : Prop :=
  ∃ v S d, e = .returned (.tuple #[v, .int .i64 ((parseS s).2.1 : Nat), .int .i64 ((parseS s).2.2 : Nat)]) ∧ NodeIn w' S d v (parseS s).1 ∧ (∀ b, S b → w.heap.size ≤ b ∧ b < w'.heap.size) ∧ Below w.heap.size w w'

theorem parseAt_zero {s : List UInt8} {w w' : World} {a p : Nat} (h : parseS s = (Tr.zero, a, p)) (hb : Below w.heap.size w w') :
    ParseAt s w (.returned (.tuple #[.agg #[.int .i64 0, .string ⟨#[]⟩, .int .i64 0, .int .i64 0, .int .i64 0, .slice none 0 0], .int .i64 (a : Nat), .int .i64 (p : Nat)])) w' := by
  unfold ParseAt
  rw [h]
  exact ⟨_, fun _ => False, 1, rfl, NodeIn.leaf _ _ _ _ _ _ _, fun b h => h.elim, hb⟩

theorem box_three {w w1 : World} {o0 o1 o2 : Obj} (hb : Below (((w.alloc o0).alloc o1).alloc o2).heap.size (((w.alloc o0).alloc o1).alloc o2) w1) :
    w1.heap[w.heap.size]? = some o0 ∧ w1.heap[w.heap.size + 1]? = some o1 ∧ w1.heap[w.heap.size + 2]? = some o2 ∧ w.heap.size + 3 ≤ w1.heap.size ∧ Below w.heap.size w w1 := by
  have e1 : (w.alloc o0).heap.size = w.heap.size + 1 := World.size_alloc _ _
  have e2 : ((w.alloc o0).alloc o1).heap.size = w.heap.size + 2 := by rw [World.size_alloc, e1]
  have e3 : (((w.alloc o0).alloc o1).alloc o2).heap.size = w.heap.size + 3 := by rw [World.size_alloc, e2]
  have h1 := heap_alloc_new (w.alloc o0) o1
  have h2 := heap_alloc_new ((w.alloc o0).alloc o1) o2
  rw [e1] at h1
  rw [e2] at h2
  refine ⟨(hb.block _ (by omega)).trans (row_alloc (row_alloc (heap_alloc_new w o0) _) _), (hb.block _ (by omega)).trans (row_alloc h1 _), (hb.block _ (by omega)).trans h2, by have := hb.size; omega, ?_⟩
  exact ((((Below.refl _ w).alloc (Nat.le_refl _) _).alloc (by omega) _).alloc (by omega) _).trans (hb.mono (by omega))

theorem drew_row {w : World} {b : Nat} {o : Obj} (h : w.heap[b]? = some o) : w.drew.heap[b]? = some o := h
theorem parse_results {W : World} {n0 n1 n2 : Nat} {a p : Int} {kv : Value} (h0 : W.heap[n0]? = some (.cells #[.int .i64 0, .string ⟨#[]⟩, .int .i64 0, .int .i64 0, .int .i64 0, kv] 26 (0, 0)))
    (h1 : W.heap[n1]? = some (.cells #[.int .i64 a] 31 (0, 0))) (h2 : W.heap[n2]? = some (.cells #[.int .i64 p] 3 (0, 0))) (x0 x1 : Value) (r : List Value) :
    (results Tryz.f12 (x0 :: x1 :: .pointer (some ⟨n0, 0, none⟩) :: .pointer (some ⟨n1, 0, none⟩) :: .pointer (some ⟨n2, 0, none⟩) :: r).toArray).run Tryz.prog W = .ok (.tuple #[.agg #[.int .i64 0, .string ⟨#[]⟩, .int .i64 0, .int .i64 0, .int .i64 0, kv], .int .i64 a, .int .i64 p]) W := by
  have c00 := cell_of_row _ _ 0 _ _ (0, 0) h0
  have c01 := cell_of_row _ _ 1 _ _ (0, 0) h0
  have c02 := cell_of_row _ _ 2 _ _ (0, 0) h0
  have c03 := cell_of_row _ _ 3 _ _ (0, 0) h0
  have c04 := cell_of_row _ _ 4 _ _ (0, 0) h0
  have c05 := cell_of_row _ _ 5 _ _ (0, 0) h0
  have c1 := cell_of_row _ _ 0 _ _ (0, 0) h1
  have c2 := cell_of_row _ _ 0 _ _ (0, 0) h2
  simp [results, Tryz.results12, go_sem, c00, c01, c02, c03, c04, c05, c1, c2]

set_option maxRecDepth 100000 in
set_option maxHeartbeats 2000000 in
theorem parse_bad (s : ByteArray) (w : World) (hs : s.size ≤ maxLen) (he : (scanR s.data.toList).2.1 ≠ 0) :
    Calls Tryz.prog 12 #[.string s] w (ParseAt s.data.toList w) := by
  have hp : parseS s.data.toList = (Tr.zero, (scanR s.data.toList).2.1, (scanR s.data.toList).2.2) := by unfold parseS; rw [if_neg he]
  have SC := Lib.hid fun w => scan_any s w hs
  have HP := Lib.hid hp
  have hne : ((scanR s.data.toList).2.1 != 0) = true := by simpa using he
  have hz : ¬ ((scanR s.data.toList).2.1 : Int) = 0 := by omega
  unfold ScanAt at SC
  generalize scanR s.data.toList = q at *
  clear hp he
  go_enter_defers Tryz.func12, Tryz.ntmps12
  go_wp2_with fail
  refine (SC.out _).mono ?_
  rintro e w1 ⟨v, rfl, hrow, hb1⟩
  obtain ⟨r0, r1, r2, hz1, hb⟩ := box_three hb1
  have c00 := cell_of_row _ _ 0 _ _ (0, 0) r0
  have f00 := frozen_of_row (i := 0) r0
  have c01 := cell_of_row _ _ 1 _ _ (0, 0) r0
  have f01 := frozen_of_row (i := 1) r0
  have c02 := cell_of_row _ _ 2 _ _ (0, 0) r0
  have f02 := frozen_of_row (i := 2) r0
  have c03 := cell_of_row _ _ 3 _ _ (0, 0) r0
  have f03 := frozen_of_row (i := 3) r0
  have c04 := cell_of_row _ _ 4 _ _ (0, 0) r0
  have f04 := frozen_of_row (i := 4) r0
  have c05 := cell_of_row _ _ 5 _ _ (0, 0) r0
  have f05 := frozen_of_row (i := 5) r0
  have c1 := cell_of_row _ _ 0 _ _ (0, 0) r1
  have c2 := cell_of_row _ _ 0 _ _ (0, 0) r2
  have c2' : w1.cell? ⟨w.heap.size + 1 + 1, 0, none⟩ = some (.int .i64 0) := c2
  have f1 := frozen_of_row (i := 0) r1
  have f2 := frozen_of_row (i := 0) r2
  go_wp2_with fail
  go_region
  all_goals
    go_wp2_with fail
    have kr0 := r0
    have kr0 := row_far (c := w.heap.size + 1) (i := 0) kr0 (by omega) (.int .i64 q.2.1)
    have kr0 := row_far (c := w.heap.size + 1 + 1) (i := 0) kr0 (by omega) (.int .i64 q.2.2)
    have kr0 := row_setCell (i := 0) kr0 (.int .i64 0)
    have kr0 := row_setCell (i := 1) kr0 (.string ⟨#[]⟩)
    have kr0 := row_setCell (i := 2) kr0 (.int .i64 0)
    have kr0 := row_setCell (i := 3) kr0 (.int .i64 0)
    have kr0 := row_setCell (i := 4) kr0 (.int .i64 0)
    have kr0 := row_setCell (i := 5) kr0 (.slice none 0 0)
    have kr0 := row_far (c := w.heap.size + 1) (i := 0) kr0 (by omega) (.int .i64 q.2.1)
    have kr0 := row_far (c := w.heap.size + 1 + 1) (i := 0) kr0 (by omega) (.int .i64 q.2.2)
    have kr1 := r1
    have kr1 := row_setCell (i := 0) kr1 (.int .i64 q.2.1)
    have kr1 := row_far (c := w.heap.size + 1 + 1) (i := 0) kr1 (by omega) (.int .i64 q.2.2)
    have kr1 := row_far (c := w.heap.size) (i := 0) kr1 (by omega) (.int .i64 0)
    have kr1 := row_far (c := w.heap.size) (i := 1) kr1 (by omega) (.string ⟨#[]⟩)
    have kr1 := row_far (c := w.heap.size) (i := 2) kr1 (by omega) (.int .i64 0)
    have kr1 := row_far (c := w.heap.size) (i := 3) kr1 (by omega) (.int .i64 0)
    have kr1 := row_far (c := w.heap.size) (i := 4) kr1 (by omega) (.int .i64 0)
    have kr1 := row_far (c := w.heap.size) (i := 5) kr1 (by omega) (.slice none 0 0)
    have kr1 := row_setCell (i := 0) kr1 (.int .i64 q.2.1)
    have kr1 := row_far (c := w.heap.size + 1 + 1) (i := 0) kr1 (by omega) (.int .i64 q.2.2)
    have kr2 := r2
    have kr2 := row_far (c := w.heap.size + 1) (i := 0) kr2 (by omega) (.int .i64 q.2.1)
    have kr2 := row_setCell (i := 0) kr2 (.int .i64 q.2.2)
    have kr2 := row_far (c := w.heap.size) (i := 0) kr2 (by omega) (.int .i64 0)
    have kr2 := row_far (c := w.heap.size) (i := 1) kr2 (by omega) (.string ⟨#[]⟩)
    have kr2 := row_far (c := w.heap.size) (i := 2) kr2 (by omega) (.int .i64 0)
    have kr2 := row_far (c := w.heap.size) (i := 3) kr2 (by omega) (.int .i64 0)
    have kr2 := row_far (c := w.heap.size) (i := 4) kr2 (by omega) (.int .i64 0)
    have kr2 := row_far (c := w.heap.size) (i := 5) kr2 (by omega) (.slice none 0 0)
    have kr2 := row_far (c := w.heap.size + 1) (i := 0) kr2 (by omega) (.int .i64 q.2.1)
    have kr2 := row_setCell (i := 0) kr2 (.int .i64 q.2.2)
    have KR0 : _ = some (Obj.cells #[.int .i64 0, .string ⟨#[]⟩, .int .i64 0, .int .i64 0, .int .i64 0, .slice none 0 0] 26 (0, 0)) := kr0
    have KR1 : _ = some (Obj.cells #[.int .i64 q.2.1] 31 (0, 0)) := kr1
    have KR2 : _ = some (Obj.cells #[.int .i64 q.2.2] 3 (0, 0)) := kr2
    clear kr0 kr1 kr2 c00 c01 c02 c03 c04 c05 c1 c2 c2' f00 f01 f02 f03 f04 f05 f1 f2
    refine ⟨.tuple #[.agg #[.int .i64 0, .string ⟨#[]⟩, .int .i64 0, .int .i64 0, .int .i64 0, .slice none 0 0], .int .i64 q.2.1, .int .i64 q.2.2], ?_, parseAt_zero HP.out ?_⟩
    · exact parse_results (a := q.2.1) (p := q.2.2) (kv := .slice none 0 0) (drew_row KR0) (drew_row KR1) (drew_row KR2) _ _ [_, _, _, _, _, _, _, _, _, _, _, _, _, _, _, _, _, _, _, _, _, _, _, _, _, _, _, _]
    · exact ((((((((((hb.setCell (by simp) _).setCell (by simp; omega) _).setCell (by simp) _).setCell (by simp) _).setCell (by simp) _).setCell (by simp) _).setCell (by simp) _).setCell (by simp) _).setCell (by simp) _).setCell (by simp; omega) _).drew
end Go.Proofs.YtooajmbpncmgjaaGreatDoor
