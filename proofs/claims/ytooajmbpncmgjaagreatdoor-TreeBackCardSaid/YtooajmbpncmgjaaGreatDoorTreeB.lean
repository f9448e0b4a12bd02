/- Layer 15's parser: skip and leaf, by contract. -/
import Derived.Test.YtooajmbpncmgjaaGreatDoorTreeA
import Derived.Deep.DeepCutAuto
namespace Go.Proofs.YtooajmbpncmgjaaGreatDoor
open Go.RowKit
attribute [local go_sem] fld_tok0 fld_tok1 fld_tok2

set_option maxHeartbeats 1000000 in
theorem skip_bad {lim : Nat} {w : World} {B : Nat} {T : List L.Tok} {k nest : Nat} (h : PAt lim w B T k nest) (s : List UInt8) (hs : Tr.signB (T[k]'h.lt) s = false) :
    Calls Tryz.prog 39 #[.pointer (some ⟨B, 0, none⟩), .string ⟨s.toArray⟩] w (Panics w B (2, (T[k]'h.lt).pos)) := by
  obtain ⟨tb, cap, hc⟩ := h.cells
  generalize T[k]'h.lt = t at hc hs
  have I1 := Lib.hid (is_at hc s)
  have HC := Lib.hid hc
  have HS := Lib.hid hs
  have FA := Lib.hid fun w => fail_any 2 (t.pos : Nat) w
  clear h hc hs
  go_enter Tryz.func39, Tryz.ntmps39
  go_wp2_with fail
  refine I1.out.mono ?_
  rintro e w1 ⟨rfl, hb1⟩
  rw [HS.out]
  have N1 := Lib.hid (now_at (HC.out.below hb1))
  have HB1 := Lib.hid hb1
  clear hb1
  go_wp2_with fail
  refine N1.out.mono ?_
  rintro e w2 ⟨rfl, hb2⟩
  have HB2 := Lib.hid hb2
  clear hb2
  go_wp2_with fail
  refine (FA.out _).mono ?_
  rintro e w3 ⟨rfl, rfl⟩
  exact ⟨rfl, rfl, only_below (HB1.out.trans (HB2.out.mono HB1.out.size)) _⟩

set_option maxHeartbeats 1000000 in
theorem skip_ok {lim : Nat} {w : World} {B : Nat} {T : List L.Tok} {k nest : Nat} (h : PAt lim w B T k nest) (hl : lim ≤ w.heap.size) (s : List UInt8) (hs : Tr.signB (T[k]'h.lt) s = true) :
    Calls Tryz.prog 39 #[.pointer (some ⟨B, 0, none⟩), .string ⟨s.toArray⟩] w fun e w' => e = .returned (.tuple #[]) ∧ PTo lim B T w w' (k + 1) nest := by
  have hnext := h.next (by simp [Tr.signB] at hs; omega)
  obtain ⟨tb, cap, hc⟩ := h.cells
  have HP := Lib.hid (PTo.start h hl)
  have hlen := h.len
  generalize T[k]'h.lt = t at hc hs
  have I1 := Lib.hid (is_at hc s)
  have HC := Lib.hid hc
  have HS := Lib.hid hs
  clear h hc hs
  go_enter Tryz.func39, Tryz.ntmps39
  go_wp2_with fail
  refine I1.out.mono ?_
  rintro e w1 ⟨rfl, hb1⟩
  rw [HS.out]
  obtain ⟨c0, c1, c2, f1, f2, _, _, _, _, _, _, _, _⟩ := HC.out.below hb1
  have HP1 := Lib.hid (HP.out.below hb1)
  clear hb1
  go_wp2_with fail
  go_end0
  exact ⟨rfl, HP1.out.goto hnext⟩

/-- A variable of six cells in block b. -/
structure Six (w : World) (b : Nat) (a0 a1 a2 a3 a4 a5 : Value) : Prop where
  c0 : w.cell? ⟨b, 0, none⟩ = some a0
  c1 : w.cell? ⟨b, 1, none⟩ = some a1
  c2 : w.cell? ⟨b, 2, none⟩ = some a2
  c3 : w.cell? ⟨b, 3, none⟩ = some a3
  c4 : w.cell? ⟨b, 4, none⟩ = some a4
  c5 : w.cell? ⟨b, 5, none⟩ = some a5
  f0 : w.frozen? ⟨b, 0, none⟩ = false
  f1 : w.frozen? ⟨b, 1, none⟩ = false
  f2 : w.frozen? ⟨b, 2, none⟩ = false
  f3 : w.frozen? ⟨b, 3, none⟩ = false
  f4 : w.frozen? ⟨b, 4, none⟩ = false
  f5 : w.frozen? ⟨b, 5, none⟩ = false
def NodeBox (w : World) (b : Nat) (a0 a1 a2 a3 a4 a5 : Value) : Prop := w.heap[b]? = some (.cells #[a0, a1, a2, a3, a4, a5] 26 (0, 0))
theorem NodeBox.six {w : World} {b : Nat} {a0 a1 a2 a3 a4 a5 : Value} (h : NodeBox w b a0 a1 a2 a3 a4 a5) : Six w b a0 a1 a2 a3 a4 a5 :=
  ⟨cell_of_row _ _ 0 _ _ (0, 0) h, cell_of_row _ _ 1 _ _ (0, 0) h, cell_of_row _ _ 2 _ _ (0, 0) h, cell_of_row _ _ 3 _ _ (0, 0) h, cell_of_row _ _ 4 _ _ (0, 0) h, cell_of_row _ _ 5 _ _ (0, 0) h,
   by simp [World.frozen?, show w.heap[b]? = _ from h], by simp [World.frozen?, show w.heap[b]? = _ from h], by simp [World.frozen?, show w.heap[b]? = _ from h], by simp [World.frozen?, show w.heap[b]? = _ from h], by simp [World.frozen?, show w.heap[b]? = _ from h], by simp [World.frozen?, show w.heap[b]? = _ from h]⟩
theorem NodeBox.below {w w' : World} {b : Nat} {a0 a1 a2 a3 a4 a5 : Value} (h : NodeBox w b a0 a1 a2 a3 a4 a5) {B : Nat} (hb : Below B w w') (hlt : b < B) : NodeBox w' b a0 a1 a2 a3 a4 a5 := (hb.block b hlt).trans h
theorem NodeBox.new (w : World) (a0 a1 a2 a3 a4 a5 : Value) : NodeBox (w.alloc (.cells #[a0, a1, a2, a3, a4, a5] 26)) w.heap.size a0 a1 a2 a3 a4 a5 := heap_alloc_new w _
theorem NodeBox.lt {w : World} {b : Nat} {a0 a1 a2 a3 a4 a5 : Value} (h : NodeBox w b a0 a1 a2 a3 a4 a5) : b < w.heap.size := (Array.getElem?_eq_some_iff.1 h).1

set_option maxRecDepth 100000 in
set_option maxHeartbeats 1000000 in
theorem leaf_no {lim : Nat} {w : World} {B : Nat} {T : List L.Tok} {k nest : Nat} (h : PAt lim w B T k nest) (hl : lim ≤ w.heap.size) (h0 : (T[k]'h.lt).kind ≠ 0) (h2 : (T[k]'h.lt).kind ≠ 2) :
    Calls Tryz.prog 38 #[.pointer (some ⟨B, 0, none⟩)] w fun e w' =>
      e = .returned (.tuple #[.agg #[.int .i64 0, .string ⟨#[]⟩, .int .i64 0, .int .i64 0, .int .i64 0, .slice none 0 0], .bool false]) ∧ PTo lim B T w w' k nest := by
  obtain ⟨tb, cap, hc⟩ := h.cells
  have HP := Lib.hid (PTo.start h hl)
  have hlen := h.len
  generalize T[k]'h.lt = t at *
  have e0 : ((t.kind : Int) == 0) = false := beq_eq_false_iff_ne.2 (by omega)
  have e2 : ((t.kind : Int) == 2) = false := beq_eq_false_iff_ne.2 (by omega)
  have hw1 := hc.below ((Below.refl _ w).alloc (Nat.le_refl _) (.cells #[.int .i64 0, .string ⟨#[]⟩, .int .i64 0, .int .i64 0, .int .i64 0, .slice none 0 0] 26))
  have N1 := Lib.hid (now_at hw1)
  have HC := Lib.hid hc
  have hlt := hc.bB
  clear h hc hw1 h0 h2
  go_enter Tryz.func38, Tryz.ntmps38
  go_wp2_with fail
  refine N1.out.mono ?_
  rintro e w1 ⟨rfl, hb1⟩
  have hz := hb1.size
  rw [World.size_alloc] at hz
  have HP1 := Lib.hid ((HP.out.alloc _).below hb1)
  have HR := Lib.hid (show w1.heap[w.heap.size]? = some (.cells #[.int .i64 0, .string ⟨#[]⟩, .int .i64 0, .int .i64 0, .int .i64 0, .slice none 0 0] 26 (0, 0)) from (hb1.block w.heap.size (by simp)).trans (heap_alloc_new w _))
  clear hb1
  go_wp2_with ((with_reducible refine wpList_at ⟨none, .store 26 (.tmp 2) (.tmp 37), _, _, _, _⟩ ?_); go_must (refine wpList_store_box rfl 26 (.tmp 2) (.tmp 37) rfl w.heap.size #[.int .i64 0, .string ⟨#[]⟩, .int .i64 0, .int .i64 0, .int .i64 0, .slice none 0 0] rfl rfl 26 _ (row_alloc HR.out _) (by kernel_rfl) rfl (by simp [Value.oneCell']) ?_; intro w2 hg2 hr2))
  have p0 := cell_of_row _ _ 0 _ _ (0, 0) hr2
  have p1 := cell_of_row _ _ 1 _ _ (0, 0) hr2
  have p2 := cell_of_row _ _ 2 _ _ (0, 0) hr2
  have p3 := cell_of_row _ _ 3 _ _ (0, 0) hr2
  have p4 := cell_of_row _ _ 4 _ _ (0, 0) hr2
  have p5 := cell_of_row _ _ 5 _ _ (0, 0) hr2
  refine bodyPost_ret (v := .tuple #[.agg #[.int .i64 0, .string ⟨#[]⟩, .int .i64 0, .int .i64 0, .int .i64 0, .slice none 0 0], .bool false]) ?_ rfl ⟨rfl, ?_⟩
  · simp [results, Tryz.results38, go_sem, p0, p1, p2, p3, p4, p5]
  · exact ((HP1.out.alloc _).box (Nat.le_refl _) hg2)

set_option maxRecDepth 100000 in
set_option maxHeartbeats 1000000 in
theorem leaf_word {lim : Nat} {w : World} {B : Nat} {T : List L.Tok} {k nest : Nat} (h : PAt lim w B T k nest) (hl : lim ≤ w.heap.size) (h0 : (T[k]'h.lt).kind = 0) :
    Calls Tryz.prog 38 #[.pointer (some ⟨B, 0, none⟩)] w fun e w' =>
      e = .returned (.tuple #[.agg #[.int .i64 3, .string ⟨(T[k]'h.lt).text.toArray⟩, .int .i64 0, .int .i64 0, .int .i64 ((T[k]'h.lt).pos : Nat), .slice none 0 0], .bool true]) ∧ PTo lim B T w w' (k + 1) nest := by
  have hnext := h.next (by omega)
  obtain ⟨tb, cap, hc⟩ := h.cells
  have HP := Lib.hid (PTo.start h hl)
  have hlen := h.len
  generalize T[k]'h.lt = t at *
  have e0 : ((t.kind : Int) == 0) = true := by rw [h0]; rfl
  have hw1 := hc.below ((Below.refl _ w).alloc (Nat.le_refl _) (.cells #[.int .i64 0, .string ⟨#[]⟩, .int .i64 0, .int .i64 0, .int .i64 0, .slice none 0 0] 26))
  have N1 := Lib.hid (now_at hw1)
  have HC := Lib.hid hc
  have hlt := hc.bB
  clear h hc hw1 h0
  go_enter Tryz.func38, Tryz.ntmps38
  go_wp2_with fail
  refine N1.out.mono ?_
  rintro e w1 ⟨rfl, hb1⟩
  have hz := hb1.size
  rw [World.size_alloc] at hz
  have HP1 := Lib.hid ((HP.out.alloc _).below hb1)
  have HR := Lib.hid (show w1.heap[w.heap.size]? = some (.cells #[.int .i64 0, .string ⟨#[]⟩, .int .i64 0, .int .i64 0, .int .i64 0, .slice none 0 0] 26 (0, 0)) from (hb1.block w.heap.size (by simp)).trans (heap_alloc_new w _))
  have hb2 : Below w.heap.size w w1 := ((Below.refl _ w).alloc (Nat.le_refl _) _).trans (hb1.mono (by simp))
  obtain ⟨c0, c1, c2, f1, f2, _, _, _, _, _, _, _, _⟩ := HC.out.below hb2
  have ne4 : ¬ B = w1.heap.size := by omega
  have hB1 : B < w1.heap.size := by omega
  clear hb1 hb2
  go_wp2_with ((with_reducible refine wpList_at ⟨none, .store 26 (.tmp 2) (.tmp 22), _, _, _, _⟩ ?_); go_must (refine wpList_store_box rfl 26 (.tmp 2) (.tmp 22) rfl w.heap.size #[.int .i64 3, .string ⟨t.text.toArray⟩, .int .i64 0, .int .i64 0, .int .i64 (t.pos : Nat), .slice none 0 0] rfl rfl 26 _ (row_alloc (row_far HR.out (show w.heap.size ≠ B by omega) _) _) (by kernel_rfl) rfl (by simp [Value.oneCell']) ?_; intro w2 hg2 hr2))
  have p0 := cell_of_row _ _ 0 _ _ (0, 0) hr2
  have p1 := cell_of_row _ _ 1 _ _ (0, 0) hr2
  have p2 := cell_of_row _ _ 2 _ _ (0, 0) hr2
  have p3 := cell_of_row _ _ 3 _ _ (0, 0) hr2
  have p4 := cell_of_row _ _ 4 _ _ (0, 0) hr2
  have p5 := cell_of_row _ _ 5 _ _ (0, 0) hr2
  refine bodyPost_ret (v := .tuple #[.agg #[.int .i64 3, .string ⟨t.text.toArray⟩, .int .i64 0, .int .i64 0, .int .i64 (t.pos : Nat), .slice none 0 0], .bool true]) ?_ rfl ⟨rfl, ?_⟩
  · simp [results, Tryz.results38, go_sem, p0, p1, p2, p3, p4, p5]
  · exact (((HP1.out.goto hnext).alloc _).box (Nat.le_refl _) hg2)

set_option maxRecDepth 100000 in
set_option maxHeartbeats 1000000 in
theorem leaf_text {lim : Nat} {w : World} {B : Nat} {T : List L.Tok} {k nest : Nat} (h : PAt lim w B T k nest) (hl : lim ≤ w.heap.size) (h0 : (T[k]'h.lt).kind = 2) :
    Calls Tryz.prog 38 #[.pointer (some ⟨B, 0, none⟩)] w fun e w' =>
      e = .returned (.tuple #[.agg #[.int .i64 4, .string ⟨(T[k]'h.lt).text.toArray⟩, .int .i64 0, .int .i64 0, .int .i64 ((T[k]'h.lt).pos : Nat), .slice none 0 0], .bool true]) ∧ PTo lim B T w w' (k + 1) nest := by
  have hnext := h.next (by omega)
  obtain ⟨tb, cap, hc⟩ := h.cells
  have HP := Lib.hid (PTo.start h hl)
  have hlen := h.len
  generalize T[k]'h.lt = t at *
  have e0 : ((t.kind : Int) == 0) = false := beq_eq_false_iff_ne.2 (by omega)
  have e2 : ((t.kind : Int) == 2) = true := by rw [h0]; rfl
  have hw1 := hc.below ((Below.refl _ w).alloc (Nat.le_refl _) (.cells #[.int .i64 0, .string ⟨#[]⟩, .int .i64 0, .int .i64 0, .int .i64 0, .slice none 0 0] 26))
  have N1 := Lib.hid (now_at hw1)
  have HC := Lib.hid hc
  have hlt := hc.bB
  clear h hc hw1 h0
  go_enter Tryz.func38, Tryz.ntmps38
  go_wp2_with fail
  refine N1.out.mono ?_
  rintro e w1 ⟨rfl, hb1⟩
  have hz := hb1.size
  rw [World.size_alloc] at hz
  have HP1 := Lib.hid ((HP.out.alloc _).below hb1)
  have HR := Lib.hid (show w1.heap[w.heap.size]? = some (.cells #[.int .i64 0, .string ⟨#[]⟩, .int .i64 0, .int .i64 0, .int .i64 0, .slice none 0 0] 26 (0, 0)) from (hb1.block w.heap.size (by simp)).trans (heap_alloc_new w _))
  have hb2 : Below w.heap.size w w1 := ((Below.refl _ w).alloc (Nat.le_refl _) _).trans (hb1.mono (by simp))
  obtain ⟨c0, c1, c2, f1, f2, _, _, _, _, _, _, _, _⟩ := HC.out.below hb2
  have ne4 : ¬ B = w1.heap.size := by omega
  have hB1 : B < w1.heap.size := by omega
  clear hb1 hb2
  go_wp2_with ((with_reducible refine wpList_at ⟨none, .store 26 (.tmp 2) (.tmp 36), _, _, _, _⟩ ?_); go_must (refine wpList_store_box rfl 26 (.tmp 2) (.tmp 36) rfl w.heap.size #[.int .i64 4, .string ⟨t.text.toArray⟩, .int .i64 0, .int .i64 0, .int .i64 (t.pos : Nat), .slice none 0 0] rfl rfl 26 _ (row_alloc (row_far HR.out (show w.heap.size ≠ B by omega) _) _) (by kernel_rfl) rfl (by simp [Value.oneCell']) ?_; intro w2 hg2 hr2))
  have p0 := cell_of_row _ _ 0 _ _ (0, 0) hr2
  have p1 := cell_of_row _ _ 1 _ _ (0, 0) hr2
  have p2 := cell_of_row _ _ 2 _ _ (0, 0) hr2
  have p3 := cell_of_row _ _ 3 _ _ (0, 0) hr2
  have p4 := cell_of_row _ _ 4 _ _ (0, 0) hr2
  have p5 := cell_of_row _ _ 5 _ _ (0, 0) hr2
  refine bodyPost_ret (v := .tuple #[.agg #[.int .i64 4, .string ⟨t.text.toArray⟩, .int .i64 0, .int .i64 0, .int .i64 (t.pos : Nat), .slice none 0 0], .bool true]) ?_ rfl ⟨rfl, ?_⟩
  · simp [results, Tryz.results38, go_sem, p0, p1, p2, p3, p4, p5]
  · exact (((HP1.out.goto hnext).alloc _).box (Nat.le_refl _) hg2)

end Go.Proofs.YtooajmbpncmgjaaGreatDoor
