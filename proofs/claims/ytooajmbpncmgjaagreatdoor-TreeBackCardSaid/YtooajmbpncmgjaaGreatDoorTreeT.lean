/- Layer 15's Parse, by contract: the source that has tokens. -/
import Derived.Test.YtooajmbpncmgjaaGreatDoorTreeS
import Derived.Test.YtooajmbpncmgjaaGreatDoorLexMath4
namespace Go.Proofs.YtooajmbpncmgjaaGreatDoor.Tr
open L (Tok)
def FileAt (T : List Tok) (kk : Nat) (l : List Tree) : Prop :=
  ∃ g, (T.drop kk).length < g ∧ fileL (T.length + 1) T = (match fileL g (T.drop kk) with | .error e => .error e | .ok l' => .ok (l ++ l'))
theorem file_start (T : List Tok) : FileAt T 0 [] :=
  ⟨_, Nat.lt_succ_self _, by rw [List.drop_zero]; cases fileL (T.length + 1) T with | error e => rfl | ok x => rfl⟩
theorem file_end {T : List Tok} {kk : Nat} {l : List Tree} (h : FileAt T kk l) (hs : (hd (T.drop kk)).kind = 4) : fileL (T.length + 1) T = .ok l := by
  obtain ⟨g, hg, h⟩ := h
  cases g with
  | zero => omega
  | succ g => rw [h, fileL, if_pos (by simpa using hs)]; simp
theorem file_bad {T : List Tok} {kk : Nat} {l : List Tree} (h : FileAt T kk l) (hs : (hd (T.drop kk)).kind ≠ 4) {e : Nat × Nat} (hv : declP (T.drop kk) = .error e) : fileL (T.length + 1) T = .error e := by
  obtain ⟨g, hg, h⟩ := h
  cases g with
  | zero => omega
  | succ g => rw [h, fileL, if_neg (by simpa using hs), hv]
theorem file_step {T : List Tok} {kk k2 : Nat} {l : List Tree} (h : FileAt T kk l) (hs : (hd (T.drop kk)).kind ≠ 4) {v : Tree} (hv : declP (T.drop kk) = .ok (v, T.drop k2)) (hl : (T.drop k2).length < (T.drop kk).length) : FileAt T k2 (l ++ [v]) := by
  obtain ⟨g, hg, h⟩ := h
  cases g with
  | zero => omega
  | succ g =>
    refine ⟨g, by omega, ?_⟩
    rw [h, fileL, if_neg (by simpa using hs), hv]
    dsimp only
    cases fileL g (T.drop k2) with
    | error e => rfl
    | ok x => simp
end Go.Proofs.YtooajmbpncmgjaaGreatDoor.Tr
namespace Go.Proofs.YtooajmbpncmgjaaGreatDoor
open Go.RowKit
attribute [local go_sem] fld_tok0 fld_tok1 fld_tok2

theorem par_start {w w1 : World} {T : List L.Tok} {g cap : Nat} {n0 : Nat} (hw : Std w) (hT : 0 < T.length) (hl : T.length ≤ 70000) (hend : ∀ i (hi : i < T.length), T[i].kind = 4 ↔ i + 1 = T.length) (hsh : ∀ i (hi : i < T.length), T[i].text.length ≤ 1000000)
    (r0 : w1.heap[w.heap.size]? = some (.cells #[.int .i64 0, .string ⟨#[]⟩, .int .i64 0, .int .i64 0, .int .i64 0, .slice none 0 0] 26 (0, 0)))
    (r1 : w1.heap[w.heap.size + 1]? = some (.cells #[.int .i64 0] 31 (0, 0))) (r2 : w1.heap[w.heap.size + 2]? = some (.cells #[.int .i64 0] 3 (0, 0)))
    (hz : w.heap.size + 3 ≤ w1.heap.size) (hb : Below w.heap.size w w1) (hrow : w1.ownsRow n0 41 3 (.slice (some ⟨g, 0, none⟩) T.length cap) T.length (T.flatMap tokCells)) (hn0 : n0 = w.heap.size + 3) :
    Par (w1.heap.size + 1) w1.heap.size T w (((w1.setCell ⟨w.heap.size + 1, 0, none⟩ (.int .i64 0)).setCell ⟨w.heap.size + 1 + 1, 0, none⟩ (.int .i64 0)).alloc (.cells #[.slice (some ⟨g, 0, none⟩) T.length cap, .int .i64 0, .int .i64 0] 60)) 0 [] (.slice none 0 0) [] (fun _ => False) 0 := by
  subst hn0
  have hg := hrow.lt g rfl
  have k0 := row_far (c := w.heap.size + 1 + 1) (i := 0) (row_far (c := w.heap.size + 1) (i := 0) r0 (by omega) (.int .i64 0)) (by omega) (.int .i64 0)
  have k1 := row_far (c := w.heap.size + 1 + 1) (i := 0) (row_setCell (i := 0) r1 (.int .i64 0)) (by omega) (.int .i64 0)
  have k2 := row_setCell (i := 0) (row_far (c := w.heap.size + 1) (i := 0) r2 (by omega) (.int .i64 0)) (.int .i64 0)
  have kr := (hrow.kept (grownBy_setCell2 w1 (w.heap.size + 1) 0 (.int .i64 0)) (.inr (by simp [Value.ownBlock]; omega))).kept (grownBy_setCell2 _ (w.heap.size + 1 + 1) 0 (.int .i64 0)) (.inr (by simp [Value.ownBlock]; omega))
  have hb2 := (hb.setCell (p := ⟨w.heap.size + 1, 0, none⟩) (by simp) (.int .i64 0)).setCell (p := ⟨w.heap.size + 1 + 1, 0, none⟩) (by simp; omega) (.int .i64 0)
  have hs2 : ((w1.setCell ⟨w.heap.size + 1, 0, none⟩ (.int .i64 0)).setCell ⟨w.heap.size + 1 + 1, 0, none⟩ (.int .i64 0)).heap.size = w1.heap.size := by simp
  have hng := hw.size
  have hn := heap_alloc_new ((w1.setCell ⟨w.heap.size + 1, 0, none⟩ (.int .i64 0)).setCell ⟨w.heap.size + 1 + 1, 0, none⟩ (.int .i64 0)) (.cells #[.slice (some ⟨g, 0, none⟩) T.length cap, .int .i64 0, .int .i64 0] 60)
  rw [hs2] at hn
  have hb3 := hb2.alloc (by rw [hs2]; omega) (.cells #[.slice (some ⟨g, 0, none⟩) T.length cap, .int .i64 0, .int .i64 0] 60)
  refine ⟨⟨hT, hl, hend, by omega, by omega, hsh, g, cap, _, hn, by omega, by omega, kr.alloc _⟩, rfl, by omega, hb3, by rw [World.size_alloc, hs2]; omega, row_alloc k0 _, row_alloc k1 _, row_alloc k2 _, Kids.nil _ _ _, hw.below hb3⟩

theorem append_cells {w : World} {base g n cap : Nat} {xs : List Value} {z0 z1 z2 z3 z4 z5 : Value} (h : w.ownsRow base 26 6 (.slice (some ⟨g, 0, none⟩) (n + 1) cap) (n + 1) (xs ++ [z0, z1, z2, z3, z4, z5])) (hl : xs.length = n * 6) :
    w.cell? ⟨g, n * 6, none⟩ = some z0 ∧ w.cell? ⟨g, n * 6 + 1, none⟩ = some z1 ∧ w.cell? ⟨g, n * 6 + 2, none⟩ = some z2 ∧ w.cell? ⟨g, n * 6 + 3, none⟩ = some z3 ∧ w.cell? ⟨g, n * 6 + 4, none⟩ = some z4 ∧ w.cell? ⟨g, n * 6 + 5, none⟩ = some z5 ∧
    w.frozen? ⟨g, n * 6, none⟩ = false ∧ w.frozen? ⟨g, n * 6 + 1, none⟩ = false ∧ w.frozen? ⟨g, n * 6 + 2, none⟩ = false ∧ w.frozen? ⟨g, n * 6 + 3, none⟩ = false ∧ w.frozen? ⟨g, n * 6 + 4, none⟩ = false ∧ w.frozen? ⟨g, n * 6 + 5, none⟩ = false := by
  have q : ∀ j, j < 6 → w.cell? ⟨g, n * 6 + j, none⟩ = [z0, z1, z2, z3, z4, z5][j]? := fun j hj => by
    rw [h.cellAt _ (by omega), List.getElem?_append_right (by omega)]
    congr 1
    omega
  exact ⟨q 0 (by omega), q 1 (by omega), q 2 (by omega), q 3 (by omega), q 4 (by omega), q 5 (by omega), h.frozenAt _, h.frozenAt _, h.frozenAt _, h.frozenAt _, h.frozenAt _, h.frozenAt _⟩

theorem Mid.done' {lim B : Nat} {T : List L.Tok} {w wr : World} {k n : Nat} {l : List Tr.Tree} {vs : List Value} {S : Nat → Prop} {d g cap : Nat} {xs : List Value} (h : Mid lim B T w wr k l (.slice (some ⟨g, 0, none⟩) n cap) vs S d g cap xs) (hn : n = l.length) (hx : xs = vs.flatMap fun v => v.cells.toList) : Par lim B T w wr k l (.slice (some ⟨g, 0, none⟩) n cap) vs S d := by
  subst hn
  exact h.done hx

/-- The node and the longer slice are stored, in whatever order. -/
theorem par_closed {lim B : Nat} {T : List L.Tok} {w w4 : World} {k : Nat} {l : List Tr.Tree} {tr : Tr.Tree} {kv a0 a1 a2 a3 a4 a5 z0 z1 z2 z3 z4 z5 : Value} {vs : List Value} {S : Nat → Prop} {d g cap : Nat}
    (h : Mid lim B T w w4 k (l ++ [tr]) kv (vs ++ [.agg #[a0, a1, a2, a3, a4, a5]]) S d g cap ((vs.flatMap fun v => v.cells.toList) ++ [z0, z1, z2, z3, z4, z5])) (hl : (vs.flatMap fun v => v.cells.toList).length = l.length * 6) (hw : NG ≤ w.heap.size) :
    Par lim B T w (((((((w4.setCell ⟨g, l.length * 6, none⟩ a0).setCell ⟨g, l.length * 6 + 1, none⟩ a1).setCell ⟨g, l.length * 6 + 2, none⟩ a2).setCell ⟨g, l.length * 6 + 3, none⟩ a3).setCell ⟨g, l.length * 6 + 4, none⟩ a4).setCell ⟨g, l.length * 6 + 5, none⟩ a5).setCell ⟨w.heap.size, 5, none⟩ (.slice (some ⟨g, 0, none⟩) (l.length + 1) cap)) k (l ++ [tr]) (.slice (some ⟨g, 0, none⟩) (l.length + 1) cap) (vs ++ [.agg #[a0, a1, a2, a3, a4, a5]]) S d ∧
    Par lim B T w (((((((w4.setCell ⟨w.heap.size, 5, none⟩ (.slice (some ⟨g, 0, none⟩) (l.length + 1) cap)).setCell ⟨g, l.length * 6, none⟩ a0).setCell ⟨g, l.length * 6 + 1, none⟩ a1).setCell ⟨g, l.length * 6 + 2, none⟩ a2).setCell ⟨g, l.length * 6 + 3, none⟩ a3).setCell ⟨g, l.length * 6 + 4, none⟩ a4).setCell ⟨g, l.length * 6 + 5, none⟩ a5) k (l ++ [tr]) (.slice (some ⟨g, 0, none⟩) (l.length + 1) cap) (vs ++ [.agg #[a0, a1, a2, a3, a4, a5]]) S d := by
  have he : (l ++ [tr]).length = l.length + 1 := by simp
  have hx := (set_six _ _ hl z0 z1 z2 z3 z4 z5 a0 a1 a2 a3 a4 a5).trans (show _ = (vs ++ [Value.agg #[a0, a1, a2, a3, a4, a5]]).flatMap (fun v : Value => v.cells.toList) by rw [List.flatMap_append]; rfl)
  have h1 := ((((((h.cell (l.length * 6) a0).cell (l.length * 6 + 1) a1).cell (l.length * 6 + 2) a2).cell (l.length * 6 + 3) a3).cell (l.length * 6 + 4) a4).cell (l.length * 6 + 5) a5).kids hw (.slice (some ⟨g, 0, none⟩) (l.length + 1) cap)
  have h2 := ((((((h.kids hw (.slice (some ⟨g, 0, none⟩) (l.length + 1) cap)).cell (l.length * 6) a0).cell (l.length * 6 + 1) a1).cell (l.length * 6 + 2) a2).cell (l.length * 6 + 3) a3).cell (l.length * 6 + 4) a4).cell (l.length * 6 + 5) a5
  exact ⟨h1.done' he.symm hx, h2.done' he.symm hx⟩

theorem decl_round {B : Nat} {T : List L.Tok} {w wx : World} {k : Nat} {l : List Tr.Tree} {kv : Value} {vs : List Value} {S : Nat → Prop} {d : Nat} {tr : Tr.Tree} {ts : List L.Tok} (hr : Tr.declP (T.drop k) = .ok (tr, ts)) (h : Par (B + 1) B T w wx k l kv vs S d) :
    Calls Tryz.prog 25 #[.pointer (some ⟨B, 0, none⟩)] wx fun e w' => ∃ k' v S' d', e = .returned v ∧ Par (B + 1) B T w w' k' l kv vs S d ∧ ts = T.drop k' ∧ NodeIn w' S' d' v tr ∧ (∀ b, S' b → wx.heap.size ≤ b ∧ b < w'.heap.size) ∧ (∀ b o, b ≠ B → wx.heap[b]? = some o → w'.heap[b]? = some o) ∧ wx.heap.size ≤ w'.heap.size := by
  have hd := decl_any wx k h.pos h.size h.std
  rw [hr] at hd
  refine hd.mono ?_
  rintro e w' ⟨k', v, S', d', rfl, hp, hts, hn, hS⟩
  exact ⟨k', v, S', d', rfl, h.call hp, hts, hn, hS, fun b o hb ho => (hp.only.block b (Array.getElem?_eq_some_iff.1 ho).1 (fun e => by cases e; exact hb rfl)).trans ho, hp.only.size⟩
theorem decl_fault {B : Nat} {T : List L.Tok} {w wx : World} {k : Nat} {l : List Tr.Tree} {kv : Value} {vs : List Value} {S : Nat → Prop} {d : Nat} {ft : Nat × Nat} (hr : Tr.declP (T.drop k) = .error ft) (h : Par (B + 1) B T w wx k l kv vs S d) :
    Calls Tryz.prog 25 #[.pointer (some ⟨B, 0, none⟩)] wx (fun e w' => e = .panicked [{ v := .iface 57 (.agg #[.int .i64 (ft.1 : Nat), .int .i64 (ft.2 : Nat)]), recovered := false }] ∧
      (∃ kv', w'.heap[w.heap.size]? = some (.cells #[.int .i64 0, .string ⟨#[]⟩, .int .i64 0, .int .i64 0, .int .i64 0, kv'] 26 (0, 0))) ∧ w'.heap[w.heap.size + 1]? = some (.cells #[.int .i64 0] 31 (0, 0)) ∧ w'.heap[w.heap.size + 2]? = some (.cells #[.int .i64 0] 3 (0, 0)) ∧ Below w.heap.size w w') := by
  have hd := decl_any wx k h.pos h.size h.std
  rw [hr] at hd
  refine hd.mono ?_
  rintro e w' ⟨rfl, hb⟩
  have hB := h.hB
  have hs := h.old.size
  have f : ∀ {b : Nat} {o : Obj}, wx.heap[b]? = some o → b ≠ B → w'.heap[b]? = some o := fun e hn => (hb.block _ (Array.getElem?_eq_some_iff.1 e).1 (fun c => by cases c; exact hn rfl)).trans e
  exact ⟨rfl, ⟨kv, f h.node (by omega)⟩, f h.err (by omega), f h.at' (by omega), h.old.trans ⟨hb.os, hb.tape, hb.output, hb.size, fun j hj => hb.block j (by omega) (fun e => by cases e; omega)⟩⟩

theorem leaves_tmps {P : Program} {fn : Func} {R : Ending → World → Prop} {t t' : Array Value} (h : results fn t = results fn t') : ∀ (ds : List Deferred) (u : FrameMode) (w : World), Leaves P fn t R ds u w → Leaves P fn t' R ds u w
  | [], .returning, w, ⟨v, h1, h2⟩ => ⟨v, h ▸ h1, h2⟩
  | [], .panicking _, _, k => k
  | d :: ds, u, w, ⟨h1, fv, cap, f, args, h2, h3, h4⟩ => ⟨h1, fv, cap, f, args, h2, h3, h4.mono fun e u' w' k => by
    cases e with
    | returned v => exact leaves_tmps h ds _ _ k
    | panicked c => exact leaves_tmps h ds _ _ k
    | outgrown => exact k⟩
theorem take_far {R : Ending → World → Prop} {c : List PanicEntry} {a : Act} {w : World} {v : Value} (d : Nat) (hd : 5 ≤ d) (h : bodyPostD Tryz.prog Tryz.f12 R (.panic c) (a.put (some d) v) w) : bodyPostD Tryz.prog Tryz.f12 R (.panic c) a w := by
  refine leaves_tmps ?_ _ _ _ h
  have q : ∀ j, j < 5 → (a.tmps.setIfInBounds d v)[j]? = a.tmps[j]? := fun j hj => Array.getElem?_setIfInBounds_ne (by omega)
  simp only [results, Tryz.results12, Act.put]
  simp [q 2 (by omega), q 3 (by omega), q 4 (by omega)]
theorem NodeIn.form {w : World} {S : Nat → Prop} {d : Nat} {v : Value} {t : Tr.Tree} (h : NodeIn w S d v t) : ∃ a n c, v = .agg #[.int .i64 t.kind, .string ⟨t.text.toArray⟩, .int .i64 t.num, .int .i64 t.dim, .int .i64 t.pos, .slice a n c] := by
  cases d with
  | zero => exact h.elim
  | succ d =>
    obtain ⟨kv, vs, h1, h2, _⟩ := h
    rcases h2.2 with ⟨h3, _⟩ | ⟨g, cap, cur, h3, _⟩
    · exact ⟨none, 0, 0, by rw [h1, h3]⟩
    · exact ⟨_, _, _, by rw [h1, h3]⟩
theorem Kids.form {w : World} {n0 b : Nat} {l : List Tr.Tree} {kv : Value} {vs : List Value} {S : Nat → Prop} {d : Nat} (h : Kids w n0 b l kv vs S d) : ∃ ka kc, kv = .slice ka l.length kc := by
  rcases h.row.2 with ⟨h1, h2⟩ | ⟨g, cap, cur, h1, _⟩
  · exact ⟨none, 0, by rw [h1, h2]⟩
  · exact ⟨_, _, h1⟩

theorem caught_end {s : List UInt8} {T : List L.Tok} {w w3 w4 : World} {ft : Nat × Nat} (hp : parseS s = Tr.parseP T) (hf : Tr.fileL (T.length + 1) T = .error ft) (hb : Below w.heap.size w w3) (hc : Caught w.heap.size ft.1 ft.2 w3 w4) (x0 x1 : Value) (r : List Value) :
    Leaves Tryz.prog Tryz.f12 (x0 :: x1 :: .pointer (some ⟨w.heap.size, 0, none⟩) :: .pointer (some ⟨w.heap.size + 1, 0, none⟩) :: .pointer (some ⟨w.heap.size + 2, 0, none⟩) :: r).toArray (ParseAt s w) [] .returning w4 := by
  refine ⟨_, parse_results hc.node hc.err hc.pos x0 x1 r, parseAt_zero ?_ (hb.trans hc.old)⟩
  rw [hp]
  unfold Tr.parseP
  rw [hf]
theorem idle_end {s : List UInt8} {T : List L.Tok} {w w2 w4 : World} {lim B k : Nat} {l : List Tr.Tree} {kv : Value} {vs : List Value} {S : Nat → Prop} {d : Nat} (hp : parseS s = Tr.parseP T) (hf : Tr.fileL (T.length + 1) T = .ok l) (hc : Par lim B T w w2 k l kv vs S d)
    (h4 : w4 = ((((((((w2.setCell ⟨w.heap.size, 0, none⟩ (.int .i64 0)).setCell ⟨w.heap.size, 1, none⟩ (.string ⟨#[]⟩)).setCell ⟨w.heap.size, 2, none⟩ (.int .i64 0)).setCell ⟨w.heap.size, 3, none⟩ (.int .i64 0)).setCell ⟨w.heap.size, 4, none⟩ (.int .i64 0)).setCell ⟨w.heap.size, 5, none⟩ kv).setCell ⟨w.heap.size + 1, 0, none⟩ (.int .i64 0)).setCell ⟨w.heap.size + 1 + 1, 0, none⟩ (.int .i64 0))) (x0 x1 : Value) (r : List Value) :
    Leaves Tryz.prog Tryz.f12 (x0 :: x1 :: .pointer (some ⟨w.heap.size, 0, none⟩) :: .pointer (some ⟨w.heap.size + 1, 0, none⟩) :: .pointer (some ⟨w.heap.size + 2, 0, none⟩) :: r).toArray (ParseAt s w) [] .returning w4 := by
  subst h4
  have hB := hc.hB
  have k0 := row_far (c := w.heap.size + 1 + 1) (i := 0) (row_far (c := w.heap.size + 1) (i := 0) (row_set6 hc.node (.int .i64 0) (.string ⟨#[]⟩) (.int .i64 0) (.int .i64 0) (.int .i64 0) kv) (by omega) (.int .i64 0)) (by omega) (.int .i64 0)
  have g1 := fun {b : Nat} {o : Obj} (h : w2.heap[b]? = some o) (e : b ≠ w.heap.size) => row_far (c := w.heap.size) (i := 5) (row_far (c := w.heap.size) (i := 4) (row_far (c := w.heap.size) (i := 3) (row_far (c := w.heap.size) (i := 2) (row_far (c := w.heap.size) (i := 1) (row_far (c := w.heap.size) (i := 0) h e (.int .i64 0)) e (.string ⟨#[]⟩)) e (.int .i64 0)) e (.int .i64 0)) e (.int .i64 0)) e kv
  have k1 := row_far (c := w.heap.size + 1 + 1) (i := 0) (row_setCell (i := 0) (g1 hc.err (by omega)) (.int .i64 0)) (by omega) (.int .i64 0)
  have k2 := row_setCell (i := 0) (row_far (c := w.heap.size + 1) (i := 0) (g1 hc.at' (by omega)) (by omega) (.int .i64 0)) (.int .i64 0)
  refine ⟨_, parse_results k0 (a := 0) k1 (p := 0) k2 x0 x1 r, ?_⟩
  have he : parseS s = (⟨0, [], 0, 0, 0, l⟩, 0, 0) := by
    rw [hp]
    unfold Tr.parseP
    rw [hf]
  unfold ParseAt
  rw [he]
  have hn := hc.kids.node 0 0 0 0 []
  have hbl := hc.kids.blocks
  have hs := hc.old.size
  have G := fun (w : World) (i : Nat) (v : Value) (n0 : Nat) => grownBy_setCell2 w n0 i v
  have hk : ∀ {W : World} {b i : Nat} {v : Value}, NodeIn W (fun c => S c ∨ kv.ownBlock = some c) (d + 1) (.agg #[.int .i64 0, .string ⟨#[]⟩, .int .i64 0, .int .i64 0, .int .i64 0, kv]) ⟨0, [], 0, 0, 0, l⟩ → b < B → NodeIn (W.setCell ⟨b, i, none⟩ v) (fun c => S c ∨ kv.ownBlock = some c) (d + 1) (.agg #[.int .i64 0, .string ⟨#[]⟩, .int .i64 0, .int .i64 0, .int .i64 0, kv]) ⟨0, [], 0, 0, 0, l⟩ :=
    fun {W b i v} h hb => NodeIn.kept (grownBy_setCell2 W b i v) (fun r e hs => by cases e; have := (hbl _ hs).1; omega) _ _ _ h
  refine ⟨_, fun c => S c ∨ kv.ownBlock = some c, d + 1, rfl, hk (hk (hk (hk (hk (hk (hk (hk hn (by omega)) (by omega)) (by omega)) (by omega)) (by omega)) (by omega)) (by omega)) (by omega), fun b hb => ?_, ?_⟩
  · have h1 := hbl b hb
    simp
    omega
  · exact (((((((hc.old.setCell (by simp) _).setCell (by simp) _).setCell (by simp) _).setCell (by simp) _).setCell (by simp) _).setCell (by simp) _).setCell (by simp) _).setCell (by simp; omega) _

set_option maxRecDepth 100000 in
set_option maxHeartbeats 8000000 in
theorem parse_good (s : ByteArray) (w : World) (hs : s.size ≤ maxLen) (hw : Std w) (he : (scanR s.data.toList).2.1 = 0) :
    Calls Tryz.prog 12 #[.string s] w (ParseAt s.data.toList w) := by
  have hp : parseS s.data.toList = Tr.parseP (scanR s.data.toList).1 := by unfold parseS; rw [if_pos he]
  have SC := Lib.hid fun w => scan_any s w hs
  have hp0 := (scanR_ok he).2.2.2
  obtain ⟨h1, h2, h3, h4⟩ := scanR_facts he
  unfold ScanAt at SC
  generalize scanR s.data.toList = q at *
  obtain ⟨T, qe, qp⟩ := q
  dsimp only at *
  subst he hp0
  have HP := Lib.hid hp
  have HW := Lib.hid hw
  have HE := Lib.hid h3
  have HS := Lib.hid h4
  clear hp hw h3 h4
  have hmf : ∀ fn first cap w, (Instr.makeFunc fn first cap).run Tryz.prog w = .ok (.func fn first cap) w := fun _ _ _ _ => rfl
  go_enter_defers Tryz.func12, Tryz.ntmps12
  go_wp2_with fail
  refine (SC.out _).mono ?_
  rintro e w1 ⟨v, rfl, hrow, hb1⟩
  obtain ⟨r0, r1, r2, hz1, hb⟩ := box_three hb1
  obtain ⟨g, cap, rfl, _, _⟩ := hrow.form h1
  have c1 := cell_of_row _ _ 0 _ _ (0, 0) r1
  have c2 := cell_of_row _ _ 0 _ _ (0, 0) r2
  have c2' : w1.cell? ⟨w.heap.size + 1 + 1, 0, none⟩ = some (.int .i64 0) := c2
  have f1 := frozen_of_row (i := 0) r1
  have f2 := frozen_of_row (i := 0) r2
  have hpar := par_start HW.out h1 h2 HE.out HS.out r0 r1 r2 hz1 hb hrow (by rw [World.size_alloc, World.size_alloc, World.size_alloc])
  have HPAR := Lib.hid hpar
  have HNG := HW.out.size
  clear hpar r0 r1 r2 hrow hb1 hb SC HE HS
  go_wp2_with fail
  clear c1 c2 c2' f1 f2
  go_loopw [21] (fun _ wr => ∃ (k : Nat) (l : List Tr.Tree) (kv : Value) (vs : List Value) (S : Nat → Prop) (d : Nat), Hid (Par (w1.heap.size + 1) w1.heap.size T w wr k l kv vs S d) ∧ Hid (Tr.FileAt T k l) ∧ Hid (l.length ≤ k)) (fun _ wr => T.length - atOf wr w1.heap.size)
  case atStart => exact ⟨0, [], _, [], _, 0, HPAR, Lib.hid (Tr.file_start _), Lib.hid (by simp)⟩
  case round =>
    obtain ⟨k, l, kv, vs, S, d, hc, hu, hll⟩ := hrel
    clear HPAR
    obtain ⟨ka, kc, rfl⟩ := hc.out.kids.form
    obtain ⟨tb, cap', hcc⟩ := hc.out.pos.cells
    have NW := Lib.hid (now_at hcc)
    have hdk := hd_drop T k hc.out.pos.lt
    by_cases hk : (T[k]'hc.out.pos.lt).kind = 4
    · have hfe := Tr.file_end hu.out (by rw [hdk]; exact hk)
      have HF := Lib.hid hfe
      have hk2 : ((T[k]'hc.out.pos.lt).kind : Int) = 4 := by omega
      clear hfe hcc hdk hk
      generalize T[k]'hc.out.pos.lt = t at *
      go_wp2_with fail
      refine NW.out.mono ?_
      rintro e w2 ⟨rfl, hb2⟩
      have hc2 := hc.out.below hb2
      have c00 := cell_of_row _ _ 0 _ _ (0, 0) hc2.node
      have f00 := frozen_of_row (i := 0) hc2.node
      have c01 := cell_of_row _ _ 1 _ _ (0, 0) hc2.node
      have f01 := frozen_of_row (i := 1) hc2.node
      have c02 := cell_of_row _ _ 2 _ _ (0, 0) hc2.node
      have f02 := frozen_of_row (i := 2) hc2.node
      have c03 := cell_of_row _ _ 3 _ _ (0, 0) hc2.node
      have f03 := frozen_of_row (i := 3) hc2.node
      have c04 := cell_of_row _ _ 4 _ _ (0, 0) hc2.node
      have f04 := frozen_of_row (i := 4) hc2.node
      have c05 := cell_of_row _ _ 5 _ _ (0, 0) hc2.node
      have f05 := frozen_of_row (i := 5) hc2.node
      have c1 := cell_of_row _ _ 0 _ _ (0, 0) hc2.err
      have c2 := cell_of_row _ _ 0 _ _ (0, 0) hc2.at'
      have c2' : w2.cell? ⟨w.heap.size + 1 + 1, 0, none⟩ = some (.int .i64 0) := c2
      have f1 := frozen_of_row (i := 0) hc2.err
      have f2 := frozen_of_row (i := 0) hc2.at'
      have hn2 := hc2.hB
      have HC2 := Lib.hid hc2
      clear hb2 hc2
      go_wp2_with fail
      refine leaves_cons (f := 23) (args := #[.pointer (some ⟨w.heap.size, 0, none⟩), .pointer (some ⟨w.heap.size + 1, 0, none⟩), .pointer (some ⟨w.heap.size + 2, 0, none⟩)]) (by simp) (by simp [go_sem]) ?_
      refine (catch_idle w.heap.size _).mono ?_
      rintro e u w4 ⟨rfl, rfl, rfl⟩
      exact idle_end HP.out HF.out HC2.out rfl _ _ _
    · have hk2 : ¬ ((T[k]'hc.out.pos.lt).kind : Int) = 4 := by omega
      have HK4 := Lib.hid (show (Tr.hd (T.drop k)).kind ≠ 4 by rw [hdk]; exact hk)
      clear hcc hdk hk
      generalize T[k]'hc.out.pos.lt = t at *
      go_wp2_with fail
      refine NW.out.mono ?_
      rintro e w2 ⟨rfl, hb2⟩
      have hc2 := hc.out.below hb2
      have hc3 := hc2.below (w' := w2.drew) ⟨rfl, rfl, rfl, Nat.le_refl _, fun _ _ => rfl⟩
      have n5 := cell_of_row _ _ 5 _ _ (0, 0) hc2.node
      have nf5 := frozen_of_row (i := 5) hc2.node
      have hlt2 := (Array.getElem?_eq_some_iff.1 hc2.node).1
      have hkl : l.length ≤ 70000 := by have h1 := hll.out; have h2 := hc.out.pos.lt; omega
      have HC2 := Lib.hid hc2
      have HC3 := Lib.hid hc3
      clear hb2 hc2 hc3
      cases hr : Tr.declP (T.drop k) with
      | error ft =>
        have VC := Lib.hid fun wx (h : Par (w1.heap.size + 1) w1.heap.size T w wx k l (.slice ka l.length kc) vs S d) => decl_fault hr h
        have hbad := Tr.file_bad hu.out HK4.out hr
        have HBAD := Lib.hid hbad
        clear hr hbad
        go_wp2_with fail
        refine wp_region_any (by kernel_rfl) ?_
        try (change wpAny _ _ _ _ _ _ _ (World.drew _))
        refine wpAny_take (i := 0) (v := ?_) rfl (by kernel_rfl) (by kernel_rfl) (by kernel_rfl) (fun _ _ _ h => take_far 24 (by decide) h) (Or.inl ⟨by rfl, ?hy0⟩) ?_
        case hy0 => intro w; go_simp; with_reducible rfl
        refine wpAny_ready (rs := [1, 2, 4]) (by kernel_rfl) (by simp) ?_
        refine AllReady.cons rfl (fun K hK => ?_) (AllReady.cons rfl (fun K hK => ?_) (AllReady.cons rfl (fun K hK => ?_) AllReady.nil))
        · go_simp
          refine hK _ _ ?_
          clear hK K
          refine wpAny_take (i := 3) (v := ?_) rfl (by kernel_rfl) (by kernel_rfl) (by kernel_rfl) (fun _ _ _ h => take_far 27 (by decide) h) (Or.inl ⟨by rfl, ?hy3⟩) ?_
          case hy3 => intro w; go_simp; with_reducible rfl
          refine wpAny_ready (rs := [2, 4]) (by kernel_rfl) (by simp) ?_
          refine AllReady.cons rfl (fun K hK => ?_) (AllReady.cons rfl (fun K hK => ?_) AllReady.nil)
          · go_simp
            refine (VC.out _ ?hpar).mono ?_
            case hpar => first | exact HC3.out | exact HC3.out.below ((Below.refl _ _).alloc (Nat.le_refl _) _) | exact (HC2.out.below ((Below.refl _ _).alloc (Nat.le_refl _) _)).below (Below.drew (Below.refl _ _))
            rintro e w3 ⟨rfl, ⟨kv3, d0⟩, d1, d2, hb3⟩
            refine leaves_cons (f := 23) (args := #[.pointer (some ⟨w.heap.size, 0, none⟩), .pointer (some ⟨w.heap.size + 1, 0, none⟩), .pointer (some ⟨w.heap.size + 2, 0, none⟩)]) (by simp) (by simp [go_sem]) ?_
            refine (catch_fault w.heap.size ft.1 ft.2 w3 kv3 (.int .i64 0) (.int .i64 0) d0 d1 d2).mono ?_
            rintro e u w4 ⟨rfl, rfl, hct⟩
            exact caught_end HP.out HBAD.out hb3 hct _ _ _
          · go_simp
            refine hK _ _ ?_
            clear hK K
            refine wpAny_ready (rs := [2]) (by kernel_rfl) (by simp) ?_
            refine AllReady.cons rfl (fun K hK => ?_) AllReady.nil
            go_simp
            refine (VC.out _ ?hpar).mono ?_
            case hpar => first | exact HC3.out | exact HC3.out.below ((Below.refl _ _).alloc (Nat.le_refl _) _) | exact (HC2.out.below ((Below.refl _ _).alloc (Nat.le_refl _) _)).below (Below.drew (Below.refl _ _))
            rintro e w3 ⟨rfl, ⟨kv3, d0⟩, d1, d2, hb3⟩
            refine leaves_cons (f := 23) (args := #[.pointer (some ⟨w.heap.size, 0, none⟩), .pointer (some ⟨w.heap.size + 1, 0, none⟩), .pointer (some ⟨w.heap.size + 2, 0, none⟩)]) (by simp) (by simp [go_sem]) ?_
            refine (catch_fault w.heap.size ft.1 ft.2 w3 kv3 (.int .i64 0) (.int .i64 0) d0 d1 d2).mono ?_
            rintro e u w4 ⟨rfl, rfl, hct⟩
            exact caught_end HP.out HBAD.out hb3 hct _ _ _
        · go_simp
          refine (VC.out _ ?hpar).mono ?_
          case hpar => first | exact HC3.out | exact HC3.out.below ((Below.refl _ _).alloc (Nat.le_refl _) _) | exact (HC2.out.below ((Below.refl _ _).alloc (Nat.le_refl _) _)).below (Below.drew (Below.refl _ _))
          rintro e w3 ⟨rfl, ⟨kv3, d0⟩, d1, d2, hb3⟩
          refine leaves_cons (f := 23) (args := #[.pointer (some ⟨w.heap.size, 0, none⟩), .pointer (some ⟨w.heap.size + 1, 0, none⟩), .pointer (some ⟨w.heap.size + 2, 0, none⟩)]) (by simp) (by simp [go_sem]) ?_
          refine (catch_fault w.heap.size ft.1 ft.2 w3 kv3 (.int .i64 0) (.int .i64 0) d0 d1 d2).mono ?_
          rintro e u w4 ⟨rfl, rfl, hct⟩
          exact caught_end HP.out HBAD.out hb3 hct _ _ _
        · go_simp
          refine hK _ _ ?_
          clear hK K
          refine wpAny_ready (rs := [1, 2]) (by kernel_rfl) (by simp) ?_
          refine AllReady.cons rfl (fun K hK => ?_) (AllReady.cons rfl (fun K hK => ?_) AllReady.nil)
          · go_simp
            refine hK _ _ ?_
            clear hK K
            refine wpAny_take (i := 3) (v := ?_) rfl (by kernel_rfl) (by kernel_rfl) (by kernel_rfl) (fun _ _ _ h => take_far 27 (by decide) h) (Or.inl ⟨by rfl, ?hy3⟩) ?_
            case hy3 => intro w; go_simp; with_reducible rfl
            refine wpAny_ready (rs := [2]) (by kernel_rfl) (by simp) ?_
            refine AllReady.cons rfl (fun K hK => ?_) AllReady.nil
            go_simp
            refine (VC.out _ ?hpar).mono ?_
            case hpar => first | exact HC3.out | exact HC3.out.below ((Below.refl _ _).alloc (Nat.le_refl _) _) | exact (HC2.out.below ((Below.refl _ _).alloc (Nat.le_refl _) _)).below (Below.drew (Below.refl _ _))
            rintro e w3 ⟨rfl, ⟨kv3, d0⟩, d1, d2, hb3⟩
            refine leaves_cons (f := 23) (args := #[.pointer (some ⟨w.heap.size, 0, none⟩), .pointer (some ⟨w.heap.size + 1, 0, none⟩), .pointer (some ⟨w.heap.size + 2, 0, none⟩)]) (by simp) (by simp [go_sem]) ?_
            refine (catch_fault w.heap.size ft.1 ft.2 w3 kv3 (.int .i64 0) (.int .i64 0) d0 d1 d2).mono ?_
            rintro e u w4 ⟨rfl, rfl, hct⟩
            exact caught_end HP.out HBAD.out hb3 hct _ _ _
          · go_simp
            refine (VC.out _ ?hpar).mono ?_
            case hpar => first | exact HC3.out | exact HC3.out.below ((Below.refl _ _).alloc (Nat.le_refl _) _) | exact (HC2.out.below ((Below.refl _ _).alloc (Nat.le_refl _) _)).below (Below.drew (Below.refl _ _))
            rintro e w3 ⟨rfl, ⟨kv3, d0⟩, d1, d2, hb3⟩
            refine leaves_cons (f := 23) (args := #[.pointer (some ⟨w.heap.size, 0, none⟩), .pointer (some ⟨w.heap.size + 1, 0, none⟩), .pointer (some ⟨w.heap.size + 2, 0, none⟩)]) (by simp) (by simp [go_sem]) ?_
            refine (catch_fault w.heap.size ft.1 ft.2 w3 kv3 (.int .i64 0) (.int .i64 0) d0 d1 d2).mono ?_
            rintro e u w4 ⟨rfl, rfl, hct⟩
            exact caught_end HP.out HBAD.out hb3 hct _ _ _
      | ok x =>
        obtain ⟨tr, ts⟩ := x
        have VC := Lib.hid fun wx (h : Par (w1.heap.size + 1) w1.heap.size T w wx k l (.slice ka l.length kc) vs S d) => decl_round hr h
        have HR := Lib.hid hr
        obtain ⟨i0, hi0, hz0, hz1', hz2'⟩ := info_parts Tryz.infoNode
        clear hr
        go_wp2_with fail
        refine wp_region_any (by kernel_rfl) ?_
        try (change wpAny _ _ _ _ _ _ _ (World.drew _))
        refine wpAny_take (i := 0) (v := ?_) rfl (by kernel_rfl) (by kernel_rfl) (by kernel_rfl) (fun _ _ _ h => take_far 24 (by decide) h) (Or.inl ⟨by rfl, ?hy0⟩) ?_
        case hy0 => intro w; go_simp; with_reducible rfl
        refine wpAny_ready (rs := [1, 2, 4]) (by kernel_rfl) (by simp) ?_
        refine AllReady.cons rfl (fun K hK => ?_) (AllReady.cons rfl (fun K hK => ?_) (AllReady.cons rfl (fun K hK => ?_) AllReady.nil))
        · go_simp
          refine hK _ _ ?_
          clear hK K
          refine wpAny_take (i := 3) (v := ?_) rfl (by kernel_rfl) (by kernel_rfl) (by kernel_rfl) (fun _ _ _ h => take_far 27 (by decide) h) (Or.inl ⟨by rfl, ?hy3⟩) ?_
          case hy3 => intro w; go_simp; with_reducible rfl
          refine wpAny_ready (rs := [2, 4]) (by kernel_rfl) (by simp) ?_
          refine AllReady.cons rfl (fun K hK => ?_) (AllReady.cons rfl (fun K hK => ?_) AllReady.nil)
          · go_simp
            refine (VC.out _ ?hpar).mono ?_
            case hpar => first | exact HC3.out | exact HC3.out.below ((Below.refl _ _).alloc (Nat.le_refl _) _) | exact (HC2.out.below ((Below.refl _ _).alloc (Nat.le_refl _) _)).below (Below.drew (Below.refl _ _))
            rintro e w3 ⟨k', v, S', d', rfl, hc4, hts, hn, hS', hkeep, hsz3⟩
            obtain ⟨ea, en, ec, rfl⟩ := hn.form
            have m5 := cell_of_row _ _ 5 _ _ (0, 0) hc4.node
            have mf5 := frozen_of_row (i := 5) hc4.node
            have hlt3 := (Array.getElem?_eq_some_iff.1 hc4.node).1
            have HTMP := Lib.hid (heap_alloc_new w3 (.cells #[.int .i64 0, .string ⟨#[]⟩, .int .i64 0, .int .i64 0, .int .i64 0, .slice none 0 0] 26))
            have HX := Lib.hid (hc4.below ((Below.refl _ _).alloc (Nat.le_refl _) (.cells #[.int .i64 0, .string ⟨#[]⟩, .int .i64 0, .int .i64 0, .int .i64 0, .slice none 0 0] 26)))
            have HN := Lib.hid (NodeIn.kept (World.grownBy_alloc w3 (.cells #[.int .i64 0, .string ⟨#[]⟩, .int .i64 0, .int .i64 0, .int .i64 0, .slice none 0 0] 26) none) (fun r e => by cases e) _ _ _ hn)
            have HSS : Hid (∀ c, S' c → w2.heap.size ≤ c ∧ c < (w3.alloc (.cells #[.int .i64 0, .string ⟨#[]⟩, .int .i64 0, .int .i64 0, .int .i64 0, .slice none 0 0] 26)).heap.size) := Lib.hid fun c hc => by have h1 := hS' c hc; rw [World.size_alloc]; simp at h1; omega
            have HTS := Lib.hid hts
            clear hc4 hts hn hS' hkeep
            refine hK _ _ ?_
            clear hK K
            refine wpAny_ready (rs := [4]) (by kernel_rfl) (by simp) ?_
            refine AllReady.cons rfl (fun K hK => ?_) AllReady.nil
            go_simp
            refine hK _ _ ?_
            clear hK K
            refine wpAny_ready (rs := [5]) (by kernel_rfl) (by simp) ?_
            refine AllReady.cons rfl (fun K hK => ?_) AllReady.nil
            refine step_append_lies _ (by rfl) _ _ _ (by rfl) w1.heap.size 26 i0 _ 6 72 Tryz.underlying24 hi0 hz0 hz1' hz2' rfl (by omega) (.slice ka l.length kc) l.length (vs.flatMap fun v => v.cells.toList) (by rfl) HX.out.kids.row
              ⟨w3.heap.size, 0, none⟩ 1 1 [.int .i64 0, .string ⟨#[]⟩, .int .i64 0, .int .i64 0, .int .i64 0, .slice none 0 0] (by rfl) (by rfl) (World.news_of_block (cs := #[.int .i64 0, .string ⟨#[]⟩, .int .i64 0, .int .i64 0, .int .i64 0, .slice none 0 0]) (t := 26) (fr := (0, 0)) HTMP.out) (one6 _ _ _ _ _ _ rfl)
              (by omega) (by unfold maxLen; omega) (by omega) (by have h1 := HX.out.size; omega) _ rfl ?_
            intro g2 cap2 w4 hown hgrow hat hlt
            have hlx := HX.out.kids.row.1
            obtain ⟨z0, z1, z2, z3, z4, z5, y0, y1, y2, y3, y4, y5⟩ := append_cells hown hlx
            have hmid := Par.push (m := w2.heap.size) HX.out HN.out HSS.out (by have h1 := HC2.out.size; have h2 := HC2.out.hl; omega) (fun c e => (HC2.out.kids.own c e).2.2.1) hown hgrow hat hlt
            have x5 := cell_of_row _ _ 5 _ _ (0, 0) hmid.node
            have xf5 := frozen_of_row (i := 5) hmid.node
            have hgn : ¬ g2 = w.heap.size := by have h1 := hmid.hg; have h2 := hmid.hB; omega
            have hgn2 : ¬ w.heap.size = g2 := fun e => hgn e.symm
            have HM := Lib.hid hmid
            have i1 : (0 : Int) ≤ (l.length : Nat) := by omega
            have i2 : ((l.length : Nat) : Int) < (l.length + 1 : Nat) := by omega
            have i3 : ((l.length : Nat) : Int) < ((l.length : Nat) : Int) + 1 := by omega
            clear hmid hown hgrow hat hlt hlx
            refine hK _ _ ?_
            clear hK K
            refine wpAny_take (i := 6) (v := ?_) rfl (by kernel_rfl) (by kernel_rfl) (by kernel_rfl) (fun _ _ _ h => take_far 30 (by decide) h) (Or.inl ⟨by rfl, ?hy6⟩) ?_
            case hy6 => intro w; go_simp; with_reducible rfl
            refine wpAny_take (i := 8) (v := ?_) rfl (by kernel_rfl) (by kernel_rfl) (by kernel_rfl) (fun _ _ _ h => take_far 31 (by decide) h) (Or.inl ⟨by rfl, ?hy8⟩) ?_
            case hy8 => intro w; go_simp; with_reducible rfl
            refine wpAny_ready (rs := [7, 9]) (by kernel_rfl) (by simp) ?_
            refine AllReady.cons rfl (fun K hK => ?_) (AllReady.cons rfl (fun K hK => ?_) AllReady.nil)
            · go_simp
              refine hK _ _ ?_
              clear hK K
              refine wpAny_ready (rs := [9]) (by kernel_rfl) (by simp) ?_
              refine AllReady.cons rfl (fun K hK => ?_) AllReady.nil
              go_simp
              refine hK _ _ ?_
              clear hK K
              refine wpAny_done (by kernel_rfl) ?_ _
              have hpar := (par_closed HM.out HX.out.kids.row.1 HNG).1
              go_wp2_with fail
              have hr := HR.out
              rw [HTS.out] at hr
              have hsh := Tr.decl_len _ _ _ hr
              have hlt4 := hpar.pos.lt
              refine ⟨⟨k', l ++ [tr], _, _, _, _, Lib.hid hpar, Lib.hid (Tr.file_step hu.out HK4.out hr hsh), Lib.hid (by have h1 := hll.out; simp at hsh ⊢; omega)⟩, ?_⟩
              rw [atOf_eq hpar.pos, atOf_eq hc.out.pos]
              simp at hsh
              omega
            · go_simp
              refine hK _ _ ?_
              clear hK K
              refine wpAny_ready (rs := [7]) (by kernel_rfl) (by simp) ?_
              refine AllReady.cons rfl (fun K hK => ?_) AllReady.nil
              go_simp
              refine hK _ _ ?_
              clear hK K
              refine wpAny_done (by kernel_rfl) ?_ _
              have hpar := (par_closed HM.out HX.out.kids.row.1 HNG).2
              go_wp2_with fail
              have hr := HR.out
              rw [HTS.out] at hr
              have hsh := Tr.decl_len _ _ _ hr
              have hlt4 := hpar.pos.lt
              refine ⟨⟨k', l ++ [tr], _, _, _, _, Lib.hid hpar, Lib.hid (Tr.file_step hu.out HK4.out hr hsh), Lib.hid (by have h1 := hll.out; simp at hsh ⊢; omega)⟩, ?_⟩
              rw [atOf_eq hpar.pos, atOf_eq hc.out.pos]
              simp at hsh
              omega
          · go_simp
            refine hK _ _ ?_
            clear hK K
            refine wpAny_ready (rs := [2]) (by kernel_rfl) (by simp) ?_
            refine AllReady.cons rfl (fun K hK => ?_) AllReady.nil
            go_simp
            refine (VC.out _ ?hpar).mono ?_
            case hpar => first | exact HC3.out | exact HC3.out.below ((Below.refl _ _).alloc (Nat.le_refl _) _) | exact (HC2.out.below ((Below.refl _ _).alloc (Nat.le_refl _) _)).below (Below.drew (Below.refl _ _))
            rintro e w3 ⟨k', v, S', d', rfl, hc4, hts, hn, hS', hkeep, hsz3⟩
            obtain ⟨ea, en, ec, rfl⟩ := hn.form
            have m5 := cell_of_row _ _ 5 _ _ (0, 0) hc4.node
            have mf5 := frozen_of_row (i := 5) hc4.node
            have hlt3 := (Array.getElem?_eq_some_iff.1 hc4.node).1
            have HTMP : Hid (w3.heap[w2.heap.size]? = some (.cells #[.int .i64 0, .string ⟨#[]⟩, .int .i64 0, .int .i64 0, .int .i64 0, .slice none 0 0] 26 (0, 0))) := Lib.hid (hkeep _ _ (by have h1 := HC2.out.size; have h2 := HC2.out.hl; omega) (heap_alloc_new w2 _))
            have HX := Lib.hid hc4
            have HN := Lib.hid hn
            have HSS : Hid (∀ c, S' c → w2.heap.size ≤ c ∧ c < w3.heap.size) := Lib.hid fun c hc => by have h1 := hS' c hc; simp at h1; omega
            have HTS := Lib.hid hts
            clear hc4 hts hn hS' hkeep
            refine hK _ _ ?_
            clear hK K
            refine wpAny_ready (rs := [5]) (by kernel_rfl) (by simp) ?_
            refine AllReady.cons rfl (fun K hK => ?_) AllReady.nil
            refine step_append_lies _ (by rfl) _ _ _ (by rfl) w1.heap.size 26 i0 _ 6 72 Tryz.underlying24 hi0 hz0 hz1' hz2' rfl (by omega) (.slice ka l.length kc) l.length (vs.flatMap fun v => v.cells.toList) (by rfl) HX.out.kids.row
              ⟨w2.heap.size, 0, none⟩ 1 1 [.int .i64 0, .string ⟨#[]⟩, .int .i64 0, .int .i64 0, .int .i64 0, .slice none 0 0] (by rfl) (by rfl) (World.news_of_block (cs := #[.int .i64 0, .string ⟨#[]⟩, .int .i64 0, .int .i64 0, .int .i64 0, .slice none 0 0]) (t := 26) (fr := (0, 0)) HTMP.out) (one6 _ _ _ _ _ _ rfl)
              (by omega) (by unfold maxLen; omega) (by omega) (by have h1 := HX.out.size; omega) _ rfl ?_
            intro g2 cap2 w4 hown hgrow hat hlt
            have hlx := HX.out.kids.row.1
            obtain ⟨z0, z1, z2, z3, z4, z5, y0, y1, y2, y3, y4, y5⟩ := append_cells hown hlx
            have hmid := Par.push (m := w2.heap.size) HX.out HN.out HSS.out (by have h1 := HC2.out.size; have h2 := HC2.out.hl; omega) (fun c e => (HC2.out.kids.own c e).2.2.1) hown hgrow hat hlt
            have x5 := cell_of_row _ _ 5 _ _ (0, 0) hmid.node
            have xf5 := frozen_of_row (i := 5) hmid.node
            have hgn : ¬ g2 = w.heap.size := by have h1 := hmid.hg; have h2 := hmid.hB; omega
            have hgn2 : ¬ w.heap.size = g2 := fun e => hgn e.symm
            have HM := Lib.hid hmid
            have i1 : (0 : Int) ≤ (l.length : Nat) := by omega
            have i2 : ((l.length : Nat) : Int) < (l.length + 1 : Nat) := by omega
            have i3 : ((l.length : Nat) : Int) < ((l.length : Nat) : Int) + 1 := by omega
            clear hmid hown hgrow hat hlt hlx
            refine hK _ _ ?_
            clear hK K
            refine wpAny_take (i := 6) (v := ?_) rfl (by kernel_rfl) (by kernel_rfl) (by kernel_rfl) (fun _ _ _ h => take_far 30 (by decide) h) (Or.inl ⟨by rfl, ?hy6⟩) ?_
            case hy6 => intro w; go_simp; with_reducible rfl
            refine wpAny_take (i := 8) (v := ?_) rfl (by kernel_rfl) (by kernel_rfl) (by kernel_rfl) (fun _ _ _ h => take_far 31 (by decide) h) (Or.inl ⟨by rfl, ?hy8⟩) ?_
            case hy8 => intro w; go_simp; with_reducible rfl
            refine wpAny_ready (rs := [7, 9]) (by kernel_rfl) (by simp) ?_
            refine AllReady.cons rfl (fun K hK => ?_) (AllReady.cons rfl (fun K hK => ?_) AllReady.nil)
            · go_simp
              refine hK _ _ ?_
              clear hK K
              refine wpAny_ready (rs := [9]) (by kernel_rfl) (by simp) ?_
              refine AllReady.cons rfl (fun K hK => ?_) AllReady.nil
              go_simp
              refine hK _ _ ?_
              clear hK K
              refine wpAny_done (by kernel_rfl) ?_ _
              have hpar := (par_closed HM.out HX.out.kids.row.1 HNG).1
              go_wp2_with fail
              have hr := HR.out
              rw [HTS.out] at hr
              have hsh := Tr.decl_len _ _ _ hr
              have hlt4 := hpar.pos.lt
              refine ⟨⟨k', l ++ [tr], _, _, _, _, Lib.hid hpar, Lib.hid (Tr.file_step hu.out HK4.out hr hsh), Lib.hid (by have h1 := hll.out; simp at hsh ⊢; omega)⟩, ?_⟩
              rw [atOf_eq hpar.pos, atOf_eq hc.out.pos]
              simp at hsh
              omega
            · go_simp
              refine hK _ _ ?_
              clear hK K
              refine wpAny_ready (rs := [7]) (by kernel_rfl) (by simp) ?_
              refine AllReady.cons rfl (fun K hK => ?_) AllReady.nil
              go_simp
              refine hK _ _ ?_
              clear hK K
              refine wpAny_done (by kernel_rfl) ?_ _
              have hpar := (par_closed HM.out HX.out.kids.row.1 HNG).2
              go_wp2_with fail
              have hr := HR.out
              rw [HTS.out] at hr
              have hsh := Tr.decl_len _ _ _ hr
              have hlt4 := hpar.pos.lt
              refine ⟨⟨k', l ++ [tr], _, _, _, _, Lib.hid hpar, Lib.hid (Tr.file_step hu.out HK4.out hr hsh), Lib.hid (by have h1 := hll.out; simp at hsh ⊢; omega)⟩, ?_⟩
              rw [atOf_eq hpar.pos, atOf_eq hc.out.pos]
              simp at hsh
              omega
        · go_simp
          refine (VC.out _ ?hpar).mono ?_
          case hpar => first | exact HC3.out | exact HC3.out.below ((Below.refl _ _).alloc (Nat.le_refl _) _) | exact (HC2.out.below ((Below.refl _ _).alloc (Nat.le_refl _) _)).below (Below.drew (Below.refl _ _))
          rintro e w3 ⟨k', v, S', d', rfl, hc4, hts, hn, hS', hkeep, hsz3⟩
          obtain ⟨ea, en, ec, rfl⟩ := hn.form
          have m5 := cell_of_row _ _ 5 _ _ (0, 0) hc4.node
          have mf5 := frozen_of_row (i := 5) hc4.node
          have hlt3 := (Array.getElem?_eq_some_iff.1 hc4.node).1
          have HTMP := Lib.hid (heap_alloc_new w3 (.cells #[.int .i64 0, .string ⟨#[]⟩, .int .i64 0, .int .i64 0, .int .i64 0, .slice none 0 0] 26))
          have HX := Lib.hid (hc4.below ((Below.refl _ _).alloc (Nat.le_refl _) (.cells #[.int .i64 0, .string ⟨#[]⟩, .int .i64 0, .int .i64 0, .int .i64 0, .slice none 0 0] 26)))
          have HN := Lib.hid (NodeIn.kept (World.grownBy_alloc w3 (.cells #[.int .i64 0, .string ⟨#[]⟩, .int .i64 0, .int .i64 0, .int .i64 0, .slice none 0 0] 26) none) (fun r e => by cases e) _ _ _ hn)
          have HSS : Hid (∀ c, S' c → w2.heap.size ≤ c ∧ c < (w3.alloc (.cells #[.int .i64 0, .string ⟨#[]⟩, .int .i64 0, .int .i64 0, .int .i64 0, .slice none 0 0] 26)).heap.size) := Lib.hid fun c hc => by have h1 := hS' c hc; rw [World.size_alloc]; simp at h1; omega
          have HTS := Lib.hid hts
          clear hc4 hts hn hS' hkeep
          refine hK _ _ ?_
          clear hK K
          refine wpAny_ready (rs := [1, 4]) (by kernel_rfl) (by simp) ?_
          refine AllReady.cons rfl (fun K hK => ?_) (AllReady.cons rfl (fun K hK => ?_) AllReady.nil)
          · go_simp
            refine hK _ _ ?_
            clear hK K
            refine wpAny_take (i := 3) (v := ?_) rfl (by kernel_rfl) (by kernel_rfl) (by kernel_rfl) (fun _ _ _ h => take_far 27 (by decide) h) (Or.inl ⟨by rfl, ?hy3⟩) ?_
            case hy3 => intro w; go_simp; with_reducible rfl
            refine wpAny_ready (rs := [4]) (by kernel_rfl) (by simp) ?_
            refine AllReady.cons rfl (fun K hK => ?_) AllReady.nil
            go_simp
            refine hK _ _ ?_
            clear hK K
            refine wpAny_ready (rs := [5]) (by kernel_rfl) (by simp) ?_
            refine AllReady.cons rfl (fun K hK => ?_) AllReady.nil
            refine step_append_lies _ (by rfl) _ _ _ (by rfl) w1.heap.size 26 i0 _ 6 72 Tryz.underlying24 hi0 hz0 hz1' hz2' rfl (by omega) (.slice ka l.length kc) l.length (vs.flatMap fun v => v.cells.toList) (by rfl) HX.out.kids.row
              ⟨w3.heap.size, 0, none⟩ 1 1 [.int .i64 0, .string ⟨#[]⟩, .int .i64 0, .int .i64 0, .int .i64 0, .slice none 0 0] (by rfl) (by rfl) (World.news_of_block (cs := #[.int .i64 0, .string ⟨#[]⟩, .int .i64 0, .int .i64 0, .int .i64 0, .slice none 0 0]) (t := 26) (fr := (0, 0)) HTMP.out) (one6 _ _ _ _ _ _ rfl)
              (by omega) (by unfold maxLen; omega) (by omega) (by have h1 := HX.out.size; omega) _ rfl ?_
            intro g2 cap2 w4 hown hgrow hat hlt
            have hlx := HX.out.kids.row.1
            obtain ⟨z0, z1, z2, z3, z4, z5, y0, y1, y2, y3, y4, y5⟩ := append_cells hown hlx
            have hmid := Par.push (m := w2.heap.size) HX.out HN.out HSS.out (by have h1 := HC2.out.size; have h2 := HC2.out.hl; omega) (fun c e => (HC2.out.kids.own c e).2.2.1) hown hgrow hat hlt
            have x5 := cell_of_row _ _ 5 _ _ (0, 0) hmid.node
            have xf5 := frozen_of_row (i := 5) hmid.node
            have hgn : ¬ g2 = w.heap.size := by have h1 := hmid.hg; have h2 := hmid.hB; omega
            have hgn2 : ¬ w.heap.size = g2 := fun e => hgn e.symm
            have HM := Lib.hid hmid
            have i1 : (0 : Int) ≤ (l.length : Nat) := by omega
            have i2 : ((l.length : Nat) : Int) < (l.length + 1 : Nat) := by omega
            have i3 : ((l.length : Nat) : Int) < ((l.length : Nat) : Int) + 1 := by omega
            clear hmid hown hgrow hat hlt hlx
            refine hK _ _ ?_
            clear hK K
            refine wpAny_take (i := 6) (v := ?_) rfl (by kernel_rfl) (by kernel_rfl) (by kernel_rfl) (fun _ _ _ h => take_far 30 (by decide) h) (Or.inl ⟨by rfl, ?hy6⟩) ?_
            case hy6 => intro w; go_simp; with_reducible rfl
            refine wpAny_take (i := 8) (v := ?_) rfl (by kernel_rfl) (by kernel_rfl) (by kernel_rfl) (fun _ _ _ h => take_far 31 (by decide) h) (Or.inl ⟨by rfl, ?hy8⟩) ?_
            case hy8 => intro w; go_simp; with_reducible rfl
            refine wpAny_ready (rs := [7, 9]) (by kernel_rfl) (by simp) ?_
            refine AllReady.cons rfl (fun K hK => ?_) (AllReady.cons rfl (fun K hK => ?_) AllReady.nil)
            · go_simp
              refine hK _ _ ?_
              clear hK K
              refine wpAny_ready (rs := [9]) (by kernel_rfl) (by simp) ?_
              refine AllReady.cons rfl (fun K hK => ?_) AllReady.nil
              go_simp
              refine hK _ _ ?_
              clear hK K
              refine wpAny_done (by kernel_rfl) ?_ _
              have hpar := (par_closed HM.out HX.out.kids.row.1 HNG).1
              go_wp2_with fail
              have hr := HR.out
              rw [HTS.out] at hr
              have hsh := Tr.decl_len _ _ _ hr
              have hlt4 := hpar.pos.lt
              refine ⟨⟨k', l ++ [tr], _, _, _, _, Lib.hid hpar, Lib.hid (Tr.file_step hu.out HK4.out hr hsh), Lib.hid (by have h1 := hll.out; simp at hsh ⊢; omega)⟩, ?_⟩
              rw [atOf_eq hpar.pos, atOf_eq hc.out.pos]
              simp at hsh
              omega
            · go_simp
              refine hK _ _ ?_
              clear hK K
              refine wpAny_ready (rs := [7]) (by kernel_rfl) (by simp) ?_
              refine AllReady.cons rfl (fun K hK => ?_) AllReady.nil
              go_simp
              refine hK _ _ ?_
              clear hK K
              refine wpAny_done (by kernel_rfl) ?_ _
              have hpar := (par_closed HM.out HX.out.kids.row.1 HNG).2
              go_wp2_with fail
              have hr := HR.out
              rw [HTS.out] at hr
              have hsh := Tr.decl_len _ _ _ hr
              have hlt4 := hpar.pos.lt
              refine ⟨⟨k', l ++ [tr], _, _, _, _, Lib.hid hpar, Lib.hid (Tr.file_step hu.out HK4.out hr hsh), Lib.hid (by have h1 := hll.out; simp at hsh ⊢; omega)⟩, ?_⟩
              rw [atOf_eq hpar.pos, atOf_eq hc.out.pos]
              simp at hsh
              omega
          · go_simp
            refine hK _ _ ?_
            clear hK K
            refine wpAny_ready (rs := [1]) (by kernel_rfl) (by simp) ?_
            refine AllReady.cons rfl (fun K hK => ?_) AllReady.nil
            go_simp
            refine hK _ _ ?_
            clear hK K
            refine wpAny_take (i := 3) (v := ?_) rfl (by kernel_rfl) (by kernel_rfl) (by kernel_rfl) (fun _ _ _ h => take_far 27 (by decide) h) (Or.inl ⟨by rfl, ?hy3⟩) ?_
            case hy3 => intro w; go_simp; with_reducible rfl
            refine wpAny_ready (rs := [5]) (by kernel_rfl) (by simp) ?_
            refine AllReady.cons rfl (fun K hK => ?_) AllReady.nil
            refine step_append_lies _ (by rfl) _ _ _ (by rfl) w1.heap.size 26 i0 _ 6 72 Tryz.underlying24 hi0 hz0 hz1' hz2' rfl (by omega) (.slice ka l.length kc) l.length (vs.flatMap fun v => v.cells.toList) (by rfl) HX.out.kids.row
              ⟨w3.heap.size, 0, none⟩ 1 1 [.int .i64 0, .string ⟨#[]⟩, .int .i64 0, .int .i64 0, .int .i64 0, .slice none 0 0] (by rfl) (by rfl) (World.news_of_block (cs := #[.int .i64 0, .string ⟨#[]⟩, .int .i64 0, .int .i64 0, .int .i64 0, .slice none 0 0]) (t := 26) (fr := (0, 0)) HTMP.out) (one6 _ _ _ _ _ _ rfl)
              (by omega) (by unfold maxLen; omega) (by omega) (by have h1 := HX.out.size; omega) _ rfl ?_
            intro g2 cap2 w4 hown hgrow hat hlt
            have hlx := HX.out.kids.row.1
            obtain ⟨z0, z1, z2, z3, z4, z5, y0, y1, y2, y3, y4, y5⟩ := append_cells hown hlx
            have hmid := Par.push (m := w2.heap.size) HX.out HN.out HSS.out (by have h1 := HC2.out.size; have h2 := HC2.out.hl; omega) (fun c e => (HC2.out.kids.own c e).2.2.1) hown hgrow hat hlt
            have x5 := cell_of_row _ _ 5 _ _ (0, 0) hmid.node
            have xf5 := frozen_of_row (i := 5) hmid.node
            have hgn : ¬ g2 = w.heap.size := by have h1 := hmid.hg; have h2 := hmid.hB; omega
            have hgn2 : ¬ w.heap.size = g2 := fun e => hgn e.symm
            have HM := Lib.hid hmid
            have i1 : (0 : Int) ≤ (l.length : Nat) := by omega
            have i2 : ((l.length : Nat) : Int) < (l.length + 1 : Nat) := by omega
            have i3 : ((l.length : Nat) : Int) < ((l.length : Nat) : Int) + 1 := by omega
            clear hmid hown hgrow hat hlt hlx
            refine hK _ _ ?_
            clear hK K
            refine wpAny_take (i := 6) (v := ?_) rfl (by kernel_rfl) (by kernel_rfl) (by kernel_rfl) (fun _ _ _ h => take_far 30 (by decide) h) (Or.inl ⟨by rfl, ?hy6⟩) ?_
            case hy6 => intro w; go_simp; with_reducible rfl
            refine wpAny_take (i := 8) (v := ?_) rfl (by kernel_rfl) (by kernel_rfl) (by kernel_rfl) (fun _ _ _ h => take_far 31 (by decide) h) (Or.inl ⟨by rfl, ?hy8⟩) ?_
            case hy8 => intro w; go_simp; with_reducible rfl
            refine wpAny_ready (rs := [7, 9]) (by kernel_rfl) (by simp) ?_
            refine AllReady.cons rfl (fun K hK => ?_) (AllReady.cons rfl (fun K hK => ?_) AllReady.nil)
            · go_simp
              refine hK _ _ ?_
              clear hK K
              refine wpAny_ready (rs := [9]) (by kernel_rfl) (by simp) ?_
              refine AllReady.cons rfl (fun K hK => ?_) AllReady.nil
              go_simp
              refine hK _ _ ?_
              clear hK K
              refine wpAny_done (by kernel_rfl) ?_ _
              have hpar := (par_closed HM.out HX.out.kids.row.1 HNG).1
              go_wp2_with fail
              have hr := HR.out
              rw [HTS.out] at hr
              have hsh := Tr.decl_len _ _ _ hr
              have hlt4 := hpar.pos.lt
              refine ⟨⟨k', l ++ [tr], _, _, _, _, Lib.hid hpar, Lib.hid (Tr.file_step hu.out HK4.out hr hsh), Lib.hid (by have h1 := hll.out; simp at hsh ⊢; omega)⟩, ?_⟩
              rw [atOf_eq hpar.pos, atOf_eq hc.out.pos]
              simp at hsh
              omega
            · go_simp
              refine hK _ _ ?_
              clear hK K
              refine wpAny_ready (rs := [7]) (by kernel_rfl) (by simp) ?_
              refine AllReady.cons rfl (fun K hK => ?_) AllReady.nil
              go_simp
              refine hK _ _ ?_
              clear hK K
              refine wpAny_done (by kernel_rfl) ?_ _
              have hpar := (par_closed HM.out HX.out.kids.row.1 HNG).2
              go_wp2_with fail
              have hr := HR.out
              rw [HTS.out] at hr
              have hsh := Tr.decl_len _ _ _ hr
              have hlt4 := hpar.pos.lt
              refine ⟨⟨k', l ++ [tr], _, _, _, _, Lib.hid hpar, Lib.hid (Tr.file_step hu.out HK4.out hr hsh), Lib.hid (by have h1 := hll.out; simp at hsh ⊢; omega)⟩, ?_⟩
              rw [atOf_eq hpar.pos, atOf_eq hc.out.pos]
              simp at hsh
              omega
        · go_simp
          refine hK _ _ ?_
          clear hK K
          refine wpAny_ready (rs := [1, 2]) (by kernel_rfl) (by simp) ?_
          refine AllReady.cons rfl (fun K hK => ?_) (AllReady.cons rfl (fun K hK => ?_) AllReady.nil)
          · go_simp
            refine hK _ _ ?_
            clear hK K
            refine wpAny_take (i := 3) (v := ?_) rfl (by kernel_rfl) (by kernel_rfl) (by kernel_rfl) (fun _ _ _ h => take_far 27 (by decide) h) (Or.inl ⟨by rfl, ?hy3⟩) ?_
            case hy3 => intro w; go_simp; with_reducible rfl
            refine wpAny_ready (rs := [2]) (by kernel_rfl) (by simp) ?_
            refine AllReady.cons rfl (fun K hK => ?_) AllReady.nil
            go_simp
            refine (VC.out _ ?hpar).mono ?_
            case hpar => first | exact HC3.out | exact HC3.out.below ((Below.refl _ _).alloc (Nat.le_refl _) _) | exact (HC2.out.below ((Below.refl _ _).alloc (Nat.le_refl _) _)).below (Below.drew (Below.refl _ _))
            rintro e w3 ⟨k', v, S', d', rfl, hc4, hts, hn, hS', hkeep, hsz3⟩
            obtain ⟨ea, en, ec, rfl⟩ := hn.form
            have m5 := cell_of_row _ _ 5 _ _ (0, 0) hc4.node
            have mf5 := frozen_of_row (i := 5) hc4.node
            have hlt3 := (Array.getElem?_eq_some_iff.1 hc4.node).1
            have HTMP : Hid (w3.heap[w2.heap.size]? = some (.cells #[.int .i64 0, .string ⟨#[]⟩, .int .i64 0, .int .i64 0, .int .i64 0, .slice none 0 0] 26 (0, 0))) := Lib.hid (hkeep _ _ (by have h1 := HC2.out.size; have h2 := HC2.out.hl; omega) (heap_alloc_new w2 _))
            have HX := Lib.hid hc4
            have HN := Lib.hid hn
            have HSS : Hid (∀ c, S' c → w2.heap.size ≤ c ∧ c < w3.heap.size) := Lib.hid fun c hc => by have h1 := hS' c hc; simp at h1; omega
            have HTS := Lib.hid hts
            clear hc4 hts hn hS' hkeep
            refine hK _ _ ?_
            clear hK K
            refine wpAny_ready (rs := [5]) (by kernel_rfl) (by simp) ?_
            refine AllReady.cons rfl (fun K hK => ?_) AllReady.nil
            refine step_append_lies _ (by rfl) _ _ _ (by rfl) w1.heap.size 26 i0 _ 6 72 Tryz.underlying24 hi0 hz0 hz1' hz2' rfl (by omega) (.slice ka l.length kc) l.length (vs.flatMap fun v => v.cells.toList) (by rfl) HX.out.kids.row
              ⟨w2.heap.size, 0, none⟩ 1 1 [.int .i64 0, .string ⟨#[]⟩, .int .i64 0, .int .i64 0, .int .i64 0, .slice none 0 0] (by rfl) (by rfl) (World.news_of_block (cs := #[.int .i64 0, .string ⟨#[]⟩, .int .i64 0, .int .i64 0, .int .i64 0, .slice none 0 0]) (t := 26) (fr := (0, 0)) HTMP.out) (one6 _ _ _ _ _ _ rfl)
              (by omega) (by unfold maxLen; omega) (by omega) (by have h1 := HX.out.size; omega) _ rfl ?_
            intro g2 cap2 w4 hown hgrow hat hlt
            have hlx := HX.out.kids.row.1
            obtain ⟨z0, z1, z2, z3, z4, z5, y0, y1, y2, y3, y4, y5⟩ := append_cells hown hlx
            have hmid := Par.push (m := w2.heap.size) HX.out HN.out HSS.out (by have h1 := HC2.out.size; have h2 := HC2.out.hl; omega) (fun c e => (HC2.out.kids.own c e).2.2.1) hown hgrow hat hlt
            have x5 := cell_of_row _ _ 5 _ _ (0, 0) hmid.node
            have xf5 := frozen_of_row (i := 5) hmid.node
            have hgn : ¬ g2 = w.heap.size := by have h1 := hmid.hg; have h2 := hmid.hB; omega
            have hgn2 : ¬ w.heap.size = g2 := fun e => hgn e.symm
            have HM := Lib.hid hmid
            have i1 : (0 : Int) ≤ (l.length : Nat) := by omega
            have i2 : ((l.length : Nat) : Int) < (l.length + 1 : Nat) := by omega
            have i3 : ((l.length : Nat) : Int) < ((l.length : Nat) : Int) + 1 := by omega
            clear hmid hown hgrow hat hlt hlx
            refine hK _ _ ?_
            clear hK K
            refine wpAny_take (i := 6) (v := ?_) rfl (by kernel_rfl) (by kernel_rfl) (by kernel_rfl) (fun _ _ _ h => take_far 30 (by decide) h) (Or.inl ⟨by rfl, ?hy6⟩) ?_
            case hy6 => intro w; go_simp; with_reducible rfl
            refine wpAny_take (i := 8) (v := ?_) rfl (by kernel_rfl) (by kernel_rfl) (by kernel_rfl) (fun _ _ _ h => take_far 31 (by decide) h) (Or.inl ⟨by rfl, ?hy8⟩) ?_
            case hy8 => intro w; go_simp; with_reducible rfl
            refine wpAny_ready (rs := [7, 9]) (by kernel_rfl) (by simp) ?_
            refine AllReady.cons rfl (fun K hK => ?_) (AllReady.cons rfl (fun K hK => ?_) AllReady.nil)
            · go_simp
              refine hK _ _ ?_
              clear hK K
              refine wpAny_ready (rs := [9]) (by kernel_rfl) (by simp) ?_
              refine AllReady.cons rfl (fun K hK => ?_) AllReady.nil
              go_simp
              refine hK _ _ ?_
              clear hK K
              refine wpAny_done (by kernel_rfl) ?_ _
              have hpar := (par_closed HM.out HX.out.kids.row.1 HNG).1
              go_wp2_with fail
              have hr := HR.out
              rw [HTS.out] at hr
              have hsh := Tr.decl_len _ _ _ hr
              have hlt4 := hpar.pos.lt
              refine ⟨⟨k', l ++ [tr], _, _, _, _, Lib.hid hpar, Lib.hid (Tr.file_step hu.out HK4.out hr hsh), Lib.hid (by have h1 := hll.out; simp at hsh ⊢; omega)⟩, ?_⟩
              rw [atOf_eq hpar.pos, atOf_eq hc.out.pos]
              simp at hsh
              omega
            · go_simp
              refine hK _ _ ?_
              clear hK K
              refine wpAny_ready (rs := [7]) (by kernel_rfl) (by simp) ?_
              refine AllReady.cons rfl (fun K hK => ?_) AllReady.nil
              go_simp
              refine hK _ _ ?_
              clear hK K
              refine wpAny_done (by kernel_rfl) ?_ _
              have hpar := (par_closed HM.out HX.out.kids.row.1 HNG).2
              go_wp2_with fail
              have hr := HR.out
              rw [HTS.out] at hr
              have hsh := Tr.decl_len _ _ _ hr
              have hlt4 := hpar.pos.lt
              refine ⟨⟨k', l ++ [tr], _, _, _, _, Lib.hid hpar, Lib.hid (Tr.file_step hu.out HK4.out hr hsh), Lib.hid (by have h1 := hll.out; simp at hsh ⊢; omega)⟩, ?_⟩
              rw [atOf_eq hpar.pos, atOf_eq hc.out.pos]
              simp at hsh
              omega
          · go_simp
            refine (VC.out _ ?hpar).mono ?_
            case hpar => first | exact HC3.out | exact HC3.out.below ((Below.refl _ _).alloc (Nat.le_refl _) _) | exact (HC2.out.below ((Below.refl _ _).alloc (Nat.le_refl _) _)).below (Below.drew (Below.refl _ _))
            rintro e w3 ⟨k', v, S', d', rfl, hc4, hts, hn, hS', hkeep, hsz3⟩
            obtain ⟨ea, en, ec, rfl⟩ := hn.form
            have m5 := cell_of_row _ _ 5 _ _ (0, 0) hc4.node
            have mf5 := frozen_of_row (i := 5) hc4.node
            have hlt3 := (Array.getElem?_eq_some_iff.1 hc4.node).1
            have HTMP : Hid (w3.heap[w2.heap.size]? = some (.cells #[.int .i64 0, .string ⟨#[]⟩, .int .i64 0, .int .i64 0, .int .i64 0, .slice none 0 0] 26 (0, 0))) := Lib.hid (hkeep _ _ (by have h1 := HC2.out.size; have h2 := HC2.out.hl; omega) (heap_alloc_new w2 _))
            have HX := Lib.hid hc4
            have HN := Lib.hid hn
            have HSS : Hid (∀ c, S' c → w2.heap.size ≤ c ∧ c < w3.heap.size) := Lib.hid fun c hc => by have h1 := hS' c hc; simp at h1; omega
            have HTS := Lib.hid hts
            clear hc4 hts hn hS' hkeep
            refine hK _ _ ?_
            clear hK K
            refine wpAny_ready (rs := [1]) (by kernel_rfl) (by simp) ?_
            refine AllReady.cons rfl (fun K hK => ?_) AllReady.nil
            go_simp
            refine hK _ _ ?_
            clear hK K
            refine wpAny_take (i := 3) (v := ?_) rfl (by kernel_rfl) (by kernel_rfl) (by kernel_rfl) (fun _ _ _ h => take_far 27 (by decide) h) (Or.inl ⟨by rfl, ?hy3⟩) ?_
            case hy3 => intro w; go_simp; with_reducible rfl
            refine wpAny_ready (rs := [5]) (by kernel_rfl) (by simp) ?_
            refine AllReady.cons rfl (fun K hK => ?_) AllReady.nil
            refine step_append_lies _ (by rfl) _ _ _ (by rfl) w1.heap.size 26 i0 _ 6 72 Tryz.underlying24 hi0 hz0 hz1' hz2' rfl (by omega) (.slice ka l.length kc) l.length (vs.flatMap fun v => v.cells.toList) (by rfl) HX.out.kids.row
              ⟨w2.heap.size, 0, none⟩ 1 1 [.int .i64 0, .string ⟨#[]⟩, .int .i64 0, .int .i64 0, .int .i64 0, .slice none 0 0] (by rfl) (by rfl) (World.news_of_block (cs := #[.int .i64 0, .string ⟨#[]⟩, .int .i64 0, .int .i64 0, .int .i64 0, .slice none 0 0]) (t := 26) (fr := (0, 0)) HTMP.out) (one6 _ _ _ _ _ _ rfl)
              (by omega) (by unfold maxLen; omega) (by omega) (by have h1 := HX.out.size; omega) _ rfl ?_
            intro g2 cap2 w4 hown hgrow hat hlt
            have hlx := HX.out.kids.row.1
            obtain ⟨z0, z1, z2, z3, z4, z5, y0, y1, y2, y3, y4, y5⟩ := append_cells hown hlx
            have hmid := Par.push (m := w2.heap.size) HX.out HN.out HSS.out (by have h1 := HC2.out.size; have h2 := HC2.out.hl; omega) (fun c e => (HC2.out.kids.own c e).2.2.1) hown hgrow hat hlt
            have x5 := cell_of_row _ _ 5 _ _ (0, 0) hmid.node
            have xf5 := frozen_of_row (i := 5) hmid.node
            have hgn : ¬ g2 = w.heap.size := by have h1 := hmid.hg; have h2 := hmid.hB; omega
            have hgn2 : ¬ w.heap.size = g2 := fun e => hgn e.symm
            have HM := Lib.hid hmid
            have i1 : (0 : Int) ≤ (l.length : Nat) := by omega
            have i2 : ((l.length : Nat) : Int) < (l.length + 1 : Nat) := by omega
            have i3 : ((l.length : Nat) : Int) < ((l.length : Nat) : Int) + 1 := by omega
            clear hmid hown hgrow hat hlt hlx
            refine hK _ _ ?_
            clear hK K
            refine wpAny_take (i := 6) (v := ?_) rfl (by kernel_rfl) (by kernel_rfl) (by kernel_rfl) (fun _ _ _ h => take_far 30 (by decide) h) (Or.inl ⟨by rfl, ?hy6⟩) ?_
            case hy6 => intro w; go_simp; with_reducible rfl
            refine wpAny_take (i := 8) (v := ?_) rfl (by kernel_rfl) (by kernel_rfl) (by kernel_rfl) (fun _ _ _ h => take_far 31 (by decide) h) (Or.inl ⟨by rfl, ?hy8⟩) ?_
            case hy8 => intro w; go_simp; with_reducible rfl
            refine wpAny_ready (rs := [7, 9]) (by kernel_rfl) (by simp) ?_
            refine AllReady.cons rfl (fun K hK => ?_) (AllReady.cons rfl (fun K hK => ?_) AllReady.nil)
            · go_simp
              refine hK _ _ ?_
              clear hK K
              refine wpAny_ready (rs := [9]) (by kernel_rfl) (by simp) ?_
              refine AllReady.cons rfl (fun K hK => ?_) AllReady.nil
              go_simp
              refine hK _ _ ?_
              clear hK K
              refine wpAny_done (by kernel_rfl) ?_ _
              have hpar := (par_closed HM.out HX.out.kids.row.1 HNG).1
              go_wp2_with fail
              have hr := HR.out
              rw [HTS.out] at hr
              have hsh := Tr.decl_len _ _ _ hr
              have hlt4 := hpar.pos.lt
              refine ⟨⟨k', l ++ [tr], _, _, _, _, Lib.hid hpar, Lib.hid (Tr.file_step hu.out HK4.out hr hsh), Lib.hid (by have h1 := hll.out; simp at hsh ⊢; omega)⟩, ?_⟩
              rw [atOf_eq hpar.pos, atOf_eq hc.out.pos]
              simp at hsh
              omega
            · go_simp
              refine hK _ _ ?_
              clear hK K
              refine wpAny_ready (rs := [7]) (by kernel_rfl) (by simp) ?_
              refine AllReady.cons rfl (fun K hK => ?_) AllReady.nil
              go_simp
              refine hK _ _ ?_
              clear hK K
              refine wpAny_done (by kernel_rfl) ?_ _
              have hpar := (par_closed HM.out HX.out.kids.row.1 HNG).2
              go_wp2_with fail
              have hr := HR.out
              rw [HTS.out] at hr
              have hsh := Tr.decl_len _ _ _ hr
              have hlt4 := hpar.pos.lt
              refine ⟨⟨k', l ++ [tr], _, _, _, _, Lib.hid hpar, Lib.hid (Tr.file_step hu.out HK4.out hr hsh), Lib.hid (by have h1 := hll.out; simp at hsh ⊢; omega)⟩, ?_⟩
              rw [atOf_eq hpar.pos, atOf_eq hc.out.pos]
              simp at hsh
              omega

theorem parse_any (s : ByteArray) (w : World) (hs : s.size ≤ maxLen) (hw : Std w) : Calls Tryz.prog 12 #[.string s] w (ParseAt s.data.toList w) := by
  by_cases he : (scanR s.data.toList).2.1 = 0
  · exact parse_good s w hs hw he
  · exact parse_bad s w hs he
end Go.Proofs.YtooajmbpncmgjaaGreatDoor
