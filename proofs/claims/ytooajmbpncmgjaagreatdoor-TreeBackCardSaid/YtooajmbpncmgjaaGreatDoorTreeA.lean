/- Layer 15's parser: its small steps, by contract. -/
import Derived.Test.YtooajmbpncmgjaaGreatDoorPlain
import Derived.Test.YtooajmbpncmgjaaGreatDoorLexG
import Derived.Test.YtooajmbpncmgjaaGreatDoorStdG
import Derived.Deep.RegionHeld3
import Derived.WalkLawsBesides
import Derived.Deep.Light
namespace Go.Proofs.YtooajmbpncmgjaaGreatDoor
open Go.RowKit

/-- The parser lies in block B (it and its tokens lie below lim): the tokens T, the next one's number, the depth. -/
structure PAt (lim : Nat) (w : World) (B : Nat) (T : List L.Tok) (k nest : Nat) : Prop where
  lt : k < T.length
  len : T.length ≤ 70000
  ends : ∀ i (h : i < T.length), T[i].kind = 4 ↔ i + 1 = T.length
  bB : B < lim
  ng : NG ≤ B
  short : ∀ i (h : i < T.length), T[i].text.length ≤ 1000000
  mem : ∃ tb cap n0, w.heap[B]? = some (.cells #[.slice (some ⟨tb, 0, none⟩) T.length cap, .int .i64 (k : Nat), .int .i64 (nest : Nat)] 60 (0, 0)) ∧ tb ≠ B ∧ tb < lim ∧
    w.ownsRow n0 41 3 (.slice (some ⟨tb, 0, none⟩) T.length cap) T.length (T.flatMap tokCells)

theorem flat3 : ∀ (T : List L.Tok) (k i : Nat) (hk : k < T.length) (_hi : i < 3), (T.flatMap tokCells)[k * 3 + i]? = (tokCells T[k])[i]?
  | [], k, i, hk, hi => by simp at hk
  | t :: T, 0, i, hk, hi => by
    rw [List.flatMap_cons, List.getElem?_append_left (by simp [tokCells]; omega)]
    simp
  | t :: T, k + 1, i, hk, hi => by
    have ih := flat3 T k i (by simpa using hk) hi
    have h3 : (tokCells t).length = 3 := rfl
    rw [List.flatMap_cons, List.getElem?_append_right (by rw [h3]; omega), h3]
    have : (k + 1) * 3 + i - 3 = k * 3 + i := by omega
    rw [this, ih]
    rfl

/-- What the walk reads of the parser. -/
structure PCells (w : World) (B tb cap : Nat) (n : Nat) (t : L.Tok) (k nest : Nat) : Prop where
  c0 : w.cell? ⟨B, 0, none⟩ = some (.slice (some ⟨tb, 0, none⟩) n cap)
  c1 : w.cell? ⟨B, 1, none⟩ = some (.int .i64 (k : Nat))
  c2 : w.cell? ⟨B, 2, none⟩ = some (.int .i64 (nest : Nat))
  f1 : w.frozen? ⟨B, 1, none⟩ = false
  f2 : w.frozen? ⟨B, 2, none⟩ = false
  t0 : w.cell? ⟨tb, k * 3, none⟩ = some (.int .i64 (t.kind : Nat))
  t1 : w.cell? ⟨tb, k * 3 + 1, none⟩ = some (.string ⟨t.text.toArray⟩)
  t2 : w.cell? ⟨tb, k * 3 + 2, none⟩ = some (.int .i64 (t.pos : Nat))
  bB : B < w.heap.size
  bt : tb < w.heap.size
  ne : tb ≠ B
  lt : k < n
  len : n ≤ 70000

theorem PAt.cells {lim : Nat} {w : World} {B : Nat} {T : List L.Tok} {k nest : Nat} (h : PAt lim w B T k nest) : ∃ tb cap, PCells w B tb cap T.length (T[k]'h.lt) k nest := by
  obtain ⟨hlt, hlen, _, _, _, _, tb, cap, n0, hb, hne, _, hr⟩ := h
  have ht : tb < w.heap.size := (hr.lt tb rfl).2
  have q : ∀ i (hi : i < 3), w.cell? ⟨tb, k * 3 + i, none⟩ = (tokCells T[k])[i]? := fun i hi => by rw [hr.cellAt _ (by omega), flat3 T k i hlt hi]
  exact ⟨tb, cap, cell_of_row _ _ 0 _ _ (0, 0) hb, cell_of_row _ _ 1 _ _ (0, 0) hb, cell_of_row _ _ 2 _ _ (0, 0) hb, frozen_of_row hb, frozen_of_row hb, q 0 (by omega), q 1 (by omega), q 2 (by omega), (Array.getElem?_eq_some_iff.1 hb).1, ht, hne, hlt, hlen⟩

theorem fld_tok0 (a b c : Value) (w : World) : (Instr.field 41 (.agg #[a, b, c]) 0).run Tryz.prog w = .ok a w := by kernel_rfl
theorem fld_tok1 (a b c : Value) (w : World) : (Instr.field 41 (.agg #[a, b, c]) 1).run Tryz.prog w = .ok b w := by kernel_rfl
theorem fld_tok2 (a b c : Value) (w : World) : (Instr.field 41 (.agg #[a, b, c]) 2).run Tryz.prog w = .ok c w := by kernel_rfl
attribute [local go_sem] fld_tok0 fld_tok1 fld_tok2

theorem fail_any (e p : Int) (w : World) : Calls Tryz.prog 56 #[.int .i64 e, .int .i64 p] w fun x w' => x = .panicked [{ v := .iface 57 (.agg #[.int .i64 e, .int .i64 p]), recovered := false }] ∧ w = w' := by
  go_enter Tryz.func56, Tryz.ntmps56
  go_wp2
  exact ⟨rfl, rfl, rfl⟩

set_option maxHeartbeats 1000000 in
theorem now_at {w : World} {B tb cap n : Nat} {t : L.Tok} {k nest : Nat} (h : PCells w B tb cap n t k nest) :
    Calls Tryz.prog 24 #[.pointer (some ⟨B, 0, none⟩)] w fun e w' => e = .returned (.agg #[.int .i64 (t.kind : Nat), .string ⟨t.text.toArray⟩, .int .i64 (t.pos : Nat)]) ∧ Below w.heap.size w w' := by
  obtain ⟨c0, c1, c2, f1, f2, t0, t1, t2, bB, bt, hne, hlt, hlen⟩ := h
  have i0 : (0 : Int) ≤ (k : Nat) := by omega
  have i1 : ((k : Nat) : Int) < (n : Nat) := by omega
  go_enter Tryz.func24, Tryz.ntmps24
  go_wp2_with fail
  go_region
  all_goals
    go_wp2_with fail
    refine bodyPost_ret (v := .agg #[.int .i64 (t.kind : Nat), .string ⟨t.text.toArray⟩, .int .i64 (t.pos : Nat)]) (by simp [results, Tryz.results24, go_sem]) rfl ⟨rfl, ?_⟩
    exact ((Below.refl _ _).alloc (Nat.le_refl _) _).trans ⟨rfl, rfl, rfl, Nat.le_refl _, fun _ _ => rfl⟩

theorem PCells.below {w w' : World} {B tb cap n : Nat} {t : L.Tok} {k nest : Nat} (h : PCells w B tb cap n t k nest) (hb : Below w.heap.size w w') : PCells w' B tb cap n t k nest :=
  ⟨(hb.cell (p := ⟨B, 0, none⟩) h.bB).trans h.c0, (hb.cell (p := ⟨B, 1, none⟩) h.bB).trans h.c1, (hb.cell (p := ⟨B, 2, none⟩) h.bB).trans h.c2, (hb.frozen (p := ⟨B, 1, none⟩) h.bB).trans h.f1, (hb.frozen (p := ⟨B, 2, none⟩) h.bB).trans h.f2,
   (hb.cell (p := ⟨tb, k * 3, none⟩) h.bt).trans h.t0, (hb.cell (p := ⟨tb, k * 3 + 1, none⟩) h.bt).trans h.t1, (hb.cell (p := ⟨tb, k * 3 + 2, none⟩) h.bt).trans h.t2, Nat.lt_of_lt_of_le h.bB hb.size, Nat.lt_of_lt_of_le h.bt hb.size, h.ne, h.lt, h.len⟩

/-- A new variable of three cells, behind a call that leaves what lay. -/
theorem box3 {w w1 : World} {a b c : Value} {t : TypeId} (hb : Below (w.alloc (.cells #[a, b, c] t)).heap.size (w.alloc (.cells #[a, b, c] t)) w1) :
    w1.cell? ⟨w.heap.size, 0, none⟩ = some a ∧ w1.cell? ⟨w.heap.size, 1, none⟩ = some b ∧ w1.cell? ⟨w.heap.size, 2, none⟩ = some c ∧
    w1.frozen? ⟨w.heap.size, 0, none⟩ = false ∧ w1.frozen? ⟨w.heap.size, 1, none⟩ = false ∧ w1.frozen? ⟨w.heap.size, 2, none⟩ = false := by
  have h := (hb.block w.heap.size (by simp)).trans (heap_alloc_new w (.cells #[a, b, c] t))
  exact ⟨cell_of_row _ _ 0 _ _ (0, 0) h, cell_of_row _ _ 1 _ _ (0, 0) h, cell_of_row _ _ 2 _ _ (0, 0) h, by simp [World.frozen?, h], by simp [World.frozen?, h], by simp [World.frozen?, h]⟩

theorem tret_bool {a b : Bool} (h : a = b) : Ending.returned (.bool a) = .returned (.bool b) := by rw [h]

set_option maxHeartbeats 1000000 in
theorem is_at {w : World} {B tb cap n : Nat} {t : L.Tok} {k nest : Nat} (h : PCells w B tb cap n t k nest) (s : List UInt8) :
    Calls Tryz.prog 40 #[.pointer (some ⟨B, 0, none⟩), .string ⟨s.toArray⟩] w fun e w' => e = .returned (.bool (Tr.signB t s)) ∧ Below w.heap.size w w' := by
  have N1 := Lib.hid (now_at h)
  have H := Lib.hid h
  clear h
  by_cases hk : t.kind = 3
  · have hk1 : ((t.kind : Int) == 3) = true := by rw [hk]; rfl
    have HF := Lib.hid (show Tr.signB t s = (t.text == s) by simp [Tr.signB, hk])
    clear hk
    go_enter Tryz.func40, Tryz.ntmps40
    go_wp2_with fail
    refine N1.out.mono ?_
    rintro e w1 ⟨rfl, hb1⟩
    have N2 := Lib.hid (now_at (H.out.below hb1))
    have HB1 := Lib.hid hb1
    clear hb1
    go_wp2_with fail
    refine N2.out.mono ?_
    rintro e w2 ⟨rfl, hb2⟩
    have HB2 := Lib.hid hb2
    clear hb2
    go_wp2_with fail
    go_ret
    exact ⟨tret_bool HF.out.symm, HB1.out.trans (HB2.out.mono HB1.out.size)⟩
  · have hk1 : ((t.kind : Int) == 3) = false := beq_eq_false_iff_ne.2 (by omega)
    have HF := Lib.hid (show Tr.signB t s = false by simp [Tr.signB, hk])
    clear hk
    go_enter Tryz.func40, Tryz.ntmps40
    go_wp2_with fail
    refine N1.out.mono ?_
    rintro e w1 ⟨rfl, hb1⟩
    have HB1 := Lib.hid hb1
    clear hb1
    go_wp2_with fail
    go_ret
    exact ⟨tret_bool HF.out.symm, HB1.out⟩

theorem PAt.grown {lim : Nat} {w w' : World} {B : Nat} {T : List L.Tok} {k nest : Nat} {row : Option Nat} (h : PAt lim w B T k nest) (hg : w.grownBy w' row) (hr : ∀ r, row = some r → lim ≤ r) : PAt lim w' B T k nest := by
  obtain ⟨a, b, c, d, ng, sh, tb, cap, n0, h1, h2, h3, h4⟩ := h
  exact ⟨a, b, c, d, ng, sh, tb, cap, n0, (hg.block _ (Array.getElem?_eq_some_iff.1 h1).1 (fun e => by have := hr B e.symm; omega)).trans h1, h2, h3, h4.kept hg (.inr (fun e => by have := hr tb (by rw [← e]; rfl); omega))⟩
theorem PAt.next {lim : Nat} {w : World} {B : Nat} {T : List L.Tok} {k nest : Nat} (h : PAt lim w B T k nest) (hk : (T[k]'h.lt).kind ≠ 4) : k + 1 < T.length := by
  have h1 := h.lt
  have h2 := (h.ends k h1)
  rcases Nat.lt_or_ge (k + 1) T.length with h3 | h3
  · exact h3
  · exact absurd (h2.2 (by omega)) hk
theorem PAt.goto {lim : Nat} {w : World} {B : Nat} {T : List L.Tok} {k nest : Nat} (h : PAt lim w B T k nest) {k' : Nat} (hk : k' < T.length) : PAt lim (w.setCell ⟨B, 1, none⟩ (.int .i64 (k' : Nat))) B T k' nest := by
  obtain ⟨a, b, c, d, ng, sh, tb, cap, n0, h1, h2, h3, h4⟩ := h
  refine ⟨hk, b, c, d, ng, sh, tb, cap, n0, row_setCell h1 _, h2, h3, h4.kept (grownBy_setCell2 _ _ _ _) (.inr (by simp [Value.ownBlock]; omega))⟩
theorem PAt.deep {lim : Nat} {w : World} {B : Nat} {T : List L.Tok} {k nest : Nat} (h : PAt lim w B T k nest) (nest' : Nat) : PAt lim (w.setCell ⟨B, 2, none⟩ (.int .i64 (nest' : Nat))) B T k nest' := by
  obtain ⟨a, b, c, d, ng, sh, tb, cap, n0, h1, h2, h3, h4⟩ := h
  refine ⟨a, b, c, d, ng, sh, tb, cap, n0, row_setCell h1 _, h2, h3, h4.kept (grownBy_setCell2 _ _ _ _) (.inr (by simp [Value.ownBlock]; omega))⟩

/-- A call's way from w to w': nothing that lay has turned but the parser; it stands at k. -/
structure PTo (lim : Nat) (B : Nat) (T : List L.Tok) (w w' : World) (k nest : Nat) : Prop where
  only : w.grownBy w' (some B)
  pos : PAt lim w' B T k nest
  le : lim ≤ w.heap.size

section
variable {lim B : Nat} {T : List L.Tok} {w w1 w2 : World} {k nest k' nest' : Nat}
theorem PTo.start (h : PAt lim w B T k nest) (hl : lim ≤ w.heap.size) : PTo lim B T w w k nest := ⟨only_below (Below.refl _ _) _, h, hl⟩
theorem PTo.size (h : PTo lim B T w w1 k nest) : w.heap.size ≤ w1.heap.size := h.only.size
theorem PTo.below (h : PTo lim B T w w1 k nest) (hb : Below w1.heap.size w1 w2) : PTo lim B T w w2 k nest := ⟨only_trans h.only (only_below hb _), h.pos.grown (grown_none hb) (fun r e => by cases e), h.le⟩
theorem PTo.alloc (h : PTo lim B T w w1 k nest) (o : Obj) : PTo lim B T w (w1.alloc o) k nest := h.below ((Below.refl _ _).alloc (Nat.le_refl _) o)
theorem PTo.drew (h : PTo lim B T w w1 k nest) : PTo lim B T w w1.drew k nest := h.below ⟨rfl, rfl, rfl, Nat.le_refl _, fun _ _ => rfl⟩
theorem PTo.set (h : PTo lim B T w w1 k nest) {b : Nat} (hb : w.heap.size ≤ b) (i : Nat) (v : Value) : PTo lim B T w (w1.setCell ⟨b, i, none⟩ v) k nest :=
  ⟨⟨h.only.os, h.only.tape, h.only.output, Nat.le_trans h.only.size (grownBy_setCell2 w1 b i v).size, fun j hj hn => ((grownBy_setCell2 w1 b i v).block j (Nat.lt_of_lt_of_le hj h.only.size) (fun e => by cases e; omega)).trans (h.only.block j hj hn)⟩,
   h.pos.grown (grownBy_setCell2 w1 b i v) (fun r e => by cases e; have := h.le; omega), h.le⟩
theorem PTo.box (h : PTo lim B T w w1 k nest) {b : Nat} (hb : w.heap.size ≤ b) (hg : w1.grownBy w2 (some b)) : PTo lim B T w w2 k nest :=
  ⟨⟨hg.os.trans h.only.os, hg.tape.trans h.only.tape, hg.output.trans h.only.output, Nat.le_trans h.only.size hg.size, fun j hj hn => (hg.block j (Nat.lt_of_lt_of_le hj h.only.size) (fun e => by cases e; omega)).trans (h.only.block j hj hn)⟩,
   h.pos.grown hg (fun r e => by cases e; have := h.le; omega), h.le⟩
theorem PTo.rowg (h : PTo lim B T w w1 k nest) {row : Option Nat} (hg : w1.grownBy w2 row) (hr : ∀ r, row = some r → w.heap.size ≤ r) : PTo lim B T w w2 k nest :=
  ⟨⟨hg.os.trans h.only.os, hg.tape.trans h.only.tape, hg.output.trans h.only.output, Nat.le_trans h.only.size hg.size, fun j hj hn => (hg.block j (Nat.lt_of_lt_of_le hj h.only.size) (fun e => by have := hr j e.symm; omega)).trans (h.only.block j hj hn)⟩,
   h.pos.grown hg (fun r e => by have := hr r e; have := h.le; omega), h.le⟩
theorem PTo.goto (h : PTo lim B T w w1 k nest) (hk : k' < T.length) : PTo lim B T w (w1.setCell ⟨B, 1, none⟩ (.int .i64 (k' : Nat))) k' nest := ⟨only_trans h.only (grownBy_setCell2 _ _ _ _), h.pos.goto hk, h.le⟩
theorem PTo.goto_eq (h : PTo lim B T w w1 k nest) (hk : k' < T.length) {v : Int} (hv : v = (k' : Nat)) : PTo lim B T w (w1.setCell ⟨B, 1, none⟩ (.int .i64 v)) k' nest := by subst hv; exact h.goto hk
theorem PTo.deep (h : PTo lim B T w w1 k nest) (nest' : Nat) : PTo lim B T w (w1.setCell ⟨B, 2, none⟩ (.int .i64 (nest' : Nat))) k nest' := ⟨only_trans h.only (grownBy_setCell2 _ _ _ _), h.pos.deep nest', h.le⟩
theorem PTo.deep_eq (h : PTo lim B T w w1 k nest) (nest' : Nat) {v : Int} (hv : v = (nest' : Nat)) : PTo lim B T w (w1.setCell ⟨B, 2, none⟩ (.int .i64 v)) k nest' := by subst hv; exact h.deep nest'
theorem PTo.call (h : PTo lim B T w w1 k nest) (h2 : PTo lim B T w1 w2 k' nest') : PTo lim B T w w2 k' nest' := ⟨only_trans h.only h2.only, h2.pos, h.le⟩
theorem PTo.std (h : PTo lim B T w w1 k nest) (hw : Std w) : Std w1 := hw.grown h.only (fun r e => by cases e; exact h.pos.ng)
theorem PTo.lim_le (h : PTo lim B T w w1 k nest) : lim ≤ w1.heap.size := Nat.le_trans h.le h.only.size
end

/-- The parser ends in a fault. -/
def Panics (w : World) (B : Nat) (f : Nat × Nat) (e : Ending) (w' : World) : Prop :=
  e = .panicked [{ v := .iface 57 (.agg #[.int .i64 (f.1 : Nat), .int .i64 (f.2 : Nat)]), recovered := false }] ∧ w.grownBy w' (some B)

set_option maxHeartbeats 1000000 in
theorem take_bad {lim : Nat} {w : World} {B : Nat} {T : List L.Tok} {k nest : Nat} (h : PAt lim w B T k nest) (kd : Nat) (hk : (T[k]'h.lt).kind ≠ kd) :
    Calls Tryz.prog 37 #[.pointer (some ⟨B, 0, none⟩), .int .i64 (kd : Nat)] w (Panics w B (2, (T[k]'h.lt).pos)) := by
  obtain ⟨tb, cap, hc⟩ := h.cells
  generalize T[k]'h.lt = t at hc hk
  have hk1 : (t.kind != kd) = true := by simpa using hk
  have hk2 : (t.kind == kd) = false := by simpa using hk
  have hw1 := hc.below ((Below.refl _ w).alloc (Nat.le_refl _) (.cells #[.int .i64 0, .string ⟨#[]⟩, .int .i64 0] 41))
  have N1 := Lib.hid (now_at hw1)
  clear h hc hk hw1
  have FA := Lib.hid fun w => fail_any 2 (t.pos : Nat) w
  go_enter Tryz.func37, Tryz.ntmps37
  go_wp2_with fail
  refine N1.out.mono ?_
  rintro e w1 ⟨rfl, hb1⟩
  have HB1 := Lib.hid hb1
  have hz := hb1.size
  clear hb1
  go_wp2_with fail
  refine (FA.out _).mono ?_
  rintro e w2 ⟨rfl, rfl⟩
  exact ⟨rfl, rfl, only_below ((((Below.refl _ w).alloc (Nat.le_refl _) _).trans (HB1.out.mono (by simp))).alloc (by simp at hz; omega) _) _⟩

set_option maxHeartbeats 1000000 in
theorem take_ok {lim : Nat} {w : World} {B : Nat} {T : List L.Tok} {k nest : Nat} (h : PAt lim w B T k nest) (hl : lim ≤ w.heap.size) (kd : Nat) (hk : (T[k]'h.lt).kind = kd) (h4 : kd ≠ 4) :
    Calls Tryz.prog 37 #[.pointer (some ⟨B, 0, none⟩), .int .i64 (kd : Nat)] w fun e w' =>
      e = .returned (.agg #[.int .i64 ((T[k]'h.lt).kind : Nat), .string ⟨(T[k]'h.lt).text.toArray⟩, .int .i64 ((T[k]'h.lt).pos : Nat)]) ∧ PTo lim B T w w' (k + 1) nest := by
  have hnext := h.next (by rw [hk]; exact h4)
  obtain ⟨tb, cap, hc⟩ := h.cells
  have HP := Lib.hid (PTo.start h hl)
  have hlen := h.len
  generalize T[k]'h.lt = t at hc hk ⊢
  clear h
  subst hk
  have hw1 := hc.below ((Below.refl _ w).alloc (Nat.le_refl _) (.cells #[.int .i64 0, .string ⟨#[]⟩, .int .i64 0] 41))
  have N1 := Lib.hid (now_at hw1)
  have HC := Lib.hid hc
  have hlt := hc.bB
  clear hc hw1
  go_enter Tryz.func37, Tryz.ntmps37
  go_wp2_with fail
  refine N1.out.mono ?_
  rintro e w1 ⟨rfl, hb1⟩
  have hz := hb1.size
  rw [World.size_alloc] at hz
  have hb2 : Below w.heap.size w w1 := ((Below.refl _ w).alloc (Nat.le_refl _) _).trans (hb1.mono (by simp))
  have hb3 := hb2.alloc (by omega) (.cells #[.int .i64 (t.kind : Nat), .string ⟨t.text.toArray⟩, .int .i64 (t.pos : Nat)] 41)
  have HP1 := Lib.hid ((HP.out.alloc _).below hb1)
  have HR := Lib.hid ((hb1.block w.heap.size (by simp)).trans (heap_alloc_new w (.cells #[.int .i64 0, .string ⟨#[]⟩, .int .i64 0] 41)))
  obtain ⟨c0, c1, c2, f1, f2, _, _, _, _, _, _, _, _⟩ := HC.out.below hb3
  obtain ⟨r0, r1, r2, rf0, rf1, rf2⟩ := box3 hb1
  have ne1 : ¬ B = w.heap.size := by omega
  have hz2 : w.heap.size < w1.heap.size := by omega
  have ne3 : ¬ w.heap.size = w1.heap.size := by omega
  have ne4 : ¬ B = w1.heap.size := by omega
  have hB1 : B < w1.heap.size := by omega
  have ne2 : ¬ w.heap.size = B := by omega
  clear hb1 hb2 hb3
  go_wp2_with fail
  have R1 := row_alloc (row_set3 (row_far HR.out (show w.heap.size ≠ B by omega) (i := 1) (.int .i64 ((k : Int) + 1))) (.int .i64 (t.kind : Nat)) (.string ⟨t.text.toArray⟩) (.int .i64 (t.pos : Nat))) (.cells #[.int .i64 (t.kind : Nat), .string ⟨t.text.toArray⟩, .int .i64 (t.pos : Nat)] 41)
  have p0 := cell_of_row _ _ 0 _ _ (0, 0) R1
  have p1 := cell_of_row _ _ 1 _ _ (0, 0) R1
  have p2 := cell_of_row _ _ 2 _ _ (0, 0) R1
  refine bodyPost_ret (v := .agg #[.int .i64 (t.kind : Nat), .string ⟨t.text.toArray⟩, .int .i64 (t.pos : Nat)]) ?_ rfl ⟨rfl, ?_⟩
  · simp [results, Tryz.results37, go_sem, p0, p1, p2]
  · exact ((((HP1.out.goto hnext).set (Nat.le_refl _) 0 _).set (Nat.le_refl _) 1 _).set (Nat.le_refl _) 2 _).alloc _
end Go.Proofs.YtooajmbpncmgjaaGreatDoor
