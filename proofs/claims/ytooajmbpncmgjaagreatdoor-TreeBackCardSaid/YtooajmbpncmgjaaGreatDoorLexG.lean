/- lex.Scan, by contract. -/
import Derived.Test.YtooajmbpncmgjaaGreatDoorLexF
import Derived.Maps.AppendAt
import Derived.RegionIn
namespace Go.Proofs.YtooajmbpncmgjaaGreatDoor
open Go.RowKit Go.Shelf
attribute [local go_sem] Oper.semAt_some

def tokCells (t : L.Tok) : List Value := [.int .i64 (t.kind : Nat), .string ⟨t.text.toArray⟩, .int .i64 (t.pos : Nat)]
/-- What Scan returns: the tokens, the error, its offset. -/
def scanR (s : List UInt8) : List L.Tok × Nat × Nat :=
  if 65536 < s.length then ([], 8, 0)
  else match L.scanL s with
    | (_, some t) => ([], 2, t.pos)
    | (l, none) => (l ++ [⟨4, [], s.length⟩], 0, 0)
def ScanAt (s : List UInt8) (w : World) (e : Ending) (w' : World) : Prop :=
  ∃ v, e = .returned (.tuple #[v, .int .i64 ((scanR s).2.1 : Nat), .int .i64 ((scanR s).2.2 : Nat)]) ∧ w'.ownsRow w.heap.size 41 3 v (scanR s).1.length ((scanR s).1.flatMap tokCells) ∧ Below w.heap.size w w'

theorem tokens_any (s : ByteArray) (w : World) :
    Calls Tryz.prog 26 #[.string s] w fun e w' => e = .returned (.func (.func 42) #[] #[.pointer (some ⟨w.heap.size, 0, none⟩)]) ∧ w.alloc (.cells #[.string s] 9) = w' := by
  have hmf : ∀ (fn : Fn) (first cap : Array Value) (w : World), (Instr.makeFunc fn first cap).run Tryz.prog w = .ok (.func fn first cap) w := fun _ _ _ _ => rfl
  go_enter Tryz.func26, Tryz.ntmps26
  go_wp2
  go_ret
  exact ⟨rfl, rfl⟩

theorem scanAt_full {s : List UInt8} {w w' : World} (h : 65536 < s.length) (hb : Below w.heap.size w w') : ScanAt s w (.returned (.tuple #[.slice none 0 0, .int .i64 8, .int .i64 0])) w' := by
  unfold ScanAt scanR
  rw [if_pos h]
  exact ⟨_, rfl, World.ownsRow_nil _ _ _ _, hb⟩
theorem scanAt_bad {s : List UInt8} {w w' : World} (h : ¬ 65536 < s.length) (t : L.Tok) (ht : (L.scanL s).2 = some t) (hb : Below w.heap.size w w') : ScanAt s w (.returned (.tuple #[.slice none 0 0, .int .i64 2, .int .i64 (t.pos : Nat)])) w' := by
  have e : scanR s = ([], 2, t.pos) := by
    unfold scanR
    rw [if_neg h]
    revert ht
    generalize L.scanL s = q
    obtain ⟨a, b⟩ := q
    rintro rfl
    rfl
  unfold ScanAt
  rw [e]
  exact ⟨_, rfl, World.ownsRow_nil _ _ _ _, hb⟩

set_option maxHeartbeats 400000 in
theorem scan_full (s : ByteArray) (w : World) (hs : 65536 < s.size) (hs2 : s.size ≤ maxLen) : Calls Tryz.prog 14 #[.string s] w (ScanAt s.data.toList w) := by
  unfold maxLen at hs2
  have hd : decide (65536 < (s.size : Int)) = true := by simp; omega
  have hl : 65536 < s.data.toList.length := by simpa using hs
  have HL := Lib.hid hl
  clear hl hs
  go_enter Tryz.func14, Tryz.ntmps14
  go_wp2_with fail
  refine bodyPost_ret (v := .tuple #[.slice none 0 0, .int .i64 8, .int .i64 0]) (by simp [results, Tryz.results14, go_sem]) rfl (scanAt_full HL.out ?_)
  go_grown

theorem scanAt_good {s : List UInt8} {w w' : World} (h : ¬ 65536 < s.length) (ht : (L.scanL s).2 = none) {v : Value} (hr : w'.ownsRow w.heap.size 41 3 v ((L.scanL s).1.length + 1) ((L.scanL s).1.flatMap tokCells ++ tokCells ⟨4, [], s.length⟩)) (hb : Below w.heap.size w w') :
    ScanAt s w (.returned (.tuple #[v, .int .i64 0, .int .i64 0])) w' := by
  have e : scanR s = ((L.scanL s).1 ++ [⟨4, [], s.length⟩], 0, 0) := by
    unfold scanR
    rw [if_neg h]
    clear hr
    revert ht
    generalize L.scanL s = q
    obtain ⟨a, b⟩ := q
    rintro rfl
    rfl
  unfold ScanAt
  rw [e]
  exact ⟨v, rfl, by simpa using hr, hb⟩

/-- Between two rounds of Scan's loop. -/
structure Coll (n : Nat) (w : World) (s : ByteArray) (pre : List (L.Tok × Bool)) (W : World) : Prop where
  below : Below n w W
  c0 : Boxed W n 35 (.slice none 0 0)
  c1 : Boxed W (n + 1) 31 (.int .i64 0)
  c2 : Boxed W (n + 1 + 1) 3 (.int .i64 0)
  src : Boxed W (n + 1 + 1 + 1 + 1) 9 (.string s)
  row : ∃ v, Boxed W (n + 1 + 1 + 1) 35 v ∧ W.ownsRow n 41 3 v pre.length (pre.flatMap fun x => tokCells x.1)
  oks : ∀ x ∈ pre, x.2 = true
/-- A round has left: what is no token. -/
structure Bad (n : Nat) (w : World) (pre : List (L.Tok × Bool)) (W : World) : Prop where
  below : Below n w W
  hit : ∃ q t, pre = q ++ [(t, false)] ∧ (∀ x ∈ q, x.2 = true) ∧ W.cell? ⟨n, 0, none⟩ = some (.slice none 0 0) ∧ W.cell? ⟨n + 1, 0, none⟩ = some (.int .i64 2) ∧ W.cell? ⟨n + 1 + 1, 0, none⟩ = some (.int .i64 (t.pos : Nat))

def TokBox (W : World) (B : Nat) (t : L.Tok) : Prop := W.heap[B]? = some (.cells #[.int .i64 (t.kind : Nat), .string ⟨t.text.toArray⟩, .int .i64 (t.pos : Nat)] 41 (0, 0))

theorem boxed_grown {A A' : World} {B b : Nat} {t : TypeId} {v : Value} {row : Option Nat} (h : Boxed A b t v) (hg : A.grownBy A' row) (hr : ∀ r, row = some r → B ≤ r ∧ ∃ o : Obj, A.heap[r]? = some o ∧ o.isCells = false) : Boxed A' b t v :=
  h.kept hg fun e => by
    obtain ⟨_, o, ho, hc⟩ := hr b e.symm
    rw [show A.heap[b]? = _ from h] at ho; cases ho; cases hc
theorem tokBox_grown {A A' : World} {B b : Nat} {t : L.Tok} {row : Option Nat} (h : TokBox A b t) (hg : A.grownBy A' row) (hr : ∀ r, row = some r → B ≤ r ∧ ∃ o : Obj, A.heap[r]? = some o ∧ o.isCells = false) : TokBox A' b t :=
  (hg.block b (Array.getElem?_eq_some_iff.1 h).1 fun e => by
    obtain ⟨_, o, ho, hc⟩ := hr b e.symm
    rw [show A.heap[b]? = _ from h] at ho; cases ho; cases hc).trans h
theorem row_grown {A A' : World} {B n : Nat} {v : Value} {k : Nat} {xs : List Value} {e : TypeId} {sz : Nat} {row : Option Nat} (h : A.ownsRow n e sz v k xs) (hg : A.grownBy A' row) (hr : ∀ r, row = some r → B ≤ r ∧ ∃ o : Obj, A.heap[r]? = some o ∧ o.isCells = false) : A'.ownsRow n e sz v k xs := by
  refine h.kept hg ?_
  rcases h.2 with ⟨rfl, _⟩ | ⟨g, cap, cur, rfl, _, hgb, _⟩
  · exact .inl rfl
  · refine .inr fun e' => ?_
    obtain ⟨_, o, ho, hc⟩ := hr g (by simpa [Value.ownBlock] using e'.symm)
    rw [hgb] at ho; cases ho; cases hc
theorem coll_own (n B : Nat) (w : World) (hn : n ≤ w.heap.size) (hB : n ≤ B) (s : ByteArray) : OwnFrom B (Coll n w s) := fun _ _ _ _ h hg hr =>
  ⟨below_own h.below hn hB hg hr, boxed_grown h.c0 hg hr, boxed_grown h.c1 hg hr, boxed_grown h.c2 hg hr, boxed_grown h.src hg hr, let ⟨v, a, b⟩ := h.row; ⟨v, boxed_grown a hg hr, row_grown b hg hr⟩, h.oks⟩
theorem bad_own (n B : Nat) (w : World) (hn : n ≤ w.heap.size) (hB : n ≤ B) : OwnFrom B (Bad n w) := fun _ _ _ _ h hg hr =>
  have hr' := fun r e => (hr r e).2
  ⟨below_own h.below hn hB hg hr, let ⟨q, t, a, b, c, d, e⟩ := h.hit; ⟨q, t, a, b, cell_kept c hg hr', cell_kept d hg hr', cell_kept e hg hr'⟩⟩

theorem keep_b {w : World} (B : Nat) (hB : B < w.heap.size) (W : World) (l : Nat) (o o' : Obj) (hl : w.heap.size ≤ l) (_ : W.heap[l]? = some o) (_ : o.isCells = false) (_ : o.isWalk = false) : KeepCell B W (W.putObj l o') := by
  unfold KeepCell
  exact World.cell?_of_block (World.putObj_heap_other (by dsimp only; omega))

theorem boxed_at {w : World} {n : Nat} {t : TypeId} {v : Value} (h : w.heap.size = n) : Boxed (w.alloc (.cells #[v] t)) n t v := by subst h; exact Boxed.new w t v

theorem bad_mk {n : Nat} {w W : World} {pre : List (L.Tok × Bool)} {t : L.Tok} {v0 v1 v2 : Value} (hb : Below n w W) (ho : ∀ x ∈ pre, x.2 = true) (e0 : W.cell? ⟨n, 0, none⟩ = some v0) (e1 : W.cell? ⟨n + 1, 0, none⟩ = some v1) (e2 : W.cell? ⟨n + 1 + 1, 0, none⟩ = some v2) :
    KeepsOthers W (((W.setCell ⟨n, 0, none⟩ (.slice none 0 0)).setCell ⟨n + 1, 0, none⟩ (.int .i64 2)).setCell ⟨n + 1 + 1, 0, none⟩ (.int .i64 (t.pos : Nat))).drew ∧
    Bad n w (pre ++ [(t, false)]) (((W.setCell ⟨n, 0, none⟩ (.slice none 0 0)).setCell ⟨n + 1, 0, none⟩ (.int .i64 2)).setCell ⟨n + 1 + 1, 0, none⟩ (.int .i64 (t.pos : Nat))).drew := by
  refine ⟨(((KeepsOthers.setCell _ _ _).trans (KeepsOthers.setCell _ _ _)).trans (KeepsOthers.setCell _ _ _)).trans (KeepsOthers.drew _), (((hb.setCell (by show n ≤ n; omega) _).setCell (by show n ≤ n + 1; omega) _).setCell (by show n ≤ n + 1 + 1; omega) _).trans ⟨rfl, rfl, rfl, Nat.le_refl _, fun _ _ => rfl⟩, pre, t, rfl, ho, ?_, ?_, ?_⟩
  · exact (World.cell?_setCell_other _ _ _ _ (by simp; try omega)).trans ((World.cell?_setCell_other _ _ _ _ (by simp)).trans (World.cell?_setCell_same _ _ _ e0))
  · exact (World.cell?_setCell_other _ _ _ _ (by simp)).trans (World.cell?_setCell_same _ _ _ ((World.cell?_setCell_other _ _ _ _ (by simp)).trans e1))
  · exact World.cell?_setCell_same _ _ _ ((World.cell?_setCell_other _ _ _ _ (by simp)).trans ((World.cell?_setCell_other _ _ _ _ (by simp; try omega)).trans e2))

theorem toksR_len : ∀ (f pos : Nat) (r : List UInt8), (L.toksR f pos r).1.length + (badOf (L.toksR f pos r).2).length ≤ f
  | 0, _, _ => by simp [L.toksR, badOf]
  | f + 1, pos, r => by
    unfold L.toksR
    by_cases hr : r = []
    · rw [if_pos hr]; simp [badOf]
    · rw [if_neg hr]
      dsimp only
      by_cases ho : L.okL (L.firstL r) = true
      · rw [if_pos ho]
        have := toksR_len f (pos + (L.firstL r).2.length + L.spaceL (r.drop (L.firstL r).2.length)) (L.rest false (r.drop (L.firstL r).2.length))
        simp only [List.length_cons]
        omega
      · rw [if_neg ho]; simp [badOf]
theorem yields_len (s : List UInt8) : (yields s).length ≤ s.length + 1 := by
  have := toksR_len (s.length + 1) (L.spaceL s) (L.rest false s)
  unfold yields L.scanL
  simp
  omega
theorem yields_good (s : List UInt8) (h : ∀ x ∈ yields s, x.2 = true) : (L.scanL s).2 = none ∧ (yields s).length = (L.scanL s).1.length ∧ ((yields s).flatMap fun x => tokCells x.1) = (L.scanL s).1.flatMap tokCells := by
  unfold yields at h ⊢
  cases hb : (L.scanL s).2 with
  | some t =>
    rw [hb] at h
    have := h (t, false) (by simp [badOf])
    cases this
  | none => refine ⟨rfl, by simp [badOf], by simp [badOf, List.flatMap_map]⟩

theorem yields_bad (s : List UInt8) (q : List (L.Tok × Bool)) (t : L.Tok) (h : q ++ [(t, false)] <+: yields s) : (L.scanL s).2 = some t := by
  have hm : (t, false) ∈ yields s := h.subset (by simp)
  unfold yields at hm
  rcases List.mem_append.1 hm with hm | hm
  · simp at hm
  · cases hb : (L.scanL s).2 with
    | none => rw [hb] at hm; simp [badOf] at hm
    | some u => rw [hb] at hm; simp [badOf] at hm; rw [hm]
theorem keeps_append {W w1 : World} {tmp : Obj} {n : Nat} {e : TypeId} {sz k : Nat} {v : Value} {xs : List Value} (hrow : W.ownsRow n e sz v k xs) (hgrow : (W.alloc tmp).grownBy w1 v.ownBlock) : KeepsOthers W w1 :=
  (KeepsOthers.alloc W tmp).trans (KeepsOthers.of_grownBy hgrow fun j o ej hj => by
    rcases (hrow.alloc tmp).2 with ⟨rfl, _⟩ | ⟨g, cap, cur, rfl, _, hgb, _⟩
    · simp [Value.ownBlock] at ej
    · obtain rfl : g = j := by simpa [Value.ownBlock] using ej
      rw [hgb] at hj; cases hj; rfl)
theorem below_append {W w1 : World} {tmp : Obj} {n : Nat} {e : TypeId} {sz k : Nat} {v : Value} {xs : List Value} (hn : n ≤ W.heap.size) (hrow : W.ownsRow n e sz v k xs) (hgrow : (W.alloc tmp).grownBy w1 v.ownBlock) : Below n W w1 :=
  ((Below.refl n W).alloc hn tmp).grown hgrow (by simp; omega) fun j ej => (hrow.lt j ej).1

theorem three_cells {w1 : World} {n D : Nat} {o' : Obj} (hD : n + 1 + 1 < D) (a b c : Value) {x y z : Value} (e0 : w1.cell? ⟨n, 0, none⟩ = some x) (e1 : w1.cell? ⟨n + 1, 0, none⟩ = some y) (e2 : w1.cell? ⟨n + 1 + 1, 0, none⟩ = some z) :
    ((((w1.setCell ⟨n, 0, none⟩ a).setCell ⟨n + 1, 0, none⟩ b).setCell ⟨n + 1 + 1, 0, none⟩ c).putObj D o').cell? ⟨n, 0, none⟩ = some a ∧
    ((((w1.setCell ⟨n, 0, none⟩ a).setCell ⟨n + 1, 0, none⟩ b).setCell ⟨n + 1 + 1, 0, none⟩ c).putObj D o').cell? ⟨n + 1, 0, none⟩ = some b ∧
    ((((w1.setCell ⟨n, 0, none⟩ a).setCell ⟨n + 1, 0, none⟩ b).setCell ⟨n + 1 + 1, 0, none⟩ c).putObj D o').cell? ⟨n + 1 + 1, 0, none⟩ = some c := by
  refine ⟨?_, ?_, ?_⟩
  · refine (World.cell?_of_block (World.putObj_heap_other (by dsimp only; omega))).trans ?_
    exact (World.cell?_setCell_other _ _ _ _ (by simp; try omega)).trans ((World.cell?_setCell_other _ _ _ _ (by simp)).trans (World.cell?_setCell_same _ _ _ e0))
  · refine (World.cell?_of_block (World.putObj_heap_other (by dsimp only; omega))).trans ?_
    exact (World.cell?_setCell_other _ _ _ _ (by simp)).trans (World.cell?_setCell_same _ _ _ ((World.cell?_setCell_other _ _ _ _ (by simp)).trans e1))
  · refine (World.cell?_of_block (World.putObj_heap_other (by dsimp only; omega))).trans ?_
    exact World.cell?_setCell_same _ _ _ ((World.cell?_setCell_other _ _ _ _ (by simp)).trans ((World.cell?_setCell_other _ _ _ _ (by simp; try omega)).trans e2))
theorem row_set {A : World} {n b : Nat} {e t : TypeId} {sz k : Nat} {v u : Value} {xs : List Value} (hr : A.ownsRow n e sz v k xs) (hb : Boxed A b t u) (hte : t ≠ e) (x : Value) : (A.setCell ⟨b, 0, none⟩ x).ownsRow n e sz v k xs :=
  hr.kept (grownBy_setCell' A b x) (.inr (hb.not_row hte hr).symm)

theorem cells_new3 (w : World) (a b c : Value) (t : TypeId) : ∀ j u, [a, b, c][j]? = some u → (w.alloc (.cells #[a, b, c] t)).cell? ((⟨w.heap.size, 0, none⟩ : Addr).add j) = some u := by
  intro j u hj
  have h := heap_alloc_new w (.cells #[a, b, c] t)
  match j, hj with
  | 0, hj => simp at hj; subst hj; exact cell_of_row _ _ 0 _ _ (0, 0) h
  | 1, hj => simp at hj; subst hj; exact cell_of_row _ _ 1 _ _ (0, 0) h
  | 2, hj => simp at hj; subst hj; exact cell_of_row _ _ 2 _ _ (0, 0) h
  | j + 3, hj => simp at hj

theorem Tryz.infoTok : (Tryz.prog.info? 41).map (fun i => (i.zero, i.size, i.bytes)) = some (some (.agg #[.int .i64 0, .string ⟨#[]⟩, .int .i64 0]), 3, 32) := by kernel_rfl

set_option maxRecDepth 100000 in
set_option maxHeartbeats 4000000 in
theorem scan_part (s : ByteArray) (w : World) (hs : s.size ≤ 65536) : Calls Tryz.prog 14 #[.string s] w (ScanAt s.data.toList w) := by
  have hd : decide (65536 < (s.size : Int)) = false := by simp; omega
  have TK := Lib.hid fun w => tokens_any s w
  refine (callsIn_wide (n := 4)).1 ?_
  refine callsIn_of_wp_marks Tryz.func14 rfl trivial ?_ rfl
  simp only [Tryz.ntmps14, List.size_toArray, List.length_cons, List.length_nil, Nat.reduceAdd, Nat.reduceSub, Array.replicate_succ, Array.replicate_zero, List.push_toArray, List.append_toArray, List.nil_append, List.cons_append]
  gi_wp2_with fail
  refine ⟨trivial, (callsIn_wide.2 (TK.out _)).mono ?_⟩
  rintro e w' ⟨rfl, rfl⟩
  gi_wp2_with fail
  refine wpIn_rangeFunc_ownH (F := Fence.wide) (n := 4) rfl (by omega) (gf := 42) rfl trivial (enters_of Tryz.func42 (by kernel_rfl) rfl)
    (tokens_in (4 - 1) (by omega) (w.heap.size + 1 + 1 + 1 + 1) s hs _ ?s0) (fun h k => Eq.trans k h) (fun W l o o' hl h ho hk => keep_b (w.heap.size + 1 + 1 + 1 + 1) (by simp) W l o o' hl h ho hk) (Below.refl _ _) (fun _ => rfl) (Coll w.heap.size w s) (fun c pre W => c = .ret ∧ Bad w.heap.size w pre W)
    (coll_own _ _ _ (Nat.le_refl _) (by simp; omega) _) (fun c => OwnFrom.and (ownFrom_pure _ _) (bad_own _ _ _ (Nat.le_refl _) (by simp; omega))) ?h0
    (fun x a' W => ∃ Bx, w.heap.size + 1 + 1 + 1 + 1 < Bx ∧ TokBox W Bx x.1 ∧ a' = { tmps := #[.string s, undef, .pointer (some ⟨w.heap.size, 0, none⟩), .pointer (some ⟨w.heap.size + 1, 0, none⟩), .pointer (some ⟨w.heap.size + 1 + 1, 0, none⟩), .pointer (some ⟨w.heap.size + 1 + 1 + 1, 0, none⟩),
      .pointer (some ⟨Bx, 0, none⟩), .bool x.2, .string s, .int .i64 (s.size : Nat), .bool false, .string s, .func (.func 42) #[] #[.pointer (some ⟨w.heap.size + 1 + 1 + 1 + 1, 0, none⟩)], encTok x.1, .bool x.2,
      undef, undef, undef, undef, undef, undef, undef, undef, undef, undef, undef, undef, undef, undef], defers := [] })
    (fun x a' u A A' row h hg hr => let ⟨Bx, h1, h2, h3⟩ := h; ⟨Bx, h1, tokBox_grown h2 hg hr, h3⟩) ?assign ?body ?done ?stop
  case s0 => go_simp
  case h0 =>
    refine ⟨by go_grown, ?_, ?_, ?_, ?_, ⟨.slice none 0 0, ?_, World.ownsRow_nil _ _ _ _⟩, fun x hx => absurd hx (by simp)⟩
    · exact ((((boxed_at rfl).alloc _).alloc _).alloc _).alloc _
    · exact (((boxed_at (by simp)).alloc _).alloc _).alloc _
    · exact ((boxed_at (by simp)).alloc _).alloc _
    · exact boxed_at (by simp)
    · exact (boxed_at (by simp)).alloc _
  case assign =>
    rintro l pre ⟨⟨kd, tx, ps⟩, ok⟩ W K hi hK
    dsimp only [encYield, encTok] at hK ⊢
    have HI := Lib.hid hi
    have HK := Lib.hid hK
    clear hi hK
    gi_wp2
    refine HK.out _ _ ((KeepsOthers.alloc _ _).from _) (World.cell?_alloc_lt _ _ _ HI.out.src.lt) ((coll_own _ W.heap.size w (Nat.le_refl _) HI.out.below.size s).alloc _ HI.out) ⟨W.heap.size, HI.out.src.lt, heap_alloc_new _ _, rfl⟩
  case body =>
    rintro l pre ⟨⟨kd, tx, ps⟩, ok⟩ a' W hl hrec hI ⟨Bx, hBx, hbx, rfl⟩ hlen
    dsimp only [encYield, encTok] at *
    obtain ⟨hb, c0, c1, c2, hsrc, ⟨v, hv, hrow⟩, hoks⟩ := hI
    have HB := Lib.hid hb
    have HS := Lib.hid hsrc
    have HO := Lib.hid hoks
    have k0 := cell_of_row _ _ 0 _ _ (0, 0) hbx
    have k1 := cell_of_row _ _ 1 _ _ (0, 0) hbx
    have k2 := cell_of_row _ _ 2 _ _ (0, 0) hbx
    cases ok
    · have e0 := c0.cell
      have e1 := c1.cell
      have e2 := c2.cell
      have f0 := c0.frozen
      have f1 := c1.frozen
      have f2 := c2.frozen
      clear hb hsrc hoks hv hrow c0 c1 c2 hbx
      have g1 : ¬ w.heap.size = Bx := by omega
      have g2 : ¬ w.heap.size + 1 = Bx := by omega
      gi_wp2_with fail
      gi_region
      all_goals
        gi_wp2_with fail
        have hbad := bad_mk (t := ⟨kd, tx, ps⟩) HB.out HO.out e0 e1 e2
        exact ⟨hbad.1.from _, rfl, hbad.2⟩
    · have C0 := Lib.hid c0
      have C1 := Lib.hid c1
      have C2 := Lib.hid c2
      have HBX := Lib.hid hbx
      have v0 := hv.cell
      obtain ⟨i0, hi, hz0, hz1, hz2⟩ := info_parts Tryz.infoTok
      have hlen2 : pre.length < 65537 := by
        have h := yields_len s.data.toList
        have h2 : s.data.toList.length = s.size := by simp
        omega
      have hle := hb.size
      clear hb hsrc hoks c0 c1 c2 hbx
      gi_wp2_with (gi_at_builtin; refine wpListIn_append_own _ rfl _ _ 35 rfl w.heap.size 41 i0 (.agg #[.int .i64 0, .string ⟨#[]⟩, .int .i64 0]) 3 32 Tryz.underlying35 hi hz0 hz1 hz2 rfl (by decide) _ _ _ rfl (hrow.alloc _) ⟨W.heap.size, 0, none⟩ 1 1 [.int .i64 (kd : Nat), .string ⟨tx.toArray⟩, .int .i64 (ps : Nat)] rfl rfl (cells_new3 _ _ _ _ _) (by simp [Value.oneCell']) (by unfold maxLen; omega) (by omega) (by simp; omega) ?_; intro v' w1 hown' hgrow _; obtain ⟨g', cap', rfl⟩ := ownsRow_succ hown'; obtain ⟨hv1, hv2, hr2, hk2, hb2⟩ := hv.appended (by decide) hrow hle (by omega) hown' hgrow; have hc1 := hv1.cell; have hf1 := hv1.frozen)
      have src2 := ((HS.out.alloc _).kept hgrow (HS.out.not_row (by decide) hrow)).other (show w.heap.size + 1 + 1 + 1 + 1 ≠ w.heap.size + 1 + 1 + 1 by omega) (.slice (some ⟨g', 0, none⟩) (pre.length + 1) cap')
      refine ⟨hk2.from _, src2.cell.trans HS.out.cell.symm, HB.out.trans hb2, ?_, ?_, ?_, src2, ⟨_, hv2, ?_⟩, ?_⟩
      · exact ((C0.out.alloc _).kept hgrow (C0.out.not_row (by decide) hrow)).other (by omega) _
      · exact ((C1.out.alloc _).kept hgrow (C1.out.not_row (by decide) hrow)).other (by omega) _
      · exact ((C2.out.alloc _).kept hgrow (C2.out.not_row (by decide) hrow)).other (by omega) _
      · have := hr2
        rw [List.length_append, List.flatMap_append]
        exact this
      · intro x hx
        rcases List.mem_append.1 hx with hx | hx
        · exact HO.out x hx
        · obtain rfl : x = (⟨kd, tx, ps⟩, true) := by simpa using hx
          rfl
  case done =>
    rintro D xs W hD rfl ⟨hb, c0, c1, c2, hsrc, ⟨v, hv, hrow⟩, hoks⟩ hK
    obtain ⟨hnone, hlen3, hmap⟩ := yields_good _ hoks
    rw [hmap, hlen3] at hrow
    have hlen2 := yields_len s.data.toList
    rw [hlen3] at hlen2
    have hsz : s.data.toList.length = s.size := by simp
    have HN := Lib.hid hnone
    have HB := Lib.hid hb
    have hle := hb.size
    have v0 := hv.cell
    have C0 := Lib.hid c0
    have C1 := Lib.hid c1
    have C2 := Lib.hid c2
    have hl2 : (L.scanL s.data.toList).1.length ≤ 65537 := by omega
    obtain ⟨i0, hi, hz0, hz1, hz2⟩ := info_parts Tryz.infoTok
    have HSZ := Lib.hid hsz
    clear hb c0 c1 c2 hsrc hoks hnone hlen3 hmap hlen2 hsz
    gi_wp2_with (gi_at_builtin; refine wpListIn_append_own _ rfl _ _ 35 rfl w.heap.size 41 i0 (.agg #[.int .i64 0, .string ⟨#[]⟩, .int .i64 0]) 3 32 Tryz.underlying35 hi hz0 hz1 hz2 rfl (by decide) _ _ _ rfl (hrow.alloc _) ⟨W.heap.size, 0, none⟩ 1 1 [.int .i64 4, .string ⟨#[]⟩, .int .i64 (s.size : Nat)] rfl rfl (cells_new3 _ _ _ _ _) (by simp [Value.oneCell']) (by unfold maxLen; omega) (by omega) (by simp; omega) ?_; intro v' w1 hown' hgrow _; obtain ⟨g', cap', rfl⟩ := ownsRow_succ hown'; have b0 := (C0.out.alloc _).kept hgrow (C0.out.not_row (by decide) hrow); have b1 := (C1.out.alloc _).kept hgrow (C1.out.not_row (by decide) hrow); have b2 := (C2.out.alloc _).kept hgrow (C2.out.not_row (by decide) hrow); have q0 := b0.cell; have q1 := b1.cell; have q2 := b2.cell; have f0 := b0.frozen; have f1 := b1.frozen; have f2 := b2.frozen; have BX0 := Lib.hid b0; have BX1 := Lib.hid b1; have BX2 := Lib.hid b2; clear b0 b1 b2)
    have hkeep := keeps_append hrow hgrow
    have hbel := below_append hle hrow hgrow
    have hw3 := ((KeepsOthers.setCell w1 ⟨w.heap.size, 0, none⟩ (.slice (some ⟨g', 0, none⟩) ((L.scanL s.data.toList).1.length + 1) cap')).trans (KeepsOthers.setCell _ ⟨w.heap.size + 1, 0, none⟩ (.int .i64 0))).trans (KeepsOthers.setCell _ ⟨w.heap.size + 1 + 1, 0, none⟩ (.int .i64 0))
    have hk3 := (hkeep.trans hw3).same D _ hK rfl
    refine ⟨by simp, .inl ⟨_, _, rfl, run_takeDeferred hk3, ?_⟩⟩
    have hDn : w.heap.size + 1 + 1 < D := by simp at hD; omega
    obtain ⟨p0, p1, p2⟩ := three_cells (o' := .deferred none) hDn (.slice (some ⟨g', 0, none⟩) ((L.scanL s.data.toList).1.length + 1) cap') (.int .i64 0) (.int .i64 0) BX0.out.cell BX1.out.cell BX2.out.cell
    refine ⟨.tuple #[.slice (some ⟨g', 0, none⟩) ((L.scanL s.data.toList).1.length + 1) cap', .int .i64 0, .int .i64 0], by simp [results, Tryz.results14, go_sem, p0, p1, p2], scanAt_good (by rw [HSZ.out]; omega) HN.out ?_ ?_⟩
    · rw [HSZ.out]
      refine ownsRow_putObj ?_ _ hk3 rfl
      have r1 := row_set hown' BX0.out (by decide) (.slice (some ⟨g', 0, none⟩) ((L.scanL s.data.toList).1.length + 1) cap')
      have r2 := row_set r1 (BX1.out.other (show w.heap.size + 1 ≠ w.heap.size by omega) _) (by decide) (.int .i64 0)
      exact row_set r2 ((BX2.out.other (show w.heap.size + 1 + 1 ≠ w.heap.size by omega) _).other (show w.heap.size + 1 + 1 ≠ w.heap.size + 1 by omega) _) (by decide) (.int .i64 0)
    · refine below_own ((((HB.out.trans hbel).setCell (by show w.heap.size ≤ w.heap.size; omega) _).setCell (by show w.heap.size ≤ w.heap.size + 1; omega) _).setCell (by show w.heap.size ≤ w.heap.size + 1 + 1; omega) _) (Nat.le_refl _) (Nat.le_refl _) (grownBy_putObj' _ D _) fun r e => ?_
      cases e
      exact ⟨by omega, _, hk3, rfl⟩
  case stop =>
    rintro D c pre W hD hpre ⟨rfl, hb, q, t, rfl, hq, e0, e1, e2⟩ hK
    have HB := Lib.hid hb
    have HP := Lib.hid (yields_bad _ _ _ hpre)
    have hsz : s.data.toList.length = s.size := by simp
    have HSZ := Lib.hid hsz
    clear hb hpre hq hsz
    gi_wp2_with fail
    have hDn : w.heap.size + 1 + 1 < D := by simp at hD; omega
    have hg := grownBy_putObj' W D (.deferred none)
    have hr : ∀ r, some D = some r → w.heap.size ≤ r ∧ ∃ o : Obj, W.heap[r]? = some o ∧ o.isCells = false := fun r e => by
      cases e; exact ⟨by omega, _, hK, rfl⟩
    refine ⟨by simp, .inl ⟨_, _, rfl, run_takeDeferred hK, ?_⟩⟩
    have p0 := cell_kept e0 hg (fun r e => (hr r e).2)
    have p1 := cell_kept e1 hg (fun r e => (hr r e).2)
    have p2 := cell_kept e2 hg (fun r e => (hr r e).2)
    exact ⟨.tuple #[.slice none 0 0, .int .i64 2, .int .i64 (t.pos : Nat)], by simp [results, Tryz.results14, go_sem, p0, p1, p2], scanAt_bad (by rw [HSZ.out]; omega) t HP.out (below_own HB.out (Nat.le_refl _) (Nat.le_refl _) hg hr)⟩

theorem scan_any (s : ByteArray) (w : World) (hs : s.size ≤ maxLen) : Calls Tryz.prog 14 #[.string s] w (ScanAt s.data.toList w) := by
  rcases Nat.lt_or_ge 65536 s.size with h | h
  · exact scan_full s w h hs
  · exact scan_part s w h
end Go.Proofs.YtooajmbpncmgjaaGreatDoor
