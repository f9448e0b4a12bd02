/- Layer 15's right trees: values. -/
import Derived.Test.YtooajmbpncmgjaaGreatDoorNodeB
namespace Go.Proofs.YtooajmbpncmgjaaGreatDoor
open Go.RowKit

namespace Tr
def leafB (t : Tree) : Bool :=
  if t.kind = 3 then oneB t.text 0 else if t.kind = 4 then oneB t.text 2
  else if t.kind = 5 then decide (0 ≤ t.num) && decide (t.num ≤ 1125899906842624) && decide (0 ≤ t.dim) && decide (t.dim ≤ 6) else false
/-- A right value within 40 - m groups. -/
def valueB : Nat → Tree → Bool
  | 0, t => plainB t && leafB t
  | m + 1, t => plainB t && (if t.kind = 6 then t.kids.all (valueB m) && !t.kids.isEmpty else leafB t)
end Tr

/-- What the walks read of a node whose kids lie at o. -/
theorem NodeRd.look {w : World} {lim d : Nat} {v : Value} {t : Tr.Tree} (h : NodeRd w lim d v t) : ∃ (o : Option Addr) (c : Nat), v = .agg #[.int .i64 t.kind, .string ⟨t.text.toArray⟩, .int .i64 t.num, .int .i64 t.dim, .int .i64 t.pos, .slice o t.kids.length c] ∧ t.kids.length ≤ maxLen ∧ t.text.length ≤ 1000000 := by
  cases d with
  | zero => exact h.elim
  | succ d =>
    obtain ⟨o, c, vs, h1, h2, h3, h4, _⟩ := h
    exact ⟨o, c, h1, h3.1, h4⟩
/-- What the walks read of a kid. -/
structure KidAt (w : World) (a : Addr) (k lim d : Nat) (o' : Option Addr) (c' : Nat) (t : Tr.Tree) : Prop where
  rd : NodeRd w lim (d - 1) (.agg #[.int .i64 t.kind, .string ⟨t.text.toArray⟩, .int .i64 t.num, .int .i64 t.dim, .int .i64 t.pos, .slice o' t.kids.length c']) t
  lt : a.block < lim
  c0 : w.cell? (a.add (k * 6)) = some (.int .i64 t.kind)
  c1 : w.cell? ⟨(a.add (k * 6)).block, (a.add (k * 6)).off + 1, none⟩ = some (.string ⟨t.text.toArray⟩)
  c2 : w.cell? ⟨(a.add (k * 6)).block, (a.add (k * 6)).off + 2, none⟩ = some (.int .i64 t.num)
  c3 : w.cell? ⟨(a.add (k * 6)).block, (a.add (k * 6)).off + 3, none⟩ = some (.int .i64 t.dim)
  c4 : w.cell? ⟨(a.add (k * 6)).block, (a.add (k * 6)).off + 4, none⟩ = some (.int .i64 t.pos)
  c5 : w.cell? ⟨(a.add (k * 6)).block, (a.add (k * 6)).off + 5, none⟩ = some (.slice o' t.kids.length c')
theorem NodeRd.kid {w : World} {lim d c : Nat} {o : Option Addr} {t : Tr.Tree} (h : NodeRd w lim d (.agg #[.int .i64 t.kind, .string ⟨t.text.toArray⟩, .int .i64 t.num, .int .i64 t.dim, .int .i64 t.pos, .slice o t.kids.length c]) t) (k : Nat) (hk : k < t.kids.length) : ∃ a o' c', o = some a ∧ KidAt w a k lim d o' c' t.kids[k] := by
  cases d with
  | zero => exact h.elim
  | succ d =>
    obtain ⟨o1, c1, vs, h1, h2, h3, h4, h5, h6⟩ := h
    obtain rfl : o = o1 := by simp at h1; exact h1.1
    obtain ⟨a, ha, hl, hc⟩ := h5 k (by omega)
    have hm : (vs[k], t.kids[k]) ∈ vs.zip t.kids := by
      rw [List.mem_iff_getElem]
      exact ⟨k, by simp; omega, by simp⟩
    have hn := h6 _ hm
    have hn' := hn
    obtain ⟨o', c', vs', e, _⟩ : ∃ (o : Option Addr) (c : Nat) (vs' : List Value), vs[k] = .agg #[.int .i64 t.kids[k].kind, .string ⟨t.kids[k].text.toArray⟩, .int .i64 t.kids[k].num, .int .i64 t.kids[k].dim, .int .i64 t.kids[k].pos, .slice o t.kids[k].kids.length c] ∧ True := by
      cases d with
      | zero => exact hn'.elim
      | succ d => obtain ⟨o, c, vs', h1, _⟩ := hn'; exact ⟨o, c, vs', h1, trivial⟩
    rw [e] at hc
    dsimp only at hn
    rw [e] at hn
    have q : ∀ j, j + 1 < 6 → w.cell? ⟨(a.add (k * 6)).block, (a.add (k * 6)).off + (j + 1), none⟩ = (Value.agg #[.int .i64 t.kids[k].kind, .string ⟨t.kids[k].text.toArray⟩, .int .i64 t.kids[k].num, .int .i64 t.kids[k].dim, .int .i64 t.kids[k].pos, .slice o' t.kids[k].kids.length c']).cells[j + 1]? := fun j hj => by
      rw [← hc (j + 1) hj, ← add_add]
      rfl
    exact ⟨a, o', c', ha, hn, hl, hc 0 (by omega), q 0 (by omega), q 1 (by omega), q 2 (by omega), q 3 (by omega), q 4 (by omega)⟩

theorem cells6 {w : World} {b : Nat} {a0 a1 a2 a3 a4 a5 : Value} {ty : TypeId} (h : w.heap[b]? = some (.cells #[a0, a1, a2, a3, a4, a5] ty (0, 0))) :
    w.cell? ⟨b, 0, none⟩ = some a0 ∧ w.cell? ⟨b, 1, none⟩ = some a1 ∧ w.cell? ⟨b, 2, none⟩ = some a2 ∧ w.cell? ⟨b, 3, none⟩ = some a3 ∧ w.cell? ⟨b, 4, none⟩ = some a4 ∧ w.cell? ⟨b, 5, none⟩ = some a5 :=
  ⟨cell_of_row _ _ 0 _ _ (0, 0) h, cell_of_row _ _ 1 _ _ (0, 0) h, cell_of_row _ _ 2 _ _ (0, 0) h, cell_of_row _ _ 3 _ _ (0, 0) h, cell_of_row _ _ 4 _ _ (0, 0) h, cell_of_row _ _ 5 _ _ (0, 0) h⟩
/-- Behind a walk from w with one variable more: w as it was, and the variable. -/
structure Boxed (w wr : World) (o : Obj) : Prop where
  old : Below (w.heap.size + 1) (w.alloc o) wr
  size : w.heap.size < wr.heap.size
theorem Boxed.start (w : World) (o : Obj) : Boxed w (w.alloc o) o := ⟨Below.refl _ _, by simp⟩
theorem Boxed.below {w wr w' : World} {o : Obj} (h : Boxed w wr o) (hb : Below wr.heap.size wr w') : Boxed w w' o := ⟨h.old.trans (hb.mono h.size), Nat.lt_of_lt_of_le h.size hb.size⟩
theorem Boxed.of {w w' : World} {o : Obj} (hb : Below (w.alloc o).heap.size (w.alloc o) w') : Boxed w w' o := (Boxed.start w o).below hb
theorem Boxed.row {w wr : World} {o : Obj} (h : Boxed w wr o) : wr.heap[w.heap.size]? = some o := (h.old.block _ (Nat.lt_succ_self _)).trans (heap_alloc_new w o)
theorem Boxed.all {w wr : World} {o : Obj} (h : Boxed w wr o) : Below w.heap.size w wr := ((Below.refl _ _).alloc (Nat.le_refl _) _).trans (h.old.mono (Nat.le_succ _))

theorem all_take {α : Type} (f : α → Bool) (l : List α) (k : Nat) (hk : k < l.length) (h : (l.take k).all f = true) (hf : f l[k] = true) : (l.take (k + 1)).all f = true := by
  rw [List.take_succ_eq_append_getElem hk, List.all_append, h]
  simp [hf]
theorem all_stop {α : Type} (f : α → Bool) (l : List α) (k : Nat) (hk : k < l.length) (hf : f l[k] = false) : l.all f = false := by
  rw [List.all_eq_false]
  exact ⟨l[k], List.getElem_mem _, by simp [hf]⟩

set_option maxRecDepth 100000 in
set_option maxHeartbeats 4000000 in
theorem rvalue_group {w : World} {lim d m nest : Nat} {v : Value} {t : Tr.Tree} (ih : ∀ (w : World) (v : Value) (t : Tr.Tree), NodeRd w lim (d - 1) v t → lim ≤ w.heap.size → Calls Tryz.prog 35 #[v, .int .i64 ((nest : Nat) + 1)] w fun e w' => e = .returned (.bool (Tr.valueB m t)) ∧ Below w.heap.size w w')
    (h : NodeRd w lim d v t) (hl : lim ≤ w.heap.size) (hn : nest < 40) (hk6 : t.kind = 6) (hp : Tr.plainB t = true) :
    Calls Tryz.prog 35 #[v, .int .i64 (nest : Nat)] w fun e w' => e = .returned (.bool (t.kids.all (Tr.valueB m) && !t.kids.isEmpty)) ∧ Below w.heap.size w w' := by
  obtain ⟨o, c, rfl, hm, _⟩ := h.look
  unfold maxLen at hm
  have hp1 := plain_any (h.kept (w' := w.alloc (.cells #[.int .i64 t.kind, .string ⟨t.text.toArray⟩, .int .i64 t.num, .int .i64 t.dim, .int .i64 t.pos, .slice o t.kids.length c] 26)) ((Below.refl _ _).alloc hl _))
  rw [hp] at hp1
  have PL := Lib.hid hp1
  have H := Lib.hid h
  have IH := Lib.hid ih
  rw [hk6] at PL
  have hn1 : ¬ (nest : Int) = 40 := by omega
  have hn2 : (nest : Int) < 40 := by omega
  clear h hp1 ih
  go_enter Tryz.func35, Tryz.ntmps35
  go_wp2_with fail
  refine PL.out.mono ?_
  rintro e w1 ⟨rfl, hb1⟩
  have hbx := Boxed.of hb1
  obtain ⟨b0, b1, b2, b3, b4, b5⟩ := cells6 hbx.row
  have HBX := Lib.hid hbx
  clear hb1 hbx
  go_wp2_with fail
  clear b0 b1 b2 b3 b4 b5
  go_loopw [51] (fun t51 wr => ∃ k : Nat, t51 = .int .i64 k ∧ Hid (k ≤ t.kids.length) ∧ Hid (Boxed w wr (.cells #[.int .i64 6, .string ⟨t.text.toArray⟩, .int .i64 t.num, .int .i64 t.dim, .int .i64 t.pos, .slice o t.kids.length c] 26)) ∧ Hid ((t.kids.take k).all (Tr.valueB m) = true)) (fun t51 _ => t.kids.length - (intOf t51).toNat)
  case atStart => exact ⟨0, rfl, Lib.hid (Nat.zero_le _), HBX.out, Lib.hid (by simp)⟩
  case round =>
    obtain ⟨k, rfl, hkl, hbx, hall⟩ := hrel
    rcases Nat.lt_or_ge k t.kids.length with hlt | hge
    · obtain ⟨a, o', c', rfl, hkid⟩ := (H.out.kept (hbx.out.all.mono hl)).kid k hlt
      obtain ⟨krd, ka, k0, k1, k2, k3, k4, k5⟩ := hkid
      have i0 : (0 : Int) ≤ (k : Nat) := by omega
      have i1 : ((k : Nat) : Int) < (t.kids.length : Nat) := by omega
      have KRD := Lib.hid krd
      clear krd
      have hls : lim ≤ wr.heap.size := Nat.le_trans hl (Nat.le_of_lt hbx.out.size)
      go_wp2_with fail
      refine (IH.out _ _ _ (KRD.out.kept ((Below.refl _ _).alloc hls _)) (by rw [World.size_alloc]; omega)).mono ?_
      rintro e w2 ⟨rfl, hb2⟩
      have hbx2 := hbx.out.below (((Below.refl _ _).alloc (Nat.le_refl _) _).trans (hb2.mono (by rw [World.size_alloc]; omega)))
      have HBX2 := Lib.hid hbx2
      clear hb2 hbx2
      cases hv : Tr.valueB m t.kids[k]
      · have HS := Lib.hid (all_stop (Tr.valueB m) t.kids k hlt hv)
        clear hv
        go_wp2_with fail
        go_ret
        exact ⟨tret_bool (by rw [HS.out]; rfl), HBX2.out.all⟩
      · have HS := Lib.hid (all_take (Tr.valueB m) t.kids k hlt hall.out hv)
        clear hv
        go_wp2_with fail
        exact ⟨⟨k + 1, by go_num, Lib.hid hlt, HBX2, HS⟩, by simp [intOf]; omega⟩
    · have i1 : ¬ ((k : Nat) : Int) < (t.kids.length : Nat) := by omega
      obtain ⟨b0, b1, b2, b3, b4, b5⟩ := cells6 hbx.out.row
      have HB := Lib.hid hbx.out.all
      have HA : Hid (t.kids.all (Tr.valueB m) = true) := Lib.hid (by have h1 := hall.out; rwa [List.take_of_length_le hge] at h1)
      go_wp2_with fail
      go_ret
      refine ⟨tret_bool ?_, HB.out⟩
      rw [HA.out]
      cases t.kids <;> simp

set_option maxRecDepth 100000 in
set_option maxHeartbeats 4000000 in
theorem rvalue_full {w : World} {lim d : Nat} {v : Value} {t : Tr.Tree} (h : NodeRd w lim d v t) (hl : lim ≤ w.heap.size) (hk6 : t.kind = 6) (hp : Tr.plainB t = true) :
    Calls Tryz.prog 35 #[v, .int .i64 40] w fun e w' => e = .returned (.bool false) ∧ Below w.heap.size w w' := by
  obtain ⟨o, c, rfl, hm, _⟩ := h.look
  unfold maxLen at hm
  have hp1 := plain_any (h.kept (w' := w.alloc (.cells #[.int .i64 t.kind, .string ⟨t.text.toArray⟩, .int .i64 t.num, .int .i64 t.dim, .int .i64 t.pos, .slice o t.kids.length c] 26)) ((Below.refl _ _).alloc hl _))
  rw [hp] at hp1
  have PL := Lib.hid hp1
  have H := Lib.hid h
  rw [hk6] at PL
  clear h hp1
  go_enter Tryz.func35, Tryz.ntmps35
  go_wp2_with fail
  refine PL.out.mono ?_
  rintro e w1 ⟨rfl, hb1⟩
  have hbx := Boxed.of hb1
  obtain ⟨b0, b1, b2, b3, b4, b5⟩ := cells6 hbx.row
  have HBX := Lib.hid hbx
  clear hb1 hbx
  rcases Nat.eq_zero_or_pos t.kids.length with h0 | h0
  · have i1 : ¬ ((0 : Nat) : Int) < (t.kids.length : Nat) := by omega
    have i2 : ¬ (0 : Int) < (t.kids.length : Nat) := by omega
    go_wp2_with fail
    go_loopw [51] (fun t51 wr => t51 = .int .i64 0 ∧ Hid (Boxed w wr (.cells #[.int .i64 6, .string ⟨t.text.toArray⟩, .int .i64 t.num, .int .i64 t.dim, .int .i64 t.pos, .slice o t.kids.length c] 26))) (fun t51 _ => 0)
    case atStart => exact ⟨rfl, HBX⟩
    case round =>
      obtain ⟨rfl, hbx⟩ := hrel
      go_wp2_with fail
      go_ret
      exact ⟨tret_bool (by simp), hbx.out.all⟩
  · have i2 : (0 : Int) < (t.kids.length : Nat) := by omega
    go_wp2_with fail
    clear b0 b1 b2 b3 b4 b5
    go_loopw [51] (fun t51 wr => t51 = .int .i64 0 ∧ Hid (Boxed w wr (.cells #[.int .i64 6, .string ⟨t.text.toArray⟩, .int .i64 t.num, .int .i64 t.dim, .int .i64 t.pos, .slice o t.kids.length c] 26))) (fun t51 _ => 0)
    case atStart => exact ⟨rfl, HBX⟩
    case round =>
      obtain ⟨rfl, hbx⟩ := hrel
      obtain ⟨a, o', c', rfl, hkid⟩ := (H.out.kept (hbx.out.all.mono hl)).kid 0 h0
      obtain ⟨krd, ka, k0, k1, k2, k3, k4, k5⟩ := hkid
      rw [Nat.zero_mul, show a.add 0 = a from rfl] at k0 k1 k2 k3 k4 k5
      have HB := Lib.hid hbx.out.all
      clear krd
      go_wp2_with fail
      go_ret
      exact ⟨rfl, HB.out.trans (((Below.refl _ _).alloc (Nat.le_refl _) _).mono (by have := hbx.out.size; omega))⟩

set_option maxRecDepth 100000 in
set_option maxHeartbeats 4000000 in
theorem rvalue_leaf {w : World} {lim d : Nat} {v : Value} {t : Tr.Tree} (n : Int) (h : NodeRd w lim d v t) (hl : lim ≤ w.heap.size) (hk6 : ¬ t.kind = 6) (hp : Tr.plainB t = true) :
    Calls Tryz.prog 35 #[v, .int .i64 n] w fun e w' => e = .returned (.bool (Tr.leafB t)) ∧ Below w.heap.size w w' := by
  obtain ⟨o, c, rfl, hm, htx⟩ := h.look
  have hp1 := plain_any (h.kept (w' := w.alloc (.cells #[.int .i64 t.kind, .string ⟨t.text.toArray⟩, .int .i64 t.num, .int .i64 t.dim, .int .i64 t.pos, .slice o t.kids.length c] 26)) ((Below.refl _ _).alloc hl _))
  rw [hp] at hp1
  have PL := Lib.hid hp1
  have ON := Lib.hid fun (k : Int) (w : World) => one_any ⟨t.text.toArray⟩ k w (by show t.text.length ≤ _; omega)
  clear h hp1
  obtain ⟨R, hR⟩ : ∃ R, R = Tr.leafB t := ⟨_, rfl⟩
  rw [← hR]
  unfold Tr.leafB at hR
  by_cases h3 : t.kind = 3
  · rw [if_pos h3] at hR
    have HR := Lib.hid hR
    clear hR
    go_enter Tryz.func35, Tryz.ntmps35
    go_wp2_with fail
    rw [h3] at PL
    refine PL.out.mono ?_
    rintro e w1 ⟨rfl, hb1⟩
    have hbx := Boxed.of hb1
    obtain ⟨b0, b1, b2, b3, b4, b5⟩ := cells6 hbx.row
    have HBX := Lib.hid hbx
    clear hb1 hbx
    go_wp2_with fail
    refine (ON.out 0 _).mono ?_
    rintro e w2 ⟨rfl, hb2⟩
    have HBX2 := Lib.hid (HBX.out.below hb2)
    clear hb2
    go_wp2_with fail
    go_ret
    exact ⟨tret_bool HR.out.symm, HBX2.out.all⟩
  · rw [if_neg h3] at hR
    by_cases h4 : t.kind = 4
    · rw [if_pos h4] at hR
      have HR := Lib.hid hR
      clear hR
      go_enter Tryz.func35, Tryz.ntmps35
      go_wp2_with fail
      rw [h4] at PL
      refine PL.out.mono ?_
      rintro e w1 ⟨rfl, hb1⟩
      have hbx := Boxed.of hb1
      obtain ⟨b0, b1, b2, b3, b4, b5⟩ := cells6 hbx.row
      have HBX := Lib.hid hbx
      clear hb1 hbx
      go_wp2_with fail
      refine (ON.out 2 _).mono ?_
      rintro e w2 ⟨rfl, hb2⟩
      have HBX2 := Lib.hid (HBX.out.below hb2)
      clear hb2
      go_wp2_with fail
      go_ret
      exact ⟨tret_bool HR.out.symm, HBX2.out.all⟩
    · rw [if_neg h4] at hR
      by_cases h5 : t.kind = 5
      · rw [if_pos h5] at hR
        have HR := Lib.hid hR
        clear hR
        go_enter Tryz.func35, Tryz.ntmps35
        go_wp2_with fail
        rw [h5] at PL
        refine PL.out.mono ?_
        rintro e w1 ⟨rfl, hb1⟩
        have hbx := Boxed.of hb1
        obtain ⟨b0, b1, b2, b3, b4, b5⟩ := cells6 hbx.row
        have HBX := Lib.hid hbx
        clear hb1 hbx
        go_wp2_with fail
        all_goals
          go_ret
          refine ⟨tret_bool ?_, HBX.out.all⟩
          rw [HR.out]
          first | (simp_all; done) | (simp_all; intros; omega)
      · rw [if_neg h5] at hR
        have HR := Lib.hid hR
        clear hR
        go_enter Tryz.func35, Tryz.ntmps35
        go_wp2_with fail
        refine PL.out.mono ?_
        rintro e w1 ⟨rfl, hb1⟩
        have hbx := Boxed.of hb1
        obtain ⟨b0, b1, b2, b3, b4, b5⟩ := cells6 hbx.row
        have HBX := Lib.hid hbx
        clear hb1 hbx
        go_wp2_with fail
        go_ret
        exact ⟨tret_bool HR.out.symm, HBX.out.all⟩

set_option maxHeartbeats 4000000 in
theorem rvalue_bad {w : World} {lim d : Nat} {v : Value} {t : Tr.Tree} (n : Int) (h : NodeRd w lim d v t) (hl : lim ≤ w.heap.size) (hp : Tr.plainB t = false) :
    Calls Tryz.prog 35 #[v, .int .i64 n] w fun e w' => e = .returned (.bool false) ∧ Below w.heap.size w w' := by
  obtain ⟨o, c, rfl, hm, htx⟩ := h.look
  have hp1 := plain_any (h.kept (w' := w.alloc (.cells #[.int .i64 t.kind, .string ⟨t.text.toArray⟩, .int .i64 t.num, .int .i64 t.dim, .int .i64 t.pos, .slice o t.kids.length c] 26)) ((Below.refl _ _).alloc hl _))
  rw [hp] at hp1
  have PL := Lib.hid hp1
  clear h hp1
  go_enter Tryz.func35, Tryz.ntmps35
  go_wp2_with fail
  refine PL.out.mono ?_
  rintro e w1 ⟨rfl, hb1⟩
  have HBX := Lib.hid (Boxed.of hb1)
  clear hb1
  go_wp2_with fail
  go_ret
  exact ⟨rfl, HBX.out.all⟩

theorem rvalue_any : ∀ (m nest d : Nat) (w : World) (lim : Nat) (v : Value) (t : Tr.Tree), m + nest = 40 → NodeRd w lim d v t → lim ≤ w.heap.size → Calls Tryz.prog 35 #[v, .int .i64 (nest : Nat)] w fun e w' => e = .returned (.bool (Tr.valueB m t)) ∧ Below w.heap.size w w'
  | m, nest, d, w, lim, v, t, hm, h, hl => by
    cases hp : Tr.plainB t with
    | false => cases m <;> (unfold Tr.valueB; rw [hp]; exact rvalue_bad _ h hl hp)
    | true =>
      by_cases hk : t.kind = 6
      · cases m with
        | zero =>
          obtain rfl : nest = 40 := by omega
          have e : Tr.valueB 0 t = false := by unfold Tr.valueB Tr.leafB; simp [hk]
          rw [e]
          exact rvalue_full h hl hk hp
        | succ m =>
          unfold Tr.valueB
          rw [hp, if_pos hk]
          exact rvalue_group (fun w v t h hl => rvalue_any m (nest + 1) (d - 1) w lim v t (by omega) h hl) h hl (by omega) hk hp
      · have e : Tr.valueB m t = Tr.leafB t := by cases m <;> simp [Tr.valueB, hp, hk]
        rw [e]
        exact rvalue_leaf _ h hl hk hp
end Go.Proofs.YtooajmbpncmgjaaGreatDoor
