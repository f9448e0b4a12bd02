/- Layer 15's laws: same, by contract. -/
import Derived.Test.YtooajmbpncmgjaaGreatDoorNodeI
import Derived.Test.YtooajmbpncmgjaaGreatDoorGramSize
import Derived.StillTailTactics
namespace Go.Proofs.YtooajmbpncmgjaaGreatDoor
open Go.RowKit

namespace Tr
mutual
/-- Equal, apart from offsets. -/
def sameB : Tree → Tree → Bool
  | ⟨k, x, n, d, _, l⟩, u => k == u.kind && (x == u.text && ((n == u.num && d == u.dim) && (l.length == u.kids.length && sameL l u.kids)))
def sameL : List Tree → List Tree → Bool
  | [], _ => true
  | t :: r, l => match l with
    | [] => false
    | u :: q => sameB t u && sameL r q
end
theorem sameB_eq (t u : Tree) : sameB t u = (t.kind == u.kind && (t.text == u.text && ((t.num == u.num && t.dim == u.dim) && (t.kids.length == u.kids.length && sameL t.kids u.kids)))) := by cases t; rw [sameB]
def sameAt (l l' : List Tree) (i : Nat) : Bool :=
  match l[i]?, l'[i]? with
  | some a, some b => sameB a b
  | _, _ => false
theorem sameL_range : ∀ (l l' : List Tree), l.length = l'.length → sameL l l' = (List.range l.length).all (sameAt l l')
  | [], l', _ => by simp [sameL]
  | t :: r, [], h => by simp at h
  | t :: r, u :: q, h => by
    have ih := sameL_range r q (by simpa using h)
    rw [sameL, ih, List.length_cons, List.range_succ_eq_map, List.all_cons, List.all_map]
    rfl
end Tr

/-- Behind a walk from w with two variables more: w as it was, and the variables. -/
structure Boxed2 (w wr : World) (o1 o2 : Obj) : Prop where
  old : Below (w.heap.size + 2) ((w.alloc o1).alloc o2) wr
  size : w.heap.size + 1 < wr.heap.size
theorem Boxed2.start (w : World) (o1 o2 : Obj) : Boxed2 w ((w.alloc o1).alloc o2) o1 o2 := ⟨Below.refl _ _, by simp⟩
theorem Boxed2.below {w wr w' : World} {o1 o2 : Obj} (h : Boxed2 w wr o1 o2) (hb : Below wr.heap.size wr w') : Boxed2 w w' o1 o2 := ⟨h.old.trans (hb.mono h.size), Nat.lt_of_lt_of_le h.size hb.size⟩
theorem Boxed2.row1 {w wr : World} {o1 o2 : Obj} (h : Boxed2 w wr o1 o2) : wr.heap[w.heap.size]? = some o1 := (h.old.block _ (by omega)).trans (row_alloc (heap_alloc_new w o1) o2)
theorem Boxed2.row2 {w wr : World} {o1 o2 : Obj} (h : Boxed2 w wr o1 o2) : wr.heap[w.heap.size + 1]? = some o2 := (h.old.block _ (by omega)).trans (heap_alloc_two w o1 o2)
theorem Boxed2.all {w wr : World} {o1 o2 : Obj} (h : Boxed2 w wr o1 o2) : Below w.heap.size w wr := (((Below.refl _ w).alloc (Nat.le_refl _) o1).alloc (by simp) o2).trans (h.old.mono (by omega))
theorem Boxed2.drew {w wr : World} {o1 o2 : Obj} (h : Boxed2 w wr o1 o2) : Boxed2 w wr.drew o1 o2 := ⟨h.old.drew, h.size⟩

set_option maxRecDepth 100000 in
set_option maxHeartbeats 4000000 in
theorem same_eq {w : World} {lim d d' : Nat} {v v' : Value} {t u : Tr.Tree} (ih : ∀ (w : World) (v v' : Value) (a b : Tr.Tree), NodeRd w lim (d - 1) v a → NodeRd w lim (d' - 1) v' b → lim ≤ w.heap.size → Calls Tryz.prog 13 #[v, v'] w fun e w' => e = .returned (.bool (Tr.sameB a b)) ∧ Below w.heap.size w w')
    (h : NodeRd w lim d v t) (h' : NodeRd w lim d' v' u) (hl : lim ≤ w.heap.size) (e1 : t.kind = u.kind) (e2 : t.text = u.text) (e3 : t.num = u.num) (e4 : t.dim = u.dim) (e5 : t.kids.length = u.kids.length) :
    Calls Tryz.prog 13 #[v, v'] w fun e w' => e = .returned (.bool ((List.range t.kids.length).all (Tr.sameAt t.kids u.kids))) ∧ Below w.heap.size w w' := by
  obtain ⟨o, c, rfl, hm, htx⟩ := h.look
  obtain ⟨o', c', rfl, hm', htx'⟩ := h'.look
  unfold maxLen at hm
  have H := Lib.hid h
  have HU := Lib.hid h'
  have IH := Lib.hid ih
  clear h h' ih
  rw [← e1, ← e2, ← e3, ← e4, ← e5]
  have E5 := Lib.hid e5
  clear e1 e2 e3 e4 e5
  go_enter Tryz.func13, Tryz.ntmps13
  go_wp2_with fail
  go_loopw [5] (fun t5 wr => ∃ k : Nat, t5 = .int .i64 k ∧ Hid (k ≤ t.kids.length) ∧ Hid (Boxed2 w wr (.cells #[.int .i64 t.kind, .string ⟨t.text.toArray⟩, .int .i64 t.num, .int .i64 t.dim, .int .i64 t.pos, .slice o t.kids.length c] 26) (.cells #[.int .i64 t.kind, .string ⟨t.text.toArray⟩, .int .i64 t.num, .int .i64 t.dim, .int .i64 u.pos, .slice o' t.kids.length c'] 26)) ∧ Hid ((List.range k).all (Tr.sameAt t.kids u.kids) = true)) (fun t5 _ => t.kids.length - (intOf t5).toNat)
  case atStart => exact ⟨0, rfl, Lib.hid (Nat.zero_le _), Lib.hid (Boxed2.start _ _ _), Lib.hid (by simp)⟩
  case round =>
    obtain ⟨wo, rfl⟩ : ∃ wo : World, wo = wr := ⟨_, rfl⟩
    obtain ⟨k, rfl, hkl, hbx, hall⟩ := hrel
    obtain ⟨q0, q1, q2, q3, q4, q5⟩ := cells6 hbx.out.row1
    obtain ⟨r0, r1, r2, r3, r4, r5⟩ := cells6 hbx.out.row2
    rcases Nat.lt_or_ge k t.kids.length with hlt | hge
    · have hold := hbx.out.all
      have hlt2 : k < u.kids.length := by have := E5.out; omega
      obtain ⟨a, o2, c2, rfl, hkid⟩ := (H.out.kept (hold.mono hl)).kid k hlt
      obtain ⟨a', o3, c3, rfl, hkid'⟩ := (HU.out.kept (hold.mono hl)).kid k hlt2
      have hat : Tr.sameAt t.kids u.kids k = Tr.sameB t.kids[k] u.kids[k] := by unfold Tr.sameAt; rw [List.getElem?_eq_getElem hlt, List.getElem?_eq_getElem hlt2]
      obtain ⟨krd, ka, k0, k1, k2, k3, k4, k5⟩ := hkid
      obtain ⟨krd', ka', p0, p1, p2, p3, p4, p5⟩ := hkid'
      generalize hkd : t.kids[k] = kd at *
      generalize hkd' : u.kids[k] = kd' at *
      have i0 : (0 : Int) ≤ (k : Nat) := by omega
      have i1 : ((k : Nat) : Int) < (t.kids.length : Nat) := by omega
      have hls : lim ≤ wo.heap.size := Nat.le_trans hl hold.size
      have HC := Lib.hid fun wd (hb : Below wo.heap.size wo wd) => IH.out wd _ _ kd kd' (krd.kept (hb.mono hls)) (krd'.kept (hb.mono hls)) (Nat.le_trans hls hb.size)
      have HAT := Lib.hid hat
      clear krd krd' hat hold
      go_wp2_with fail
      go_still_tail 10, (by kernel_rfl)
      change wpList _ _ _ _ _ wo.drew
      have HD := Lib.hid (HC.out wo.drew (below_drew wo))
      have HB2 := Lib.hid (hbx.out.drew)
      generalize wo.drew = wd at *
      go_wp2_with fail
      refine HD.out.mono ?_
      rintro e w2 ⟨rfl, hb2⟩
      have HBX2 := Lib.hid (HB2.out.below hb2)
      clear hb2 q0 q1 q2 q3 q4 q5 r0 r1 r2 r3 r4 r5 k0 k1 k2 k3 k4 k5 p0 p1 p2 p3 p4 p5
      cases hv : Tr.sameB kd kd'
      · have HS := Lib.hid (range_stop (Tr.sameAt t.kids u.kids) t.kids.length k hlt (by rw [HAT.out]; exact hv))
        clear hv
        go_wp2_with fail
        go_ret
        exact ⟨tret_bool (by rw [HS.out]), HBX2.out.all⟩
      · have HS := Lib.hid (range_take (Tr.sameAt t.kids u.kids) k hall.out (by rw [HAT.out]; exact hv))
        clear hv
        go_wp2_with fail
        exact ⟨⟨k + 1, by go_num, Lib.hid hlt, HBX2, HS⟩, by simp [intOf]; omega⟩
    · have hke : k = t.kids.length := Nat.le_antisymm hkl.out hge
      have HA : Hid ((List.range t.kids.length).all (Tr.sameAt t.kids u.kids) = true) := Lib.hid (by rw [← hke]; exact hall.out)
      have i1 : ¬ ((k : Nat) : Int) < (t.kids.length : Nat) := by omega
      clear hke
      go_wp2_with fail
      go_ret
      exact ⟨tret_bool (by rw [HA.out]), hbx.out.all⟩

set_option maxRecDepth 100000 in
set_option maxHeartbeats 4000000 in
theorem same_ne {w : World} {lim d d' : Nat} {v v' : Value} {t u : Tr.Tree} (h : NodeRd w lim d v t) (h' : NodeRd w lim d' v' u) (hne : ¬ (t.kind = u.kind ∧ t.text = u.text ∧ t.num = u.num ∧ t.dim = u.dim ∧ t.kids.length = u.kids.length)) :
    Calls Tryz.prog 13 #[v, v'] w fun e w' => e = .returned (.bool false) ∧ Below w.heap.size w w' := by
  obtain ⟨o, c, rfl, hm, htx⟩ := h.look
  obtain ⟨o', c', rfl, hm', htx'⟩ := h'.look
  clear h h'
  by_cases e1 : t.kind = u.kind
  · by_cases e2 : t.text = u.text
    · by_cases e3 : t.num = u.num ∧ t.dim = u.dim
      · have e5 : ¬ t.kids.length = u.kids.length := fun e => hne ⟨e1, e2, e3.1, e3.2, e⟩
        rw [← e1, ← e2, ← e3.1, ← e3.2]
        clear hne e1 e2 e3
        have f1 : ¬ ((t.kids.length : Nat) : Int) = (u.kids.length : Nat) := by omega
        go_enter Tryz.func13, Tryz.ntmps13
        go_wp2_with fail
        go_ret
        exact ⟨rfl, (Boxed2.start _ _ _).all⟩
      · rw [← e1, ← e2]
        clear hne e1 e2
        go_enter Tryz.func13, Tryz.ntmps13
        go_wp2_with fail
        all_goals
          go_ret
          exact ⟨rfl, (Boxed2.start _ _ _).all⟩
    · rw [← e1]
      clear hne e1
      have f1 : ¬ t.text.toArray = u.text.toArray := fun e => e2 (by simpa using e)
      go_enter Tryz.func13, Tryz.ntmps13
      go_wp2_with fail
      all_goals
        go_ret
        exact ⟨rfl, (Boxed2.start _ _ _).all⟩
  · clear hne
    go_enter Tryz.func13, Tryz.ntmps13
    go_wp2_with fail
    all_goals
      go_ret
      exact ⟨rfl, (Boxed2.start _ _ _).all⟩

theorem same_any : ∀ (d d' : Nat) (w : World) (lim : Nat) (v v' : Value) (t u : Tr.Tree), NodeRd w lim d v t → NodeRd w lim d' v' u → lim ≤ w.heap.size →
    Calls Tryz.prog 13 #[v, v'] w fun e w' => e = .returned (.bool (Tr.sameB t u)) ∧ Below w.heap.size w w'
  | 0, _, w, lim, v, v', t, u, h, _, _ => h.elim
  | d + 1, d', w, lim, v, v', t, u, h, h', hl => by
    rw [Tr.sameB_eq]
    by_cases he : t.kind = u.kind ∧ t.text = u.text ∧ t.num = u.num ∧ t.dim = u.dim ∧ t.kids.length = u.kids.length
    · obtain ⟨e1, e2, e3, e4, e5⟩ := he
      rw [Tr.sameL_range _ _ e5]
      refine (same_eq (fun w v v' a b ha hb hl => same_any d (d' - 1) w lim v v' a b ha hb hl) h h' hl e1 e2 e3 e4 e5).mono ?_
      rintro e w' ⟨rfl, hb⟩
      exact ⟨by simp [e1, e2, e3, e4, e5], hb⟩
    · refine (same_ne h h' he).mono ?_
      rintro e w' ⟨rfl, hb⟩
      refine ⟨tret_bool (Eq.symm ?_), hb⟩
      simp only [Bool.and_eq_false_imp, beq_iff_eq]
      intro e1 e2 e3
      rw [Bool.and_eq_true, beq_iff_eq, beq_iff_eq] at e3
      intro e5
      exact absurd ⟨e1, e2, e3.1, e3.2, e5⟩ he
namespace Tr
mutual
theorem sameB_bare : ∀ (t u : Tree), sameB t u = true ↔ bare t = bare u
  | ⟨k, x, n, d, p, l⟩, u => by
    rw [sameB, bare, bare_eq]
    simp only [Bool.and_eq_true, beq_iff_eq, Tree.mk.injEq, true_and]
    constructor
    · rintro ⟨h1, h2, ⟨h3, h4⟩, h5, h6⟩
      exact ⟨h1, h2, h3, h4, (sameL_bare l u.kids h5).1 h6⟩
    · rintro ⟨h1, h2, h3, h4, h5⟩
      have hl : l.length = u.kids.length := by
        have := congrArg List.length h5
        simpa [bareL_map] using this
      exact ⟨h1, h2, ⟨h3, h4⟩, hl, (sameL_bare l u.kids hl).2 h5⟩
theorem sameL_bare : ∀ (l l' : List Tree), l.length = l'.length → (sameL l l' = true ↔ bareL l = bareL l')
  | [], l', h => by
    have : l' = [] := List.length_eq_zero_iff.1 h.symm
    subst this
    simp [sameL]
  | t :: r, [], h => by simp at h
  | t :: r, u :: q, h => by
    rw [sameL, bareL, bareL, Bool.and_eq_true, List.cons.injEq, sameB_bare t u, sameL_bare r q (by simpa using h)]
end
end Tr
end Go.Proofs.YtooajmbpncmgjaaGreatDoor
