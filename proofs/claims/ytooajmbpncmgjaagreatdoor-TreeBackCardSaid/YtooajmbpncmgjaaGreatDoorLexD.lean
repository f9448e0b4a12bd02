/- Layer 13's first token, whole, by contract. -/
import Derived.Test.YtooajmbpncmgjaaGreatDoorLexC
namespace Go.Proofs.YtooajmbpncmgjaaGreatDoor
open Go.RowKit Go.Shelf
attribute [local go_sem] Oper.semAt_some

theorem splitSeq_any (s sep : ByteArray) (w : World) :
    Calls Tryz.prog 67 #[.string s, .string sep] w fun e w' => e = .returned (.func (.func 99) #[] #[.pointer (some ⟨w.heap.size + 1, 0, none⟩), .pointer (some ⟨w.heap.size, 0, none⟩), .pointer (some ⟨w.heap.size + 2, 0, none⟩)]) ∧
      ((w.alloc (.cells #[.string s] 9)).alloc (.cells #[.string sep] 9)).alloc (.cells #[.int .i64 0] 3) = w' := by
  have hmf : ∀ (fn : Fn) (first cap : Array Value) (w : World), (Instr.makeFunc fn first cap).run Tryz.prog w = .ok (.func fn first cap) w := fun _ _ _ _ => rfl
  go_enter Tryz.func67, Tryz.ntmps67
  go_wp2
  go_ret
  exact ⟨rfl, rfl⟩

theorem prefix_at (s : ByteArray) (g : List UInt8) (w : World) :
    Calls Tryz.prog 59 #[.string s, .string ⟨g.toArray⟩] w fun e w' => e = .returned (.bool (Lib.hasPrefix s.data.toList g)) ∧ w = w' :=
  (Tryz.strings_HasPrefix s ⟨g.toArray⟩ w).mono fun _ _ ⟨a, b⟩ => ⟨a, b.symm⟩

theorem lt_heap {w : World} {b o : Nat} {v : Value} (h : w.cell? ⟨b, o, none⟩ = some v) : b < w.heap.size := by
  rcases Nat.lt_or_ge b w.heap.size with h2 | h2
  · exact h2
  · simp [World.cell?, h2] at h
/-- Between two rounds of first's search. -/
structure Seek (n : Nat) (w : World) (s : ByteArray) (pre : List (List UInt8)) (W : World) : Prop where
  below : Below n w W
  c0 : W.cell? ⟨n, 0, none⟩ = some (.string s)
  c1 : W.cell? ⟨n + 1, 0, none⟩ = some (.int .i64 0)
  f1 : W.frozen? ⟨n + 1, 0, none⟩ = false
  c2 : W.cell? ⟨n + 1 + 1, 0, none⟩ = some (.string ⟨#[]⟩)
  f2 : W.frozen? ⟨n + 1 + 1, 0, none⟩ = false
  no : ∀ g ∈ pre, Lib.hasPrefix s.data.toList g = false
/-- A round has left: the sign was found. -/
structure Found (n : Nat) (w : World) (s : ByteArray) (pre : List (List UInt8)) (W : World) : Prop where
  below : Below n w W
  hit : ∃ q g, pre = q ++ [g] ∧ (∀ x ∈ q, Lib.hasPrefix s.data.toList x = false) ∧ Lib.hasPrefix s.data.toList g = true ∧
    W.cell? ⟨n + 1, 0, none⟩ = some (.int .i64 3) ∧ W.cell? ⟨n + 1 + 1, 0, none⟩ = some (.string ⟨g.toArray⟩)

theorem below_own {n B : Nat} {w A A' : World} {row : Option Nat} (h : Below n w A) (hn : n ≤ w.heap.size) (hB : n ≤ B) (hg : A.grownBy A' row) (hr : ∀ r, row = some r → B ≤ r ∧ ∃ o : Obj, A.heap[r]? = some o ∧ o.isCells = false) : Below n w A' :=
  h.grown hg (Nat.le_trans hn h.size) (fun k e => Nat.le_trans hB (hr k e).1)
theorem seek_own (n B : Nat) (w : World) (hn : n ≤ w.heap.size) (hB : n ≤ B) (s : ByteArray) : OwnFrom B (Seek n w s) := fun _ _ _ _ h hg hr =>
  have hr' := fun r e => (hr r e).2
  ⟨below_own h.below hn hB hg hr, cell_kept h.c0 hg hr', cell_kept h.c1 hg hr', (frozen_kept h.c1 hg hr').trans h.f1, cell_kept h.c2 hg hr', (frozen_kept h.c2 hg hr').trans h.f2, h.no⟩
theorem found_own (n B : Nat) (w : World) (hn : n ≤ w.heap.size) (hB : n ≤ B) (s : ByteArray) : OwnFrom B (Found n w s) := fun _ _ _ _ h hg hr =>
  have hr' := fun r e => (hr r e).2
  ⟨below_own h.below hn hB hg hr, let ⟨q, g, a, b, c, d, e⟩ := h.hit; ⟨q, g, a, b, c, cell_kept d hg hr', cell_kept e hg hr'⟩⟩
theorem seek_set {n : Nat} {w : World} {s : ByteArray} {pre : List (List UInt8)} {A : World} {b : Nat} (hb : n + 1 + 1 < b) (v : Value) (h : Seek n w s pre A) : Seek n w s pre (A.setCell ⟨b, 0, none⟩ v) :=
  ⟨h.below.setCell (by show n ≤ b; omega) _, (World.cell?_setCell_other _ _ _ _ (by simp; try omega)).trans h.c0, (World.cell?_setCell_other _ _ _ _ (by simp; try omega)).trans h.c1, by rw [World.frozen?_setCell]; exact h.f1,
    (World.cell?_setCell_other _ _ _ _ (by simp; try omega)).trans h.c2, by rw [World.frozen?_setCell]; exact h.f2, h.no⟩

theorem signL_none (s : List UInt8) (h : ∀ g ∈ L.signsL, Lib.hasPrefix s g = false) : L.signL s = [] := by
  unfold L.signL
  rw [List.find?_eq_none.2 (fun g hg => by rw [h g hg]; simp)]
  rfl
theorem find_at {α : Type} (p : α → Bool) : ∀ (q : List α) (g : α) (r : List α), (∀ x ∈ q, p x = false) → p g = true → (q ++ g :: r).find? p = some g
  | [], g, r, _, h => by simp [h]
  | x :: q, g, r, h1, h => by
    have h0 := h1 x (by simp)
    have ih := find_at p q g r (fun y hy => h1 y (List.mem_cons_of_mem _ hy)) h
    simp [h0, ih]
theorem signL_some (s : List UInt8) (q : List (List UInt8)) (g : List UInt8) (hp : q ++ [g] <+: L.signsL) (h1 : ∀ x ∈ q, Lib.hasPrefix s x = false) (h2 : Lib.hasPrefix s g = true) : L.signL s = g := by
  obtain ⟨r, hr⟩ := hp
  unfold L.signL
  rw [← hr, List.append_assoc, show [g] ++ r = g :: r from rfl, find_at (fun g => Lib.hasPrefix s g) q g _ h1 h2]
  rfl

set_option maxHeartbeats 2000000 in
theorem first_sign (s : ByteArray) (w : World) (hs : s.size ≤ 100000) (h0 : 0 < s.size) (hc : L.letterN s[0].toNat = false) (hd : L.digitN s[0].toNat = false) (hq : ¬ s[0].toNat = 34) :
    Calls Tryz.prog 44 #[.string s] w (FirstAt s w) := by
  have hf := firstL_sign s h0 hc hd hq
  have HF := Lib.hid hf
  have C1 := Lib.hid (letter_any s[0].toNat · s[0].toNat_lt)
  have C2 := Lib.hid (digit_any s[0].toNat ·)
  have HC := Lib.hid hc
  have HD := Lib.hid hd
  have SS := Lib.hid fun w => splitSeq_any ⟨#[60, 61, 32, 62, 61, 32, 61, 61, 32, 33, 61, 32, 123, 32, 125, 32, 40, 32, 41, 32, 44, 32, 59, 32, 58, 32, 61, 32, 43, 32, 45, 32, 42, 32, 47, 32, 37, 32, 60, 32, 62]⟩ ⟨#[32]⟩ w
  have hqq : ((s[0].toNat : Nat) : Int) ≠ 34 := by omega
  have hq1 : (((s[0].toNat : Nat) : Int) == 34) = false := beq_eq_false_iff_ne.2 hqq
  clear hf hc hd hq hqq
  refine (callsIn_wide (n := 3)).1 ?_
  refine callsIn_of_wp_marks Tryz.func44 rfl trivial ?_ rfl
  simp only [Tryz.ntmps44, List.size_toArray, List.length_cons, List.length_nil, Nat.reduceAdd, Nat.reduceSub, Array.replicate_succ, Array.replicate_zero, List.push_toArray, List.append_toArray, List.nil_append, List.cons_append]
  gi_wp2_with fail
  refine ⟨trivial, (callsIn_wide.2 (C1.out _)).mono ?_⟩
  rintro e w' ⟨rfl, rfl⟩
  rw [HC.out]
  gi_wp2_with fail
  refine ⟨trivial, (callsIn_wide.2 (C2.out _)).mono ?_⟩
  rintro e w' ⟨rfl, rfl⟩
  rw [HD.out]
  gi_wp2_with fail
  refine ⟨trivial, (callsIn_wide.2 (SS.out _)).mono ?_⟩
  rintro e w' ⟨rfl, rfl⟩
  gi_wp2_with fail
  refine wpIn_rangeFunc_cell (F := Fence.wide) (n := 3) rfl (by omega) (gf := 99) rfl trivial (enters_of Tryz.func99 (by kernel_rfl) rfl)
    (split_in (3 - 1) (by omega) (w.heap.size + 1 + 1 + 1) _ (by simp) _ ?s0 ?sf0 ?s1 ?s2) (fun _ => rfl) (Seek w.heap.size w s) (fun _ => Found w.heap.size w s)
    (seek_own _ _ _ (Nat.le_refl _) (by simp; omega) _) (fun _ => found_own _ _ _ (Nat.le_refl _) (by simp; omega) _) (fun pre A v h => seek_set (by omega) v h) ?h0 ?a1 ?assign ?body ?done ?stop
  case assign =>
    intro l x W K hK
    gi_wp2
    exact hK
  case s0 => rw [L.signs_join]; go_simp
  case sf0 => go_simp
  case s1 => go_simp
  case s2 => go_simp
  case h0 =>
    refine ⟨?_, by go_simp, by go_simp, by go_simp, by go_simp, by go_simp, fun g hg => absurd hg (by simp)⟩
    go_grown
  case body =>
    rintro l pre g W ⟨hb, c0, c1, f1, c2, f2, hno⟩ _
    have HB := Lib.hid hb
    have HNO := Lib.hid hno
    clear hb hno
    have HP := Lib.hid fun w => prefix_at s g w
    cases hp : Lib.hasPrefix s.data.toList g
    · have HPP := Lib.hid hp
      clear hp
      gi_wp2_with fail
      refine ⟨trivial, (CallsIn.inRound l (callsIn_wide.2 (HP.out _))).mono ?_⟩
      rintro e w' ⟨rfl, rfl⟩
      rw [HPP.out]
      gi_wp2_with fail
      refine ⟨KeepsOthers.refl _, Below.refl _ _, HB.out, c0, c1, f1, c2, f2, fun x hx => ?_⟩
      rcases List.mem_append.1 hx with hx | hx
      · exact HNO.out x hx
      · obtain rfl : x = g := by simpa using hx
        exact HPP.out
    · have HPP := Lib.hid hp
      clear hp
      gi_wp2_with fail
      refine ⟨trivial, (CallsIn.inRound l (callsIn_wide.2 (HP.out _))).mono ?_⟩
      rintro e w' ⟨rfl, rfl⟩
      rw [HPP.out]
      gi_wp2_with fail
      refine ⟨(KeepsOthers.setCell _ _ _).trans (KeepsOthers.setCell _ _ _), (HB.out.setCell (by show w.heap.size ≤ w.heap.size + 1; omega) _).setCell (by show w.heap.size ≤ w.heap.size + 1 + 1; omega) _, ⟨pre, g, rfl, HNO.out, HPP.out, ?_, ?_⟩⟩
      · exact (World.cell?_setCell_other _ _ _ _ (by simp)).trans (World.cell?_setCell_same _ _ _ c1)
      · exact World.cell?_setCell_same _ _ _ ((World.cell?_setCell_other _ _ _ _ (by simp)).trans c2)
  case done =>
    rintro D xs W hD rfl ⟨hb, c0, c1, f1, c2, f2, hno⟩ hK
    have HF2 := Lib.hid (show L.firstL s.data.toList = (3, []) by rw [HF.out, signL_none _ hno])
    have HB := Lib.hid hb
    clear hb hno
    have hn0 : w.heap.size < W.heap.size := lt_heap c0
    have hk3 := ((KeepsOthers.setCell W ⟨w.heap.size + 1, 0, none⟩ (.int .i64 3)).trans (KeepsOthers.setCell _ ⟨w.heap.size + 1 + 1, 0, none⟩ (.string ⟨#[]⟩))).same D _ hK rfl
    have hb3 := (HB.out.setCell (p := ⟨w.heap.size + 1, 0, none⟩) (by show w.heap.size ≤ w.heap.size + 1; omega) (.int .i64 3)).setCell (p := ⟨w.heap.size + 1 + 1, 0, none⟩) (by show w.heap.size ≤ w.heap.size + 1 + 1; omega) (.string ⟨#[]⟩)
    have q1 := (World.cell?_setCell_other _ ⟨w.heap.size + 1 + 1, 0, none⟩ ⟨w.heap.size + 1, 0, none⟩ (.string ⟨#[]⟩) (by simp)).trans (World.cell?_setCell_same W _ (.int .i64 3) c1)
    have q2 := World.cell?_setCell_same _ _ (.string ⟨#[]⟩) ((World.cell?_setCell_other W ⟨w.heap.size + 1, 0, none⟩ ⟨w.heap.size + 1 + 1, 0, none⟩ (.int .i64 3) (by simp)).trans c2)
    have HK3 := Lib.hid hk3
    have HB3 := Lib.hid hb3
    have HQ1 := Lib.hid q1
    have HQ2 := Lib.hid q2
    clear hk3 hb3 q1 q2
    gi_wp2_with fail
    have hg := grownBy_putObj' ((W.setCell ⟨w.heap.size + 1, 0, none⟩ (.int .i64 3)).setCell ⟨w.heap.size + 1 + 1, 0, none⟩ (.string ⟨#[]⟩)) D (.deferred none)
    have hr : ∀ r, some D = some r → w.heap.size ≤ r ∧ ∃ o : Obj, ((W.setCell ⟨w.heap.size + 1, 0, none⟩ (.int .i64 3)).setCell ⟨w.heap.size + 1 + 1, 0, none⟩ (.string ⟨#[]⟩)).heap[r]? = some o ∧ o.isCells = false := fun r e => by
      cases e; exact ⟨by simp at hD; omega, _, HK3.out, rfl⟩
    refine ⟨by simp, .inl ⟨_, _, rfl, run_takeDeferred HK3.out, ?_⟩⟩
    have p1 := cell_kept HQ1.out hg (fun r e => (hr r e).2)
    have p2 := cell_kept HQ2.out hg (fun r e => (hr r e).2)
    refine ⟨.tuple #[.int .i64 ((3 : Nat) : Int), .string ⟨([] : List UInt8).toArray⟩], by simp [results, Tryz.results44, go_sem, p1, p2], firstAt_mk HF2.out (below_own HB3.out (Nat.le_refl _) (Nat.le_refl _) hg hr)⟩
  case stop =>
    rintro D pre W hD hpre ⟨hb, q, g, rfl, hno, hp, c1, c2⟩ hK
    have HF2 := Lib.hid (show L.firstL s.data.toList = (3, g) by rw [HF.out, signL_some _ q g hpre hno hp])
    have HB := Lib.hid hb
    clear hb hno hp hpre
    gi_wp2_with fail
    have hg := grownBy_putObj' W D (.deferred none)
    have hr : ∀ r, some D = some r → w.heap.size ≤ r ∧ ∃ o : Obj, W.heap[r]? = some o ∧ o.isCells = false := fun r e => by
      cases e; exact ⟨by simp at hD; omega, _, hK, rfl⟩
    refine ⟨by simp, .inl ⟨_, _, rfl, run_takeDeferred hK, ?_⟩⟩
    have p1 := cell_kept c1 hg (fun r e => (hr r e).2)
    have p2 := cell_kept c2 hg (fun r e => (hr r e).2)
    refine ⟨.tuple #[.int .i64 ((3 : Nat) : Int), .string ⟨g.toArray⟩], by simp [results, Tryz.results44, go_sem, p1, p2], firstAt_mk HF2.out (below_own HB.out (Nat.le_refl _) (Nat.le_refl _) hg hr)⟩

theorem first_any (s : ByteArray) (w : World) (hs : s.size ≤ 100000) (h0 : 0 < s.size) : Calls Tryz.prog 44 #[.string s] w (FirstAt s w) := by
  cases hc : L.letterN s[0].toNat
  · cases hd : L.digitN s[0].toNat
    · by_cases hq : s[0].toNat = 34
      · exact first_quote s w hs h0 hq
      · exact first_sign s w hs h0 hc hd hq
    · exact first_digit s w hs h0 hc hd
  · exact first_letter s w hs h0 hc
end Go.Proofs.YtooajmbpncmgjaaGreatDoor
