/- Layer 15's law TreeFails, by contract. -/
import Derived.Test.YtooajmbpncmgjaaGreatDoorLawA
import Derived.Test.YtooajmbpncmgjaaGreatDoorLawB
namespace Go.Proofs.YtooajmbpncmgjaaGreatDoor
open Go.RowKit

theorem pcs_of {s : ByteArray} {t : Tr.Tree} {a p : Nat} (h : parseS s.data.toList = (t, a, p)) (hx : s.size ≤ maxLen) (w : World) (hw : Std w) :
    Calls Tryz.prog 12 #[.string s] w fun e w' => ∃ o c d, e = .returned (.tuple #[.agg #[.int .i64 t.kind, .string ⟨t.text.toArray⟩, .int .i64 t.num, .int .i64 t.dim, .int .i64 t.pos, .slice o t.kids.length c], .int .i64 (a : Nat), .int .i64 (p : Nat)]) ∧
      NodeRd w' w'.heap.size d (.agg #[.int .i64 t.kind, .string ⟨t.text.toArray⟩, .int .i64 t.num, .int .i64 t.dim, .int .i64 t.pos, .slice o t.kids.length c]) t ∧ Below w.heap.size w w' := by
  have h1 := parse_rd s w hx hw
  unfold ParseRd at h1
  rw [h] at h1
  exact h1
theorem pcz_of {s : ByteArray} {a p : Nat} (h : parseS s.data.toList = (Tr.zero, a, p)) (hx : s.size ≤ maxLen) (w : World) (hw : Std w) :
    Calls Tryz.prog 12 #[.string s] w fun e w' => ∃ o c d, e = .returned (.tuple #[.agg #[.int .i64 0, .string ⟨#[]⟩, .int .i64 0, .int .i64 0, .int .i64 0, .slice o 0 c], .int .i64 (a : Nat), .int .i64 (p : Nat)]) ∧
      NodeRd w' w'.heap.size d (.agg #[.int .i64 0, .string ⟨#[]⟩, .int .i64 0, .int .i64 0, .int .i64 0, .slice o 0 c]) Tr.zero ∧ Below w.heap.size w w' := pcs_of h hx w hw
/-- The rows of tokens that a slice holds. -/
def TokRow (w : World) (o : Option Addr) (l : List L.Tok) : Prop :=
  ∀ k (hk : k < l.length), ∃ tb, o = some ⟨tb, 0, none⟩ ∧ tb < w.heap.size ∧ w.cell? ⟨tb, k * 3, none⟩ = some (.int .i64 (l[k].kind : Nat)) ∧ w.cell? ⟨tb, k * 3 + 1, none⟩ = some (.string ⟨l[k].text.toArray⟩) ∧ w.cell? ⟨tb, k * 3 + 2, none⟩ = some (.int .i64 (l[k].pos : Nat))
theorem TokRow.kept {w w' : World} {o : Option Addr} {l : List L.Tok} (h : TokRow w o l) (hb : Below w.heap.size w w') : TokRow w' o l := fun k hk => by
  obtain ⟨tb, h1, h2, h3, h4, h5⟩ := h k hk
  exact ⟨tb, h1, Nat.lt_of_lt_of_le h2 hb.size, (hb.cell (p := ⟨tb, _, none⟩) h2).trans h3, (hb.cell (p := ⟨tb, _, none⟩) h2).trans h4, (hb.cell (p := ⟨tb, _, none⟩) h2).trans h5⟩
theorem scs_of {s : ByteArray} {l : List L.Tok} {a p : Nat} (h : scanR s.data.toList = (l, a, p)) (hx : s.size ≤ maxLen) (w : World) :
    Calls Tryz.prog 14 #[.string s] w fun e w' => ∃ v o c, v = .slice o l.length c ∧ e = .returned (.tuple #[.slice o l.length c, .int .i64 (a : Nat), .int .i64 (p : Nat)]) ∧ w'.ownsRow w.heap.size 41 3 v l.length (l.flatMap tokCells) ∧ TokRow w' o l ∧ Below w.heap.size w w' := by
  refine (scan_any s w hx).mono ?_
  rintro e w' ⟨v, rfl, hrow, hb⟩
  rw [h] at hrow ⊢
  obtain ⟨o, c, rfl, hc⟩ := row_form hrow
  exact ⟨_, o, c, rfl, rfl, hrow, hc, hb⟩

theorem any_take {α : Type} (f : α → Bool) (l : List α) (k : Nat) (hk : k < l.length) : (l.take (k + 1)).any f = ((l.take k).any f || f l[k]) := by
  rw [List.take_succ_eq_append_getElem hk, List.any_append]
  simp

set_option maxRecDepth 100000 in
set_option maxHeartbeats 4000000 in
/-- Where Parse accepts. -/
theorem fails_ok (s : ByteArray) (w : World) (hs : s.size ≤ maxLen) (hw : Std w) (h0 : (parseS s.data.toList).2.1 = 0) :
    Calls Tryz.prog 5 #[.string s] w fun e w' => e = .returned (.bool true) ∧ Below w.heap.size w w' := by
  obtain ⟨hsc, l, r, he, hg⟩ := parseS_yes h0
  have PC := Lib.hid (pcs_of he hs)
  have SC := Lib.hid (scs_of (s := s) (l := (scanR s.data.toList).1) (a := 0) (p := (scanR s.data.toList).2.2) (Prod.ext rfl (Prod.ext hsc rfl)) hs)
  unfold maxLen at hs
  clear h0 hsc he hg
  have SM := Lib.hid small_any
  have HW := Lib.hid hw
  clear hw
  go_enter Tryz.func5, Tryz.ntmps5
  go_wp2_with fail
  refine (SM.out w HW.out).mono ?_
  rintro e w1 ⟨rfl, hb1⟩
  have HB1 := Lib.hid hb1
  clear hb1
  go_wp2_with fail
  refine (PC.out w1 (HW.out.below HB1.out)).mono ?_
  rintro e w2 ⟨o1, c1, d1, rfl, hr2, hb2⟩
  have HR2 := Lib.hid hr2
  have HB12 := Lib.hid (bl_trans HB1.out hb2)
  have HB2 := Lib.hid (bl_trans HB1.out (bl_trans hb2 ((Below.refl w2.heap.size w2).alloc (Nat.le_refl _) (.cells #[.int .i64 0, .string ⟨#[]⟩, .int .i64 0, .int .i64 0, .int .i64 0, .slice o1 l.length c1] 26))))
  clear hb2 hr2
  go_wp2_with fail
  refine (SC.out _).mono ?_
  rintro e w3 ⟨v, o, c, hv, rfl, hown, hrow, hb3⟩
  have HB3 := Lib.hid (bl_trans HB2.out hb3)
  have HBX := Lib.hid (Boxed.of hb3)
  have HTR := Lib.hid hrow
  have HOWN := Lib.hid hown
  clear hb3 hrow hv hown
  go_wp2_with fail
  all_goals
    go_ret
    exact ⟨rfl, HB3.out⟩
theorem zero_rd (w : World) (lim : Nat) : NodeRd w lim 1 (.agg #[.int .i64 0, .string ⟨#[]⟩, .int .i64 0, .int .i64 0, .int .i64 0, .slice none 0 0]) Tr.zero :=
  ⟨none, 0, [], rfl, rfl, ⟨Nat.zero_le _, Nat.le_refl _⟩, Nat.zero_le _, fun i h => absurd h (Nat.not_lt_zero i), fun p hp => by cases hp⟩
set_option maxRecDepth 100000 in
set_option maxHeartbeats 4000000 in
/-- Where the source is long. -/
theorem fails_long (s : ByteArray) (w : World) (hs : s.size ≤ maxLen) (hw : Std w) {E P F Q : Nat} {l : List L.Tok} (hp : parseS s.data.toList = (Tr.zero, E, P)) (hsc : scanR s.data.toList = (l, F, Q)) (hl : 2000 < s.size) :
    Calls Tryz.prog 5 #[.string s] w fun e w' => e = .returned (.bool true) ∧ Below w.heap.size w w' := by
  have PC := Lib.hid (pcz_of hp hs)
  have SC := Lib.hid (scs_of hsc hs)
  have hl2 : (2000 : Int) < (s.size : Nat) := by omega
  unfold maxLen at hs
  clear hp hsc
  have SM := Lib.hid small_any
  have HW := Lib.hid hw
  clear hw
  go_enter Tryz.func5, Tryz.ntmps5
  go_wp2_with fail
  refine (SM.out w HW.out).mono ?_
  rintro e w1 ⟨rfl, hb1⟩
  have HB1 := Lib.hid hb1
  clear hb1
  go_wp2_with fail
  refine (PC.out w1 (HW.out.below HB1.out)).mono ?_
  rintro e w2 ⟨o1, c1, d1, rfl, hr2, hb2⟩
  have HR2 := Lib.hid hr2
  have HB12 := Lib.hid (bl_trans HB1.out hb2)
  have HB2 := Lib.hid (bl_trans HB1.out (bl_trans hb2 ((Below.refl w2.heap.size w2).alloc (Nat.le_refl _) (.cells #[.int .i64 0, .string ⟨#[]⟩, .int .i64 0, .int .i64 0, .int .i64 0, .slice o1 0 c1] 26))))
  clear hb2 hr2
  go_wp2_with fail
  refine (SC.out _).mono ?_
  rintro e w3 ⟨v, o, c, hv, rfl, hown, hrow, hb3⟩
  have HB3 := Lib.hid (bl_trans HB2.out hb3)
  have HBX := Lib.hid (Boxed.of hb3)
  have HTR := Lib.hid hrow
  have HOWN := Lib.hid hown
  clear hb3 hrow hv hown
  go_wp2_with fail
  all_goals
    go_ret
    exact ⟨rfl, HB3.out⟩
set_option maxRecDepth 100000 in
set_option maxHeartbeats 4000000 in
/-- Where the source is no row of tokens. -/
theorem fails_scan (s : ByteArray) (w : World) (hs : s.size ≤ maxLen) (hw : Std w) {E P : Nat} {l : List L.Tok} (hE : E = 2 ∨ E = 8) (hp : parseS s.data.toList = (Tr.zero, E, P)) (hsc : scanR s.data.toList = (l, E, P)) (hl : s.size ≤ 2000) :
    Calls Tryz.prog 5 #[.string s] w fun e w' => e = .returned (.bool true) ∧ Below w.heap.size w w' := by
  have PC := Lib.hid (pcz_of hp hs)
  have SC := Lib.hid (scs_of hsc hs)
  have hl2 : ¬ (2000 : Int) < (s.size : Nat) := by omega
  unfold maxLen at hs
  clear hp hsc
  rcases hE with rfl | rfl
  all_goals
    have SM := Lib.hid small_any
    have HW := Lib.hid hw
    clear hw
    go_enter Tryz.func5, Tryz.ntmps5
    go_wp2_with fail
    refine (SM.out w HW.out).mono ?_
    rintro e w1 ⟨rfl, hb1⟩
    have HB1 := Lib.hid hb1
    clear hb1
    go_wp2_with fail
    refine (PC.out w1 (HW.out.below HB1.out)).mono ?_
    rintro e w2 ⟨o1, c1, d1, rfl, hr2, hb2⟩
    have HR2 := Lib.hid hr2
    have HB12 := Lib.hid (bl_trans HB1.out hb2)
    have HB2 := Lib.hid (bl_trans HB1.out (bl_trans hb2 ((Below.refl w2.heap.size w2).alloc (Nat.le_refl _) (.cells #[.int .i64 0, .string ⟨#[]⟩, .int .i64 0, .int .i64 0, .int .i64 0, .slice o1 0 c1] 26))))
    clear hb2 hr2
    go_wp2_with fail
    refine (SC.out _).mono ?_
    rintro e w3 ⟨v, o, c, hv, rfl, hown, hrow, hb3⟩
    have HB3 := Lib.hid (bl_trans HB2.out hb3)
    have HBX := Lib.hid (Boxed.of hb3)
    have HTR := Lib.hid hrow
    have HOWN := Lib.hid hown
    clear hb3 hrow hv hown
    obtain ⟨q0, q1, q2, q3, q4, q5⟩ := cells6 HBX.out.row
    have SC2 := Lib.hid fun (W : World) (hW : Below w3.heap.size w3 W) => same_any d1 1 W w2.heap.size _ _ Tr.zero Tr.zero (HR2.out.kept ((HBX.out.all.trans (hW.mono (Nat.le_of_lt HBX.out.size))))) (zero_rd W _) (Nat.le_trans (Nat.le_of_lt HBX.out.size) hW.size)
    have HSZ : Hid (w2.heap.size < w3.heap.size) := Lib.hid HBX.out.size
    go_wp2_with fail
    refine (SC2.out w3 (Below.refl _ _)).mono ?_
    rintro e w4 ⟨rfl, hb4⟩
    obtain ⟨r0, r1, r2, r3, r4, r5⟩ := cells6 ((hb4.block _ HSZ.out).trans HBX.out.row)
    have HTR4 := Lib.hid (HTR.out.kept hb4)
    have HB4 := Lib.hid (bl_trans HB3.out hb4)
    clear hb4
    rw [show Tr.sameB Tr.zero Tr.zero = true by kernel_rfl]
    go_wp2_with fail
    go_ret
    exact ⟨rfl, HB4.out⟩
set_option maxRecDepth 100000 in
set_option maxHeartbeats 4000000 in
/-- Where an error is not one of form. -/
theorem fails_other (s : ByteArray) (w : World) (hs : s.size ≤ maxLen) (hw : Std w) {E P : Nat} {l : List L.Tok} (hE : E = 7 ∨ E = 8) (hp : parseS s.data.toList = (Tr.zero, E, P)) (hsc : scanR s.data.toList = (l, 0, 0)) (hl : s.size ≤ 2000) (hll : l.length ≤ 70000) (htk : ∃ i, ∃ h : i < l.length, l[i].pos = P) :
    Calls Tryz.prog 5 #[.string s] w fun e w' => e = .returned (.bool true) ∧ Below w.heap.size w w' := by
  have PC := Lib.hid (pcz_of hp hs)
  have SC := Lib.hid (scs_of hsc hs)
  have hl2 : ¬ (2000 : Int) < (s.size : Nat) := by omega
  have HTK := Lib.hid htk
  have HLL := Lib.hid hll
  unfold maxLen at hs
  clear hp hsc htk hll
  rcases hE with rfl | rfl
  all_goals
    have SM := Lib.hid small_any
    have HW := Lib.hid hw
    clear hw
    go_enter Tryz.func5, Tryz.ntmps5
    go_wp2_with fail
    refine (SM.out w HW.out).mono ?_
    rintro e w1 ⟨rfl, hb1⟩
    have HB1 := Lib.hid hb1
    clear hb1
    go_wp2_with fail
    refine (PC.out w1 (HW.out.below HB1.out)).mono ?_
    rintro e w2 ⟨o1, c1, d1, rfl, hr2, hb2⟩
    have HR2 := Lib.hid hr2
    have HB12 := Lib.hid (bl_trans HB1.out hb2)
    have HB2 := Lib.hid (bl_trans HB1.out (bl_trans hb2 ((Below.refl w2.heap.size w2).alloc (Nat.le_refl _) (.cells #[.int .i64 0, .string ⟨#[]⟩, .int .i64 0, .int .i64 0, .int .i64 0, .slice o1 0 c1] 26))))
    clear hb2 hr2
    go_wp2_with fail
    refine (SC.out _).mono ?_
    rintro e w3 ⟨v, o, c, hv, rfl, hown, hrow, hb3⟩
    have HB3 := Lib.hid (bl_trans HB2.out hb3)
    have HBX := Lib.hid (Boxed.of hb3)
    have HTR := Lib.hid hrow
    have HOWN := Lib.hid hown
    clear hb3 hrow hv hown
    obtain ⟨q0, q1, q2, q3, q4, q5⟩ := cells6 HBX.out.row
    have SC2 := Lib.hid fun (W : World) (hW : Below w3.heap.size w3 W) => same_any d1 1 W w2.heap.size _ _ Tr.zero Tr.zero (HR2.out.kept ((HBX.out.all.trans (hW.mono (Nat.le_of_lt HBX.out.size))))) (zero_rd W _) (Nat.le_trans (Nat.le_of_lt HBX.out.size) hW.size)
    have HSZ : Hid (w2.heap.size < w3.heap.size) := Lib.hid HBX.out.size
    go_wp2_with fail
    refine (SC2.out w3 (Below.refl _ _)).mono ?_
    rintro e w4 ⟨rfl, hb4⟩
    obtain ⟨r0, r1, r2, r3, r4, r5⟩ := cells6 ((hb4.block _ HSZ.out).trans HBX.out.row)
    have HTR4 := Lib.hid (HTR.out.kept hb4)
    have HB4 := Lib.hid (bl_trans HB3.out hb4)
    clear hb4
    rw [show Tr.sameB Tr.zero Tr.zero = true by kernel_rfl]
    clear q0 q1 q2 q3 q4 q5
    go_wp2_with fail
    clear r0 r1 r2 r3 r4 r5
    go_loop [10, 11] (fun t10 t11 => ∃ (b : Bool) (k : Nat), t10 = .bool b ∧ t11 = .int .i64 k ∧ Hid (k ≤ l.length) ∧ Hid (b = (l.take k).any fun t => t.pos == P)) (fun _ t11 => l.length - (intOf t11).toNat)
    case atStart => exact ⟨false, 0, rfl, rfl, Lib.hid (Nat.zero_le _), Lib.hid (by simp)⟩
    case round =>
      obtain ⟨b, k, rfl, rfl, hkl, hb⟩ := hrel
      rcases Nat.lt_or_ge k l.length with hlt | hge
      · obtain ⟨tb, e1, htb, t0, t1, t2⟩ := HTR4.out k hlt
        have hst := any_take (fun t : L.Tok => t.pos == P) l k hlt
        rw [← hb.out] at hst
        have i0 : (0 : Int) ≤ (k : Nat) := by omega
        have i1 : ((k : Nat) : Int) < (l.length : Nat) := by omega
        have hlm : (l.length : Int) ≤ 70000 := by have := HLL.out; omega
        subst e1
        cases b with
        | true =>
          have HST := Lib.hid hst
          clear hst
          go_wp2_with fail
          go_round
          case rel => exact ⟨true, k + 1, rfl, by go_num, Lib.hid hlt, Lib.hid (by rw [HST.out]; rfl)⟩
          case measure => simp [intOf]; omega
        | false =>
          by_cases hpp : l[k].pos = P
          · have HST := Lib.hid hst
            rw [hpp] at t2
            have HPP := Lib.hid hpp
            clear hst hpp
            go_wp2_with fail
            go_round
            case rel => exact ⟨true, k + 1, rfl, by go_num, Lib.hid hlt, Lib.hid (by rw [HST.out, HPP.out]; simp)⟩
            case measure => simp [intOf]; omega
          · have HST := Lib.hid hst
            have hpp2 : (((l[k].pos : Nat) : Int) == ((P : Nat) : Int)) = false := by simp; omega
            have HPP := Lib.hid hpp
            clear hst hpp
            go_wp2_with fail
            go_round
            case rel => exact ⟨false, k + 1, rfl, by go_num, Lib.hid hlt, Lib.hid (by rw [HST.out]; simp [HPP.out])⟩
            case measure => simp [intOf]; omega
      · have hke : k = l.length := Nat.le_antisymm hkl.out hge
        have hbt : b = true := by
          rw [hb.out, hke, List.take_length, List.any_eq_true]
          obtain ⟨i, hi, hp⟩ := HTK.out
          exact ⟨l[i], List.getElem_mem hi, by simpa using hp⟩
        have i1 : ¬ ((k : Nat) : Int) < (l.length : Nat) := by omega
        subst hbt
        clear hke
        go_wp2_with fail
        go_ret
        exact ⟨rfl, HB4.out⟩
set_option maxRecDepth 100000 in
set_option maxHeartbeats 4000000 in
/-- Where an error is one of form. -/
theorem fails_form (s : ByteArray) (w : World) (hs : s.size ≤ maxLen) (hw : Std w) {P E2 P2 : Nat} {n2 : Tr.Tree} {l : List L.Tok} (hp : parseS s.data.toList = (Tr.zero, 2, P)) (hsc : scanR s.data.toList = (l, 0, 0)) (hl : s.size ≤ 2000) (hll : l.length ≤ 70000) (htk : ∃ i, ∃ h : i < l.length, l[i].pos = P) (hP : P ≤ s.size) (hp2 : parseS (s.data.toList.take P) = (n2, E2, P2)) (hcut : E2 = 0 ∨ E2 = 2 ∧ P2 = P) :
    Calls Tryz.prog 5 #[.string s] w fun e w' => e = .returned (.bool true) ∧ Below w.heap.size w w' := by
  have PC := Lib.hid (pcz_of hp hs)
  have SC := Lib.hid (scs_of hsc hs)
  have hl2 : ¬ (2000 : Int) < (s.size : Nat) := by omega
  have HTK := Lib.hid htk
  have HLL := Lib.hid hll
  have p0 : (0 : Int) ≤ (P : Nat) := by omega
  have p1 : ((P : Nat) : Int) ≤ (s.size : Nat) := by omega
  have PC2 : Hid (∀ w, Std w → Calls Tryz.prog 12 #[.string (s.extract 0 P)] w fun e w' => ∃ o c d, e = .returned (.tuple #[.agg #[.int .i64 n2.kind, .string ⟨n2.text.toArray⟩, .int .i64 n2.num, .int .i64 n2.dim, .int .i64 n2.pos, .slice o n2.kids.length c], .int .i64 (E2 : Nat), .int .i64 (P2 : Nat)]) ∧
      NodeRd w' w'.heap.size d (.agg #[.int .i64 n2.kind, .string ⟨n2.text.toArray⟩, .int .i64 n2.num, .int .i64 n2.dim, .int .i64 n2.pos, .slice o n2.kids.length c]) n2 ∧ Below w.heap.size w w') := Lib.hid (pcs_of (s := s.extract 0 P) (by rw [L.ba_take]; exact hp2) (by rw [L.ba_take, L.ba_size]; have h1 : (s.data.toList.take P).length ≤ P := List.length_take_le _ _; unfold maxLen; omega))
  unfold maxLen at hs
  clear hp hsc htk hll hp2
  rcases (show E2 = 0 ∨ E2 = 2 ∧ P = P2 by omega) with rfl | ⟨rfl, rfl⟩
  all_goals
    have SM := Lib.hid small_any
    have HW := Lib.hid hw
    clear hw
    go_enter Tryz.func5, Tryz.ntmps5
    go_wp2_with fail
    refine (SM.out w HW.out).mono ?_
    rintro e w1 ⟨rfl, hb1⟩
    have HB1 := Lib.hid hb1
    clear hb1
    go_wp2_with fail
    refine (PC.out w1 (HW.out.below HB1.out)).mono ?_
    rintro e w2 ⟨o1, c1, d1, rfl, hr2, hb2⟩
    have HR2 := Lib.hid hr2
    have HB12 := Lib.hid (bl_trans HB1.out hb2)
    have HB2 := Lib.hid (bl_trans HB1.out (bl_trans hb2 ((Below.refl w2.heap.size w2).alloc (Nat.le_refl _) (.cells #[.int .i64 0, .string ⟨#[]⟩, .int .i64 0, .int .i64 0, .int .i64 0, .slice o1 0 c1] 26))))
    clear hb2 hr2
    go_wp2_with fail
    refine (SC.out _).mono ?_
    rintro e w3 ⟨v, o, c, hv, rfl, hown, hrow, hb3⟩
    have HB3 := Lib.hid (bl_trans HB2.out hb3)
    have HBX := Lib.hid (Boxed.of hb3)
    have HTR := Lib.hid hrow
    have HOWN := Lib.hid hown
    clear hb3 hrow hv hown
    obtain ⟨q0, q1, q2, q3, q4, q5⟩ := cells6 HBX.out.row
    have SC2 := Lib.hid fun (W : World) (hW : Below w3.heap.size w3 W) => same_any d1 1 W w2.heap.size _ _ Tr.zero Tr.zero (HR2.out.kept ((HBX.out.all.trans (hW.mono (Nat.le_of_lt HBX.out.size))))) (zero_rd W _) (Nat.le_trans (Nat.le_of_lt HBX.out.size) hW.size)
    have HSZ : Hid (w2.heap.size < w3.heap.size) := Lib.hid HBX.out.size
    go_wp2_with fail
    refine (SC2.out w3 (Below.refl _ _)).mono ?_
    rintro e w4 ⟨rfl, hb4⟩
    obtain ⟨r0, r1, r2, r3, r4, r5⟩ := cells6 ((hb4.block _ HSZ.out).trans HBX.out.row)
    have HTR4 := Lib.hid (HTR.out.kept hb4)
    have HB4 := Lib.hid (bl_trans HB3.out hb4)
    clear hb4
    rw [show Tr.sameB Tr.zero Tr.zero = true by kernel_rfl]
    clear q0 q1 q2 q3 q4 q5
    go_wp2_with fail
    clear r0 r1 r2 r3 r4 r5
    go_loop [10, 11] (fun t10 t11 => ∃ (b : Bool) (k : Nat), t10 = .bool b ∧ t11 = .int .i64 k ∧ Hid (k ≤ l.length) ∧ Hid (b = (l.take k).any fun t => t.pos == P)) (fun _ t11 => l.length - (intOf t11).toNat)
    case atStart => exact ⟨false, 0, rfl, rfl, Lib.hid (Nat.zero_le _), Lib.hid (by simp)⟩
    case round =>
      obtain ⟨b, k, rfl, rfl, hkl, hb⟩ := hrel
      rcases Nat.lt_or_ge k l.length with hlt | hge
      · obtain ⟨tb, e1, htb, t0, t1, t2⟩ := HTR4.out k hlt
        have hst := any_take (fun t : L.Tok => t.pos == P) l k hlt
        rw [← hb.out] at hst
        have i0 : (0 : Int) ≤ (k : Nat) := by omega
        have i1 : ((k : Nat) : Int) < (l.length : Nat) := by omega
        have hlm : (l.length : Int) ≤ 70000 := by have := HLL.out; omega
        subst e1
        cases b with
        | true =>
          have HST := Lib.hid hst
          clear hst
          go_wp2_with fail
          go_round
          case rel => exact ⟨true, k + 1, rfl, by go_num, Lib.hid hlt, Lib.hid (by rw [HST.out]; rfl)⟩
          case measure => simp [intOf]; omega
        | false =>
          by_cases hpp : l[k].pos = P
          · have HST := Lib.hid hst
            rw [hpp] at t2
            have HPP := Lib.hid hpp
            clear hst hpp
            go_wp2_with fail
            go_round
            case rel => exact ⟨true, k + 1, rfl, by go_num, Lib.hid hlt, Lib.hid (by rw [HST.out, HPP.out]; simp)⟩
            case measure => simp [intOf]; omega
          · have HST := Lib.hid hst
            have hpp2 : (((l[k].pos : Nat) : Int) == ((P : Nat) : Int)) = false := by simp; omega
            have HPP := Lib.hid hpp
            clear hst hpp
            go_wp2_with fail
            go_round
            case rel => exact ⟨false, k + 1, rfl, by go_num, Lib.hid hlt, Lib.hid (by rw [HST.out]; simp [HPP.out])⟩
            case measure => simp [intOf]; omega
      · have hke : k = l.length := Nat.le_antisymm hkl.out hge
        have hbt : b = true := by
          rw [hb.out, hke, List.take_length, List.any_eq_true]
          obtain ⟨i, hi, hp⟩ := HTK.out
          exact ⟨l[i], List.getElem_mem hi, by simpa using hp⟩
        have i1 : ¬ ((k : Nat) : Int) < (l.length : Nat) := by omega
        subst hbt
        clear hke
        go_wp2_with fail
        refine (PC2.out _ (HW.out.below HB4.out)).mono ?_
        rintro e w5 ⟨o5, c5, d5, rfl, _, hb5⟩
        have HB5 := Lib.hid (bl_trans HB4.out (bl_trans hb5 ((Below.refl w5.heap.size w5).alloc (Nat.le_refl _) (.cells #[.int .i64 n2.kind, .string ⟨n2.text.toArray⟩, .int .i64 n2.num, .int .i64 n2.dim, .int .i64 n2.pos, .slice o5 n2.kids.length c5] 26))))
        clear hb5
        go_wp2_with fail
        go_ret
        exact ⟨rfl, HB5.out⟩

theorem fails_any (s : ByteArray) (w : World) (hs : s.size ≤ maxLen) (hw : Std w) : Calls Tryz.prog 5 #[.string s] w fun e w' => e = .returned (.bool true) ∧ Below w.heap.size w w' := by
  have hsz : s.data.toList.length = s.size := rfl
  by_cases h0 : (parseS s.data.toList).2.1 = 0
  · exact fails_ok s w hs hw h0
  · obtain ⟨hz, hE, hT⟩ := parseS_no h0
    have hp : parseS s.data.toList = (Tr.zero, (parseS s.data.toList).2.1, (parseS s.data.toList).2.2) := Prod.ext hz rfl
    rcases Nat.lt_or_ge 2000 s.size with hl | hl
    · exact fails_long s w hs hw hp (l := (scanR s.data.toList).1) (F := (scanR s.data.toList).2.1) (Q := (scanR s.data.toList).2.2) rfl hl
    · by_cases hsc : (scanR s.data.toList).2.1 = 0
      · have hok := scanR_ok hsc
        have hfa := scanR_facts hsc
        have hs2 : scanR s.data.toList = ((scanR s.data.toList).1, 0, 0) := Prod.ext rfl (Prod.ext hsc hok.2.2.2)
        have htk := hT hsc
        by_cases h2 : (parseS s.data.toList).2.1 = 2
        · obtain ⟨hP, hcut⟩ := parseS_cut hsc h2
          rw [h2] at hp
          exact fails_form s w hs hw hp hs2 hl hfa.2.1 htk (by omega) (n2 := (parseS (s.data.toList.take (parseS s.data.toList).2.2)).1) (E2 := (parseS (s.data.toList.take (parseS s.data.toList).2.2)).2.1) (P2 := (parseS (s.data.toList.take (parseS s.data.toList).2.2)).2.2) rfl hcut
        · exact fails_other s w hs hw (by omega) hp hs2 hl hfa.2.1 htk
      · have hb := parseS_bad hsc
        have hse := scanR_err s.data.toList
        exact fails_scan s w hs hw (l := (scanR s.data.toList).1) (by omega) hb rfl hl
end Go.Proofs.YtooajmbpncmgjaaGreatDoor
