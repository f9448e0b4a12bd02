/- Layer 15's right trees: properties. -/
import Derived.Test.YtooajmbpncmgjaaGreatDoorNodeC
namespace Go.Proofs.YtooajmbpncmgjaaGreatDoor
open Go.RowKit

namespace Tr
/-- A number without unit, and a unit's name behind it. -/
def pairB (p k : Tree) : Bool := k.kind == 3 && (known k.text && (p.kind == 5 && p.dim == 0))
def stepB (l : List Tree) (i : Nat) : Bool :=
  match l[i]? with
  | none => true
  | some k => valueB 40 k && (i == 0 || !(match l[i - 1]? with | none => false | some p => pairB p k))
def propB (t : Tree) : Bool := t.kind == 2 && (plainB t && (oneB t.text 0 && (List.range t.kids.length).all (stepB t.kids)))
end Tr

theorem range_take (f : Nat → Bool) (k : Nat) (h : (List.range k).all f = true) (hf : f k = true) : (List.range (k + 1)).all f = true := by
  rw [List.range_succ, List.all_append, h]
  simp [hf]
theorem range_stop (f : Nat → Bool) (n k : Nat) (hk : k < n) (hf : f k = false) : (List.range n).all f = false := by
  rw [List.all_eq_false]
  exact ⟨k, List.mem_range.2 hk, by simp [hf]⟩

set_option maxRecDepth 100000 in
set_option maxHeartbeats 8000000 in
theorem rprop_good {w : World} {lim d : Nat} {v : Value} {t : Tr.Tree} (h : NodeRd w lim d v t) (hl : lim ≤ w.heap.size) (hs : Std w) (hk2 : t.kind = 2) (hp : Tr.plainB t = true) (ho : Tr.oneB t.text 0 = true) :
    Calls Tryz.prog 36 #[v] w fun e w' => e = .returned (.bool ((List.range t.kids.length).all (Tr.stepB t.kids))) ∧ Below w.heap.size w w' := by
  obtain ⟨o, c, rfl, hm, htx⟩ := h.look
  unfold maxLen at hm
  have hp1 := plain_any (h.kept (w' := w.alloc (.cells #[.int .i64 t.kind, .string ⟨t.text.toArray⟩, .int .i64 t.num, .int .i64 t.dim, .int .i64 t.pos, .slice o t.kids.length c] 26)) ((Below.refl _ _).alloc hl _))
  rw [hp] at hp1
  have PL := Lib.hid hp1
  have ho1 := fun w : World => one_any ⟨t.text.toArray⟩ 0 w (by show t.text.length ≤ _; omega)
  rw [show Tr.oneB (⟨t.text.toArray⟩ : ByteArray).data.toList 0 = true from ho] at ho1
  have ON := Lib.hid ho1
  have H := Lib.hid h
  have HSTD := Lib.hid hs
  rw [hk2] at PL
  clear h hp1 ho1 hs
  go_enter Tryz.func36, Tryz.ntmps36
  go_wp2_with fail
  refine PL.out.mono ?_
  rintro e w1 ⟨rfl, hb1⟩
  have hbx := Boxed.of hb1
  obtain ⟨b0, b1, b2, b3, b4, b5⟩ := cells6 hbx.row
  have HBX := Lib.hid hbx
  clear hb1 hbx
  go_wp2_with fail
  refine (ON.out _).mono ?_
  rintro e w2 ⟨rfl, hb2⟩
  have hbx := HBX.out.below hb2
  obtain ⟨b0, b1, b2, b3, b4, b5⟩ := cells6 hbx.row
  have HBX2 := Lib.hid hbx
  clear hb2 hbx HBX
  go_wp2_with fail
  clear b0 b1 b2 b3 b4 b5
  go_loopw [22] (fun t22 wr => ∃ k : Nat, t22 = .int .i64 k ∧ Hid (k ≤ t.kids.length) ∧ Hid (Boxed w wr (.cells #[.int .i64 2, .string ⟨t.text.toArray⟩, .int .i64 t.num, .int .i64 t.dim, .int .i64 t.pos, .slice o t.kids.length c] 26)) ∧ Hid ((List.range k).all (Tr.stepB t.kids) = true)) (fun t22 _ => t.kids.length - (intOf t22).toNat)
  case atStart => exact ⟨0, rfl, Lib.hid (Nat.zero_le _), HBX2.out, Lib.hid (by simp)⟩
  case round =>
    obtain ⟨k, rfl, hkl, hbx, hall⟩ := hrel
    rcases Nat.lt_or_ge k t.kids.length with hlt | hge
    · obtain ⟨a, o', c', rfl, hkid⟩ := (H.out.kept (hbx.out.all.mono hl)).kid k hlt
      obtain ⟨krd, ka, k0, k1, k2, k3, k4, k5⟩ := hkid
      have i0 : (0 : Int) ≤ (k : Nat) := by omega
      have i1 : ((k : Nat) : Int) < (t.kids.length : Nat) := by omega
      have hls : lim ≤ wr.heap.size := Nat.le_trans hl (Nat.le_of_lt hbx.out.size)
      have VC := Lib.hid (rvalue_any 40 0 _ _ lim _ _ rfl (krd.kept (w' := wr.alloc (.cells #[.int .i64 t.kids[k].kind, .string ⟨t.kids[k].text.toArray⟩, .int .i64 t.kids[k].num, .int .i64 t.kids[k].dim, .int .i64 t.kids[k].pos, .slice o' t.kids[k].kids.length c'] 26)) ((Below.refl _ _).alloc hls _)) (by rw [World.size_alloc]; omega))
      have hkx := krd.look
      obtain ⟨_, _, _, _, hktx⟩ := hkx
      have hstep : Tr.stepB t.kids k = (Tr.valueB 40 t.kids[k] && (k == 0 || !(match t.kids[k - 1]? with | none => false | some p => Tr.pairB p t.kids[k]))) := by unfold Tr.stepB; rw [List.getElem?_eq_getElem hlt]
      have HSTEP := Lib.hid hstep
      clear krd hstep
      go_wp2_with fail
      refine VC.out.mono ?_
      rintro e w2 ⟨rfl, hb2⟩
      have hbk := Boxed.of hb2
      have hbx2 := hbx.out.below hbk.all
      obtain ⟨q0, q1, q2, q3, q4, q5⟩ := cells6 hbk.row
      obtain ⟨b0, b1, b2, b3, b4, b5⟩ := cells6 hbx2.row
      have HBX2 := Lib.hid hbx2
      have HSTD2 := Lib.hid (HSTD.out.below hbx2.all)
      clear hb2 hbx2 hbk
      cases hv : Tr.valueB 40 t.kids[k]
      · have HS := Lib.hid (range_stop (Tr.stepB t.kids) t.kids.length k hlt (by rw [HSTEP.out, hv]; rfl))
        clear hv
        go_wp2_with fail
        go_ret
        exact ⟨tret_bool (by rw [HS.out]), HBX2.out.all⟩
      · have hst := HSTEP.out
        rw [hv, Bool.true_and] at hst
        clear hv HSTEP
        cases k with
        | zero =>
          have HS := Lib.hid (range_take (Tr.stepB t.kids) 0 hall.out hst)
          clear hst
          go_wp2_with fail
          exact ⟨⟨1, rfl, Lib.hid hlt, HBX2, HS⟩, by simp [intOf]; omega⟩
        | succ j =>
          have hlt2 : j < t.kids.length := by omega
          have i3 : (0 : Int) ≤ (j : Nat) := by omega
          have i4 : ((j : Nat) : Int) < (t.kids.length : Nat) := by omega
          rw [show (j + 1 == 0) = false from rfl, Bool.false_or, Nat.add_sub_cancel, List.getElem?_eq_getElem hlt2] at hst
          dsimp only at hst
          have HST := Lib.hid hst
          clear hst
          by_cases h3 : t.kids[j + 1].kind = 3
          · have KN := Lib.hid (known_any ⟨t.kids[j + 1].text.toArray⟩ _ HSTD2.out)
            have h3b : (t.kids[j + 1].kind == 3) = true := by simpa using h3
            have hst := HST.out
            unfold Tr.pairB at hst
            rw [h3b, Bool.true_and] at hst
            have HST := Lib.hid hst
            clear hst h3b
            go_wp2_with fail
            refine KN.out.mono ?_
            rintro e w3 ⟨rfl, hb3⟩
            have hbx3 := HBX2.out.below hb3
            clear q0 q1 q2 q3 q4 q5 b0 b1 b2 b3 b4 b5
            obtain ⟨b0, b1, b2, b3, b4, b5⟩ := cells6 hbx3.row
            obtain ⟨a2, o2, c2, e2, hkid2⟩ := (H.out.kept (hbx3.all.mono hl)).kid j hlt2
            obtain rfl : a = a2 := by injection e2
            obtain ⟨_, _, p0, p1, p2, p3, p4, p5⟩ := hkid2
            have HBX3 := Lib.hid hbx3
            clear hb3 hbx3
            cases hkn : Tr.known t.kids[j + 1].text
            · have HS := Lib.hid (range_take (Tr.stepB t.kids) (j + 1) hall.out (by rw [HST.out, hkn]; rfl))
              clear hkn
              go_wp2_with fail
              exact ⟨⟨j + 1 + 1, by go_num, Lib.hid hlt, HBX3, HS⟩, by simp [intOf]; omega⟩
            · have hst := HST.out
              rw [hkn, Bool.true_and] at hst
              clear hkn
              by_cases h5 : t.kids[j].kind = 5
              · by_cases h6 : t.kids[j].dim = 0
                · have HS := Lib.hid (range_stop (Tr.stepB t.kids) t.kids.length (j + 1) hlt (by rw [hst, h5, h6]; rfl))
                  clear hst
                  go_wp2_with fail
                  go_ret
                  exact ⟨tret_bool (by rw [HS.out]), HBX3.out.all⟩
                · have HS := Lib.hid (range_take (Tr.stepB t.kids) (j + 1) hall.out (by rw [hst, show (t.kids[j].dim == 0) = false by simpa using h6, Bool.and_false]; rfl))
                  clear hst
                  go_wp2_with fail
                  exact ⟨⟨j + 1 + 1, by go_num, Lib.hid hlt, HBX3, HS⟩, by simp [intOf]; omega⟩
              · have HS := Lib.hid (range_take (Tr.stepB t.kids) (j + 1) hall.out (by rw [hst, show (t.kids[j].kind == 5) = false by simpa using h5]; rfl))
                clear hst
                go_wp2_with fail
                exact ⟨⟨j + 1 + 1, by go_num, Lib.hid hlt, HBX3, HS⟩, by simp [intOf]; omega⟩
          · have HS := Lib.hid (range_take (Tr.stepB t.kids) (j + 1) hall.out (by rw [HST.out]; unfold Tr.pairB; rw [show (t.kids[j + 1].kind == 3) = false by simpa using h3]; rfl))
            go_wp2_with fail
            exact ⟨⟨j + 1 + 1, by go_num, Lib.hid hlt, HBX2, HS⟩, by simp [intOf]; omega⟩
    · have i1 : ¬ ((k : Nat) : Int) < (t.kids.length : Nat) := by omega
      have HB := Lib.hid hbx.out.all
      have HA : Hid ((List.range t.kids.length).all (Tr.stepB t.kids) = true) := Lib.hid (by have h1 := hall.out; rwa [show k = t.kids.length from Nat.le_antisymm hkl.out hge] at h1)
      go_wp2_with fail
      go_ret
      exact ⟨tret_bool (by rw [HA.out]), HB.out⟩

set_option maxRecDepth 100000 in
set_option maxHeartbeats 4000000 in
theorem rprop_any {w : World} {lim d : Nat} {v : Value} {t : Tr.Tree} (h : NodeRd w lim d v t) (hl : lim ≤ w.heap.size) (hs : Std w) :
    Calls Tryz.prog 36 #[v] w fun e w' => e = .returned (.bool (Tr.propB t)) ∧ Below w.heap.size w w' := by
  have hx := h
  obtain ⟨o, c, rfl, hm, htx⟩ := h.look
  have PL := Lib.hid (plain_any (h.kept (w' := w.alloc (.cells #[.int .i64 t.kind, .string ⟨t.text.toArray⟩, .int .i64 t.num, .int .i64 t.dim, .int .i64 t.pos, .slice o t.kids.length c] 26)) ((Below.refl _ _).alloc hl _)))
  have ON := Lib.hid fun w : World => one_any ⟨t.text.toArray⟩ 0 w (by show t.text.length ≤ _; omega)
  unfold Tr.propB
  by_cases hk2 : t.kind = 2
  · rw [show (t.kind == 2) = true by simpa using hk2, Bool.true_and]
    cases hp : Tr.plainB t with
    | false =>
      rw [hp, hk2] at PL
      clear h hx hs
      go_enter Tryz.func36, Tryz.ntmps36
      go_wp2_with fail
      refine PL.out.mono ?_
      rintro e w1 ⟨rfl, hb1⟩
      have HB := Lib.hid (Boxed.of hb1).all
      clear hb1
      go_wp2_with fail
      go_ret
      exact ⟨tret_bool rfl, HB.out⟩
    | true =>
      rw [Bool.true_and]
      cases ho : Tr.oneB t.text 0 with
      | true => rw [Bool.true_and]; exact rprop_good hx hl hs hk2 hp ho
      | false =>
        rw [hp, hk2] at PL
        rw [show (⟨t.text.toArray⟩ : ByteArray).data.toList = t.text from rfl, ho] at ON
        clear h hx hs
        go_enter Tryz.func36, Tryz.ntmps36
        go_wp2_with fail
        refine PL.out.mono ?_
        rintro e w1 ⟨rfl, hb1⟩
        have hbx := Boxed.of hb1
        obtain ⟨b0, b1, b2, b3, b4, b5⟩ := cells6 hbx.row
        have HBX := Lib.hid hbx
        clear hb1 hbx
        go_wp2_with fail
        refine (ON.out _).mono ?_
        rintro e w2 ⟨rfl, hb2⟩
        have HB := Lib.hid (HBX.out.below hb2).all
        clear hb2
        go_wp2_with fail
        go_ret
        exact ⟨tret_bool rfl, HB.out⟩
  · rw [show (t.kind == 2) = false by simpa using hk2, Bool.false_and]
    clear h hx hs
    go_enter Tryz.func36, Tryz.ntmps36
    go_wp2_with fail
    go_ret
    exact ⟨tret_bool rfl, (Below.refl _ _).alloc (Nat.le_refl _) _⟩
end Go.Proofs.YtooajmbpncmgjaaGreatDoor
