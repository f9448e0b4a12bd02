/- Layer 15's right trees: declarations, files. -/
import Derived.Test.YtooajmbpncmgjaaGreatDoorNodeD
namespace Go.Proofs.YtooajmbpncmgjaaGreatDoor
open Go.RowKit

namespace Tr
def wordB (t : Tree) : Bool := t.kind == 3 || t.kind == 4
/-- The first k kids are right: words, then properties; words: no property has been met. -/
def wordsTo (l : List Tree) (k : Nat) : Bool := (l.take k).all wordB
def stepD (l : List Tree) (i : Nat) : Bool :=
  match l[i]? with
  | none => true
  | some k => if wordsTo l (i + 1) then valueB 40 k else propB k
def declB (t : Tree) : Bool := t.kind == 1 && (plainB t && (oneB t.text 0 && (List.range t.kids.length).all (stepD t.kids)))
def rightB (t : Tree) : Bool := t.kind == 0 && (plainB t && t.kids.all declB)
end Tr

theorem wordsTo_succ (l : List Tr.Tree) (k : Nat) (h : k < l.length) : Tr.wordsTo l (k + 1) = (Tr.wordsTo l k && Tr.wordB l[k]) := by
  unfold Tr.wordsTo
  rw [List.take_succ_eq_append_getElem h, List.all_append]
  simp

set_option maxRecDepth 100000 in
set_option maxHeartbeats 2000000 in
theorem rdecl_good {w : World} {lim d : Nat} {v : Value} {t : Tr.Tree} (h : NodeRd w lim d v t) (hl : lim ≤ w.heap.size) (hs : Std w) (hk2 : t.kind = 1) (hp : Tr.plainB t = true) (ho : Tr.oneB t.text 0 = true) :
    Calls Tryz.prog 22 #[v] w fun e w' => e = .returned (.bool ((List.range t.kids.length).all (Tr.stepD t.kids))) ∧ Below w.heap.size w w' := by
  obtain ⟨o, c, rfl, hm, htx⟩ := h.look
  unfold maxLen at hm
  have hp1 := plain_any (h.kept (w' := w.alloc (.cells #[.int .i64 t.kind, .string ⟨t.text.toArray⟩, .int .i64 t.num, .int .i64 t.dim, .int .i64 t.pos, .slice o t.kids.length c] 26)) ((Below.refl _ _).alloc hl _))
  rw [hp] at hp1
  have PL := Lib.hid hp1
  have ho1 := fun w : World => one_any ⟨t.text.toArray⟩ 0 w (by show t.text.length ≤ _; omega)
  rw [show Tr.oneB (⟨t.text.toArray⟩ : ByteArray).data.toList 0 = true from ho] at ho1
  have ON := Lib.hid ho1
  have H := Lib.hid h
  have HSTD := Lib.hid hs
  rw [hk2] at PL
  clear h hp1 ho1 hs
  go_enter Tryz.func22, Tryz.ntmps22
  go_wp2_with fail
  refine PL.out.mono ?_
  rintro e w1 ⟨rfl, hb1⟩
  have hbx := Boxed.of hb1
  obtain ⟨b0, b1, b2, b3, b4, b5⟩ := cells6 hbx.row
  have HBX := Lib.hid hbx
  clear hb1 hbx
  go_wp2_with fail
  refine (ON.out _).mono ?_
  rintro e w2 ⟨rfl, hb2⟩
  have hbx := HBX.out.below hb2
  obtain ⟨b0, b1, b2, b3, b4, b5⟩ := cells6 hbx.row
  have HBX2 := Lib.hid hbx
  clear hb2 hbx HBX
  go_wp2_with fail
  clear b0 b1 b2 b3 b4 b5
  go_loopw [3, 23] (fun t3 t23 wr => ∃ (k : Nat) (b : Bool), t23 = .int .i64 k ∧ t3 = .bool b ∧ Hid (b = Tr.wordsTo t.kids k) ∧ Hid (k ≤ t.kids.length) ∧ Hid (Boxed w wr (.cells #[.int .i64 1, .string ⟨t.text.toArray⟩, .int .i64 t.num, .int .i64 t.dim, .int .i64 t.pos, .slice o t.kids.length c] 26)) ∧ Hid ((List.range k).all (Tr.stepD t.kids) = true)) (fun _ t23 _ => t.kids.length - (intOf t23).toNat)
  case atStart => exact ⟨0, true, rfl, rfl, Lib.hid rfl, Lib.hid (Nat.zero_le _), HBX2.out, Lib.hid (by simp)⟩
  case round =>
    obtain ⟨k, b, rfl, rfl, hb, hkl, hbx, hall⟩ := hrel
    rcases Nat.lt_or_ge k t.kids.length with hlt | hge
    · obtain ⟨a, o', c', rfl, hkid⟩ := (H.out.kept (hbx.out.all.mono hl)).kid k hlt
      obtain ⟨krd, ka, k0, k1, k2, k3, k4, k5⟩ := hkid
      have i0 : (0 : Int) ≤ (k : Nat) := by omega
      have i1 : ((k : Nat) : Int) < (t.kids.length : Nat) := by omega
      have hls : lim ≤ wr.heap.size := Nat.le_trans hl (Nat.le_of_lt hbx.out.size)
      have hkd := krd.kept (w' := wr.alloc (.cells #[.int .i64 t.kids[k].kind, .string ⟨t.kids[k].text.toArray⟩, .int .i64 t.kids[k].num, .int .i64 t.kids[k].dim, .int .i64 t.kids[k].pos, .slice o' t.kids[k].kids.length c'] 26)) ((Below.refl _ _).alloc hls _)
      have hls2 : lim ≤ (wr.alloc (.cells #[.int .i64 t.kids[k].kind, .string ⟨t.kids[k].text.toArray⟩, .int .i64 t.kids[k].num, .int .i64 t.kids[k].dim, .int .i64 t.kids[k].pos, .slice o' t.kids[k].kids.length c'] 26)).heap.size := by rw [World.size_alloc]; omega
      have VC := Lib.hid (rvalue_any 40 0 _ _ lim _ _ rfl hkd hls2)
      have PC := Lib.hid (rprop_any hkd hls2 ((HSTD.out.below hbx.out.all).below ((Below.refl _ _).alloc (Nat.le_refl _) _)))
      have hstep : Tr.stepD t.kids k = (if (Tr.wordsTo t.kids k && Tr.wordB t.kids[k]) then Tr.valueB 40 t.kids[k] else Tr.propB t.kids[k]) := by unfold Tr.stepD; rw [List.getElem?_eq_getElem hlt, wordsTo_succ _ _ hlt]
      have hws := wordsTo_succ t.kids k hlt
      rw [← hb.out] at hstep hws
      have HSTEP := Lib.hid hstep
      have HWS := Lib.hid hws
      have HW : Hid (Tr.wordB t.kids[k] = (t.kids[k].kind == 3 || t.kids[k].kind == 4)) := Lib.hid rfl
      clear krd hstep hkd hws hls2
      obtain ⟨b', hb'⟩ : ∃ b', b' = (b && Tr.wordB t.kids[k]) := ⟨_, rfl⟩
      have HB' := Lib.hid hb'
      have hcase : (b = true ∧ (t.kids[k].kind = 3 ∨ t.kids[k].kind = 4) ∧ b' = true) ∨ (b = false ∧ b' = false) ∨ (b = true ∧ ¬ t.kids[k].kind = 3 ∧ ¬ t.kids[k].kind = 4 ∧ b' = false) := by
        rw [hb', HW.out]
        cases b
        · simp
        · by_cases x3 : t.kids[k].kind = 3
          · simp [x3]
          · by_cases x4 : t.kids[k].kind = 4
            · simp [x4]
            · simp [x3, x4]
      clear hb'
      rcases hcase with ⟨rfl, x3 | x4, rfl⟩ | ⟨rfl, rfl⟩ | ⟨rfl, x3, x4, rfl⟩
      · rw [x3] at VC
        have hst := HSTEP.out
        rw [← HB'.out] at hst
        rw [show (if (true : Bool) = true then Tr.valueB 40 t.kids[k] else Tr.propB t.kids[k]) = Tr.valueB 40 t.kids[k] from rfl] at hst
        have HST := Lib.hid hst
        have hw2 := HWS.out
        rw [← HB'.out] at hw2
        have HW2 := Lib.hid hw2
        clear hst hw2 HSTEP HWS HB'
        go_wp2_with fail
        refine VC.out.mono ?_
        rintro e w2 ⟨rfl, hb2⟩
        have hbx2 := hbx.out.below (((Below.refl _ _).alloc (Nat.le_refl _) _).trans (hb2.mono (by rw [World.size_alloc]; omega)))
        have HBX2 := Lib.hid hbx2
        clear hb2 hbx2
        cases hv : Tr.valueB 40 t.kids[k]
        · have HS := Lib.hid (range_stop (Tr.stepD t.kids) t.kids.length k hlt (by rw [HST.out, hv]))
          clear hv
          go_wp2_with fail
          go_ret
          exact ⟨tret_bool (by rw [HS.out]), HBX2.out.all⟩
        · have HS := Lib.hid (range_take (Tr.stepD t.kids) k hall.out (by rw [HST.out, hv]))
          clear hv
          go_wp2_with fail
          exact ⟨⟨k + 1, true, by go_num, rfl, Lib.hid HW2.out.symm, Lib.hid hlt, HBX2, HS⟩, by simp [intOf]; omega⟩
      · rw [x4] at VC
        have hst := HSTEP.out
        rw [← HB'.out] at hst
        rw [show (if (true : Bool) = true then Tr.valueB 40 t.kids[k] else Tr.propB t.kids[k]) = Tr.valueB 40 t.kids[k] from rfl] at hst
        have HST := Lib.hid hst
        have hw2 := HWS.out
        rw [← HB'.out] at hw2
        have HW2 := Lib.hid hw2
        clear hst hw2 HSTEP HWS HB'
        go_wp2_with fail
        refine VC.out.mono ?_
        rintro e w2 ⟨rfl, hb2⟩
        have hbx2 := hbx.out.below (((Below.refl _ _).alloc (Nat.le_refl _) _).trans (hb2.mono (by rw [World.size_alloc]; omega)))
        have HBX2 := Lib.hid hbx2
        clear hb2 hbx2
        cases hv : Tr.valueB 40 t.kids[k]
        · have HS := Lib.hid (range_stop (Tr.stepD t.kids) t.kids.length k hlt (by rw [HST.out, hv]))
          clear hv
          go_wp2_with fail
          go_ret
          exact ⟨tret_bool (by rw [HS.out]), HBX2.out.all⟩
        · have HS := Lib.hid (range_take (Tr.stepD t.kids) k hall.out (by rw [HST.out, hv]))
          clear hv
          go_wp2_with fail
          exact ⟨⟨k + 1, true, by go_num, rfl, Lib.hid HW2.out.symm, Lib.hid hlt, HBX2, HS⟩, by simp [intOf]; omega⟩
      · have hst := HSTEP.out
        rw [← HB'.out] at hst
        rw [show (if (false : Bool) = true then Tr.valueB 40 t.kids[k] else Tr.propB t.kids[k]) = Tr.propB t.kids[k] from rfl] at hst
        have HST := Lib.hid hst
        have hw2 := HWS.out
        rw [← HB'.out] at hw2
        have HW2 := Lib.hid hw2
        clear hst hw2 HSTEP HWS HB'
        go_wp2_with fail
        refine PC.out.mono ?_
        rintro e w2 ⟨rfl, hb2⟩
        have hbx2 := hbx.out.below (((Below.refl _ _).alloc (Nat.le_refl _) _).trans (hb2.mono (by rw [World.size_alloc]; omega)))
        have HBX2 := Lib.hid hbx2
        clear hb2 hbx2
        cases hv : Tr.propB t.kids[k]
        · have HS := Lib.hid (range_stop (Tr.stepD t.kids) t.kids.length k hlt (by rw [HST.out, hv]))
          clear hv
          go_wp2_with fail
          go_ret
          exact ⟨tret_bool (by rw [HS.out]), HBX2.out.all⟩
        · have HS := Lib.hid (range_take (Tr.stepD t.kids) k hall.out (by rw [HST.out, hv]))
          clear hv
          go_wp2_with fail
          exact ⟨⟨k + 1, false, by go_num, rfl, Lib.hid HW2.out.symm, Lib.hid hlt, HBX2, HS⟩, by simp [intOf]; omega⟩
      · have e3 : (t.kids[k].kind == 3) = false := by simpa using x3
        have e4 : (t.kids[k].kind == 4) = false := by simpa using x4
        have hst := HSTEP.out
        rw [← HB'.out] at hst
        rw [show (if (false : Bool) = true then Tr.valueB 40 t.kids[k] else Tr.propB t.kids[k]) = Tr.propB t.kids[k] from rfl] at hst
        have HST := Lib.hid hst
        have hw2 := HWS.out
        rw [← HB'.out] at hw2
        have HW2 := Lib.hid hw2
        clear hst hw2 HSTEP HWS HB'
        go_wp2_with fail
        refine PC.out.mono ?_
        rintro e w2 ⟨rfl, hb2⟩
        have hbx2 := hbx.out.below (((Below.refl _ _).alloc (Nat.le_refl _) _).trans (hb2.mono (by rw [World.size_alloc]; omega)))
        have HBX2 := Lib.hid hbx2
        clear hb2 hbx2
        cases hv : Tr.propB t.kids[k]
        · have HS := Lib.hid (range_stop (Tr.stepD t.kids) t.kids.length k hlt (by rw [HST.out, hv]))
          clear hv
          go_wp2_with fail
          go_ret
          exact ⟨tret_bool (by rw [HS.out]), HBX2.out.all⟩
        · have HS := Lib.hid (range_take (Tr.stepD t.kids) k hall.out (by rw [HST.out, hv]))
          clear hv
          go_wp2_with fail
          exact ⟨⟨k + 1, false, by go_num, rfl, Lib.hid HW2.out.symm, Lib.hid hlt, HBX2, HS⟩, by simp [intOf]; omega⟩
    · have i1 : ¬ ((k : Nat) : Int) < (t.kids.length : Nat) := by omega
      have HB := Lib.hid hbx.out.all
      have HA : Hid ((List.range t.kids.length).all (Tr.stepD t.kids) = true) := Lib.hid (by have h1 := hall.out; rwa [show k = t.kids.length from Nat.le_antisymm hkl.out hge] at h1)
      go_wp2_with fail
      go_ret
      exact ⟨tret_bool (by rw [HA.out]), HB.out⟩
set_option maxRecDepth 100000 in
set_option maxHeartbeats 4000000 in
theorem rdecl_any {w : World} {lim d : Nat} {v : Value} {t : Tr.Tree} (h : NodeRd w lim d v t) (hl : lim ≤ w.heap.size) (hs : Std w) :
    Calls Tryz.prog 22 #[v] w fun e w' => e = .returned (.bool (Tr.declB t)) ∧ Below w.heap.size w w' := by
  have hx := h
  obtain ⟨o, c, rfl, hm, htx⟩ := h.look
  have PL := Lib.hid (plain_any (h.kept (w' := w.alloc (.cells #[.int .i64 t.kind, .string ⟨t.text.toArray⟩, .int .i64 t.num, .int .i64 t.dim, .int .i64 t.pos, .slice o t.kids.length c] 26)) ((Below.refl _ _).alloc hl _)))
  have ON := Lib.hid fun w : World => one_any ⟨t.text.toArray⟩ 0 w (by show t.text.length ≤ _; omega)
  unfold Tr.declB
  by_cases hk2 : t.kind = 1
  · rw [show (t.kind == 1) = true by simpa using hk2, Bool.true_and]
    cases hp : Tr.plainB t with
    | false =>
      rw [hp, hk2] at PL
      clear h hx hs
      go_enter Tryz.func22, Tryz.ntmps22
      go_wp2_with fail
      refine PL.out.mono ?_
      rintro e w1 ⟨rfl, hb1⟩
      have HB := Lib.hid (Boxed.of hb1).all
      clear hb1
      go_wp2_with fail
      go_ret
      exact ⟨tret_bool rfl, HB.out⟩
    | true =>
      rw [Bool.true_and]
      cases ho : Tr.oneB t.text 0 with
      | true => rw [Bool.true_and]; exact rdecl_good hx hl hs hk2 hp ho
      | false =>
        rw [hp, hk2] at PL
        rw [show (⟨t.text.toArray⟩ : ByteArray).data.toList = t.text from rfl, ho] at ON
        clear h hx hs
        go_enter Tryz.func22, Tryz.ntmps22
        go_wp2_with fail
        refine PL.out.mono ?_
        rintro e w1 ⟨rfl, hb1⟩
        have hbx := Boxed.of hb1
        obtain ⟨b0, b1, b2, b3, b4, b5⟩ := cells6 hbx.row
        have HBX := Lib.hid hbx
        clear hb1 hbx
        go_wp2_with fail
        refine (ON.out _).mono ?_
        rintro e w2 ⟨rfl, hb2⟩
        have HB := Lib.hid (HBX.out.below hb2).all
        clear hb2
        go_wp2_with fail
        go_ret
        exact ⟨tret_bool rfl, HB.out⟩
  · rw [show (t.kind == 1) = false by simpa using hk2, Bool.false_and]
    clear h hx hs
    go_enter Tryz.func22, Tryz.ntmps22
    go_wp2_with fail
    go_ret
    exact ⟨tret_bool rfl, (Below.refl _ _).alloc (Nat.le_refl _) _⟩
end Go.Proofs.YtooajmbpncmgjaaGreatDoor
