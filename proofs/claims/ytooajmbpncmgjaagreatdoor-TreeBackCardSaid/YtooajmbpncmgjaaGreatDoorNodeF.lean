/- Layer 15's right trees: files. -/
import Derived.Test.YtooajmbpncmgjaaGreatDoorNodeE
namespace Go.Proofs.YtooajmbpncmgjaaGreatDoor
open Go.RowKit

set_option maxRecDepth 100000 in
set_option maxHeartbeats 2000000 in
theorem right_good {w : World} {lim d : Nat} {v : Value} {t : Tr.Tree} (h : NodeRd w lim d v t) (hl : lim ≤ w.heap.size) (hs : Std w) (hk6 : t.kind = 0) (hp : Tr.plainB t = true) :
    Calls Tryz.prog 11 #[v] w fun e w' => e = .returned (.bool (t.kids.all Tr.declB)) ∧ Below w.heap.size w w' := by
  obtain ⟨o, c, rfl, hm, _⟩ := h.look
  unfold maxLen at hm
  have hp1 := plain_any (h.kept (w' := w.alloc (.cells #[.int .i64 t.kind, .string ⟨t.text.toArray⟩, .int .i64 t.num, .int .i64 t.dim, .int .i64 t.pos, .slice o t.kids.length c] 26)) ((Below.refl _ _).alloc hl _))
  rw [hp] at hp1
  have PL := Lib.hid hp1
  have H := Lib.hid h
  have HSTD := Lib.hid hs
  rw [hk6] at PL
  clear h hp1 hs
  go_enter Tryz.func11, Tryz.ntmps11
  go_wp2_with fail
  refine PL.out.mono ?_
  rintro e w1 ⟨rfl, hb1⟩
  have hbx := Boxed.of hb1
  obtain ⟨b0, b1, b2, b3, b4, b5⟩ := cells6 hbx.row
  have HBX := Lib.hid hbx
  clear hb1 hbx
  go_wp2_with fail
  clear b0 b1 b2 b3 b4 b5
  go_loopw [16] (fun t16 wr => ∃ k : Nat, t16 = .int .i64 k ∧ Hid (k ≤ t.kids.length) ∧ Hid (Boxed w wr (.cells #[.int .i64 0, .string ⟨t.text.toArray⟩, .int .i64 t.num, .int .i64 t.dim, .int .i64 t.pos, .slice o t.kids.length c] 26)) ∧ Hid ((t.kids.take k).all Tr.declB = true)) (fun t16 _ => t.kids.length - (intOf t16).toNat)
  case atStart => exact ⟨0, rfl, Lib.hid (Nat.zero_le _), HBX.out, Lib.hid (by simp)⟩
  case round =>
    obtain ⟨k, rfl, hkl, hbx, hall⟩ := hrel
    rcases Nat.lt_or_ge k t.kids.length with hlt | hge
    · obtain ⟨a, o', c', rfl, hkid⟩ := (H.out.kept (hbx.out.all.mono hl)).kid k hlt
      obtain ⟨krd, ka, k0, k1, k2, k3, k4, k5⟩ := hkid
      have i0 : (0 : Int) ≤ (k : Nat) := by omega
      have i1 : ((k : Nat) : Int) < (t.kids.length : Nat) := by omega
      have hls : lim ≤ wr.heap.size := Nat.le_trans hl (Nat.le_of_lt hbx.out.size)
      have DC := Lib.hid (rdecl_any (krd.kept (w' := wr.alloc (.cells #[.int .i64 t.kids[k].kind, .string ⟨t.kids[k].text.toArray⟩, .int .i64 t.kids[k].num, .int .i64 t.kids[k].dim, .int .i64 t.kids[k].pos, .slice o' t.kids[k].kids.length c'] 26)) ((Below.refl _ _).alloc hls _)) (by rw [World.size_alloc]; omega) ((HSTD.out.below hbx.out.all).below ((Below.refl _ _).alloc (Nat.le_refl _) _)))
      clear krd
      go_wp2_with fail
      refine DC.out.mono ?_
      rintro e w2 ⟨rfl, hb2⟩
      have hbx2 := hbx.out.below (((Below.refl _ _).alloc (Nat.le_refl _) _).trans (hb2.mono (by rw [World.size_alloc]; omega)))
      have HBX2 := Lib.hid hbx2
      clear hb2 hbx2
      cases hv : Tr.declB t.kids[k]
      · have HS := Lib.hid (all_stop Tr.declB t.kids k hlt hv)
        clear hv
        go_wp2_with fail
        go_ret
        exact ⟨tret_bool (by rw [HS.out]), HBX2.out.all⟩
      · have HS := Lib.hid (all_take Tr.declB t.kids k hlt hall.out hv)
        clear hv
        go_wp2_with fail
        exact ⟨⟨k + 1, by go_num, Lib.hid hlt, HBX2, HS⟩, by simp [intOf]; omega⟩
    · have i1 : ¬ ((k : Nat) : Int) < (t.kids.length : Nat) := by omega
      have HB := Lib.hid hbx.out.all
      have HA : Hid (t.kids.all Tr.declB = true) := Lib.hid (by have h1 := hall.out; rwa [List.take_of_length_le hge] at h1)
      go_wp2_with fail
      go_ret
      exact ⟨tret_bool (by rw [HA.out]), HB.out⟩

set_option maxRecDepth 100000 in
set_option maxHeartbeats 2000000 in
theorem right_any {w : World} {lim d : Nat} {v : Value} {t : Tr.Tree} (h : NodeRd w lim d v t) (hl : lim ≤ w.heap.size) (hs : Std w) :
    Calls Tryz.prog 11 #[v] w fun e w' => e = .returned (.bool (Tr.rightB t)) ∧ Below w.heap.size w w' := by
  have hx := h
  obtain ⟨o, c, rfl, hm, htx⟩ := h.look
  have PL := Lib.hid (plain_any (h.kept (w' := w.alloc (.cells #[.int .i64 t.kind, .string ⟨t.text.toArray⟩, .int .i64 t.num, .int .i64 t.dim, .int .i64 t.pos, .slice o t.kids.length c] 26)) ((Below.refl _ _).alloc hl _)))
  unfold Tr.rightB
  by_cases hk2 : t.kind = 0
  · rw [show (t.kind == 0) = true by simpa using hk2, Bool.true_and]
    cases hp : Tr.plainB t with
    | false =>
      rw [hp, hk2] at PL
      clear h hx hs
      go_enter Tryz.func11, Tryz.ntmps11
      go_wp2_with fail
      refine PL.out.mono ?_
      rintro e w1 ⟨rfl, hb1⟩
      have HB := Lib.hid (Boxed.of hb1).all
      clear hb1
      go_wp2_with fail
      go_ret
      exact ⟨tret_bool rfl, HB.out⟩
    | true => rw [Bool.true_and]; exact right_good hx hl hs hk2 hp
  · rw [show (t.kind == 0) = false by simpa using hk2, Bool.false_and]
    clear h hx hs
    go_enter Tryz.func11, Tryz.ntmps11
    go_wp2_with fail
    go_ret
    exact ⟨tret_bool rfl, (Below.refl _ _).alloc (Nat.le_refl _) _⟩
end Go.Proofs.YtooajmbpncmgjaaGreatDoor
