/- Layer 15's laws: begins and placed, where they answer yes, by contract. Layer 15's laws TreeAts and TreeReads, by contract. -/
import Derived.Test.YtooajmbpncmgjaaGreatDoorLawB
import Derived.Test.YtooajmbpncmgjaaGreatDoorPlain2
import Derived.Test.YtooajmbpncmgjaaGreatDoorLawF
import Derived.Test.YtooajmbpncmgjaaGreatDoorRound
namespace Go.Proofs.YtooajmbpncmgjaaGreatDoor
open Go.RowKit

theorem begins_yes (s t : ByteArray) (P : Nat) (w : World) (hs : s.size ≤ maxLen) (h1 : P + t.size ≤ s.size) (h2 : s.extract P (P + t.size) = t) :
    Calls Tryz.prog 31 #[.string s, .int .i64 (P : Nat), .string t] w fun e w' => e = .returned (.bool true) ∧ w = w' := by
  unfold maxLen at hs
  have i0 : (0 : Int) ≤ (P : Nat) := by omega
  have i1 : ((P : Nat) : Int) + (t.size : Nat) ≤ (s.size : Nat) := by omega
  have i2 : P ≤ P + t.size := by omega
  have i3 : ((P : Nat) : Int) ≤ (P : Nat) + (t.size : Nat) := by omega
  go_enter Tryz.func31, Tryz.ntmps31
  go_wp2_with fail
  go_ret
  exact ⟨rfl, rfl⟩
theorem begins_of_ok {s : ByteArray} {P : Nat} {x : List UInt8} (hs : s.size ≤ maxLen) (h : Tr.beginsB s.data.toList (P : Nat) x = true) (w : World) :
    Calls Tryz.prog 31 #[.string s, .int .i64 (P : Nat), .string ⟨x.toArray⟩] w fun e w' => e = .returned (.bool true) ∧ w = w' := by
  unfold Tr.beginsB at h
  simp only [Bool.and_eq_true, decide_eq_true_eq, beq_iff_eq] at h
  obtain ⟨_, h1, h2⟩ := h
  have hsz : s.data.toList.length = s.size := rfl
  refine begins_yes s ⟨x.toArray⟩ P w hs (by rw [L.ba_size]; omega) ?_
  rw [L.ba_mid, L.ba_size, Nat.add_sub_cancel_left]
  rw [show ((P : Int)).toNat = P from rfl] at h2
  rw [h2]
theorem quote_cat (x : List UInt8) : (ByteArray.mk #[34] ++ ByteArray.mk x.toArray ++ ByteArray.mk #[34]) = ⟨(34 :: (x ++ [34])).toArray⟩ := L.ba_ext (by simp)

set_option maxRecDepth 100000 in
set_option maxHeartbeats 8000000 in
theorem placed_step {w : World} {lim d : Nat} {v : Value} {t : Tr.Tree} {s : ByteArray} {p q : Int} (ih : ∀ (w : World) (v : Value) (k : Tr.Tree) (p q : Int), NodeRd w lim (d - 1) v k → lim ≤ w.heap.size → Tr.placedB s.data.toList k p = some q →
      Calls Tryz.prog 17 #[.string s, v, .int .i64 p] w fun e w' => e = .returned (.tuple #[.int .i64 q, .bool true]) ∧ Below w.heap.size w w')
    (h : NodeRd w lim d v t) (hl : lim ≤ w.heap.size) (hs : s.size ≤ 2000) (hp : Tr.placedB s.data.toList t p = some q) :
    Calls Tryz.prog 17 #[.string s, v, .int .i64 p] w fun e w' => e = .returned (.tuple #[.int .i64 q, .bool true]) ∧ Below w.heap.size w w' := by
  obtain ⟨o, c, rfl, hm, htx⟩ := h.look
  unfold maxLen at hm
  rw [Tr.placedB_eq] at hp
  have H := Lib.hid h
  have IH := Lib.hid ih
  have HP := Lib.hid hp
  have hsm : s.size ≤ maxLen := by unfold maxLen; omega
  have BG := Lib.hid fun (P : Nat) (x : List UInt8) (h : Tr.beginsB s.data.toList (P : Nat) x = true) => begins_of_ok hsm h
  clear h ih hp hsm
  go_enter Tryz.func17, Tryz.ntmps17
  go_wp2_with fail
  go_loopw [2, 8] (fun t2 t8 wr => ∃ (k : Nat) (pk : Int), t8 = .int .i64 k ∧ t2 = .int .i64 pk ∧ Hid (k ≤ t.kids.length) ∧ Hid (Tr.placedL s.data.toList (t.kids.drop k) pk = some q) ∧ Hid (Boxed w wr (.cells #[.int .i64 t.kind, .string ⟨t.text.toArray⟩, .int .i64 t.num, .int .i64 t.dim, .int .i64 t.pos, .slice o t.kids.length c] 26))) (fun _ t8 _ => t.kids.length - (intOf t8).toNat)
  case atStart => exact ⟨0, p, rfl, rfl, Lib.hid (Nat.zero_le _), HP, Lib.hid (Boxed.start _ _)⟩
  case round =>
    obtain ⟨wo, rfl⟩ : ∃ wo : World, wo = wr := ⟨_, rfl⟩
    obtain ⟨k, pk, rfl, rfl, hkl, hpl, hbx⟩ := hrel
    obtain ⟨q0, q1, q2, q3, q4, q5⟩ := cells6 hbx.out.row
    rcases Nat.lt_or_ge k t.kids.length with hlt | hge
    · have hold := hbx.out.all
      obtain ⟨a, o2, c2, rfl, hkid⟩ := (H.out.kept (hold.mono hl)).kid k hlt
      have hpx := hpl.out
      rw [List.drop_eq_getElem_cons hlt, Tr.placedL] at hpx
      generalize hkd : t.kids[k] = kd at *
      obtain ⟨krd, ka, k0, k1, k2, k3, k4, k5⟩ := hkid
      have hls : lim ≤ wo.heap.size := Nat.le_trans hl hold.size
      by_cases hok : Tr.okAt s.data.toList kd pk = true
      case neg => rw [if_neg hok] at hpx; cases hpx
      rw [if_pos hok] at hpx
      cases hpb : Tr.placedB s.data.toList kd (kd.pos + 1) with
      | none => rw [hpb] at hpx; cases hpx
      | some last =>
        rw [hpb] at hpx
        dsimp only at hpx
        have HREST := Lib.hid hpx
        have hktx := krd.look
        obtain ⟨_, _, _, hkm, hktx⟩ := hktx
        unfold Tr.okAt at hok
        simp only [Bool.and_eq_true, decide_eq_true_eq, Bool.or_eq_true, bne_iff_ne, ne_eq] at hok
        obtain ⟨hle, hbeg, hdig⟩ := hok
        have hb0 := hbeg
        unfold Tr.beginsB at hb0
        simp only [Bool.and_eq_true, decide_eq_true_eq] at hb0
        obtain ⟨hp0, hp1, _⟩ := hb0
        have hsz : s.data.toList.length = s.size := rfl
        obtain ⟨P, hPP⟩ : ∃ P : Nat, kd.pos = P := ⟨kd.pos.toNat, by omega⟩
        have hpp : (P : Int) ≤ 2000 := by omega
        have hpn : (0 : Int) ≤ (P : Nat) := by omega
        have hple : ¬ (P : Int) < pk := by omega
        have hbx2 := hbx.out.below ((Below.refl wo.heap.size wo).alloc (Nat.le_refl _) (.cells #[.int .i64 kd.kind, .string ⟨kd.text.toArray⟩, .int .i64 kd.num, .int .i64 kd.dim, .int .i64 kd.pos, .slice o2 kd.kids.length c2] 26))
        have HC := Lib.hid (IH.out (wo.alloc (.cells #[.int .i64 kd.kind, .string ⟨kd.text.toArray⟩, .int .i64 kd.num, .int .i64 kd.dim, .int .i64 kd.pos, .slice o2 kd.kids.length c2] 26)) _ kd (kd.pos + 1) last (krd.kept ((Below.refl _ _).alloc hls _)) (by rw [World.size_alloc]; omega) hpb)
        have hbw : w.heap.size < wo.heap.size := hbx.out.size
        rw [hPP] at hbeg k4 HC hbx2 hdig
        have i0 : (0 : Int) ≤ (k : Nat) := by omega
        have i1 : ((k : Nat) : Int) < (t.kids.length : Nat) := by omega
        unfold Tr.firstOf at hbeg
        clear krd hpl hle hp0 hp1 hPP hold hsz hpb hpx
        by_cases h6 : kd.kind = 6
        · rw [if_pos h6] at hbeg
          have HBG := Lib.hid (BG.out P _ hbeg)
          rw [h6] at k0 HC hbx2
          have HBX2 := Lib.hid hbx2
          clear hbeg hdig hbx2
          go_wp2_with fail
          refine (HBG.out _).mono ?_
          rintro e w2 ⟨rfl, rfl⟩
          go_wp2_with fail
          refine HC.out.mono ?_
          rintro e w3 ⟨rfl, hb3⟩
          have HBX3 := Lib.hid (HBX2.out.below hb3)
          clear hb3
          go_wp2_with fail
          exact ⟨⟨k + 1, last, by go_num, rfl, Lib.hid hlt, HREST, HBX3⟩, by simp [intOf]; omega⟩
        · rw [if_neg h6] at hbeg
          by_cases h4 : kd.kind = 4
          · rw [if_pos h4] at hbeg
            have HBG := Lib.hid (BG.out P _ hbeg)
            rw [h4] at k0 HC hbx2
            have HBX2 := Lib.hid hbx2
            have f1 : ¬ 9223372036854775807 < 1 + kd.text.length := by omega
            have f2 : ¬ 9223372036854775807 < 1 + kd.text.length + 1 := by omega
            clear hbeg hdig hbx2
            go_wp2_with fail
            rw [quote_cat]
            refine (HBG.out _).mono ?_
            rintro e w2 ⟨rfl, rfl⟩
            go_wp2_with fail
            refine HC.out.mono ?_
            rintro e w3 ⟨rfl, hb3⟩
            have HBX3 := Lib.hid (HBX2.out.below hb3)
            clear hb3
            go_wp2_with fail
            exact ⟨⟨k + 1, last, by go_num, rfl, Lib.hid hlt, HREST, HBX3⟩, by simp [intOf]; omega⟩
          · rw [if_neg h4] at hbeg
            have HBG := Lib.hid (BG.out P _ hbeg)
            have HBX2 := Lib.hid hbx2
            by_cases h5 : kd.kind = 5
            · have hdg := hdig.resolve_left fun e => e h5
              unfold Tr.digitAt at hdg
              simp only [Bool.and_eq_true] at hdg
              obtain ⟨_, hdg⟩ := hdg
              rw [show ((P : Int)).toNat = P from rfl] at hdg
              cases hsp : s.data.toList[P]? with
              | none => rw [hsp] at hdg; cases hdg
              | some cc =>
                rw [hsp] at hdg
                simp only [Bool.and_eq_true, decide_eq_true_eq] at hdg
                obtain ⟨hd0, hd1⟩ := hdg
                have hPs : P < s.size := (List.getElem?_eq_some_iff.1 hsp).1
                have hcc : s[P] = cc := by
                  have h1 := (List.getElem?_eq_some_iff.1 hsp).2
                  rw [Array.getElem_toList] at h1
                  exact h1
                have j0 : ¬ ((s.size : Nat) : Int) ≤ (P : Nat) := by omega
                have j1 : ((P : Nat) : Int) < (s.size : Nat) := by omega
                have j2 : ¬ ((s[P].toNat : Nat) : Int) < 48 := by rw [hcc]; omega
                have j3 : ¬ (57 : Int) < ((s[P].toNat : Nat) : Int) := by rw [hcc]; omega
                rw [h5] at k0 HC HBX2
                clear hbeg hdig hbx2 hcc hsp hd0 hd1
                go_wp2_with fail
                refine (HBG.out _).mono ?_
                rintro e w2 ⟨rfl, rfl⟩
                go_wp2_with fail
                refine HC.out.mono ?_
                rintro e w3 ⟨rfl, hb3⟩
                have HBX3 := Lib.hid (HBX2.out.below hb3)
                clear hb3
                go_wp2_with fail
                exact ⟨⟨k + 1, last, by go_num, rfl, Lib.hid hlt, HREST, HBX3⟩, by simp [intOf]; omega⟩
            · have g3 : ¬ kd.kind = 4 := h4
              clear hbeg hdig hbx2
              go_wp2_with fail
              refine (HBG.out _).mono ?_
              rintro e w2 ⟨rfl, rfl⟩
              go_wp2_with fail
              refine HC.out.mono ?_
              rintro e w3 ⟨rfl, hb3⟩
              have HBX3 := Lib.hid (HBX2.out.below hb3)
              clear hb3
              go_wp2_with fail
              exact ⟨⟨k + 1, last, by go_num, rfl, Lib.hid hlt, HREST, HBX3⟩, by simp [intOf]; omega⟩
    · have hke : k = t.kids.length := Nat.le_antisymm hkl.out hge
      have hpq : pk = q := by
        have h1 := hpl.out
        rw [hke, List.drop_length, Tr.placedL] at h1
        injection h1
      have i1 : ¬ ((k : Nat) : Int) < (t.kids.length : Nat) := by omega
      have HB := Lib.hid hbx.out.all
      subst hpq
      clear hke
      go_wp2_with fail
      go_ret2
      exact ⟨rfl, HB.out⟩

theorem placed_yes : ∀ (d : Nat) (w : World) (lim : Nat) (v : Value) (t : Tr.Tree) (s : ByteArray) (p q : Int), NodeRd w lim d v t → lim ≤ w.heap.size → s.size ≤ 2000 → Tr.placedB s.data.toList t p = some q →
    Calls Tryz.prog 17 #[.string s, v, .int .i64 p] w fun e w' => e = .returned (.tuple #[.int .i64 q, .bool true]) ∧ Below w.heap.size w w'
  | 0, w, lim, v, t, s, p, q, h, _, _, _ => h.elim
  | d + 1, w, lim, v, t, s, p, q, h, hl, hs, hp => placed_step (fun w v k p q hr hl hp => placed_yes d w lim v k s p q hr hl hs hp) h hl hs hp
end Go.Proofs.YtooajmbpncmgjaaGreatDoor
namespace Go.Proofs.YtooajmbpncmgjaaGreatDoor
open Go.RowKit

theorem stand_of {s : List UInt8} (h : (scanR s).2.1 = 0) : Tr.Stand s (scanR s).1 := by
  obtain ⟨_, _, h3, _⟩ := scanR_ok h
  obtain ⟨hat, hpw⟩ := L.scan_at s
  rw [h3]
  have hsp : ∀ t ∈ (L.scanL s).1, t.pos + 1 ≤ s.length := fun t ht => by
    have h1 := (hat t ht).len
    have h2 := List.length_pos_iff.2 (L.okL_ne (hat t ht).ok)
    dsimp only at h2
    omega
  refine ⟨fun t ht hk => ?_, ?_⟩
  · rcases List.mem_append.1 ht with ht | ht
    · exact hat t ht
    · simp at ht
      subst ht
      exact absurd rfl hk
  · rw [List.pairwise_append]
    refine ⟨hpw.imp_of_mem fun ha hb hab _ => ?_, List.pairwise_singleton _ _, fun a ha b hb _ => ?_⟩
    · have h2 := List.length_pos_iff.2 (L.okL_ne (hat _ ha).ok)
      dsimp only at h2
      omega
    · simp at hb
      subst hb
      exact hsp a ha

set_option maxRecDepth 100000 in
set_option maxHeartbeats 4000000 in
theorem ats_no (s : ByteArray) (w : World) (hs : s.size ≤ maxLen) (hw : Std w) (h : 2000 < s.size ∨ (parseS s.data.toList).2.1 ≠ 0) :
    Calls Tryz.prog 7 #[.string s] w fun e w' => e = .returned (.bool true) ∧ Below w.heap.size w w' := by
  have SM := Lib.hid small_any
  obtain ⟨t, E, P, hp⟩ : ∃ t E P, parseS s.data.toList = (t, E, P) := ⟨_, _, _, rfl⟩
  have PC := Lib.hid (pcs_of hp hs)
  rw [hp] at h
  dsimp only at h
  have HW := Lib.hid hw
  unfold maxLen at hs
  clear hw hp
  by_cases hl : 2000 < s.size
  case pos =>
    have hl2 : (2000 : Int) < (s.size : Nat) := by omega
    clear h
    go_enter Tryz.func7, Tryz.ntmps7
    go_wp2_with fail
    refine (SM.out w HW.out).mono ?_
    rintro e w1 ⟨rfl, hb1⟩
    have HB1 := Lib.hid hb1
    clear hb1
    go_wp2_with fail
    refine (PC.out w1 (HW.out.below HB1.out)).mono ?_
    rintro e w2 ⟨o1, c1, d1, rfl, hr2, hb2⟩
    have HB2 := Lib.hid (bl_trans HB1.out (bl_trans hb2 ((Below.refl w2.heap.size w2).alloc (Nat.le_refl _) (.cells #[.int .i64 t.kind, .string ⟨t.text.toArray⟩, .int .i64 t.num, .int .i64 t.dim, .int .i64 t.pos, .slice o1 t.kids.length c1] 26))))
    clear hb2 hr2
    go_wp2_with fail
    go_ret
    exact ⟨rfl, HB2.out⟩
  case neg =>
    have hl2 : ¬ (2000 : Int) < (s.size : Nat) := by omega
    have hE : (((E : Nat) : Int) == 0) = false := by simp; omega
    have hE2 : (((E : Nat) : Int) != 0) = true := by simp; omega
    clear h
    go_enter Tryz.func7, Tryz.ntmps7
    go_wp2_with fail
    refine (SM.out w HW.out).mono ?_
    rintro e w1 ⟨rfl, hb1⟩
    have HB1 := Lib.hid hb1
    clear hb1
    go_wp2_with fail
    refine (PC.out w1 (HW.out.below HB1.out)).mono ?_
    rintro e w2 ⟨o1, c1, d1, rfl, hr2, hb2⟩
    have HB2 := Lib.hid (bl_trans HB1.out (bl_trans hb2 ((Below.refl w2.heap.size w2).alloc (Nat.le_refl _) (.cells #[.int .i64 t.kind, .string ⟨t.text.toArray⟩, .int .i64 t.num, .int .i64 t.dim, .int .i64 t.pos, .slice o1 t.kids.length c1] 26))))
    clear hb2 hr2
    go_wp2_with fail
    go_ret
    exact ⟨rfl, HB2.out⟩

set_option maxRecDepth 100000 in
set_option maxHeartbeats 4000000 in
theorem ats_yes (s : ByteArray) (w : World) (hs : s.size ≤ maxLen) (hw : Std w) (hl : s.size ≤ 2000) (h0 : (parseS s.data.toList).2.1 = 0) :
    Calls Tryz.prog 7 #[.string s] w fun e w' => e = .returned (.bool true) ∧ Below w.heap.size w w' := by
  have SM := Lib.hid small_any
  obtain ⟨hsc, l, r, he, hg⟩ := parseS_yes h0
  obtain ⟨q, hq, _⟩ := hg.placed (stand_of hsc) 0 (fun t _ => Int.natCast_nonneg _)
  have PC := Lib.hid (pcs_of he hs)
  have HQ : Hid (Tr.placedB s.data.toList ⟨0, [], 0, 0, 0, l⟩ 0 = some q) := Lib.hid (by rw [Tr.placedB]; exact hq)
  have HW := Lib.hid hw
  have hl2 : ¬ (2000 : Int) < (s.size : Nat) := by omega
  unfold maxLen at hs
  clear hw h0 hsc he hg hq
  go_enter Tryz.func7, Tryz.ntmps7
  go_wp2_with fail
  refine (SM.out w HW.out).mono ?_
  rintro e w1 ⟨rfl, hb1⟩
  have HB1 := Lib.hid hb1
  clear hb1
  go_wp2_with fail
  refine (PC.out w1 (HW.out.below HB1.out)).mono ?_
  rintro e w2 ⟨o1, c1, d1, rfl, hr2, hb2⟩
  have HB2 := Lib.hid (bl_trans HB1.out (bl_trans hb2 ((Below.refl w2.heap.size w2).alloc (Nat.le_refl _) (.cells #[.int .i64 0, .string ⟨#[]⟩, .int .i64 0, .int .i64 0, .int .i64 0, .slice o1 l.length c1] 26))))
  have HC := Lib.hid (placed_yes d1 (w2.alloc (.cells #[.int .i64 0, .string ⟨#[]⟩, .int .i64 0, .int .i64 0, .int .i64 0, .slice o1 l.length c1] 26)) w2.heap.size _ _ s 0 q (hr2.kept ((Below.refl _ _).alloc (Nat.le_refl _) _)) (by rw [World.size_alloc]; omega) hl HQ.out)
  clear hb2 hr2
  go_wp2_with fail
  refine HC.out.mono ?_
  rintro e w3 ⟨rfl, hb3⟩
  have hbx := Boxed.of hb3
  obtain ⟨q0, q1, q2, q3, q4, q5⟩ := cells6 hbx.row
  have HB3 := Lib.hid (bl_trans HB2.out hb3)
  clear hb3 hbx
  go_wp2_with fail
  go_ret
  exact ⟨rfl, HB3.out⟩

theorem ats_any (s : ByteArray) (w : World) (hs : s.size ≤ maxLen) (hw : Std w) : Calls Tryz.prog 7 #[.string s] w fun e w' => e = .returned (.bool true) ∧ Below w.heap.size w w' := by
  rcases Nat.lt_or_ge 2000 s.size with hl | hl
  · exact ats_no s w hs hw (.inl hl)
  · by_cases h0 : (parseS s.data.toList).2.1 = 0
    · exact ats_yes s w hs hw hl h0
    · exact ats_no s w hs hw (.inr h0)

set_option maxRecDepth 100000 in
set_option maxHeartbeats 4000000 in
theorem reads_long (s : ByteArray) (w : World) (hw : Std w) (hl : 2000 < s.size) :
    Calls Tryz.prog 4 #[.string s] w fun e w' => e = .returned (.bool true) ∧ Below w.heap.size w w' := by
  have SM := Lib.hid small_any
  have HW := Lib.hid hw
  have hl2 : (2000 : Int) < (s.size : Nat) := by omega
  clear hw
  go_enter Tryz.func4, Tryz.ntmps4
  go_wp2_with fail
  refine (SM.out w HW.out).mono ?_
  rintro e w1 ⟨rfl, hb1⟩
  have HB1 := Lib.hid hb1
  clear hb1
  go_wp2_with fail
  go_ret
  exact ⟨rfl, HB1.out⟩

set_option maxRecDepth 100000 in
set_option maxHeartbeats 4000000 in
theorem reads_no (s : ByteArray) (w : World) (hs : s.size ≤ maxLen) (hw : Std w) (hl : s.size ≤ 2000) (h : (parseS s.data.toList).2.1 ≠ 0) :
    Calls Tryz.prog 4 #[.string s] w fun e w' => e = .returned (.bool true) ∧ Below w.heap.size w w' := by
  have SM := Lib.hid small_any
  obtain ⟨t, E, P, hp⟩ : ∃ t E P, parseS s.data.toList = (t, E, P) := ⟨_, _, _, rfl⟩
  obtain ⟨K, F, Q, hsc⟩ : ∃ K F Q, scanR s.data.toList = (K, F, Q) := ⟨_, _, _, rfl⟩
  have PC := Lib.hid (pcs_of hp hs)
  have SC := Lib.hid (scs_of hsc hs)
  rw [hp] at h
  dsimp only at h
  have hE : (((E : Nat) : Int) == 0) = false := by simp; omega
  have hE2 : (((E : Nat) : Int) != 0) = true := by simp; omega
  have HW := Lib.hid hw
  have hl2 : ¬ (2000 : Int) < (s.size : Nat) := by omega
  unfold maxLen at hs
  clear hw hp hsc h
  go_enter Tryz.func4, Tryz.ntmps4
  go_wp2_with fail
  refine (SM.out w HW.out).mono ?_
  rintro e w1 ⟨rfl, hb1⟩
  have HB1 := Lib.hid hb1
  clear hb1
  go_wp2_with fail
  refine (PC.out w1 (HW.out.below HB1.out)).mono ?_
  rintro e w2 ⟨o1, c1, d1, rfl, hr2, hb2⟩
  have HB2 := Lib.hid (bl_trans HB1.out (bl_trans hb2 ((Below.refl w2.heap.size w2).alloc (Nat.le_refl _) (.cells #[.int .i64 t.kind, .string ⟨t.text.toArray⟩, .int .i64 t.num, .int .i64 t.dim, .int .i64 t.pos, .slice o1 t.kids.length c1] 26))))
  clear hb2 hr2
  go_wp2_with fail
  refine (SC.out _).mono ?_
  rintro e w3 ⟨v, o, c, _, rfl, _, _, hb3⟩
  have HB3 := Lib.hid (bl_trans HB2.out hb3)
  clear hb3
  go_wp2_with fail
  go_ret
  exact ⟨rfl, HB3.out⟩

set_option maxRecDepth 100000 in
set_option maxHeartbeats 4000000 in
theorem reads_yes (s : ByteArray) (w : World) (hs : s.size ≤ maxLen) (hw : Std w) (hl : s.size ≤ 2000) {l : List Tr.Tree} {K : List L.Tok} {t2 t3 : Tr.Tree} (hp : parseS s.data.toList = (⟨0, [], 0, 0, 0, l⟩, 0, 0)) (hsc : scanR s.data.toList = (K, 0, 0))
    (hL : K.length ≤ 70000 ∧ ∀ t ∈ K, t.text.length ≤ 1000000) (hp2 : parseS (L.writeL K) = (t2, 0, 0)) (hp3 : parseS (Tr.wrF ⟨0, [], 0, 0, 0, l⟩) = (t3, 0, 0)) (hlen2 : (L.writeL K).length ≤ 1000000) (hlen3 : (Tr.wrF ⟨0, [], 0, 0, 0, l⟩).length ≤ 1000000)
    (hright : Tr.rightB ⟨0, [], 0, 0, 0, l⟩ = true) (hs2 : Tr.sameB ⟨0, [], 0, 0, 0, l⟩ t2 = true) (hs3 : Tr.sameB ⟨0, [], 0, 0, 0, l⟩ t3 = true) (hnd : ∀ d, Tr.nodes d ⟨0, [], 0, 0, 0, l⟩ ≤ 100000) :
    Calls Tryz.prog 4 #[.string s] w fun e w' => e = .returned (.bool true) ∧ Below w.heap.size w w' := by
  have SM := Lib.hid small_any
  have PC := Lib.hid (pcs_of hp hs)
  have SC := Lib.hid (scs_of hsc hs)
  have PC2 := Lib.hid (pcs_of (s := ⟨(L.writeL K).toArray⟩) hp2 (by rw [L.ba_size]; unfold maxLen; omega))
  have PC3 := Lib.hid (pcs_of (s := ⟨(Tr.wrF ⟨0, [], 0, 0, 0, l⟩).toArray⟩) hp3 (by rw [L.ba_size]; unfold maxLen; omega))
  have HL := Lib.hid hL
  have HRT := Lib.hid hright
  have HS2 := Lib.hid hs2
  have HS3 := Lib.hid hs3
  have HND := Lib.hid hnd
  have HW := Lib.hid hw
  have hl2 : ¬ (2000 : Int) < (s.size : Nat) := by omega
  unfold maxLen at hs
  clear hw hp hsc hL hp2 hp3 hlen2 hlen3 hright hs2 hs3 hnd
  go_enter Tryz.func4, Tryz.ntmps4
  go_wp2_with fail
  refine (SM.out w HW.out).mono ?_
  rintro e w1 ⟨rfl, hb1⟩
  have HB1 := Lib.hid hb1
  clear hb1
  go_wp2_with fail
  refine (PC.out w1 (HW.out.below HB1.out)).mono ?_
  rintro e w2 ⟨o1, c1, d1, rfl, hr2, hb2⟩
  have HR2 := Lib.hid hr2
  have HB2 := Lib.hid (bl_trans HB1.out hb2)
  have HB2a := Lib.hid (bl_trans HB2.out ((Below.refl w2.heap.size w2).alloc (Nat.le_refl _) (.cells #[.int .i64 0, .string ⟨#[]⟩, .int .i64 0, .int .i64 0, .int .i64 0, .slice o1 l.length c1] 26)))
  clear hb2 hr2
  go_wp2_with fail
  refine (SC.out _).mono ?_
  rintro e w3 ⟨v, o, c, hv, rfl, hown, _, hb3⟩
  have HX2 := Lib.hid (Boxed.of hb3)
  have HB3 := Lib.hid (bl_trans HB2a.out hb3)
  have LW := Lib.hid (lexwrite_any w3 hown HL.out.1 HL.out.2)
  rw [hv] at LW
  clear hb3 hown hv
  go_wp2_with fail
  refine LW.out.mono ?_
  rintro e w4 ⟨rfl, hb4⟩
  have HX4 := Lib.hid (HX2.out.below hb4)
  have HB4 := Lib.hid (bl_trans HB3.out hb4)
  clear hb4
  go_wp2_with fail
  refine (PC2.out w4 (HW.out.below HB4.out)).mono ?_
  rintro e w5 ⟨o5, c5, d5, rfl, hr5, hb5⟩
  have HX5 := Lib.hid (HX4.out.below hb5)
  have HR5 := Lib.hid hr5
  have HB5 := Lib.hid (bl_trans HB4.out hb5)
  have hz5 : w2.heap.size < w5.heap.size := HX5.out.size
  obtain ⟨q0, q1, q2, q3, q4, q5⟩ := cells6 HX5.out.row
  have hz6 : ¬ w2.heap.size = w5.heap.size := by omega
  have WC := Lib.hid fun (W : World) (hW : Below w5.heap.size w5 W) => Write_any (w := W) (lim := w2.heap.size) (HR2.out.kept ((HX5.out.all.trans (hW.mono (Nat.le_of_lt hz5))))) (Nat.le_trans (Nat.le_of_lt hz5) hW.size) (HW.out.below (bl_trans HB5.out hW)) (HND.out _)
  rw [if_pos HRT.out] at WC
  have HB5a := Lib.hid (bl_trans HB5.out ((Below.refl w5.heap.size w5).alloc (Nat.le_refl _) (.cells #[.int .i64 t2.kind, .string ⟨t2.text.toArray⟩, .int .i64 t2.num, .int .i64 t2.dim, .int .i64 t2.pos, .slice o5 t2.kids.length c5] 26)))
  clear hb5 hr5
  go_wp2_with fail
  refine (WC.out _ ((Below.refl _ _).alloc (Nat.le_refl _) _)).mono ?_
  rintro e w6 ⟨rfl, hb6⟩
  have HX6 := Lib.hid (Boxed.of hb6)
  have HY6 := Lib.hid ((HX5.out.below ((Below.refl w5.heap.size w5).alloc (Nat.le_refl _) (.cells #[.int .i64 t2.kind, .string ⟨t2.text.toArray⟩, .int .i64 t2.num, .int .i64 t2.dim, .int .i64 t2.pos, .slice o5 t2.kids.length c5] 26))).below hb6)
  have HB6 := Lib.hid (bl_trans HB5a.out hb6)
  clear hb6
  go_wp2_with fail
  refine (PC3.out w6 (HW.out.below HB6.out)).mono ?_
  rintro e w7 ⟨o7, c7, d7, rfl, hr7, hb7⟩
  have HX7 := Lib.hid (HX6.out.below hb7)
  have HY7 := Lib.hid (HY6.out.below hb7)
  have HR7 := Lib.hid hr7
  have HB7 := Lib.hid (bl_trans HB6.out hb7)
  clear q0 q1 q2 q3 q4 q5
  have y1 : w2.heap.size < w7.heap.size := HY7.out.size
  have y2 : w5.heap.size < w7.heap.size := HX7.out.size
  have y3 : ¬ w2.heap.size = w7.heap.size := by omega
  have y4 : ¬ w5.heap.size = w7.heap.size := by omega
  obtain ⟨q0, q1, q2, q3, q4, q5⟩ := cells6 HY7.out.row
  obtain ⟨r0, r1, r2, r3, r4, r5⟩ := cells6 HX7.out.row
  have HB7a := Lib.hid (bl_trans HB7.out ((Below.refl w7.heap.size w7).alloc (Nat.le_refl _) (.cells #[.int .i64 t3.kind, .string ⟨t3.text.toArray⟩, .int .i64 t3.num, .int .i64 t3.dim, .int .i64 t3.pos, .slice o7 t3.kids.length c7] 26)))
  have HR2b := Lib.hid (HR2.out.kept HY7.out.all)
  have HR5b := Lib.hid (HR5.out.kept HX7.out.all)
  have RC := Lib.hid fun (W : World) (hW : Below w7.heap.size w7 W) => right_any (w := W) (HR2b.out.kept (hW.mono (Nat.le_of_lt y1))) (Nat.le_trans (Nat.le_of_lt y1) hW.size) (HW.out.below (bl_trans HB7.out hW))
  rw [HRT.out] at RC
  have SA := Lib.hid fun (W : World) (hW : Below w7.heap.size w7 W) => same_any d1 d5 W w5.heap.size _ _ _ t2 (NodeRd.wide (Nat.le_of_lt hz5) _ _ _ (HR2b.out.kept (hW.mono (Nat.le_of_lt y1)))) (HR5b.out.kept (hW.mono (Nat.le_of_lt y2))) (Nat.le_trans (Nat.le_of_lt y2) hW.size)
  rw [HS2.out] at SA
  have SB := Lib.hid fun (W : World) (hW : Below w7.heap.size w7 W) => same_any d1 d7 W w7.heap.size _ _ _ t3 (NodeRd.wide (Nat.le_of_lt y1) _ _ _ (HR2b.out.kept (hW.mono (Nat.le_of_lt y1)))) (HR7.out.kept hW) hW.size
  rw [HS3.out] at SB
  clear hb7 hr7
  go_wp2_with fail
  refine (RC.out _ ((Below.refl _ _).alloc (Nat.le_refl _) _)).mono ?_
  rintro e w8 ⟨rfl, hb8⟩
  have hk8 := bl_trans ((Below.refl w7.heap.size w7).alloc (Nat.le_refl _) (.cells #[.int .i64 t3.kind, .string ⟨t3.text.toArray⟩, .int .i64 t3.num, .int .i64 t3.dim, .int .i64 t3.pos, .slice o7 t3.kids.length c7] 26)) hb8
  have HK8 := Lib.hid hk8
  have hx8 := Boxed.of hb8
  clear q0 q1 q2 q3 q4 q5 r0 r1 r2 r3 r4 r5
  obtain ⟨q0, q1, q2, q3, q4, q5⟩ := cells6 ((hk8.block _ y1).trans HY7.out.row)
  obtain ⟨r0, r1, r2, r3, r4, r5⟩ := cells6 ((hk8.block _ y2).trans HX7.out.row)
  have HX8 := Lib.hid hx8
  clear hk8 hx8 hb8
  go_wp2_with fail
  refine (SA.out _ HK8.out).mono ?_
  rintro e w9 ⟨rfl, hb9⟩
  have hk9 := bl_trans HK8.out hb9
  have HK9 := Lib.hid hk9
  clear q0 q1 q2 q3 q4 q5 r0 r1 r2 r3 r4 r5
  obtain ⟨q0, q1, q2, q3, q4, q5⟩ := cells6 ((hk9.block _ y1).trans HY7.out.row)
  obtain ⟨r0, r1, r2, r3, r4, r5⟩ := cells6 ((HX8.out.below hb9).row)
  clear hk9 hb9
  go_wp2_with fail
  refine (SB.out _ HK9.out).mono ?_
  rintro e w10 ⟨rfl, hb10⟩
  have HK10 := Lib.hid (bl_trans HB7.out (bl_trans HK9.out hb10))
  clear hb10
  go_wp2_with fail
  go_ret
  exact ⟨rfl, HK10.out⟩

theorem reads_any (s : ByteArray) (w : World) (hs : s.size ≤ maxLen) (hw : Std w) : Calls Tryz.prog 4 #[.string s] w fun e w' => e = .returned (.bool true) ∧ Below w.heap.size w w' := by
  have hsz : s.data.toList.length = s.size := rfl
  rcases Nat.lt_or_ge 2000 s.size with hl | hl
  · exact reads_long s w hw hl
  · by_cases h0 : (parseS s.data.toList).2.1 = 0
    · obtain ⟨hsc, l, r, he, hg⟩ := parseS_yes h0
      obtain ⟨hr1, hr2⟩ := parseS_right h0
      obtain ⟨hx1, hx2⟩ := lexwrite_parse h0 (by omega)
      have hok := scanR_ok hsc
      have hfa := scanR_facts hsc
      have hs2 : scanR s.data.toList = ((scanR s.data.toList).1, 0, 0) := Prod.ext rfl (Prod.ext hsc hok.2.2.2)
      obtain ⟨_, l2, r2, he2, _⟩ := parseS_yes hx1
      have hnd := (parseS_sizes s.data.toList).2
      rw [he] at hr1 hr2 hx2 hnd
      dsimp only at hr1 hr2 hx2 hnd
      obtain ⟨hw1, hw2⟩ := write_parse hr1 (by omega)
      obtain ⟨_, l3, r3, he3, _⟩ := parseS_yes hw1
      have hsm := scanR_small s.data.toList
      refine reads_yes s w hs hw hl he hs2 hsm (t2 := (parseS (L.writeL (scanR s.data.toList).1)).1) (t3 := (parseS (Tr.wrF ⟨0, [], 0, 0, 0, l⟩)).1) ?_ ?_ ?_ (by omega) hr1 ?_ ?_ (fun d => Nat.le_trans (hnd d) (by decide))
      · exact Prod.ext rfl (Prod.ext hx1 (by rw [he2]))
      · exact Prod.ext rfl (Prod.ext hw1 (by rw [he3]))
      · have := lexwrite_len s.data.toList
        omega
      · exact (Tr.sameB_bare _ _).2 hx2.symm
      · exact (Tr.sameB_bare _ _).2 hw2.symm
    · exact reads_no s w hs hw hl h0
end Go.Proofs.YtooajmbpncmgjaaGreatDoor
