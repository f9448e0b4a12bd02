/- Layer 15's parser: a group, by contract. -/
import Derived.Test.YtooajmbpncmgjaaGreatDoorTreeP
namespace Go.Proofs.YtooajmbpncmgjaaGreatDoor
open Go.RowKit
attribute [local go_sem] fld_tok0 fld_tok1 fld_tok2

theorem valueP_deep (ts : List L.Tok) (h : Tr.signB (Tr.hd ts) [40] = true) : Tr.valueP 0 ts = .error (8, (Tr.hd ts).pos) := by
  unfold Tr.valueP; rw [if_pos h]
theorem valueP_in (f : Nat) (ts : List L.Tok) (h : Tr.signB (Tr.hd ts) [40] = true) : Tr.valueP (f + 1) ts = match Tr.groupL (Tr.valueP f) (ts.length + 1) [40] ts with
    | .error e => .error e
    | .ok (l, r) => match Tr.skipP [41] r with
      | .error e => .error e
      | .ok r => .ok (⟨6, [], 0, 0, (Tr.hd ts).pos, l⟩, r) := by
  rw [Tr.valueP, if_pos h]; rfl

set_option maxHeartbeats 1000000 in
theorem group_deep {lim B : Nat} {T : List L.Tok} : Groups lim B T 40 0 := by
  intro w k h hl hw hg
  have hv := valueP_deep (T.drop k) (by rw [hd_drop T k h.lt]; exact hg)
  rw [hd_drop T k h.lt] at hv
  have hp0 := (PTo.start h hl).alloc (.cells #[.int .i64 0, .string ⟨#[]⟩, .int .i64 0, .int .i64 0, .int .i64 0, .slice none 0 0] 26)
  obtain ⟨tb, cap, hc⟩ := hp0.pos.cells
  have N1 := Lib.hid (now_at hc)
  have HP := Lib.hid hp0
  have HV := Lib.hid hv
  have hBlt := Nat.lt_of_lt_of_le h.bB hl
  generalize T[k]'h.lt = t at *
  have FA := Lib.hid fun w => fail_any 8 (t.pos : Nat) w
  clear hc hp0 hv hg hw
  go_enter Tryz.func80, Tryz.ntmps80
  go_wp2_with fail
  refine N1.out.mono ?_
  rintro e w1 ⟨rfl, hb1⟩
  have hz1 := hb1.size
  rw [World.size_alloc] at hz1
  have hpp := HP.out.below hb1
  obtain ⟨c1, c2, f1, f2⟩ := hpp.pos.regs
  have hbB : ¬ w1.heap.size = B := by omega
  have hB1 : B < w1.heap.size := by omega
  have HP1 := Lib.hid (hpp.alloc (.cells #[.int .i64 6, .string ⟨#[]⟩, .int .i64 0, .int .i64 0, .int .i64 (t.pos : Nat), .slice none 0 0] 26))
  clear hb1 hpp
  go_wp2_with fail
  refine (FA.out _).mono ?_
  rintro e w2 ⟨rfl, rfl⟩
  exact ⟨rfl, gives_bad HV.out ⟨rfl, HP1.out.only⟩⟩

def measW (T : List L.Tok) (wr : World) (B : Nat) : Nat := T.length - atOf wr B
theorem meas_eq {lim : Nat} {w : World} {B : Nat} {T : List L.Tok} {k nest : Nat} (h : PAt lim w B T k nest) : T.length - atOf w B = T.length - k := by rw [atOf_eq h]

set_option maxRecDepth 100000 in
set_option maxHeartbeats 8000000 in
theorem group_in {lim B : Nat} {T : List L.Tok} {nest f : Nat} (hV : Parses lim B T 57 (nest + 1) (Tr.valueP f)) (hne : nest < 40) : Groups lim B T nest (f + 1) := by
  intro w k h hl hw hg
  have hv := valueP_in f (T.drop k) (by rw [hd_drop T k h.lt]; exact hg)
  rw [hd_drop T k h.lt] at hv
  have hp0 := (PTo.start h hl).alloc (.cells #[.int .i64 0, .string ⟨#[]⟩, .int .i64 0, .int .i64 0, .int .i64 0, .slice none 0 0] 26)
  obtain ⟨tb, cap, hc⟩ := hp0.pos.cells
  have N1 := Lib.hid (now_at hc)
  have HP := Lib.hid hp0
  have HPI := Lib.hid hv
  have HV := Lib.hid hV
  have HW := Lib.hid hw
  have hBlt := Nat.lt_of_lt_of_le h.bB hl
  have hlen := h.len
  generalize T[k]'h.lt = t at *
  clear hc hp0 hv hg hw hV
  have n40 : ((nest : Int) == 40) = false := beq_eq_false_iff_ne.2 (by omega)
  go_enter Tryz.func80, Tryz.ntmps80
  go_wp2_with fail
  refine N1.out.mono ?_
  rintro e w1 ⟨rfl, hb1⟩
  have hz1 := hb1.size
  rw [World.size_alloc] at hz1
  have hpp := HP.out.below hb1
  obtain ⟨c1, c2, f1, f2⟩ := hpp.pos.regs
  have hbB : ¬ w1.heap.size = B := by omega
  have hB1 : B < w1.heap.size := by omega
  have hr1 := (hb1.block w.heap.size (by simp)).trans (heap_alloc_new w _)
  have hp2 := (hpp.deep_eq (nest + 1) (v := (nest : Int) + 1) (by omega)).alloc (.cells #[.int .i64 6, .string ⟨#[]⟩, .int .i64 0, .int .i64 0, .int .i64 (t.pos : Nat), .slice none 0 0] 26)
  have hr2 := row_alloc (row_far (i := 2) hr1 (show w.heap.size ≠ B by omega) (.int .i64 ((nest : Int) + 1))) (.cells #[.int .i64 6, .string ⟨#[]⟩, .int .i64 0, .int .i64 0, .int .i64 (t.pos : Nat), .slice none 0 0] 26)
  have hn2 := heap_alloc_new (w1.setCell ⟨B, 2, none⟩ (.int .i64 ((nest : Int) + 1))) (.cells #[.int .i64 6, .string ⟨#[]⟩, .int .i64 0, .int .i64 0, .int .i64 (t.pos : Nat), .slice none 0 0] 26)
  rw [show (w1.setCell ⟨B, 2, none⟩ (.int .i64 ((nest : Int) + 1))).heap.size = w1.heap.size by simp] at hn2
  have hcoll : Coll6 lim B T w _ w1.heap.size (nest + 1) k (.int .i64 6) (.string ⟨#[]⟩) (.int .i64 0) (.int .i64 0) (.int .i64 (t.pos : Nat)) [] (.slice none 0 0) [] (fun _ => False) 0 :=
    ⟨hp2, hr2, hn2, Kids.nil _ _ _, by omega, hp2.std HW.out⟩
  have HC := Lib.hid hcoll
  clear hb1 hpp hr1 hp2 hr2 hn2 hcoll
  go_wp2_with fail
  go_loopw [4] (fun sv wr => ∃ (s : List UInt8) (kk : Nat) (l : List Tr.Tree) (kv : Value) (vs : List Value) (S : Nat → Prop) (d : Nat), sv = .string ⟨s.toArray⟩ ∧ Hid (Coll6 lim B T w wr w1.heap.size (nest + 1) kk (.int .i64 6) (.string ⟨#[]⟩) (.int .i64 0) (.int .i64 0) (.int .i64 (t.pos : Nat)) l kv vs S d) ∧
      (((s = [40] ∨ s = [44]) ∧ Hid (Tr.GroupAt (Tr.valueP f) T k kk s l)) ∨ (s = [41] ∧ Hid (Tr.groupL (Tr.valueP f) ((T.drop k).length + 1) [40] (T.drop k) = .ok (l, T.drop kk)) ∧ Hid (Tr.signB (Tr.hd (T.drop kk)) [41] = true))) ∧ Hid (l.length ≤ kk)) (fun _ wr => T.length - atOf wr B)
  case atStart => exact ⟨[40], k, [], _, [], _, 0, rfl, HC.out, .inl ⟨.inl rfl, Lib.hid (Tr.group_start _ _ _)⟩, Lib.hid (by simp)⟩
  case round =>
    obtain ⟨s, kk, l, kv, vs, S, d, rfl, hc, hst, hll⟩ := hrel
    rcases hst with ⟨hs01, hu⟩ | ⟨rfl, hdone, hend⟩
    · have hne41 : ¬ s = [41] := by rintro rfl; rcases hs01 with h | h <;> simp at h
      have t1 : ((ByteArray.mk s.toArray).toList == [41]) = false := by rw [Lib.toList_data]; exact beq_eq_false_iff_ne.2 hne41
      have t2 : (s == [41]) = false := beq_eq_false_iff_ne.2 hne41
      have hu := hu.out
      have hdk := hd_drop T kk hc.out.way.pos.lt
      cases hs : Tr.signB (T[kk]'hc.out.way.pos.lt) s
      · have SK := Lib.hid (skip_bad hc.out.way.pos s hs)
        have hsd : Tr.signB (Tr.hd (T.drop kk)) s = false := by rw [hdk]; exact hs
        have hbad := HPI.out
        rw [Tr.group_sign hu hsd, hdk] at hbad
        have HBAD := Lib.hid hbad
        clear hbad hsd hs hu hs01 hne41 hdk
        go_wp2_with fail
        refine SK.out.mono ?_
        rintro e w2 ⟨rfl, hb2⟩
        exact ⟨rfl, gives_bad HBAD.out ⟨rfl, only_trans hc.out.way.only hb2⟩⟩
      · have SK := Lib.hid (skip_ok hc.out.way.pos hc.out.way.lim_le s hs)
        have hsd : Tr.signB (Tr.hd (T.drop kk)) s = true := by rw [hdk]; exact hs
        have HSD := Lib.hid hsd
        clear hsd hs hs01 hne41 hdk
        go_wp2_with fail
        refine SK.out.mono ?_
        rintro e w2 ⟨rfl, hp2⟩
        have hc2 := hc.out.call hp2
        have hc3 := hc2.below (w' := w2.drew) ⟨rfl, rfl, rfl, Nat.le_refl _, fun _ _ => rfl⟩
        have vc := HV.out w2.drew (kk + 1) hc3.way.pos hc3.way.lim_le hc3.std
        have n5 := cell_of_row _ _ 5 _ _ (0, 0) hc2.node
        have nf5 := frozen_of_row (i := 5) hc2.node
        have HC3 := Lib.hid hc3
        have hz2 : w1.heap.size < w2.heap.size := (Array.getElem?_eq_some_iff.1 hc2.node).1
        clear hp2 hc2 hc3
        cases hr : Tr.valueP f (T.drop (kk + 1)) with
        | error ft =>
          rw [hr] at vc
          have VC := Lib.hid vc
          have hbad := HPI.out
          rw [Tr.group_bad hu HSD.out hr] at hbad
          have HBAD := Lib.hid hbad
          clear vc hr hbad
          go_wp2_with fail
          refine wp_region_any (by kernel_rfl) ?_
          try (change wpAny _ _ _ _ _ _ _ (World.drew _))
          refine wpAny_take (i := 0) (v := ?_) rfl (by kernel_rfl) (by kernel_rfl) (by kernel_rfl) (fun _ _ _ h => h) (Or.inl ⟨by rfl, ?hy0⟩) ?_
          case hy0 => intro w; go_simp; with_reducible rfl
          refine wpAny_take (i := 2) (v := ?_) rfl (by kernel_rfl) (by kernel_rfl) (by kernel_rfl) (fun _ _ _ h => h) (Or.inl ⟨by rfl, ?hy2⟩) ?_
          case hy2 => intro w; go_simp; with_reducible rfl
          refine wpAny_ready (rs := [1, 3]) (by kernel_rfl) (by simp) ?_
          refine AllReady.cons rfl (fun K hK => ?_) (AllReady.cons rfl (fun K hK => ?_) AllReady.nil)
          · go_simp
            refine hK _ _ ?_
            clear hK K
            refine wpAny_ready (rs := [3]) (by kernel_rfl) (by simp) ?_
            refine AllReady.cons rfl (fun K hK => ?_) AllReady.nil
            go_simp
            refine VC.out.mono ?_
            rintro e w5 ⟨rfl, hb5⟩
            exact ⟨rfl, gives_bad HBAD.out ⟨rfl, only_trans HC3.out.way.only hb5⟩⟩
          · go_simp
            refine VC.out.mono ?_
            rintro e w5 ⟨rfl, hb5⟩
            exact ⟨rfl, gives_bad HBAD.out ⟨rfl, only_trans HC3.out.way.only hb5⟩⟩
        | ok x =>
          obtain ⟨tr, ts⟩ := x
          rw [hr] at vc
          have VC := Lib.hid vc
          have HR := Lib.hid hr
          obtain ⟨i0, hi0, hz0, hz1', hz2'⟩ := info_parts Tryz.infoNode
          clear vc hr
          go_wp2_with fail
          refine wp_region_any (by kernel_rfl) ?_
          try (change wpAny _ _ _ _ _ _ _ (World.drew _))
          refine wpAny_take (i := 0) (v := ?_) rfl (by kernel_rfl) (by kernel_rfl) (by kernel_rfl) (fun _ _ _ h => h) (Or.inl ⟨by rfl, ?hy0⟩) ?_
          case hy0 => intro w; go_simp; with_reducible rfl
          refine wpAny_take (i := 2) (v := ?_) rfl (by kernel_rfl) (by kernel_rfl) (by kernel_rfl) (fun _ _ _ h => h) (Or.inl ⟨by rfl, ?hy2⟩) ?_
          case hy2 => intro w; go_simp; with_reducible rfl
          refine wpAny_ready (rs := [1, 3]) (by kernel_rfl) (by simp) ?_
          refine AllReady.cons rfl (fun K hK => ?_) (AllReady.cons rfl (fun K hK => ?_) AllReady.nil)
          · go_simp
            refine hK _ _ ?_
            clear hK K
            refine wpAny_ready (rs := [3]) (by kernel_rfl) (by simp) ?_
            refine AllReady.cons rfl (fun K hK => ?_) AllReady.nil
            go_simp
            refine VC.out.mono ?_
            rintro e w3 ⟨k', v, S', d', rfl, hp3, hts, hn, hS'⟩
            obtain ⟨kv', hkv', rfl⟩ := hn.agg
            have q5 := (hp3.only.block w1.heap.size (by simp; omega) (fun e => by cases e; omega)).trans HC3.out.node
            have n5' := cell_of_row _ _ 5 _ _ (0, 0) q5
            have nf5' := frozen_of_row (i := 5) q5
            have hkids := HC3.out.kids.kept hp3.only (fun r e => by cases e; omega)
            have hz3 := hp3.only.size
            have hz4 : w1.heap.size < w3.heap.size := (Array.getElem?_eq_some_iff.1 q5).1
            have HK := Lib.hid hkids
            have HP3 := Lib.hid hp3
            have HQ5 := Lib.hid q5
            have HN := Lib.hid hn
            have HS' := Lib.hid hS'
            have HTS := Lib.hid hts
            have hkl : l.length ≤ 70000 := by have h1 := hll.out; have h2 := HC3.out.way.pos.lt; omega
            clear hkids hp3 q5 hn hS' hts
            refine hK _ _ ?_
            clear hK K
            refine wpAny_ready (rs := [4]) (by kernel_rfl) (by simp) ?_
            refine AllReady.cons rfl (fun K hK => ?_) AllReady.nil
            go_simp
            refine hK _ _ ?_
            clear hK K
            refine wpAny_ready (rs := [5]) (by kernel_rfl) (by simp) ?_
            refine AllReady.cons rfl (fun K hK => ?_) AllReady.nil
            refine step_append_lies _ (by rfl) _ _ _ (by rfl) w.heap.size 26 i0 _ 6 72 Tryz.underlying24 hi0 hz0 hz1' hz2' rfl (by omega) kv l.length (vs.flatMap fun v => v.cells.toList) (by rfl) (HK.out.row.alloc _)
              ⟨w3.heap.size, 0, none⟩ 1 1 [.int .i64 tr.kind, .string ⟨tr.text.toArray⟩, .int .i64 tr.num, .int .i64 tr.dim, .int .i64 tr.pos, kv'] (by rfl) (by rfl) (World.news_of_block (cs := #[.int .i64 tr.kind, .string ⟨tr.text.toArray⟩, .int .i64 tr.num, .int .i64 tr.dim, .int .i64 tr.pos, kv']) (t := 26) (fr := (0, 0)) (heap_alloc_new w3 _)) (one6 _ _ _ _ _ _ hkv')
              (by omega) (by unfold maxLen; omega) (by omega) (by simp; have h1 := HC3.out.way.size; simp at h1 hz3; omega) (w3.heap.size + 1) (by simp) ?_
            intro g cap w4 hown hgrow hat hlt
            have HAP := Lib.hid (append_box HQ5.out (fun c hc => (HK.out.own c hc).2.1) hgrow)
            have c5 := cell_of_row _ _ 5 _ _ (0, 0) HAP.out
            have cf5 := frozen_of_row (i := 5) HAP.out
            refine hK _ _ ?_
            clear hK K
            refine wpAny_ready (rs := [6]) (by kernel_rfl) (by simp) ?_
            refine AllReady.cons rfl (fun K hK => ?_) AllReady.nil
            go_simp
            refine hK _ _ ?_
            clear hK K
            refine wpAny_ready (rs := [7]) (by kernel_rfl) (by simp) ?_
            refine AllReady.cons rfl (fun K hK => ?_) AllReady.nil
            go_simp
            refine hK _ _ ?_
            clear hK K
            refine wpAny_done (by kernel_rfl) ?_ _
            have HCP := Lib.hid (coll_push HC3.out HP3.out HN.out HS'.out hown hgrow hat hlt)
            have hr := HR.out
            rw [HTS.out] at hr
            have hsh := Tr.value_len f _ _ _ hr
            have hlt2 := HCP.out.way.pos.lt
            simp at hsh
            obtain ⟨tb3, cap3, hcc3⟩ := HCP.out.way.pos.cells
            have hdk3 := hd_drop T k' hlt2
            have IS3 := Lib.hid (is_at hcc3 [41])
            clear hcc3
            cases he : Tr.signB (T[k']'hlt2) [41]
            · rw [he] at IS3
              have hst3 : Tr.signB (Tr.hd (T.drop k')) [41] = false := by rw [hdk3]; exact he
              have HG := Lib.hid (Tr.group_step hu HSD.out hr hst3 (by simp; omega))
              clear he hst3 hdk3 hr
              go_wp2_with fail
              refine IS3.out.mono ?_
              rintro e w6 ⟨rfl, hb6⟩
              have HC6 := Lib.hid (HCP.out.below hb6)
              clear hb6
              go_wp2_with fail
              refine ⟨⟨[44], k', l ++ [tr], _, _, _, _, rfl, HC6.out, .inl ⟨.inr rfl, HG⟩, Lib.hid (by have := hll.out; simp; omega)⟩, ?_⟩
              rw [meas_eq HC6.out.way.pos, meas_eq hc.out.way.pos]
              omega
            · rw [he] at IS3
              have hst3 : Tr.signB (Tr.hd (T.drop k')) [41] = true := by rw [hdk3]; exact he
              have HG := Lib.hid (Tr.group_last hu HSD.out hr hst3)
              have HE := Lib.hid hst3
              clear he hst3 hdk3 hr
              go_wp2_with fail
              refine IS3.out.mono ?_
              rintro e w6 ⟨rfl, hb6⟩
              have HC6 := Lib.hid (HCP.out.below hb6)
              clear hb6
              go_wp2_with fail
              refine ⟨⟨[41], k', l ++ [tr], _, _, _, _, rfl, HC6.out, .inr ⟨rfl, HG, HE⟩, Lib.hid (by have := hll.out; simp; omega)⟩, ?_⟩
              rw [meas_eq HC6.out.way.pos, meas_eq hc.out.way.pos]
              omega
          · go_simp
            refine VC.out.mono ?_
            rintro e w3 ⟨k', v, S', d', rfl, hp3, hts, hn, hS'⟩
            obtain ⟨kv', hkv', rfl⟩ := hn.agg
            have q5 := (hp3.only.block w1.heap.size (by simp; omega) (fun e => by cases e; omega)).trans HC3.out.node
            have n5' := cell_of_row _ _ 5 _ _ (0, 0) q5
            have nf5' := frozen_of_row (i := 5) q5
            have hkids := HC3.out.kids.kept hp3.only (fun r e => by cases e; omega)
            have hz3 := hp3.only.size
            have hz4 : w1.heap.size < w3.heap.size := (Array.getElem?_eq_some_iff.1 q5).1
            have HK := Lib.hid hkids
            have HP3 := Lib.hid hp3
            have HQ5 := Lib.hid q5
            have HN := Lib.hid hn
            have HS' := Lib.hid hS'
            have HTS := Lib.hid hts
            have hkl : l.length ≤ 70000 := by have h1 := hll.out; have h2 := HC3.out.way.pos.lt; omega
            clear hkids hp3 q5 hn hS' hts
            refine hK _ _ ?_
            clear hK K
            refine wpAny_ready (rs := [1, 4]) (by kernel_rfl) (by simp) ?_
            refine AllReady.cons rfl (fun K hK => ?_) (AllReady.cons rfl (fun K hK => ?_) AllReady.nil)
            · go_simp
              refine hK _ _ ?_
              clear hK K
              refine wpAny_ready (rs := [4]) (by kernel_rfl) (by simp) ?_
              refine AllReady.cons rfl (fun K hK => ?_) AllReady.nil
              go_simp
              refine hK _ _ ?_
              clear hK K
              refine wpAny_ready (rs := [5]) (by kernel_rfl) (by simp) ?_
              refine AllReady.cons rfl (fun K hK => ?_) AllReady.nil
              refine step_append_lies _ (by rfl) _ _ _ (by rfl) w.heap.size 26 i0 _ 6 72 Tryz.underlying24 hi0 hz0 hz1' hz2' rfl (by omega) kv l.length (vs.flatMap fun v => v.cells.toList) (by rfl) (HK.out.row.alloc _)
                ⟨w3.heap.size, 0, none⟩ 1 1 [.int .i64 tr.kind, .string ⟨tr.text.toArray⟩, .int .i64 tr.num, .int .i64 tr.dim, .int .i64 tr.pos, kv'] (by rfl) (by rfl) (World.news_of_block (cs := #[.int .i64 tr.kind, .string ⟨tr.text.toArray⟩, .int .i64 tr.num, .int .i64 tr.dim, .int .i64 tr.pos, kv']) (t := 26) (fr := (0, 0)) (heap_alloc_new w3 _)) (one6 _ _ _ _ _ _ hkv')
                (by omega) (by unfold maxLen; omega) (by omega) (by simp; have h1 := HC3.out.way.size; simp at h1 hz3; omega) (w3.heap.size + 1) (by simp) ?_
              intro g cap w4 hown hgrow hat hlt
              have HAP := Lib.hid (append_box HQ5.out (fun c hc => (HK.out.own c hc).2.1) hgrow)
              have c5 := cell_of_row _ _ 5 _ _ (0, 0) HAP.out
              have cf5 := frozen_of_row (i := 5) HAP.out
              refine hK _ _ ?_
              clear hK K
              refine wpAny_ready (rs := [6]) (by kernel_rfl) (by simp) ?_
              refine AllReady.cons rfl (fun K hK => ?_) AllReady.nil
              go_simp
              refine hK _ _ ?_
              clear hK K
              refine wpAny_ready (rs := [7]) (by kernel_rfl) (by simp) ?_
              refine AllReady.cons rfl (fun K hK => ?_) AllReady.nil
              go_simp
              refine hK _ _ ?_
              clear hK K
              refine wpAny_done (by kernel_rfl) ?_ _
              have HCP := Lib.hid (coll_push HC3.out HP3.out HN.out HS'.out hown hgrow hat hlt)
              have hr := HR.out
              rw [HTS.out] at hr
              have hsh := Tr.value_len f _ _ _ hr
              have hlt2 := HCP.out.way.pos.lt
              simp at hsh
              obtain ⟨tb3, cap3, hcc3⟩ := HCP.out.way.pos.cells
              have hdk3 := hd_drop T k' hlt2
              have IS3 := Lib.hid (is_at hcc3 [41])
              clear hcc3
              cases he : Tr.signB (T[k']'hlt2) [41]
              · rw [he] at IS3
                have hst3 : Tr.signB (Tr.hd (T.drop k')) [41] = false := by rw [hdk3]; exact he
                have HG := Lib.hid (Tr.group_step hu HSD.out hr hst3 (by simp; omega))
                clear he hst3 hdk3 hr
                go_wp2_with fail
                refine IS3.out.mono ?_
                rintro e w6 ⟨rfl, hb6⟩
                have HC6 := Lib.hid (HCP.out.below hb6)
                clear hb6
                go_wp2_with fail
                refine ⟨⟨[44], k', l ++ [tr], _, _, _, _, rfl, HC6.out, .inl ⟨.inr rfl, HG⟩, Lib.hid (by have := hll.out; simp; omega)⟩, ?_⟩
                rw [meas_eq HC6.out.way.pos, meas_eq hc.out.way.pos]
                omega
              · rw [he] at IS3
                have hst3 : Tr.signB (Tr.hd (T.drop k')) [41] = true := by rw [hdk3]; exact he
                have HG := Lib.hid (Tr.group_last hu HSD.out hr hst3)
                have HE := Lib.hid hst3
                clear he hst3 hdk3 hr
                go_wp2_with fail
                refine IS3.out.mono ?_
                rintro e w6 ⟨rfl, hb6⟩
                have HC6 := Lib.hid (HCP.out.below hb6)
                clear hb6
                go_wp2_with fail
                refine ⟨⟨[41], k', l ++ [tr], _, _, _, _, rfl, HC6.out, .inr ⟨rfl, HG, HE⟩, Lib.hid (by have := hll.out; simp; omega)⟩, ?_⟩
                rw [meas_eq HC6.out.way.pos, meas_eq hc.out.way.pos]
                omega
            · go_simp
              refine hK _ _ ?_
              clear hK K
              refine wpAny_ready (rs := [1]) (by kernel_rfl) (by simp) ?_
              refine AllReady.cons rfl (fun K hK => ?_) AllReady.nil
              go_simp
              refine hK _ _ ?_
              clear hK K
              refine wpAny_ready (rs := [5]) (by kernel_rfl) (by simp) ?_
              refine AllReady.cons rfl (fun K hK => ?_) AllReady.nil
              refine step_append_lies _ (by rfl) _ _ _ (by rfl) w.heap.size 26 i0 _ 6 72 Tryz.underlying24 hi0 hz0 hz1' hz2' rfl (by omega) kv l.length (vs.flatMap fun v => v.cells.toList) (by rfl) (HK.out.row.alloc _)
                ⟨w3.heap.size, 0, none⟩ 1 1 [.int .i64 tr.kind, .string ⟨tr.text.toArray⟩, .int .i64 tr.num, .int .i64 tr.dim, .int .i64 tr.pos, kv'] (by rfl) (by rfl) (World.news_of_block (cs := #[.int .i64 tr.kind, .string ⟨tr.text.toArray⟩, .int .i64 tr.num, .int .i64 tr.dim, .int .i64 tr.pos, kv']) (t := 26) (fr := (0, 0)) (heap_alloc_new w3 _)) (one6 _ _ _ _ _ _ hkv')
                (by omega) (by unfold maxLen; omega) (by omega) (by simp; have h1 := HC3.out.way.size; simp at h1 hz3; omega) (w3.heap.size + 1) (by simp) ?_
              intro g cap w4 hown hgrow hat hlt
              have HAP := Lib.hid (append_box HQ5.out (fun c hc => (HK.out.own c hc).2.1) hgrow)
              have c5 := cell_of_row _ _ 5 _ _ (0, 0) HAP.out
              have cf5 := frozen_of_row (i := 5) HAP.out
              refine hK _ _ ?_
              clear hK K
              refine wpAny_ready (rs := [6]) (by kernel_rfl) (by simp) ?_
              refine AllReady.cons rfl (fun K hK => ?_) AllReady.nil
              go_simp
              refine hK _ _ ?_
              clear hK K
              refine wpAny_ready (rs := [7]) (by kernel_rfl) (by simp) ?_
              refine AllReady.cons rfl (fun K hK => ?_) AllReady.nil
              go_simp
              refine hK _ _ ?_
              clear hK K
              refine wpAny_done (by kernel_rfl) ?_ _
              have HCP := Lib.hid (coll_push HC3.out HP3.out HN.out HS'.out hown hgrow hat hlt)
              have hr := HR.out
              rw [HTS.out] at hr
              have hsh := Tr.value_len f _ _ _ hr
              have hlt2 := HCP.out.way.pos.lt
              simp at hsh
              obtain ⟨tb3, cap3, hcc3⟩ := HCP.out.way.pos.cells
              have hdk3 := hd_drop T k' hlt2
              have IS3 := Lib.hid (is_at hcc3 [41])
              clear hcc3
              cases he : Tr.signB (T[k']'hlt2) [41]
              · rw [he] at IS3
                have hst3 : Tr.signB (Tr.hd (T.drop k')) [41] = false := by rw [hdk3]; exact he
                have HG := Lib.hid (Tr.group_step hu HSD.out hr hst3 (by simp; omega))
                clear he hst3 hdk3 hr
                go_wp2_with fail
                refine IS3.out.mono ?_
                rintro e w6 ⟨rfl, hb6⟩
                have HC6 := Lib.hid (HCP.out.below hb6)
                clear hb6
                go_wp2_with fail
                refine ⟨⟨[44], k', l ++ [tr], _, _, _, _, rfl, HC6.out, .inl ⟨.inr rfl, HG⟩, Lib.hid (by have := hll.out; simp; omega)⟩, ?_⟩
                rw [meas_eq HC6.out.way.pos, meas_eq hc.out.way.pos]
                omega
              · rw [he] at IS3
                have hst3 : Tr.signB (Tr.hd (T.drop k')) [41] = true := by rw [hdk3]; exact he
                have HG := Lib.hid (Tr.group_last hu HSD.out hr hst3)
                have HE := Lib.hid hst3
                clear he hst3 hdk3 hr
                go_wp2_with fail
                refine IS3.out.mono ?_
                rintro e w6 ⟨rfl, hb6⟩
                have HC6 := Lib.hid (HCP.out.below hb6)
                clear hb6
                go_wp2_with fail
                refine ⟨⟨[41], k', l ++ [tr], _, _, _, _, rfl, HC6.out, .inr ⟨rfl, HG, HE⟩, Lib.hid (by have := hll.out; simp; omega)⟩, ?_⟩
                rw [meas_eq HC6.out.way.pos, meas_eq hc.out.way.pos]
                omega
    · have hdk := hd_drop T kk hc.out.way.pos.lt
      have hs : Tr.signB (T[kk]'hc.out.way.pos.lt) [41] = true := by rw [← hdk]; exact hend.out
      have SK := Lib.hid (skip_ok hc.out.way.pos hc.out.way.lim_le [41] hs)
      have hfin := HPI.out
      rw [hdone.out] at hfin
      dsimp only at hfin
      rw [show Tr.skipP [41] (T.drop kk) = .ok (T.drop (kk + 1)) by unfold Tr.skipP; rw [if_pos hend.out, tail_drop]] at hfin
      have HFIN := Lib.hid hfin
      clear hfin hs hdk
      go_wp2_with fail
      refine SK.out.mono ?_
      rintro e w2 ⟨rfl, hp2⟩
      have hc2 := hc.out.call hp2
      obtain ⟨c1', c2', f1', f2'⟩ := hc2.way.pos.regs
      have HC2 := Lib.hid hc2
      have hz2 : w1.heap.size < w2.heap.size := (Array.getElem?_eq_some_iff.1 hc2.node).1
      have q0 := cell_of_row _ _ 0 _ _ (0, 0) hc2.node
      have q1 := cell_of_row _ _ 1 _ _ (0, 0) hc2.node
      have q2 := cell_of_row _ _ 2 _ _ (0, 0) hc2.node
      have q3 := cell_of_row _ _ 3 _ _ (0, 0) hc2.node
      have q4 := cell_of_row _ _ 4 _ _ (0, 0) hc2.node
      have q5 := cell_of_row _ _ 5 _ _ (0, 0) hc2.node
      have hBb : ¬ B = w1.heap.size := by omega
      have HKV := Lib.hid (ownsRow_one hc2.kids.row)
      have HP3 := Lib.hid (hc2.way.deep_eq nest (v := (nest : Int)) rfl)
      have HK3 := Lib.hid (hc2.kids.kept (grownBy_setCell2 w2 B 2 (.int .i64 (nest : Int))) (fun r e => by cases e; omega))
      have HR3 := Lib.hid (row_far (i := 2) hc2.res (show w.heap.size ≠ B by omega) (.int .i64 (nest : Int)))
      clear hp2 hc2
      go_wp2_with ((with_reducible refine wpList_at ⟨none, .store 26 (.tmp 2) (.tmp 47), _, _, _, _⟩ ?_); go_must (refine wpList_store_box rfl 26 (.tmp 2) (.tmp 47) rfl w.heap.size #[.int .i64 6, .string ⟨#[]⟩, .int .i64 0, .int .i64 0, .int .i64 (t.pos : Nat), kv] rfl rfl 26 _ HR3.out (by kernel_rfl) rfl (node_cells _ _ _ _ _ _ HKV.out) ?_; intro w5 hg5 hr5))
      have p0 := cell_of_row _ _ 0 _ _ (0, 0) hr5
      have p1 := cell_of_row _ _ 1 _ _ (0, 0) hr5
      have p2 := cell_of_row _ _ 2 _ _ (0, 0) hr5
      have p3 := cell_of_row _ _ 3 _ _ (0, 0) hr5
      have p4 := cell_of_row _ _ 4 _ _ (0, 0) hr5
      have p5 := cell_of_row _ _ 5 _ _ (0, 0) hr5
      refine bodyPost_ret (v := .agg #[.int .i64 6, .string ⟨#[]⟩, .int .i64 0, .int .i64 0, .int .i64 (t.pos : Nat), kv]) ?_ rfl ?_
      · simp [results, Tryz.results80, go_sem, p0, p1, p2, p3, p4, p5]
      · refine gives_ok HFIN.out _ _ (HP3.out.box (Nat.le_refl _) hg5) rfl ((HK3.out.kept hg5 (fun r e => by cases e; omega)).node 6 0 0 _ []) (fun c hc => ?_)
        have h1 := (HK3.out.kept hg5 (fun r e => by cases e; omega)).blocks c hc
        omega

theorem groups_any {lim B : Nat} {T : List L.Tok} : ∀ (f nest : Nat), nest + f = 40 → Groups lim B T nest f
  | 0, nest, h => by obtain rfl : nest = 40 := by omega
                     exact group_deep
  | f + 1, nest, h => group_in (pvalue_any (groups_any f (nest + 1) (by omega))) (by omega)
theorem values_any {lim B : Nat} {T : List L.Tok} : Parses lim B T 57 0 (Tr.valueP 40) := pvalue_any (groups_any 40 0 rfl)
end Go.Proofs.YtooajmbpncmgjaaGreatDoor
