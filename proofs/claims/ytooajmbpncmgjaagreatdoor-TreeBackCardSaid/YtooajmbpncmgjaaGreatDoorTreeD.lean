/- Layer 15's parser: a declaration, by contract. -/
import Derived.Test.YtooajmbpncmgjaaGreatDoorTreeG
namespace Go.Proofs.YtooajmbpncmgjaaGreatDoor
open Go.RowKit
attribute [local go_sem] fld_tok0 fld_tok1 fld_tok2

theorem declP_bad (ts : List L.Tok) (h : (Tr.hd ts).kind ≠ 0) : Tr.declP ts = .error (2, (Tr.hd ts).pos) := by
  unfold Tr.declP Tr.takeP; rw [if_neg (by simpa using h)]
theorem declP_in (ts : List L.Tok) (h : (Tr.hd ts).kind = 0) (ws : List Tr.Tree) (r2 : List L.Tok) (hw : Tr.wordsL (ts.tail.length + 1) ts.tail = (ws, r2)) : Tr.declP ts = match Tr.skipP [123] r2 with
    | .error e => .error e
    | .ok r => match Tr.untilL Tr.propP [125] (r.length + 1) r with
      | .error e => .error e
      | .ok (l, r) => match Tr.skipP [125] r with
        | .error e => .error e
        | .ok r => .ok (⟨1, (Tr.hd ts).text, 0, 0, (Tr.hd ts).pos, ws ++ l⟩, r) := by
  unfold Tr.declP Tr.takeP; rw [if_pos (by simpa using h)]; dsimp only; rw [hw]; rfl

set_option maxHeartbeats 1000000 in
theorem decl_bad {lim : Nat} {w : World} {B : Nat} {T : List L.Tok} {k nest : Nat} (h : PAt lim w B T k nest) (hk : (T[k]'h.lt).kind ≠ 0) :
    Calls Tryz.prog 25 #[.pointer (some ⟨B, 0, none⟩)] w (Panics w B (2, (T[k]'h.lt).pos)) := by
  have TK := Lib.hid (take_bad (h.grown (World.grownBy_alloc w (.cells #[.int .i64 0, .string ⟨#[]⟩, .int .i64 0, .int .i64 0, .int .i64 0, .slice none 0 0] 26) none) (fun r e => by cases e)) 0 hk)
  clear hk
  generalize T[k]'h.lt = t at *
  clear h
  go_enter Tryz.func25, Tryz.ntmps25
  go_wp2_with fail
  refine TK.out.mono ?_
  rintro e w1 ⟨rfl, hb1⟩
  exact ⟨rfl, rfl, only_trans (only_below ((Below.refl _ _).alloc (Nat.le_refl _) _) _) hb1⟩

/-- leaf, whatever stands next. -/
theorem leaf_any {lim : Nat} {w : World} {B : Nat} {T : List L.Tok} {k nest : Nat} (h : PAt lim w B T k nest) (hl : lim ≤ w.heap.size) : ∃ (b : Bool) (c : Int) (tx : List UInt8) (p : Int) (k' : Nat),
    (Calls Tryz.prog 38 #[.pointer (some ⟨B, 0, none⟩)] w fun e w' =>
      e = .returned (.tuple #[.agg #[.int .i64 c, .string ⟨tx.toArray⟩, .int .i64 0, .int .i64 0, .int .i64 p, .slice none 0 0], .bool b]) ∧ PTo lim B T w w' k' nest) ∧
    (b = true → Tr.leafP (T.drop k) = some (⟨c, tx, 0, 0, p, []⟩, T.drop k') ∧ k < k') ∧ (b = false → Tr.leafP (T.drop k) = none ∧ k' = k) := by
  have hd := hd_drop T k h.lt
  by_cases h0 : (T[k]'h.lt).kind = 0
  · exact ⟨true, 3, _, _, k + 1, leaf_word h hl h0, fun _ => ⟨by rw [leafP_word _ (by rw [hd]; exact h0), hd, tail_drop], by omega⟩, (fun e => by cases e)⟩
  · by_cases h2 : (T[k]'h.lt).kind = 2
    · exact ⟨true, 4, _, _, k + 1, leaf_text h hl h2, fun _ => ⟨by rw [leafP_text _ (by rw [hd]; exact h2), hd, tail_drop], by omega⟩, (fun e => by cases e)⟩
    · exact ⟨false, 0, [], 0, k, leaf_no h hl h0 h2, (fun e => by cases e), fun _ => ⟨leafP_no _ (by rw [hd]; exact h0) (by rw [hd]; exact h2), rfl⟩⟩

def boolNat (v : Value) : Nat := match v with | .bool true => 1 | _ => 0
/-- Between two words: the next one (if b) lies in block wb. -/
structure WordAt (T : List L.Tok) (n0 b k1 kk wb : Nat) (wr : World) (ok : Bool) (l : List Tr.Tree) (kv : Value) (S : Nat → Prop) (c : Int) (tx : List UInt8) (p : Int) : Prop where
  box : wr.heap[wb]? = some (.cells #[.int .i64 c, .string ⟨tx.toArray⟩, .int .i64 0, .int .i64 0, .int .i64 p, .slice none 0 0] 26 (0, 0))
  gt : n0 < wb
  ne : wb ≠ b
  low : ∀ x, (S x ∨ kv.ownBlock = some x) → x < wb
  yes : ok = true → ∃ k0, Tr.WordsAt T k1 k0 l ∧ Tr.leafP (T.drop k0) = some (⟨c, tx, 0, 0, p, []⟩, T.drop kk) ∧ k0 < kk ∧ l.length ≤ k0
  no : ok = false → Tr.WordsAt T k1 kk l ∧ Tr.leafP (T.drop kk) = none ∧ l.length ≤ kk

set_option maxRecDepth 100000 in
set_option maxHeartbeats 8000000 in
theorem decl_good {lim : Nat} {w : World} {B : Nat} {T : List L.Tok} {k nest : Nat} (hV : Parses lim B T 41 nest Tr.propP) (h : PAt lim w B T k nest) (hl : lim ≤ w.heap.size) (hw : Std w) (hk : (T[k]'h.lt).kind = 0) :
    Calls Tryz.prog 25 #[.pointer (some ⟨B, 0, none⟩)] w (Gives lim B T w nest (Tr.declP (T.drop k))) := by
  have hd := hd_drop T k h.lt
  have hpi := declP_in (T.drop k) (by rw [hd]; exact hk)
  rw [hd, tail_drop] at hpi
  have hBlt := Nat.lt_of_lt_of_le h.bB hl
  have hlen := h.len
  have hp := (PTo.start h hl).alloc (.cells #[.int .i64 0, .string ⟨#[]⟩, .int .i64 0, .int .i64 0, .int .i64 0, .slice none 0 0] 26)
  have TKc := Lib.hid (take_ok hp.pos hp.lim_le 0 hk (by decide))
  have HP := Lib.hid hp
  have HPI := Lib.hid hpi
  have HW := Lib.hid hw
  have HV := Lib.hid hV
  generalize T[k]'h.lt = t at *
  clear hp hpi hw hV hd hk
  go_enter Tryz.func25, Tryz.ntmps25
  go_wp2_with fail
  refine TKc.out.mono ?_
  rintro e w1 ⟨rfl, hp1⟩
  have hz1 := hp1.size
  rw [World.size_alloc] at hz1
  have hr1 : w1.heap[w.heap.size]? = some (.cells #[.int .i64 0, .string ⟨#[]⟩, .int .i64 0, .int .i64 0, .int .i64 0, .slice none 0 0] 26 (0, 0)) := (hp1.only.block w.heap.size (by simp) (fun e => by cases e; omega)).trans (heap_alloc_new w _)
  have hp2 := ((HP.out.call hp1).alloc (.cells #[.int .i64 (t.kind : Nat), .string ⟨t.text.toArray⟩, .int .i64 (t.pos : Nat)] 41)).alloc (.cells #[.int .i64 1, .string ⟨t.text.toArray⟩, .int .i64 0, .int .i64 0, .int .i64 (t.pos : Nat), .slice none 0 0] 26)
  have hr2 := row_alloc (row_alloc hr1 (.cells #[.int .i64 (t.kind : Nat), .string ⟨t.text.toArray⟩, .int .i64 (t.pos : Nat)] 41)) (.cells #[.int .i64 1, .string ⟨t.text.toArray⟩, .int .i64 0, .int .i64 0, .int .i64 (t.pos : Nat), .slice none 0 0] 26)
  have hn2 := heap_alloc_new (w1.alloc (.cells #[.int .i64 (t.kind : Nat), .string ⟨t.text.toArray⟩, .int .i64 (t.pos : Nat)] 41)) (.cells #[.int .i64 1, .string ⟨t.text.toArray⟩, .int .i64 0, .int .i64 0, .int .i64 (t.pos : Nat), .slice none 0 0] 26)
  rw [World.size_alloc] at hn2
  have hcoll : Coll6 lim B T w _ (w1.heap.size + 1) nest (k + 1) (.int .i64 1) (.string ⟨t.text.toArray⟩) (.int .i64 0) (.int .i64 0) (.int .i64 (t.pos : Nat)) [] (.slice none 0 0) [] (fun _ => False) 0 :=
    ⟨hp2, hr2, hn2, Kids.nil _ _ _, by omega, hp2.std HW.out⟩
  obtain ⟨ok1, c1, tx1, ps1, kk1, lc1, ly1, ln1⟩ := leaf_any hcoll.way.pos hcoll.way.lim_le
  have LC1 := Lib.hid lc1
  have LY1 := Lib.hid ly1
  have LN1 := Lib.hid ln1
  have HC := Lib.hid hcoll
  clear hp1 hr1 hp2 hr2 hn2 hcoll lc1 ly1 ln1
  go_wp2_with fail
  refine LC1.out.mono ?_
  rintro e w2 ⟨rfl, hp2⟩
  have hc2 := (HC.out.call hp2).below ((Below.refl _ w2).alloc (Nat.le_refl _) (.cells #[.int .i64 c1, .string ⟨tx1.toArray⟩, .int .i64 0, .int .i64 0, .int .i64 ps1, .slice none 0 0] 26))
  have hz2 : w1.heap.size + 1 < w2.heap.size := by have := hp2.size; simp at this; omega
  have HC2 := Lib.hid hc2
  have HWA := Lib.hid (show WordAt T w.heap.size (w1.heap.size + 1) (k + 1) kk1 w2.heap.size (w2.alloc (.cells #[.int .i64 c1, .string ⟨tx1.toArray⟩, .int .i64 0, .int .i64 0, .int .i64 ps1, .slice none 0 0] 26)) ok1 [] (.slice none 0 0) (fun _ => False) c1 tx1 ps1 from
    ⟨heap_alloc_new _ _, by omega, by omega, fun x hx => by rcases hx with hx | hx; exact hx.elim; simp [Value.ownBlock] at hx, fun e => ⟨k + 1, Tr.words_start _ _, (LY1.out e).1, (LY1.out e).2, by simp⟩, fun e => by obtain ⟨a, b⟩ := LN1.out e; subst b; exact ⟨Tr.words_start _ _, a, by simp⟩⟩)
  clear hp2 hc2
  go_wp2_with fail
  go_loopw [5, 6] (fun t5 t6 wr => ∃ (ok : Bool) (wb kk : Nat) (c : Int) (tx : List UInt8) (p : Int) (l : List Tr.Tree) (kv : Value) (vs : List Value) (S : Nat → Prop) (d : Nat), t5 = .pointer (some ⟨wb, 0, none⟩) ∧ t6 = .bool ok ∧ Hid (Coll6 lim B T w wr (w1.heap.size + 1) nest kk (.int .i64 1) (.string ⟨t.text.toArray⟩) (.int .i64 0) (.int .i64 0) (.int .i64 (t.pos : Nat)) l kv vs S d) ∧
      Hid (WordAt T w.heap.size (w1.heap.size + 1) (k + 1) kk wb wr ok l kv S c tx p)) (fun _ t6 wr => 2 * (T.length - atOf wr B) + boolNat t6)
  case atStart => exact ⟨ok1, w2.heap.size, kk1, c1, tx1, ps1, [], _, [], _, 0, rfl, rfl, HC2.out, HWA.out⟩
  case round =>
    obtain ⟨ok, wb, kk, c, tx, p, ws, kv, vs, S, d, rfl, rfl, hc, hwa⟩ := hrel
    clear HC HC2 HWA LC1 LY1 LN1
    cases ok
    · obtain ⟨hwa1, hwa2, hwa3⟩ := hwa.out.no rfl
      have hws := Tr.words_end hwa1 hwa2
      have hpi := HPI.out _ _ hws
      have HPI2 := Lib.hid hpi
      have HL3 := Lib.hid hwa3
      have hdk := hd_drop T kk hc.out.way.pos.lt
      clear hws hpi hwa1 hwa2 hwa3
      cases hs : Tr.signB (T[kk]'hc.out.way.pos.lt) [123]
      · have SK := Lib.hid (skip_bad hc.out.way.pos [123] hs)
        have hbad := HPI2.out
        rw [show Tr.skipP [123] (T.drop kk) = .error (2, (T[kk]'hc.out.way.pos.lt).pos) by unfold Tr.skipP; rw [hdk, if_neg (by rw [hs]; simp)]] at hbad
        have HBAD := Lib.hid hbad
        clear hbad hs hdk
        go_wp2_with fail
        refine SK.out.mono ?_
        rintro e w3 ⟨rfl, hb3⟩
        exact ⟨rfl, gives_bad HBAD.out ⟨rfl, only_trans hc.out.way.only hb3⟩⟩
      · have SK := Lib.hid (skip_ok hc.out.way.pos hc.out.way.lim_le [123] hs)
        have hin := HPI2.out
        rw [show Tr.skipP [123] (T.drop kk) = .ok (T.drop (kk + 1)) by unfold Tr.skipP; rw [hdk, if_pos hs, tail_drop]] at hin
        dsimp only at hin
        have HIN := Lib.hid hin
        clear hin hs hdk HPI2
        go_wp2_with fail
        refine SK.out.mono ?_
        rintro e w3 ⟨rfl, hp3⟩
        have HC3 := Lib.hid (hc.out.call hp3)
        clear hp3
        go_wp2_with fail
        go_loopw [34] (fun _ wr => ∃ (k3 : Nat) (lp : List Tr.Tree) (kv : Value) (vs : List Value) (S : Nat → Prop) (d : Nat), Hid (Coll6 lim B T w wr (w1.heap.size + 1) nest k3 (.int .i64 1) (.string ⟨t.text.toArray⟩) (.int .i64 0) (.int .i64 0) (.int .i64 (t.pos : Nat)) (ws ++ lp) kv vs S d) ∧ Hid (Tr.UntilAt Tr.propP [125] T (kk + 1) k3 lp) ∧ Hid (ws.length + lp.length ≤ k3)) (fun _ wr => T.length - atOf wr B)
        case atStart => exact ⟨kk + 1, [], kv, vs, S, d, Lib.hid (by rw [List.append_nil]; exact HC3.out), Lib.hid (Tr.until_start _ _ _ _), Lib.hid (by have := HL3.out; simp; omega)⟩
        case round =>
          obtain ⟨k3, lp, kv, vs, S, d, hc, hu, hll2⟩ := hrel
          obtain ⟨l, hl'⟩ : ∃ l, l = ws ++ lp := ⟨_, rfl⟩
          rw [← hl'] at hc
          have hll : Hid (l.length ≤ k3) := Lib.hid (by rw [hl']; have := hll2.out; simp; omega)
          have HL := Lib.hid hl'
          clear hl' HC3 HL3 hwa hll2
          obtain ⟨tb, cap, hcc⟩ := hc.out.way.pos.cells
          have hdk := hd_drop T k3 hc.out.way.pos.lt
          have IS := Lib.hid (is_at hcc [125])
          cases hs : Tr.signB (T[k3]'hc.out.way.pos.lt) [125]
          · rw [hs] at IS
            have hsd : Tr.signB (Tr.hd (T.drop k3)) [125] = false := by rw [hdk]; exact hs
            have HSD := Lib.hid hsd
            clear hsd hs hcc hdk
            go_wp2_with fail
            refine IS.out.mono ?_
            rintro e w2 ⟨rfl, hb2⟩
            have hc2 := hc.out.below hb2
            have hc3 := hc2.below (w' := w2.drew) ⟨rfl, rfl, rfl, Nat.le_refl _, fun _ _ => rfl⟩
            have vc := HV.out w2.drew k3 hc3.way.pos hc3.way.lim_le hc3.std
            have n5 := cell_of_row _ _ 5 _ _ (0, 0) hc2.node
            have nf5 := frozen_of_row (i := 5) hc2.node
            have hbB : ¬ w1.heap.size + 1 = B := by omega
            have HC3 := Lib.hid hc3
            have hz2 : w1.heap.size + 1 < w2.heap.size := (Array.getElem?_eq_some_iff.1 hc2.node).1
            clear hb2 hc2 hc3
            cases hr : Tr.propP (T.drop k3) with
            | error ft =>
              rw [hr] at vc
              have VC := Lib.hid vc
              have hbad := HIN.out
              rw [Tr.until_bad hu.out HSD.out hr] at hbad
              have HBAD := Lib.hid hbad
              clear vc hr hbad
              go_wp2_with fail
              refine wp_region_any (by kernel_rfl) ?_
              try (change wpAny _ _ _ _ _ _ _ (World.drew _))
              refine wpAny_take (i := 0) (v := ?_) rfl (by kernel_rfl) (by kernel_rfl) (by kernel_rfl) (fun _ _ _ h => h) (Or.inl ⟨by rfl, ?hy0⟩) ?_
              case hy0 => intro w; go_simp; with_reducible rfl
              refine wpAny_take (i := 2) (v := ?_) rfl (by kernel_rfl) (by kernel_rfl) (by kernel_rfl) (fun _ _ _ h => h) (Or.inl ⟨by rfl, ?hy2⟩) ?_
              case hy2 => intro w; go_simp; with_reducible rfl
              refine wpAny_ready (rs := [1, 3]) (by kernel_rfl) (by simp) ?_
              refine AllReady.cons rfl (fun K hK => ?_) (AllReady.cons rfl (fun K hK => ?_) AllReady.nil)
              · go_simp
                refine hK _ _ ?_
                clear hK K
                refine wpAny_ready (rs := [3]) (by kernel_rfl) (by simp) ?_
                refine AllReady.cons rfl (fun K hK => ?_) AllReady.nil
                go_simp
                refine VC.out.mono ?_
                rintro e w5 ⟨rfl, hb5⟩
                exact ⟨rfl, gives_bad HBAD.out ⟨rfl, only_trans HC3.out.way.only hb5⟩⟩
              · go_simp
                refine VC.out.mono ?_
                rintro e w5 ⟨rfl, hb5⟩
                exact ⟨rfl, gives_bad HBAD.out ⟨rfl, only_trans HC3.out.way.only hb5⟩⟩
            | ok x =>
              obtain ⟨tr, ts⟩ := x
              rw [hr] at vc
              have VC := Lib.hid vc
              have HR := Lib.hid hr
              obtain ⟨i0, hi0, hz0, hz1', hz2'⟩ := info_parts Tryz.infoNode
              clear vc hr
              go_wp2_with fail
              refine wp_region_any (by kernel_rfl) ?_
              try (change wpAny _ _ _ _ _ _ _ (World.drew _))
              refine wpAny_take (i := 0) (v := ?_) rfl (by kernel_rfl) (by kernel_rfl) (by kernel_rfl) (fun _ _ _ h => h) (Or.inl ⟨by rfl, ?hy0⟩) ?_
              case hy0 => intro w; go_simp; with_reducible rfl
              refine wpAny_take (i := 2) (v := ?_) rfl (by kernel_rfl) (by kernel_rfl) (by kernel_rfl) (fun _ _ _ h => h) (Or.inl ⟨by rfl, ?hy2⟩) ?_
              case hy2 => intro w; go_simp; with_reducible rfl
              refine wpAny_ready (rs := [1, 3]) (by kernel_rfl) (by simp) ?_
              refine AllReady.cons rfl (fun K hK => ?_) (AllReady.cons rfl (fun K hK => ?_) AllReady.nil)
              · go_simp
                refine hK _ _ ?_
                clear hK K
                refine wpAny_ready (rs := [3]) (by kernel_rfl) (by simp) ?_
                refine AllReady.cons rfl (fun K hK => ?_) AllReady.nil
                go_simp
                refine VC.out.mono ?_
                rintro e w3 ⟨k', v, S', d', rfl, hp3, hts, hn, hS'⟩
                obtain ⟨kv', hkv', rfl⟩ := hn.agg
                have q5 := (hp3.only.block (w1.heap.size + 1) (by simp; omega) (fun e => by cases e; omega)).trans HC3.out.node
                have n5' := cell_of_row _ _ 5 _ _ (0, 0) q5
                have nf5' := frozen_of_row (i := 5) q5
                have hkids := HC3.out.kids.kept hp3.only (fun r e => by cases e; omega)
                have hz3 := hp3.only.size
                have hz4 : w1.heap.size + 1 < w3.heap.size := (Array.getElem?_eq_some_iff.1 q5).1
                have HK := Lib.hid hkids
                have HP3 := Lib.hid hp3
                have HQ5 := Lib.hid q5
                have HN := Lib.hid hn
                have HS' := Lib.hid hS'
                have HTS := Lib.hid hts
                have hkl : l.length ≤ 70000 := by have h1 := hll.out; have h2 := HC3.out.way.pos.lt; omega
                clear hkids hp3 q5 hn hS' hts
                refine hK _ _ ?_
                clear hK K
                refine wpAny_ready (rs := [4]) (by kernel_rfl) (by simp) ?_
                refine AllReady.cons rfl (fun K hK => ?_) AllReady.nil
                go_simp
                refine hK _ _ ?_
                clear hK K
                refine wpAny_ready (rs := [5]) (by kernel_rfl) (by simp) ?_
                refine AllReady.cons rfl (fun K hK => ?_) AllReady.nil
                refine step_append_lies _ (by rfl) _ _ _ (by rfl) w.heap.size 26 i0 _ 6 72 Tryz.underlying24 hi0 hz0 hz1' hz2' rfl (by omega) kv l.length (vs.flatMap fun v => v.cells.toList) (by rfl) (HK.out.row.alloc _)
                  ⟨w3.heap.size, 0, none⟩ 1 1 [.int .i64 tr.kind, .string ⟨tr.text.toArray⟩, .int .i64 tr.num, .int .i64 tr.dim, .int .i64 tr.pos, kv'] (by rfl) (by rfl) (World.news_of_block (cs := #[.int .i64 tr.kind, .string ⟨tr.text.toArray⟩, .int .i64 tr.num, .int .i64 tr.dim, .int .i64 tr.pos, kv']) (t := 26) (fr := (0, 0)) (heap_alloc_new w3 _)) (one6 _ _ _ _ _ _ hkv')
                  (by omega) (by unfold maxLen; omega) (by omega) (by simp; have h1 := HC3.out.way.size; simp at h1 hz3; omega) (w3.heap.size + 1) (by simp) ?_
                intro g cap w4 hown hgrow hat hlt
                have HAP := Lib.hid (append_box HQ5.out (fun c hc => (HK.out.own c hc).2.1) hgrow)
                have c5 := cell_of_row _ _ 5 _ _ (0, 0) HAP.out
                have cf5 := frozen_of_row (i := 5) HAP.out
                refine hK _ _ ?_
                clear hK K
                refine wpAny_ready (rs := [6]) (by kernel_rfl) (by simp) ?_
                refine AllReady.cons rfl (fun K hK => ?_) AllReady.nil
                go_simp
                refine hK _ _ ?_
                clear hK K
                refine wpAny_ready (rs := [7]) (by kernel_rfl) (by simp) ?_
                refine AllReady.cons rfl (fun K hK => ?_) AllReady.nil
                go_simp
                refine hK _ _ ?_
                clear hK K
                refine wpAny_done (by kernel_rfl) ?_ _
                have HCP := Lib.hid (coll_push HC3.out HP3.out HN.out HS'.out hown hgrow hat hlt)
                go_wp2_with fail
                have hr := HR.out
                rw [HTS.out] at hr
                have hsh := Tr.prop_len _ _ _ hr
                have hlt2 := HCP.out.way.pos.lt
                refine ⟨⟨k', lp ++ [tr], _, _, _, _, Lib.hid (by rw [← List.append_assoc, ← HL.out]; exact HCP.out), Lib.hid (Tr.until_step hu.out HSD.out hr hsh), Lib.hid (by have h1 := hll.out; have h2 := congrArg List.length HL.out; simp at hsh h2 ⊢; omega)⟩, ?_⟩
                rw [atOf_eq HCP.out.way.pos, atOf_eq hc.out.way.pos]
                simp at hsh
                omega
              · go_simp
                refine VC.out.mono ?_
                rintro e w3 ⟨k', v, S', d', rfl, hp3, hts, hn, hS'⟩
                obtain ⟨kv', hkv', rfl⟩ := hn.agg
                have q5 := (hp3.only.block (w1.heap.size + 1) (by simp; omega) (fun e => by cases e; omega)).trans HC3.out.node
                have n5' := cell_of_row _ _ 5 _ _ (0, 0) q5
                have nf5' := frozen_of_row (i := 5) q5
                have hkids := HC3.out.kids.kept hp3.only (fun r e => by cases e; omega)
                have hz3 := hp3.only.size
                have hz4 : w1.heap.size + 1 < w3.heap.size := (Array.getElem?_eq_some_iff.1 q5).1
                have HK := Lib.hid hkids
                have HP3 := Lib.hid hp3
                have HQ5 := Lib.hid q5
                have HN := Lib.hid hn
                have HS' := Lib.hid hS'
                have HTS := Lib.hid hts
                have hkl : l.length ≤ 70000 := by have h1 := hll.out; have h2 := HC3.out.way.pos.lt; omega
                clear hkids hp3 q5 hn hS' hts
                refine hK _ _ ?_
                clear hK K
                refine wpAny_ready (rs := [1, 4]) (by kernel_rfl) (by simp) ?_
                refine AllReady.cons rfl (fun K hK => ?_) (AllReady.cons rfl (fun K hK => ?_) AllReady.nil)
                · go_simp
                  refine hK _ _ ?_
                  clear hK K
                  refine wpAny_ready (rs := [4]) (by kernel_rfl) (by simp) ?_
                  refine AllReady.cons rfl (fun K hK => ?_) AllReady.nil
                  go_simp
                  refine hK _ _ ?_
                  clear hK K
                  refine wpAny_ready (rs := [5]) (by kernel_rfl) (by simp) ?_
                  refine AllReady.cons rfl (fun K hK => ?_) AllReady.nil
                  refine step_append_lies _ (by rfl) _ _ _ (by rfl) w.heap.size 26 i0 _ 6 72 Tryz.underlying24 hi0 hz0 hz1' hz2' rfl (by omega) kv l.length (vs.flatMap fun v => v.cells.toList) (by rfl) (HK.out.row.alloc _)
                    ⟨w3.heap.size, 0, none⟩ 1 1 [.int .i64 tr.kind, .string ⟨tr.text.toArray⟩, .int .i64 tr.num, .int .i64 tr.dim, .int .i64 tr.pos, kv'] (by rfl) (by rfl) (World.news_of_block (cs := #[.int .i64 tr.kind, .string ⟨tr.text.toArray⟩, .int .i64 tr.num, .int .i64 tr.dim, .int .i64 tr.pos, kv']) (t := 26) (fr := (0, 0)) (heap_alloc_new w3 _)) (one6 _ _ _ _ _ _ hkv')
                    (by omega) (by unfold maxLen; omega) (by omega) (by simp; have h1 := HC3.out.way.size; simp at h1 hz3; omega) (w3.heap.size + 1) (by simp) ?_
                  intro g cap w4 hown hgrow hat hlt
                  have HAP := Lib.hid (append_box HQ5.out (fun c hc => (HK.out.own c hc).2.1) hgrow)
                  have c5 := cell_of_row _ _ 5 _ _ (0, 0) HAP.out
                  have cf5 := frozen_of_row (i := 5) HAP.out
                  refine hK _ _ ?_
                  clear hK K
                  refine wpAny_ready (rs := [6]) (by kernel_rfl) (by simp) ?_
                  refine AllReady.cons rfl (fun K hK => ?_) AllReady.nil
                  go_simp
                  refine hK _ _ ?_
                  clear hK K
                  refine wpAny_ready (rs := [7]) (by kernel_rfl) (by simp) ?_
                  refine AllReady.cons rfl (fun K hK => ?_) AllReady.nil
                  go_simp
                  refine hK _ _ ?_
                  clear hK K
                  refine wpAny_done (by kernel_rfl) ?_ _
                  have HCP := Lib.hid (coll_push HC3.out HP3.out HN.out HS'.out hown hgrow hat hlt)
                  go_wp2_with fail
                  have hr := HR.out
                  rw [HTS.out] at hr
                  have hsh := Tr.prop_len _ _ _ hr
                  have hlt2 := HCP.out.way.pos.lt
                  refine ⟨⟨k', lp ++ [tr], _, _, _, _, Lib.hid (by rw [← List.append_assoc, ← HL.out]; exact HCP.out), Lib.hid (Tr.until_step hu.out HSD.out hr hsh), Lib.hid (by have h1 := hll.out; have h2 := congrArg List.length HL.out; simp at hsh h2 ⊢; omega)⟩, ?_⟩
                  rw [atOf_eq HCP.out.way.pos, atOf_eq hc.out.way.pos]
                  simp at hsh
                  omega
                · go_simp
                  refine hK _ _ ?_
                  clear hK K
                  refine wpAny_ready (rs := [1]) (by kernel_rfl) (by simp) ?_
                  refine AllReady.cons rfl (fun K hK => ?_) AllReady.nil
                  go_simp
                  refine hK _ _ ?_
                  clear hK K
                  refine wpAny_ready (rs := [5]) (by kernel_rfl) (by simp) ?_
                  refine AllReady.cons rfl (fun K hK => ?_) AllReady.nil
                  refine step_append_lies _ (by rfl) _ _ _ (by rfl) w.heap.size 26 i0 _ 6 72 Tryz.underlying24 hi0 hz0 hz1' hz2' rfl (by omega) kv l.length (vs.flatMap fun v => v.cells.toList) (by rfl) (HK.out.row.alloc _)
                    ⟨w3.heap.size, 0, none⟩ 1 1 [.int .i64 tr.kind, .string ⟨tr.text.toArray⟩, .int .i64 tr.num, .int .i64 tr.dim, .int .i64 tr.pos, kv'] (by rfl) (by rfl) (World.news_of_block (cs := #[.int .i64 tr.kind, .string ⟨tr.text.toArray⟩, .int .i64 tr.num, .int .i64 tr.dim, .int .i64 tr.pos, kv']) (t := 26) (fr := (0, 0)) (heap_alloc_new w3 _)) (one6 _ _ _ _ _ _ hkv')
                    (by omega) (by unfold maxLen; omega) (by omega) (by simp; have h1 := HC3.out.way.size; simp at h1 hz3; omega) (w3.heap.size + 1) (by simp) ?_
                  intro g cap w4 hown hgrow hat hlt
                  have HAP := Lib.hid (append_box HQ5.out (fun c hc => (HK.out.own c hc).2.1) hgrow)
                  have c5 := cell_of_row _ _ 5 _ _ (0, 0) HAP.out
                  have cf5 := frozen_of_row (i := 5) HAP.out
                  refine hK _ _ ?_
                  clear hK K
                  refine wpAny_ready (rs := [6]) (by kernel_rfl) (by simp) ?_
                  refine AllReady.cons rfl (fun K hK => ?_) AllReady.nil
                  go_simp
                  refine hK _ _ ?_
                  clear hK K
                  refine wpAny_ready (rs := [7]) (by kernel_rfl) (by simp) ?_
                  refine AllReady.cons rfl (fun K hK => ?_) AllReady.nil
                  go_simp
                  refine hK _ _ ?_
                  clear hK K
                  refine wpAny_done (by kernel_rfl) ?_ _
                  have HCP := Lib.hid (coll_push HC3.out HP3.out HN.out HS'.out hown hgrow hat hlt)
                  go_wp2_with fail
                  have hr := HR.out
                  rw [HTS.out] at hr
                  have hsh := Tr.prop_len _ _ _ hr
                  have hlt2 := HCP.out.way.pos.lt
                  refine ⟨⟨k', lp ++ [tr], _, _, _, _, Lib.hid (by rw [← List.append_assoc, ← HL.out]; exact HCP.out), Lib.hid (Tr.until_step hu.out HSD.out hr hsh), Lib.hid (by have h1 := hll.out; have h2 := congrArg List.length HL.out; simp at hsh h2 ⊢; omega)⟩, ?_⟩
                  rw [atOf_eq HCP.out.way.pos, atOf_eq hc.out.way.pos]
                  simp at hsh
                  omega
          · rw [hs] at IS
            have hst : Tr.signB (Tr.hd (T.drop k3)) [125] = true := by rw [hdk]; exact hs
            have hfin := HIN.out
            rw [Tr.until_end hu.out hst] at hfin
            dsimp only at hfin
            rw [show Tr.skipP [125] (T.drop k3) = .ok (T.drop (k3 + 1)) by unfold Tr.skipP; rw [if_pos hst, tail_drop]] at hfin
            dsimp only at hfin
            rw [← HL.out] at hfin
            have HFIN := Lib.hid hfin
            have SK := Lib.hid fun (w2 : World) (h2 : PAt lim w2 B T k3 nest) (hl2 : lim ≤ w2.heap.size) => skip_ok h2 hl2 [125] hs
            clear hst hfin hs hcc hdk
            go_wp2_with fail
            refine IS.out.mono ?_
            rintro e w2 ⟨rfl, hb2⟩
            have hc2 := hc.out.below hb2
            have SK2 := Lib.hid (SK.out w2 hc2.way.pos hc2.way.lim_le)
            have HC2 := Lib.hid hc2
            clear hb2 hc2
            go_wp2_with fail
            refine SK2.out.mono ?_
            rintro e w3 ⟨rfl, hp3⟩
            have hc3 := HC2.out.call hp3
            have HP3 := Lib.hid hc3.way
            have HR3 := Lib.hid hc3.res
            have HK3 := Lib.hid hc3.kids
            have hlt3 := hc3.lt
            have q0 := cell_of_row _ _ 0 _ _ (0, 0) hc3.node
            have q1 := cell_of_row _ _ 1 _ _ (0, 0) hc3.node
            have q2 := cell_of_row _ _ 2 _ _ (0, 0) hc3.node
            have q3 := cell_of_row _ _ 3 _ _ (0, 0) hc3.node
            have q4 := cell_of_row _ _ 4 _ _ (0, 0) hc3.node
            have q5 := cell_of_row _ _ 5 _ _ (0, 0) hc3.node
            have HKV := Lib.hid (ownsRow_one hc3.kids.row)
            clear hp3 hc3
            go_wp2_with ((with_reducible refine wpList_at ⟨none, .store 26 (.tmp 2) (.tmp 46), _, _, _, _⟩ ?_); go_must (refine wpList_store_box rfl 26 (.tmp 2) (.tmp 46) rfl w.heap.size #[.int .i64 1, .string ⟨t.text.toArray⟩, .int .i64 0, .int .i64 0, .int .i64 (t.pos : Nat), kv] rfl rfl 26 _ HR3.out (by kernel_rfl) rfl (node_cells _ _ _ _ _ _ HKV.out) ?_; intro w5 hg5 hr5))
            have p0 := cell_of_row _ _ 0 _ _ (0, 0) hr5
            have p1 := cell_of_row _ _ 1 _ _ (0, 0) hr5
            have p2 := cell_of_row _ _ 2 _ _ (0, 0) hr5
            have p3 := cell_of_row _ _ 3 _ _ (0, 0) hr5
            have p4 := cell_of_row _ _ 4 _ _ (0, 0) hr5
            have p5 := cell_of_row _ _ 5 _ _ (0, 0) hr5
            refine bodyPost_ret (v := .agg #[.int .i64 1, .string ⟨t.text.toArray⟩, .int .i64 0, .int .i64 0, .int .i64 (t.pos : Nat), kv]) ?_ rfl ?_
            · simp [results, Tryz.results25, go_sem, p0, p1, p2, p3, p4, p5]
            · refine gives_ok HFIN.out _ _ (HP3.out.box (Nat.le_refl _) hg5) rfl ((HK3.out.kept hg5 (fun r e => by cases e; omega)).node 1 0 0 _ _) (fun c hc => ?_)
              have h1 := (HK3.out.kept hg5 (fun r e => by cases e; omega)).blocks c hc
              omega
    · obtain ⟨k0, hk1, hk2, hk3, hk4⟩ := hwa.out.yes rfl
      have HW1 := Lib.hid hk1
      have HW2 := Lib.hid hk2
      have wbx := hwa.out.box
      have hgt := hwa.out.gt
      have hwne := hwa.out.ne
      have q0 := cell_of_row _ _ 0 _ _ (0, 0) wbx
      have q1 := cell_of_row _ _ 1 _ _ (0, 0) wbx
      have q2 := cell_of_row _ _ 2 _ _ (0, 0) wbx
      have q3 := cell_of_row _ _ 3 _ _ (0, 0) wbx
      have q4 := cell_of_row _ _ 4 _ _ (0, 0) wbx
      have q5 := cell_of_row _ _ 5 _ _ (0, 0) wbx
      have m5 := cell_of_row _ _ 5 _ _ (0, 0) hc.out.node
      have mf5 := frozen_of_row (i := 5) hc.out.node
      have hbl : w1.heap.size + 1 < wr.heap.size := (Array.getElem?_eq_some_iff.1 hc.out.node).1
      have hwl : wb < wr.heap.size := (Array.getElem?_eq_some_iff.1 wbx).1
      have hkl : ws.length ≤ 70000 := by have h2 := hc.out.way.pos.lt; omega
      obtain ⟨i0, hi0, hz0, hz1', hz2'⟩ := info_parts Tryz.infoNode
      have HWB := Lib.hid wbx
      have HTR := Lib.hid (NodeIn.leaf wr (fun _ => False) c 0 0 p tx)
      have hws := hc.out.way.size
      clear hk1 hk2 wbx
      go_wp2_with (at_builtin; refine wpList_append_lies _ rfl _ _ 24 rfl w.heap.size 26 i0 _ 6 72 Tryz.underlying24 hi0 hz0 hz1' hz2' rfl (by omega) kv ws.length (vs.flatMap fun v => v.cells.toList) rfl (hc.out.kids.row.alloc _) ⟨wr.heap.size, 0, none⟩ 1 1 [.int .i64 c, .string ⟨tx.toArray⟩, .int .i64 0, .int .i64 0, .int .i64 p, .slice none 0 0] rfl rfl (World.news_of_block (cs := #[.int .i64 c, .string ⟨tx.toArray⟩, .int .i64 0, .int .i64 0, .int .i64 p, .slice none 0 0]) (t := 26) (fr := (0, 0)) (heap_alloc_new wr _)) (one6 _ _ _ _ _ _ rfl) (by omega) (by unfold maxLen; omega) (by omega) (by simp; omega) (wr.heap.size + 1) (by simp) ?_; intro g cap w4 hown hgrow hat hlt; have n4 := append_box hc.out.node (fun c hc' => (hc.out.kids.own c hc').2.1) hgrow; have c5 := cell_of_row _ _ 5 _ _ (0, 0) n4; have cf5 := frozen_of_row (i := 5) n4; have b4 := append_box HWB.out (fun x hx => by have := hwa.out.low x (.inr hx); omega) hgrow; have s0 := cell_of_row _ _ 0 _ _ (0, 0) b4; have s1 := cell_of_row _ _ 1 _ _ (0, 0) b4; have s2 := cell_of_row _ _ 2 _ _ (0, 0) b4; have s3 := cell_of_row _ _ 3 _ _ (0, 0) b4; have s4 := cell_of_row _ _ 4 _ _ (0, 0) b4; have s5 := cell_of_row _ _ 5 _ _ (0, 0) b4; have HB4 := Lib.hid b4; clear n4 b4)
      have hcp := coll_push hc.out (PTo.start hc.out.way.pos hc.out.way.lim_le) HTR.out (fun x hx => hx.elim) hown hgrow hat hlt
      have hsz4 : (w4.setCell ⟨w1.heap.size + 1, 5, none⟩ (.slice (some ⟨g, 0, none⟩) (ws.length + 1) cap)).heap.size = w4.heap.size := by simp
      have hlow := hcp.kids.blocks
      rw [hsz4] at hlow
      have hcp2 := hcp.below ((Below.refl _ _).alloc (Nat.le_refl _) (.cells #[.int .i64 c, .string ⟨tx.toArray⟩, .int .i64 0, .int .i64 0, .int .i64 p, .slice none 0 0] 26))
      have hnew := heap_alloc_new (w4.setCell ⟨w1.heap.size + 1, 5, none⟩ (.slice (some ⟨g, 0, none⟩) (ws.length + 1) cap)) (.cells #[.int .i64 c, .string ⟨tx.toArray⟩, .int .i64 0, .int .i64 0, .int .i64 p, .slice none 0 0] 26)
      rw [hsz4] at hnew
      have hbl4 : w1.heap.size + 1 < w4.heap.size := by have := (Array.getElem?_eq_some_iff.1 hcp.node).1; rw [hsz4] at this; exact this
      obtain ⟨ok2, c2, tx2, p2, kk2, lc2, ly2, ln2⟩ := leaf_any hcp2.way.pos hcp2.way.lim_le
      refine lc2.mono ?_
      rintro e w5 ⟨rfl, hp5⟩
      have hc5 := hcp2.call hp5
      have hb5 := (hp5.only.block w4.heap.size (by rw [World.size_alloc, hsz4]; omega) (fun e => by cases e; omega)).trans hnew
      have HC5 := Lib.hid hc5
      have HB5 := Lib.hid hb5
      have HLOW := Lib.hid hlow
      have HLY := Lib.hid ly2
      have HLN := Lib.hid ln2
      have HWS := Lib.hid (Tr.words_step HW1.out HW2.out (by simp; have := hc.out.way.pos.lt; omega))
      clear hcp hcp2 hc5 hb5 hlow ly2 ln2 lc2 hnew hown hgrow hp5 hsz4
      go_wp2_with ((with_reducible refine wpList_at ⟨none, .store 26 (.tmp 5) (.tmp 23), _, _, _, _⟩ ?_); go_must (refine wpList_store_box rfl 26 (.tmp 5) (.tmp 23) rfl w4.heap.size #[.int .i64 c2, .string ⟨tx2.toArray⟩, .int .i64 0, .int .i64 0, .int .i64 p2, .slice none 0 0] rfl rfl 26 _ HB5.out (by kernel_rfl) rfl (by simp [Value.oneCell']) ?_; intro w6 hg6 hr6))
      have hc6 := HC5.out.rowg hg6 (fun r e => by cases e; exact ⟨by omega, by omega, fun hs => by have := (HLOW.out _ (.inl hs)).2.2; omega, fun ho => by have := (HLOW.out _ (.inr ho)).2.2; omega⟩)
      refine ⟨⟨ok2, w4.heap.size, kk2, c2, tx2, p2, ws ++ [⟨c, tx, 0, 0, p, []⟩], _, _, _, _, rfl, rfl, Lib.hid hc6, Lib.hid ⟨hr6, by omega, by omega, fun x hx => (HLOW.out x hx).2.2, fun e => ⟨kk, HWS.out, (HLY.out e).1, (HLY.out e).2, by simp; omega⟩, fun e => by obtain ⟨a, b⟩ := HLN.out e; subst b; exact ⟨HWS.out, a, by simp; omega⟩⟩⟩, ?_⟩
      rw [atOf_eq hc6.way.pos, atOf_eq hc.out.way.pos]
      have hk2lt := hc6.way.pos.lt
      have hb2 : boolNat (.bool ok2) ≤ 1 := by cases ok2 <;> simp [boolNat]
      cases ok2
      · obtain ⟨a, b⟩ := HLN.out rfl
        subst b
        simp [boolNat]
      · have := (HLY.out rfl).2
        simp [boolNat]
        omega

theorem decl_any {lim B : Nat} {T : List L.Tok} : Parses lim B T 25 0 Tr.declP := by
  intro w k h hl hw
  by_cases hk : (T[k]'h.lt).kind = 0
  · exact decl_good (prop_any values_any) h hl hw hk
  · refine (decl_bad h hk).mono fun e w' hp => gives_bad (f := (2, (T[k]'h.lt).pos)) ?_ hp
    rw [declP_bad _ (by rw [hd_drop T k h.lt]; exact hk), hd_drop T k h.lt]
end Go.Proofs.YtooajmbpncmgjaaGreatDoor
