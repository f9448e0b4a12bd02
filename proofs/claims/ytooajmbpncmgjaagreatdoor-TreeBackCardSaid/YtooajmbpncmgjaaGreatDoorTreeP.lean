/- Layer 15's parser: a property, by contract. -/
import Derived.Test.YtooajmbpncmgjaaGreatDoorTreeK
import Derived.Test.YtooajmbpncmgjaaGreatDoorPlain
namespace Go.Proofs.YtooajmbpncmgjaaGreatDoor
open Go.RowKit
attribute [local go_sem] fld_tok0 fld_tok1 fld_tok2

def atOf (w : World) (B : Nat) : Nat := match w.cell? ⟨B, 1, none⟩ with | some (.int _ n) => n.toNat | _ => 0
theorem atOf_eq {lim : Nat} {w : World} {B : Nat} {T : List L.Tok} {k nest : Nat} (h : PAt lim w B T k nest) : atOf w B = k := by
  unfold atOf; rw [h.regs.1]; simp

theorem one6 (k n d p : Int) (t : ByteArray) (kv : Value) (h : kv.oneCell' = true) : ∀ u ∈ ([.int .i64 k, .string t, .int .i64 n, .int .i64 d, .int .i64 p, kv] : List Value), u.oneCell' = true := by
  intro v hv
  simp only [List.mem_cons, List.not_mem_nil, or_false] at hv
  rcases hv with rfl | rfl | rfl | rfl | rfl | rfl <;> first | exact h | rfl
/-- A block that the append does not write stays. -/
theorem append_box {w3 w4 : World} {b : Nat} {o tmp : Obj} {kv : Value} (h : w3.heap[b]? = some o) (hne : ∀ c, kv.ownBlock = some c → c ≠ b) (hg : (w3.alloc tmp).grownBy w4 kv.ownBlock) : w4.heap[b]? = some o :=
  (hg.block b (by have := (Array.getElem?_eq_some_iff.1 h).1; simp; omega) (fun e => hne b e.symm rfl)).trans (row_alloc h tmp)

theorem propP_bad (ts : List L.Tok) (h : (Tr.hd ts).kind ≠ 0) : Tr.propP ts = .error (2, (Tr.hd ts).pos) := by
  unfold Tr.propP Tr.takeP; rw [if_neg (by simpa using h)]
theorem propP_in (ts : List L.Tok) (h : (Tr.hd ts).kind = 0) : Tr.propP ts = match Tr.untilL (Tr.valueP 40) [59] (ts.tail.length + 1) ts.tail with
    | .error e => .error e
    | .ok (l, r) => match Tr.skipP [59] r with
      | .error e => .error e
      | .ok r => .ok (⟨2, (Tr.hd ts).text, 0, 0, (Tr.hd ts).pos, l⟩, r) := by
  unfold Tr.propP Tr.takeP; rw [if_pos (by simpa using h)]; rfl

set_option maxHeartbeats 1000000 in
theorem prop_bad {lim : Nat} {w : World} {B : Nat} {T : List L.Tok} {k nest : Nat} (h : PAt lim w B T k nest) (hk : (T[k]'h.lt).kind ≠ 0) :
    Calls Tryz.prog 41 #[.pointer (some ⟨B, 0, none⟩)] w (Panics w B (2, (T[k]'h.lt).pos)) := by
  have TK := Lib.hid (take_bad (h.grown (World.grownBy_alloc w (.cells #[.int .i64 0, .string ⟨#[]⟩, .int .i64 0, .int .i64 0, .int .i64 0, .slice none 0 0] 26) none) (fun r e => by cases e)) 0 hk)
  clear hk
  generalize T[k]'h.lt = t at *
  clear h
  go_enter Tryz.func41, Tryz.ntmps41
  go_wp2_with fail
  refine TK.out.mono ?_
  rintro e w1 ⟨rfl, hb1⟩
  exact ⟨rfl, rfl, only_trans (only_below ((Below.refl _ _).alloc (Nat.le_refl _) _) _) hb1⟩

/-- Between two rounds: the kids so far in the node in block b; the node's other cells stay. -/
structure Coll6 (lim B : Nat) (T : List L.Tok) (w wr : World) (b nest kk : Nat) (a0 a1 a2 a3 a4 : Value) (l : List Tr.Tree) (kv : Value) (vs : List Value) (S : Nat → Prop) (d : Nat) : Prop where
  way : PTo lim B T w wr kk nest
  res : wr.heap[w.heap.size]? = some (.cells #[.int .i64 0, .string ⟨#[]⟩, .int .i64 0, .int .i64 0, .int .i64 0, .slice none 0 0] 26 (0, 0))
  node : wr.heap[b]? = some (.cells #[a0, a1, a2, a3, a4, kv] 26 (0, 0))
  kids : Kids wr w.heap.size b l kv vs S d
  lt : w.heap.size < b
  std : Std wr

theorem Coll6.below {lim B : Nat} {T : List L.Tok} {w wr w' : World} {b nest kk : Nat} {a0 a1 a2 a3 a4 : Value} {l : List Tr.Tree} {kv : Value} {vs : List Value} {S : Nat → Prop} {d : Nat} (h : Coll6 lim B T w wr b nest kk a0 a1 a2 a3 a4 l kv vs S d) (hb : Below wr.heap.size wr w') : Coll6 lim B T w w' b nest kk a0 a1 a2 a3 a4 l kv vs S d :=
  ⟨h.way.below hb, (hb.block _ (Array.getElem?_eq_some_iff.1 h.res).1).trans h.res, (hb.block _ (Array.getElem?_eq_some_iff.1 h.node).1).trans h.node, h.kids.kept (grown_none hb) (fun r e => by cases e), h.lt, h.std.below hb⟩

theorem Coll6.call {lim B : Nat} {T : List L.Tok} {w wr w' : World} {b nest nest' kk k' : Nat} {a0 a1 a2 a3 a4 : Value} {l : List Tr.Tree} {kv : Value} {vs : List Value} {S : Nat → Prop} {d : Nat} (h : Coll6 lim B T w wr b nest kk a0 a1 a2 a3 a4 l kv vs S d) (hp : PTo lim B T wr w' k' nest') : Coll6 lim B T w w' b nest' k' a0 a1 a2 a3 a4 l kv vs S d := by
  have hB : B < w.heap.size := Nat.lt_of_lt_of_le h.way.pos.bB h.way.le
  have hlt := h.lt
  have hs := h.way.size
  exact ⟨h.way.call hp, (hp.only.block _ (Array.getElem?_eq_some_iff.1 h.res).1 (fun e => by cases e; omega)).trans h.res, (hp.only.block _ (Array.getElem?_eq_some_iff.1 h.node).1 (fun e => by cases e; omega)).trans h.node, h.kids.kept hp.only (fun r e => by cases e; omega), h.lt, hp.std h.std⟩

theorem Coll6.rowg {lim B : Nat} {T : List L.Tok} {w wr w' : World} {b nest kk : Nat} {a0 a1 a2 a3 a4 : Value} {l : List Tr.Tree} {kv : Value} {vs : List Value} {S : Nat → Prop} {d : Nat} (h : Coll6 lim B T w wr b nest kk a0 a1 a2 a3 a4 l kv vs S d) {row : Option Nat} (hg : wr.grownBy w' row) (hr : ∀ r, row = some r → w.heap.size < r ∧ r ≠ b ∧ ¬ S r ∧ kv.ownBlock ≠ some r) : Coll6 lim B T w w' b nest kk a0 a1 a2 a3 a4 l kv vs S d := by
  have hng := h.way.pos.ng
  have hB : B < w.heap.size := Nat.lt_of_lt_of_le h.way.pos.bB h.way.le
  exact ⟨h.way.rowg hg (fun r e => by have := (hr r e).1; omega), (hg.block _ (Array.getElem?_eq_some_iff.1 h.res).1 (fun e => by have := (hr _ e.symm).1; omega)).trans h.res, (hg.block _ (Array.getElem?_eq_some_iff.1 h.node).1 (fun e => (hr _ e.symm).2.1 rfl)).trans h.node, h.kids.kept2 hg (fun r e => (hr r e).2.2), h.lt, h.std.grown hg (fun r e => by have := (hr r e).1; omega)⟩

/-- A kid more: the call, the append, the store of the longer slice. -/
theorem coll_push {lim B : Nat} {T : List L.Tok} {w wr w3 w4 : World} {b nest kk k' : Nat} {a0 a1 a2 a3 a4 : Value} {l : List Tr.Tree} {kv v : Value} {vs : List Value} {S S' : Nat → Prop} {d d' g cap : Nat} {tr : Tr.Tree} {o : Obj}
    (h : Coll6 lim B T w wr b nest kk a0 a1 a2 a3 a4 l kv vs S d) (hp : PTo lim B T wr w3 k' nest) (hn : NodeIn w3 S' d' v tr) (hS : ∀ c, S' c → wr.heap.size ≤ c ∧ c < w3.heap.size)
    (hown : w4.ownsRow w.heap.size 26 6 (.slice (some ⟨g, 0, none⟩) (l.length + 1) cap) (l.length + 1) ((vs.flatMap fun v => v.cells.toList) ++ v.cells.toList))
    (hgrow : (w3.alloc o).grownBy w4 kv.ownBlock) (hat : kv.ownBlock = some g ∨ g = w3.heap.size + 1) (hlt : g < w4.heap.size) :
    Coll6 lim B T w (w4.setCell ⟨b, 5, none⟩ (.slice (some ⟨g, 0, none⟩) (l.length + 1) cap)) b nest k' a0 a1 a2 a3 a4 (l ++ [tr]) (.slice (some ⟨g, 0, none⟩) (l.length + 1) cap) (vs ++ [v]) (fun c => S c ∨ S' c) (max d d') := by
  have hB : B < w.heap.size := Nat.lt_of_lt_of_le h.way.pos.bB h.way.le
  have hbl : b < wr.heap.size := (Array.getElem?_eq_some_iff.1 h.node).1
  have hlt0 := h.lt
  have hk3 := h.kids.kept hp.only (fun r e => by cases e; omega)
  have hsz := hp.size
  have hkk : ∀ c, kv.ownBlock = some c → c < wr.heap.size := fun c e => (h.kids.own c e).2.2.1
  have n3 := (hp.only.block b hbl (fun e => by cases e; omega)).trans h.node
  have r3 := (hp.only.block w.heap.size (by omega) (fun e => by cases e; omega)).trans h.res
  have n4 := append_box n3 (fun c e => (hk3.own c e).2.1) hgrow
  have r4 := append_box r3 (fun c e => by have := (hk3.own c e).1; omega) hgrow
  have hw4 : PTo lim B T w w4 k' nest := (h.way.call hp).rowg (row := kv.ownBlock) ⟨hgrow.os, hgrow.tape, hgrow.output, Nat.le_trans (by simp) hgrow.size, fun c hc hne => (hgrow.block c (by simp; omega) hne).trans (Below.heap_alloc _ _ _ hc)⟩ (fun r e => by have := (hk3.own r e).1; omega)
  have hk4 := hk3.push (k := wr.heap.size) hn hS hkk (by omega) hbl hown hgrow hat hlt hsz
  exact ⟨hw4.set (by omega) 5 _, row_far r4 (by omega) _, row_setCell n4 _, hk4.kept (grownBy_setCell2 _ _ _ _) (fun r e => by cases e; omega), hlt0, ((hp.std h.std).grown (row := kv.ownBlock) ⟨hgrow.os, hgrow.tape, hgrow.output, Nat.le_trans (by simp) hgrow.size, fun c hc hne => (hgrow.block c (by simp; omega) hne).trans (Below.heap_alloc _ _ _ hc)⟩ (fun r e => by have := (hk3.own r e).1; have := h.way.pos.ng; omega)).grown (grownBy_setCell2 _ _ _ _) (fun r e => by cases e; have := h.way.pos.ng; omega)⟩

set_option maxRecDepth 100000 in
set_option maxHeartbeats 4000000 in
theorem prop_good {lim : Nat} {w : World} {B : Nat} {T : List L.Tok} {k nest : Nat} (hV : Parses lim B T 57 nest (Tr.valueP 40)) (h : PAt lim w B T k nest) (hl : lim ≤ w.heap.size) (hw : Std w) (hk : (T[k]'h.lt).kind = 0) :
    Calls Tryz.prog 41 #[.pointer (some ⟨B, 0, none⟩)] w (Gives lim B T w nest (Tr.propP (T.drop k))) := by
  have hd := hd_drop T k h.lt
  have hpi := propP_in (T.drop k) (by rw [hd]; exact hk)
  rw [hd, tail_drop] at hpi
  have hBlt := Nat.lt_of_lt_of_le h.bB hl
  have hlen := h.len
  have hp := (PTo.start h hl).alloc (.cells #[.int .i64 0, .string ⟨#[]⟩, .int .i64 0, .int .i64 0, .int .i64 0, .slice none 0 0] 26)
  have TKc := Lib.hid (take_ok hp.pos hp.lim_le 0 hk (by decide))
  have HP := Lib.hid hp
  have HPI := Lib.hid hpi
  have HW := Lib.hid hw
  have HV := Lib.hid hV
  generalize T[k]'h.lt = t at *
  clear hp hpi hw hV hd hk
  go_enter Tryz.func41, Tryz.ntmps41
  go_wp2_with fail
  refine TKc.out.mono ?_
  rintro e w1 ⟨rfl, hp1⟩
  have hz1 := hp1.size
  rw [World.size_alloc] at hz1
  have hr1 : w1.heap[w.heap.size]? = some (.cells #[.int .i64 0, .string ⟨#[]⟩, .int .i64 0, .int .i64 0, .int .i64 0, .slice none 0 0] 26 (0, 0)) := (hp1.only.block w.heap.size (by simp) (fun e => by cases e; omega)).trans (heap_alloc_new w _)
  have hp2 := ((HP.out.call hp1).alloc (.cells #[.int .i64 (t.kind : Nat), .string ⟨t.text.toArray⟩, .int .i64 (t.pos : Nat)] 41)).alloc (.cells #[.int .i64 2, .string ⟨t.text.toArray⟩, .int .i64 0, .int .i64 0, .int .i64 (t.pos : Nat), .slice none 0 0] 26)
  have hr2 := row_alloc (row_alloc hr1 (.cells #[.int .i64 (t.kind : Nat), .string ⟨t.text.toArray⟩, .int .i64 (t.pos : Nat)] 41)) (.cells #[.int .i64 2, .string ⟨t.text.toArray⟩, .int .i64 0, .int .i64 0, .int .i64 (t.pos : Nat), .slice none 0 0] 26)
  have hn2 := heap_alloc_new (w1.alloc (.cells #[.int .i64 (t.kind : Nat), .string ⟨t.text.toArray⟩, .int .i64 (t.pos : Nat)] 41)) (.cells #[.int .i64 2, .string ⟨t.text.toArray⟩, .int .i64 0, .int .i64 0, .int .i64 (t.pos : Nat), .slice none 0 0] 26)
  rw [World.size_alloc] at hn2
  have hcoll : Coll6 lim B T w _ (w1.heap.size + 1) nest (k + 1) (.int .i64 2) (.string ⟨t.text.toArray⟩) (.int .i64 0) (.int .i64 0) (.int .i64 (t.pos : Nat)) [] (.slice none 0 0) [] (fun _ => False) 0 :=
    ⟨hp2, hr2, hn2, Kids.nil _ _ _, by omega, hp2.std HW.out⟩
  have HC := Lib.hid hcoll
  clear hp1 hr1 hp2 hr2 hn2 hcoll
  go_wp2_with fail
  go_loopw [12] (fun _ wr => ∃ (kk : Nat) (l : List Tr.Tree) (kv : Value) (vs : List Value) (S : Nat → Prop) (d : Nat), Hid (Coll6 lim B T w wr (w1.heap.size + 1) nest kk (.int .i64 2) (.string ⟨t.text.toArray⟩) (.int .i64 0) (.int .i64 0) (.int .i64 (t.pos : Nat)) l kv vs S d) ∧ Hid (Tr.UntilAt (Tr.valueP 40) [59] T (k + 1) kk l) ∧ Hid (l.length ≤ kk)) (fun _ wr => T.length - atOf wr B)
  case atStart => exact ⟨k + 1, [], _, [], _, 0, HC.out, Lib.hid (Tr.until_start _ _ _ _), Lib.hid (by simp)⟩
  case round =>
    obtain ⟨kk, l, kv, vs, S, d, hc, hu, hll⟩ := hrel
    obtain ⟨tb, cap, hcc⟩ := hc.out.way.pos.cells
    have hdk := hd_drop T kk hc.out.way.pos.lt
    have IS := Lib.hid (is_at hcc [59])
    cases hs : Tr.signB (T[kk]'hc.out.way.pos.lt) [59]
    · rw [hs] at IS
      have hsd : Tr.signB (Tr.hd (T.drop kk)) [59] = false := by rw [hdk]; exact hs
      have HSD := Lib.hid hsd
      clear hsd hs hcc hdk
      go_wp2_with fail
      refine IS.out.mono ?_
      rintro e w2 ⟨rfl, hb2⟩
      have hc2 := hc.out.below hb2
      have hc3 := hc2.below (w' := w2.drew) ⟨rfl, rfl, rfl, Nat.le_refl _, fun _ _ => rfl⟩
      have vc := HV.out w2.drew kk hc3.way.pos hc3.way.lim_le hc3.std
      have n5 := cell_of_row _ _ 5 _ _ (0, 0) hc2.node
      have nf5 := frozen_of_row (i := 5) hc2.node
      have hbB : ¬ w1.heap.size + 1 = B := by omega
      have HC3 := Lib.hid hc3
      have hz2 : w1.heap.size + 1 < w2.heap.size := (Array.getElem?_eq_some_iff.1 hc2.node).1
      clear hb2 hc2 hc3
      cases hr : Tr.valueP 40 (T.drop kk) with
      | error ft =>
        rw [hr] at vc
        have VC := Lib.hid vc
        have hbad := HPI.out
        rw [List.length_drop, ← List.length_drop, Tr.until_bad hu.out HSD.out hr] at hbad
        have HBAD := Lib.hid hbad
        clear vc hr hbad
        go_wp2_with fail
        refine wp_region_any (by kernel_rfl) ?_
        try (change wpAny _ _ _ _ _ _ _ (World.drew _))
        refine wpAny_take (i := 0) (v := ?_) rfl (by kernel_rfl) (by kernel_rfl) (by kernel_rfl) (fun _ _ _ h => h) (Or.inl ⟨by rfl, ?hy0⟩) ?_
        case hy0 => intro w; go_simp; with_reducible rfl
        refine wpAny_take (i := 2) (v := ?_) rfl (by kernel_rfl) (by kernel_rfl) (by kernel_rfl) (fun _ _ _ h => h) (Or.inl ⟨by rfl, ?hy2⟩) ?_
        case hy2 => intro w; go_simp; with_reducible rfl
        refine wpAny_ready (rs := [1, 3]) (by kernel_rfl) (by simp) ?_
        refine AllReady.cons rfl (fun K hK => ?_) (AllReady.cons rfl (fun K hK => ?_) AllReady.nil)
        · go_simp
          refine hK _ _ ?_
          clear hK K
          refine wpAny_ready (rs := [3]) (by kernel_rfl) (by simp) ?_
          refine AllReady.cons rfl (fun K hK => ?_) AllReady.nil
          go_simp
          refine VC.out.mono ?_
          rintro e w3 ⟨rfl, hb3⟩
          exact ⟨rfl, gives_bad HBAD.out ⟨rfl, only_trans HC3.out.way.only hb3⟩⟩
        · go_simp
          refine VC.out.mono ?_
          rintro e w3 ⟨rfl, hb3⟩
          exact ⟨rfl, gives_bad HBAD.out ⟨rfl, only_trans HC3.out.way.only hb3⟩⟩
      | ok x =>
        obtain ⟨tr, ts⟩ := x
        rw [hr] at vc
        have VC := Lib.hid vc
        have HR := Lib.hid hr
        obtain ⟨i0, hi0, hz0, hz1', hz2'⟩ := info_parts Tryz.infoNode
        clear vc hr
        go_wp2_with fail
        refine wp_region_any (by kernel_rfl) ?_
        try (change wpAny _ _ _ _ _ _ _ (World.drew _))
        refine wpAny_take (i := 0) (v := ?_) rfl (by kernel_rfl) (by kernel_rfl) (by kernel_rfl) (fun _ _ _ h => h) (Or.inl ⟨by rfl, ?hy0⟩) ?_
        case hy0 => intro w; go_simp; with_reducible rfl
        refine wpAny_take (i := 2) (v := ?_) rfl (by kernel_rfl) (by kernel_rfl) (by kernel_rfl) (fun _ _ _ h => h) (Or.inl ⟨by rfl, ?hy2⟩) ?_
        case hy2 => intro w; go_simp; with_reducible rfl
        refine wpAny_ready (rs := [1, 3]) (by kernel_rfl) (by simp) ?_
        refine AllReady.cons rfl (fun K hK => ?_) (AllReady.cons rfl (fun K hK => ?_) AllReady.nil)
        · go_simp
          refine hK _ _ ?_
          clear hK K
          refine wpAny_ready (rs := [3]) (by kernel_rfl) (by simp) ?_
          refine AllReady.cons rfl (fun K hK => ?_) AllReady.nil
          go_simp
          refine VC.out.mono ?_
          rintro e w3 ⟨k', v, S', d', rfl, hp3, hts, hn, hS'⟩
          obtain ⟨kv', hkv', rfl⟩ := hn.agg
          have q5 := (hp3.only.block (w1.heap.size + 1) (by simp; omega) (fun e => by cases e; omega)).trans HC3.out.node
          have n5' := cell_of_row _ _ 5 _ _ (0, 0) q5
          have nf5' := frozen_of_row (i := 5) q5
          have hkids := HC3.out.kids.kept hp3.only (fun r e => by cases e; omega)
          have hz3 := hp3.only.size
          have hz4 : w1.heap.size + 1 < w3.heap.size := (Array.getElem?_eq_some_iff.1 q5).1
          have HK := Lib.hid hkids
          have HP3 := Lib.hid hp3
          have HQ5 := Lib.hid q5
          have HN := Lib.hid hn
          have HS' := Lib.hid hS'
          have HTS := Lib.hid hts
          have hkl : l.length ≤ 70000 := by have h1 := hll.out; have h2 := HC3.out.way.pos.lt; omega
          clear hkids hp3 q5 hn hS' hts
          refine hK _ _ ?_
          clear hK K
          refine wpAny_ready (rs := [4]) (by kernel_rfl) (by simp) ?_
          refine AllReady.cons rfl (fun K hK => ?_) AllReady.nil
          go_simp
          refine hK _ _ ?_
          clear hK K
          refine wpAny_ready (rs := [5]) (by kernel_rfl) (by simp) ?_
          refine AllReady.cons rfl (fun K hK => ?_) AllReady.nil
          refine step_append_lies _ (by rfl) _ _ _ (by rfl) w.heap.size 26 i0 _ 6 72 Tryz.underlying24 hi0 hz0 hz1' hz2' rfl (by omega) kv l.length (vs.flatMap fun v => v.cells.toList) (by rfl) (HK.out.row.alloc _)
            ⟨w3.heap.size, 0, none⟩ 1 1 [.int .i64 tr.kind, .string ⟨tr.text.toArray⟩, .int .i64 tr.num, .int .i64 tr.dim, .int .i64 tr.pos, kv'] (by rfl) (by rfl) (World.news_of_block (cs := #[.int .i64 tr.kind, .string ⟨tr.text.toArray⟩, .int .i64 tr.num, .int .i64 tr.dim, .int .i64 tr.pos, kv']) (t := 26) (fr := (0, 0)) (heap_alloc_new w3 _)) (one6 _ _ _ _ _ _ hkv')
            (by omega) (by unfold maxLen; omega) (by omega) (by simp; have h1 := HC3.out.way.size; simp at h1 hz3; omega) (w3.heap.size + 1) (by simp) ?_
          intro g cap w4 hown hgrow hat hlt
          have HAP := Lib.hid (append_box HQ5.out (fun c hc => (HK.out.own c hc).2.1) hgrow)
          have c5 := cell_of_row _ _ 5 _ _ (0, 0) HAP.out
          have cf5 := frozen_of_row (i := 5) HAP.out
          refine hK _ _ ?_
          clear hK K
          refine wpAny_ready (rs := [6]) (by kernel_rfl) (by simp) ?_
          refine AllReady.cons rfl (fun K hK => ?_) AllReady.nil
          go_simp
          refine hK _ _ ?_
          clear hK K
          refine wpAny_ready (rs := [7]) (by kernel_rfl) (by simp) ?_
          refine AllReady.cons rfl (fun K hK => ?_) AllReady.nil
          go_simp
          refine hK _ _ ?_
          clear hK K
          refine wpAny_done (by kernel_rfl) ?_ _
          have HCP := Lib.hid (coll_push HC3.out HP3.out HN.out HS'.out hown hgrow hat hlt)
          go_wp2_with fail
          have hr := HR.out
          rw [HTS.out] at hr
          have hsh := Tr.value_len 40 _ _ _ hr
          have hlt2 := HCP.out.way.pos.lt
          refine ⟨⟨k', l ++ [tr], _, _, _, _, HCP.out, Lib.hid (Tr.until_step hu.out HSD.out hr hsh), Lib.hid (by have := hll.out; simp at hsh ⊢; omega)⟩, ?_⟩
          rw [atOf_eq HCP.out.way.pos, atOf_eq hc.out.way.pos]
          simp at hsh
          omega
        · go_simp
          refine VC.out.mono ?_
          rintro e w3 ⟨k', v, S', d', rfl, hp3, hts, hn, hS'⟩
          obtain ⟨kv', hkv', rfl⟩ := hn.agg
          have q5 := (hp3.only.block (w1.heap.size + 1) (by simp; omega) (fun e => by cases e; omega)).trans HC3.out.node
          have n5' := cell_of_row _ _ 5 _ _ (0, 0) q5
          have nf5' := frozen_of_row (i := 5) q5
          have hkids := HC3.out.kids.kept hp3.only (fun r e => by cases e; omega)
          have hz3 := hp3.only.size
          have hz4 : w1.heap.size + 1 < w3.heap.size := (Array.getElem?_eq_some_iff.1 q5).1
          have HK := Lib.hid hkids
          have HP3 := Lib.hid hp3
          have HQ5 := Lib.hid q5
          have HN := Lib.hid hn
          have HS' := Lib.hid hS'
          have HTS := Lib.hid hts
          have hkl : l.length ≤ 70000 := by have h1 := hll.out; have h2 := HC3.out.way.pos.lt; omega
          clear hkids hp3 q5 hn hS' hts
          refine hK _ _ ?_
          clear hK K
          refine wpAny_ready (rs := [1, 4]) (by kernel_rfl) (by simp) ?_
          refine AllReady.cons rfl (fun K hK => ?_) (AllReady.cons rfl (fun K hK => ?_) AllReady.nil)
          · go_simp
            refine hK _ _ ?_
            clear hK K
            refine wpAny_ready (rs := [4]) (by kernel_rfl) (by simp) ?_
            refine AllReady.cons rfl (fun K hK => ?_) AllReady.nil
            go_simp
            refine hK _ _ ?_
            clear hK K
            refine wpAny_ready (rs := [5]) (by kernel_rfl) (by simp) ?_
            refine AllReady.cons rfl (fun K hK => ?_) AllReady.nil
            refine step_append_lies _ (by rfl) _ _ _ (by rfl) w.heap.size 26 i0 _ 6 72 Tryz.underlying24 hi0 hz0 hz1' hz2' rfl (by omega) kv l.length (vs.flatMap fun v => v.cells.toList) (by rfl) (HK.out.row.alloc _)
              ⟨w3.heap.size, 0, none⟩ 1 1 [.int .i64 tr.kind, .string ⟨tr.text.toArray⟩, .int .i64 tr.num, .int .i64 tr.dim, .int .i64 tr.pos, kv'] (by rfl) (by rfl) (World.news_of_block (cs := #[.int .i64 tr.kind, .string ⟨tr.text.toArray⟩, .int .i64 tr.num, .int .i64 tr.dim, .int .i64 tr.pos, kv']) (t := 26) (fr := (0, 0)) (heap_alloc_new w3 _)) (one6 _ _ _ _ _ _ hkv')
              (by omega) (by unfold maxLen; omega) (by omega) (by simp; have h1 := HC3.out.way.size; simp at h1 hz3; omega) (w3.heap.size + 1) (by simp) ?_
            intro g cap w4 hown hgrow hat hlt
            have HAP := Lib.hid (append_box HQ5.out (fun c hc => (HK.out.own c hc).2.1) hgrow)
            have c5 := cell_of_row _ _ 5 _ _ (0, 0) HAP.out
            have cf5 := frozen_of_row (i := 5) HAP.out
            refine hK _ _ ?_
            clear hK K
            refine wpAny_ready (rs := [6]) (by kernel_rfl) (by simp) ?_
            refine AllReady.cons rfl (fun K hK => ?_) AllReady.nil
            go_simp
            refine hK _ _ ?_
            clear hK K
            refine wpAny_ready (rs := [7]) (by kernel_rfl) (by simp) ?_
            refine AllReady.cons rfl (fun K hK => ?_) AllReady.nil
            go_simp
            refine hK _ _ ?_
            clear hK K
            refine wpAny_done (by kernel_rfl) ?_ _
            have HCP := Lib.hid (coll_push HC3.out HP3.out HN.out HS'.out hown hgrow hat hlt)
            go_wp2_with fail
            have hr := HR.out
            rw [HTS.out] at hr
            have hsh := Tr.value_len 40 _ _ _ hr
            have hlt2 := HCP.out.way.pos.lt
            refine ⟨⟨k', l ++ [tr], _, _, _, _, HCP.out, Lib.hid (Tr.until_step hu.out HSD.out hr hsh), Lib.hid (by have := hll.out; simp at hsh ⊢; omega)⟩, ?_⟩
            rw [atOf_eq HCP.out.way.pos, atOf_eq hc.out.way.pos]
            simp at hsh
            omega
          · go_simp
            refine hK _ _ ?_
            clear hK K
            refine wpAny_ready (rs := [1]) (by kernel_rfl) (by simp) ?_
            refine AllReady.cons rfl (fun K hK => ?_) AllReady.nil
            go_simp
            refine hK _ _ ?_
            clear hK K
            refine wpAny_ready (rs := [5]) (by kernel_rfl) (by simp) ?_
            refine AllReady.cons rfl (fun K hK => ?_) AllReady.nil
            refine step_append_lies _ (by rfl) _ _ _ (by rfl) w.heap.size 26 i0 _ 6 72 Tryz.underlying24 hi0 hz0 hz1' hz2' rfl (by omega) kv l.length (vs.flatMap fun v => v.cells.toList) (by rfl) (HK.out.row.alloc _)
              ⟨w3.heap.size, 0, none⟩ 1 1 [.int .i64 tr.kind, .string ⟨tr.text.toArray⟩, .int .i64 tr.num, .int .i64 tr.dim, .int .i64 tr.pos, kv'] (by rfl) (by rfl) (World.news_of_block (cs := #[.int .i64 tr.kind, .string ⟨tr.text.toArray⟩, .int .i64 tr.num, .int .i64 tr.dim, .int .i64 tr.pos, kv']) (t := 26) (fr := (0, 0)) (heap_alloc_new w3 _)) (one6 _ _ _ _ _ _ hkv')
              (by omega) (by unfold maxLen; omega) (by omega) (by simp; have h1 := HC3.out.way.size; simp at h1 hz3; omega) (w3.heap.size + 1) (by simp) ?_
            intro g cap w4 hown hgrow hat hlt
            have HAP := Lib.hid (append_box HQ5.out (fun c hc => (HK.out.own c hc).2.1) hgrow)
            have c5 := cell_of_row _ _ 5 _ _ (0, 0) HAP.out
            have cf5 := frozen_of_row (i := 5) HAP.out
            refine hK _ _ ?_
            clear hK K
            refine wpAny_ready (rs := [6]) (by kernel_rfl) (by simp) ?_
            refine AllReady.cons rfl (fun K hK => ?_) AllReady.nil
            go_simp
            refine hK _ _ ?_
            clear hK K
            refine wpAny_ready (rs := [7]) (by kernel_rfl) (by simp) ?_
            refine AllReady.cons rfl (fun K hK => ?_) AllReady.nil
            go_simp
            refine hK _ _ ?_
            clear hK K
            refine wpAny_done (by kernel_rfl) ?_ _
            have HCP := Lib.hid (coll_push HC3.out HP3.out HN.out HS'.out hown hgrow hat hlt)
            go_wp2_with fail
            have hr := HR.out
            rw [HTS.out] at hr
            have hsh := Tr.value_len 40 _ _ _ hr
            have hlt2 := HCP.out.way.pos.lt
            refine ⟨⟨k', l ++ [tr], _, _, _, _, HCP.out, Lib.hid (Tr.until_step hu.out HSD.out hr hsh), Lib.hid (by have := hll.out; simp at hsh ⊢; omega)⟩, ?_⟩
            rw [atOf_eq HCP.out.way.pos, atOf_eq hc.out.way.pos]
            simp at hsh
            omega
    · rw [hs] at IS
      have hst : Tr.signB (Tr.hd (T.drop kk)) [59] = true := by rw [hdk]; exact hs
      have hfin := HPI.out
      rw [Tr.until_end hu.out hst] at hfin
      dsimp only at hfin
      rw [show Tr.skipP [59] (T.drop kk) = .ok (T.drop (kk + 1)) by unfold Tr.skipP; rw [if_pos hst, tail_drop]] at hfin
      have HFIN := Lib.hid hfin
      have SK := Lib.hid fun (w2 : World) (h2 : PAt lim w2 B T kk nest) (hl2 : lim ≤ w2.heap.size) => skip_ok h2 hl2 [59] hs
      clear hst hfin hs hcc hdk
      go_wp2_with fail
      refine IS.out.mono ?_
      rintro e w2 ⟨rfl, hb2⟩
      have hc2 := hc.out.below hb2
      have SK2 := Lib.hid (SK.out w2 hc2.way.pos hc2.way.lim_le)
      have HC2 := Lib.hid hc2
      clear hb2 hc2
      go_wp2_with fail
      refine SK2.out.mono ?_
      rintro e w3 ⟨rfl, hp3⟩
      have hbl : w1.heap.size + 1 < w2.heap.size := (Array.getElem?_eq_some_iff.1 HC2.out.node).1
      have hn3 := (hp3.only.block (w1.heap.size + 1) hbl (fun e => by cases e; omega)).trans HC2.out.node
      have hr3 := (hp3.only.block w.heap.size (by omega) (fun e => by cases e; omega)).trans HC2.out.res
      have hk3 := HC2.out.kids.kept hp3.only (fun r e => by cases e; omega)
      have HP3 := Lib.hid (HC2.out.way.call hp3)
      have HR3 := Lib.hid hr3
      have HK3 := Lib.hid hk3
      have hkv := ownsRow_one hk3.row
      have q0 := cell_of_row _ _ 0 _ _ (0, 0) hn3
      have q1 := cell_of_row _ _ 1 _ _ (0, 0) hn3
      have q2 := cell_of_row _ _ 2 _ _ (0, 0) hn3
      have q3 := cell_of_row _ _ 3 _ _ (0, 0) hn3
      have q4 := cell_of_row _ _ 4 _ _ (0, 0) hn3
      have q5 := cell_of_row _ _ 5 _ _ (0, 0) hn3
      have HKV := Lib.hid hkv
      clear hp3 hn3 hr3 hk3 hkv
      go_wp2_with ((with_reducible refine wpList_at ⟨none, .store 26 (.tmp 2) (.tmp 24), _, _, _, _⟩ ?_); go_must (refine wpList_store_box rfl 26 (.tmp 2) (.tmp 24) rfl w.heap.size #[.int .i64 2, .string ⟨t.text.toArray⟩, .int .i64 0, .int .i64 0, .int .i64 (t.pos : Nat), kv] rfl rfl 26 _ HR3.out (by kernel_rfl) rfl (node_cells _ _ _ _ _ _ HKV.out) ?_; intro w5 hg5 hr5))
      have p0 := cell_of_row _ _ 0 _ _ (0, 0) hr5
      have p1 := cell_of_row _ _ 1 _ _ (0, 0) hr5
      have p2 := cell_of_row _ _ 2 _ _ (0, 0) hr5
      have p3 := cell_of_row _ _ 3 _ _ (0, 0) hr5
      have p4 := cell_of_row _ _ 4 _ _ (0, 0) hr5
      have p5 := cell_of_row _ _ 5 _ _ (0, 0) hr5
      refine bodyPost_ret (v := .agg #[.int .i64 2, .string ⟨t.text.toArray⟩, .int .i64 0, .int .i64 0, .int .i64 (t.pos : Nat), kv]) ?_ rfl ?_
      · simp [results, Tryz.results41, go_sem, p0, p1, p2, p3, p4, p5]
      · refine gives_ok HFIN.out _ _ (HP3.out.box (Nat.le_refl _) hg5) rfl ((HK3.out.kept hg5 (fun r e => by cases e; omega)).node 2 0 0 _ _) (fun c hc => ?_)
        have h1 := (HK3.out.kept hg5 (fun r e => by cases e; omega)).blocks c hc
        omega

theorem prop_any {lim B : Nat} {T : List L.Tok} {nest : Nat} (hV : Parses lim B T 57 nest (Tr.valueP 40)) : Parses lim B T 41 nest Tr.propP := by
  intro w k h hl hw
  by_cases hk : (T[k]'h.lt).kind = 0
  · exact prop_good hV h hl hw hk
  · refine (prop_bad h hk).mono fun e w' hp => gives_bad (f := (2, (T[k]'h.lt).pos)) ?_ hp
    rw [propP_bad _ (by rw [hd_drop T k h.lt]; exact hk), hd_drop T k h.lt]
end Go.Proofs.YtooajmbpncmgjaaGreatDoor
