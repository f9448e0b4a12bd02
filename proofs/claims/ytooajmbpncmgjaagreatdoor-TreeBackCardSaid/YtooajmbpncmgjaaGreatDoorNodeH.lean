/- Layer 15's written trees: tree.write, by contract. -/
import Derived.Test.YtooajmbpncmgjaaGreatDoorNodeG
namespace Go.Proofs.YtooajmbpncmgjaaGreatDoor
open Go.RowKit

theorem NodeRd.short {w : World} {lim : Nat} : ∀ (d : Nat) (v : Value) (t : Tr.Tree), NodeRd w lim d v t → Tr.Short d t
  | 0, _, _, h => h.elim
  | d + 1, v, t, ⟨o, c, vs, h1, h2, h3, h4, h5, h6⟩ => ⟨h4, fun k hk => by
      obtain ⟨i, hi, rfl⟩ := List.getElem_of_mem hk
      have hm : (vs[i]'(by omega), t.kids[i]) ∈ vs.zip t.kids := by
        rw [List.mem_iff_getElem]
        exact ⟨i, by simp; omega, by simp⟩
      exact NodeRd.short d _ _ (h6 _ hm)⟩

/-- Between two rounds: the first k strings. -/
structure ListAt (w wr : World) (n0 : Nat) (f : Tr.Tree → List UInt8) (l : List Tr.Tree) (k : Nat) (v : Value) (o : Obj) : Prop where
  le : k ≤ l.length
  row : wr.ownsRow n0 9 1 v k ((l.take k).map fun t => strV (f t))
  box : Boxed w wr o
  base : n0 = w.heap.size + 1
theorem ListAt.push {w wr w3 w4 : World} {n0 : Nat} {f : Tr.Tree → List UInt8} {l : List Tr.Tree} {k : Nat} {v : Value} {o : Obj} {g cap : Nat} (h : ListAt w wr n0 f l k v o) (hk : k < l.length) (hb : Below wr.heap.size wr w3) (hown : w4.ownsRow n0 9 1 (.slice (some ⟨g, 0, none⟩) (k + 1) cap) (k + 1) (((l.take k).map fun t => strV (f t)) ++ [strV (f l[k])]))
    (hg : w3.grownBy w4 v.ownBlock) : ListAt w w4 n0 f l (k + 1) (.slice (some ⟨g, 0, none⟩) (k + 1) cap) o := by
  have hs := h.box.size
  have hz := hb.size
  have hbase := h.base
  have b3 := h.box.below hb
  refine ⟨hk, ?_, ⟨b3.old.grown hg (by omega) (fun r e => by have := (h.row.lt r e).1; omega), Nat.lt_of_lt_of_le b3.size hg.size⟩, hbase⟩
  rw [List.take_succ_eq_append_getElem hk, List.map_append]
  exact hown
theorem ListAt.below {w wr w' : World} {n0 : Nat} {f : Tr.Tree → List UInt8} {l : List Tr.Tree} {k : Nat} {v : Value} {o : Obj} (h : ListAt w wr n0 f l k v o) (hb : Below wr.heap.size wr w') : ListAt w w' n0 f l k v o :=
  ⟨h.le, h.row.kept (grown_none hb) (by cases v.ownBlock <;> simp), h.box.below hb, h.base⟩

set_option maxRecDepth 100000 in
set_option maxHeartbeats 4000000 in
theorem write_group {w : World} {lim d : Nat} {v : Value} {t : Tr.Tree} (f : Tr.Tree → List UInt8) (ih : ∀ (w : World) (v : Value) (k : Tr.Tree), k ∈ t.kids → NodeRd w lim (d - 1) v k → lim ≤ w.heap.size → Std w → Calls Tryz.prog 19 #[v] w fun e w' => e = .returned (.string ⟨(f k).toArray⟩) ∧ Below w.heap.size w w')
    (h : NodeRd w lim d v t) (hl : lim ≤ w.heap.size) (hs : Std w) (hk6 : t.kind = 6) (hn : t.kids.length ≤ 100000) (hj : (Lib.join (t.kids.map f) [44, 32]).length ≤ 140737488355328 - 2) :
    Calls Tryz.prog 19 #[v] w fun e w' => e = .returned (.string ⟨(40 :: (Lib.join (t.kids.map f) [44, 32] ++ [41])).toArray⟩) ∧ Below w.heap.size w w' := by
  obtain ⟨o, c, rfl, hm, _⟩ := h.look
  unfold maxLen at hm
  have H := Lib.hid h
  have HSTD := Lib.hid hs
  have IH := Lib.hid ih
  have HJ := Lib.hid hj
  have HBX := Lib.hid (Boxed.start w (.cells #[.int .i64 6, .string ⟨t.text.toArray⟩, .int .i64 t.num, .int .i64 t.dim, .int .i64 t.pos, .slice o t.kids.length c] 26))
  clear h hs ih hj
  rw [hk6]
  go_enter Tryz.func19, Tryz.ntmps19
  go_wp2_with fail
  go_loopw [3, 24] (fun t3 t24 wr => ∃ k : Nat, t24 = .int .i64 k ∧ Hid (ListAt w wr (w.heap.size + 1) f t.kids k t3 (.cells #[.int .i64 6, .string ⟨t.text.toArray⟩, .int .i64 t.num, .int .i64 t.dim, .int .i64 t.pos, .slice o t.kids.length c] 26))) (fun _ t24 _ => t.kids.length - (intOf t24).toNat)
  case atStart => exact ⟨0, rfl, Lib.hid ⟨Nat.zero_le _, World.ownsRow_nil _ _ _ _, HBX.out, rfl⟩⟩
  case round =>
    obtain ⟨k, rfl, hk⟩ := hrel
    rcases Nat.lt_or_ge k t.kids.length with hlt | hge
    · obtain ⟨a, o', c', rfl, hkid⟩ := (H.out.kept (hk.out.box.all.mono hl)).kid k hlt
      obtain ⟨krd, ka, k0, k1, k2, k3, k4, k5⟩ := hkid
      have i0 : (0 : Int) ≤ (k : Nat) := by omega
      have i1 : ((k : Nat) : Int) < (t.kids.length : Nat) := by omega
      have hls : lim ≤ wr.heap.size := Nat.le_trans hl (Nat.le_of_lt hk.out.box.size)
      have WC := Lib.hid (IH.out _ _ _ (List.getElem_mem hlt) (krd.kept (w' := wr.alloc (.cells #[.int .i64 t.kids[k].kind, .string ⟨t.kids[k].text.toArray⟩, .int .i64 t.kids[k].num, .int .i64 t.kids[k].dim, .int .i64 t.kids[k].pos, .slice o' t.kids[k].kids.length c'] 26)) ((Below.refl _ _).alloc hls _)) (by rw [World.size_alloc]; omega) ((HSTD.out.below hk.out.box.all).below ((Below.refl _ _).alloc (Nat.le_refl _) _)))
      obtain ⟨i0', hi0, hz0, hz1', hz2'⟩ := info_parts Tryz.infoStr
      clear krd
      go_wp2_with fail
      refine WC.out.mono ?_
      rintro e w2 ⟨rfl, hb2⟩
      have hb3 := ((Below.refl _ wr).alloc (Nat.le_refl _) (.cells #[.int .i64 t.kids[k].kind, .string ⟨t.kids[k].text.toArray⟩, .int .i64 t.kids[k].num, .int .i64 t.kids[k].dim, .int .i64 t.kids[k].pos, .slice o' t.kids[k].kids.length c'] 26)).trans (hb2.mono (by rw [World.size_alloc]; omega))
      have hk2 := hk.out.below hb3
      have HK2 := Lib.hid hk2
      have hw2 := hk2.box.size
      clear hb2 hb3 hk2
      go_wp2_with (at_builtin; go_must (refine wpList_append_lies _ rfl _ _ 66 rfl (w.heap.size + 1) 9 i0' _ 1 16 Tryz.underlying66 hi0 hz0 hz1' hz2' rfl (by omega) _ k ((t.kids.take k).map fun t => strV (f t)) rfl (HK2.out.row.alloc _) ⟨w2.heap.size, 0, none⟩ 1 1 [strV (f t.kids[k])] rfl rfl (World.news_of_block (cs := #[strV (f t.kids[k])]) (t := 9) (fr := (0, 0)) (heap_alloc_new w2 _)) (by intro u hu; obtain rfl : u = strV (f t.kids[k]) := (by simpa using hu); rfl) (by omega) (by unfold maxLen; omega) (by omega) (by rw [World.size_alloc]; omega) _ rfl ?_); intro g cap w4 hown hgrow hat hlt4)
      go_roundw
      case rel => exact ⟨k + 1, by go_num, Lib.hid (HK2.out.push hlt ((Below.refl _ w2).alloc (Nat.le_refl _) _) hown hgrow)⟩
      case measure => simp [intOf]; omega
    · have hke : k = t.kids.length := Nat.le_antisymm hk.out.le hge
      subst hke
      have i1 : ¬ ((t.kids.length : Nat) : Int) < (t.kids.length : Nat) := by omega
      have hrow := hk.out.row
      have hold := hk.out.box.all
      rw [List.take_length] at hrow
      have hq1 : ¬ 9223372036854775807 < 1 + (Lib.join (t.kids.map f) [44, 32]).length := by have := HJ.out; omega
      have hq2 : ¬ 9223372036854775807 < 1 + (Lib.join (t.kids.map f) [44, 32]).length + 1 := by have := HJ.out; omega
      rcases hrow.2 with ⟨e1, e2⟩ | ⟨tg, tcap, cur, e1, e2, e3, e4, e5, _⟩
      · subst e1
        have HJN := Lib.hid (Tryz.strings_Join_none none 0 ⟨#[44, 32]⟩ wr)
        have he : Lib.join (t.kids.map f) [44, 32] = [] := by rw [List.length_eq_zero_iff.1 e2]; rfl
        have HOLD := Lib.hid hold
        have HE := Lib.hid he
        clear hold he hrow e2
        go_wp2_with fail
        refine HJN.out.mono ?_
        rintro e w5 ⟨rfl, rfl⟩
        go_wp2_with fail
        go_ret
        exact ⟨by rw [HE.out]; rfl, HOLD.out⟩
      · subst e1
        have hce : ∀ (j : Nat) x, (t.kids.map fun k => (⟨(f k).toArray⟩ : ByteArray))[j]? = some x → wr.cell? ⟨tg, 0 + j, none⟩ = some (.string x) := fun j x hx => by
          rw [Nat.zero_add]
          have hj : j < t.kids.length := by have := (List.getElem?_eq_some_iff.1 hx).1; simpa using this
          rw [hrow.cellAt j (by omega)]
          simp [strV] at hx ⊢
          obtain ⟨y, hy, rfl⟩ := hx
          exact ⟨y, hy, rfl⟩
        have hmm : (t.kids.map fun k => (⟨(f k).toArray⟩ : ByteArray)).map (·.data.toList) = t.kids.map f := by rw [List.map_map]; simp [Function.comp_def]
        have HJ1 := Tryz.strings_Join tg 0 tcap (t.kids.map fun k => (⟨(f k).toArray⟩ : ByteArray)) ⟨#[44, 32]⟩ wr hce (Array.getElem?_eq_some_iff.1 e3).1 (by simp; omega) (by simpa using e4) (by rw [hmm]; have := HJ.out; show (Lib.join _ [44, 32]).length ≤ _; omega)
        rw [hmm, List.length_map] at HJ1
        have HJ2 := Lib.hid HJ1
        have HOLD := Lib.hid hold
        clear hold hrow e4 e5 HJ1 hce
        go_wp2_with fail
        refine HJ2.out.mono ?_
        rintro e w5 ⟨rfl, hb5⟩
        go_wp2_with fail
        go_ret
        exact ⟨rfl, HOLD.out.trans (hb5.mono HOLD.out.size)⟩

set_option maxRecDepth 100000 in
set_option maxHeartbeats 4000000 in
theorem write_leaf {w : World} {lim d : Nat} {v : Value} {t : Tr.Tree} (h : NodeRd w lim d v t) (hs : Std w) (hd : t.kind = 5 → 0 ≤ t.dim ∧ t.dim ≤ 6) (hk6 : ¬ t.kind = 6) :
    Calls Tryz.prog 19 #[v] w fun e w' => e = .returned (.string ⟨(if t.kind = 4 then 34 :: (t.text ++ [34]) else if t.kind = 5 then U.writeU t.num t.dim else t.text).toArray⟩) ∧ Below w.heap.size w w' := by
  obtain ⟨o, c, rfl, hm, htx⟩ := h.look
  have UW := Lib.hid fun (h0 : 0 ≤ t.dim) (h1 : t.dim ≤ 6) => writeU_any t.num t.dim (w.alloc (.cells #[.int .i64 t.kind, .string ⟨t.text.toArray⟩, .int .i64 t.num, .int .i64 t.dim, .int .i64 t.pos, .slice o t.kids.length c] 26)) (hs.below ((Below.refl _ _).alloc (Nat.le_refl _) _)) (by omega) (by omega)
  have HD := Lib.hid hd
  clear h hs hd
  by_cases h4 : t.kind = 4
  · have hq1 : ¬ 9223372036854775807 < 1 + t.text.length := by omega
    have hq2 : ¬ 9223372036854775807 < 1 + t.text.length + 1 := by omega
    rw [if_pos h4, h4]
    go_enter Tryz.func19, Tryz.ntmps19
    go_wp2_with fail
    go_ret
    exact ⟨rfl, (Below.refl _ _).alloc (Nat.le_refl _) _⟩
  · rw [if_neg h4]
    by_cases h5 : t.kind = 5
    · rw [if_pos h5, h5]
      have hd5 := HD.out h5
      have UW := Lib.hid (UW.out hd5.1 hd5.2)
      rw [h5] at UW
      clear hd5
      go_enter Tryz.func19, Tryz.ntmps19
      go_wp2_with fail
      refine UW.out.mono ?_
      rintro e w1 ⟨rfl, hb1⟩
      have HB := Lib.hid (Boxed.of hb1).all
      clear hb1
      go_wp2_with fail
      go_ret
      exact ⟨rfl, HB.out⟩
    · rw [if_neg h5]
      go_enter Tryz.func19, Tryz.ntmps19
      go_wp2_with fail
      go_ret
      exact ⟨rfl, (Below.refl _ _).alloc (Nat.le_refl _) _⟩

theorem Tr.value_dim {m : Nat} {t : Tr.Tree} (h : Tr.valueB m t = true) (h5 : t.kind = 5) : 0 ≤ t.dim ∧ t.dim ≤ 6 := by
  have e : Tr.leafB t = true := by
    cases m with
    | zero => unfold Tr.valueB at h; simp at h; exact h.2
    | succ m => unfold Tr.valueB at h; simp [h5] at h; exact h.2
  unfold Tr.leafB at e
  simp [h5] at e
  omega
theorem write_any : ∀ (m d : Nat) (w : World) (lim : Nat) (v : Value) (t : Tr.Tree), Tr.valueB m t = true → NodeRd w lim d v t → lim ≤ w.heap.size → Std w → Tr.nodes d t ≤ 100000 →
    Calls Tryz.prog 19 #[v] w fun e w' => e = .returned (.string ⟨(Tr.writeV d t).toArray⟩) ∧ Below w.heap.size w w'
  | m, 0, w, lim, v, t, hv, h, _, _, _ => h.elim
  | m, d + 1, w, lim, v, t, hv, h, hl, hs, hn => by
    unfold Tr.writeV
    by_cases hk : t.kind = 6
    · rw [if_neg (by omega), if_neg (by omega), if_pos hk]
      have hs2 := NodeRd.short _ _ _ h
      unfold Tr.nodes at hn
      have hkl : t.kids.length ≤ (t.kids.map (Tr.nodes d)).sum := by
        have q : ∀ l : List Tr.Tree, l.length ≤ (l.map (Tr.nodes d)).sum := fun l => by
          induction l with
          | nil => simp
          | cons x r ih => have := Tr.nodes_pos d x; simp; omega
        exact q _
      have hj := Tr.join_sum 1000010 (Tr.writeV d) (Tr.nodes d) t.kids fun k hk => Tr.writeV_len d k (hs2.2 k hk)
      have hj2 : 1000010 * (t.kids.map (Tr.nodes d)).sum ≤ 1000010 * 100000 := Nat.mul_le_mul_left _ (by omega)
      cases m with
      | zero => unfold Tr.valueB Tr.leafB at hv; simp [hk] at hv
      | succ m =>
        unfold Tr.valueB at hv
        rw [if_pos hk] at hv
        simp at hv
        refine write_group (Tr.writeV d) (fun w v k hm hr hl hs => write_any m d w lim v k (hv.2.1 k hm) hr hl hs ?_) h hl hs hk (by omega) (by omega)
        have q : ∀ l : List Tr.Tree, k ∈ l → Tr.nodes d k ≤ (l.map (Tr.nodes d)).sum := fun l => by
          induction l with
          | nil => intro h; cases h
          | cons x r ih =>
            intro h
            rcases List.mem_cons.1 h with rfl | h
            · simp
            · have := ih h; simp; omega
        have := q _ hm
        omega
    · rw [if_neg hk]
      exact write_leaf h hs (Tr.value_dim hv) hk
end Go.Proofs.YtooajmbpncmgjaaGreatDoor
