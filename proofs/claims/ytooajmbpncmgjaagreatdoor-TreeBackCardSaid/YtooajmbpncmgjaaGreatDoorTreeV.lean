/- Layer 15's parser: a value, by contract, where a group has its own. -/
import Derived.Test.YtooajmbpncmgjaaGreatDoorTreeC
import Derived.Deep.MidRow
namespace Go.Proofs.YtooajmbpncmgjaaGreatDoor
open Go.RowKit
attribute [local go_sem] fld_tok0 fld_tok1 fld_tok2

theorem ownsRow_one {w : World} {base : Nat} {e : TypeId} {sz k : Nat} {v : Value} {xs : List Value} (h : w.ownsRow base e sz v k xs) : v.oneCell' = true := by
  rcases h.2 with ⟨rfl, _⟩ | ⟨g, cap, cur, rfl, _⟩ <;> rfl
theorem node_cells (k n d p : Int) (t : ByteArray) (kv : Value) (h : kv.oneCell' = true) : (#[.int .i64 k, .string t, .int .i64 n, .int .i64 d, .int .i64 p, kv] : Array Value).all (fun x => x.oneCell') = true := by
  refine all_oneCell_toArray (cs := [.int .i64 k, .string t, .int .i64 n, .int .i64 d, .int .i64 p, kv]) fun v hv => ?_
  simp only [List.mem_cons, List.not_mem_nil, or_false] at hv
  rcases hv with rfl | rfl | rfl | rfl | rfl | rfl <;> first | exact h | rfl
theorem NodeIn.agg {w : World} {S : Nat → Prop} {d : Nat} {v : Value} {t : Tr.Tree} (h : NodeIn w S d v t) : ∃ kv, kv.oneCell' = true ∧ v = .agg #[.int .i64 t.kind, .string ⟨t.text.toArray⟩, .int .i64 t.num, .int .i64 t.dim, .int .i64 t.pos, kv] := by
  cases d with
  | zero => exact h.elim
  | succ d =>
    obtain ⟨kv, vs, h1, h2, _⟩ := h
    exact ⟨kv, ownsRow_one h2, h1⟩

/-- A contract of the parser for a whole token list: from any place. -/
def Parses (lim B : Nat) (T : List L.Tok) (fn : Nat) (nest : Nat) (P : List L.Tok → Tr.Res Tr.Tree) : Prop :=
  ∀ (w : World) (k : Nat), PAt lim w B T k nest → lim ≤ w.heap.size → Std w → Calls Tryz.prog fn #[.pointer (some ⟨B, 0, none⟩)] w (Gives lim B T w nest (P (T.drop k)))

theorem valueP_group (f : Nat) (ts : List L.Tok) (h : Tr.signB (Tr.hd ts) [40] = false) : Tr.valueP f ts = match Tr.leafP ts with
    | some r => .ok r
    | none => Tr.amountP ts := by
  cases f with
  | zero => unfold Tr.valueP; rw [if_neg (by rw [h]; simp)]; cases Tr.leafP ts <;> rfl
  | succ f => unfold Tr.valueP; rw [if_neg (by rw [h]; simp)]; cases Tr.leafP ts <;> rfl
theorem leafP_word (ts : List L.Tok) (h : (Tr.hd ts).kind = 0) : Tr.leafP ts = some (⟨3, (Tr.hd ts).text, 0, 0, (Tr.hd ts).pos, []⟩, ts.tail) := by
  unfold Tr.leafP; rw [if_pos (by simpa using h)]
theorem leafP_text (ts : List L.Tok) (h : (Tr.hd ts).kind = 2) : Tr.leafP ts = some (⟨4, (Tr.hd ts).text, 0, 0, (Tr.hd ts).pos, []⟩, ts.tail) := by
  unfold Tr.leafP; rw [if_neg (by simp [h]), if_pos (by simpa using h)]
theorem leafP_no (ts : List L.Tok) (h0 : (Tr.hd ts).kind ≠ 0) (h2 : (Tr.hd ts).kind ≠ 2) : Tr.leafP ts = none := by
  unfold Tr.leafP; rw [if_neg (by simpa using h0), if_neg (by simpa using h2)]

theorem pamount_any {lim B : Nat} {T : List L.Tok} {nest : Nat} : Parses lim B T 81 nest Tr.amountP := by
  intro w k h hl hw
  by_cases hk : (T[k]'h.lt).kind = 1
  · exact amount_good h hl hw hk
  · refine (amount_bad h hk).mono fun e w' hp => gives_bad (f := (2, (T[k]'h.lt).pos)) ?_ hp
    rw [amountP_bad _ (by rw [hd_drop T k h.lt]; exact hk), hd_drop T k h.lt]

set_option maxRecDepth 100000 in
set_option maxHeartbeats 2000000 in
theorem value_leaf {lim B : Nat} {T : List L.Tok} {nest : Nat} (f : Nat) {w : World} {k : Nat} (h : PAt lim w B T k nest) (hl : lim ≤ w.heap.size) (hg : Tr.signB (T[k]'h.lt) [40] = false) (kd : Nat) (hkd : kd = 0 ∨ kd = 2) (hk : (T[k]'h.lt).kind = kd) :
    Calls Tryz.prog 57 #[.pointer (some ⟨B, 0, none⟩)] w (Gives lim B T w nest (Tr.valueP f (T.drop k))) := by
  have hd := hd_drop T k h.lt
  have hv := valueP_group f (T.drop k) (by rw [hd]; exact hg)
  have hp0 := (PTo.start h hl).alloc (.cells #[.int .i64 0, .string ⟨#[]⟩, .int .i64 0, .int .i64 0, .int .i64 0, .slice none 0 0] 26)
  obtain ⟨tb, cap, hc⟩ := hp0.pos.cells
  have IS := Lib.hid (is_at hc [40])
  have hlf : ∃ nk : Int, Tr.leafP (T.drop k) = some (⟨nk, (T[k]'h.lt).text, 0, 0, (T[k]'h.lt).pos, []⟩, T.drop (k + 1)) ∧ ∀ (w1 : World) (h1 : PAt lim w1 B T k nest), lim ≤ w1.heap.size →
      Calls Tryz.prog 38 #[.pointer (some ⟨B, 0, none⟩)] w1 fun e w' =>
        e = .returned (.tuple #[.agg #[.int .i64 nk, .string ⟨(T[k]'h.lt).text.toArray⟩, .int .i64 0, .int .i64 0, .int .i64 ((T[k]'h.lt).pos : Nat), .slice none 0 0], .bool true]) ∧ PTo lim B T w1 w' (k + 1) nest := by
    rcases hkd with rfl | rfl
    · exact ⟨3, by rw [leafP_word _ (by rw [hd]; exact hk), hd, tail_drop], fun w1 h1 h2 => leaf_word h1 h2 hk⟩
    · exact ⟨4, by rw [leafP_text _ (by rw [hd]; exact hk), hd, tail_drop], fun w1 h1 h2 => leaf_text h1 h2 hk⟩
  obtain ⟨nk, hlp, hlc⟩ := hlf
  rw [hlp] at hv
  have HV := Lib.hid hv
  have HLC := Lib.hid hlc
  have HP := Lib.hid hp0
  have HG := Lib.hid hg
  have hBlt := Nat.lt_of_lt_of_le h.bB hl
  generalize T[k]'h.lt = t at *
  clear hv hlc hp0 hg hlp hkd hk hd hc
  go_enter Tryz.func57, Tryz.ntmps57
  go_wp2_with fail
  refine IS.out.mono ?_
  rintro e w1 ⟨rfl, hb1⟩
  rw [HG.out]
  have hp1 := HP.out.below hb1
  have LF := Lib.hid (HLC.out w1 hp1.pos hp1.lim_le)
  have HP1 := Lib.hid hp1
  have hz1 := hb1.size
  rw [World.size_alloc] at hz1
  have hr1 := (hb1.block w.heap.size (by simp)).trans (heap_alloc_new w _)
  have HR1 := Lib.hid hr1
  clear hb1 hp1 hr1
  go_wp2_with fail
  refine LF.out.mono ?_
  rintro e w2 ⟨rfl, hp2⟩
  have hr2 := (hp2.only.block w.heap.size (by omega) (fun e => by cases e; omega)).trans HR1.out
  have HP2 := Lib.hid ((HP1.out.call hp2).alloc (.cells #[.int .i64 nk, .string ⟨t.text.toArray⟩, .int .i64 0, .int .i64 0, .int .i64 (t.pos : Nat), .slice none 0 0] 26))
  have HR2 := Lib.hid hr2
  clear hp2 hr2
  go_wp2_with ((with_reducible refine wpList_at ⟨none, .store 26 (.tmp 2) (.tmp 15), _, _, _, _⟩ ?_); go_must (refine wpList_store_box rfl 26 (.tmp 2) (.tmp 15) rfl w.heap.size #[.int .i64 nk, .string ⟨t.text.toArray⟩, .int .i64 0, .int .i64 0, .int .i64 (t.pos : Nat), .slice none 0 0] rfl rfl 26 _ (row_alloc HR2.out _) (by kernel_rfl) rfl (by simp [Value.oneCell']) ?_; intro w5 hg5 hr5))
  have p0 := cell_of_row _ _ 0 _ _ (0, 0) hr5
  have p1 := cell_of_row _ _ 1 _ _ (0, 0) hr5
  have p2 := cell_of_row _ _ 2 _ _ (0, 0) hr5
  have p3 := cell_of_row _ _ 3 _ _ (0, 0) hr5
  have p4 := cell_of_row _ _ 4 _ _ (0, 0) hr5
  have p5 := cell_of_row _ _ 5 _ _ (0, 0) hr5
  refine bodyPost_ret (v := .agg #[.int .i64 nk, .string ⟨t.text.toArray⟩, .int .i64 0, .int .i64 0, .int .i64 (t.pos : Nat), .slice none 0 0]) ?_ rfl ?_
  · simp [results, Tryz.results57, go_sem, p0, p1, p2, p3, p4, p5]
  · exact gives_ok HV.out (fun _ => False) 1 (HP2.out.box (Nat.le_refl _) hg5) rfl (NodeIn.leaf _ _ nk 0 0 _ _) (fun b hb => hb.elim)

set_option maxRecDepth 100000 in
set_option maxHeartbeats 2000000 in
/-- Where neither a group nor a word stands: an amount. -/
theorem value_amount {lim B : Nat} {T : List L.Tok} {nest : Nat} (f : Nat) {w : World} {k : Nat} (h : PAt lim w B T k nest) (hl : lim ≤ w.heap.size) (hw : Std w) (hg : Tr.signB (T[k]'h.lt) [40] = false) (h0 : (T[k]'h.lt).kind ≠ 0) (h2 : (T[k]'h.lt).kind ≠ 2) :
    Calls Tryz.prog 57 #[.pointer (some ⟨B, 0, none⟩)] w (Gives lim B T w nest (Tr.valueP f (T.drop k))) := by
  have hd := hd_drop T k h.lt
  have hv := valueP_group f (T.drop k) (by rw [hd]; exact hg)
  rw [leafP_no _ (by rw [hd]; exact h0) (by rw [hd]; exact h2)] at hv
  dsimp only at hv
  have hp0 := (PTo.start h hl).alloc (.cells #[.int .i64 0, .string ⟨#[]⟩, .int .i64 0, .int .i64 0, .int .i64 0, .slice none 0 0] 26)
  obtain ⟨tb, cap, hc⟩ := hp0.pos.cells
  have IS := Lib.hid (is_at hc [40])
  have LN := Lib.hid fun (w1 : World) (h1 : PAt lim w1 B T k nest) (hl1 : lim ≤ w1.heap.size) => leaf_no h1 hl1 h0 h2
  have HV := Lib.hid hv
  have HP := Lib.hid hp0
  have HG := Lib.hid hg
  have HW := Lib.hid hw
  have hBlt := Nat.lt_of_lt_of_le h.bB hl
  generalize T[k]'h.lt = t at *
  clear hv hc hg hd h0 h2 hw hp0
  go_enter Tryz.func57, Tryz.ntmps57
  go_wp2_with fail
  refine IS.out.mono ?_
  rintro e w1 ⟨rfl, hb1⟩
  rw [HG.out]
  have hp1 := HP.out.below hb1
  have LF := Lib.hid (LN.out w1 hp1.pos hp1.lim_le)
  have HP1 := Lib.hid hp1
  have hz1 := hb1.size
  rw [World.size_alloc] at hz1
  have hr1 := (hb1.block w.heap.size (by simp)).trans (heap_alloc_new w _)
  have HR1 := Lib.hid hr1
  clear hb1 hp1 hr1
  go_wp2_with fail
  refine LF.out.mono ?_
  rintro e w2 ⟨rfl, hp2⟩
  have hr2 := row_alloc ((hp2.only.block w.heap.size (by omega) (fun e => by cases e; omega)).trans HR1.out) (.cells #[.int .i64 0, .string ⟨#[]⟩, .int .i64 0, .int .i64 0, .int .i64 0, .slice none 0 0] 26)
  have hpp := (HP1.out.call hp2).alloc (.cells #[.int .i64 0, .string ⟨#[]⟩, .int .i64 0, .int .i64 0, .int .i64 0, .slice none 0 0] 26)
  have AM := Lib.hid (pamount_any (nest := nest) _ k hpp.pos hpp.lim_le (hpp.std HW.out))
  have hz2 : w.heap.size < w2.heap.size := by have := hp2.size; omega
  have HP2 := Lib.hid hpp
  have HR2 := Lib.hid hr2
  clear hp2 hr2 hpp
  go_wp2_with fail
  refine AM.out.mono ?_
  cases hr : Tr.amountP (T.drop k) with
  | error ft =>
    rintro e w4 ⟨rfl, hb4⟩
    exact ⟨rfl, gives_bad (HV.out.trans hr) ⟨rfl, only_trans HP2.out.only hb4⟩⟩
  | ok x =>
    obtain ⟨tr, ts⟩ := x
    rintro e w4 ⟨k', v, S, d, rfl, hp4, hts, hn, hS⟩
    obtain ⟨kv, hkv, rfl⟩ := hn.agg
    have hr4 := (hp4.only.block w.heap.size (by (try simp); omega) (fun e => by cases e; omega)).trans HR2.out
    have HV2 := Lib.hid (HV.out.trans hr)
    have HP4 := Lib.hid (HP2.out.call hp4)
    have HR4 := Lib.hid hr4
    have HN := Lib.hid hn
    have HS := Lib.hid hS
    have HT := Lib.hid hts
    clear hr hp4 hts hn hS hr4
    go_wp2_with ((with_reducible refine wpList_at ⟨none, .store 26 (.tmp 2) (.tmp 17), _, _, _, _⟩ ?_); go_must (refine wpList_store_box rfl 26 (.tmp 2) (.tmp 17) rfl w.heap.size #[.int .i64 tr.kind, .string ⟨tr.text.toArray⟩, .int .i64 tr.num, .int .i64 tr.dim, .int .i64 tr.pos, kv] rfl rfl 26 _ HR4.out (by kernel_rfl) rfl (node_cells _ _ _ _ _ _ hkv) ?_; intro w5 hg5 hr5))
    have p0 := cell_of_row _ _ 0 _ _ (0, 0) hr5
    have p1 := cell_of_row _ _ 1 _ _ (0, 0) hr5
    have p2 := cell_of_row _ _ 2 _ _ (0, 0) hr5
    have p3 := cell_of_row _ _ 3 _ _ (0, 0) hr5
    have p4 := cell_of_row _ _ 4 _ _ (0, 0) hr5
    have p5 := cell_of_row _ _ 5 _ _ (0, 0) hr5
    refine bodyPost_ret (v := .agg #[.int .i64 tr.kind, .string ⟨tr.text.toArray⟩, .int .i64 tr.num, .int .i64 tr.dim, .int .i64 tr.pos, kv]) ?_ rfl ?_
    · simp [results, Tryz.results57, go_sem, p0, p1, p2, p3, p4, p5]
    · have hs := HS.out
      refine gives_ok HV2.out S d (HP4.out.box (Nat.le_refl _) hg5) HT.out (NodeIn.kept hg5 (fun r e => ?_) _ _ _ HN.out) (fun b hb => ?_)
      · cases e; intro hb; have := (hs _ hb).1; simp at this; omega
      · have h1 := hs b hb; have h2 := hg5.size; simp at h1; omega

/-- A group's contract. -/
def Groups (lim B : Nat) (T : List L.Tok) (nest f : Nat) : Prop :=
  ∀ (w : World) (k : Nat) (h : PAt lim w B T k nest), lim ≤ w.heap.size → Std w → Tr.signB (T[k]'h.lt) [40] = true → Calls Tryz.prog 80 #[.pointer (some ⟨B, 0, none⟩)] w (Gives lim B T w nest (Tr.valueP f (T.drop k)))

set_option maxRecDepth 100000 in
set_option maxHeartbeats 2000000 in
theorem value_group {lim B : Nat} {T : List L.Tok} {nest f : Nat} (hG : Groups lim B T nest f) {w : World} {k : Nat} (h : PAt lim w B T k nest) (hl : lim ≤ w.heap.size) (hw : Std w) (hg : Tr.signB (T[k]'h.lt) [40] = true) :
    Calls Tryz.prog 57 #[.pointer (some ⟨B, 0, none⟩)] w (Gives lim B T w nest (Tr.valueP f (T.drop k))) := by
  have hp0 := (PTo.start h hl).alloc (.cells #[.int .i64 0, .string ⟨#[]⟩, .int .i64 0, .int .i64 0, .int .i64 0, .slice none 0 0] 26)
  obtain ⟨tb, cap, hc⟩ := hp0.pos.cells
  have IS := Lib.hid (is_at hc [40])
  have GR := Lib.hid fun (w1 : World) (h1 : PAt lim w1 B T k nest) (hl1 : lim ≤ w1.heap.size) (hw1 : Std w1) => hG w1 k h1 hl1 hw1 hg
  have HP := Lib.hid hp0
  have HG := Lib.hid hg
  have HW := Lib.hid hw
  have hBlt := Nat.lt_of_lt_of_le h.bB hl
  generalize T[k]'h.lt = t at *
  clear hc hg hw hp0 hG
  go_enter Tryz.func57, Tryz.ntmps57
  go_wp2_with fail
  refine IS.out.mono ?_
  rintro e w1 ⟨rfl, hb1⟩
  rw [HG.out]
  have hpp := HP.out.below hb1
  have GC := Lib.hid (GR.out w1 hpp.pos hpp.lim_le (hpp.std HW.out))
  have HP2 := Lib.hid hpp
  have hz2 := hb1.size
  rw [World.size_alloc] at hz2
  have hr2 := (hb1.block w.heap.size (by simp)).trans (heap_alloc_new w _)
  have HR2 := Lib.hid hr2
  clear hb1 hpp hr2
  go_wp2_with fail
  refine GC.out.mono ?_
  cases hr : Tr.valueP f (T.drop k) with
  | error ft =>
    rintro e w4 ⟨rfl, hb4⟩
    exact ⟨rfl, gives_bad rfl ⟨rfl, only_trans HP2.out.only hb4⟩⟩
  | ok x =>
    obtain ⟨tr, ts⟩ := x
    rintro e w4 ⟨k', v, S, d, rfl, hp4, hts, hn, hS⟩
    obtain ⟨kv, hkv, rfl⟩ := hn.agg
    have hr4 := (hp4.only.block w.heap.size (by (try simp); omega) (fun e => by cases e; omega)).trans HR2.out
    have HV2 := Lib.hid hr
    have HP4 := Lib.hid (HP2.out.call hp4)
    have HR4 := Lib.hid hr4
    have HN := Lib.hid hn
    have HS := Lib.hid hS
    have HT := Lib.hid hts
    clear hr hp4 hts hn hS hr4
    go_wp2_with ((with_reducible refine wpList_at ⟨none, .store 26 (.tmp 2) (.tmp 8), _, _, _, _⟩ ?_); go_must (refine wpList_store_box rfl 26 (.tmp 2) (.tmp 8) rfl w.heap.size #[.int .i64 tr.kind, .string ⟨tr.text.toArray⟩, .int .i64 tr.num, .int .i64 tr.dim, .int .i64 tr.pos, kv] rfl rfl 26 _ HR4.out (by kernel_rfl) rfl (node_cells _ _ _ _ _ _ hkv) ?_; intro w5 hg5 hr5))
    have p0 := cell_of_row _ _ 0 _ _ (0, 0) hr5
    have p1 := cell_of_row _ _ 1 _ _ (0, 0) hr5
    have p2 := cell_of_row _ _ 2 _ _ (0, 0) hr5
    have p3 := cell_of_row _ _ 3 _ _ (0, 0) hr5
    have p4 := cell_of_row _ _ 4 _ _ (0, 0) hr5
    have p5 := cell_of_row _ _ 5 _ _ (0, 0) hr5
    refine bodyPost_ret (v := .agg #[.int .i64 tr.kind, .string ⟨tr.text.toArray⟩, .int .i64 tr.num, .int .i64 tr.dim, .int .i64 tr.pos, kv]) ?_ rfl ?_
    · simp [results, Tryz.results57, go_sem, p0, p1, p2, p3, p4, p5]
    · have hs := HS.out
      refine gives_ok HV2.out S d (HP4.out.box (Nat.le_refl _) hg5) HT.out (NodeIn.kept hg5 (fun r e => ?_) _ _ _ HN.out) (fun b hb => ?_)
      · cases e; intro hb; have := (hs _ hb).1; (try simp at this); omega
      · have h1 := hs b hb; have h2 := hg5.size; (try simp at h1); omega

theorem pvalue_any {lim B : Nat} {T : List L.Tok} {nest f : Nat} (hG : Groups lim B T nest f) : Parses lim B T 57 nest (Tr.valueP f) := by
  intro w k h hl hw
  cases hg : Tr.signB (T[k]'h.lt) [40]
  · by_cases h0 : (T[k]'h.lt).kind = 0
    · exact value_leaf f h hl hg 0 (.inl rfl) h0
    · by_cases h2 : (T[k]'h.lt).kind = 2
      · exact value_leaf f h hl hg 2 (.inr rfl) h2
      · exact value_amount f h hl hw hg h0 h2
  · exact value_group hG h hl hw hg
end Go.Proofs.YtooajmbpncmgjaaGreatDoor
