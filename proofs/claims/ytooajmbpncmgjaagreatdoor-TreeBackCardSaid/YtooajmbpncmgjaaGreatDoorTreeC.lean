/- Layer 15's parser: amounts, by contract. -/
import Derived.Test.YtooajmbpncmgjaaGreatDoorTreeN
namespace Go.Proofs.YtooajmbpncmgjaaGreatDoor
open Go.RowKit
attribute [local go_sem] fld_tok0 fld_tok1 fld_tok2

set_option maxHeartbeats 400000 in
theorem known_any (s : ByteArray) (w : World) (hw : Std w) :
    Calls Tryz.prog 55 #[.string s] w fun e w' => e = .returned (.bool (Tr.known s.data.toList)) ∧ Below w.heap.size w w' := by
  have AM := Lib.hid (amountU_any ⟨#[48]⟩ s w hw (by decide))
  have HF := Lib.hid (show Tr.known s.data.toList = ((U.amountU [48] s.data.toList).2.2 != 6) from rfl)
  go_enter Tryz.func55, Tryz.ntmps55
  go_wp2_with fail
  refine AM.out.mono ?_
  rintro e w1 ⟨rfl, hb1⟩
  go_wp2_with fail
  go_ret
  exact ⟨tret_bool HF.out.symm, hb1.alloc hb1.size _⟩

theorem amount_is (l1 l2 : List UInt8) (n d e : Int) (h : U.amountU l1 l2 = (n, d, e)) (hl : l1.length ≤ 1000000) (w : World) (hw : Std w) :
    Calls Tryz.prog 16 #[.string ⟨l1.toArray⟩, .string ⟨l2.toArray⟩] w fun r w' => r = .returned (.tuple #[.agg #[.int .i64 n, .int .i64 d], .int .i64 e]) ∧ Below w.heap.size w w' := by
  have c := amountU_any ⟨l1.toArray⟩ ⟨l2.toArray⟩ w hw (by rw [L.ba_size]; exact hl)
  rw [show (ByteArray.mk l1.toArray).data.toList = l1 from rfl, show (ByteArray.mk l2.toArray).data.toList = l2 from rfl, h] at c
  exact c

theorem amountP_bad (ts : List L.Tok) (h : (Tr.hd ts).kind ≠ 1) : Tr.amountP ts = .error (2, (Tr.hd ts).pos) := by
  unfold Tr.amountP
  rw [if_neg (by simpa using h)]
theorem amountP_no (ts : List L.Tok) (h : (Tr.hd ts).kind = 1) (he : (U.amountU (Tr.hd ts).text (Tr.unitP ts.tail).1).2.2 ≠ 0) : Tr.amountP ts = .error (7, (Tr.hd ts).pos) := by
  unfold Tr.amountP
  rw [if_pos (by simpa using h)]
  dsimp only
  rw [if_neg (by simpa using he)]
theorem amountP_ok (ts : List L.Tok) (h : (Tr.hd ts).kind = 1) (he : (U.amountU (Tr.hd ts).text (Tr.unitP ts.tail).1).2.2 = 0) :
    Tr.amountP ts = .ok (⟨5, [], (U.amountU (Tr.hd ts).text (Tr.unitP ts.tail).1).1, (U.amountU (Tr.hd ts).text (Tr.unitP ts.tail).1).2.1, (Tr.hd ts).pos, []⟩, (Tr.unitP ts.tail).2) := by
  unfold Tr.amountP
  rw [if_pos (by simpa using h)]
  dsimp only
  rw [if_pos (by simpa using he)]

set_option maxHeartbeats 1000000 in
theorem amount_bad {lim : Nat} {w : World} {B : Nat} {T : List L.Tok} {k nest : Nat} (h : PAt lim w B T k nest) (hk : (T[k]'h.lt).kind ≠ 1) :
    Calls Tryz.prog 81 #[.pointer (some ⟨B, 0, none⟩)] w (Panics w B (2, (T[k]'h.lt).pos)) := by
  have TK := Lib.hid (take_bad (h.grown (World.grownBy_alloc w (.cells #[.int .i64 0, .string ⟨#[]⟩, .int .i64 0, .int .i64 0, .int .i64 0, .slice none 0 0] 26) none) (fun r e => by cases e)) 1 hk)
  clear hk
  generalize T[k]'h.lt = t at *
  clear h
  go_enter Tryz.func81, Tryz.ntmps81
  go_wp2_with fail
  refine TK.out.mono ?_
  rintro e w1 ⟨rfl, hb1⟩
  exact ⟨rfl, rfl, only_trans (only_below ((Below.refl _ _).alloc (Nat.le_refl _) _) _) hb1⟩

theorem unitP_no (ts : List L.Tok) (h : (Tr.hd ts).kind ≠ 0) : Tr.unitP ts = ([], ts) := by
  unfold Tr.unitP
  rw [if_neg (by simp [h])]
theorem unitP_unknown (ts : List L.Tok) (h : Tr.known (Tr.hd ts).text = false) : Tr.unitP ts = ([], ts) := by
  unfold Tr.unitP
  rw [if_neg (by simp [h])]
theorem unitP_yes (ts : List L.Tok) (h : (Tr.hd ts).kind = 0) (hk : Tr.known (Tr.hd ts).text = true) : Tr.unitP ts = ((Tr.hd ts).text, ts.tail) := by
  unfold Tr.unitP
  rw [if_pos (by simp [h, hk])]

set_option maxRecDepth 100000 in
set_option maxHeartbeats 4000000 in
theorem amount_good {lim : Nat} {w : World} {B : Nat} {T : List L.Tok} {k nest : Nat} (h : PAt lim w B T k nest) (hl : lim ≤ w.heap.size) (hw : Std w) (hk : (T[k]'h.lt).kind = 1) :
    Calls Tryz.prog 81 #[.pointer (some ⟨B, 0, none⟩)] w (Gives lim B T w nest (Tr.amountP (T.drop k))) := by
  have hnext := h.next (by omega)
  have h1 : Tr.hd (T.drop k) = T[k]'h.lt := hd_drop T k h.lt
  have h2 : Tr.hd (T.drop (k + 1)) = T[k + 1] := hd_drop T (k + 1) hnext
  have hkk : (Tr.hd (T.drop k)).kind = 1 := by rw [h1]; exact hk
  have hno := amountP_no (T.drop k) hkk
  have hok := amountP_ok (T.drop k) hkk
  rw [h1, tail_drop] at hno hok
  have hsh := h.short k h.lt
  have hp0 := PTo.start h hl
  have hBlt := Nat.lt_of_lt_of_le h.bB hl
  have hp := hp0.alloc (.cells #[.int .i64 0, .string ⟨#[]⟩, .int .i64 0, .int .i64 0, .int .i64 0, .slice none 0 0] 26)
  have TKc := Lib.hid (take_ok hp.pos hp.lim_le 1 hk (by decide))
  have HP := Lib.hid hp
  obtain ⟨t, ht⟩ : ∃ t, T[k]'h.lt = t := ⟨_, rfl⟩
  obtain ⟨u, hu⟩ : ∃ u, T[k + 1] = u := ⟨_, rfl⟩
  rw [ht] at TKc hno hok hsh
  rw [hu] at h2
  have HU := Lib.hid hu
  have HNO := Lib.hid hno
  have HOK := Lib.hid hok
  have H2 := Lib.hid h2
  have HW := Lib.hid hw
  clear hno hok h1 hkk ht hu h2 hw hp hp0 hk
  go_enter Tryz.func81, Tryz.ntmps81
  go_wp2_with fail
  refine TKc.out.mono ?_
  rintro e w1 ⟨rfl, hp1⟩
  have hz1 := hp1.size
  rw [World.size_alloc] at hz1
  have hr1 : w1.heap[w.heap.size]? = some (.cells #[.int .i64 0, .string ⟨#[]⟩, .int .i64 0, .int .i64 0, .int .i64 0, .slice none 0 0] 26 (0, 0)) := (hp1.only.block w.heap.size (by simp) (fun e => by cases e; omega)).trans (heap_alloc_new w _)
  have hpp := (HP.out.call hp1).alloc (.cells #[.int .i64 (t.kind : Nat), .string ⟨t.text.toArray⟩, .int .i64 (t.pos : Nat)] 41)
  obtain ⟨tb, cap, hc⟩ := hpp.pos.cells
  rw [HU.out] at hc
  have N1 := Lib.hid (now_at hc)
  have HP1 := Lib.hid hpp
  have HR1 := Lib.hid hr1
  clear hp1 hr1 hpp hc
  go_wp2_with fail
  refine N1.out.mono ?_
  rintro e w2 ⟨rfl, hb2⟩
  have hz2 := hb2.size
  rw [World.size_alloc] at hz2
  have hr2 : w2.heap[w.heap.size]? = some (.cells #[.int .i64 0, .string ⟨#[]⟩, .int .i64 0, .int .i64 0, .int .i64 0, .slice none 0 0] 26 (0, 0)) := (hb2.block w.heap.size (by (try simp); omega)).trans (row_alloc HR1.out _)
  have ht3 : w2.heap[w1.heap.size]? = some (.cells #[.int .i64 (t.kind : Nat), .string ⟨t.text.toArray⟩, .int .i64 (t.pos : Nat)] 41 (0, 0)) := (hb2.block w1.heap.size (by simp)).trans (heap_alloc_new w1 _)
  have HP2 := Lib.hid (HP1.out.below hb2)
  have HR2 := Lib.hid hr2
  have HT3 := Lib.hid ht3
  clear hb2 hr2
  have q0 := cell_of_row _ _ 0 _ _ (0, 0) ht3
  have q1 := cell_of_row _ _ 1 _ _ (0, 0) ht3
  have q2 := cell_of_row _ _ 2 _ _ (0, 0) ht3
  have hz3 : w1.heap.size < w2.heap.size := by omega
  clear ht3
  by_cases hu0 : u.kind = 0
  · have e0 : ((u.kind : Int) == 0) = true := by rw [hu0]; rfl
    have hkl := known_any ⟨u.text.toArray⟩ (w2.alloc (.cells #[.int .i64 (u.kind : Nat), .string ⟨u.text.toArray⟩, .int .i64 (u.pos : Nat)] 41)) ((HP2.out.alloc _).std HW.out)
    rw [show (ByteArray.mk u.text.toArray).data.toList = u.text from rfl] at hkl
    cases hkn : Tr.known u.text
    · have HUN := Lib.hid (unitP_unknown (T.drop (k + 1)) (by rw [H2.out]; exact hkn))
      rw [hkn] at hkl
      have KN := Lib.hid hkl
      clear hkl hkn hu0
      go_wp2_with fail
      refine KN.out.mono ?_
      rintro e w3 ⟨rfl, hb3⟩
      have hr3 := (hb3.block w.heap.size (by (try simp); omega)).trans (row_alloc HR2.out _)
      have ht3 := (hb3.block w1.heap.size (by (try simp); omega)).trans (row_alloc HT3.out _)
      have hal := (HP2.out.alloc _).below hb3
      have s0 := cell_of_row _ _ 0 _ _ (0, 0) ht3
      have s1 := cell_of_row _ _ 1 _ _ (0, 0) ht3
      have hz5 : w1.heap.size < w3.heap.size := by have h := hb3.size; simp at h; omega
      have hz6 : w.heap.size < w3.heap.size := by omega
      have HR3 := Lib.hid hr3
      have HT4 := Lib.hid ht3
      clear hb3 hr3 ht3
      obtain ⟨a1, a2, a3, ha⟩ : ∃ a1 a2 a3, U.amountU t.text [] = (a1, a2, a3) := ⟨_, _, _, rfl⟩
      have AM := Lib.hid (amount_is t.text [] a1 a2 a3 ha hsh _ (hal.std HW.out))
      have HAL := Lib.hid hal
      have hno := HNO.out
      have hok := HOK.out
      rw [HUN.out, ha] at hno hok
      dsimp only at hno hok
      by_cases he : a3 = 0
      · have hok2 := Lib.hid (hok he)
        have e3 : (a3 != 0) = false := by simpa using he
        clear hal hno hok ha he
        go_wp2_with fail
        refine AM.out.mono ?_
        rintro e w4 ⟨rfl, hb4⟩
        have hr4 : w4.heap[w.heap.size]? = some (.cells #[.int .i64 0, .string ⟨#[]⟩, .int .i64 0, .int .i64 0, .int .i64 0, .slice none 0 0] 26 (0, 0)) := (hb4.block w.heap.size (by (try simp); omega)).trans HR3.out
        have ht4 : w4.heap[w1.heap.size]? = some (.cells #[.int .i64 (t.kind : Nat), .string ⟨t.text.toArray⟩, .int .i64 (t.pos : Nat)] 41 (0, 0)) := (hb4.block w1.heap.size (by (try simp); omega)).trans HT4.out
        have HP4 := Lib.hid ((HAL.out.below hb4).alloc (.cells #[.int .i64 a1, .int .i64 a2] 23))
        have HR4 := Lib.hid hr4
        have s2 := cell_of_row _ _ 2 _ _ (0, 0) ht4
        have hz4 : w1.heap.size < w4.heap.size := (Array.getElem?_eq_some_iff.1 ht4).1
        clear hb4 hr4 ht4
        go_wp2_with ((with_reducible refine wpList_at ⟨none, .store 26 (.tmp 2) (.tmp 44), _, _, _, _⟩ ?_); go_must (refine wpList_store_box rfl 26 (.tmp 2) (.tmp 44) rfl w.heap.size #[.int .i64 5, .string ⟨#[]⟩, .int .i64 a1, .int .i64 a2, .int .i64 (t.pos : Nat), .slice none 0 0] rfl rfl 26 _ (row_alloc HR4.out _) (by kernel_rfl) rfl (by simp [Value.oneCell']) ?_; intro w5 hg5 hr5))
        have p0 := cell_of_row _ _ 0 _ _ (0, 0) hr5
        have p1 := cell_of_row _ _ 1 _ _ (0, 0) hr5
        have p2 := cell_of_row _ _ 2 _ _ (0, 0) hr5
        have p3 := cell_of_row _ _ 3 _ _ (0, 0) hr5
        have p4 := cell_of_row _ _ 4 _ _ (0, 0) hr5
        have p5 := cell_of_row _ _ 5 _ _ (0, 0) hr5
        refine bodyPost_ret (v := .agg #[.int .i64 5, .string ⟨#[]⟩, .int .i64 a1, .int .i64 a2, .int .i64 (t.pos : Nat), .slice none 0 0]) ?_ rfl ?_
        · simp [results, Tryz.results81, go_sem, p0, p1, p2, p3, p4, p5]
        · exact gives_ok hok2.out (fun _ => False) 1 (HP4.out.box (Nat.le_refl _) hg5) rfl (NodeIn.leaf _ _ 5 a1 a2 _ []) (fun b hb => hb.elim)
      · have hno2 := Lib.hid (hno he)
        have e3 : (a3 != 0) = true := by simpa using he
        have FA := Lib.hid fun w => fail_any 7 (t.pos : Nat) w
        clear hal hno hok ha he
        go_wp2_with fail
        refine AM.out.mono ?_
        rintro e w4 ⟨rfl, hb4⟩
        have ht4 : w4.heap[w1.heap.size]? = some (.cells #[.int .i64 (t.kind : Nat), .string ⟨t.text.toArray⟩, .int .i64 (t.pos : Nat)] 41 (0, 0)) := (hb4.block w1.heap.size (by (try simp); omega)).trans HT4.out
        have HP4 := Lib.hid ((HAL.out.below hb4).alloc (.cells #[.int .i64 a1, .int .i64 a2] 23))
        have s2 := cell_of_row _ _ 2 _ _ (0, 0) ht4
        have hz4 : w1.heap.size < w4.heap.size := (Array.getElem?_eq_some_iff.1 ht4).1
        clear hb4 ht4
        go_wp2_with fail
        refine (FA.out _).mono ?_
        rintro e w5 ⟨rfl, rfl⟩
        exact ⟨rfl, gives_bad hno2.out ⟨rfl, HP4.out.only⟩⟩
    · have HUN : Hid (Tr.unitP (T.drop (k + 1)) = (u.text, T.drop (k + 1 + 1))) := Lib.hid (by have h := unitP_yes (T.drop (k + 1)) (by rw [H2.out]; exact hu0) (by rw [H2.out]; exact hkn); rw [H2.out, tail_drop] at h; exact h)
      have hnext2 := HP1.out.pos.next (by rw [HU.out]; omega)
      rw [hkn] at hkl
      have KN := Lib.hid hkl
      clear hkl hkn hu0
      go_wp2_with fail
      refine KN.out.mono ?_
      rintro e w3 ⟨rfl, hb3⟩
      have hr3 := (hb3.block w.heap.size (by (try simp); omega)).trans (row_alloc HR2.out _)
      have ht3 := (hb3.block w1.heap.size (by (try simp); omega)).trans (row_alloc HT3.out _)
      have hu3 := (hb3.block w2.heap.size (by simp)).trans (heap_alloc_new w2 (.cells #[.int .i64 (u.kind : Nat), .string ⟨u.text.toArray⟩, .int .i64 (u.pos : Nat)] 41))
      have hp3 := (HP2.out.alloc (.cells #[.int .i64 (u.kind : Nat), .string ⟨u.text.toArray⟩, .int .i64 (u.pos : Nat)] 41)).below hb3
      have hal := hp3.goto_eq (k' := k + 1 + 1) hnext2 (v := (k : Int) + 1 + 1) (by omega)
      obtain ⟨c1, c2, f1, f2⟩ := hp3.pos.regs
      have s0 := cell_of_row _ _ 0 _ _ (0, 0) ht3
      have s1 := cell_of_row _ _ 1 _ _ (0, 0) ht3
      have v1 := cell_of_row _ _ 1 _ _ (0, 0) hu3
      have hz5 : w1.heap.size < w3.heap.size := by have h := hb3.size; simp at h; omega
      have hz6 : w.heap.size < w3.heap.size := by omega
      have ne1 : ¬ B = w1.heap.size := by omega
      have ne2 : ¬ w1.heap.size = B := by omega
      have hlen := h.len
      have HR3 := Lib.hid hr3
      have HT4 := Lib.hid ht3
      clear hb3 hr3 ht3 hu3 hp3
      obtain ⟨a1, a2, a3, ha⟩ : ∃ a1 a2 a3, U.amountU t.text u.text = (a1, a2, a3) := ⟨_, _, _, rfl⟩
      have AM := Lib.hid (amount_is t.text u.text a1 a2 a3 ha hsh _ (hal.std HW.out))
      have HAL := Lib.hid hal
      have hno := HNO.out
      have hok := HOK.out
      rw [HUN.out, ha] at hno hok
      dsimp only at hno hok
      by_cases he : a3 = 0
      · have hok2 := Lib.hid (hok he)
        have e3 : (a3 != 0) = false := by simpa using he
        clear hal hno hok ha he
        go_wp2_with fail
        refine AM.out.mono ?_
        rintro e w4 ⟨rfl, hb4⟩
        have hr4 : w4.heap[w.heap.size]? = some (.cells #[.int .i64 0, .string ⟨#[]⟩, .int .i64 0, .int .i64 0, .int .i64 0, .slice none 0 0] 26 (0, 0)) := (hb4.block w.heap.size (by (try simp); omega)).trans (row_far HR3.out (show w.heap.size ≠ B by omega) _)
        have ht4 : w4.heap[w1.heap.size]? = some (.cells #[.int .i64 (t.kind : Nat), .string ⟨t.text.toArray⟩, .int .i64 (t.pos : Nat)] 41 (0, 0)) := (hb4.block w1.heap.size (by (try simp); omega)).trans (row_far HT4.out (show w1.heap.size ≠ B by omega) _)
        have HP4 := Lib.hid ((HAL.out.below hb4).alloc (.cells #[.int .i64 a1, .int .i64 a2] 23))
        have HR4 := Lib.hid hr4
        have s2 := cell_of_row _ _ 2 _ _ (0, 0) ht4
        have hz4 : w1.heap.size < w4.heap.size := (Array.getElem?_eq_some_iff.1 ht4).1
        clear hb4 hr4 ht4
        go_wp2_with ((with_reducible refine wpList_at ⟨none, .store 26 (.tmp 2) (.tmp 44), _, _, _, _⟩ ?_); go_must (refine wpList_store_box rfl 26 (.tmp 2) (.tmp 44) rfl w.heap.size #[.int .i64 5, .string ⟨#[]⟩, .int .i64 a1, .int .i64 a2, .int .i64 (t.pos : Nat), .slice none 0 0] rfl rfl 26 _ (row_alloc HR4.out _) (by kernel_rfl) rfl (by simp [Value.oneCell']) ?_; intro w5 hg5 hr5))
        have p0 := cell_of_row _ _ 0 _ _ (0, 0) hr5
        have p1 := cell_of_row _ _ 1 _ _ (0, 0) hr5
        have p2 := cell_of_row _ _ 2 _ _ (0, 0) hr5
        have p3 := cell_of_row _ _ 3 _ _ (0, 0) hr5
        have p4 := cell_of_row _ _ 4 _ _ (0, 0) hr5
        have p5 := cell_of_row _ _ 5 _ _ (0, 0) hr5
        refine bodyPost_ret (v := .agg #[.int .i64 5, .string ⟨#[]⟩, .int .i64 a1, .int .i64 a2, .int .i64 (t.pos : Nat), .slice none 0 0]) ?_ rfl ?_
        · simp [results, Tryz.results81, go_sem, p0, p1, p2, p3, p4, p5]
        · exact gives_ok hok2.out (fun _ => False) 1 (HP4.out.box (Nat.le_refl _) hg5) rfl (NodeIn.leaf _ _ 5 a1 a2 _ []) (fun b hb => hb.elim)
      · have hno2 := Lib.hid (hno he)
        have e3 : (a3 != 0) = true := by simpa using he
        have FA := Lib.hid fun w => fail_any 7 (t.pos : Nat) w
        clear hal hno hok ha he
        go_wp2_with fail
        refine AM.out.mono ?_
        rintro e w4 ⟨rfl, hb4⟩
        have ht4 : w4.heap[w1.heap.size]? = some (.cells #[.int .i64 (t.kind : Nat), .string ⟨t.text.toArray⟩, .int .i64 (t.pos : Nat)] 41 (0, 0)) := (hb4.block w1.heap.size (by (try simp); omega)).trans (row_far HT4.out (show w1.heap.size ≠ B by omega) _)
        have HP4 := Lib.hid ((HAL.out.below hb4).alloc (.cells #[.int .i64 a1, .int .i64 a2] 23))
        have s2 := cell_of_row _ _ 2 _ _ (0, 0) ht4
        have hz4 : w1.heap.size < w4.heap.size := (Array.getElem?_eq_some_iff.1 ht4).1
        clear hb4 ht4
        go_wp2_with fail
        refine (FA.out _).mono ?_
        rintro e w5 ⟨rfl, rfl⟩
        exact ⟨rfl, gives_bad hno2.out ⟨rfl, HP4.out.only⟩⟩
  · have HUN := Lib.hid (unitP_no (T.drop (k + 1)) (by rw [H2.out]; exact hu0))
    have e0 : ((u.kind : Int) == 0) = false := beq_eq_false_iff_ne.2 (by omega)
    have hal := HP2.out.alloc (.cells #[.int .i64 (u.kind : Nat), .string ⟨u.text.toArray⟩, .int .i64 (u.pos : Nat)] 41)
    clear hu0
    obtain ⟨a1, a2, a3, ha⟩ : ∃ a1 a2 a3, U.amountU t.text [] = (a1, a2, a3) := ⟨_, _, _, rfl⟩
    have AM := Lib.hid (amount_is t.text [] a1 a2 a3 ha hsh _ (hal.std HW.out))
    have HAL := Lib.hid hal
    have hno := HNO.out
    have hok := HOK.out
    rw [HUN.out, ha] at hno hok
    dsimp only at hno hok
    by_cases he : a3 = 0
    · have hok2 := Lib.hid (hok he)
      have e3 : (a3 != 0) = false := by simpa using he
      clear hal hno hok ha he
      go_wp2_with fail
      refine AM.out.mono ?_
      rintro e w4 ⟨rfl, hb4⟩
      have hr4 : w4.heap[w.heap.size]? = some (.cells #[.int .i64 0, .string ⟨#[]⟩, .int .i64 0, .int .i64 0, .int .i64 0, .slice none 0 0] 26 (0, 0)) := (hb4.block w.heap.size (by (try simp); omega)).trans (row_alloc HR2.out _)
      have ht4 : w4.heap[w1.heap.size]? = some (.cells #[.int .i64 (t.kind : Nat), .string ⟨t.text.toArray⟩, .int .i64 (t.pos : Nat)] 41 (0, 0)) := (hb4.block w1.heap.size (by (try simp); omega)).trans (row_alloc HT3.out _)
      have HP4 := Lib.hid ((HAL.out.below hb4).alloc (.cells #[.int .i64 a1, .int .i64 a2] 23))
      have HR4 := Lib.hid hr4
      have s2 := cell_of_row _ _ 2 _ _ (0, 0) ht4
      have hz4 : w1.heap.size < w4.heap.size := (Array.getElem?_eq_some_iff.1 ht4).1
      clear hb4 hr4 ht4
      go_wp2_with ((with_reducible refine wpList_at ⟨none, .store 26 (.tmp 2) (.tmp 44), _, _, _, _⟩ ?_); go_must (refine wpList_store_box rfl 26 (.tmp 2) (.tmp 44) rfl w.heap.size #[.int .i64 5, .string ⟨#[]⟩, .int .i64 a1, .int .i64 a2, .int .i64 (t.pos : Nat), .slice none 0 0] rfl rfl 26 _ (row_alloc HR4.out _) (by kernel_rfl) rfl (by simp [Value.oneCell']) ?_; intro w5 hg5 hr5))
      have p0 := cell_of_row _ _ 0 _ _ (0, 0) hr5
      have p1 := cell_of_row _ _ 1 _ _ (0, 0) hr5
      have p2 := cell_of_row _ _ 2 _ _ (0, 0) hr5
      have p3 := cell_of_row _ _ 3 _ _ (0, 0) hr5
      have p4 := cell_of_row _ _ 4 _ _ (0, 0) hr5
      have p5 := cell_of_row _ _ 5 _ _ (0, 0) hr5
      refine bodyPost_ret (v := .agg #[.int .i64 5, .string ⟨#[]⟩, .int .i64 a1, .int .i64 a2, .int .i64 (t.pos : Nat), .slice none 0 0]) ?_ rfl ?_
      · simp [results, Tryz.results81, go_sem, p0, p1, p2, p3, p4, p5]
      · exact gives_ok hok2.out (fun _ => False) 1 (HP4.out.box (Nat.le_refl _) hg5) rfl (NodeIn.leaf _ _ 5 a1 a2 _ []) (fun b hb => hb.elim)
    · have hno2 := Lib.hid (hno he)
      have e3 : (a3 != 0) = true := by simpa using he
      have FA := Lib.hid fun w => fail_any 7 (t.pos : Nat) w
      clear hal hno hok ha he
      go_wp2_with fail
      refine AM.out.mono ?_
      rintro e w4 ⟨rfl, hb4⟩
      have ht4 : w4.heap[w1.heap.size]? = some (.cells #[.int .i64 (t.kind : Nat), .string ⟨t.text.toArray⟩, .int .i64 (t.pos : Nat)] 41 (0, 0)) := (hb4.block w1.heap.size (by (try simp); omega)).trans (row_alloc HT3.out _)
      have HP4 := Lib.hid ((HAL.out.below hb4).alloc (.cells #[.int .i64 a1, .int .i64 a2] 23))
      have s2 := cell_of_row _ _ 2 _ _ (0, 0) ht4
      have hz4 : w1.heap.size < w4.heap.size := (Array.getElem?_eq_some_iff.1 ht4).1
      clear hb4 ht4
      go_wp2_with fail
      refine (FA.out _).mono ?_
      rintro e w5 ⟨rfl, rfl⟩
      exact ⟨rfl, gives_bad hno2.out ⟨rfl, HP4.out.only⟩⟩
end Go.Proofs.YtooajmbpncmgjaaGreatDoor
