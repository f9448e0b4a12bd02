/- Layer 15's right trees: a text that is one token. -/
import Derived.Test.YtooajmbpncmgjaaGreatDoorNodeA
import Derived.Test.YtooajmbpncmgjaaGreatDoorLexW
namespace Go.Proofs.YtooajmbpncmgjaaGreatDoor
open Go.RowKit

def Tr.oneQ (q : List UInt8) (kind : Int) : Bool :=
  (scanR q).2.1 == 0 && (match (scanR q).1 with | [a, _] => (a.kind : Int) == kind && a.pos == 0 && L.writeL (scanR q).1 == q | _ => false)
/-- s is the only token of a source, of a kind. -/
def Tr.oneB (s : List UInt8) (kind : Int) : Bool := Tr.oneQ (if kind = 2 then 34 :: (s ++ [34]) else s) kind

theorem scanR_small (s : List UInt8) : (scanR s).1.length ≤ 70000 ∧ ∀ t ∈ (scanR s).1, t.text.length ≤ 1000000 := by
  by_cases h : (scanR s).2.1 = 0
  · obtain ⟨_, h2, _, h4⟩ := scanR_facts h
    exact ⟨h2, fun t ht => by obtain ⟨i, hi, rfl⟩ := List.getElem_of_mem ht; exact h4 i hi⟩
  · have e : (scanR s).1 = [] := by
      unfold scanR at h ⊢
      split
      · rfl
      · rename_i hl
        rw [if_neg hl] at h
        generalize L.scanL s = q at h ⊢
        obtain ⟨a, b⟩ := q
        cases b with
        | none => exact absurd rfl h
        | some t => rfl
    rw [e]
    exact ⟨by simp, fun t ht => by simp at ht⟩

theorem quote_list (s : ByteArray) : (⟨#[34]⟩ ++ s ++ ⟨#[34]⟩ : ByteArray).data.toList = 34 :: (s.data.toList ++ [34]) := by simp
set_option maxRecDepth 100000 in
set_option maxHeartbeats 4000000 in
theorem one_plain (s : ByteArray) (k : Int) (hk0 : ¬ k = 2) (w : World) (hs : s.size ≤ 1000000) :
    Calls Tryz.prog 34 #[.string s, .int .i64 k] w fun e w' => e = .returned (.bool (Tr.oneQ (s.data.toList) k)) ∧ Below w.heap.size w w' := by
  have hsl : s.data.toList.length ≤ 1000000 := hs
  have hk2 : ¬ k = 2 := hk0
  have SC := Lib.hid fun w => scan_any s w (by show (s.data.toList).length ≤ _; unfold maxLen; simp; omega)
  have hsmall := scanR_small (s.data.toList)
  have hone : Tr.oneQ (s.data.toList) k = ((scanR (s.data.toList)).2.1 == 0 && (match (scanR (s.data.toList)).1 with | [a, _] => (a.kind : Int) == k && a.pos == 0 && L.writeL (scanR (s.data.toList)).1 == (s.data.toList) | _ => false)) := rfl
  rw [hone]
  unfold ScanAt at SC
  rw [show s.data.toList = s.data.toList from rfl] at SC
  generalize scanR (s.data.toList) = q at *
  obtain ⟨T, qe, qp⟩ := q
  obtain ⟨hl, hts⟩ := hsmall
  clear hone
  obtain ⟨R, hR⟩ : ∃ R, R = (qe == 0 && (match T with | [a, _] => (a.kind : Int) == k && a.pos == 0 && L.writeL T == (s.data.toList) | _ => false)) := ⟨_, rfl⟩
  dsimp only
  rw [← hR]
  have HR := Lib.hid hR
  clear hR
  have HTS := Lib.hid hts
  clear hts
  by_cases he : qe = 0
  · subst he
    by_cases hl2 : T.length = 2
    · obtain ⟨a, b, rfl⟩ : ∃ a b, T = [a, b] := by
        match T, hl2 with
        | [a, b], _ => exact ⟨a, b, rfl⟩
      by_cases hk : (a.kind : Int) = k
      · by_cases hp : a.pos = 0
        · go_enter Tryz.func34, Tryz.ntmps34
          go_wp2_with fail
          refine (SC.out _).mono ?_
          rintro e w1 ⟨v, rfl, hrow, hb1⟩
          have LW := Lib.hid (lexwrite_any w1 hrow (by simp) HTS.out)
          obtain ⟨o, c, rfl, hc⟩ := row_form hrow
          obtain ⟨tb, rfl, htb, c0, c1, c2⟩ := hc 0 (by simp)
          have hp2 : (a.pos : Int) = 0 := by omega
          have HB1 := Lib.hid hb1
          clear hrow hc hb1
          go_wp2_with fail
          refine LW.out.mono ?_
          rintro e w2 ⟨rfl, hb2⟩
          go_wp2_with fail
          go_ret
          refine ⟨tret_bool ?_, HB1.out.trans (hb2.mono HB1.out.size)⟩
          rw [HR.out]
          simp [hk, hp, Lib.toList_data]
        · go_enter Tryz.func34, Tryz.ntmps34
          go_wp2_with fail
          refine (SC.out _).mono ?_
          rintro e w1 ⟨v, rfl, hrow, hb1⟩
          obtain ⟨o, c, rfl, hc⟩ := row_form hrow
          obtain ⟨tb, rfl, htb, c0, c1, c2⟩ := hc 0 (by simp)
          have hp2 : ¬ (a.pos : Int) = 0 := by omega
          have HB1 := Lib.hid hb1
          clear hrow hc hb1
          go_wp2_with fail
          go_ret
          exact ⟨tret_bool (by rw [HR.out]; simp [hp]), HB1.out⟩
      · go_enter Tryz.func34, Tryz.ntmps34
        go_wp2_with fail
        refine (SC.out _).mono ?_
        rintro e w1 ⟨v, rfl, hrow, hb1⟩
        obtain ⟨o, c, rfl, hc⟩ := row_form hrow
        obtain ⟨tb, rfl, htb, c0, c1, c2⟩ := hc 0 (by simp)
        have HB1 := Lib.hid hb1
        clear hrow hc hb1
        go_wp2_with fail
        go_ret
        exact ⟨tret_bool (by rw [HR.out]; simp [hk]), HB1.out⟩
    · go_enter Tryz.func34, Tryz.ntmps34
      go_wp2_with fail
      refine (SC.out _).mono ?_
      rintro e w1 ⟨v, rfl, hrow, hb1⟩
      obtain ⟨o, c, rfl, hc⟩ := row_form hrow
      have hl3 : ¬ (T.length : Int) = 2 := by omega
      have HB1 := Lib.hid hb1
      clear hrow hc hb1
      go_wp2_with fail
      go_ret
      refine ⟨tret_bool ?_, HB1.out⟩
      rw [HR.out]
      match T, hl2 with
      | [], _ => rfl
      | [a], _ => rfl
      | [a, b], h => exact absurd rfl h
      | a :: b :: c :: r, _ => rfl
  · have he2 : ¬ (qe : Int) = 0 := by omega
    go_enter Tryz.func34, Tryz.ntmps34
    go_wp2_with fail
    refine (SC.out _).mono ?_
    rintro e w1 ⟨v, rfl, hrow, hb1⟩
    have HB1 := Lib.hid hb1
    clear hrow hb1
    go_wp2_with fail
    go_ret
    exact ⟨tret_bool (by rw [HR.out]; simp [he]), HB1.out⟩
set_option maxRecDepth 100000 in
set_option maxHeartbeats 4000000 in
theorem one_quoted (s : ByteArray) (w : World) (hs : s.size ≤ 1000000) :
    Calls Tryz.prog 34 #[.string s, .int .i64 2] w fun e w' => e = .returned (.bool (Tr.oneQ (34 :: (s.data.toList ++ [34])) 2)) ∧ Below w.heap.size w w' := by
  have hsl : s.data.toList.length ≤ 1000000 := hs
  have hq1 : ¬ 9223372036854775807 < 1 + s.size := by omega
  have hq2 : ¬ 9223372036854775807 < 1 + s.size + 1 := by omega
  have SC := Lib.hid fun w => scan_any (⟨#[34]⟩ ++ s ++ ⟨#[34]⟩ : ByteArray) w (by show (34 :: (s.data.toList ++ [34])).length ≤ _; unfold maxLen; simp; omega)
  have hsmall := scanR_small (34 :: (s.data.toList ++ [34]))
  have hone : Tr.oneQ (34 :: (s.data.toList ++ [34])) 2 = ((scanR (34 :: (s.data.toList ++ [34]))).2.1 == 0 && (match (scanR (34 :: (s.data.toList ++ [34]))).1 with | [a, _] => (a.kind : Int) == 2 && a.pos == 0 && L.writeL (scanR (34 :: (s.data.toList ++ [34]))).1 == (34 :: (s.data.toList ++ [34])) | _ => false)) := rfl
  rw [hone]
  unfold ScanAt at SC
  rw [show (⟨#[34]⟩ ++ s ++ ⟨#[34]⟩ : ByteArray).data.toList = 34 :: (s.data.toList ++ [34]) from quote_list s] at SC
  generalize scanR (34 :: (s.data.toList ++ [34])) = q at *
  obtain ⟨T, qe, qp⟩ := q
  obtain ⟨hl, hts⟩ := hsmall
  clear hone
  obtain ⟨R, hR⟩ : ∃ R, R = (qe == 0 && (match T with | [a, _] => (a.kind : Int) == 2 && a.pos == 0 && L.writeL T == (34 :: (s.data.toList ++ [34])) | _ => false)) := ⟨_, rfl⟩
  dsimp only
  rw [← hR]
  have HR := Lib.hid hR
  clear hR
  have HTS := Lib.hid hts
  clear hts
  by_cases he : qe = 0
  · subst he
    by_cases hl2 : T.length = 2
    · obtain ⟨a, b, rfl⟩ : ∃ a b, T = [a, b] := by
        match T, hl2 with
        | [a, b], _ => exact ⟨a, b, rfl⟩
      by_cases hk : (a.kind : Int) = 2
      · by_cases hp : a.pos = 0
        · go_enter Tryz.func34, Tryz.ntmps34
          go_wp2_with fail
          refine (SC.out _).mono ?_
          rintro e w1 ⟨v, rfl, hrow, hb1⟩
          have LW := Lib.hid (lexwrite_any w1 hrow (by simp) HTS.out)
          obtain ⟨o, c, rfl, hc⟩ := row_form hrow
          obtain ⟨tb, rfl, htb, c0, c1, c2⟩ := hc 0 (by simp)
          have hp2 : (a.pos : Int) = 0 := by omega
          have HB1 := Lib.hid hb1
          clear hrow hc hb1
          go_wp2_with fail
          refine LW.out.mono ?_
          rintro e w2 ⟨rfl, hb2⟩
          go_wp2_with fail
          go_ret
          refine ⟨tret_bool ?_, HB1.out.trans (hb2.mono HB1.out.size)⟩
          rw [HR.out]
          simp [hk, hp, Lib.toList_data]
        · go_enter Tryz.func34, Tryz.ntmps34
          go_wp2_with fail
          refine (SC.out _).mono ?_
          rintro e w1 ⟨v, rfl, hrow, hb1⟩
          obtain ⟨o, c, rfl, hc⟩ := row_form hrow
          obtain ⟨tb, rfl, htb, c0, c1, c2⟩ := hc 0 (by simp)
          have hp2 : ¬ (a.pos : Int) = 0 := by omega
          have HB1 := Lib.hid hb1
          clear hrow hc hb1
          go_wp2_with fail
          go_ret
          exact ⟨tret_bool (by rw [HR.out]; simp [hp]), HB1.out⟩
      · go_enter Tryz.func34, Tryz.ntmps34
        go_wp2_with fail
        refine (SC.out _).mono ?_
        rintro e w1 ⟨v, rfl, hrow, hb1⟩
        obtain ⟨o, c, rfl, hc⟩ := row_form hrow
        obtain ⟨tb, rfl, htb, c0, c1, c2⟩ := hc 0 (by simp)
        have HB1 := Lib.hid hb1
        clear hrow hc hb1
        go_wp2_with fail
        go_ret
        exact ⟨tret_bool (by rw [HR.out]; simp [hk]), HB1.out⟩
    · go_enter Tryz.func34, Tryz.ntmps34
      go_wp2_with fail
      refine (SC.out _).mono ?_
      rintro e w1 ⟨v, rfl, hrow, hb1⟩
      obtain ⟨o, c, rfl, hc⟩ := row_form hrow
      have hl3 : ¬ (T.length : Int) = 2 := by omega
      have HB1 := Lib.hid hb1
      clear hrow hc hb1
      go_wp2_with fail
      go_ret
      refine ⟨tret_bool ?_, HB1.out⟩
      rw [HR.out]
      match T, hl2 with
      | [], _ => rfl
      | [a], _ => rfl
      | [a, b], h => exact absurd rfl h
      | a :: b :: c :: r, _ => rfl
  · have he2 : ¬ (qe : Int) = 0 := by omega
    go_enter Tryz.func34, Tryz.ntmps34
    go_wp2_with fail
    refine (SC.out _).mono ?_
    rintro e w1 ⟨v, rfl, hrow, hb1⟩
    have HB1 := Lib.hid hb1
    clear hrow hb1
    go_wp2_with fail
    go_ret
    exact ⟨tret_bool (by rw [HR.out]; simp [he]), HB1.out⟩

theorem one_any (s : ByteArray) (k : Int) (w : World) (hs : s.size ≤ 1000000) :
    Calls Tryz.prog 34 #[.string s, .int .i64 k] w fun e w' => e = .returned (.bool (Tr.oneB s.data.toList k)) ∧ Below w.heap.size w w' := by
  unfold Tr.oneB
  by_cases hk : k = 2
  · subst hk; rw [if_pos rfl]; exact one_quoted s w hs
  · rw [if_neg hk]; exact one_plain s k hk w hs

end Go.Proofs.YtooajmbpncmgjaaGreatDoor
