/- Layer 13's first token: names, numbers, strings, by contract. -/
import Derived.Test.YtooajmbpncmgjaaGreatDoorLexA
import Derived.Deep.Light
import Derived.Deep.RegionWith
import Derived.RegionTactic
import Derived.IntWalk
namespace Go.Proofs.YtooajmbpncmgjaaGreatDoor
open Go.RowKit

theorem lret2 {k : Int} {a b : List UInt8} (h : a = b) : Ending.returned (.tuple #[.int .i64 k, .string ⟨a.toArray⟩]) = .returned (.tuple #[.int .i64 k, .string ⟨b.toArray⟩]) := by rw [h]

def FirstAt (s : ByteArray) (w : World) (e : Ending) (w' : World) : Prop :=
  e = .returned (.tuple #[.int .i64 (L.firstL s.data.toList).1, .string ⟨(L.firstL s.data.toList).2.toArray⟩]) ∧ Below w.heap.size w w'
theorem firstAt_mk {s : ByteArray} {w w' : World} {k : Nat} {l : List UInt8} (h : L.firstL s.data.toList = (k, l)) (hb : Below w.heap.size w w') : FirstAt s w (.returned (.tuple #[.int .i64 k, .string ⟨l.toArray⟩])) w' := by
  unfold FirstAt
  rw [h]
  exact ⟨rfl, hb⟩

theorem ba_cons (s : ByteArray) (h0 : 0 < s.size) : s.data.toList = s[0] :: s.data.toList.drop 1 := by
  have : s.data.toList.drop 0 = s.data.toList[0]'(by simpa using h0) :: s.data.toList.drop 1 := List.drop_eq_getElem_cons (by simpa using h0)
  rw [List.drop_zero] at this
  rw [this]
  rfl
theorem firstL_letter (s : ByteArray) (h0 : 0 < s.size) (hc : L.letterN s[0].toNat = true) : L.firstL s.data.toList = (0, L.pre L.nameN s.data.toList) := by
  rw [ba_cons s h0]
  simp only [L.firstL, hc, if_true]
theorem firstL_digit (s : ByteArray) (h0 : 0 < s.size) (hc : L.letterN s[0].toNat = false) (hd : L.digitN s[0].toNat = true) : L.firstL s.data.toList = (1, L.numberL s.data.toList) := by
  rw [ba_cons s h0]
  simp only [L.firstL, hc, hd, if_true, Bool.false_eq_true, if_false]
theorem firstL_quote (s : ByteArray) (h0 : 0 < s.size) (hc : s[0].toNat = 34) : L.firstL s.data.toList = (2, L.stringL s.data.toList) := by
  rw [ba_cons s h0]
  have h : s[0] = 34 := UInt8.toNat_inj.1 hc
  rw [h]
  rfl
theorem firstL_sign (s : ByteArray) (h0 : 0 < s.size) (hc : L.letterN s[0].toNat = false) (hd : L.digitN s[0].toNat = false) (hq : ¬ s[0].toNat = 34) : L.firstL s.data.toList = (3, L.signL s.data.toList) := by
  rw [ba_cons s h0]
  have h : ¬ s[0] = 34 := fun h => hq (by rw [h]; rfl)
  simp only [L.firstL, hc, hd, h, Bool.false_eq_true, if_false]

set_option maxHeartbeats 1000000 in
theorem first_letter (s : ByteArray) (w : World) (hs : s.size ≤ 100000) (h0 : 0 < s.size) (hc : L.letterN s[0].toNat = true) :
    Calls Tryz.prog 44 #[.string s] w (FirstAt s w) := by
  have HF := Lib.hid (firstL_letter s h0 hc)
  have C1 := Lib.hid (letter_any s[0].toNat · s[0].toNat_lt)
  have HC := Lib.hid hc
  have PR := Lib.hid fun w => prefix_any 63 L.nameN name_class s w (by unfold maxLen; omega)
  clear hc
  go_enter Tryz.func44, Tryz.ntmps44
  go_wp2_with fail
  refine (C1.out _).mono ?_
  rintro e w' ⟨rfl, rfl⟩
  rw [HC.out]
  go_wp2_with fail
  refine (PR.out _).mono ?_
  rintro e w' ⟨rfl, rfl⟩
  go_wp2_with fail
  refine bodyPost_ret (v := .tuple #[.int .i64 ((0 : Nat) : Int), .string ⟨(L.pre L.nameN s.data.toList).toArray⟩]) (by simp [results, Tryz.results44, go_sem]) rfl (firstAt_mk HF.out ?_)
  go_grown

theorem numberL_no (s whole : List UInt8) (hw : L.pre L.digitN s = whole) (h : Lib.hasPrefix (s.drop whole.length) [46] = false) : L.numberL s = whole := by
  unfold L.numberL
  simp only [hw, h, Bool.false_eq_true, if_false]
theorem numberL_bare (s whole : List UInt8) (hw : L.pre L.digitN s = whole) (h : Lib.hasPrefix (s.drop whole.length) [46] = true) (hp : L.pre L.digitN (s.drop (whole.length + 1)) = []) : L.numberL s = whole := by
  unfold L.numberL
  simp only [hw, h, hp, if_true]
theorem numberL_part (s whole part : List UInt8) (hw : L.pre L.digitN s = whole) (h : Lib.hasPrefix (s.drop whole.length) [46] = true) (hp : L.pre L.digitN (s.drop (whole.length + 1)) = part) (hn : ¬ part = []) : L.numberL s = s.take (whole.length + 1 + part.length) := by
  unfold L.numberL
  simp only [hw, h, hp, hn, if_true, if_false]
theorem trimPrefix_dot (l : List UInt8) (h : Lib.hasPrefix l [46] = true) : Lib.trimPrefix l [46] = l.drop 1 := by
  unfold Lib.trimPrefix
  rw [if_pos h]
  rfl
theorem hasPrefix_len (l p : List UInt8) (h : Lib.hasPrefix l p = true) : p.length ≤ l.length :=
  (List.isPrefixOf_iff_prefix.1 h).length_le

theorem cutDot_yes (s : ByteArray) (n : Nat) (w : World) (h : Lib.hasPrefix (s.data.toList.drop n) [46] = true) :
    Calls Tryz.prog 65 #[.string (s.extract n s.size), .string ⟨#[46]⟩] w fun e w' => e = .returned (.tuple #[.string ⟨(s.data.toList.drop (n + 1)).toArray⟩, .bool true]) ∧ w = w' := by
  refine (Tryz.strings_CutPrefix (s.extract n s.size) ⟨#[46]⟩ w).mono ?_
  rintro e w' ⟨rfl, rfl⟩
  rw [Lib.extract_to_end, show (ByteArray.mk #[46]).data.toList = [46] from rfl, h, trimPrefix_dot _ h, List.drop_drop]
  exact ⟨rfl, rfl⟩
theorem cutDot_no (s : ByteArray) (n : Nat) (w : World) (h : Lib.hasPrefix (s.data.toList.drop n) [46] = false) :
    Calls Tryz.prog 65 #[.string (s.extract n s.size), .string ⟨#[46]⟩] w fun e w' => e = .returned (.tuple #[.string (s.extract n s.size), .bool false]) ∧ w = w' := by
  refine (Tryz.strings_CutPrefix (s.extract n s.size) ⟨#[46]⟩ w).mono ?_
  rintro e w' ⟨rfl, rfl⟩
  rw [Lib.extract_to_end, show (ByteArray.mk #[46]).data.toList = [46] from rfl, h]
  unfold Lib.trimPrefix
  rw [h]
  exact ⟨by rw [L.ba_drop]; rfl, rfl⟩

set_option maxHeartbeats 1000000 in
theorem first_digit (s : ByteArray) (w : World) (hs : s.size ≤ 100000) (h0 : 0 < s.size) (hc : L.letterN s[0].toNat = false) (hd : L.digitN s[0].toNat = true) :
    Calls Tryz.prog 44 #[.string s] w (FirstAt s w) := by
  have hf := firstL_digit s h0 hc hd
  have C1 := Lib.hid (letter_any s[0].toNat · s[0].toNat_lt)
  have C2 := Lib.hid (digit_any s[0].toNat ·)
  have HC := Lib.hid hc
  have HD := Lib.hid hd
  have pr := fun w => prefix_any 64 L.digitN digit_class s w (by unfold maxLen; omega)
  have hl := L.pre_len L.digitN s.data.toList
  obtain ⟨whole, hw⟩ : ∃ whole, L.pre L.digitN s.data.toList = whole := ⟨_, rfl⟩
  rw [hw] at hl
  simp only [hw] at pr
  have PR := Lib.hid pr
  have hl2 : whole.length ≤ s.size := by simpa using hl
  clear hc hd hl pr
  cases hp : Lib.hasPrefix (s.data.toList.drop whole.length) [46]
  · have HF := Lib.hid (show L.firstL s.data.toList = (1, whole) by
      rw [hf, numberL_no _ _ hw hp])
    have CP := Lib.hid fun w => cutDot_no s whole.length w hp
    clear hp hw hf
    go_enter Tryz.func44, Tryz.ntmps44
    go_wp2_with fail
    refine (C1.out _).mono ?_
    rintro e w' ⟨rfl, rfl⟩
    rw [HC.out]
    go_wp2_with fail
    refine (C2.out _).mono ?_
    rintro e w' ⟨rfl, rfl⟩
    rw [HD.out]
    go_wp2_with fail
    refine (PR.out _).mono ?_
    rintro e w' ⟨rfl, rfl⟩
    go_wp2_with fail
    refine (CP.out _).mono ?_
    rintro e w' ⟨rfl, rfl⟩
    go_wp2_with fail
    refine bodyPost_ret (v := .tuple #[.int .i64 ((1 : Nat) : Int), .string ⟨whole.toArray⟩]) (by simp [results, Tryz.results44, go_sem]) rfl (firstAt_mk HF.out ?_)
    go_grown
  · have hlen := hasPrefix_len _ _ hp
    have hlen2 : whole.length + 1 ≤ s.size := by simp at hlen; omega
    have CP := Lib.hid fun w => cutDot_yes s whole.length w hp
    obtain ⟨part, hpt⟩ : ∃ part, L.pre L.digitN (s.data.toList.drop (whole.length + 1)) = part := ⟨_, rfl⟩
    have hl3 := L.pre_len L.digitN (s.data.toList.drop (whole.length + 1))
    have pr := fun w => prefix_any 64 L.digitN digit_class ⟨(s.data.toList.drop (whole.length + 1)).toArray⟩ w (by rw [L.ba_size, List.length_drop]; unfold maxLen; simp; omega)
    rw [hpt] at hl3
    simp only [hpt] at pr
    have PR2 := Lib.hid pr
    have hl4 : whole.length + 1 + part.length ≤ s.size := by simp at hl3; omega
    clear pr hl3 hlen
    by_cases hn : part = []
    · have HF := Lib.hid (show L.firstL s.data.toList = (1, whole) by
        rw [hf, numberL_bare _ _ hw hp (by rw [hpt]; exact hn)])
      subst hn
      clear hp hw hf hpt
      go_enter Tryz.func44, Tryz.ntmps44
      go_wp2_with fail
      refine (C1.out _).mono ?_
      rintro e w' ⟨rfl, rfl⟩
      rw [HC.out]
      go_wp2_with fail
      refine (C2.out _).mono ?_
      rintro e w' ⟨rfl, rfl⟩
      rw [HD.out]
      go_wp2_with fail
      refine (PR.out _).mono ?_
      rintro e w' ⟨rfl, rfl⟩
      go_wp2_with fail
      refine (CP.out _).mono ?_
      rintro e w' ⟨rfl, rfl⟩
      go_wp2_with fail
      refine (PR2.out _).mono ?_
      rintro e w' ⟨rfl, rfl⟩
      go_wp2_with fail
      refine bodyPost_ret (v := .tuple #[.int .i64 ((1 : Nat) : Int), .string ⟨whole.toArray⟩]) (by simp [results, Tryz.results44, go_sem]) rfl (firstAt_mk HF.out ?_)
      go_grown
    · have HF := Lib.hid (show L.firstL s.data.toList = (1, s.data.toList.take (whole.length + 1 + part.length)) by
        rw [hf, numberL_part _ _ _ hw hp hpt hn])
      have hn1 : part.isEmpty = false := by simpa using hn
      have hn2 : (part == []) = false := beq_eq_false_iff_ne.2 hn
      have hn3 : (ByteArray.mk part.toArray).toList.isEmpty = false := by rw [Lib.toList_data]; exact hn1
      have e1 : IntKind.i64.wrap ((whole.length : Int) + 1) = (whole.length : Int) + 1 := IntWalk.i64_in _ (by omega)
      have e2 : IntKind.i64.wrap ((whole.length : Int) + 1 + (part.length : Int)) = (whole.length : Int) + 1 + (part.length : Int) := IntWalk.i64_in _ (by omega)
      clear hp hw hf hpt hn
      go_enter Tryz.func44, Tryz.ntmps44
      go_wp2_with fail
      refine (C1.out _).mono ?_
      rintro e w' ⟨rfl, rfl⟩
      rw [HC.out]
      go_wp2_with fail
      refine (C2.out _).mono ?_
      rintro e w' ⟨rfl, rfl⟩
      rw [HD.out]
      go_wp2_with fail
      refine (PR.out _).mono ?_
      rintro e w' ⟨rfl, rfl⟩
      go_wp2_with fail
      refine (CP.out _).mono ?_
      rintro e w' ⟨rfl, rfl⟩
      go_wp2_with fail
      refine (PR2.out _).mono ?_
      rintro e w' ⟨rfl, rfl⟩
      go_wp2_with fail
      go_region
      all_goals
        rw [L.ba_take]
        go_wp2_with fail
        refine bodyPost_ret (v := .tuple #[.int .i64 ((1 : Nat) : Int), .string ⟨(s.data.toList.take (whole.length + 1 + part.length)).toArray⟩]) (by simp [results, Tryz.results44, go_sem]) rfl (firstAt_mk HF.out ?_)
        go_grown

theorem stringL_no (s text : List UInt8) (ht : L.pre L.textN (s.drop 1) = text) (h : Lib.hasPrefix (s.drop (1 + text.length)) [34] = false) : L.stringL s = [] := by
  unfold L.stringL
  simp only [ht, h, Bool.false_eq_true, if_false]
theorem stringL_yes (s text : List UInt8) (ht : L.pre L.textN (s.drop 1) = text) (h : Lib.hasPrefix (s.drop (1 + text.length)) [34] = true) : L.stringL s = s.take (text.length + 2) := by
  unfold L.stringL
  simp only [ht, h, if_true]
theorem hasQuote (s : ByteArray) (n : Nat) (w : World) (b : Bool) (h : Lib.hasPrefix (s.data.toList.drop n) [34] = b) :
    Calls Tryz.prog 59 #[.string (s.extract n s.size), .string ⟨#[34]⟩] w fun e w' => e = .returned (.bool b) ∧ w = w' := by
  refine (Tryz.strings_HasPrefix (s.extract n s.size) ⟨#[34]⟩ w).mono ?_
  rintro e w' ⟨rfl, rfl⟩
  rw [Lib.extract_to_end, show (ByteArray.mk #[34]).data.toList = [34] from rfl, h]
  exact ⟨rfl, rfl⟩

set_option maxHeartbeats 1000000 in
theorem first_quote (s : ByteArray) (w : World) (hs : s.size ≤ 100000) (h0 : 0 < s.size) (hq : s[0].toNat = 34) :
    Calls Tryz.prog 44 #[.string s] w (FirstAt s w) := by
  have hf := firstL_quote s h0 hq
  have c1 := (letter_any s[0].toNat · s[0].toNat_lt)
  have c2 := (digit_any s[0].toNat ·)
  rw [hq] at c1 c2
  have C1 := Lib.hid c1
  have C2 := Lib.hid c2
  clear c1 c2
  have HQ : ((s[0].toNat : Nat) : Int) = 34 := by omega
  have HC := Lib.hid (show L.letterN 34 = false by decide)
  have HD := Lib.hid (show L.digitN 34 = false by decide)
  obtain ⟨text, ht⟩ : ∃ text, L.pre L.textN (s.data.toList.drop 1) = text := ⟨_, rfl⟩
  have hl := L.pre_len L.textN (s.data.toList.drop 1)
  have pr := fun w => prefix_any 66 L.textN text_class ⟨(s.data.toList.drop 1).toArray⟩ w (by rw [L.ba_size, List.length_drop]; unfold maxLen; simp; omega)
  rw [ht] at hl
  simp only [ht] at pr
  rw [← L.ba_drop] at pr
  have PR := Lib.hid pr
  have hl2 : 1 + text.length ≤ s.size := by simp at hl; omega
  clear hl pr hq
  cases hp : Lib.hasPrefix (s.data.toList.drop (1 + text.length)) [34]
  · have HF := Lib.hid (show L.firstL s.data.toList = (2, []) by rw [hf, stringL_no _ _ ht hp])
    have HP := Lib.hid fun w => hasQuote s (1 + text.length) w false hp
    clear hp ht hf
    go_enter Tryz.func44, Tryz.ntmps44
    go_wp2_with fail
    refine (C1.out _).mono ?_
    rintro e w' ⟨rfl, rfl⟩
    rw [HC.out]
    go_wp2_with fail
    refine (C2.out _).mono ?_
    rintro e w' ⟨rfl, rfl⟩
    rw [HD.out]
    go_wp2_with fail
    refine (PR.out _).mono ?_
    rintro e w' ⟨rfl, rfl⟩
    go_wp2_with fail
    refine (HP.out _).mono ?_
    rintro e w' ⟨rfl, rfl⟩
    go_wp2_with fail
    refine bodyPost_ret (v := .tuple #[.int .i64 ((2 : Nat) : Int), .string ⟨([] : List UInt8).toArray⟩]) (by simp [results, Tryz.results44, go_sem]) rfl (firstAt_mk HF.out ?_)
    go_grown
  · have hlen := hasPrefix_len _ _ hp
    have hlen2 : text.length + 2 ≤ s.size := by simp at hlen; omega
    have HF := Lib.hid (show L.firstL s.data.toList = (2, s.data.toList.take (text.length + 2)) by rw [hf, stringL_yes _ _ ht hp])
    have HP := Lib.hid fun w => hasQuote s (1 + text.length) w true hp
    have e1 : IntKind.i64.wrap ((text.length : Int) + 2) = (text.length : Int) + 2 := IntWalk.i64_in _ (by omega)
    clear hp ht hf hlen
    go_enter Tryz.func44, Tryz.ntmps44
    go_wp2_with fail
    refine (C1.out _).mono ?_
    rintro e w' ⟨rfl, rfl⟩
    rw [HC.out]
    go_wp2_with fail
    refine (C2.out _).mono ?_
    rintro e w' ⟨rfl, rfl⟩
    rw [HD.out]
    go_wp2_with fail
    refine (PR.out _).mono ?_
    rintro e w' ⟨rfl, rfl⟩
    go_wp2_with fail
    refine (HP.out _).mono ?_
    rintro e w' ⟨rfl, rfl⟩
    go_wp2_with fail
    go_region
    all_goals
      rw [L.ba_take]
      go_wp2_with fail
      refine bodyPost_ret (v := .tuple #[.int .i64 ((2 : Nat) : Int), .string ⟨(s.data.toList.take (text.length + 2)).toArray⟩]) (by simp [results, Tryz.results44, go_sem]) rfl (firstAt_mk HF.out ?_)
      go_grown
end Go.Proofs.YtooajmbpncmgjaaGreatDoor
