/- Layer 13's classes of bytes, by contract. -/
import Derived.Test.YtooajmbpncmgjaaGreatDoorPlain
import Derived.Test.YtooajmbpncmgjaaGreatDoorShelf
import Derived.Handy
namespace Go.Proofs.YtooajmbpncmgjaaGreatDoor
open Go.RowKit

theorem lret_bool {a b : Bool} (h : a = b) : Ending.returned (.bool a) = .returned (.bool b) := by rw [h]

set_option maxHeartbeats 400000 in
theorem digit_any (c : Nat) (w : World) :
    Calls Tryz.prog 64 #[.int .u8 (c : Int)] w fun e w' => e = .returned (.bool (L.digitN c)) ∧ w = w' := by
  go_enter Tryz.func64, Tryz.ntmps64
  go_wp2_with fail
  · have h : (48 : Int) ≤ c := by assumption
    go_ret
    exact ⟨lret_bool (by simp only [L.digitN, decide_eq_true (show 48 ≤ c by omega), Bool.true_and]; rw [Bool.eq_iff_iff]; simp; omega), rfl⟩
  · have h : (c : Int) < 48 := by assumption
    go_ret
    exact ⟨lret_bool (by simp only [L.digitN, decide_eq_false (show ¬ 48 ≤ c by omega), Bool.false_and]), rfl⟩

theorem letter_bits (c : Nat) (hc : c < 256) : L.letterN c = (decide (97 ≤ bits BinOp.or IntKind.u8 (c : Int) 32) && decide (bits BinOp.or IntKind.u8 (c : Int) 32 ≤ 122)) := by
  have h : ∀ c : Fin 256, L.letterN c.val = (decide (97 ≤ bits BinOp.or IntKind.u8 (c.val : Int) 32) && decide (bits BinOp.or IntKind.u8 (c.val : Int) 32 ≤ 122)) := by decide +kernel
  exact h ⟨c, hc⟩

set_option maxHeartbeats 400000 in
theorem letter_any (c : Nat) (w : World) (hc : c < 256) :
    Calls Tryz.prog 61 #[.int .u8 (c : Int)] w fun e w' => e = .returned (.bool (L.letterN c)) ∧ w = w' := by
  have hl := letter_bits c hc
  have HL := Lib.hid hl
  clear hl
  go_enter Tryz.func61, Tryz.ntmps61
  go_wp2_with fail
  · have h : 97 ≤ bits BinOp.or IntKind.u8 (c : Int) 32 := by assumption
    go_ret
    exact ⟨lret_bool (by rw [HL.out, decide_eq_true h, Bool.true_and]), rfl⟩
  · have h : bits BinOp.or IntKind.u8 (c : Int) 32 < 97 := by assumption
    go_ret
    exact ⟨lret_bool (by rw [HL.out, decide_eq_false (by omega), Bool.false_and]), rfl⟩

/-- What a class of bytes handed to prefix must pay. -/
def IsClass (f : Nat) (p : Nat → Bool) : Prop :=
  (∀ args w, (callFunc f args).run Tryz.prog w = .ok (.enter f args) w) ∧
  ∀ (c : Nat) (w : World), c < 256 → Calls Tryz.prog f #[.int .u8 (c : Int)] w fun e w' => e = .returned (.bool (p c)) ∧ w = w'

theorem digit_class : IsClass 64 L.digitN := ⟨enters_of Tryz.func64 (by kernel_rfl) rfl, fun c w _ => digit_any c w⟩

set_option maxHeartbeats 400000 in
theorem name_any (c : Nat) (w : World) (hc : c < 256) :
    Calls Tryz.prog 63 #[.int .u8 (c : Int)] w fun e w' => e = .returned (.bool (L.nameN c)) ∧ w = w' := by
  have C1 := Lib.hid fun w => letter_any c w hc
  have C2 := Lib.hid fun w => digit_any c w
  go_enter Tryz.func63, Tryz.ntmps63
  go_wp2_with (first | (go_at_call 61; refine (C1.out _).mono ?_; rintro e w' ⟨rfl, rfl⟩) | (go_at_call 64; refine (C2.out _).mono ?_; rintro e w' ⟨rfl, rfl⟩))
  · have h : L.letterN c = true := by assumption
    go_ret
    exact ⟨lret_bool (by simp [L.nameN, h]), rfl⟩
  · have h2 : L.digitN c = true := by assumption
    go_ret
    exact ⟨lret_bool (by simp [L.nameN, h2]), rfl⟩
  · have h : ¬ L.letterN c = true := by assumption
    have h2 : ¬ L.digitN c = true := by assumption
    go_ret
    exact ⟨lret_bool (by simp [L.nameN, h, h2]; rw [Bool.eq_iff_iff]; simp; omega), rfl⟩
theorem name_class : IsClass 63 L.nameN := ⟨enters_of Tryz.func63 (by kernel_rfl) rfl, fun c w h => name_any c w h⟩

theorem text_iff (c : Nat) : L.textN c = true ↔ 32 ≤ c ∧ c ≤ 126 ∧ c ≠ 34 ∧ c ≠ 92 := by
  simp [L.textN, and_assoc]
theorem text_no (c : Nat) (h : ¬ (32 ≤ c ∧ c ≤ 126 ∧ c ≠ 34 ∧ c ≠ 92)) : L.textN c = false := by
  rw [Bool.eq_false_iff]; intro h2; exact h ((text_iff c).1 h2)

set_option maxHeartbeats 400000 in
theorem text_any (c : Nat) (w : World) (_hc : c < 256) :
    Calls Tryz.prog 66 #[.int .u8 (c : Int)] w fun e w' => e = .returned (.bool (L.textN c)) ∧ w = w' := by
  go_enter Tryz.func66, Tryz.ntmps66
  go_wp2_with fail
  · have h : (c : Int) = 34 := by assumption
    go_ret
    exact ⟨lret_bool (text_no c (by omega)).symm, rfl⟩
  · have h1 : (32 : Int) ≤ c := by assumption
    have h2 : (c : Int) ≤ 126 := by assumption
    have h3 : ¬ (c : Int) = 34 := by assumption
    go_ret
    exact ⟨lret_bool (by rw [Bool.eq_iff_iff, text_iff]; simp; omega), rfl⟩
  · have h2 : (126 : Int) < c := by assumption
    go_ret
    exact ⟨lret_bool (text_no c (by omega)).symm, rfl⟩
  · have h2 : (c : Int) < 32 := by assumption
    go_ret
    exact ⟨lret_bool (text_no c (by omega)).symm, rfl⟩
theorem text_class : IsClass 66 L.textN := ⟨enters_of Tryz.func66 (by kernel_rfl) rfl, fun c w h => text_any c w h⟩

theorem lret_str {a b : List UInt8} (h : a = b) : Ending.returned (.string ⟨a.toArray⟩) = .returned (.string ⟨b.toArray⟩) := by rw [h]
theorem lret_ba {a b : ByteArray} (h : a = b) : Ending.returned (.string a) = .returned (.string b) := by rw [h]

set_option maxHeartbeats 800000 in
theorem prefix_any (f : Nat) (p : Nat → Bool) (hp : IsClass f p) (s : ByteArray) (w : World) (hs : s.size ≤ maxLen) :
    Calls Tryz.prog 62 #[.string s, .func (.func f) #[] #[]] w fun e w' => e = .returned (.string ⟨(L.pre p s.data.toList).toArray⟩) ∧ w = w' := by
  unfold maxLen at hs
  obtain ⟨he, hc⟩ := hp
  have HC := Lib.hid hc
  clear hc
  go_enter Tryz.func62, Tryz.ntmps62
  go_wp2_with fail
  go_loop [8] (fun i => ∃ k : Nat, k ≤ s.size ∧ i = .int .i64 k ∧ Hid (∀ j (h : j < s.size), j < k → p s[j].toNat = true)) (fun i => s.size - (intOf i).toNat)
  case atStart => exact ⟨0, Nat.zero_le _, rfl, fun j _ hj => absurd hj (by omega)⟩
  case round =>
    obtain ⟨k, hk, rfl, hall⟩ := hrel
    by_cases hlt : k < s.size
    · have C := Lib.hid (HC.out s[k].toNat w s[k].toNat_lt)
      cases hb : p s[k].toNat
      · have hf : L.pre p s.data.toList = s.data.toList.take k := L.pre_at (p := p) (fun j h hj => hall.out j (by simpa using h) hj) (by simpa using hlt) hb
        have HF := Lib.hid hf
        have HB := Lib.hid hb
        clear hf hb
        go_wp2_with fail
        refine C.out.mono ?_
        rintro e w' ⟨rfl, rfl⟩
        rw [HB.out]
        go_wp2_with fail
        go_ret
        exact ⟨lret_ba (by rw [HF.out]; exact L.ba_take s k), rfl⟩
      · have HB := Lib.hid hb
        clear hb
        go_wp2_with fail
        refine C.out.mono ?_
        rintro e w' ⟨rfl, rfl⟩
        rw [HB.out]
        go_wp2_with fail
        refine ⟨⟨k + 1, by omega, by go_num, ?_⟩, by simp [intOf]; omega⟩
        intro j h hj
        rcases Nat.lt_or_ge j k with h2 | h2
        · exact hall.out j h h2
        · obtain rfl : j = k := by omega
          exact HB.out
    · have hf : L.pre p s.data.toList = s.data.toList := L.pre_all (p := p) (fun j h => hall.out j (by simpa using h) (by simp at h; omega))
      have HF := Lib.hid hf
      clear hf
      go_wp2_with fail
      go_ret
      exact ⟨lret_ba (by rw [HF.out]), rfl⟩
end Go.Proofs.YtooajmbpncmgjaaGreatDoor
