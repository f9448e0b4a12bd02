/- The reference's Digits, by contract. -/
import Derived.Test.YtojdneepnfcnjaaDoorUnitE
import Derived.Test.YtojdneepnfcnjaaDoorUMath2
namespace Go.Proofs.YtojdneepnfcnjaaDoor
open Go.RowKit

/-- A string of the one byte that a new slice holds. -/
theorem one_byte (W : World) (x : Int) : (convert 55 9 (.slice (some ⟨W.heap.size, 0, none⟩) 1 1)).run Tryd.prog (W.alloc (.cells #[.int .u8 x] 5)) =
    .ok (.string ⟨[UInt8.ofNat x.toNat].toArray⟩) (W.alloc (.cells #[.int .u8 x] 5)) := by
  rw [run_convert_bytes_string _ 55 9 5 _ 1 1 Tryd.underlying55 Tryd.underlying5 Tryd.underlying9,
    run_bytesToString _ _ 1 1 [x] (run_loadCells_list _ _ [.int .u8 x] (fun j v h => ?_))]
  · rfl
  · cases j with
    | zero =>
      simp only [List.getElem?_cons_zero, Option.some.injEq] at h
      subst h
      exact cell_of_row _ _ 0 _ _ (0, 0) (heap_alloc_new W _)
    | succ j => simp at h

/-- The digits before the one that was written last. -/
def front (q : Nat) : List UInt8 := if q < 10 then [] else Lib.decDigits (q / 10)
theorem front_start (n : Nat) : Lib.decDigits n = front n ++ [UInt8.ofNat (48 + n % 10)] := by
  unfold front
  by_cases h : n < 10
  · rw [if_pos h]
    unfold Lib.decDigits
    rw [dif_pos h, Nat.mod_eq_of_lt h]
    rfl
  · rw [if_neg h]
    conv => lhs; unfold Lib.decDigits
    rw [dif_neg h]
theorem front_step (q : Nat) (h : 10 ≤ q) (S : List UInt8) : front q ++ S = front (q / 10) ++ (UInt8.ofNat (48 + q / 10 % 10) :: S) := by
  have e : front q = Lib.decDigits (q / 10) := by unfold front; rw [if_neg (by omega)]
  rw [e, front_start (q / 10)]
  simp
theorem slot_str {a : ByteArray} {l : List UInt8} (h : a.data.toList = l) : Value.string a = Value.string ⟨l.toArray⟩ := by
  rw [U.ba_ext (b := ⟨l.toArray⟩) h]

set_option maxHeartbeats 1000000 in
theorem digitsR_any (n : Nat) (hn : (n : Int) ≤ 1125899906842624) (w : World) :
    Calls Tryd.prog 15 #[.int .i64 n] w fun e w' => e = .returned (.string ⟨(Lib.decDigits n).toArray⟩) ∧ Below w.heap.size w w' := by
  have ob := one_byte
  have hl : (Lib.decDigits n).length ≤ 20 := by have := U.dec_len 19 n (by omega); omega
  obtain ⟨T, hT⟩ : ∃ T, Lib.decDigits n = T := ⟨_, rfl⟩
  have HT := Lib.hid hT
  rw [hT] at hl ⊢
  clear hT
  go_enter Tryd.func15, Tryd.ntmps15
  go_wp2_with fail
  go_loopw [0, 3] (fun v s wr => ∃ (q : Nat) (S : List UInt8), (q : Int) ≤ 1125899906842624 ∧ S.length ≤ 20 ∧ v = .int .i64 q ∧ s = .string ⟨S.toArray⟩ ∧ Hid (T = front q ++ S) ∧ Hid (Below w.heap.size w wr)) (fun v _ _ => (intOf v).toNat)
  case atStart => exact ⟨n, [UInt8.ofNat (48 + n % 10)], hn, by simp, rfl, rfl, (HT.out).symm.trans (front_start n), alloc_below w _⟩
  case round =>
    obtain ⟨q, S, hq, hS, rfl, rfl, hTq, hb⟩ := hrel
    by_cases h10 : 10 ≤ q
    · have hd : decide (10 ≤ (q : Int)) = true := by simp; omega
      have hS2 : S.length ≤ 19 := by
        have h1 := hTq.out
        have h2 := congrArg List.length h1
        rw [front, if_neg (by omega), List.length_append] at h2
        have h3 := List.length_pos_iff.2 (U.dec_all 15 (q / 10) (by omega)).2.2.1
        omega
      go_wp2_with fail
      refine ⟨⟨q / 10, UInt8.ofNat (48 + q / 10 % 10) :: S, by omega, by simp; omega, by simp, slot_str (by simp [ByteArray.data_append]), ?_, hb.out.alloc hb.out.size _⟩, by simp [intOf]; omega⟩
      show T = _
      rw [hTq.out, front_step q h10]
    · have hd : decide (10 ≤ (q : Int)) = false := by simp; omega
      go_wp2_with fail
      go_ret
      refine ⟨ret_str ?_, hb.out⟩
      rw [hTq.out, front, if_pos (by omega)]
      rfl
end Go.Proofs.YtojdneepnfcnjaaDoor
