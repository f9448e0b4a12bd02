/- The law UnitAdds, walked. -/
import Derived.Test.YtojdneepnfcnjaaDoorUnitG
import Derived.Test.YtojdneepnfcnjaaDoorUMath3
namespace Go.Proofs.YtojdneepnfcnjaaDoor
open Go.RowKit

/-- A decimal numeral's amount. -/
theorem amount_dec (m : Nat) (name : ByteArray) (A : Int × Int × Int) (h : U.amountU (Lib.decDigits m) name.data.toList = A) (hm : m ≤ 4398046511104) (w : World) (hw : Std w) :
    Calls Tryd.prog 9 #[.string ⟨(Lib.decDigits m).toArray⟩, .string name] w fun r w' => r = .returned (.tuple #[.agg #[.int .i64 A.1, .int .i64 A.2.1], .int .i64 A.2.2]) ∧ Below w.heap.size w w' := by
  have hl := U.dec_len 15 m (by omega)
  have c := amountU_any ⟨(Lib.decDigits m).toArray⟩ name w hw (by show (Lib.decDigits m).length ≤ _; omega)
  rw [show (ByteArray.mk (Lib.decDigits m).toArray).data.toList = Lib.decDigits m from rfl, h] at c
  exact c

set_option maxRecDepth 100000 in
set_option maxHeartbeats 1000000 in
theorem unitAdds_early (m n : Int) (name : ByteArray) (w : World) (hw : Std w) (h : m < 0 ∨ 1099511627776 < m ∨ n < 0 ∨ 1099511627776 < n) :
    Calls Tryd.prog 7 #[.int .i64 m, .int .i64 n, .string name] w fun e w' => e = .returned (.bool true) ∧ Below w.heap.size w w' := by
  have HS := Lib.hid (small14_any w hw)
  clear hw
  by_cases h1 : m < 0
  · have d1 : decide (m < 0) = true := by simpa using h1
    clear h
    go_enter Tryd.func7, Tryd.ntmps7
    go_wp2_with fail
    refine HS.out.mono ?_
    rintro e w1 ⟨rfl, hb1⟩
    go_wp2_with fail
    go_ret
    exact ⟨rfl, by assumption⟩
  · have d1 : decide (m < 0) = false := by simpa using h1
    by_cases h2 : 1099511627776 < m
    · have d2 : decide (1099511627776 < m) = true := by simpa using h2
      clear h h1
      go_enter Tryd.func7, Tryd.ntmps7
      go_wp2_with fail
      refine HS.out.mono ?_
      rintro e w1 ⟨rfl, hb1⟩
      go_wp2_with fail
      go_ret
      exact ⟨rfl, by assumption⟩
    · have d2 : decide (1099511627776 < m) = false := by simpa using h2
      by_cases h3 : n < 0
      · have d3 : decide (n < 0) = true := by simpa using h3
        clear h h1 h2
        go_enter Tryd.func7, Tryd.ntmps7
        go_wp2_with fail
        refine HS.out.mono ?_
        rintro e w1 ⟨rfl, hb1⟩
        go_wp2_with fail
        go_ret
        exact ⟨rfl, by assumption⟩
      · have d3 : decide (n < 0) = false := by simpa using h3
        have d4 : decide (1099511627776 < n) = true := by simp; omega
        clear h h1 h2 h3
        go_enter Tryd.func7, Tryd.ntmps7
        go_wp2_with fail
        refine HS.out.mono ?_
        rintro e w1 ⟨rfl, hb1⟩
        go_wp2_with fail
        go_ret
        exact ⟨rfl, by assumption⟩

set_option maxRecDepth 100000 in
set_option maxHeartbeats 1000000 in
theorem unitAdds_main (m n : Nat) (name : ByteArray) (w : World) (hw : Std w) (hm : (m : Int) ≤ 1099511627776) (hn : (n : Int) ≤ 1099511627776) :
    Calls Tryd.prog 7 #[.int .i64 m, .int .i64 n, .string name] w fun e w' => e = .returned (.bool true) ∧ Below w.heap.size w w' := by
  have HS := Lib.hid (small14_any w hw)
  obtain ⟨A, hA⟩ : ∃ A, U.amountU (Lib.decDigits m) name.data.toList = A := ⟨_, rfl⟩
  obtain ⟨B, hB⟩ : ∃ B, U.amountU (Lib.decDigits n) name.data.toList = B := ⟨_, rfl⟩
  obtain ⟨C, hC⟩ : ∃ C, U.amountU (Lib.decDigits (m + n)) name.data.toList = C := ⟨_, rfl⟩
  obtain ⟨hlaw, bA0, bA1, bB0, bB1⟩ := U.adds_law m n name.data.toList (by omega) (by omega) A B C hA hB hC
  have CA := Lib.hid (amount_dec m name A hA (by omega))
  have CB := Lib.hid (amount_dec n name B hB (by omega))
  have CC := Lib.hid (amount_dec (m + n) name C hC (by omega))
  have DA := Lib.hid (digitsR_any m (by omega))
  have DB := Lib.hid (digitsR_any n (by omega))
  have DC := Lib.hid (digitsR_any (m + n) (by omega))
  obtain ⟨sA, hsA⟩ : ∃ s, Lib.decDigits m = s := ⟨_, rfl⟩
  obtain ⟨sB, hsB⟩ : ∃ s, Lib.decDigits n = s := ⟨_, rfl⟩
  obtain ⟨sC, hsC⟩ : ∃ s, Lib.decDigits (m + n) = s := ⟨_, rfl⟩
  rw [hsA] at CA DA
  rw [hsB] at CB DB
  rw [hsC] at CC DC
  obtain ⟨t, ht⟩ : ∃ t, m + n = t := ⟨_, rfl⟩
  have hti : (m : Int) + (n : Int) = (t : Int) := by omega
  rw [ht] at DC
  obtain ⟨a1, a2, a3⟩ := A
  obtain ⟨b1, b2, b3⟩ := B
  obtain ⟨c1, c2, c3⟩ := C
  simp only at hlaw bA0 bA1 bB0 bB1
  have HL := Lib.hid hlaw
  have HW := Lib.hid hw
  have d1 : decide ((m : Int) < 0) = false := by simp
  have d2 : decide (1099511627776 < (m : Int)) = false := by simp; omega
  have d3 : decide ((n : Int) < 0) = false := by simp
  have d4 : decide (1099511627776 < (n : Int)) = false := by simp; omega
  clear hlaw hA hB hC hsA hsB hsC hw ht
  go_enter Tryd.func7, Tryd.ntmps7
  go_wp2_with fail
  refine HS.out.mono ?_
  rintro e w1 ⟨rfl, hb1⟩
  have HW1 := Lib.hid (HW.out.below hb1)
  have HB1 := Lib.hid hb1
  clear hb1 HW HS
  go_wp2_with fail
  refine (DA.out _).mono ?_
  rintro e w2 ⟨rfl, hb2⟩
  have HW2 := Lib.hid (HW1.out.below hb2)
  have HB2 := Lib.hid (HB1.out.trans (hb2.mono HB1.out.size))
  clear hb2 HW1 HB1 DA
  go_wp2_with fail
  refine (CA.out _ HW2.out).mono ?_
  rintro e w3 ⟨rfl, hb3⟩
  have HW3 := Lib.hid ((HW2.out.below hb3).below (alloc_below w3 (.cells #[.int .i64 a1, .int .i64 a2] 23)))
  have HB3 := Lib.hid (HB2.out.trans (hb3.mono HB2.out.size))
  have HTa := Lib.hid (Two.new HB3.out HB3.out.size (.int .i64 a1) (.int .i64 a2) 23)
  clear hb3 HW2 HB2 CA
  go_wp2_with fail
  refine (DB.out _).mono ?_
  rintro e w4 ⟨rfl, hb4⟩
  have HW4 := Lib.hid (HW3.out.below hb4)
  have HTa4 := Lib.hid (HTa.out.keep (by simp; have := HB3.out.size; omega) hb4)
  have hz4 := hb4.size
  rw [World.size_alloc] at hz4
  clear hb4 HW3 HTa DB
  go_wp2_with fail
  refine (CB.out _ HW4.out).mono ?_
  rintro e w5 ⟨rfl, hb5⟩
  have HW5 := Lib.hid ((HW4.out.below hb5).below (alloc_below w5 (.cells #[.int .i64 b1, .int .i64 b2] 23)))
  have hz0 : w.heap.size ≤ w4.heap.size := by have := HB3.out.size; omega
  have HTa5 := Lib.hid (HTa4.out.keep hz0 hb5)
  have hz5 := hb5.size
  have HTa6 := Lib.hid (HTa5.out.keep (by omega) (alloc_below w5 (.cells #[.int .i64 b1, .int .i64 b2] 23)))
  have HTb := Lib.hid (Two.new HTa5.out.below (by omega) (.int .i64 b1) (.int .i64 b2) 23)
  clear hb5 HW4 HTa4 HTa5 CB HB3
  go_wp2_with fail
  refine (DC.out _).mono ?_
  rintro e w6 ⟨rfl, hb6⟩
  have HW6 := Lib.hid (HW5.out.below hb6)
  have HTa7 := Lib.hid (HTa6.out.keep (by simp; omega) hb6)
  have HTb7 := Lib.hid (HTb.out.keep (by simp; omega) hb6)
  have hz6 := hb6.size
  rw [World.size_alloc] at hz6
  clear hb6 HW5 HTa6 HTb DC
  go_wp2_with fail
  refine (CC.out _ HW6.out).mono ?_
  rintro e w7 ⟨rfl, hb7⟩
  have hz7 := hb7.size
  have HTa8 := Lib.hid ((HTa7.out.keep (by omega) hb7).keep (by omega) (alloc_below w7 (.cells #[.int .i64 c1, .int .i64 c2] 23)))
  have HTb8 := Lib.hid ((HTb7.out.keep (by omega) hb7).keep (by omega) (alloc_below w7 (.cells #[.int .i64 c1, .int .i64 c2] 23)))
  clear hb7 HW6 HTa7 HTb7 CC hti d1 d2 d3 d4
  obtain ⟨hbel, _, ca0, ca1⟩ := id HTa8.out
  obtain ⟨_, _, cb0, cb1⟩ := id HTb8.out
  rcases HL.out with h | ⟨h, h'⟩ | ⟨h, h', h1, h2⟩ | ⟨h, h', h1, h2, h3, h4, h5⟩
  · have k1 : (a3 != 0) = true := by simpa using h
    have k2 : (a3 == 0) = false := by simpa using h
    clear h
    go_wp2_with fail
    go_ret
    exact ⟨rfl, hbel⟩
  · have k1 : (b3 != 0) = true := by simpa using h'
    have k2 : (b3 == 0) = false := by simpa using h'
    clear h' HL
    subst h
    go_wp2_with fail
    go_ret
    exact ⟨rfl, hbel⟩
  · subst h h' h2
    have k1 : decide (1125899906842624 < a1 + b1) = true := by simpa using h1
    clear h1 HL
    go_wp2_with fail
    go_ret
    exact ⟨rfl, hbel⟩
  · subst h h' h2 h3 h4 h5
    have k1 : decide (1125899906842624 < a1 + b1) = false := by simp; omega
    clear h1 HL
    go_wp2_with fail
    go_ret
    exact ⟨rfl, hbel⟩

theorem unitAdds_any (m n : Int) (name : ByteArray) (w : World) (hw : Std w) :
    Calls Tryd.prog 7 #[.int .i64 m, .int .i64 n, .string name] w fun e w' => e = .returned (.bool true) ∧ Below w.heap.size w w' := by
  by_cases h : m < 0 ∨ 1099511627776 < m ∨ n < 0 ∨ 1099511627776 < n
  · exact unitAdds_early m n name w hw h
  · obtain ⟨m, rfl⟩ := Int.eq_ofNat_of_zero_le (show 0 ≤ m by omega)
    obtain ⟨n, rfl⟩ := Int.eq_ofNat_of_zero_le (show 0 ≤ n by omega)
    exact unitAdds_main m n name w hw (by omega) (by omega)
end Go.Proofs.YtojdneepnfcnjaaDoor
