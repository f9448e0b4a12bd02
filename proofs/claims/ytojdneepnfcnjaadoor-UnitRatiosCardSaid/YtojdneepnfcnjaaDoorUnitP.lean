/- The law UnitRatios, walked. -/
import Derived.Test.YtojdneepnfcnjaaDoorUnitO
import Derived.Test.YtojdneepnfcnjaaDoorUnitH
import Derived.Test.YtojdneepnfcnjaaDoorUMath7
namespace Go.Proofs.YtojdneepnfcnjaaDoor
open Go.RowKit

set_option maxRecDepth 100000 in
set_option maxHeartbeats 1000000 in
theorem unitRatios_early (n : Int) (one two : ByteArray) (w : World) (hw : Std w) (h : n < 0 ∨ 1099511627776 < n) :
    Calls Tryd.prog 6 #[.int .i64 n, .string one, .string two] w fun e w' => e = .returned (.bool true) ∧ Below w.heap.size w w' := by
  have HS := Lib.hid (small14_any w hw)
  clear hw
  by_cases h1 : n < 0
  · have d1 : decide (n < 0) = true := by simpa using h1
    clear h
    go_enter Tryd.func6, Tryd.ntmps6
    go_wp2_with fail
    refine HS.out.mono ?_
    rintro e w1 ⟨rfl, hb1⟩
    go_wp2_with fail
    go_ret
    exact ⟨rfl, by assumption⟩
  · have d1 : decide (n < 0) = false := by simpa using h1
    have d2 : decide (1099511627776 < n) = true := by simp; omega
    clear h h1
    go_enter Tryd.func6, Tryd.ntmps6
    go_wp2_with fail
    refine HS.out.mono ?_
    rintro e w1 ⟨rfl, hb1⟩
    go_wp2_with fail
    go_ret
    exact ⟨rfl, by assumption⟩

set_option maxRecDepth 100000 in
set_option maxHeartbeats 1000000 in
theorem unitRatios_main (n : Nat) (one two : ByteArray) (w : World) (hw : Std w) (hn : (n : Int) ≤ 1099511627776) :
    Calls Tryd.prog 6 #[.int .i64 n, .string one, .string two] w fun e w' => e = .returned (.bool true) ∧ Below w.heap.size w w' := by
  have HS := Lib.hid (small14_any w hw)
  obtain ⟨A, hA⟩ : ∃ A, U.amountU (Lib.decDigits n) one.data.toList = A := ⟨_, rfl⟩
  obtain ⟨B, hB⟩ : ∃ B, U.amountU (Lib.decDigits n) two.data.toList = B := ⟨_, rfl⟩
  have CA := Lib.hid (amount_dec n one A hA (by omega))
  have CB := Lib.hid (amount_dec n two B hB (by omega))
  have DA := Lib.hid (digitsR_any n (by omega))
  obtain ⟨sA, hsA⟩ : ∃ s, Lib.decDigits n = s := ⟨_, rfl⟩
  obtain ⟨a1, a2, a3⟩ := A
  obtain ⟨b1, b2, b3⟩ := B
  have HRA := Lib.hid (fun h3 : a3 = 0 => U.ratio_one n one.data.toList (by omega) a1 a2 (by rw [hA, h3]))
  have HRB := Lib.hid (fun h3 : b3 = 0 => U.ratio_one n two.data.toList (by omega) b1 b2 (by rw [hB, h3]))
  rw [hsA] at CA CB DA
  have HW := Lib.hid hw
  have d1 : decide ((n : Int) < 0) = false := by simp
  have d2 : decide (1099511627776 < (n : Int)) = false := by simp; omega
  clear hA hB hsA hw
  go_enter Tryd.func6, Tryd.ntmps6
  go_wp2_with fail
  refine HS.out.mono ?_
  rintro e w1 ⟨rfl, hb1⟩
  have HW1 := Lib.hid (HW.out.below hb1)
  have HB1 := Lib.hid hb1
  clear hb1 HW HS
  go_wp2_with fail
  refine (DA.out _).mono ?_
  rintro e w2 ⟨rfl, hb2⟩
  have HW2 := Lib.hid (HW1.out.below hb2)
  have HB2 := Lib.hid (HB1.out.trans (hb2.mono HB1.out.size))
  clear hb2 HW1 HB1
  go_wp2_with fail
  refine (CA.out _ HW2.out).mono ?_
  rintro e w3 ⟨rfl, hb3⟩
  have HW3 := Lib.hid ((HW2.out.below hb3).below (alloc_below w3 (.cells #[.int .i64 a1, .int .i64 a2] 23)))
  have HB3 := Lib.hid (HB2.out.trans (hb3.mono HB2.out.size))
  have HTa := Lib.hid (Two.new HB3.out HB3.out.size (.int .i64 a1) (.int .i64 a2) 23)
  clear hb3 HW2 HB2 CA
  go_wp2_with fail
  refine (DA.out _).mono ?_
  rintro e w4 ⟨rfl, hb4⟩
  have HW4 := Lib.hid (HW3.out.below hb4)
  have HTa4 := Lib.hid (HTa.out.keep (by simp; have := HB3.out.size; omega) hb4)
  have hz4 := hb4.size
  rw [World.size_alloc] at hz4
  clear hb4 HW3 HTa DA
  go_wp2_with fail
  refine (CB.out _ HW4.out).mono ?_
  rintro e w5 ⟨rfl, hb5⟩
  have HW5 := Lib.hid ((HW4.out.below hb5).below (alloc_below w5 (.cells #[.int .i64 b1, .int .i64 b2] 23)))
  have hz0 : w.heap.size ≤ w4.heap.size := by have := HB3.out.size; omega
  have HTa5 := Lib.hid (HTa4.out.keep hz0 hb5)
  have hz5 := hb5.size
  have HTa6 := Lib.hid (HTa5.out.keep (by omega) (alloc_below w5 (.cells #[.int .i64 b1, .int .i64 b2] 23)))
  have HTb := Lib.hid (Two.new HTa5.out.below (by omega) (.int .i64 b1) (.int .i64 b2) 23)
  clear hb5 HW4 HTa4 HTa5 CB HB3
  obtain ⟨hbel, _, ca0, ca1⟩ := id HTa6.out
  obtain ⟨_, _, cb0, cb1⟩ := id HTb.out
  by_cases h3 : a3 = 0
  · subst h3
    by_cases h4 : b3 = 0
    · subst h4
      by_cases h5 : a2 = b2
      · subst h5
        obtain ⟨N, dm, c, x, d, rfl, hN, hfa, hra, hc, hx, hd⟩ := HRA.out rfl
        obtain ⟨M, dm', p, y, q, rfl, hM, hfb, hrb, hp, hy, hq⟩ := HRB.out rfl
        have hcq : c * q ≤ 864 := Nat.mul_le_mul hc hq
        have hpd : p * d ≤ 864 := Nat.mul_le_mul hp hd
        obtain ⟨P1, hP1⟩ : ∃ P1, c * q = P1 := ⟨_, rfl⟩
        obtain ⟨P2, hP2⟩ : ∃ P2, p * d = P2 := ⟨_, rfl⟩
        have hP1i : (c : Int) * (q : Int) = (P1 : Int) := by rw [← hP1]; simp
        have hP2i : (p : Int) * (d : Int) = (P2 : Int) := by rw [← hP2]; simp
        have hlaw := U.ratios hra hrb
        rw [hP1, hP2] at hlaw
        rw [hP1] at hcq
        rw [hP2] at hpd
        have HL := Lib.hid hlaw
        have F1 := Lib.hid (factor_any one)
        have F2 := Lib.hid (factor_any two)
        rw [hfa] at F1
        rw [hfb] at F2
        have Q1 := Lib.hid (fun w1 => product_any M P1 x w1 (by omega) (by omega) (by omega))
        have Q2 := Lib.hid (fun w1 => product_any N P2 y w1 (by omega) (by omega) (by omega))
        clear hfa hfb hra hrb hP1 hP2 hlaw HRA HRB
        go_wp2_with fail
        refine (F1.out _).mono ?_
        rintro e w6 ⟨rfl, rfl⟩
        simp only [facRet]
        go_wp2_with fail
        refine (F2.out _).mono ?_
        rintro e w7 ⟨rfl, rfl⟩
        simp only [facRet]
        go_wp2_with fail
        refine (Q1.out _).mono ?_
        rintro e w6 ⟨v1, L1, rfl, n1, l1, e1, x1, o1, hb6⟩
        have HTa7 := Lib.hid (HTa6.out.keep (by simp; omega) hb6)
        have HTb7 := Lib.hid (HTb.out.keep (by simp; omega) hb6)
        have hz6 := hb6.size
        rw [World.size_alloc] at hz6
        have HO1 := Lib.hid o1
        have HF1 := Lib.hid (And.intro n1 (And.intro e1 x1))
        clear o1 hb6 n1 e1 x1 HTa6 HTb ca0 ca1 cb0 cb1 hbel
        obtain ⟨hbel, _, ca0, ca1⟩ := id HTa7.out
        obtain ⟨_, _, cb0, cb1⟩ := id HTb7.out
        go_wp2_with fail
        refine (Q2.out _).mono ?_
        rintro e w7 ⟨v2, L2, rfl, n2, l2, e2, x2, o2, hb7⟩
        have HO1' := Lib.hid (own_below HO1.out hb7)
        have hbel7 := hbel.trans (hb7.mono (by omega))
        have hv : U.valL L1 = U.valL L2 := by rw [HF1.out.2.2, x2]; exact HL.out
        have SM := Lib.hid (same_any v1 v2 L1 L2 _ _ w7 HO1'.out o2 HF1.out.1 n2 HF1.out.2.1 e2 hv (by omega) (by omega))
        have HB7 := Lib.hid hbel7
        clear hbel7 hv o2 n2 e2 x2 hb7 HO1' HO1
        go_wp2_with fail
        refine SM.out.mono ?_
        rintro e w8 ⟨rfl, hb8⟩
        have HB8 := Lib.hid (HB7.out.trans (hb8.mono HB7.out.size))
        clear hb8
        go_wp2_with fail
        go_ret
        exact ⟨rfl, HB8.out⟩
      · have k1 : (a2 != b2) = true := by simpa using h5
        have k2 : (a2 == b2) = false := by simpa using h5
        clear h5
        go_wp2_with fail
        go_ret
        exact ⟨rfl, hbel⟩
    · have k1 : (b3 != 0) = true := by simpa using h4
      have k2 : (b3 == 0) = false := by simpa using h4
      clear h4
      go_wp2_with fail
      go_ret
      exact ⟨rfl, hbel⟩
  · have k1 : (a3 != 0) = true := by simpa using h3
    have k2 : (a3 == 0) = false := by simpa using h3
    clear h3
    go_wp2_with fail
    go_ret
    exact ⟨rfl, hbel⟩

theorem unitRatios_any (n : Int) (one two : ByteArray) (w : World) (hw : Std w) :
    Calls Tryd.prog 6 #[.int .i64 n, .string one, .string two] w fun e w' => e = .returned (.bool true) ∧ Below w.heap.size w w' := by
  by_cases h : n < 0 ∨ 1099511627776 < n
  · exact unitRatios_early n one two w hw h
  · obtain ⟨n, rfl⟩ := Int.eq_ofNat_of_zero_le (show 0 ≤ n by omega)
    exact unitRatios_main n one two w hw (by omega)
end Go.Proofs.YtojdneepnfcnjaaDoor
