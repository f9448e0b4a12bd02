/- The law UnitZeros, walked. -/
import Derived.Test.YtojdneepnfcnjaaDoorUnitI
import Derived.Test.YtojdneepnfcnjaaDoorUMath5
namespace Go.Proofs.YtojdneepnfcnjaaDoor
open Go.RowKit

theorem ba_size (l : List UInt8) : (ByteArray.mk l.toArray).size = l.length := by simp [ByteArray.size]
theorem split_len {s : ByteArray} (h : (U.splitR s.data.toList).2.2 = true) : s.size ≤ 31 := by
  have := U.len_ok h
  rwa [Array.length_toList] at this

set_option maxRecDepth 100000 in
set_option maxHeartbeats 1000000 in
theorem unitZeros_any (number name : ByteArray) (p q : Nat) (w : World) (hw : Std w) (hs : number.size ≤ 1048576) (_hn : name.size ≤ maxLen) :
    Calls Tryd.prog 5 #[.string number, .string name, .int .u8 p, .int .u8 q] w fun e w' => e = .returned (.bool true) ∧ Below w.heap.size w w' := by
  have HS := Lib.hid (small14_any w hw)
  have HSP := Lib.hid (fun w1 => split_any number w1 hs)
  have HW := Lib.hid hw
  clear hw
  cases hok : (U.splitR number.data.toList).2.2 with
  | false =>
    rw [hok] at HSP
    have HOK := Lib.hid hok
    clear hok
    go_enter Tryd.func5, Tryd.ntmps5
    go_wp2_with fail
    refine HS.out.mono ?_
    rintro e w1 ⟨rfl, hb1⟩
    go_wp2_with fail
    refine (HSP.out w1).mono ?_
    rintro e w2 ⟨v, rfl, _, hb2⟩
    have HB2 := Lib.hid (hb1.trans (hb2.mono hb1.size))
    clear hb1 hb2
    go_wp2_with fail
    go_ret
    exact ⟨rfl, HB2.out⟩
  | true =>
    have hl31 := split_len hok
    rw [hok] at HSP
    obtain ⟨F, hF⟩ : ∃ F, (U.splitR number.data.toList).2.1 = F := ⟨_, rfl⟩
    rw [hF] at HSP
    obtain ⟨s, hsl⟩ : ∃ s, number.data.toList = s := ⟨_, rfl⟩
    have hnum : number = ⟨s.toArray⟩ := U.ba_ext hsl
    subst hnum
    have HL := Lib.hid (fun i j => U.zeros_law s name.data.toList i j hok)
    rw [hF] at HL
    have hsz : s.length ≤ 31 := by rw [ba_size] at hl31; exact hl31
    have HOK := Lib.hid hok
    have HFF := Lib.hid hF
    clear hok hF hsl hl31
    by_cases hnm : name.size ≤ 60
    · have d0 : decide (60 < (name.size : Int)) = false := by simp; omega
      clear hnm
      go_enter Tryd.func5, Tryd.ntmps5
      go_wp2_with fail
      refine HS.out.mono ?_
      rintro e w1 ⟨rfl, hb1⟩
      go_wp2_with fail
      refine (HSP.out w1).mono ?_
      rintro e w2 ⟨v, rfl, _, hb2⟩
      have HB2 := Lib.hid (hb1.trans (hb2.mono hb1.size))
      clear hb1 hb2
      obtain ⟨P, hP⟩ : ∃ P, p % 5 = P := ⟨_, rfl⟩
      obtain ⟨Q, hQ⟩ : ∃ Q, q % 5 = Q := ⟨_, rfl⟩
      have hP5 : P ≤ 4 := by omega
      have hQ5 : Q ≤ 4 := by omega
      have hPi : (p : Int) % 5 = (P : Int) := by omega
      have hQi : (q : Int) % 5 = (Q : Int) := by omega
      clear hP hQ
      go_wp2_with fail
      go_loopw [13, 14] (fun mo i wr => w2 = wr ∧ ∃ k : Nat, k ≤ P ∧ i = .int .i64 k ∧ mo = .string ⟨(List.replicate k 48 ++ s).toArray⟩) (fun _ i _ => 5 - (intOf i).toNat)
      case atStart => exact ⟨rfl, 0, Nat.zero_le _, rfl, rfl⟩
      case round =>
        obtain ⟨rfl, k, hk, rfl, rfl⟩ := hrel
        by_cases hlt : k < P
        · have d1 : decide (k < P) = true := by simpa using hlt
          clear hlt
          go_wp2_with fail
          have d1' : k < P := by simpa using d1
          clear d1
          refine ⟨⟨trivial, k + 1, d1', by go_num, slot_str (by simp [ByteArray.data_append, List.replicate_succ])⟩, by simp [intOf]; omega⟩
        · have d1 : decide (k < P) = false := by simpa using hlt
          obtain rfl : k = P := by omega
          clear hlt
          go_wp2_with fail
          go_loopw [13, 15] (fun mo i wr => w2 = wr ∧ ∃ j : Nat, j ≤ Q ∧ i = .int .i64 j ∧ (j = 0 ∨ 0 < F) ∧ mo = .string ⟨(List.replicate k 48 ++ s ++ List.replicate j 48).toArray⟩) (fun _ i _ => 5 - (intOf i).toNat)
          case atStart => exact ⟨rfl, 0, Nat.zero_le _, rfl, .inl rfl, slot_str (by simp)⟩
          case round =>
            obtain ⟨rfl, j, hj, rfl, hjF, rfl⟩ := hrel
            by_cases hlt : j < Q ∧ 0 < F
            · have d2 : decide (j < Q) = true := by simpa using hlt.1
              have d3 : decide (0 < F) = true := by simpa using hlt.2
              have d3' : decide (0 < (F : Int)) = true := by simpa using hlt.2
              clear hlt
              go_wp2_with fail
              have d2' : j < Q := by simpa using d2
              have d3'' : 0 < F := by simpa using d3
              clear d2 d3
              refine ⟨⟨trivial, j + 1, d2', by go_num, .inr d3'', slot_str (by simp [ByteArray.data_append, List.replicate_succ'])⟩, by simp [intOf]; omega⟩
            · have HSM := Lib.hid (fun w2 => split_any ⟨(List.replicate k 48 ++ s ++ List.replicate j 48).toArray⟩ w2 (by rw [ba_size]; simp; omega))
              have HC0 := Lib.hid (fun w2 hw2 => amountU_any ⟨s.toArray⟩ name w2 hw2 (by rw [ba_size]; omega))
              have HC1 := Lib.hid (fun w2 hw2 => amountU_any ⟨(List.replicate k 48 ++ s ++ List.replicate j 48).toArray⟩ name w2 hw2 (by rw [ba_size]; simp; omega))
              have HLW := Lib.hid (HL.out k j hjF)
              obtain ⟨M, hM⟩ : ∃ M, List.replicate k 48 ++ s ++ List.replicate j 48 = M := ⟨_, rfl⟩
              rw [hM] at HSM HC1 HLW ⊢
              simp only at HSM HC1 HC0
              obtain ⟨A, hA⟩ : ∃ A, U.amountU s name.data.toList = A := ⟨_, rfl⟩
              obtain ⟨B, hB⟩ : ∃ B, U.amountU M name.data.toList = B := ⟨_, rfl⟩
              rw [hA] at HC0 HLW
              rw [hB] at HC1 HLW
              obtain ⟨a1, a2, a3⟩ := A
              obtain ⟨b1, b2, b3⟩ := B
              obtain ⟨X, hX⟩ : ∃ X, (U.splitR M).2.2 = X := ⟨_, rfl⟩
              rw [hX] at HSM HLW
              clear hA hB hM hX HL hjF
              have key : ∀ (K : Prop), (∀ b : Bool, b = decide (j < Q) → (b = true → decide (0 < (F : Int)) = false) → K) → K := by
                intro K h
                refine h _ rfl fun hb => ?_
                have : ¬ 0 < F := fun hF => hlt ⟨by simpa using hb, hF⟩
                simp; omega
              apply key
              intro b hb hbF
              clear key hlt
              cases b with
              | false =>
                have d2 := hb.symm
                clear hb hbF
                go_wp2_with fail
                refine (HSM.out w2).mono ?_
                rintro e w3 ⟨v3, rfl, _, hb3⟩
                have HB3 := Lib.hid (HB2.out.trans (hb3.mono HB2.out.size))
                have HW3 := Lib.hid (HW.out.below HB3.out)
                clear hb3
                cases X with
                | false =>
                  go_wp2_with fail
                  go_ret
                  exact ⟨rfl, HB3.out⟩
                | true =>
                  have hAB := HLW.out rfl
                  simp only [Prod.mk.injEq] at hAB
                  obtain ⟨h1, h2, h3⟩ := hAB
                  subst h1 h2 h3
                  clear HLW
                  go_wp2_with fail
                  refine (HC0.out w3 HW3.out).mono ?_
                  rintro e w4 ⟨rfl, hb4⟩
                  have HB4 := Lib.hid (HB3.out.trans (hb4.mono HB3.out.size))
                  have HTa := Lib.hid (Two.new HB4.out HB4.out.size (.int .i64 b1) (.int .i64 b2) 23)
                  have HW4 := Lib.hid (HW.out.below HTa.out.below)
                  clear hb4
                  go_wp2_with fail
                  refine (HC1.out _ HW4.out).mono ?_
                  rintro e w5 ⟨rfl, hb5⟩
                  have hz := HTa.out.below.size
                  have HTa5 := Lib.hid (HTa.out.keep hz hb5)
                  have HTa6 := Lib.hid (HTa5.out.keep HTa5.out.below.size (alloc_below w5 (.cells #[.int .i64 b1, .int .i64 b2] 23)))
                  obtain ⟨hbel, _, ca0, ca1⟩ := id HTa6.out
                  clear hb5 HTa HTa5 HW4
                  go_wp2_with fail
                  go_ret
                  exact ⟨rfl, hbel⟩
              | true =>
                have d2 := hb.symm
                have d3 := hbF rfl
                have d3' : decide (0 < F) = false := by simpa using d3
                clear hb hbF
                go_wp2_with fail
                refine (HSM.out w2).mono ?_
                rintro e w3 ⟨v3, rfl, _, hb3⟩
                have HB3 := Lib.hid (HB2.out.trans (hb3.mono HB2.out.size))
                have HW3 := Lib.hid (HW.out.below HB3.out)
                clear hb3
                cases X with
                | false =>
                  go_wp2_with fail
                  go_ret
                  exact ⟨rfl, HB3.out⟩
                | true =>
                  have hAB := HLW.out rfl
                  simp only [Prod.mk.injEq] at hAB
                  obtain ⟨h1, h2, h3⟩ := hAB
                  subst h1 h2 h3
                  clear HLW
                  go_wp2_with fail
                  refine (HC0.out w3 HW3.out).mono ?_
                  rintro e w4 ⟨rfl, hb4⟩
                  have HB4 := Lib.hid (HB3.out.trans (hb4.mono HB3.out.size))
                  have HTa := Lib.hid (Two.new HB4.out HB4.out.size (.int .i64 b1) (.int .i64 b2) 23)
                  have HW4 := Lib.hid (HW.out.below HTa.out.below)
                  clear hb4
                  go_wp2_with fail
                  refine (HC1.out _ HW4.out).mono ?_
                  rintro e w5 ⟨rfl, hb5⟩
                  have hz := HTa.out.below.size
                  have HTa5 := Lib.hid (HTa.out.keep hz hb5)
                  have HTa6 := Lib.hid (HTa5.out.keep HTa5.out.below.size (alloc_below w5 (.cells #[.int .i64 b1, .int .i64 b2] 23)))
                  obtain ⟨hbel, _, ca0, ca1⟩ := id HTa6.out
                  clear hb5 HTa HTa5 HW4
                  go_wp2_with fail
                  go_ret
                  exact ⟨rfl, hbel⟩
    · have d0 : decide (60 < (name.size : Int)) = true := by simp; omega
      clear hnm
      go_enter Tryd.func5, Tryd.ntmps5
      go_wp2_with fail
      refine HS.out.mono ?_
      rintro e w1 ⟨rfl, hb1⟩
      go_wp2_with fail
      refine (HSP.out w1).mono ?_
      rintro e w2 ⟨v, rfl, _, hb2⟩
      have HB2 := Lib.hid (hb1.trans (hb2.mono hb1.size))
      clear hb1 hb2
      go_wp2_with fail
      go_ret
      exact ⟨rfl, HB2.out⟩
theorem unitZeros_all (number name : ByteArray) (p q : Int) (w : World) (hw : Std w) (hs : number.size ≤ 1048576) (hn : name.size ≤ maxLen) (hp : (Lit.int .u8 p).wf) (hq : (Lit.int .u8 q).wf) :
    Calls Tryd.prog 5 #[.string number, .string name, .int .u8 p, .int .u8 q] w fun e w' => e = .returned (.bool true) ∧ Below w.heap.size w w' := by
  have h1 : 0 ≤ p ∧ p ≤ 255 := by simpa [Lit.wf, IntKind.min, IntKind.max, IntKind.bits, IntKind.signed] using hp
  have h2 : 0 ≤ q ∧ q ≤ 255 := by simpa [Lit.wf, IntKind.min, IntKind.max, IntKind.bits, IntKind.signed] using hq
  obtain ⟨p, rfl⟩ := Int.eq_ofNat_of_zero_le h1.1
  obtain ⟨q, rfl⟩ := Int.eq_ofNat_of_zero_le h2.1
  exact unitZeros_any number name p q w hw hs hn
end Go.Proofs.YtojdneepnfcnjaaDoor
