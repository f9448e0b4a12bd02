/- The reference's Base, by contract; the law UnitBack's walk. -/
import Derived.Test.YtojdneepnfcnjaaDoorUnitE
import Derived.Test.YtojdneepnfcnjaaDoorUMath2
namespace Go.Proofs.YtojdneepnfcnjaaDoor
open Go.RowKit

def baseRow : Array Value := #[.string ⟨#[]⟩, .string ⟨#[108]⟩, .string ⟨#[108, 112, 104]⟩, .string ⟨#[109, 109]⟩, .string ⟨#[104]⟩, .string ⟨#[109, 50]⟩, .string ⟨#[112, 101, 114, 109, 105, 108, 108, 101]⟩]
theorem base_row (k : Nat) (h : k < 7) : baseRow[k]? = some (.string ⟨((U.baseName (k : Int)).getD []).toArray⟩) ∧ (U.baseName (k : Int)).isSome = true := by
  match k, h with
  | 0, _ => exact ⟨by kernel_rfl, by decide +kernel⟩
  | 1, _ => exact ⟨by kernel_rfl, by decide +kernel⟩
  | 2, _ => exact ⟨by kernel_rfl, by decide +kernel⟩
  | 3, _ => exact ⟨by kernel_rfl, by decide +kernel⟩
  | 4, _ => exact ⟨by kernel_rfl, by decide +kernel⟩
  | 5, _ => exact ⟨by kernel_rfl, by decide +kernel⟩
  | 6, _ => exact ⟨by kernel_rfl, by decide +kernel⟩
theorem base_out (d : Int) (h : d < 0 ∨ 7 ≤ d) : U.baseName d = none := by
  refine U.baseName_none fun j hj => ?_
  have := (U.u_bounds j hj).2.2.2.2
  omega

set_option maxHeartbeats 1000000 in
theorem base_any (d : Int) (w : World) (hd0 : -9223372036854775808 ≤ d) (hd1 : d ≤ 9223372036854775807) :
    Calls Tryd.prog 13 #[.int .i64 d] w fun e w' => e = .returned (.tuple #[.string ⟨((U.baseName d).getD []).toArray⟩, .bool (U.baseName d).isSome]) ∧ Below w.heap.size w w' := by
  by_cases hr : d < 0 ∨ 7 ≤ d
  · have hf := base_out d hr
    have HF := Lib.hid hf
    clear hf
    rcases hr with h | h
    · have hb : decide (d < 0) = true := by simpa using h
      go_enter Tryd.func13, Tryd.ntmps13
      go_wp2_with fail
      go_ret2
      rw [HF.out]
      exact ⟨rfl, (Below.refl _ _).alloc (Nat.le_refl _) _⟩
    · have hb : decide (d < 0) = false := by simp; omega
      have hb2 : decide (7 ≤ d) = true := by simpa using h
      go_enter Tryd.func13, Tryd.ntmps13
      go_wp2_with fail
      go_ret2
      rw [HF.out]
      exact ⟨rfl, (Below.refl _ _).alloc (Nat.le_refl _) _⟩
  · obtain ⟨k, rfl⟩ := Int.eq_ofNat_of_zero_le (show 0 ≤ d by omega)
    have hk : k < 7 := by omega
    obtain ⟨h1, h2⟩ := base_row k hk
    have hc : (w.alloc (.cells baseRow 9)).cell? ⟨w.heap.size, k, none⟩ = some (.string ⟨((U.baseName (k : Int)).getD []).toArray⟩) := by
      rw [← h1]
      exact cell_of_row _ _ k _ _ (0, 0) (heap_alloc_new w _)
    unfold baseRow at hc
    obtain ⟨nm, hnm⟩ : ∃ nm, nm = (U.baseName (k : Int)).getD [] := ⟨_, rfl⟩
    rw [← hnm] at hc
    have HNM := Lib.hid hnm
    have H2 := Lib.hid h2
    clear h1 h2 hr hnm
    go_enter Tryd.func13, Tryd.ntmps13
    go_wp2_with fail
    go_ret2
    rw [H2.out, ← HNM.out]
    exact ⟨rfl, (Below.refl _ _).alloc (Nat.le_refl _) _⟩

theorem extract_all (b : ByteArray) : b.extract 0 b.size = b := by
  apply ByteArray.ext
  simp
theorem base_at (d : Int) (nm : List UInt8) (b : Bool) (h1 : (U.baseName d).getD [] = nm) (h2 : (U.baseName d).isSome = b) (hd0 : -9223372036854775808 ≤ d) (hd1 : d ≤ 9223372036854775807) (w : World) :
    Calls Tryd.prog 13 #[.int .i64 d] w fun e w' => e = .returned (.tuple #[.string ⟨nm.toArray⟩, .bool b]) ∧ Below w.heap.size w w' := by
  have c := base_any d w hd0 hd1
  rw [h1, h2] at c
  exact c

set_option maxRecDepth 100000 in
set_option maxHeartbeats 1000000 in
theorem unitBack_any (n d : Int) (w : World) (hw : Std w) (hd0 : -9223372036854775808 ≤ d) (hd1 : d ≤ 9223372036854775807) :
    Calls Tryd.prog 4 #[.agg #[.int .i64 n, .int .i64 d]] w fun e w' => e = .returned (.bool true) ∧ Below w.heap.size w w' := by
  obtain ⟨s, hs⟩ : ∃ s, U.writeU n d = s := ⟨_, rfl⟩
  have cw := write_at n d s hs hd0 hd1
  obtain ⟨sB, hsB⟩ : ∃ sB, sB = ByteArray.mk s.toArray := ⟨_, rfl⟩
  rw [← hsB] at cw
  have CW := Lib.hid cw
  have HSB := Lib.hid hsB
  clear cw hsB
  have haw := AW.new w n d
  have hw1 := hw.below haw.below
  have HAW := Lib.hid haw
  have HW := Lib.hid hw1
  clear haw hw1 hw
  obtain ⟨nm, hnm⟩ : ∃ nm, (U.baseName d).getD [] = nm := ⟨_, rfl⟩
  obtain ⟨b, hb⟩ : ∃ b, (U.baseName d).isSome = b := ⟨_, rfl⟩
  have CB := Lib.hid (base_at d nm b hnm hb hd0 hd1)
  have HS := Lib.hid hs
  have HNM := Lib.hid hnm
  have HB := Lib.hid hb
  clear hs hnm hb
  go_enter Tryd.func4, Tryd.ntmps4
  go_wp2_with fail
  refine (small14_any _ HW.out).mono ?_
  rintro e w1 ⟨rfl, hb1⟩
  have HW1 := Lib.hid (HW.out.below hb1)
  have HAW1 := Lib.hid (HAW.out.keep hb1)
  clear HAW HW hb1
  obtain ⟨hbel, hsz, c0, c1⟩ := id HAW1.out
  go_wp2_with fail
  refine (CW.out _ HW1.out).mono ?_
  rintro e w2 ⟨rfl, hb2⟩
  have HW2 := Lib.hid (HW1.out.below hb2)
  have HAW2 := Lib.hid (HAW1.out.keep hb2)
  clear HAW1 HW1 hb2 hbel hsz c0 c1
  obtain ⟨hbel, hsz, c0, c1⟩ := id HAW2.out
  go_wp2_with fail
  refine (CB.out _).mono ?_
  rintro e w3 ⟨rfl, hb3⟩
  have HW3 := Lib.hid (HW2.out.below hb3)
  have HAW3 := Lib.hid (HAW2.out.keep hb3)
  clear HAW2 HW2 hb3 hbel hsz c0 c1
  obtain ⟨hbel, hsz, c0, c1⟩ := id HAW3.out
  by_cases hbad : b = false ∨ n < 0 ∨ 1125899906842624 < n
  · have hse : s = [] := by
      rw [← HS.out]
      unfold U.writeU
      by_cases hr : n < 0 ∨ 1125899906842624 < n
      · rw [if_pos hr]
      · have hbf : b = false := hbad.resolve_right hr
        have hnn : U.baseName d = none := by
          cases hh : U.baseName d with
          | none => rfl
          | some x => have := HB.out; rw [hh, hbf] at this; cases this
        rw [if_neg hr, hnn]
    have hsE := HSB.out
    rw [hse] at hsE
    clear HS HSB hse
    subst hsE
    cases b with
    | false =>
      clear hbad
      go_wp2_with fail
      go_ret
      exact ⟨rfl, hbel⟩
    | true =>
      by_cases hneg : n < 0
      · have h1 : decide (n < 0) = true := by simpa using hneg
        clear hbad
        go_wp2_with fail
        go_ret
        exact ⟨rfl, hbel⟩
      · have h1 : decide (n < 0) = false := by simpa using hneg
        have h2 : decide (1125899906842624 < n) = true := by
          rcases hbad with h | h | h
          · cases h
          · exact absurd h hneg
          · simpa using h
        clear hbad hneg
        go_wp2_with fail
        go_ret
        exact ⟨rfl, hbel⟩
  · obtain ⟨hb1, hn0, hn1⟩ : b = true ∧ 0 ≤ n ∧ n ≤ 1125899906842624 := by
      refine ⟨?_, by omega, by omega⟩
      cases b with
      | true => rfl
      | false => exact absurd (Or.inl rfl) hbad
    clear hbad
    subst hb1
    have h1 : decide (n < 0) = false := by simp; omega
    have h2 : decide (1125899906842624 < n) = false := by simp; omega
    have hsome : U.baseName d = some nm := by
      cases hh : U.baseName d with
      | none => have := HB.out; rw [hh] at this; cases this
      | some x => have := HNM.out; rw [hh] at this; rw [← this]; rfl
    have hsv : s = if nm = [] then Lib.itoa n else Lib.itoa n ++ [32] ++ nm := by
      rw [← HS.out]
      unfold U.writeU
      rw [if_neg (by omega), hsome]
    have hnl := U.base_len d nm hsome
    have hba := U.back_amount n d nm hn0 hn1 hsome
    have hTl := itoa_len n hn0 hn1
    have hnat := U.itoa_nat n hn0
    obtain ⟨hall, hdv, hne, hh0⟩ := U.dec_all 15 n.toNat (U.dec_big _ (by omega))
    have hone : (Lib.itoa n).head? = some 48 → (Lib.itoa n).length = 1 := by
      intro h
      rw [hnat] at h ⊢
      rw [hh0 h]
      unfold Lib.decDigits
      rfl
    clear hdv hh0
    rw [← hnat] at hall hne
    generalize Lib.itoa n = T at hba hTl hsv hall hne hone
    have HBA := Lib.hid hba
    have CA := Lib.hid (amount_at T nm n d 0 hba (by omega))
    have HNE := Lib.hid hne
    have HONE := Lib.hid hone
    clear hba hnat hall hne hone HB HNM HS hsome
    have hTpos : 0 < T.length := List.length_pos_iff.2 HNE.out
    have hfirst : ∀ (sB : ByteArray) (r : List UInt8), sB = ByteArray.mk (T ++ r).toArray → ¬ T.length = 1 → ∀ h : 0 < sB.size, ((sB[0]'h).toNat : Int) = 48 → False := by
      intro sB r e h1 h h48
      subst e
      obtain ⟨c, q, hc⟩ := List.exists_cons_of_ne_nil HNE.out
      apply h1
      apply HONE.out
      rw [hc]
      have e2 : ((ByteArray.mk (T ++ r).toArray)[0]'h) = c := by
        show (T ++ r).toArray[0]'_ = c
        simp [hc]
      rw [e2] at h48
      have : c = 48 := by
        apply UInt8.toNat_inj.1
        show c.toNat = 48
        omega
      rw [this]
      rfl
    have HFI := Lib.hid hfirst
    clear hfirst
    by_cases hnm : nm = []
    · have hsT : s = T := by rw [hsv, if_pos hnm]
      subst hsT hnm
      clear hsv
      obtain ⟨L, hL⟩ : ∃ L, sB.size = L := ⟨_, rfl⟩
      have hLe : L = s.length := by rw [← hL, HSB.out]; rfl
      have hx : sB.extract 0 L = ByteArray.mk s.toArray := by rw [HSB.out, hLe]; exact extract_all _
      have HL := Lib.hid hLe
      have hL1 : 0 < L := by omega
      have hL2 : L ≤ 100 := by omega
      clear hLe
      by_cases hone : s.length = 1
      · have hl1 : ((L : Int) == 1) = true := by have := HL.out; simp; omega
        clear hone hTpos hTl
        go_wp2_with fail
        refine (CA.out _ HW3.out).mono ?_
        rintro e w4 ⟨rfl, hb4⟩
        have HAW4 := Lib.hid ((HAW3.out.keep hb4).keep (alloc_below w4 (.cells #[.int .i64 n, .int .i64 d] 23)))
        clear HAW3 hb4 hbel hsz c0 c1
        obtain ⟨hbel, hsz, c0, c1⟩ := id HAW4.out
        go_wp2_with fail
        all_goals
          go_ret
          exact ⟨rfl, hbel⟩
      · have HON := Lib.hid hone
        clear hone hTpos hTl
        go_wp2_with fail
        refine (CA.out _ HW3.out).mono ?_
        rintro e w4 ⟨rfl, hb4⟩
        have HAW4 := Lib.hid ((HAW3.out.keep hb4).keep (alloc_below w4 (.cells #[.int .i64 n, .int .i64 d] 23)))
        clear HAW3 hb4 hbel hsz c0 c1
        obtain ⟨hbel, hsz, c0, c1⟩ := id HAW4.out
        go_wp2_with fail
        · exfalso
          exact HFI.out sB [] (by rw [List.append_nil]; exact HSB.out) HON.out (by omega) (by assumption)
        · go_ret
          exact ⟨rfl, hbel⟩
    · have hsT : s = T ++ [32] ++ nm := by rw [hsv, if_neg hnm]
      have hnb : nm.isEmpty = false := by simpa using hnm
      obtain ⟨L, hL⟩ : ∃ L, sB.size = L := ⟨_, rfl⟩
      have hLe : L = T.length + nm.length + 1 := by rw [← hL, HSB.out, hsT]; show (T ++ [32] ++ nm).length = _; simp; omega
      have hx : sB.extract 0 (L - nm.length - 1) = ByteArray.mk T.toArray := by
        rw [HSB.out, show L - nm.length - 1 = T.length from by omega, hsT]
        apply ByteArray.ext
        simp
      have hx2 : sB.extract (L - nm.length - 1) L = ByteArray.mk (32 :: nm).toArray := by
        rw [HSB.out, show L - nm.length - 1 = T.length from by omega, hLe, hsT]
        apply U.ba_ext
        rw [Lib.extract_data]
        show List.take _ (List.drop T.length (T ++ [32] ++ nm)) = 32 :: nm
        rw [List.append_assoc, List.drop_left, List.take_of_length_le (by simp; omega)]
        rfl
      have hcat : (ByteArray.mk #[32] ++ ByteArray.mk nm.toArray) = ByteArray.mk (32 :: nm).toArray := by
        apply ByteArray.ext
        simp [ByteArray.data_append]
      have HL := Lib.hid hLe
      have hL1 : nm.length + 1 < L := by omega
      have hL2 : L ≤ 100 := by omega
      have HSB2 := Lib.hid (show sB = ByteArray.mk (T ++ (32 :: nm)).toArray by rw [HSB.out, hsT]; simp)
      clear hLe hsv hnm hsT HSB
      by_cases hone : T.length = 1
      · have hl1 : ((L : Int) - (nm.length : Int) - 1 == 1) = true := by have := HL.out; simp; omega
        clear hone hTpos hTl
        go_wp2_with fail
        refine (CA.out _ HW3.out).mono ?_
        rintro e w4 ⟨rfl, hb4⟩
        have HAW4 := Lib.hid ((HAW3.out.keep hb4).keep (alloc_below w4 (.cells #[.int .i64 n, .int .i64 d] 23)))
        clear HAW3 hb4 hbel hsz c0 c1
        obtain ⟨hbel, hsz, c0, c1⟩ := id HAW4.out
        go_wp2_with fail
        all_goals
          go_ret
          exact ⟨rfl, hbel⟩
      · have HON := Lib.hid hone
        clear hone hTpos hTl
        go_wp2_with fail
        refine (CA.out _ HW3.out).mono ?_
        rintro e w4 ⟨rfl, hb4⟩
        have HAW4 := Lib.hid ((HAW3.out.keep hb4).keep (alloc_below w4 (.cells #[.int .i64 n, .int .i64 d] 23)))
        clear HAW3 hb4 hbel hsz c0 c1
        obtain ⟨hbel, hsz, c0, c1⟩ := id HAW4.out
        go_wp2_with fail
        · exfalso
          exact HFI.out sB (32 :: nm) HSB2.out HON.out (by omega) (by assumption)
        · go_ret
          exact ⟨rfl, hbel⟩
end Go.Proofs.YtojdneepnfcnjaaDoor
