/- The reference's Write, by contract. -/
import Derived.Test.YtojdneepnfcnjaaDoorUnitF
import Derived.Test.YtojdneepnfcnjaaDoorUnitG
namespace Go.Proofs.YtojdneepnfcnjaaDoor
open Go.RowKit

theorem base_len {d : Int} {nm : List UInt8} (h : U.baseName d = some nm) : nm.length ≤ 8 := by
  unfold U.baseName at h
  obtain ⟨u, hu, he⟩ := Option.map_eq_some_iff.1 h
  have hm := List.mem_of_find?_eq_some hu
  have t : ∀ u ∈ U.unitTab, u.1.length ≤ 8 := by decide +kernel
  have := t u hm
  rwa [he] at this

set_option maxRecDepth 100000 in
set_option maxHeartbeats 1000000 in
theorem refWrite_any (n d : Int) (w : World) (hd0 : -9223372036854775808 ≤ d) (hd1 : d ≤ 9223372036854775807) :
    Calls Tryd.prog 12 #[.agg #[.int .i64 n, .int .i64 d]] w fun e w' => e = .returned (.string ⟨(U.writeU n d).toArray⟩) ∧ Below w.heap.size w w' := by
  obtain ⟨s, hs⟩ : ∃ s, U.writeU n d = s := ⟨_, rfl⟩
  rw [hs]
  have HAW := Lib.hid (AW.new w n d)
  obtain ⟨nm, hnm⟩ : ∃ nm, (U.baseName d).getD [] = nm := ⟨_, rfl⟩
  obtain ⟨b, hb⟩ : ∃ b, (U.baseName d).isSome = b := ⟨_, rfl⟩
  have CB := Lib.hid (base_at d nm b hnm hb hd0 hd1)
  cases b with
  | false =>
    have hbn : U.baseName d = none := by cases h : U.baseName d with
      | none => rfl
      | some x => rw [h] at hb; cases hb
    have hs0 : s = [] := by
      rw [← hs]; unfold U.writeU; rw [hbn]; split <;> rfl
    have HS0 := Lib.hid hs0
    clear hs hnm hb hbn hs0
    go_enter Tryd.func12, Tryd.ntmps12
    go_wp2_with fail
    refine (CB.out _).mono ?_
    rintro e w1 ⟨rfl, hb1⟩
    have HAW1 := Lib.hid (HAW.out.keep hb1)
    clear HAW hb1
    obtain ⟨hbel, hsz, c0, c1⟩ := id HAW1.out
    go_wp2_with fail
    go_ret
    exact ⟨ret_str (by rw [HS0.out]), hbel⟩
  | true =>
    have hbn : U.baseName d = some nm := by cases h : U.baseName d with
      | none => rw [h] at hb; cases hb
      | some x => rw [h] at hnm; rw [← hnm]; rfl
    by_cases h1 : n < 0
    · have d1 : decide (n < 0) = true := by simpa using h1
      have hs0 : s = [] := by rw [← hs]; unfold U.writeU; rw [if_pos (.inl h1)]
      have HS0 := Lib.hid hs0
      clear hs hnm hb hbn hs0 h1
      go_enter Tryd.func12, Tryd.ntmps12
      go_wp2_with fail
      refine (CB.out _).mono ?_
      rintro e w1 ⟨rfl, hb1⟩
      have HAW1 := Lib.hid (HAW.out.keep hb1)
      clear HAW hb1
      obtain ⟨hbel, hsz, c0, c1⟩ := id HAW1.out
      go_wp2_with fail
      go_ret
      exact ⟨ret_str (by rw [HS0.out]), hbel⟩
    · have d1 : decide (n < 0) = false := by simpa using h1
      by_cases h2 : 1125899906842624 < n
      · have d2 : decide (1125899906842624 < n) = true := by simpa using h2
        have hs0 : s = [] := by rw [← hs]; unfold U.writeU; rw [if_pos (.inr h2)]
        have HS0 := Lib.hid hs0
        clear hs hnm hb hbn hs0 h1 h2
        go_enter Tryd.func12, Tryd.ntmps12
        go_wp2_with fail
        refine (CB.out _).mono ?_
        rintro e w1 ⟨rfl, hb1⟩
        have HAW1 := Lib.hid (HAW.out.keep hb1)
        clear HAW hb1
        obtain ⟨hbel, hsz, c0, c1⟩ := id HAW1.out
        go_wp2_with fail
        go_ret
        exact ⟨ret_str (by rw [HS0.out]), hbel⟩
      · obtain ⟨m, rfl⟩ := Int.eq_ofNat_of_zero_le (show 0 ≤ n by omega)
        have d2 : decide (1125899906842624 < (m : Int)) = false := by simpa using h2
        have hm : (m : Int) ≤ 1125899906842624 := by omega
        have hs0 : s = if nm = [] then Lib.decDigits m else Lib.decDigits m ++ [32] ++ nm := by
          rw [← hs]
          unfold U.writeU
          rw [if_neg (by omega), hbn]
          simp only
          rw [U.itoa_nat _ (by omega), Int.toNat_natCast]
        have HS0 := Lib.hid hs0
        have HD := Lib.hid (digitsR_any m hm)
        have hl8 := base_len hbn
        have hl16 := U.dec_len 15 m (by omega)
        obtain ⟨T, hT⟩ : ∃ T, Lib.decDigits m = T := ⟨_, rfl⟩
        rw [hT] at HS0 HD hl16
        clear hs hnm hb hbn hs0 h1 h2 hT
        by_cases hnb : nm = []
        · have e1 : nm.isEmpty = true := by rw [hnb]; rfl
          have HNB := Lib.hid hnb
          clear hnb
          go_enter Tryd.func12, Tryd.ntmps12
          go_wp2_with fail
          refine (CB.out _).mono ?_
          rintro e w1 ⟨rfl, hb1⟩
          have HAW1 := Lib.hid (HAW.out.keep hb1)
          clear HAW hb1
          obtain ⟨hbel, hsz, c0, c1⟩ := id HAW1.out
          go_wp2_with fail
          refine (HD.out _).mono ?_
          rintro e w2 ⟨rfl, hb2⟩
          have HAW2 := Lib.hid (HAW1.out.keep hb2)
          clear HAW1 hb2 hbel hsz c0 c1
          go_wp2_with fail
          go_ret
          exact ⟨ret_str (by rw [HS0.out, if_pos HNB.out]), HAW2.out.below⟩
        · have e1 : nm.isEmpty = false := by simpa using hnb
          have HNB := Lib.hid hnb
          clear hnb
          go_enter Tryd.func12, Tryd.ntmps12
          go_wp2_with fail
          refine (CB.out _).mono ?_
          rintro e w1 ⟨rfl, hb1⟩
          have HAW1 := Lib.hid (HAW.out.keep hb1)
          clear HAW hb1
          obtain ⟨hbel, hsz, c0, c1⟩ := id HAW1.out
          go_wp2_with fail
          refine (HD.out _).mono ?_
          rintro e w2 ⟨rfl, hb2⟩
          have HAW2 := Lib.hid (HAW1.out.keep hb2)
          clear HAW1 hb2 hbel hsz c0 c1
          go_wp2_with fail
          go_ret
          exact ⟨ret_str (by rw [HS0.out, if_neg HNB.out]; exact cat3 _ _), HAW2.out.below⟩
end Go.Proofs.YtojdneepnfcnjaaDoor
