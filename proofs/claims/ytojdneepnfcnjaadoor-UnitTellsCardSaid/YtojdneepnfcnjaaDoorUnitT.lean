/- The law UnitTells, walked. -/
import Derived.Test.YtojdneepnfcnjaaDoorUnitR
import Derived.Test.YtojdneepnfcnjaaDoorUnitS
import Derived.Deep.RegionHeld3
namespace Go.Proofs.YtojdneepnfcnjaaDoor
open Go.RowKit

/-- What the last comparison reads. -/
structure TK (w : World) (g0 g1 g2 : Nat) (w' : World) : Prop where
  below : Below w.heap.size w w'
  std : Std w'
  b0 : g0 < w'.heap.size
  b1 : g1 < w'.heap.size
  b2 : g2 < w'.heap.size
theorem keepS {w : World} {g0 g1 g2 : Nat} {x0 x1 y0 y1 z0 z1 : Value} {wa wb : World}
    (h : Hid (TK w g0 g1 g2 wa) ∧ wa.cell? ⟨g0, 0, none⟩ = some x0 ∧ wa.cell? ⟨g0, 1, none⟩ = some x1 ∧ wa.cell? ⟨g1, 0, none⟩ = some y0 ∧ wa.cell? ⟨g1, 1, none⟩ = some y1 ∧ wa.cell? ⟨g2, 0, none⟩ = some z0 ∧ wa.cell? ⟨g2, 1, none⟩ = some z1)
    (hb : Below wa.heap.size wa wb) :
    Hid (TK w g0 g1 g2 wb) ∧ wb.cell? ⟨g0, 0, none⟩ = some x0 ∧ wb.cell? ⟨g0, 1, none⟩ = some x1 ∧ wb.cell? ⟨g1, 0, none⟩ = some y0 ∧ wb.cell? ⟨g1, 1, none⟩ = some y1 ∧ wb.cell? ⟨g2, 0, none⟩ = some z0 ∧ wb.cell? ⟨g2, 1, none⟩ = some z1 := by
  obtain ⟨hk, h1, h2, h3, h4, h5, h6⟩ := h
  obtain ⟨k1, k2, k3, k4, k5⟩ := hk.out
  have hz := hb.size
  exact ⟨⟨k1.trans (hb.mono k1.size), k2.below hb, by omega, by omega, by omega⟩, (hb.cell (p := ⟨g0, 0, none⟩) k3).trans h1, (hb.cell (p := ⟨g0, 1, none⟩) k3).trans h2, (hb.cell (p := ⟨g1, 0, none⟩) k4).trans h3, (hb.cell (p := ⟨g1, 1, none⟩) k4).trans h4,
    (hb.cell (p := ⟨g2, 0, none⟩) k5).trans h5, (hb.cell (p := ⟨g2, 1, none⟩) k5).trans h6⟩
theorem belowS {w : World} {g0 g1 g2 : Nat} {wa : World} {p : Prop} (h : Hid (TK w g0 g1 g2 wa) ∧ p) : Below w.heap.size w wa := h.1.out.below
theorem stdS {w : World} {g0 g1 g2 : Nat} {wa : World} {p : Prop} (h : Hid (TK w g0 g1 g2 wa) ∧ p) : Std wa := h.1.out.std

set_option maxRecDepth 100000 in
set_option maxHeartbeats 1000000 in
theorem unitTells_any (number name : ByteArray) (n d : Int) (w : World) (hw : Std w) (hd0 : -9223372036854775808 ≤ d) (hd1 : d ≤ 9223372036854775807) :
    Calls Tryd.prog 3 #[.string number, .string name, .agg #[.int .i64 n, .int .i64 d]] w fun e w' => e = .returned (.bool true) ∧ Below w.heap.size w w' := by
  have HAW := Lib.hid (AW.new w n d)
  have HW := Lib.hid (hw.below HAW.out.below)
  clear hw
  by_cases h1 : number.size ≤ 100
  · have d1 : decide (100 < (number.size : Int)) = false := by simp; omega
    by_cases h2 : name.size ≤ 100
    · have d2 : decide (100 < (name.size : Int)) = false := by simp; omega
      have CA := Lib.hid (fun w hw => amountU_any number name w hw (by omega))
      have CB := Lib.hid (fun w => refAmount_any number name w (by omega))
      obtain ⟨A, hA⟩ : ∃ A, U.amountU number.data.toList name.data.toList = A := ⟨_, rfl⟩
      rw [hA] at CA CB
      obtain ⟨a1, a2, a3⟩ := A
      simp only at CA CB
      obtain ⟨s, hs⟩ : ∃ s, U.writeU n d = s := ⟨_, rfl⟩
      have CW := Lib.hid (write_at n d s hs hd0 hd1)
      have CR := Lib.hid (fun w => refWrite_any n d w hd0 hd1)
      rw [hs] at CR
      clear hA hs h1 h2
      go_enter Tryd.func3, Tryd.ntmps3
      go_wp2_with fail
      refine (small14_any _ HW.out).mono ?_
      rintro e w1 ⟨rfl, hb1⟩
      have HW1 := Lib.hid (HW.out.below hb1)
      have HAW1 := Lib.hid (HAW.out.keep hb1)
      clear HAW HW hb1
      go_wp2_with fail
      refine (CA.out _ HW1.out).mono ?_
      rintro e w2 ⟨rfl, hb2⟩
      have HAW2 := Lib.hid (HAW1.out.keep hb2)
      have HTa := Lib.hid (Two.new HAW2.out.below (by have := HAW2.out.size; omega) (.int .i64 a1) (.int .i64 a2) 23)
      have HAW3 := Lib.hid (HAW2.out.keep (alloc_below w2 (.cells #[.int .i64 a1, .int .i64 a2] 23)))
      have HW3 := Lib.hid ((HW1.out.below hb2).below (alloc_below w2 (.cells #[.int .i64 a1, .int .i64 a2] 23)))
      clear hb2 HW1 HAW1 HAW2
      go_wp2_with fail
      refine (CB.out _).mono ?_
      rintro e w4 ⟨rfl, hb4⟩
      have HW4 := Lib.hid ((HW3.out.below hb4).below (alloc_below w4 (.cells #[.int .i64 a1, .int .i64 a2] 23)))
      have HAW4 := Lib.hid (HAW3.out.keep hb4)
      have HTa4 := Lib.hid (HTa.out.keep (by have := HAW3.out.size; omega) hb4)
      have HTa5 := Lib.hid (HTa4.out.keep (by have := HAW4.out.size; omega) (alloc_below w4 (.cells #[.int .i64 a1, .int .i64 a2] 23)))
      have HTb := Lib.hid (Two.new HAW4.out.below (by have := HAW4.out.size; omega) (.int .i64 a1) (.int .i64 a2) 23)
      have HAW5 := Lib.hid (HAW4.out.keep (alloc_below w4 (.cells #[.int .i64 a1, .int .i64 a2] 23)))
      clear hb4 HW3 HAW3 HAW4 HTa HTa4
      have HS0 : Hid (Hid (TK w w.heap.size w2.heap.size w4.heap.size (w4.alloc (.cells #[.int .i64 a1, .int .i64 a2] 23))) ∧ (w4.alloc (.cells #[.int .i64 a1, .int .i64 a2] 23)).cell? ⟨w.heap.size, 0, none⟩ = some (.int .i64 n) ∧
          (w4.alloc (.cells #[.int .i64 a1, .int .i64 a2] 23)).cell? ⟨w.heap.size, 1, none⟩ = some (.int .i64 d) ∧ (w4.alloc (.cells #[.int .i64 a1, .int .i64 a2] 23)).cell? ⟨w2.heap.size, 0, none⟩ = some (.int .i64 a1) ∧
          (w4.alloc (.cells #[.int .i64 a1, .int .i64 a2] 23)).cell? ⟨w2.heap.size, 1, none⟩ = some (.int .i64 a2) ∧ (w4.alloc (.cells #[.int .i64 a1, .int .i64 a2] 23)).cell? ⟨w4.heap.size, 0, none⟩ = some (.int .i64 a1) ∧
          (w4.alloc (.cells #[.int .i64 a1, .int .i64 a2] 23)).cell? ⟨w4.heap.size, 1, none⟩ = some (.int .i64 a2)) := by
        obtain ⟨hbel, hsz, c0, c1⟩ := id HAW5.out
        obtain ⟨_, ha, ca0, ca1⟩ := id HTa5.out
        obtain ⟨_, hb, cb0, cb1⟩ := id HTb.out
        exact ⟨⟨hbel, HW4.out, hsz, ha, hb⟩, c0, c1, ca0, ca1, cb0, cb1⟩
      clear HW4 HAW5 HTa5 HTb
      go_wp2_with fail
      go_region_held3 (fun w' => Hid (TK w w.heap.size w2.heap.size w4.heap.size w') ∧ w'.cell? ⟨w.heap.size, 0, none⟩ = some (.int .i64 n) ∧ w'.cell? ⟨w.heap.size, 1, none⟩ = some (.int .i64 d) ∧ w'.cell? ⟨w2.heap.size, 0, none⟩ = some (.int .i64 a1) ∧ w'.cell? ⟨w2.heap.size, 1, none⟩ = some (.int .i64 a2) ∧
          w'.cell? ⟨w4.heap.size, 0, none⟩ = some (.int .i64 a1) ∧ w'.cell? ⟨w4.heap.size, 1, none⟩ = some (.int .i64 a2))
        (first | exact keepS HS0.out (below_drew _) | exact keepS (by assumption) (by assumption))
        (first | (go_at_call 11; refine (CW.out _ (stdS (by assumption))).mono ?_; rintro e w5 ⟨rfl, hb5⟩) | (go_at_call 12; refine (CR.out _).mono ?_; rintro e w6 ⟨rfl, hb6⟩))
      have HFIN : Hid (Below w.heap.size w w6) := belowS (g0 := w.heap.size) (g1 := w2.heap.size) (g2 := w4.heap.size) (by assumption)
      clear HS0
      go_wp2_with fail
      go_ret
      exact ⟨rfl, HFIN.out⟩
    · have d2 : decide (100 < (name.size : Int)) = true := by simp; omega
      clear h1 h2
      go_enter Tryd.func3, Tryd.ntmps3
      go_wp2_with fail
      refine (small14_any _ HW.out).mono ?_
      rintro e w1 ⟨rfl, hb1⟩
      have HAW1 := Lib.hid (HAW.out.keep hb1)
      go_wp2_with fail
      go_ret
      exact ⟨rfl, HAW1.out.below⟩
  · have d1 : decide (100 < (number.size : Int)) = true := by simp; omega
    clear h1
    go_enter Tryd.func3, Tryd.ntmps3
    go_wp2_with fail
    refine (small14_any _ HW.out).mono ?_
    rintro e w1 ⟨rfl, hb1⟩
    have HAW1 := Lib.hid (HAW.out.keep hb1)
    go_wp2_with fail
    go_ret
    exact ⟨rfl, HAW1.out.below⟩
theorem unitTells_all (number name : ByteArray) (n d : Int) (w : World) (hw : Std w) (hd : -9223372036854775808 ≤ d ∧ d ≤ 9223372036854775807) :
    Calls Tryd.prog 3 #[.string number, .string name, .agg #[.int .i64 n, .int .i64 d]] w fun e w' => e = .returned (.bool true) ∧ Below w.heap.size w w' :=
  unitTells_any number name n d w hw hd.1 hd.2
end Go.Proofs.YtojdneepnfcnjaaDoor
