/- The law package's fixed example, and the reference's small functions, by contract. -/
import Derived.Test.YtojdneepnfcnjaaDoorUnitD
namespace Go.Proofs.YtojdneepnfcnjaaDoor
open Go.RowKit

theorem ex1 : U.amountU [49, 46, 53] [77, 76] = (1500000, 1, 0) := by decide +kernel
theorem ex2 : U.amountU [49] [77, 76, 112, 100] = (0, 0, 7) := by decide +kernel
theorem ex3 : U.amountU [49, 46] [108] = (0, 0, 2) := by decide +kernel
theorem ex4 : U.writeU 1500000 1 = [49, 53, 48, 48, 48, 48, 48, 32, 108] := by
  have h : U.baseName 1 = some [108] := by decide +kernel
  unfold U.writeU
  rw [if_neg (by decide), h]
  have e : Lib.itoa 1500000 = [49, 53, 48, 48, 48, 48, 48] := by
    unfold Lib.itoa
    rw [if_neg (by decide)]
    simp [Lib.decDigits]
  rw [e]
  rfl

theorem amount_at (l1 l2 : List UInt8) (n d e : Int) (h : U.amountU l1 l2 = (n, d, e)) (hl : l1.length ≤ 1000000) (w : World) (hw : Std w) :
    Calls Tryd.prog 9 #[.string ⟨l1.toArray⟩, .string ⟨l2.toArray⟩] w fun r w' => r = .returned (.tuple #[.agg #[.int .i64 n, .int .i64 d], .int .i64 e]) ∧ Below w.heap.size w w' := by
  have c := amountU_any ⟨l1.toArray⟩ ⟨l2.toArray⟩ w hw hl
  rw [show (ByteArray.mk l1.toArray).data.toList = l1 from rfl, show (ByteArray.mk l2.toArray).data.toList = l2 from rfl, h] at c
  exact c

theorem write_at (n d : Int) (l : List UInt8) (h : U.writeU n d = l) (hd0 : -9223372036854775808 ≤ d) (hd1 : d ≤ 9223372036854775807) (w : World) (hw : Std w) :
    Calls Tryd.prog 11 #[.agg #[.int .i64 n, .int .i64 d]] w fun r w' => r = .returned (.string ⟨l.toArray⟩) ∧ Below w.heap.size w w' := by
  have c := writeU_any n d w hw hd0 hd1
  rw [h] at c
  exact c

/-- Two cells of a block that lies below stay. -/
structure Two (B : Nat) (w : World) (g : Nat) (x y : Value) (wx : World) : Prop where
  below : Below B w wx
  size : g < wx.heap.size
  c0 : wx.cell? ⟨g, 0, none⟩ = some x
  c1 : wx.cell? ⟨g, 1, none⟩ = some y
theorem Two.keep {B : Nat} {w : World} {g : Nat} {x y : Value} {wx w' : World} (h : Two B w g x y wx) (hB : B ≤ wx.heap.size) (hb : Below wx.heap.size wx w') : Two B w g x y w' := by
  obtain ⟨hc, _⟩ := bcell hb
  exact ⟨h.below.trans (hb.mono hB), by have := hb.size; have := h.size; omega, (hc _ _ h.size).trans h.c0, (hc _ _ h.size).trans h.c1⟩
theorem Two.new {B : Nat} {w : World} {wx : World} (hb : Below B w wx) (hB : B ≤ wx.heap.size) (x y : Value) (t : TypeId) : Two B w wx.heap.size x y (wx.alloc (.cells #[x, y] t)) := by
  have h1 := heap_alloc_new wx (.cells #[x, y] t)
  exact ⟨hb.alloc hB _, by simp, cell_of_row _ _ 0 _ _ (0, 0) h1, cell_of_row _ _ 1 _ _ (0, 0) h1⟩
theorem alloc_below (w : World) (o : Obj) : Below w.heap.size w (w.alloc o) := (Below.refl _ _).alloc (Nat.le_refl _) o

set_option maxHeartbeats 1000000 in
theorem small14_any (w : World) (hw : Std w) : Calls Tryd.prog 8 #[] w fun e w' => e = .returned (.bool true) ∧ Below w.heap.size w w' := by
  have C1 := Lib.hid (amount_at _ _ _ _ _ ex1 (by decide))
  have C2 := Lib.hid (amount_at _ _ _ _ _ ex2 (by decide))
  have C3 := Lib.hid (amount_at _ _ _ _ _ ex3 (by decide))
  have C4 := Lib.hid (write_at _ _ _ ex4 (by decide) (by decide))
  have HW := Lib.hid hw
  clear hw
  go_enter Tryd.func8, Tryd.ntmps8
  go_wp2_with fail
  refine (C1.out _ HW.out).mono ?_
  rintro e w1 ⟨rfl, hb1⟩
  have HW1 := Lib.hid ((HW.out.below hb1).below (alloc_below w1 (.cells #[.int .i64 1500000, .int .i64 1] 23)))
  have hz1 := hb1.size
  have HT1 := Lib.hid (Two.new hb1 hb1.size (.int .i64 1500000) (.int .i64 1) 23)
  clear HW hb1
  go_wp2_with fail
  refine (C2.out _ HW1.out).mono ?_
  rintro e w2 ⟨rfl, hb2⟩
  have HW2 := Lib.hid ((HW1.out.below hb2).below (alloc_below w2 (.cells #[.int .i64 0, .int .i64 0] 23)))
  have hz2 := hb2.size
  rw [World.size_alloc] at hz2
  have HT2 := Lib.hid ((HT1.out.keep (by simp; omega) hb2).keep (by omega) (alloc_below w2 (.cells #[.int .i64 0, .int .i64 0] 23)))
  clear HW1 hb2 HT1
  go_wp2_with fail
  refine (C3.out _ HW2.out).mono ?_
  rintro e w3 ⟨rfl, hb3⟩
  have HW3 := Lib.hid ((HW2.out.below hb3).below (alloc_below w3 (.cells #[.int .i64 0, .int .i64 0] 23)))
  have hz3 := hb3.size
  rw [World.size_alloc] at hz3
  have HT3 := Lib.hid ((HT2.out.keep (by simp; omega) hb3).keep (by omega) (alloc_below w3 (.cells #[.int .i64 0, .int .i64 0] 23)))
  clear HW2 hb3 HT2
  obtain ⟨_, _, c0, c1⟩ := id HT3.out
  go_wp2_with fail
  refine (C4.out _ HW3.out).mono ?_
  rintro e w4 ⟨rfl, hb4⟩
  go_wp2_with fail
  go_ret
  exact ⟨rfl, HT3.out.below.trans (hb4.mono (by simp; omega))⟩
end Go.Proofs.YtojdneepnfcnjaaDoor
