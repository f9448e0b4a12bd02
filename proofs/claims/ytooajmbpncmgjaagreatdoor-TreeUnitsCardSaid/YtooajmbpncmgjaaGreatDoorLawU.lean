/- Layer 15's law TreeUnits, by contract. -/
import Derived.Test.YtooajmbpncmgjaaGreatDoorLawF
import Derived.Test.YtooajmbpncmgjaaGreatDoorRound
import Derived.Deep.QuietTactic
import Derived.BigQuiet
namespace Go.Proofs.YtooajmbpncmgjaaGreatDoor
open Go.RowKit

theorem src_list (x y : ByteArray) : (ByteArray.mk #[120, 32, 123, 32, 121, 32] ++ x ++ ByteArray.mk #[32] ++ y ++ ByteArray.mk #[59, 32, 125]).data.toList = unitSrc x.data.toList y.data.toList := by simp [unitSrc]
theorem unit_size (x y : ByteArray) (hx : x.size ≤ 24) (hy : y.size ≤ 24) : (unitSrc x.data.toList y.data.toList).length ≤ 65536 := by
  have h2 : x.data.toList.length = x.size := rfl
  have h3 : y.data.toList.length = y.size := rfl
  unfold unitSrc
  simp only [List.length_append, List.length_cons, List.length_nil]
  omega
theorem src_size (x y : ByteArray) (hx : x.size ≤ 24) (hy : y.size ≤ 24) : (ByteArray.mk #[120, 32, 123, 32, 121, 32] ++ x ++ ByteArray.mk #[32] ++ y ++ ByteArray.mk #[59, 32, 125]).size ≤ maxLen := by
  have h1 : (ByteArray.mk #[120, 32, 123, 32, 121, 32] ++ x ++ ByteArray.mk #[32] ++ y ++ ByteArray.mk #[59, 32, 125]).size = (ByteArray.mk #[120, 32, 123, 32, 121, 32] ++ x ++ ByteArray.mk #[32] ++ y ++ ByteArray.mk #[59, 32, 125]).data.toList.length := rfl
  rw [h1, src_list]
  have h2 : x.data.toList.length = x.size := rfl
  have h3 : y.data.toList.length = y.size := rfl
  unfold unitSrc maxLen
  simp only [List.length_append, List.length_cons, List.length_nil]
  omega
set_option maxRecDepth 100000 in
set_option maxHeartbeats 4000000 in
theorem units_long (x y : ByteArray) (w : World) (hw : Std w) (hl : 24 < x.size ∨ 24 < y.size) :
    Calls Tryz.prog 6 #[.string x, .string y] w fun e w' => e = .returned (.bool true) ∧ Below w.heap.size w w' := by
  have SM := Lib.hid small_any
  have HW := Lib.hid hw
  clear hw
  by_cases hx : 24 < x.size
  case pos =>
    have l1 : (24 : Int) < (x.size : Nat) := by omega
    clear hl
    go_enter Tryz.func6, Tryz.ntmps6
    go_wp2_with fail
    refine (SM.out w HW.out).mono ?_
    rintro e w1 ⟨rfl, hb1⟩
    have HB1 := Lib.hid hb1
    clear hb1
    go_wp2_with fail
    go_ret
    exact ⟨rfl, HB1.out⟩
  case neg =>
    have l1 : ¬ (24 : Int) < (x.size : Nat) := by omega
    have l2 : (24 : Int) < (y.size : Nat) := by omega
    clear hl
    go_enter Tryz.func6, Tryz.ntmps6
    go_wp2_with fail
    refine (SM.out w HW.out).mono ?_
    rintro e w1 ⟨rfl, hb1⟩
    have HB1 := Lib.hid hb1
    clear hb1
    go_wp2_with fail
    go_ret
    exact ⟨rfl, HB1.out⟩
set_option maxRecDepth 100000 in
set_option maxHeartbeats 4000000 in
theorem units_scan (x y : ByteArray) (w : World) (hw : Std w) (hx : x.size ≤ 24) (hy : y.size ≤ 24) {K : List L.Tok} {E P : Nat} (hsc : scanR (unitSrc x.data.toList y.data.toList) = (K, E, P)) (h : E ≠ 0 ∨ K.length ≠ 8) :
    Calls Tryz.prog 6 #[.string x, .string y] w fun e w' => e = .returned (.bool true) ∧ Below w.heap.size w w' := by
  have SM := Lib.hid small_any
  have SC := Lib.hid (scs_of (s := (ByteArray.mk #[120, 32, 123, 32, 121, 32] ++ x ++ ByteArray.mk #[32] ++ y ++ ByteArray.mk #[59, 32, 125])) (l := K) (a := E) (p := P) (by rw [src_list]; exact hsc) (src_size x y hx hy))
  have HW := Lib.hid hw
  have l1 : ¬ (24 : Int) < (x.size : Nat) := by omega
  have l2 : ¬ (24 : Int) < (y.size : Nat) := by omega
  have s1 : ¬ 9223372036854775807 < 6 + x.size := by omega
  have s2 : ¬ 9223372036854775807 < 6 + x.size + 1 := by omega
  have s3 : ¬ 9223372036854775807 < 6 + x.size + 1 + y.size := by omega
  have s4 : ¬ 9223372036854775807 < 6 + x.size + 1 + y.size + 3 := by omega
  by_cases hE : E = 0
  case neg =>
    have e1 : (((E : Nat) : Int) == 0) = false := by simp; omega
    have e2 : (((E : Nat) : Int) != 0) = true := by simp; omega
    clear hw hsc h
    go_enter Tryz.func6, Tryz.ntmps6
    go_wp2_with fail
    refine (SM.out w HW.out).mono ?_
    rintro e w1 ⟨rfl, hb1⟩
    have HB1 := Lib.hid hb1
    clear hb1
    go_wp2_with fail
    refine (SC.out _).mono ?_
    rintro e w2 ⟨v, o, c, _, rfl, _, hrow, hb2⟩
    have HB2 := Lib.hid (bl_trans HB1.out hb2)
    have HTR := Lib.hid hrow
    clear hb2 hrow
    go_wp2_with fail
    go_ret
    exact ⟨rfl, HB2.out⟩
  case pos =>
    subst hE
    have hK : K.length ≠ 8 := by omega
    have e1 : (((K.length : Nat) : Int) == 8) = false := by simp; omega
    have e2 : (((K.length : Nat) : Int) != 8) = true := by simp; omega
    clear hw hsc h hK
    go_enter Tryz.func6, Tryz.ntmps6
    go_wp2_with fail
    refine (SM.out w HW.out).mono ?_
    rintro e w1 ⟨rfl, hb1⟩
    have HB1 := Lib.hid hb1
    clear hb1
    go_wp2_with fail
    refine (SC.out _).mono ?_
    rintro e w2 ⟨v, o, c, _, rfl, _, hrow, hb2⟩
    have HB2 := Lib.hid (bl_trans HB1.out hb2)
    have HTR := Lib.hid hrow
    clear hb2 hrow
    go_wp2_with fail
    go_ret
    exact ⟨rfl, HB2.out⟩
set_option maxRecDepth 100000 in
set_option maxHeartbeats 4000000 in
theorem units_skip (x y : ByteArray) (w : World) (hw : Std w) (hx : x.size ≤ 24) (hy : y.size ≤ 24) {K : List L.Tok} (hsc : scanR (unitSrc x.data.toList y.data.toList) = (K, 0, 0)) (hK : K.length = 8) (k3 k4 : L.Tok) (hk3 : K[3]? = some k3) (hk4 : K[4]? = some k4) (h : ¬ (k3.kind = 1 ∧ k3.text = x.data.toList ∧ k4.kind = 0 ∧ k4.text = y.data.toList)) :
    Calls Tryz.prog 6 #[.string x, .string y] w fun e w' => e = .returned (.bool true) ∧ Below w.heap.size w w' := by
  have SM := Lib.hid small_any
  have SC := Lib.hid (scs_of (s := (ByteArray.mk #[120, 32, 123, 32, 121, 32] ++ x ++ ByteArray.mk #[32] ++ y ++ ByteArray.mk #[59, 32, 125])) (l := K) (a := 0) (p := 0) (by rw [src_list]; exact hsc) (src_size x y hx hy))
  have HW := Lib.hid hw
  have HK := Lib.hid hK
  have l1 : ¬ (24 : Int) < (x.size : Nat) := by omega
  have l2 : ¬ (24 : Int) < (y.size : Nat) := by omega
  have s1 : ¬ 9223372036854775807 < 6 + x.size := by omega
  have s2 : ¬ 9223372036854775807 < 6 + x.size + 1 := by omega
  have s3 : ¬ 9223372036854775807 < 6 + x.size + 1 + y.size := by omega
  have s4 : ¬ 9223372036854775807 < 6 + x.size + 1 + y.size + 3 := by omega
  have HK3 := Lib.hid hk3
  have HK4 := Lib.hid hk4
  rw [hK] at SC
  clear hw hsc hK hk3 hk4
  go_enter Tryz.func6, Tryz.ntmps6
  go_wp2_with fail
  refine (SM.out w HW.out).mono ?_
  rintro e w1 ⟨rfl, hb1⟩
  have HB1 := Lib.hid hb1
  clear hb1
  go_wp2_with fail
  refine (SC.out _).mono ?_
  rintro e w2 ⟨v, o, c, _, rfl, _, hrow, hb2⟩
  have HB2 := Lib.hid (bl_trans HB1.out hb2)
  have HTR := Lib.hid hrow
  clear hb2 hrow
  obtain ⟨tb, rfl, htb, t30, t31, _⟩ := HTR.out 3 (by have := HK.out; omega)
  obtain ⟨tb', e', _, t40, t41, _⟩ := HTR.out 4 (by have := HK.out; omega)
  obtain rfl : tb = tb' := by injection e' with e'; injection e'
  have e3 := (List.getElem?_eq_some_iff.1 HK3.out).2
  have e4 := (List.getElem?_eq_some_iff.1 HK4.out).2
  rw [e3, show 3 * 3 = 9 from rfl] at t30 t31
  rw [e4, show 4 * 3 = 12 from rfl] at t40 t41
  clear e' e3 e4
  by_cases c1 : k3.kind = 1
  · rw [c1] at t30
    by_cases c2 : k3.text = x.data.toList
    · have b2 : (k3.text == x.toList) = true := by rw [Lib.toList_data]; simpa using c2
      by_cases c3 : k4.kind = 0
      · have c4 : (k4.text == y.toList) = false := by rw [Lib.toList_data]; exact beq_eq_false_iff_ne.2 fun e => h ⟨c1, c2, c3, e⟩
        rw [c3] at t40
        clear h c1 c2 c3
        go_wp2_with fail
        go_ret
        exact ⟨rfl, HB2.out⟩
      · have b3 : (((k4.kind : Nat) : Int) == 0) = false := by simp; omega
        have b3' : (((k4.kind : Nat) : Int) != 0) = true := by simp; omega
        clear h c1 c2 c3
        go_wp2_with fail
        go_ret
        exact ⟨rfl, HB2.out⟩
    · have b2 : (k3.text == x.toList) = false := by rw [Lib.toList_data]; exact beq_eq_false_iff_ne.2 c2
      clear h c1 c2
      go_wp2_with fail
      go_ret
      exact ⟨rfl, HB2.out⟩
  · have b1 : (((k3.kind : Nat) : Int) == 1) = false := by simp; omega
    have b1' : (((k3.kind : Nat) : Int) != 1) = true := by simp; omega
    clear h c1
    go_wp2_with fail
    go_ret
    exact ⟨rfl, HB2.out⟩
theorem amount_of {x y : ByteArray} {n d e : Int} (h : U.amountU x.data.toList y.data.toList = (n, d, e)) (hx : x.size ≤ 24) (w : World) (hw : Std w) :
    Calls Tryz.prog 16 #[.string x, .string y] w fun e' w' => e' = .returned (.tuple #[.agg #[.int .i64 n, .int .i64 d], .int .i64 e]) ∧ Below w.heap.size w w' := by
  have := amountU_any x y w hw (by omega)
  rw [h] at this
  exact this
set_option maxRecDepth 100000 in
set_option maxHeartbeats 4000000 in
theorem units_err (x y : ByteArray) (w : World) (hw : Std w) (hx : x.size ≤ 24) (hy : y.size ≤ 24) (hfx : L.Fine 1 x.data.toList) (hfy : L.Fine 0 y.data.toList) {n1 d1 e1 : Int} (hA : U.amountU x.data.toList y.data.toList = (n1, d1, e1)) (he : e1 = 2 ∨ e1 = 7) (hp : parseS (unitSrc x.data.toList y.data.toList) = (Tr.zero, 7, 6)) :
    Calls Tryz.prog 6 #[.string x, .string y] w fun e w' => e = .returned (.bool true) ∧ Below w.heap.size w w' := by
  have l1 : ¬ (24 : Int) < (x.size : Nat) := by omega
  have l2 : ¬ (24 : Int) < (y.size : Nat) := by omega
  have s1 : ¬ 9223372036854775807 < 6 + x.size := by omega
  have s2 : ¬ 9223372036854775807 < 6 + x.size + 1 := by omega
  have s3 : ¬ 9223372036854775807 < 6 + x.size + 1 + y.size := by omega
  have s4 : ¬ 9223372036854775807 < 6 + x.size + 1 + y.size + 3 := by omega
  have SM := Lib.hid small_any
  have hsc := scanR_of (s := unitSrc x.data.toList y.data.toList) (unit_size x y hx hy) (unit_scan hfx hfy)
  have SC := Lib.hid (scs_of (s := (ByteArray.mk #[120, 32, 123, 32, 121, 32] ++ x ++ ByteArray.mk #[32] ++ y ++ ByteArray.mk #[59, 32, 125])) (l := unitToks x.data.toList y.data.toList ++ [⟨4, [], (unitSrc x.data.toList y.data.toList).length⟩]) (a := 0) (p := 0) (by rw [src_list]; exact hsc) (src_size x y hx hy))
  have HW := Lib.hid hw
  rw [show (unitToks x.data.toList y.data.toList ++ [(⟨4, [], (unitSrc x.data.toList y.data.toList).length⟩ : L.Tok)]).length = 8 from rfl] at SC
  have PC := Lib.hid (pcz_of (s := (ByteArray.mk #[120, 32, 123, 32, 121, 32] ++ x ++ ByteArray.mk #[32] ++ y ++ ByteArray.mk #[59, 32, 125])) (a := 7) (p := 6) (by rw [src_list]; exact hp) (src_size x y hx hy))
  have AC := Lib.hid (amount_of hA hx)
  clear hw hsc hp hA hfx hfy
  rcases he with rfl | rfl
  all_goals
    go_enter Tryz.func6, Tryz.ntmps6
    go_wp2_with fail
    refine (SM.out w HW.out).mono ?_
    rintro e w1 ⟨rfl, hb1⟩
    have HB1 := Lib.hid hb1
    clear hb1
    go_wp2_with fail
    refine (SC.out _).mono ?_
    rintro e w2 ⟨v, o, c, _, rfl, _, hrow, hb2⟩
    have HB2 := Lib.hid (bl_trans HB1.out hb2)
    have HTR := Lib.hid hrow
    clear hb2 hrow
    obtain ⟨tb, rfl, htb, t30, t31, _⟩ := HTR.out 3 (show 3 < 8 by decide)
    obtain ⟨tb', e', _, t40, t41, _⟩ := HTR.out 4 (show 4 < 8 by decide)
    obtain rfl : tb = tb' := by injection e' with e'; injection e'
    replace t30 : w2.cell? ⟨tb, 9, none⟩ = some (.int .i64 1) := t30
    replace t31 : w2.cell? ⟨tb, 10, none⟩ = some (.string ⟨x.data.toList.toArray⟩) := t31
    rw [show (⟨x.data.toList.toArray⟩ : ByteArray) = x from L.ba_ext (by simp)] at t31
    replace t40 : w2.cell? ⟨tb, 12, none⟩ = some (.int .i64 0) := t40
    replace t41 : w2.cell? ⟨tb, 13, none⟩ = some (.string ⟨y.data.toList.toArray⟩) := t41
    rw [show (⟨y.data.toList.toArray⟩ : ByteArray) = y from L.ba_ext (by simp)] at t41
    have b2 : (x.toList == x.toList) = true := by simp
    have b4 : (y.toList == y.toList) = true := by simp
    clear e'
    go_wp2_with fail
    refine (PC.out w2 (HW.out.below HB2.out)).mono ?_
    rintro e w3 ⟨o3, c3, d3, rfl, _, hb3⟩
    have HB3 := Lib.hid (bl_trans HB2.out (bl_trans hb3 ((Below.refl w3.heap.size w3).alloc (Nat.le_refl _) (.cells #[.int .i64 0, .string ⟨#[]⟩, .int .i64 0, .int .i64 0, .int .i64 0, .slice o3 0 c3] 26))))
    clear hb3
    go_wp2_with fail
    refine (AC.out _ (HW.out.below HB3.out)).mono ?_
    rintro e w4 ⟨rfl, hb4⟩
    have HB4 := Lib.hid (bl_trans HB3.out (bl_trans hb4 ((Below.refl w4.heap.size w4).alloc (Nat.le_refl _) (.cells #[.int .i64 n1, .int .i64 d1] 23))))
    clear hb4
    go_wp2_with fail
    go_ret
    exact ⟨rfl, HB4.out⟩

/-- What is read of the tree of one property. -/
theorem unit_nodes {w : World} {lim d c : Nat} {o : Option Addr} {l : List Tr.Tree} (h : NodeRd w lim d (.agg #[.int .i64 0, .string ⟨#[]⟩, .int .i64 0, .int .i64 0, .int .i64 0, .slice o 1 c]) ⟨0, [], 0, 0, 0, [⟨1, [120], 0, 0, 0, [⟨2, [121], 0, 0, 4, l⟩]⟩]⟩) :
    ∃ a0 a1 o2 c0 c1, o = some a0 ∧ (a0.block < lim ∧ a1.block < lim) ∧ w.cell? ⟨a0.block, a0.off + 5, none⟩ = some (.slice (some a1) 1 c0) ∧
      w.cell? a1 = some (.int .i64 2) ∧ w.cell? ⟨a1.block, a1.off + 1, none⟩ = some (.string ⟨#[121]⟩) ∧ w.cell? ⟨a1.block, a1.off + 2, none⟩ = some (.int .i64 0) ∧ w.cell? ⟨a1.block, a1.off + 3, none⟩ = some (.int .i64 0) ∧
      w.cell? ⟨a1.block, a1.off + 4, none⟩ = some (.int .i64 4) ∧ w.cell? ⟨a1.block, a1.off + 5, none⟩ = some (.slice o2 l.length c1) ∧
      NodeRd w lim (d - 1 - 1) (.agg #[.int .i64 2, .string ⟨#[121]⟩, .int .i64 0, .int .i64 0, .int .i64 4, .slice o2 l.length c1]) ⟨2, [121], 0, 0, 4, l⟩ := by
  obtain ⟨a0, o1, c1, rfl, h1⟩ := NodeRd.kid (t := ⟨0, [], 0, 0, 0, [⟨1, [120], 0, 0, 0, [⟨2, [121], 0, 0, 4, l⟩]⟩]⟩) h 0 (show 0 < 1 by decide)
  obtain ⟨a1, o2, c2, rfl, h2⟩ := NodeRd.kid (t := ⟨1, [120], 0, 0, 0, [⟨2, [121], 0, 0, 4, l⟩]⟩) h1.rd 0 (show 0 < 1 by decide)
  exact ⟨a0, a1, o2, c1, c2, rfl, ⟨h1.lt, h2.lt⟩, h1.c5, h2.c0, h2.c1, h2.c2, h2.c3, h2.c4, h2.c5, h2.rd⟩
set_option maxRecDepth 100000 in
set_option maxHeartbeats 4000000 in
theorem units_one (x y : ByteArray) (w : World) (hw : Std w) (hx : x.size ≤ 24) (hy : y.size ≤ 24) (hfx : L.Fine 1 x.data.toList) (hfy : L.Fine 0 y.data.toList) {n1 d1 : Int} (hA : U.amountU x.data.toList y.data.toList = (n1, d1, 0)) (hp : parseS (unitSrc x.data.toList y.data.toList) = (⟨0, [], 0, 0, 0, [⟨1, [120], 0, 0, 0, [⟨2, [121], 0, 0, 4, [⟨5, [], n1, d1, 6, []⟩]⟩]⟩]⟩, 0, 0)) :
    Calls Tryz.prog 6 #[.string x, .string y] w fun e w' => e = .returned (.bool true) ∧ Below w.heap.size w w' := by
  have l1 : ¬ (24 : Int) < (x.size : Nat) := by omega
  have l2 : ¬ (24 : Int) < (y.size : Nat) := by omega
  have s1 : ¬ 9223372036854775807 < 6 + x.size := by omega
  have s2 : ¬ 9223372036854775807 < 6 + x.size + 1 := by omega
  have s3 : ¬ 9223372036854775807 < 6 + x.size + 1 + y.size := by omega
  have s4 : ¬ 9223372036854775807 < 6 + x.size + 1 + y.size + 3 := by omega
  have SM := Lib.hid small_any
  have hsc := scanR_of (s := unitSrc x.data.toList y.data.toList) (unit_size x y hx hy) (unit_scan hfx hfy)
  have SC := Lib.hid (scs_of (s := (ByteArray.mk #[120, 32, 123, 32, 121, 32] ++ x ++ ByteArray.mk #[32] ++ y ++ ByteArray.mk #[59, 32, 125])) (l := unitToks x.data.toList y.data.toList ++ [⟨4, [], (unitSrc x.data.toList y.data.toList).length⟩]) (a := 0) (p := 0) (by rw [src_list]; exact hsc) (src_size x y hx hy))
  have HW := Lib.hid hw
  rw [show (unitToks x.data.toList y.data.toList ++ [(⟨4, [], (unitSrc x.data.toList y.data.toList).length⟩ : L.Tok)]).length = 8 from rfl] at SC
  have PC := Lib.hid (pcs_of (s := (ByteArray.mk #[120, 32, 123, 32, 121, 32] ++ x ++ ByteArray.mk #[32] ++ y ++ ByteArray.mk #[59, 32, 125])) (t := ⟨0, [], 0, 0, 0, [⟨1, [120], 0, 0, 0, [⟨2, [121], 0, 0, 4, [⟨5, [], n1, d1, 6, []⟩]⟩]⟩]⟩) (a := 0) (p := 0) (by rw [src_list]; exact hp) (src_size x y hx hy))
  have AC := Lib.hid (amount_of hA hx)
  clear hw hsc hp hA hfx hfy
  go_enter Tryz.func6, Tryz.ntmps6
  go_wp2_with fail
  refine (SM.out w HW.out).mono ?_
  rintro e w1 ⟨rfl, hb1⟩
  have HB1 := Lib.hid hb1
  clear hb1
  go_wp2_with fail
  refine (SC.out _).mono ?_
  rintro e w2 ⟨v, o, c, _, rfl, _, hrow, hb2⟩
  have HB2 := Lib.hid (bl_trans HB1.out hb2)
  have HTR := Lib.hid hrow
  clear hb2 hrow
  obtain ⟨tb, rfl, htb, t30, t31, _⟩ := HTR.out 3 (show 3 < 8 by decide)
  obtain ⟨tb', e', _, t40, t41, _⟩ := HTR.out 4 (show 4 < 8 by decide)
  obtain rfl : tb = tb' := by injection e' with e'; injection e'
  replace t30 : w2.cell? ⟨tb, 9, none⟩ = some (.int .i64 1) := t30
  replace t31 : w2.cell? ⟨tb, 10, none⟩ = some (.string ⟨x.data.toList.toArray⟩) := t31
  rw [show (⟨x.data.toList.toArray⟩ : ByteArray) = x from L.ba_ext (by simp)] at t31
  replace t40 : w2.cell? ⟨tb, 12, none⟩ = some (.int .i64 0) := t40
  replace t41 : w2.cell? ⟨tb, 13, none⟩ = some (.string ⟨y.data.toList.toArray⟩) := t41
  rw [show (⟨y.data.toList.toArray⟩ : ByteArray) = y from L.ba_ext (by simp)] at t41
  have b2 : (x.toList == x.toList) = true := by simp
  have b4 : (y.toList == y.toList) = true := by simp
  clear e'
  go_wp2_with fail
  refine (PC.out w2 (HW.out.below HB2.out)).mono ?_
  rintro e w3 ⟨o3, c3, d3, rfl, hr3, hb3⟩
  have HR3 := Lib.hid hr3
  have HB3 := Lib.hid (bl_trans HB2.out (bl_trans hb3 ((Below.refl w3.heap.size w3).alloc (Nat.le_refl _) (.cells #[.int .i64 0, .string ⟨#[]⟩, .int .i64 0, .int .i64 0, .int .i64 0, .slice o3 1 c3] 26))))
  clear hb3 hr3
  go_wp2_with fail
  refine (AC.out _ (HW.out.below HB3.out)).mono ?_
  rintro e w4 ⟨rfl, hb4⟩
  have hx4 := Boxed.of hb4
  have hr4 := HR3.out.kept hx4.all
  obtain ⟨a0, a1, o2, g0, g1, e0, ⟨la0, la1⟩, f0, f1, f2, f3, f4, f5, f6, hr5⟩ := unit_nodes hr4
  obtain ⟨a2, o5, c5, e2, h5⟩ := NodeRd.kid (t := ⟨2, [121], 0, 0, 4, [⟨5, [], n1, d1, 6, []⟩]⟩) hr5 0 (show 0 < 1 by decide)
  subst e0
  subst e2
  have la2 := h5.lt
  have v0 : w4.cell? ⟨a2.block, a2.off + 2, none⟩ = some (.int .i64 n1) := h5.c2
  have v1 : w4.cell? ⟨a2.block, a2.off + 3, none⟩ = some (.int .i64 d1) := h5.c3
  have v2 : w4.cell? ⟨a2.block, a2.off + 4, none⟩ = some (.int .i64 6) := h5.c4
  obtain ⟨q0, q1, q2, q3, q4, q5⟩ := cells6 hx4.row
  have hz4 : w3.heap.size < w4.heap.size := hx4.size
  have z0 : a0.block < w4.heap.size := by omega
  have z1 : a1.block < w4.heap.size := by omega
  have z2 : a2.block < w4.heap.size := by omega
  have z0a : a0.block < w4.heap.size + 1 := by omega
  have z1a : a1.block < w4.heap.size + 1 := by omega
  have z2a : a2.block < w4.heap.size + 1 := by omega
  have hz4a : w3.heap.size < w4.heap.size + 1 := by omega
  have HB4 := Lib.hid (bl_trans HB3.out hb4)
  clear hb4 hx4 hr4 hr5 h5
  go_wp2_with fail
  go_quiet (fail)
  go_wp2_with fail
  go_ret
  exact ⟨rfl, bl_trans HB4.out (bl_trans ((Below.refl _ _).alloc (Nat.le_refl _) _) (bl_trans ((Below.refl _ _).alloc (Nat.le_refl _) _) ⟨rfl, rfl, rfl, Nat.le_refl _, fun _ _ => rfl⟩))⟩
set_option maxRecDepth 100000 in
set_option maxHeartbeats 4000000 in
theorem units_err2 (x y : ByteArray) (w : World) (hw : Std w) (hx : x.size ≤ 24) (hy : y.size ≤ 24) (hfx : L.Fine 1 x.data.toList) (hfy : L.Fine 0 y.data.toList) {n1 d1 n2 d2 e2 : Int} (hA : U.amountU x.data.toList y.data.toList = (n1, d1, 6)) (hB : U.amountU x.data.toList [] = (n2, d2, e2)) (he : e2 = 2 ∨ e2 = 7 ∨ e2 = 6) (hp : parseS (unitSrc x.data.toList y.data.toList) = (Tr.zero, 7, 6)) :
    Calls Tryz.prog 6 #[.string x, .string y] w fun e w' => e = .returned (.bool true) ∧ Below w.heap.size w w' := by
  have l1 : ¬ (24 : Int) < (x.size : Nat) := by omega
  have l2 : ¬ (24 : Int) < (y.size : Nat) := by omega
  have s1 : ¬ 9223372036854775807 < 6 + x.size := by omega
  have s2 : ¬ 9223372036854775807 < 6 + x.size + 1 := by omega
  have s3 : ¬ 9223372036854775807 < 6 + x.size + 1 + y.size := by omega
  have s4 : ¬ 9223372036854775807 < 6 + x.size + 1 + y.size + 3 := by omega
  have SM := Lib.hid small_any
  have hsc := scanR_of (s := unitSrc x.data.toList y.data.toList) (unit_size x y hx hy) (unit_scan hfx hfy)
  have SC := Lib.hid (scs_of (s := (ByteArray.mk #[120, 32, 123, 32, 121, 32] ++ x ++ ByteArray.mk #[32] ++ y ++ ByteArray.mk #[59, 32, 125])) (l := unitToks x.data.toList y.data.toList ++ [⟨4, [], (unitSrc x.data.toList y.data.toList).length⟩]) (a := 0) (p := 0) (by rw [src_list]; exact hsc) (src_size x y hx hy))
  have HW := Lib.hid hw
  rw [show (unitToks x.data.toList y.data.toList ++ [(⟨4, [], (unitSrc x.data.toList y.data.toList).length⟩ : L.Tok)]).length = 8 from rfl] at SC
  have PC := Lib.hid (pcz_of (s := (ByteArray.mk #[120, 32, 123, 32, 121, 32] ++ x ++ ByteArray.mk #[32] ++ y ++ ByteArray.mk #[59, 32, 125])) (a := 7) (p := 6) (by rw [src_list]; exact hp) (src_size x y hx hy))
  have AC := Lib.hid (amount_of hA hx)
  have AC2 := Lib.hid (amount_of (y := ⟨#[]⟩) hB hx)
  clear hw hsc hp hA hB hfx hfy
  rcases he with rfl | rfl | rfl
  all_goals
    go_enter Tryz.func6, Tryz.ntmps6
    go_wp2_with fail
    refine (SM.out w HW.out).mono ?_
    rintro e w1 ⟨rfl, hb1⟩
    have HB1 := Lib.hid hb1
    clear hb1
    go_wp2_with fail
    refine (SC.out _).mono ?_
    rintro e w2 ⟨v, o, c, _, rfl, _, hrow, hb2⟩
    have HB2 := Lib.hid (bl_trans HB1.out hb2)
    have HTR := Lib.hid hrow
    clear hb2 hrow
    obtain ⟨tb, rfl, htb, t30, t31, _⟩ := HTR.out 3 (show 3 < 8 by decide)
    obtain ⟨tb', e', _, t40, t41, _⟩ := HTR.out 4 (show 4 < 8 by decide)
    obtain rfl : tb = tb' := by injection e' with e'; injection e'
    replace t30 : w2.cell? ⟨tb, 9, none⟩ = some (.int .i64 1) := t30
    replace t31 : w2.cell? ⟨tb, 10, none⟩ = some (.string ⟨x.data.toList.toArray⟩) := t31
    rw [show (⟨x.data.toList.toArray⟩ : ByteArray) = x from L.ba_ext (by simp)] at t31
    replace t40 : w2.cell? ⟨tb, 12, none⟩ = some (.int .i64 0) := t40
    replace t41 : w2.cell? ⟨tb, 13, none⟩ = some (.string ⟨y.data.toList.toArray⟩) := t41
    rw [show (⟨y.data.toList.toArray⟩ : ByteArray) = y from L.ba_ext (by simp)] at t41
    have b2 : (x.toList == x.toList) = true := by simp
    have b4 : (y.toList == y.toList) = true := by simp
    clear e'
    go_wp2_with fail
    refine (PC.out w2 (HW.out.below HB2.out)).mono ?_
    rintro e w3 ⟨o3, c3, d3, rfl, _, hb3⟩
    have HB3 := Lib.hid (bl_trans HB2.out (bl_trans hb3 ((Below.refl w3.heap.size w3).alloc (Nat.le_refl _) (.cells #[.int .i64 0, .string ⟨#[]⟩, .int .i64 0, .int .i64 0, .int .i64 0, .slice o3 0 c3] 26))))
    clear hb3
    go_wp2_with fail
    refine (AC.out _ (HW.out.below HB3.out)).mono ?_
    rintro e w4 ⟨rfl, hb4⟩
    have HB4 := Lib.hid (bl_trans HB3.out hb4)
    clear hb4
    go_wp2_with fail
    refine (AC2.out _ (HW.out.below (bl_trans HB4.out ((Below.refl w4.heap.size w4).alloc (Nat.le_refl _) (.cells #[.int .i64 n1, .int .i64 d1] 23))))).mono ?_
    rintro e w5 ⟨rfl, hb5⟩
    have hx5 := Boxed.of hb5
    have HAM := Lib.hid hx5.row
    have HX5 := Lib.hid hx5
    have HB5 := Lib.hid (bl_trans HB4.out hx5.all)
    have HSZ5 : Hid (w4.heap.size < w5.heap.size) := Lib.hid hx5.size
    clear hb5 hx5
    go_wp2_with (
      (with_reducible refine wpList_at ⟨none, .store 23 (.tmp 13) (.tmp 93), _, _, _, _⟩ ?_)
      go_must (refine wpList_store_box rfl 23 (.tmp 13) (.tmp 93) rfl w4.heap.size #[.int .i64 n2, .int .i64 d2] rfl rfl 23 _ HAM.out (by kernel_rfl) rfl (by simp [Value.oneCell']) ?_)
      intro w6 hg6 hr6
      have HB6 : Hid (Below w4.heap.size w5 w6) := Lib.hid ⟨hg6.os, hg6.tape, hg6.output, hg6.size, fun k hk => hg6.block k (by have := HSZ5.out; omega) (fun e => by cases e; omega)⟩
      have HZ6 : Hid (w5.heap.size ≤ w6.heap.size) := Lib.hid hg6.size
      have HR6 := Lib.hid hr6
      have HB06 := Lib.hid (HB5.out.trans (HB6.out.mono (by have := HB4.out.size; omega)))
      clear hg6 hr6
    )
    go_ret
    exact ⟨rfl, HB06.out⟩
set_option maxRecDepth 100000 in
set_option maxHeartbeats 4000000 in
theorem units_two (x y : ByteArray) (w : World) (hw : Std w) (hx : x.size ≤ 24) (hy : y.size ≤ 24) (hfx : L.Fine 1 x.data.toList) (hfy : L.Fine 0 y.data.toList) {n1 d1 n2 d2 : Int} (hA : U.amountU x.data.toList y.data.toList = (n1, d1, 6)) (hB : U.amountU x.data.toList [] = (n2, d2, 0)) (hp : parseS (unitSrc x.data.toList y.data.toList) = (⟨0, [], 0, 0, 0, [⟨1, [120], 0, 0, 0, [⟨2, [121], 0, 0, 4, [⟨5, [], n2, d2, 6, []⟩, ⟨3, y.data.toList, 0, 0, ((7 + x.data.toList.length : Nat) : Int), []⟩]⟩]⟩]⟩, 0, 0)) :
    Calls Tryz.prog 6 #[.string x, .string y] w fun e w' => e = .returned (.bool true) ∧ Below w.heap.size w w' := by
  have l1 : ¬ (24 : Int) < (x.size : Nat) := by omega
  have l2 : ¬ (24 : Int) < (y.size : Nat) := by omega
  have s1 : ¬ 9223372036854775807 < 6 + x.size := by omega
  have s2 : ¬ 9223372036854775807 < 6 + x.size + 1 := by omega
  have s3 : ¬ 9223372036854775807 < 6 + x.size + 1 + y.size := by omega
  have s4 : ¬ 9223372036854775807 < 6 + x.size + 1 + y.size + 3 := by omega
  have SM := Lib.hid small_any
  have hsc := scanR_of (s := unitSrc x.data.toList y.data.toList) (unit_size x y hx hy) (unit_scan hfx hfy)
  have SC := Lib.hid (scs_of (s := (ByteArray.mk #[120, 32, 123, 32, 121, 32] ++ x ++ ByteArray.mk #[32] ++ y ++ ByteArray.mk #[59, 32, 125])) (l := unitToks x.data.toList y.data.toList ++ [⟨4, [], (unitSrc x.data.toList y.data.toList).length⟩]) (a := 0) (p := 0) (by rw [src_list]; exact hsc) (src_size x y hx hy))
  have HW := Lib.hid hw
  rw [show (unitToks x.data.toList y.data.toList ++ [(⟨4, [], (unitSrc x.data.toList y.data.toList).length⟩ : L.Tok)]).length = 8 from rfl] at SC
  have PC := Lib.hid (pcs_of (s := (ByteArray.mk #[120, 32, 123, 32, 121, 32] ++ x ++ ByteArray.mk #[32] ++ y ++ ByteArray.mk #[59, 32, 125])) (t := ⟨0, [], 0, 0, 0, [⟨1, [120], 0, 0, 0, [⟨2, [121], 0, 0, 4, [⟨5, [], n2, d2, 6, []⟩, ⟨3, y.data.toList, 0, 0, ((7 + x.data.toList.length : Nat) : Int), []⟩]⟩]⟩]⟩) (a := 0) (p := 0) (by rw [src_list]; exact hp) (src_size x y hx hy))
  have AC := Lib.hid (amount_of hA hx)
  have AC2 := Lib.hid (amount_of (y := ⟨#[]⟩) hB hx)
  clear hw hsc hp hA hB hfx hfy
  go_enter Tryz.func6, Tryz.ntmps6
  go_wp2_with fail
  refine (SM.out w HW.out).mono ?_
  rintro e w1 ⟨rfl, hb1⟩
  have HB1 := Lib.hid hb1
  clear hb1
  go_wp2_with fail
  refine (SC.out _).mono ?_
  rintro e w2 ⟨v, o, c, _, rfl, _, hrow, hb2⟩
  have HB2 := Lib.hid (bl_trans HB1.out hb2)
  have HTR := Lib.hid hrow
  clear hb2 hrow
  obtain ⟨tb, rfl, htb, t30, t31, _⟩ := HTR.out 3 (show 3 < 8 by decide)
  obtain ⟨tb', e', _, t40, t41, _⟩ := HTR.out 4 (show 4 < 8 by decide)
  obtain rfl : tb = tb' := by injection e' with e'; injection e'
  replace t30 : w2.cell? ⟨tb, 9, none⟩ = some (.int .i64 1) := t30
  replace t31 : w2.cell? ⟨tb, 10, none⟩ = some (.string ⟨x.data.toList.toArray⟩) := t31
  rw [show (⟨x.data.toList.toArray⟩ : ByteArray) = x from L.ba_ext (by simp)] at t31
  replace t40 : w2.cell? ⟨tb, 12, none⟩ = some (.int .i64 0) := t40
  replace t41 : w2.cell? ⟨tb, 13, none⟩ = some (.string ⟨y.data.toList.toArray⟩) := t41
  rw [show (⟨y.data.toList.toArray⟩ : ByteArray) = y from L.ba_ext (by simp)] at t41
  have b2 : (x.toList == x.toList) = true := by simp
  have b4 : (y.toList == y.toList) = true := by simp
  clear e'
  go_wp2_with fail
  refine (PC.out w2 (HW.out.below HB2.out)).mono ?_
  rintro e w3 ⟨o3, c3, d3, rfl, hr3, hb3⟩
  have HR3 := Lib.hid hr3
  have HB3 := Lib.hid (bl_trans HB2.out (bl_trans hb3 ((Below.refl w3.heap.size w3).alloc (Nat.le_refl _) (.cells #[.int .i64 0, .string ⟨#[]⟩, .int .i64 0, .int .i64 0, .int .i64 0, .slice o3 1 c3] 26))))
  clear hb3 hr3
  go_wp2_with fail
  refine (AC.out _ (HW.out.below HB3.out)).mono ?_
  rintro e w4 ⟨rfl, hb4⟩
  have HX4 := Lib.hid (Boxed.of hb4)
  have HB4 := Lib.hid (bl_trans HB3.out hb4)
  clear hb4
  go_wp2_with fail
  refine (AC2.out _ (HW.out.below (bl_trans HB4.out ((Below.refl w4.heap.size w4).alloc (Nat.le_refl _) (.cells #[.int .i64 n1, .int .i64 d1] 23))))).mono ?_
  rintro e w5 ⟨rfl, hb5⟩
  have hx5 := Boxed.of hb5
  have HAM := Lib.hid hx5.row
  have HX5 := Lib.hid hx5
  have HB5 := Lib.hid (bl_trans HB4.out hx5.all)
  have HSZ5 : Hid (w4.heap.size < w5.heap.size) := Lib.hid hx5.size
  clear hb5 hx5
  go_wp2_with (
    (with_reducible refine wpList_at ⟨none, .store 23 (.tmp 13) (.tmp 93), _, _, _, _⟩ ?_)
    go_must (refine wpList_store_box rfl 23 (.tmp 13) (.tmp 93) rfl w4.heap.size #[.int .i64 n2, .int .i64 d2] rfl rfl 23 _ HAM.out (by kernel_rfl) rfl (by simp [Value.oneCell']) ?_)
    intro w6 hg6 hr6
    have HB6 : Hid (Below w4.heap.size w5 w6) := Lib.hid ⟨hg6.os, hg6.tape, hg6.output, hg6.size, fun k hk => hg6.block k (by have := HSZ5.out; omega) (fun e => by cases e; omega)⟩
    have HZ6 : Hid (w5.heap.size ≤ w6.heap.size) := Lib.hid hg6.size
    have HR6 := Lib.hid hr6
    have HB06 := Lib.hid (HB5.out.trans (HB6.out.mono (by have := HB4.out.size; omega)))
    clear hg6 hr6
    have hz4 : w3.heap.size < w4.heap.size := HX4.out.size
    have hz6 : w4.heap.size < w6.heap.size := by have h1 := HSZ5.out; have h2 := HZ6.out; omega
    have hall : Below w4.heap.size w4 w6 := HX5.out.all.trans HB6.out
    have hr4 := (HR3.out.kept HX4.out.all).kept (hall.mono (by omega))
    obtain ⟨a0, a1, o2, g0, g1, e0, ⟨la0, la1⟩, f0, f1, f2, f3, f4, f5, f6, hr5⟩ := unit_nodes hr4
    obtain ⟨a2, o5, c5, e2, h5⟩ := NodeRd.kid (t := ⟨2, [121], 0, 0, 4, [⟨5, [], n2, d2, 6, []⟩, ⟨3, y.data.toList, 0, 0, ((7 + x.data.toList.length : Nat) : Int), []⟩]⟩) hr5 0 (show 0 < 2 by decide)
    subst e0
    subst e2
    obtain ⟨a2', o6, c6, e3, h6⟩ := NodeRd.kid (t := ⟨2, [121], 0, 0, 4, [⟨5, [], n2, d2, 6, []⟩, ⟨3, y.data.toList, 0, 0, ((7 + x.data.toList.length : Nat) : Int), []⟩]⟩) hr5 1 (show 1 < 2 by decide)
    obtain rfl : a2 = a2' := by injection e3
    have la2 := h5.lt
    have v0 : w6.cell? ⟨a2.block, a2.off + 2, none⟩ = some (.int .i64 n2) := h5.c2
    have v1 : w6.cell? ⟨a2.block, a2.off + 3, none⟩ = some (.int .i64 d2) := h5.c3
    have v2 : w6.cell? ⟨a2.block, a2.off + 4, none⟩ = some (.int .i64 6) := h5.c4
    have u0 : w6.cell? ⟨a2.block, a2.off + 6, none⟩ = some (.int .i64 3) := h6.c0
    have u1 : w6.cell? ⟨a2.block, a2.off + 6 + 1, none⟩ = some (.string ⟨y.data.toList.toArray⟩) := h6.c1
    rw [show (⟨y.data.toList.toArray⟩ : ByteArray) = y from L.ba_ext (by simp)] at u1
    have u4 : w6.cell? ⟨a2.block, a2.off + 6 + 4, none⟩ = some (.int .i64 ((7 + x.data.toList.length : Nat) : Int)) := h6.c4
    rw [show ((7 + x.data.toList.length : Nat) : Int) = 7 + (x.size : Nat) from by have h3 : x.data.toList.length = x.size := rfl; omega] at u4
    obtain ⟨q0, q1, q2, q3, q4, q5⟩ := cells6 ((hall.block _ hz4).trans HX4.out.row)
    have m0 := cell_of_row _ _ 0 _ _ (0, 0) HR6.out
    have m1 := cell_of_row _ _ 1 _ _ (0, 0) HR6.out
    have z0 : a0.block < w6.heap.size := by omega
    have z1 : a1.block < w6.heap.size := by omega
    have z2 : a2.block < w6.heap.size := by omega
    have hz36 : w3.heap.size < w6.heap.size := by omega
    clear hr4 hr5 h5 h6 hall e3
  )
  go_quiet (fail)
  go_wp2_with fail
  go_ret
  exact ⟨rfl, bl_trans HB06.out (bl_trans ((Below.refl _ _).alloc (Nat.le_refl _) _) ⟨rfl, rfl, rfl, Nat.le_refl _, fun _ _ => rfl⟩)⟩

theorem units_any (x y : ByteArray) (w : World) (hw : Std w) : Calls Tryz.prog 6 #[.string x, .string y] w fun e w' => e = .returned (.bool true) ∧ Below w.heap.size w w' := by
  by_cases hl : 24 < x.size ∨ 24 < y.size
  · exact units_long x y w hw hl
  · have hx : x.size ≤ 24 := by omega
    have hy : y.size ≤ 24 := by omega
    have hx2 : x.data.toList.length ≤ 24 := hx
    have hy2 : y.data.toList.length ≤ 24 := hy
    obtain ⟨K, E, P, hsc⟩ : ∃ K E P, scanR (unitSrc x.data.toList y.data.toList) = (K, E, P) := ⟨_, _, _, rfl⟩
    by_cases hE : E ≠ 0 ∨ K.length ≠ 8
    · exact units_scan x y w hw hx hy hsc hE
    · have hE0 : E = 0 := by omega
      have hK : K.length = 8 := by omega
      subst hE0
      have hP : P = 0 := by
        have h0 : (scanR (unitSrc x.data.toList y.data.toList)).2.1 = 0 := by rw [hsc]
        have := (scanR_ok h0).2.2.2
        rw [hsc] at this
        exact this
      subst hP
      by_cases hm : (K[3]'(by omega)).kind = 1 ∧ (K[3]'(by omega)).text = x.data.toList ∧ (K[4]'(by omega)).kind = 0 ∧ (K[4]'(by omega)).text = y.data.toList
      · obtain ⟨hfx, hfy⟩ := unit_fine hK hsc ⟨hm.1, hm.2.1⟩ ⟨hm.2.2.1, hm.2.2.2⟩
        have hp := unit_parseS hfx hfy ⟨hx2, hy2⟩
        have hae := Tr.amountU_err x.data.toList y.data.toList
        have hbe := Tr.amountU_err x.data.toList []
        obtain ⟨n1, d1, e1, hA⟩ : ∃ n1 d1 e1, U.amountU x.data.toList y.data.toList = (n1, d1, e1) := ⟨_, _, _, rfl⟩
        obtain ⟨n2, d2, e2, hB⟩ : ∃ n2 d2 e2, U.amountU x.data.toList [] = (n2, d2, e2) := ⟨_, _, _, rfl⟩
        rw [hA] at hp hae
        rw [hB] at hp hbe
        dsimp only at hp hae hbe
        by_cases h6 : e1 = 6
        · subst h6
          rw [if_pos rfl] at hp
          by_cases h0 : e2 = 0
          · subst h0
            rw [if_pos rfl] at hp
            exact units_two x y w hw hx hy hfx hfy hA hB hp
          · rw [if_neg h0] at hp
            exact units_err2 x y w hw hx hy hfx hfy hA hB (by omega) hp
        · rw [if_neg h6] at hp
          by_cases h0 : e1 = 0
          · subst h0
            rw [if_pos rfl] at hp
            exact units_one x y w hw hx hy hfx hfy hA hp
          · rw [if_neg h0] at hp
            exact units_err x y w hw hx hy hfx hfy hA (by omega) hp
      · exact units_skip x y w hw hx hy hsc hK _ _ (List.getElem?_eq_getElem (by omega)) (List.getElem?_eq_getElem (by omega)) hm
end Go.Proofs.YtooajmbpncmgjaaGreatDoor
