/- Layer 15's laws: small, by contract. -/
import Derived.Test.YtooajmbpncmgjaaGreatDoorNodeI
import Derived.Test.YtooajmbpncmgjaaGreatDoorGramSize
namespace Go.Proofs.YtooajmbpncmgjaaGreatDoor
open Go.RowKit

def smD : Tr.Tree := ⟨1, [108, 97, 107, 101], 0, 0, 0, [⟨3, [116, 111, 112], 0, 0, 5, []⟩, ⟨4, [85, 112, 112, 101, 114], 0, 0, 9, []⟩, ⟨2, [99, 97, 112], 0, 0, 19, [⟨5, [], 4000000, 1, 23, []⟩]⟩, ⟨2, [108, 101, 118, 101, 108], 0, 0, 29, [⟨6, [], 0, 0, 35, [⟨5, [], 0, 1, 36, []⟩, ⟨5, [], 0, 3, 41, []⟩]⟩, ⟨6, [], 0, 0, 47, [⟨5, [], 4000000, 1, 48, []⟩, ⟨5, [], 3000, 3, 54, []⟩]⟩]⟩]⟩
def smN : Tr.Tree := ⟨0, [], 0, 0, 0, [smD]⟩
def smE : Tr.Tree := ⟨1, [120], 0, 0, 0, [⟨2, [121], 0, 0, 4, [⟨5, [], 5000, 3, 6, []⟩, ⟨3, [122], 0, 0, 10, []⟩]⟩]⟩
def smM : Tr.Tree := ⟨0, [], 0, 0, 0, [smE]⟩
theorem sm1 : parseS [108, 97, 107, 101, 32, 116, 111, 112, 32, 34, 85, 112, 112, 101, 114, 34, 32, 123, 32, 99, 97, 112, 32, 52, 32, 77, 76, 59, 32, 108, 101, 118, 101, 108, 32, 40, 48, 32, 108, 44, 32, 48, 32, 109, 109, 41, 32, 40, 52, 32, 77, 76, 44, 32, 51, 32, 109, 41, 59, 32, 125] = (smN, 0, 0) := by kernel_rfl
theorem sm2 : parseS [120, 32, 123, 32, 121, 32, 53, 32, 109, 32, 122, 59, 32, 125] = (smM, 0, 0) := by kernel_rfl
theorem sm3 : parseS [120, 32, 123, 32, 121, 32, 53, 32, 125] = (Tr.zero, 2, 8) := by kernel_rfl
theorem sm4 : parseS [120, 32, 121] = (Tr.zero, 2, 3) := by kernel_rfl
theorem sm5 : parseS [120, 32, 123, 32, 121, 32, 40, 41, 59, 32, 125] = (Tr.zero, 2, 7) := by kernel_rfl
theorem sm6 : parseS [120, 32, 123, 32, 121, 32, 49, 46, 53, 32, 108, 59, 32, 125] = (Tr.zero, 7, 6) := by kernel_rfl
theorem smR : Tr.rightB smN = true := by kernel_rfl
theorem smW : (if Tr.rightB smM then Tr.wrF smM else []) = [120, 32, 123, 10, 32, 32, 121, 32, 53, 48, 48, 48, 32, 109, 109, 32, 122, 59, 10, 125, 10] := by kernel_rfl

theorem pc_of {x : List UInt8} {t : Tr.Tree} {a p : Nat} (h : parseS x = (t, a, p)) (hx : x.length ≤ 1000) (w : World) (hw : Std w) :
    Calls Tryz.prog 12 #[.string ⟨x.toArray⟩] w fun e w' => ∃ o c d, e = .returned (.tuple #[.agg #[.int .i64 t.kind, .string ⟨t.text.toArray⟩, .int .i64 t.num, .int .i64 t.dim, .int .i64 t.pos, .slice o t.kids.length c], .int .i64 (a : Nat), .int .i64 (p : Nat)]) ∧
      NodeRd w' w'.heap.size d (.agg #[.int .i64 t.kind, .string ⟨t.text.toArray⟩, .int .i64 t.num, .int .i64 t.dim, .int .i64 t.pos, .slice o t.kids.length c]) t ∧ Below w.heap.size w w' := by
  have h1 := parse_rd ⟨x.toArray⟩ w (by rw [L.ba_size]; unfold maxLen; omega) hw
  unfold ParseRd at h1
  rw [show (⟨x.toArray⟩ : ByteArray).data.toList = x from rfl, h] at h1
  exact h1
theorem bl_trans {a b c : World} (h : Below a.heap.size a b) (k : Below b.heap.size b c) : Below a.heap.size a c := h.trans (k.mono h.size)

theorem small_n {w : World} {lim d c : Nat} {o : Option Addr} (h : NodeRd w lim d (.agg #[.int .i64 0, .string ⟨#[]⟩, .int .i64 0, .int .i64 0, .int .i64 0, .slice o 1 c]) smN) :
    ∃ a0 a1 a2 a3 c0 c2 c3 o4 c4, o = some a0 ∧ (a0.block < lim ∧ a1.block < lim ∧ a2.block < lim) ∧
      w.cell? ⟨a0.block, a0.off + 1, none⟩ = some (.string ⟨#[108, 97, 107, 101]⟩) ∧ w.cell? ⟨a0.block, a0.off + 5, none⟩ = some (.slice (some a1) 4 c0) ∧
      w.cell? ⟨a1.block, a1.off + 6 + 1, none⟩ = some (.string ⟨#[85, 112, 112, 101, 114]⟩) ∧ w.cell? ⟨a1.block, a1.off + 12 + 5, none⟩ = some (.slice (some a2) 1 c2) ∧
      w.cell? ⟨a1.block, a1.off + 18 + 5, none⟩ = some (.slice a3 2 c3) ∧
      w.cell? a2 = some (.int .i64 5) ∧ w.cell? ⟨a2.block, a2.off + 1, none⟩ = some (.string ⟨#[]⟩) ∧ w.cell? ⟨a2.block, a2.off + 2, none⟩ = some (.int .i64 4000000) ∧ w.cell? ⟨a2.block, a2.off + 3, none⟩ = some (.int .i64 1) ∧
      w.cell? ⟨a2.block, a2.off + 4, none⟩ = some (.int .i64 23) ∧ w.cell? ⟨a2.block, a2.off + 5, none⟩ = some (.slice o4 0 c4) := by
  obtain ⟨a0, o1, c1, rfl, h1⟩ := NodeRd.kid (t := smN) h 0 (by decide)
  obtain ⟨a1, o2, c2, rfl, h2⟩ := NodeRd.kid (t := smD) h1.rd 2 (by decide)
  obtain ⟨a1', o3, c3, e3, h3⟩ := NodeRd.kid (t := smD) h1.rd 1 (by decide)
  obtain rfl : a1 = a1' := by injection e3
  obtain ⟨a1', o4, c4, e4, h4⟩ := NodeRd.kid (t := smD) h1.rd 3 (by decide)
  obtain rfl : a1 = a1' := by injection e4
  obtain ⟨a2, o5, c5, rfl, h5⟩ := NodeRd.kid (t := smD.kids[2]) h2.rd 0 (by decide)
  exact ⟨a0, a1, a2, o4, c1, c2, c4, o5, c5, rfl, ⟨h1.lt, h2.lt, h5.lt⟩, h1.c1, h1.c5, h3.c1, h2.c5, h4.c5, h5.c0, h5.c1, h5.c2, h5.c3, h5.c4, h5.c5⟩
theorem small_m {w : World} {lim d c : Nat} {o : Option Addr} (h : NodeRd w lim d (.agg #[.int .i64 0, .string ⟨#[]⟩, .int .i64 0, .int .i64 0, .int .i64 0, .slice o 1 c]) smM) :
    ∃ a0 a1 a2 c0 c1 o4 c4, o = some a0 ∧ (a0.block < lim ∧ a1.block < lim ∧ a2.block < lim) ∧
      w.cell? ⟨a0.block, a0.off + 5, none⟩ = some (.slice (some a1) 1 c0) ∧ w.cell? ⟨a1.block, a1.off + 5, none⟩ = some (.slice (some a2) 2 c1) ∧
      w.cell? a2 = some (.int .i64 5) ∧ w.cell? ⟨a2.block, a2.off + 1, none⟩ = some (.string ⟨#[]⟩) ∧ w.cell? ⟨a2.block, a2.off + 2, none⟩ = some (.int .i64 5000) ∧ w.cell? ⟨a2.block, a2.off + 3, none⟩ = some (.int .i64 3) ∧
      w.cell? ⟨a2.block, a2.off + 4, none⟩ = some (.int .i64 6) ∧ w.cell? ⟨a2.block, a2.off + 5, none⟩ = some (.slice o4 0 c4) ∧
      w.cell? ⟨a2.block, a2.off + 6 + 1, none⟩ = some (.string ⟨#[122]⟩) := by
  obtain ⟨a0, o1, c1, rfl, h1⟩ := NodeRd.kid (t := smM) h 0 (by decide)
  obtain ⟨a1, o2, c2, rfl, h2⟩ := NodeRd.kid (t := smE) h1.rd 0 (by decide)
  obtain ⟨a2, o3, c3, rfl, h3⟩ := NodeRd.kid (t := smE.kids[0]) h2.rd 0 (by decide)
  obtain ⟨a2', o4, c4, e4, h4⟩ := NodeRd.kid (t := smE.kids[0]) h2.rd 1 (by decide)
  obtain rfl : a2 = a2' := by injection e4
  exact ⟨a0, a1, a2, c1, c2, o3, c3, rfl, ⟨h1.lt, h2.lt, h3.lt⟩, h1.c5, h2.c5, h3.c0, h3.c1, h3.c2, h3.c3, h3.c4, h3.c5, h4.c1⟩

theorem pz_of {x : List UInt8} {a p : Nat} (h : parseS x = (Tr.zero, a, p)) (hx : x.length ≤ 1000) (w : World) (hw : Std w) :
    Calls Tryz.prog 12 #[.string ⟨x.toArray⟩] w fun e w' => ∃ o c, e = .returned (.tuple #[.agg #[.int .i64 0, .string ⟨#[]⟩, .int .i64 0, .int .i64 0, .int .i64 0, .slice o 0 c], .int .i64 (a : Nat), .int .i64 (p : Nat)]) ∧ Below w.heap.size w w' := by
  refine (pc_of h hx w hw).mono ?_
  rintro e w' ⟨o, c, d, rfl, _, hb⟩
  exact ⟨o, c, rfl, hb⟩
theorem p1_of (w : World) (hw : Std w) : Calls Tryz.prog 12 #[.string ⟨#[108, 97, 107, 101, 32, 116, 111, 112, 32, 34, 85, 112, 112, 101, 114, 34, 32, 123, 32, 99, 97, 112, 32, 52, 32, 77, 76, 59, 32, 108, 101, 118, 101, 108, 32, 40, 48, 32, 108, 44, 32, 48, 32, 109, 109, 41, 32, 40, 52, 32, 77, 76, 44, 32, 51, 32, 109, 41, 59, 32, 125]⟩] w fun e w' => ∃ o c d, e = .returned (.tuple #[.agg #[.int .i64 0, .string ⟨#[]⟩, .int .i64 0, .int .i64 0, .int .i64 0, .slice o 1 c], .int .i64 0, .int .i64 0]) ∧
    NodeRd w' w'.heap.size d (.agg #[.int .i64 0, .string ⟨#[]⟩, .int .i64 0, .int .i64 0, .int .i64 0, .slice o 1 c]) smN ∧ Below w.heap.size w w' := pc_of sm1 (by decide) w hw
theorem p2_of (w : World) (hw : Std w) : Calls Tryz.prog 12 #[.string ⟨#[120, 32, 123, 32, 121, 32, 53, 32, 109, 32, 122, 59, 32, 125]⟩] w fun e w' => ∃ o c d, e = .returned (.tuple #[.agg #[.int .i64 0, .string ⟨#[]⟩, .int .i64 0, .int .i64 0, .int .i64 0, .slice o 1 c], .int .i64 0, .int .i64 0]) ∧
    NodeRd w' w'.heap.size d (.agg #[.int .i64 0, .string ⟨#[]⟩, .int .i64 0, .int .i64 0, .int .i64 0, .slice o 1 c]) smM ∧ Below w.heap.size w w' := pc_of sm2 (by decide) w hw

set_option maxRecDepth 100000 in
set_option maxHeartbeats 4000000 in
theorem small_any (w : World) (hs : Std w) : Calls Tryz.prog 8 #[] w fun e w' => e = .returned (.bool true) ∧ Below w.heap.size w w' := by
  have P1 := Lib.hid p1_of
  have P2 := Lib.hid p2_of
  have P3 := Lib.hid (pz_of sm3 (by decide))
  have P4 := Lib.hid (pz_of sm4 (by decide))
  have P5 := Lib.hid (pz_of sm5 (by decide))
  have P6 := Lib.hid (pz_of sm6 (by decide))
  have HS := Lib.hid hs
  clear hs
  go_enter Tryz.func8, Tryz.ntmps8
  go_wp2_with fail
  refine (P1.out w HS.out).mono ?_
  rintro e w1 ⟨o1, c1, d1, rfl, hr1, hb1⟩
  have HR1 := Lib.hid hr1
  have HB1 := Lib.hid hb1
  clear hr1 hb1
  go_wp2_with fail
  refine (P2.out _ ((HS.out.below HB1.out).below ((Below.refl _ _).alloc (Nat.le_refl _) _))).mono ?_
  rintro e w2 ⟨o2, c2, d2, rfl, hr2, hb2⟩
  have HR2 := Lib.hid hr2
  have HX1 := Lib.hid (Boxed.of hb2)
  have HB2 := Lib.hid (bl_trans HB1.out HX1.out.all)
  clear hr2 hb2
  go_wp2_with fail
  refine (P3.out _ ((HS.out.below HB2.out).below ((Below.refl _ _).alloc (Nat.le_refl _) _))).mono ?_
  rintro e w3 ⟨o3, c3, rfl, hb3⟩
  have HX2 := Lib.hid (Boxed.of hb3)
  have HB3 := Lib.hid (bl_trans HB2.out HX2.out.all)
  clear hb3
  go_wp2_with fail
  refine (P4.out _ ((HS.out.below HB3.out).below ((Below.refl _ _).alloc (Nat.le_refl _) _))).mono ?_
  rintro e w4 ⟨o4, c4, rfl, hb4⟩
  have HX3 := Lib.hid (Boxed.of hb4)
  have HB4 := Lib.hid (bl_trans HB3.out HX3.out.all)
  clear hb4
  go_wp2_with fail
  refine (P5.out _ ((HS.out.below HB4.out).below ((Below.refl _ _).alloc (Nat.le_refl _) _))).mono ?_
  rintro e w5 ⟨o5, c5, rfl, hb5⟩
  have HX4 := Lib.hid (Boxed.of hb5)
  have HB5 := Lib.hid (bl_trans HB4.out HX4.out.all)
  clear hb5
  go_wp2_with fail
  refine (P6.out _ ((HS.out.below HB5.out).below ((Below.refl _ _).alloc (Nat.le_refl _) _))).mono ?_
  rintro e w6 ⟨o6, c6, rfl, hb6⟩
  have HX5 := Lib.hid (Boxed.of hb6)
  have HB6 := Lib.hid (bl_trans HB5.out HX5.out.all)
  clear hb6
  have hb26 := bl_trans HX2.out.all (bl_trans HX3.out.all (bl_trans HX4.out.all HX5.out.all))
  have hb16 := bl_trans HX1.out.all hb26
  have hn6 := HR1.out.kept hb16
  have hm6 := HR2.out.kept hb26
  have rn := (hb26.block _ HX1.out.size).trans HX1.out.row
  have rm := ((bl_trans HX3.out.all (bl_trans HX4.out.all HX5.out.all)).block _ HX2.out.size).trans HX2.out.row
  obtain ⟨n0, n1, n2, n3, n4, n5⟩ := cells6 rn
  obtain ⟨m0, m1, m2, m3, m4, m5⟩ := cells6 rm
  have z1 : w1.heap.size < w6.heap.size := Nat.lt_of_lt_of_le HX1.out.size hb26.size
  have z2 : w2.heap.size < w6.heap.size := Nat.lt_of_lt_of_le HX2.out.size (bl_trans HX3.out.all (bl_trans HX4.out.all HX5.out.all)).size
  have hn6' := Lib.hid hn6
  have hm6' := Lib.hid hm6
  obtain ⟨a0, a1, a2, a3, b0, b2, b3, b4, b5, rfl, ⟨la0, la1, la2⟩, f0, f1, f2, f3, f4, f5, f6, f7, f8, f9, f10⟩ := small_n hn6
  obtain ⟨g0, g1, g2, y0, y1, y2, y3, rfl, ⟨lg0, lg1, lg2⟩, h0, h1, h2, h3, h4, h5, h6, h7, h8⟩ := small_m hm6
  have la0' : a0.block < w6.heap.size := by omega
  have la1' : a1.block < w6.heap.size := by omega
  have la2' : a2.block < w6.heap.size := by omega
  have lg0' : g0.block < w6.heap.size := by omega
  have lg1' : g1.block < w6.heap.size := by omega
  have lg2' : g2.block < w6.heap.size := by omega
  have z16 : w1.heap.size ≤ w6.heap.size := by omega
  have z26 : w2.heap.size ≤ w6.heap.size := by omega
  have za0 : w1.heap.size < w6.heap.size + 1 := by omega
  have zb0 : w1.heap.size < w6.heap.size + 1 + 1 := by omega
  have zc0 : ¬ w1.heap.size = w6.heap.size := by omega
  have zd0 : ¬ w1.heap.size = w6.heap.size + 1 := by omega
  have ze0 : ¬ w1.heap.size = w6.heap.size + 1 + 1 := by omega
  have za1 : w2.heap.size < w6.heap.size + 1 := by omega
  have zb1 : w2.heap.size < w6.heap.size + 1 + 1 := by omega
  have zc1 : ¬ w2.heap.size = w6.heap.size := by omega
  have zd1 : ¬ w2.heap.size = w6.heap.size + 1 := by omega
  have ze1 : ¬ w2.heap.size = w6.heap.size + 1 + 1 := by omega
  have za2 : a0.block < w6.heap.size + 1 := by omega
  have zb2 : a0.block < w6.heap.size + 1 + 1 := by omega
  have zc2 : ¬ a0.block = w6.heap.size := by omega
  have zd2 : ¬ a0.block = w6.heap.size + 1 := by omega
  have ze2 : ¬ a0.block = w6.heap.size + 1 + 1 := by omega
  have za3 : a1.block < w6.heap.size + 1 := by omega
  have zb3 : a1.block < w6.heap.size + 1 + 1 := by omega
  have zc3 : ¬ a1.block = w6.heap.size := by omega
  have zd3 : ¬ a1.block = w6.heap.size + 1 := by omega
  have ze3 : ¬ a1.block = w6.heap.size + 1 + 1 := by omega
  have za4 : a2.block < w6.heap.size + 1 := by omega
  have zb4 : a2.block < w6.heap.size + 1 + 1 := by omega
  have zc4 : ¬ a2.block = w6.heap.size := by omega
  have zd4 : ¬ a2.block = w6.heap.size + 1 := by omega
  have ze4 : ¬ a2.block = w6.heap.size + 1 + 1 := by omega
  have za5 : g0.block < w6.heap.size + 1 := by omega
  have zb5 : g0.block < w6.heap.size + 1 + 1 := by omega
  have zc5 : ¬ g0.block = w6.heap.size := by omega
  have zd5 : ¬ g0.block = w6.heap.size + 1 := by omega
  have ze5 : ¬ g0.block = w6.heap.size + 1 + 1 := by omega
  have za6 : g1.block < w6.heap.size + 1 := by omega
  have zb6 : g1.block < w6.heap.size + 1 + 1 := by omega
  have zc6 : ¬ g1.block = w6.heap.size := by omega
  have zd6 : ¬ g1.block = w6.heap.size + 1 := by omega
  have ze6 : ¬ g1.block = w6.heap.size + 1 + 1 := by omega
  have za7 : g2.block < w6.heap.size + 1 := by omega
  have zb7 : g2.block < w6.heap.size + 1 + 1 := by omega
  have zc7 : ¬ g2.block = w6.heap.size := by omega
  have zd7 : ¬ g2.block = w6.heap.size + 1 := by omega
  have ze7 : ¬ g2.block = w6.heap.size + 1 + 1 := by omega
  have RM := Lib.hid rm
  have RT : Hid (∀ W, Std W → Below w6.heap.size w6 W → Calls Tryz.prog 11 #[(.agg #[.int .i64 0, .string ⟨#[]⟩, .int .i64 0, .int .i64 0, .int .i64 0, .slice (some a0) 1 c1])] W fun e w' => e = .returned (.bool true) ∧ Below W.heap.size W w') := Lib.hid fun W hW hB => by
    have h1 := right_any (t := smN) (hn6'.out.kept (hB.mono z16)) (Nat.le_trans z16 hB.size) hW
    rw [smR] at h1
    exact h1
  have WT : Hid (∀ W, Std W → Below w6.heap.size w6 W → Calls Tryz.prog 10 #[(.agg #[.int .i64 0, .string ⟨#[]⟩, .int .i64 0, .int .i64 0, .int .i64 0, .slice (some g0) 1 c2])] W fun e w' => e = .returned (.string ⟨#[120, 32, 123, 10, 32, 32, 121, 32, 53, 48, 48, 48, 32, 109, 109, 32, 122, 59, 10, 125, 10]⟩) ∧ Below W.heap.size W w') := Lib.hid fun W hW hB => by
    have h1 := Write_any (t := smM) (hm6'.out.kept (hB.mono z26)) (Nat.le_trans z26 hB.size) hW (by have := (parseS_sizes [120, 32, 123, 32, 121, 32, 53, 32, 109, 32, 122, 59, 32, 125]).2 d2; rw [sm2] at this; exact Nat.le_trans this (by decide))
    rw [smW] at h1
    exact h1
  clear hn6 hm6 hb16 hb26 rn rm
  go_wp2_with fail
  have HX6 := Lib.hid (HB6.out)
  refine (RT.out _ ?std1 ?bel1).mono ?_
  case std1 => exact ((((HS.out.below HB6.out).below ((Below.refl _ _).alloc (Nat.le_refl _) _)).below ((Below.refl _ _).alloc (Nat.le_refl _) _)).below ((Below.refl _ _).alloc (Nat.le_refl _) _))
  case bel1 => exact bl_trans ((Below.refl _ _).alloc (Nat.le_refl _) _) (bl_trans ((Below.refl _ _).alloc (Nat.le_refl _) _) ((Below.refl _ _).alloc (Nat.le_refl _) _))
  rintro e w7 ⟨rfl, hb7⟩
  have HB7 := Lib.hid (bl_trans (bl_trans ((Below.refl _ w6).alloc (Nat.le_refl _) _) (bl_trans ((Below.refl _ _).alloc (Nat.le_refl _) _) ((Below.refl _ _).alloc (Nat.le_refl _) _))) hb7)
  have rm7 := (HB7.out.block _ z2).trans RM.out
  clear m0 m1 m2 m3 m4 m5
  obtain ⟨m0, m1, m2, m3, m4, m5⟩ := cells6 rm7
  clear hb7 rm7
  go_wp2_with fail
  refine (WT.out _ (HS.out.below (bl_trans HB6.out HB7.out)) HB7.out).mono ?_
  rintro e w8 ⟨rfl, hb8⟩
  have HB8 := Lib.hid (bl_trans HB7.out hb8)
  clear hb8
  go_wp2_with fail
  go_ret
  exact ⟨rfl, bl_trans HB6.out HB8.out⟩
end Go.Proofs.YtooajmbpncmgjaaGreatDoor
