/- (unit.measure).amount, by contract. -/
import Derived.Test.YtooajmbpncmgjaaGreatDoorUnitA
import Derived.Test.YtooajmbpncmgjaaGreatDoorDivAny
namespace Go.Proofs.YtooajmbpncmgjaaGreatDoor
open Go.RowKit

theorem gSyn : Tryz.prog.globalNamed "strconv.ErrSyntax" = some 6 := by kernel_rfl
theorem gRng : Tryz.prog.globalNamed "strconv.ErrRange" = some 7 := by kernel_rfl
theorem var_lt {w : World} {name : String} {g : Nat} {x : Array Value} (hg : Tryz.prog.globalNamed name = some g) (h : w.var? Tryz.prog name = some x) : g < w.heap.size := by
  unfold World.var? at h
  rw [hg] at h
  simp only [Option.bind_some] at h
  rcases Nat.lt_or_ge g w.heap.size with hl | hl
  · exact hl
  · rw [Array.getElem?_eq_none hl] at h; cases h
theorem gPow : Tryz.prog.globalNamed "internal/strconv.uint64pow10" = some 8 := by kernel_rfl
theorem heap_lt {w : World} {g : Nat} {o : Obj} (h : w.heap[g]? = some o) : g < w.heap.size := by
  rcases Nat.lt_or_ge g w.heap.size with hl | hl
  · exact hl
  · rw [Array.getElem?_eq_none hl] at h; cases h
theorem cell_lt {w : World} {g o : Nat} {v : Value} (h : w.cell? ⟨g, o, none⟩ = some v) : g < w.heap.size := by
  unfold World.cell? at h
  rcases Nat.lt_or_ge g w.heap.size with hl | hl
  · exact hl
  · simp only [Array.getElem?_eq_none hl] at h; cases h
theorem Std.below {w w' : World} (hw : Std w) (hb : Below w.heap.size w w') : Std w' := by
  obtain ⟨⟨tp, p, h1⟩, ⟨tp', p', h2⟩, ⟨t, fr, h3⟩, ⟨m, h4⟩, h5⟩ := hw
  refine ⟨⟨tp, p, (var_below hb gSyn (var_lt gSyn h1)).trans h1⟩, ⟨tp', p', (var_below hb gRng (var_lt gRng h2)).trans h2⟩, ⟨t, fr, (hb.block _ (heap_lt h3)).trans h3⟩, ⟨m, (hb.cell (p := ⟨_, 0, none⟩) (cell_lt h4)).trans h4⟩, ?_⟩
  exact (var_below hb gPow (var_lt gPow h5)).trans h5

theorem bcell {B : Nat} {W w1 : World} (hb : Below B W w1) : (∀ b o, b < B → w1.cell? ⟨b, o, none⟩ = W.cell? ⟨b, o, none⟩) ∧ (∀ b o, b < B → w1.frozen? ⟨b, o, none⟩ = W.frozen? ⟨b, o, none⟩) :=
  ⟨fun b o h => hb.cell (p := ⟨b, o, none⟩) h, fun b o h => hb.frozen (p := ⟨b, o, none⟩) h⟩

/-- The function's own cells: the unit (block B) and the result (block B + 1). -/
structure AP (B : Nat) (w : World) (dim : Int) (num den : Nat) (wx : World) : Prop where
  below : Below B w wx
  size : B + 3 ≤ wx.heap.size
  c1 : wx.cell? ⟨B, 1, none⟩ = some (.int .i64 dim)
  c2 : wx.cell? ⟨B, 2, none⟩ = some (.int .u64 num)
  c3 : wx.cell? ⟨B, 3, none⟩ = some (.int .u64 den)
  r0 : wx.cell? ⟨B + 1, 0, none⟩ = some (.int .i64 0)
  r1 : wx.cell? ⟨B + 1, 1, none⟩ = some (.int .i64 0)
  f0 : wx.frozen? ⟨B + 1, 0, none⟩ = false
  f1 : wx.frozen? ⟨B + 1, 1, none⟩ = false
theorem AP.keep {B : Nat} {w : World} {dim : Int} {num den : Nat} {wx w' : World} (h : AP B w dim num den wx) (hb : Below wx.heap.size wx w') : AP B w dim num den w' := by
  have hs := h.size
  obtain ⟨hc, hf⟩ := bcell hb
  exact ⟨h.below.trans (hb.mono (by omega)), by have := hb.size; omega, (hc _ _ (by omega)).trans h.c1, (hc _ _ (by omega)).trans h.c2, (hc _ _ (by omega)).trans h.c3, (hc _ _ (by omega)).trans h.r0, (hc _ _ (by omega)).trans h.r1, (hf _ _ (by omega)).trans h.f0, (hf _ _ (by omega)).trans h.f1⟩
/-- What the loop over the fraction leaves. -/
def AfterPow (B : Nat) (w : World) (dim : Int) (num den n : Nat) (v : Value) (wx : World) : Prop :=
  ∃ P : Nat, P = 10 ^ n ∧ v = .int .u64 P ∧ AP B w dim num den wx
theorem after_pow (w : World) (nm s : ByteArray) (dim : Int) (num den n pos : Nat) (P : Nat) (hP : P = 10 ^ n) :
    AfterPow w.heap.size w dim num den n (.int .u64 P) ((((w.alloc (.cells #[.string nm, .int .i64 dim, .int .u64 num, .int .u64 den] 73)).alloc (.cells #[.int .i64 0, .int .i64 0] 23))).iter s pos) := by
  obtain ⟨X, hX⟩ : ∃ X, X = (((w.alloc (.cells #[.string nm, .int .i64 dim, .int .u64 num, .int .u64 den] 73)).alloc (.cells #[.int .i64 0, .int .i64 0] 23))).iter s pos := ⟨_, rfl⟩
  have h0 : X.heap[w.heap.size]? = some (.cells #[.string nm, .int .i64 dim, .int .u64 num, .int .u64 den] 73 (0, 0)) := by
    rw [hX]
    exact (Below.heap_alloc _ _ _ (by simp; omega)).trans ((Below.heap_alloc _ _ _ (by simp)).trans (heap_alloc_new _ _))
  have h1 : X.heap[w.heap.size + 1]? = some (.cells #[.int .i64 0, .int .i64 0] 23 (0, 0)) := by
    rw [hX]
    refine (Below.heap_alloc _ _ _ (by simp)).trans ?_
    have h := heap_alloc_new (w.alloc (.cells #[.string nm, .int .i64 dim, .int .u64 num, .int .u64 den] 73)) (.cells #[.int .i64 0, .int .i64 0] 23)
    rw [World.size_alloc] at h
    exact h
  rw [← hX]
  refine ⟨P, hP, rfl, ?_, ?_, ?_, ?_, ?_, ?_, ?_, ?_, ?_⟩
  · rw [hX]; exact ((((Below.refl _ _).alloc (Nat.le_refl _) _).alloc (by simp) _).alloc (by simp; omega) _)
  · rw [hX]; simp [World.iter]
  · exact cell_of_row X _ 1 _ _ (0, 0) h0
  · exact cell_of_row X _ 2 _ _ (0, 0) h0
  · exact cell_of_row X _ 3 _ _ (0, 0) h0
  · exact cell_of_row X _ 0 _ _ (0, 0) h1
  · exact cell_of_row X _ 1 _ _ (0, 0) h1
  · simp [World.frozen?, h1]
  · simp [World.frozen?, h1]

/-- bits.Add64 with carry 0. -/
theorem add64_carry (x y c z : Nat) (w : World) (e : x + y = c * 18446744073709551616 + z) (hz : z < 18446744073709551616) :
    (callFunc 50 #[.int .u64 x, .int .u64 y, .int .u64 0]).run Tryz.prog w = .ok (.value (.tuple #[.int .u64 z, .int .u64 c])) w := by
  rw [run_callFunc_extern (e := add64Entry) Tryz.func50 (by kernel_rfl) (by kernel_rfl) (by kernel_rfl) (by kernel_rfl), run_add64 x y 0 (by omega) (by omega) (by omega) (by omega)]
  have h1 : ((x : Int) + (y : Int) + 0) % 18446744073709551616 = (z : Int) := by omega
  have h2 : ((x : Int) + (y : Int) + 0) / 18446744073709551616 = (c : Int) := by omega
  rw [h1, h2]
  rfl

theorem pow_le9 (n : Nat) (h : n ≤ 9) : ((10 ^ n : Nat) : Int) ≤ 1000000000 := by
  have : 10 ^ n ≤ 10 ^ 9 := Nat.pow_le_pow_right (by decide) h
  omega

set_option maxRecDepth 100000 in
set_option maxHeartbeats 1000000 in
theorem amount_any (nm s1 s2 : ByteArray) (dim : Int) (num den : Nat) (w : World) (hw : Std w) (hs1 : s1.size ≤ 1000) (hs2 : s2.size ≤ 9)
    (hd : ∀ (i : Nat) (h : i < s2.size), (s2[i]'h).toNat < 128) (hn1 : 1 ≤ num) (hn2 : (num : Int) ≤ 1000000000) (hd1 : 1 ≤ den) (hd2 : (den : Int) ≤ 24) :
    Calls Tryz.prog 30 #[.agg #[.string nm, .int .i64 dim, .int .u64 num, .int .u64 den], .string s1, .string s2] w fun e w' =>
      e = .returned (.tuple #[.agg #[.int .i64 (U.amountM dim num den s1.data.toList s2.data.toList).1, .int .i64 (U.amountM dim num den s1.data.toList s2.data.toList).2.1],
        .int .i64 (U.amountM dim num den s1.data.toList s2.data.toList).2.2]) ∧ Below w.heap.size w w' := by
  have HD := Lib.hid hd
  have HW := Lib.hid hw
  clear hd hw
  go_enter Tryz.func30, Tryz.ntmps30
  go_upto_block 0 with fail
  go_cut [8] (fun v wx => AfterPow w.heap.size w dim num den s2.size v wx)
  case first =>
    go_wp2_with fail
    obtain ⟨W0, hW0⟩ : ∃ W0, Hid (W0 = ((w.alloc (.cells #[.string nm, .int .i64 dim, .int .u64 num, .int .u64 den] 73)).alloc (.cells #[.int .i64 0, .int .i64 0] 23))) := ⟨_, rfl⟩
    have hsz : W0.heap.size = w.heap.size + 1 + 1 := by rw [hW0.out]; simp
    rw [← hW0.out]
    have HSZ := Lib.hid hsz
    clear hsz
    go_loopw [8] (fun v wr => ∃ pos P : Nat, pos ≤ s2.size ∧ Hid (P = 10 ^ pos) ∧ (P : Int) ≤ 1000000000 ∧ v = .int .u64 P ∧ wr = W0.iter s2 pos) (fun _ wr => s2.size - wr.iterPos (w.heap.size + 1 + 1))
    case atStart => exact ⟨0, 1, Nat.zero_le _, rfl, by decide, rfl, rfl⟩
    case round =>
      obtain ⟨pos, P, hpos, HP, hP9, rfl, rfl⟩ := hrel
      by_cases hp : pos < s2.size
      · have hnx : ∀ ty, (Instr.next (.pointer (some ⟨w.heap.size + 1 + 1, 0, none⟩)) true ty).run Tryz.prog (W0.iter s2 pos) = .ok (.tuple #[.bool true, .int .i64 pos, .int .i32 (s2[pos]'hp).toNat]) (W0.iter s2 (pos + 1)) := fun ty => by rw [← HSZ.out]; exact run_next_ascii W0 s2 pos ty hp (HD.out pos hp)
        go_wp2
        go_roundw
        case rel =>
          have e : P * 10 = 10 ^ (pos + 1) := by rw [HP.out, Nat.pow_succ]
          exact ⟨pos + 1, P * 10, by omega, e, by rw [e]; exact pow_le9 _ (by omega), by rw [Int.natCast_mul]; rfl, rfl⟩
        case measure => rw [← HSZ.out]; simp; omega
      · have hnx : ∀ ty, (Instr.next (.pointer (some ⟨w.heap.size + 1 + 1, 0, none⟩)) true ty).run Tryz.prog (W0.iter s2 pos) = .ok (.tuple #[.bool false]) (W0.iter s2 pos) := fun ty => by rw [← HSZ.out]; exact run_next_end W0 s2 pos ty hp
        go_wp2_with fail
        go_meet
        have e : pos = s2.size := by omega
        rw [hW0.out, ← e]
        exact after_pow w nm s2 dim num den pos pos P HP.out
  case rest =>
    obtain ⟨P, hP, rfl, hap⟩ := hcut
    have hw1 := HW.out.below (hap.below)
    have HW1 := Lib.hid hw1
    have HP := Lib.hid hP
    have HAP := Lib.hid hap
    clear hw1 hP hap
    have hP9 : (P : Int) ≤ 1000000000 := by rw [HP.out]; exact pow_le9 _ hs2
    have hP1 : 1 ≤ (P : Int) := by have := Nat.pow_pos (n := s2.size) (show 0 < 10 by decide); rw [HP.out]; omega
    obtain ⟨b, hbe⟩ : ∃ b, (!s2.toList.isEmpty) = b := ⟨_, rfl⟩
    go_upto_if 24 with fail
    have HBE := Lib.hid hbe
    clear hbe
    obtain ⟨F, hF⟩ : ∃ F, F = if s2.data.toList = [] then 0 else U.valueOf s2.data.toList := ⟨_, rfl⟩
    have HF := Lib.hid hF
    clear hF
    go_cut [9] (fun v wx => v = .int .u64 F ∧ Below wc.heap.size wc wx)
    case first =>
      cases b
      · have he : s2.data.toList = [] := by have := HBE.out; rw [Lib.toList_data] at this; simpa using this
        go_wp2_with fail
        go_meet
        exact ⟨by rw [HF.out, if_pos he]; rfl, Below.refl _ _⟩
      · have he : ¬ s2.data.toList = [] := by have := HBE.out; rw [Lib.toList_data] at this; simpa using this
        have HE := Lib.hid he
        clear he
        go_wp2_with (go_at_call 48; go_must (refine (value_any s2 _ HW1.out (by omega)).mono ?_); rintro e w1 ⟨rfl, hb1⟩)
        go_meet
        exact ⟨by rw [HF.out, if_neg HE.out], by assumption⟩
    case rest =>
      obtain ⟨rfl, hb⟩ := hcut
      have HW2 := Lib.hid (HW1.out.below hb)
      have HAP2 := Lib.hid (HAP.out.keep hb)
      clear HAP HW1 HW hb HBE
      obtain ⟨V, HV⟩ : ∃ V : Nat, Hid (V = U.valueOf s1.data.toList) := ⟨_, rfl⟩
      have VS : ∀ w : World, Std w → Calls Tryz.prog 48 #[.string s1] w fun e w' => e = .returned (.int .u64 (V : Int)) ∧ Below w.heap.size w w' := fun w hw => by
        rw [HV.out]; exact value_any s1 w hw (by omega)
      have HVS := Lib.hid VS
      clear VS
      obtain ⟨h1, l1, c, l2, H, a, b1, b0, nh, D, hN⟩ := U.nums V P F num den (by rw [HV.out]; exact U.valueOf_le _) (by omega) (by omega) (by rw [HF.out]; split; omega; exact U.valueOf_le _) (by omega) (by omega) hd1
      obtain ⟨bl1, bl2, bb0, bc, bh1, bH, bab, bnh, bD, bD1⟩ : (l1 : Int) < 18446744073709551616 ∧ (l2 : Int) < 18446744073709551616 ∧ (b0 : Int) < 18446744073709551616 ∧ (c : Int) ≤ 1 ∧ (h1 : Int) < 4294967296 ∧ (H : Int) < 4294967297 ∧
        (a : Int) + (b1 : Int) < 18446744073709551616 ∧ (nh : Int) < 18446744073709551616 ∧ (D : Int) ≤ 24000000000 ∧ 1 ≤ (D : Int) := ⟨hN.bl1, hN.bl2, hN.bb0, hN.bc, hN.bh1, hN.bH, hN.bab, hN.bnh, hN.bD, hN.bD1⟩
      have hH : (h1 : Int) + (c : Int) = (H : Int) := by have := hN.m3; omega
      have hnh : (a : Int) + (b1 : Int) = (nh : Int) := by have := hN.m6; omega
      have hD : IntKind.u64.wrap ((P : Int) * (den : Int)) = (D : Int) := wrapMul hN.m7 (by omega)
      have hadd := fun w => add64_carry l1 F c l2 w hN.m2 (by omega)
      have M1 := Lib.hid fun w => mul64_any V P h1 l1 (by rw [HV.out]; have := U.valueOf_le s1.data.toList; unfold U.capV at this; omega) (by omega) (by omega) hN.m1 w
      have sc : ∀ w : World, Calls Tryz.prog 51 #[.int .u64 H, .int .u64 l2, .int .u64 num] w fun e w' =>
          e = .returned (.tuple #[.agg #[.int .u64 (nh : Int), .int .u64 b0], .bool false]) ∧ Below w.heap.size w w' := fun w => by
        rw [← hnh]; exact scaled_any H l2 num a b1 b0 w (by omega) bl2 (by omega) hN.m4 hN.m5 bb0 bab
      have SC := Lib.hid sc
      clear sc
      have hsz2 : s2.data.toList.length = s2.size := Array.length_toList
      have HAM := Lib.hid (U.amountM_eq (dim := dim) (s1 := s1.data.toList) (s2 := s2.data.toList) hN HV.out (by rw [hsz2]; exact HP.out) HF.out)
      clear hN hsz2
      go_wp2_with fail
      refine (HVS.out _ HW2.out).mono ?_
      rintro e w1 ⟨rfl, hb1⟩
      have HW3 := Lib.hid (HW2.out.below hb1)
      have HAP3 := Lib.hid (HAP2.out.keep hb1)
      clear HAP2 HW2 hb1
      go_wp2_with fail
      refine (M1.out _).mono ?_
      rintro e w2 ⟨rfl, rfl⟩
      obtain ⟨hbel, hsize, hc1, hc2, hc3, hr0, hr1, hf0, hf1⟩ := id HAP3.out
      go_wp2_with fail
      refine (SC.out _).mono ?_
      rintro e w2 ⟨rfl, hb2⟩
      clear hbel hsize hc1 hc2 hc3 hr0 hr1 hf0 hf1 hadd hH hnh
      have HW4 := Lib.hid (HW3.out.below hb2)
      have HAP4 := Lib.hid (HAP3.out.keep hb2)
      clear HAP3 HW3 hb2
      obtain ⟨hbel, hsize, hc1, hc2, hc3, hr0, hr1, hf0, hf1⟩ := id HAP4.out
      have HBEL := Lib.hid hbel
      clear hbel
      have hk := HAP4.out.keep ((Below.refl _ _).alloc (Nat.le_refl _) (.cells #[.int .u64 nh, .int .u64 b0] 95))
      have hk3 := hk.c3
      have hk4 := hk.r0
      have hk5 := hk.r1
      have hk6 := hk.f0
      have hk7 := hk.f1
      clear hk
      by_cases hge : (D : Int) ≤ (nh : Int)
      · have hge' : D ≤ nh := by omega
        have hd1 : decide (D ≤ nh) = true := by simp; omega
        go_wp2_with fail
        rw [HAM.out, U.amountT_top hge' (by omega)]
        refine bodyPost_ret (v := .tuple #[.agg #[.int .i64 0, .int .i64 0], .int .i64 7]) (by simp [results, Tryz.results30, go_sem, hk4, hk5]) rfl ⟨rfl, ?_⟩
        exact ((HBEL.out.alloc (by omega) _).setCell (by simp) _).setCell (by simp) _
      · have hd1 : decide (D ≤ nh) = false := by simp; omega
        have hlt : Hid ((nh : Int) < (D : Int)) := by show (nh : Int) < (D : Int); omega
        clear hge
        obtain ⟨q, r, HQR⟩ : ∃ q r : Nat, Hid (q = (nh * 18446744073709551616 + b0) / D ∧ r = (nh * 18446744073709551616 + b0) % D) := ⟨_, _, rfl, rfl⟩
        have dv : ∀ w : World, Calls Tryz.prog 52 #[.int .u64 nh, .int .u64 b0, .int .u64 D] w fun e w' =>
            e = .returned (.tuple #[.int .u64 (q : Int), .int .u64 (r : Int)]) ∧ Below w.heap.size w w' := fun w => by
          rw [HQR.out.1, HQR.out.2]; exact div64_any nh b0 D w (by have := hlt.out; omega) (by omega) (by omega)
        have DV := Lib.hid dv
        clear dv
        go_wp2_with fail
        refine (DV.out _).mono ?_
        rintro e w3 ⟨rfl, hb3⟩
        clear hsize hc1 hc2 hc3 hr0 hr1 hf0 hf1
        have HAP5 := Lib.hid ((HAP4.out.keep ((Below.refl _ _).alloc (Nat.le_refl _) _)).keep hb3)
        clear HAP4 hb3
        obtain ⟨hbel, hsize, hc1, hc2, hc3, hr0, hr1, hf0, hf1⟩ := id HAP5.out
        have HBEL5 := Lib.hid hbel
        clear hbel
        by_cases hr : r = 0
        · subst hr
          by_cases hq : (q : Int) ≤ 1125899906842624
          · have hd3 : decide (1125899906842624 < (q : Int)) = false := by simpa using hq
            have hcv : IntKind.i64.wrap (q : Int) = (q : Int) := IntWalk.i64_in _ (by omega)
            go_wp2_with fail
            rw [HAM.out, U.amountT_ok HQR.out.2.symm (by rw [← HQR.out.1]; omega), ← HQR.out.1]
            refine bodyPost_ret (v := .tuple #[.agg #[.int .i64 q, .int .i64 dim], .int .i64 0]) (by simp [results, Tryz.results30, go_sem, hr0, hr1]) rfl ⟨rfl, ?_⟩
            exact (HBEL5.out.setCell (by simp) _).setCell (by simp) _
          · have hd3 : decide (1125899906842624 < (q : Int)) = true := by simpa using hq
            go_wp2_with fail
            rw [HAM.out, U.amountT_big (by rw [← HQR.out.1]; omega)]
            refine bodyPost_ret (v := .tuple #[.agg #[.int .i64 0, .int .i64 0], .int .i64 7]) (by simp [results, Tryz.results30, go_sem, hr0, hr1]) rfl ⟨rfl, ?_⟩
            exact (HBEL5.out.setCell (by simp) _).setCell (by simp) _
        · have hr' : ¬ (nh * 18446744073709551616 + b0) % D = 0 := by rw [← HQR.out.2]; exact hr
          have HR := Lib.hid hr'
          clear hr'
          go_wp2_with fail
          rw [HAM.out, U.amountT_rest HR.out]
          refine bodyPost_ret (v := .tuple #[.agg #[.int .i64 0, .int .i64 0], .int .i64 7]) (by simp [results, Tryz.results30, go_sem, hr0, hr1]) rfl ⟨rfl, ?_⟩
          exact (HBEL5.out.setCell (by simp) _).setCell (by simp) _
end Go.Proofs.YtooajmbpncmgjaaGreatDoor
