/- unit.Write, by contract. -/
import Derived.Test.YtooajmbpncmgjaaGreatDoorUnitC
import Derived.Lib.AppendIntMem
namespace Go.Proofs.YtooajmbpncmgjaaGreatDoor
open Go.RowKit

theorem itoa_any (n : Int) (h0 : -9223372036854775808 ≤ n) (h1 : n ≤ 9223372036854775807) (w : World) (hw : Std w) :
    Calls Tryz.prog 54 #[.int .i64 n] w fun e w' => e = .returned (.string ⟨(Lib.itoa n).toArray⟩) ∧ Below w.heap.size w w' :=
  (Tryz.strconv_Itoa n h0 h1 w hw.pow).mono fun _ _ ⟨a, k, os, b⟩ => ⟨a, by rw [b]; exact Lib.below_grow _ w (Nat.le_refl _) k os⟩

/-- The boxed amount (block B). -/
structure AW (B : Nat) (w : World) (n d : Int) (wx : World) : Prop where
  below : Below B w wx
  size : B + 1 ≤ wx.heap.size
  c0 : wx.cell? ⟨B, 0, none⟩ = some (.int .i64 n)
  c1 : wx.cell? ⟨B, 1, none⟩ = some (.int .i64 d)
theorem AW.keep {B : Nat} {w : World} {n d : Int} {wx w' : World} (h : AW B w n d wx) (hb : Below wx.heap.size wx w') : AW B w n d w' := by
  have hs := h.size
  obtain ⟨hc, hf⟩ := bcell hb
  exact ⟨h.below.trans (hb.mono (by omega)), by have := hb.size; omega, (hc _ _ (by omega)).trans h.c0, (hc _ _ (by omega)).trans h.c1⟩
theorem AW.new (w : World) (n d : Int) : AW w.heap.size w n d (w.alloc (.cells #[.int .i64 n, .int .i64 d] 23)) := by
  have h1 := heap_alloc_new w (.cells #[.int .i64 n, .int .i64 d] 23)
  exact ⟨(Below.refl _ _).alloc (Nat.le_refl _) _, by simp, cell_of_row _ _ 0 _ _ (0, 0) h1, cell_of_row _ _ 1 _ _ (0, 0) h1⟩

theorem Std.drew {w : World} (hw : Std w) : Std w.drew := ⟨hw.syn, hw.rng, hw.units, hw.most, hw.pow⟩
theorem below_drew (w : World) : Below w.heap.size w w.drew := ⟨rfl, rfl, rfl, Nat.le_refl _, fun _ _ => rfl⟩
theorem cat3 (S nm : List UInt8) : (ByteArray.mk S.toArray ++ ByteArray.mk #[32] ++ ByteArray.mk nm.toArray) = ByteArray.mk (S ++ [32] ++ nm).toArray := by
  apply ByteArray.ext
  simp [ByteArray.data_append]
theorem dec_len : ∀ (k u : Nat), u < 10 ^ (k + 1) → (Lib.decDigits u).length ≤ k + 1
  | 0, u, h => by unfold Lib.decDigits; rw [dif_pos (by omega)]; simp
  | k + 1, u, h => by
    unfold Lib.decDigits
    split
    · simp
    · have := dec_len k (u / 10) (by rw [Nat.pow_succ] at h; omega)
      simp only [List.length_append, List.length_singleton]
      omega
theorem itoa_len (n : Int) (h0 : 0 ≤ n) (h1 : n ≤ 1125899906842624) : (Lib.itoa n).length ≤ 20 := by
  unfold Lib.itoa
  rw [if_neg (by omega)]
  exact dec_len 19 n.toNat (by omega)
theorem uName_len (k : Nat) (h : k < 19) : (U.uName k).length ≤ 8 := by
  have : ∀ k : Fin 19, (U.uName k.val).length ≤ 8 := by decide +kernel
  exact this ⟨k, h⟩
theorem ret_str {a b : ByteArray} (h : a = b) : Ending.returned (.string a) = .returned (.string b) := by rw [h]

set_option maxRecDepth 100000 in
set_option maxHeartbeats 1000000 in
theorem writeU_any (n d : Int) (w : World) (hw : Std w) (_hd0 : -9223372036854775808 ≤ d) (_hd1 : d ≤ 9223372036854775807) :
    Calls Tryz.prog 33 #[.agg #[.int .i64 n, .int .i64 d]] w fun e w' => e = .returned (.string ⟨(U.writeU n d).toArray⟩) ∧ Below w.heap.size w w' := by
  by_cases hneg : n < 0 ∨ 1125899906842624 < n
  · have hf : U.writeU n d = [] := by unfold U.writeU; rw [if_pos hneg]
    have HF := Lib.hid hf
    clear hf hw
    rcases hneg with h | h
    · have hd1 : decide (n < 0) = true := by simpa using h
      go_enter Tryz.func33, Tryz.ntmps33
      go_wp2_with fail
      go_ret
      exact ⟨ret_str (by rw [HF.out]), (Below.refl _ _).alloc (Nat.le_refl _) _⟩
    · have hd1 : decide (n < 0) = false := by simp; omega
      have hd2 : decide (1125899906842624 < n) = true := by simpa using h
      go_enter Tryz.func33, Tryz.ntmps33
      go_wp2_with fail
      go_ret
      exact ⟨ret_str (by rw [HF.out]), (Below.refl _ _).alloc (Nat.le_refl _) _⟩
  · have hf : U.writeU n d = match U.baseName d with
      | some nm => if nm = [] then Lib.itoa n else Lib.itoa n ++ [32] ++ nm
      | none => [] := by unfold U.writeU; rw [if_neg hneg]; rfl
    have HF := Lib.hid hf
    have hd1' : decide (n < 0) = false := by simp; omega
    have hd2 : decide (1125899906842624 < n) = false := by simp; omega
    have hn0 : 0 ≤ n := by omega
    have hn1 : n ≤ 1125899906842624 := by omega
    clear hf hneg
    have haw := AW.new w n d
    have hw1 := hw.below haw.below
    obtain ⟨tu, fu, hu⟩ := hw1.units
    have HW1 := Lib.hid hw1
    have HAW := Lib.hid haw
    clear hw1 hw haw
    go_enter Tryz.func33, Tryz.ntmps33
    go_wp2_with (refine wpList_load_row rfl 74 _ rfl 0 rfl tu unitCells fu _ hu Tryz.underlying74 rfl (by kernel_rfl) ?_)
    clear hu hd1' hd2
    go_loopw [14] (fun i wr => ∃ k : Nat, k ≤ 19 ∧ i = .int .i64 k ∧ Hid (∀ j, j < k → (U.uDim j : Int) ≠ d) ∧ Hid (AW w.heap.size w n d wr) ∧ Hid (Std wr)) (fun i _ => (19 - intOf i).toNat)
    case atStart => exact ⟨0, by omega, rfl, fun j hj => absurd hj (by omega), HAW.out, HW1.out⟩
    case round =>
      obtain ⟨k, hk, rfl, hno, haw, hw⟩ := hrel
      clear HAW HW1
      by_cases hlt : k < 19
      · have hix := index_units k hlt
        have halloc := fun o => (Below.refl wr.heap.size wr).alloc (Nat.le_refl _) o
        have haw2 := haw.out.keep (halloc (.cells #[.string ⟨(U.uName k).toArray⟩, .int .i64 (U.uDim k), .int .u64 (U.uNum k), .int .u64 (U.uDen k)] 73))
        have hw2 := hw.out.below (halloc (.cells #[.string ⟨(U.uName k).toArray⟩, .int .i64 (U.uDim k), .int .u64 (U.uNum k), .int .u64 (U.uDen k)] 73))
        obtain ⟨hbel, hsize, c0, c1⟩ := id haw2
        have HAW2 := Lib.hid haw2
        have HW2 := Lib.hid hw2
        have HBEL := Lib.hid hbel
        clear halloc haw2 hw2 hbel
        by_cases hdm : (U.uDim k : Int) = d
        · have hb1 : ((U.uDim k : Int) == d) = true := by simpa using hdm
          have hb2 : ((U.uDim k : Int) != d) = false := by simpa using hdm
          have hbn := U.baseName_at hlt hdm hno.out
          have HBN := Lib.hid hbn
          clear hdm hbn
          by_cases hnm : U.uName k = []
          · have hf : U.writeU n d = Lib.itoa n := by rw [HF.out, HBN.out]; simp only [if_pos hnm]
            have HF2 := Lib.hid hf
            have hb3 : (ByteArray.mk (U.uName k).toArray).toList = [] := by rw [Lib.toList_data]; exact hnm
            have hb4 : (U.uName k).isEmpty = true := by rw [hnm]; rfl
            clear hf hnm
            have IT := Lib.hid (itoa_any n (by omega) (by omega) _ HW2.out)
            go_wp2_with fail
            refine IT.out.mono ?_
            rintro e w2 ⟨rfl, hb⟩
            go_wp2_with fail
            go_ret
            exact ⟨ret_str (by rw [HF2.out]), HBEL.out.trans (hb.mono (by have := HAW2.out.size; omega))⟩
          · have hf : U.writeU n d = Lib.itoa n ++ [32] ++ U.uName k := by rw [HF.out, HBN.out]; simp only [if_neg hnm]
            have HF2 := Lib.hid hf
            have hb3 : ¬ (ByteArray.mk (U.uName k).toArray).toList = [] := by rw [Lib.toList_data]; exact hnm
            have hb4 : (U.uName k).isEmpty = false := by simpa using hnm
            clear hf hnm hb3
            have it := itoa_any n (by omega) (by omega) _ HW2.out.drew
            have hl := itoa_len n hn0 hn1
            have hl2 := uName_len k hlt
            have hF := HF2.out
            generalize Lib.itoa n = S at it hl hF
            have IT := Lib.hid it
            have HF3 := Lib.hid hF
            clear it hF
            go_wp2_with fail
            go_region_with (go_at_call 54; refine IT.out.mono ?_; rintro e w2 ⟨rfl, hb⟩; have hq := (bcell hb).1; have hz := hb.size)
            all_goals
              go_wp2_with fail
              go_ret
              exact ⟨ret_str (by rw [HF3.out]; exact cat3 _ _), HBEL.out.trans ((below_drew _).trans hb |>.mono (by have := HAW2.out.size; omega))⟩
        · have hb1 : ((U.uDim k : Int) == d) = false := by simpa using hdm
          have hb2 : ((U.uDim k : Int) != d) = true := by simpa using hdm
          have HDM := Lib.hid hdm
          clear hdm
          go_wp2_with fail
          refine ⟨⟨k + 1, by omega, by go_num, ?_, HAW2.out, HW2.out⟩, by simp [intOf]; omega⟩
          intro j hj
          rcases Nat.lt_or_ge j k with h | h
          · exact hno.out j h
          · obtain rfl : j = k := by omega
            exact HDM.out
      · have hk19 : k = 19 := by omega
        have hf : U.writeU n d = [] := by rw [HF.out, U.baseName_none (by rw [← hk19]; exact hno.out)]
        have HF2 := Lib.hid hf
        clear hk19 hf
        obtain ⟨hbel, hsize, c0, c1⟩ := id haw.out
        go_wp2_with fail
        go_ret
        exact ⟨ret_str (by rw [HF2.out]), hbel⟩
end Go.Proofs.YtooajmbpncmgjaaGreatDoor
