/- unit.Amount, by contract. -/
import Derived.Test.YtooajmbpncmgjaaGreatDoorUnitB
namespace Go.Proofs.YtooajmbpncmgjaaGreatDoor
open Go.RowKit

theorem index_units (k : Nat) (hk : k < 19) (w : World) : (Instr.index 74 (.agg unitCells) (.int .i64 (k : Int))).run Tryz.prog w =
    .ok (.agg #[.string ⟨(U.uName k).toArray⟩, .int .i64 (U.uDim k), .int .u64 (U.uNum k), .int .u64 (U.uDen k)]) w := by
  have : ∀ k : Nat, k < 19 → (Instr.index 74 (.agg unitCells) (.int .i64 (k : Int))).run Tryz.prog w =
    .ok (.agg #[.string ⟨(U.uName k).toArray⟩, .int .i64 (U.uDim k), .int .u64 (U.uNum k), .int .u64 (U.uDen k)]) w := fun
    | 0, _ => by kernel_rfl | 1, _ => by kernel_rfl | 2, _ => by kernel_rfl | 3, _ => by kernel_rfl | 4, _ => by kernel_rfl | 5, _ => by kernel_rfl | 6, _ => by kernel_rfl | 7, _ => by kernel_rfl
    | 8, _ => by kernel_rfl | 9, _ => by kernel_rfl | 10, _ => by kernel_rfl | 11, _ => by kernel_rfl | 12, _ => by kernel_rfl | 13, _ => by kernel_rfl | 14, _ => by kernel_rfl | 15, _ => by kernel_rfl
    | 16, _ => by kernel_rfl | 17, _ => by kernel_rfl | 18, _ => by kernel_rfl
    | k + 19, h => by omega
  exact this k hk

theorem cut_any (s : ByteArray) (w : World) (hw : Std w) (hs : s.size ≤ 1000000) :
    Calls Tryz.prog 28 #[.string s, .string ⟨#[46]⟩] w fun e w' => e = .returned (.tuple #[.string ⟨(Lib.cut s.data.toList [46]).1.toArray⟩, .string ⟨(Lib.cut s.data.toList [46]).2.1.toArray⟩, .bool (Lib.cut s.data.toList [46]).2.2]) ∧ Below w.heap.size w w' := by
  obtain ⟨m, hm⟩ := hw.most
  exact (Tryz.strings_Cut s ⟨#[46]⟩ m w (by omega) hm).mono fun e w' ⟨a, n, b⟩ => ⟨a, by rw [b]; exact below_drewN' w n⟩

/-- The result's cells (block B), and what else stays. -/
structure AR (B : Nat) (w : World) (wx : World) : Prop where
  below : Below B w wx
  size : B + 1 ≤ wx.heap.size
  r0 : wx.cell? ⟨B, 0, none⟩ = some (.int .i64 0)
  r1 : wx.cell? ⟨B, 1, none⟩ = some (.int .i64 0)
  f0 : wx.frozen? ⟨B, 0, none⟩ = false
  f1 : wx.frozen? ⟨B, 1, none⟩ = false
theorem AR.keep {B : Nat} {w : World} {wx w' : World} (h : AR B w wx) (hb : Below wx.heap.size wx w') : AR B w w' := by
  have hs := h.size
  obtain ⟨hc, hf⟩ := bcell hb
  exact ⟨h.below.trans (hb.mono (by omega)), by have := hb.size; omega, (hc _ _ (by omega)).trans h.r0, (hc _ _ (by omega)).trans h.r1, (hf _ _ (by omega)).trans h.f0, (hf _ _ (by omega)).trans h.f1⟩
theorem AR.new (w : World) : AR w.heap.size w (w.alloc (.cells #[.int .i64 0, .int .i64 0] 23)) := by
  have h1 := heap_alloc_new w (.cells #[.int .i64 0, .int .i64 0] 23)
  exact ⟨(Below.refl _ _).alloc (Nat.le_refl _) _, by simp, cell_of_row _ _ 0 _ _ (0, 0) h1, cell_of_row _ _ 1 _ _ (0, 0) h1, by unfold World.frozen?; simp only [h1]; rfl, by unfold World.frozen?; simp only [h1]; rfl⟩

theorem take_le {α : Type} (l : List α) (n : Nat) : (l.take n).length ≤ l.length := by rw [List.length_take]; omega
theorem cut_len {s c1 c2 : List UInt8} {c3 : Bool} (h : Lib.cut s [46] = (c1, c2, c3)) : c1.length ≤ s.length ∧ c2.length ≤ s.length := by
  unfold Lib.cut at h
  split at h
  · injection h with h1 h2
    injection h2 with h2 h3
    subst h1 h2
    exact ⟨take_le _ _, by rw [List.length_drop]; omega⟩
  · injection h with h1 h2
    injection h2 with h2 h3
    subst h1 h2
    exact ⟨Nat.le_refl _, Nat.zero_le _⟩
theorem cut_none {s c1 c2 : List UInt8} (h : Lib.cut s [46] = (c1, c2, false)) : c2 = [] := by
  unfold Lib.cut at h
  split at h
  · injection h with h1 h2
    injection h2 with h2 h3
    cases h3
  · injection h with h1 h2
    injection h2 with h2 h3
    exact h2.symm
theorem digitsB_len {l : List UInt8} {m : Nat} (h : U.digitsB l m = true) : l.length ≤ m := by
  unfold U.digitsB at h
  simp only [Bool.and_eq_true, decide_eq_true_eq] at h
  exact h.1.2
theorem digitsB_all {l : List UInt8} {m : Nat} (h : U.digitsB l m = true) : l.all U.isDig = true := by
  unfold U.digitsB at h
  simp only [Bool.and_eq_true] at h
  exact h.2

theorem digits_eq (l : List UInt8) (most : Nat) (b : Bool) (hb : U.digitsB l most = b) (hl : l.length ≤ 1000000) (hm : most ≤ 100) (w : World) :
    Calls Tryz.prog 29 #[.string ⟨l.toArray⟩, .int .i64 most] w fun e w' => e = .returned (.bool b) ∧ Below w.heap.size w w' := by
  have h := digits_any ⟨l.toArray⟩ most w (by show l.length ≤ _; unfold maxLen; omega) hm
  rw [show (ByteArray.mk l.toArray).data.toList = l from rfl, hb] at h
  exact h

theorem dig_ascii {l : List UInt8} (h : l.all U.isDig = true) (i : Nat) (hi : i < (ByteArray.mk l.toArray).size) : ((ByteArray.mk l.toArray)[i]'hi).toNat < 128 := by
  have hi' : i < l.length := hi
  have h1 := List.all_eq_true.1 h l[i] (List.getElem_mem hi')
  unfold U.isDig at h1
  have h2 := of_decide_eq_true h1
  have e : (ByteArray.mk l.toArray)[i]'hi = l[i] := by
    show l.toArray[i]'_ = _
    simp
  rw [e]
  omega

set_option maxRecDepth 100000 in
set_option maxHeartbeats 1000000 in
theorem amountU_any (number name : ByteArray) (w : World) (hw : Std w) (hs : number.size ≤ 1000000) :
    Calls Tryz.prog 16 #[.string number, .string name] w fun e w' =>
      e = .returned (.tuple #[.agg #[.int .i64 (U.amountU number.data.toList name.data.toList).1, .int .i64 (U.amountU number.data.toList name.data.toList).2.1],
        .int .i64 (U.amountU number.data.toList name.data.toList).2.2]) ∧ Below w.heap.size w w' := by
  have har := AR.new w
  have hw1 := hw.below har.below
  obtain ⟨c1, c2, c3, hct⟩ : ∃ c1 c2 c3, Lib.cut number.data.toList [46] = (c1, c2, c3) := ⟨_, _, _, rfl⟩
  have cu := cut_any number _ hw1 hs
  rw [hct] at cu
  obtain ⟨bad, hbad⟩ : ∃ b, (!U.digitsB c1 20 || (c3 && !U.digitsB c2 9)) = b := ⟨_, rfl⟩
  have hfin : U.amountU number.data.toList name.data.toList = if bad then (0, 0, 2) else
      match U.unitOf name.data.toList with
      | some (dim, num, den) => U.amountM dim num den c1 c2
      | none => (0, 0, 6) := by unfold U.amountU; rw [hct]; simp only [hbad]; rfl
  have CU := Lib.hid cu
  have HF := Lib.hid hfin
  have HW := Lib.hid hw1
  have HAR := Lib.hid har
  have hc1 : c1.length ≤ 1000000 ∧ c2.length ≤ 1000000 := by
    have h := cut_len hct
    have hl : number.data.toList.length = number.size := Array.length_toList
    omega
  have hc2 : bad = false → c2.length ≤ 9 ∧ c1.length ≤ 20 ∧ c2.all U.isDig = true := by
    rintro rfl
    simp only [Bool.or_eq_false_iff, Bool.not_eq_false'] at hbad
    obtain ⟨h1, h2⟩ := hbad
    cases c3 with
    | false => rw [cut_none hct]; exact ⟨by simp, digitsB_len h1, rfl⟩
    | true =>
      simp only [Bool.true_and, Bool.not_eq_false'] at h2
      exact ⟨digitsB_len h2, digitsB_len h1, digitsB_all h2⟩
  have HC := Lib.hid hc1
  have HC2 := Lib.hid hc2
  have HB := Lib.hid hbad
  clear cu hfin hw hw1 har hc1 hct hc2 hbad
  go_enter Tryz.func16, Tryz.ntmps16
  go_wp2_with fail
  refine CU.out.mono ?_
  rintro e w1 ⟨rfl, hb1⟩
  have HAR1 := Lib.hid (HAR.out.keep hb1)
  have HW1 := Lib.hid (HW.out.below hb1)
  clear HAR HW hb1 CU
  go_upto_region 2 with fail
  go_cut [27] (fun v wx => v = .bool bad ∧ Below w1.heap.size w1 wx)
  case first =>
    cases hd1 : U.digitsB c1 20 with
    | false =>
      have D1 := Lib.hid (digits_eq c1 20 false hd1 HC.out.1 (by omega))
      have hbb : bad = true := by rw [← HB.out, hd1]; rfl
      have HBB := Lib.hid hbb
      clear hd1 hbb
      go_wp2_with fail
      refine (D1.out _).mono ?_
      rintro e w2 ⟨rfl, hb2⟩
      go_wp2_with fail
      go_meet
      exact ⟨by rw [HBB.out], by assumption⟩
    | true =>
      have D1 := Lib.hid (digits_eq c1 20 true hd1 HC.out.1 (by omega))
      cases c3 with
      | false =>
        have hbb : bad = false := by rw [← HB.out, hd1]; rfl
        have HBB := Lib.hid hbb
        clear hd1 hbb
        go_wp2_with fail
        refine (D1.out _).mono ?_
        rintro e w2 ⟨rfl, hb2⟩
        go_wp2_with fail
        go_meet
        exact ⟨by rw [HBB.out], by assumption⟩
      | true =>
        have D2 := Lib.hid (digits_eq c2 9 (!bad) (by rw [← HB.out, hd1]; simp) HC.out.2 (by omega))
        clear hd1
        cases bad
        all_goals
          go_wp2_with fail
          refine (D1.out _).mono ?_
          rintro e w2 ⟨rfl, hb2⟩
          go_wp2_with fail
          refine (D2.out _).mono ?_
          rintro e w3 ⟨rfl, hb3⟩
          go_wp2_with fail
          go_meet
          exact ⟨rfl, hb2.trans (hb3.mono hb2.size)⟩
  case rest =>
    obtain ⟨rfl, hb⟩ := hcut
    have HAR2 := Lib.hid (HAR1.out.keep hb)
    have HW2 := Lib.hid (HW1.out.below hb)
    clear HAR1 HW1 hb HB
    cases bad with
    | true =>
      have HFT : Hid (U.amountU number.data.toList name.data.toList = (0, 0, 2)) := HF.out
      clear HF
      obtain ⟨hbel, hsize, hr0, hr1, hf0, hf1⟩ := id HAR2.out
      go_wp2_with fail
      rw [HFT.out]
      refine bodyPost_ret (v := .tuple #[.agg #[.int .i64 0, .int .i64 0], .int .i64 2]) (by simp [results, Tryz.results16, go_sem, hr0, hr1]) rfl ⟨rfl, ?_⟩
      exact ((hbel.setCell (by simp) _).setCell (by simp) _)
    | false =>
      have HFF : Hid (U.amountU number.data.toList name.data.toList = match U.unitOf name.data.toList with
        | some (dim, num, den) => U.amountM dim num den c1 c2
        | none => (0, 0, 6)) := HF.out
      clear HF
      obtain ⟨hc9, hc20, hall⟩ := HC2.out rfl
      have HALL := Lib.hid hall
      clear hall HC2
      obtain ⟨hbel, hsize, hr0, hr1, hf0, hf1⟩ := id HAR2.out
      obtain ⟨tu, fu, hu⟩ := HW2.out.units
      go_wp2_with (refine wpList_load_row rfl 74 _ rfl 0 rfl tu unitCells fu _ hu Tryz.underlying74 rfl (by kernel_rfl) ?_)
      clear hbel hsize hr0 hr1 hf0 hf1
      go_loopw [30] (fun i wr => ∃ k : Nat, k ≤ 19 ∧ i = .int .i64 k ∧ Hid (∀ j, j < k → U.uName j ≠ name.data.toList) ∧ Hid (AR w.heap.size w wr) ∧ Hid (Std wr)) (fun i _ => (19 - intOf i).toNat)
      case atStart => exact ⟨0, by omega, rfl, fun j hj => absurd hj (by omega), HAR2.out, HW2.out⟩
      case round =>
        clear hu
        obtain ⟨k, hk, rfl, hno, har, hw⟩ := hrel
        by_cases hlt : k < 19
        · have hix := index_units k hlt
          have halloc := fun o => (Below.refl wr.heap.size wr).alloc (Nat.le_refl _) o
          have HAL := Lib.hid halloc
          clear halloc
          by_cases hnm : U.uName k = name.data.toList
          · have hb1 : (U.uName k == name.toList) = true := by rw [Lib.toList_data]; simpa using hnm
            have HNM := Lib.hid hnm
            clear hnm
            obtain ⟨n1, n2, d1, d2, _⟩ := U.u_bounds k hlt
            have am : ∀ w : World, Std w → Calls Tryz.prog 30 #[.agg #[.string ⟨(U.uName k).toArray⟩, .int .i64 (U.uDim k), .int .u64 (U.uNum k), .int .u64 (U.uDen k)], .string ⟨c1.toArray⟩, .string ⟨c2.toArray⟩] w fun e w' =>
                e = .returned (.tuple #[.agg #[.int .i64 (U.amountM (U.uDim k) (U.uNum k) (U.uDen k) c1 c2).1, .int .i64 (U.amountM (U.uDim k) (U.uNum k) (U.uDen k) c1 c2).2.1],
                  .int .i64 (U.amountM (U.uDim k) (U.uNum k) (U.uDen k) c1 c2).2.2]) ∧ Below w.heap.size w w' := fun w hw =>
              amount_any ⟨(U.uName k).toArray⟩ ⟨c1.toArray⟩ ⟨c2.toArray⟩ (U.uDim k) (U.uNum k) (U.uDen k) w hw (by show c1.length ≤ _; omega) (by show c2.length ≤ _; omega)
                (fun i hi => dig_ascii (HALL.out) i hi) n1 (by omega) d1 (by omega)
            have hamt : U.amountU number.data.toList name.data.toList = U.amountM (U.uDim k) (U.uNum k) (U.uDen k) c1 c2 := by
              rw [HFF.out, U.unitOf_at hlt HNM.out hno.out]
            generalize U.amountM (U.uDim k) (U.uNum k) (U.uDen k) c1 c2 = R at am hamt
            have AM := Lib.hid am
            have HAMT := Lib.hid hamt
            clear am hamt n1 n2 d1 d2
            go_wp2_with fail
            refine (AM.out _ (hw.out.below (HAL.out _))).mono ?_
            rintro e w2 ⟨rfl, hb2⟩
            obtain ⟨hbel, hsize, hr0, hr1, hf0, hf1⟩ := (har.out.keep (HAL.out _)).keep hb2
            clear hb2
            go_wp2_with fail
            rw [HAMT.out]
            refine bodyPost_ret (v := .tuple #[.agg #[.int .i64 R.1, .int .i64 R.2.1], .int .i64 R.2.2]) (by simp [results, Tryz.results16, go_sem, hr0, hr1]) rfl ⟨rfl, ?_⟩
            exact ((hbel.setCell (by simp) _).setCell (by simp) _)
          · have hb1 : (U.uName k == name.toList) = false := by rw [Lib.toList_data]; simpa using hnm
            have HNM := Lib.hid hnm
            clear hnm
            go_wp2_with fail
            refine ⟨⟨k + 1, by omega, by go_num, ?_, har.out.keep (HAL.out _), hw.out.below (HAL.out _)⟩, by simp [intOf]; omega⟩
            intro j hj
            rcases Nat.lt_or_ge j k with h | h
            · exact hno.out j h
            · obtain rfl : j = k := by omega
              exact HNM.out
        · have hk19 : k = 19 := by omega
          have hamt : U.amountU number.data.toList name.data.toList = (0, 0, 6) := by
            rw [HFF.out, U.unitOf_none (by rw [← hk19]; exact hno.out)]
          have HAMT := Lib.hid hamt
          obtain ⟨hbel, hsize, hr0, hr1, hf0, hf1⟩ := id har.out
          clear hk19 hamt
          go_wp2_with fail
          rw [HAMT.out]
          refine bodyPost_ret (v := .tuple #[.agg #[.int .i64 0, .int .i64 0], .int .i64 6]) (by simp [results, Tryz.results16, go_sem, hr0, hr1]) rfl ⟨rfl, ?_⟩
          exact ((hbel.setCell (by simp) _).setCell (by simp) _)
end Go.Proofs.YtooajmbpncmgjaaGreatDoor
