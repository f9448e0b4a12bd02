/- The reference's Factor, by contract. -/
import Derived.Test.YtojdneepnfcnjaaDoorUnitI
import Derived.Test.YtojdneepnfcnjaaDoorUMath6
namespace Go.Proofs.YtojdneepnfcnjaaDoor
open Go.RowKit

def facRet : Option (Nat × Nat × Nat × Nat) → Value
  | some (d, c, z, q) => .tuple #[.int .i64 d, .int .i64 c, .int .i64 z, .int .i64 q, .bool true]
  | none => .tuple #[.int .i64 0, .int .i64 0, .int .i64 0, .int .i64 0, .bool false]

set_option maxRecDepth 100000 in
set_option maxHeartbeats 4000000 in
theorem factor_any (name : ByteArray) (w : World) : Calls Tryd.prog 16 #[.string name] w fun e w' => e = .returned (facRet (U.facOf name.data.toList)) ∧ w' = w := by
  by_cases h0 : name = ⟨#[]⟩
  · subst h0
    go_enter Tryd.func16, Tryd.ntmps16
    go_wp2_with fail
    refine bodyPost_ret (v := .tuple #[.int .i64 0, .int .i64 1, .int .i64 0, .int .i64 1, .bool true]) (by simp [results, Tryd.results16, go_sem]) rfl ⟨rfl, rfl⟩
  by_cases h1 : name = ⟨#[108]⟩
  · subst h1
    go_enter Tryd.func16, Tryd.ntmps16
    go_wp2_with fail
    refine bodyPost_ret (v := .tuple #[.int .i64 1, .int .i64 1, .int .i64 0, .int .i64 1, .bool true]) (by simp [results, Tryd.results16, go_sem]) rfl ⟨rfl, rfl⟩
  by_cases h2 : name = ⟨#[109, 51]⟩
  · subst h2
    go_enter Tryd.func16, Tryd.ntmps16
    go_wp2_with fail
    refine bodyPost_ret (v := .tuple #[.int .i64 1, .int .i64 1, .int .i64 3, .int .i64 1, .bool true]) (by simp [results, Tryd.results16, go_sem]) rfl ⟨rfl, rfl⟩
  by_cases h3 : name = ⟨#[77, 76]⟩
  · subst h3
    go_enter Tryd.func16, Tryd.ntmps16
    go_wp2_with fail
    refine bodyPost_ret (v := .tuple #[.int .i64 1, .int .i64 1, .int .i64 6, .int .i64 1, .bool true]) (by simp [results, Tryd.results16, go_sem]) rfl ⟨rfl, rfl⟩
  by_cases h4 : name = ⟨#[71, 76]⟩
  · subst h4
    go_enter Tryd.func16, Tryd.ntmps16
    go_wp2_with fail
    refine bodyPost_ret (v := .tuple #[.int .i64 1, .int .i64 1, .int .i64 9, .int .i64 1, .bool true]) (by simp [results, Tryd.results16, go_sem]) rfl ⟨rfl, rfl⟩
  by_cases h5 : name = ⟨#[108, 112, 104]⟩
  · subst h5
    go_enter Tryd.func16, Tryd.ntmps16
    go_wp2_with fail
    refine bodyPost_ret (v := .tuple #[.int .i64 2, .int .i64 1, .int .i64 0, .int .i64 1, .bool true]) (by simp [results, Tryd.results16, go_sem]) rfl ⟨rfl, rfl⟩
  by_cases h6 : name = ⟨#[108, 112, 115]⟩
  · subst h6
    go_enter Tryd.func16, Tryd.ntmps16
    go_wp2_with fail
    refine bodyPost_ret (v := .tuple #[.int .i64 2, .int .i64 36, .int .i64 2, .int .i64 1, .bool true]) (by simp [results, Tryd.results16, go_sem]) rfl ⟨rfl, rfl⟩
  by_cases h7 : name = ⟨#[109, 51, 112, 115]⟩
  · subst h7
    go_enter Tryd.func16, Tryd.ntmps16
    go_wp2_with fail
    refine bodyPost_ret (v := .tuple #[.int .i64 2, .int .i64 36, .int .i64 5, .int .i64 1, .bool true]) (by simp [results, Tryd.results16, go_sem]) rfl ⟨rfl, rfl⟩
  by_cases h8 : name = ⟨#[77, 76, 112, 100]⟩
  · subst h8
    go_enter Tryd.func16, Tryd.ntmps16
    go_wp2_with fail
    refine bodyPost_ret (v := .tuple #[.int .i64 2, .int .i64 1, .int .i64 6, .int .i64 24, .bool true]) (by simp [results, Tryd.results16, go_sem]) rfl ⟨rfl, rfl⟩
  by_cases h9 : name = ⟨#[109, 109]⟩
  · subst h9
    go_enter Tryd.func16, Tryd.ntmps16
    go_wp2_with fail
    refine bodyPost_ret (v := .tuple #[.int .i64 3, .int .i64 1, .int .i64 0, .int .i64 1, .bool true]) (by simp [results, Tryd.results16, go_sem]) rfl ⟨rfl, rfl⟩
  by_cases h10 : name = ⟨#[99, 109]⟩
  · subst h10
    go_enter Tryd.func16, Tryd.ntmps16
    go_wp2_with fail
    refine bodyPost_ret (v := .tuple #[.int .i64 3, .int .i64 1, .int .i64 1, .int .i64 1, .bool true]) (by simp [results, Tryd.results16, go_sem]) rfl ⟨rfl, rfl⟩
  by_cases h11 : name = ⟨#[109]⟩
  · subst h11
    go_enter Tryd.func16, Tryd.ntmps16
    go_wp2_with fail
    refine bodyPost_ret (v := .tuple #[.int .i64 3, .int .i64 1, .int .i64 3, .int .i64 1, .bool true]) (by simp [results, Tryd.results16, go_sem]) rfl ⟨rfl, rfl⟩
  by_cases h12 : name = ⟨#[104]⟩
  · subst h12
    go_enter Tryd.func16, Tryd.ntmps16
    go_wp2_with fail
    refine bodyPost_ret (v := .tuple #[.int .i64 4, .int .i64 1, .int .i64 0, .int .i64 1, .bool true]) (by simp [results, Tryd.results16, go_sem]) rfl ⟨rfl, rfl⟩
  by_cases h13 : name = ⟨#[100]⟩
  · subst h13
    go_enter Tryd.func16, Tryd.ntmps16
    go_wp2_with fail
    refine bodyPost_ret (v := .tuple #[.int .i64 4, .int .i64 24, .int .i64 0, .int .i64 1, .bool true]) (by simp [results, Tryd.results16, go_sem]) rfl ⟨rfl, rfl⟩
  by_cases h14 : name = ⟨#[109, 50]⟩
  · subst h14
    go_enter Tryd.func16, Tryd.ntmps16
    go_wp2_with fail
    refine bodyPost_ret (v := .tuple #[.int .i64 5, .int .i64 1, .int .i64 0, .int .i64 1, .bool true]) (by simp [results, Tryd.results16, go_sem]) rfl ⟨rfl, rfl⟩
  by_cases h15 : name = ⟨#[104, 97]⟩
  · subst h15
    go_enter Tryd.func16, Tryd.ntmps16
    go_wp2_with fail
    refine bodyPost_ret (v := .tuple #[.int .i64 5, .int .i64 1, .int .i64 4, .int .i64 1, .bool true]) (by simp [results, Tryd.results16, go_sem]) rfl ⟨rfl, rfl⟩
  by_cases h16 : name = ⟨#[107, 109, 50]⟩
  · subst h16
    go_enter Tryd.func16, Tryd.ntmps16
    go_wp2_with fail
    refine bodyPost_ret (v := .tuple #[.int .i64 5, .int .i64 1, .int .i64 6, .int .i64 1, .bool true]) (by simp [results, Tryd.results16, go_sem]) rfl ⟨rfl, rfl⟩
  by_cases h17 : name = ⟨#[112, 101, 114, 109, 105, 108, 108, 101]⟩
  · subst h17
    go_enter Tryd.func16, Tryd.ntmps16
    go_wp2_with fail
    refine bodyPost_ret (v := .tuple #[.int .i64 6, .int .i64 1, .int .i64 0, .int .i64 1, .bool true]) (by simp [results, Tryd.results16, go_sem]) rfl ⟨rfl, rfl⟩
  by_cases h18 : name = ⟨#[112, 101, 114, 99, 101, 110, 116]⟩
  · subst h18
    go_enter Tryd.func16, Tryd.ntmps16
    go_wp2_with fail
    refine bodyPost_ret (v := .tuple #[.int .i64 6, .int .i64 1, .int .i64 1, .int .i64 1, .bool true]) (by simp [results, Tryd.results16, go_sem]) rfl ⟨rfl, rfl⟩
  have t0 : (name.toList == []) = false := by rw [Lib.toList_data]; exact beq_eq_false_iff_ne.2 fun h => h0 (U.ba_ext h)
  have t0' : name.toList.isEmpty = false := by rw [Lib.toList_data]; simpa using fun h => h0 (U.ba_ext (by rw [h]))
  have t1 : (name.toList == [108]) = false := by rw [Lib.toList_data]; exact beq_eq_false_iff_ne.2 fun h => h1 (U.ba_ext h)
  have t2 : (name.toList == [109, 51]) = false := by rw [Lib.toList_data]; exact beq_eq_false_iff_ne.2 fun h => h2 (U.ba_ext h)
  have t3 : (name.toList == [77, 76]) = false := by rw [Lib.toList_data]; exact beq_eq_false_iff_ne.2 fun h => h3 (U.ba_ext h)
  have t4 : (name.toList == [71, 76]) = false := by rw [Lib.toList_data]; exact beq_eq_false_iff_ne.2 fun h => h4 (U.ba_ext h)
  have t5 : (name.toList == [108, 112, 104]) = false := by rw [Lib.toList_data]; exact beq_eq_false_iff_ne.2 fun h => h5 (U.ba_ext h)
  have t6 : (name.toList == [108, 112, 115]) = false := by rw [Lib.toList_data]; exact beq_eq_false_iff_ne.2 fun h => h6 (U.ba_ext h)
  have t7 : (name.toList == [109, 51, 112, 115]) = false := by rw [Lib.toList_data]; exact beq_eq_false_iff_ne.2 fun h => h7 (U.ba_ext h)
  have t8 : (name.toList == [77, 76, 112, 100]) = false := by rw [Lib.toList_data]; exact beq_eq_false_iff_ne.2 fun h => h8 (U.ba_ext h)
  have t9 : (name.toList == [109, 109]) = false := by rw [Lib.toList_data]; exact beq_eq_false_iff_ne.2 fun h => h9 (U.ba_ext h)
  have t10 : (name.toList == [99, 109]) = false := by rw [Lib.toList_data]; exact beq_eq_false_iff_ne.2 fun h => h10 (U.ba_ext h)
  have t11 : (name.toList == [109]) = false := by rw [Lib.toList_data]; exact beq_eq_false_iff_ne.2 fun h => h11 (U.ba_ext h)
  have t12 : (name.toList == [104]) = false := by rw [Lib.toList_data]; exact beq_eq_false_iff_ne.2 fun h => h12 (U.ba_ext h)
  have t13 : (name.toList == [100]) = false := by rw [Lib.toList_data]; exact beq_eq_false_iff_ne.2 fun h => h13 (U.ba_ext h)
  have t14 : (name.toList == [109, 50]) = false := by rw [Lib.toList_data]; exact beq_eq_false_iff_ne.2 fun h => h14 (U.ba_ext h)
  have t15 : (name.toList == [104, 97]) = false := by rw [Lib.toList_data]; exact beq_eq_false_iff_ne.2 fun h => h15 (U.ba_ext h)
  have t16 : (name.toList == [107, 109, 50]) = false := by rw [Lib.toList_data]; exact beq_eq_false_iff_ne.2 fun h => h16 (U.ba_ext h)
  have t17 : (name.toList == [112, 101, 114, 109, 105, 108, 108, 101]) = false := by rw [Lib.toList_data]; exact beq_eq_false_iff_ne.2 fun h => h17 (U.ba_ext h)
  have t18 : (name.toList == [112, 101, 114, 99, 101, 110, 116]) = false := by rw [Lib.toList_data]; exact beq_eq_false_iff_ne.2 fun h => h18 (U.ba_ext h)
  have hf : U.facOf name.data.toList = none := by
    unfold U.facOf
    rw [List.find?_eq_none.2 ?_]
    · rfl
    · intro u hu hb
      have hb' : u.1 = name.data.toList := by simpa using hb
      have hn : name = ⟨u.1.toArray⟩ := U.ba_ext hb'.symm
      simp only [U.facTab, List.mem_cons, List.not_mem_nil, or_false] at hu
      rcases hu with rfl | rfl | rfl | rfl | rfl | rfl | rfl | rfl | rfl | rfl | rfl | rfl | rfl | rfl | rfl | rfl | rfl | rfl | rfl
      · exact h0 hn
      · exact h1 hn
      · exact h2 hn
      · exact h3 hn
      · exact h4 hn
      · exact h5 hn
      · exact h6 hn
      · exact h7 hn
      · exact h8 hn
      · exact h9 hn
      · exact h10 hn
      · exact h11 hn
      · exact h12 hn
      · exact h13 hn
      · exact h14 hn
      · exact h15 hn
      · exact h16 hn
      · exact h17 hn
      · exact h18 hn
  have HF := Lib.hid hf
  clear hf h0 h1 h2 h3 h4 h5 h6 h7 h8 h9 h10 h11 h12 h13 h14 h15 h16 h17 h18
  go_enter Tryd.func16, Tryd.ntmps16
  go_wp2_with fail
  refine bodyPost_ret (v := .tuple #[.int .i64 0, .int .i64 0, .int .i64 0, .int .i64 0, .bool false]) (by simp [results, Tryd.results16, go_sem]) rfl ⟨?_, rfl⟩
  rw [HF.out]
  rfl
end Go.Proofs.YtojdneepnfcnjaaDoor
