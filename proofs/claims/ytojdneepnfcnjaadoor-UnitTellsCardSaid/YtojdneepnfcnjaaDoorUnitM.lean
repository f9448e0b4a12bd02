/- The reference's Times, by contract. -/
import Derived.Test.YtojdneepnfcnjaaDoorUnitK
import Derived.Lib.SmallJoins
namespace Go.Proofs.YtojdneepnfcnjaaDoor
open Go.RowKit

/-- A number in a row. -/
def nv (n : Nat) : Value := .int .i64 (n : Int)

/-- What Times' loop keeps. -/
structure TM (B : Nat) (w : World) (v : Value) (E : List Nat) (m L k c : Nat) (wr : World) : Prop where
  own : ∃ D : List Nat, D.length = L - k ∧ (∀ d ∈ D, d < 10) ∧ U.valL (E.drop k) * m = c * 10 ^ (L - k) + U.valL D ∧ wr.ownsRow B 3 1 v L ((E.take k ++ D).map nv)
  c1 : c ≤ m
  below : Below B w wr

theorem nv_one (E : List Nat) : ∀ u ∈ E.map nv, u.oneCell' = true := by
  intro u hu
  obtain ⟨n, _, rfl⟩ := List.mem_map.1 hu
  rfl

set_option maxRecDepth 100000 in
set_option maxHeartbeats 1000000 in
theorem times_any (v : Value) (ds : List Nat) (m B0 : Nat) (w : World) (hown : w.ownsRow B0 3 1 v ds.length (ds.map nv)) (hne : ds ≠ []) (hd : ∀ d ∈ ds, d < 10) (hm : m ≤ 1000000) (hl : ds.length ≤ 1000) :
    Calls Tryd.prog 22 #[v, .int .i64 m] w fun e w' => ∃ v' D c, e = .returned v' ∧ D.length = ds.length + 2 ∧ (∀ d ∈ D, d < 10) ∧ U.valL ds * m = c * 10 ^ (ds.length + 2) + U.valL D ∧
      w'.ownsRow w.heap.size 3 1 v' (ds.length + 2) (D.map nv) ∧ Below w.heap.size w w' := by
  obtain ⟨i0, hi, hz0, hz1, hz2⟩ := info_parts intInfo
  obtain ⟨g, cap, rfl⟩ := Go.Joins.ownsRow_form hown (List.length_pos_iff.2 hne)
  obtain ⟨B, hB⟩ : ∃ B, B = w.heap.size := ⟨_, rfl⟩
  rw [← hB]
  have HB := Lib.hid hB
  have HOWN0 := Lib.hid (hown.alloc (.cells #[.int .i64 0, .int .i64 0] 3))
  have HLIT := Lib.hid (World.ownsRow_lit (base := B) (e := 3) (size := 1) w #[.int .i64 0, .int .i64 0] 2 (by omega) (by unfold maxLen; omega) rfl)
  have HE : Hid (∀ d ∈ 0 :: 0 :: ds, d < 10) := by
    intro d h
    rcases List.mem_cons.1 h with rfl | h
    · omega
    · rcases List.mem_cons.1 h with rfl | h
      · omega
      · exact hd d h
  have HV : Hid (U.valL (0 :: 0 :: ds) = U.valL ds) := by simp [Hid, U.valL]
  have HNE := Lib.hid hne
  obtain ⟨L, hL⟩ : ∃ L, L = ds.length + 2 := ⟨_, rfl⟩
  obtain ⟨E, hE⟩ : ∃ E, E = 0 :: 0 :: ds := ⟨_, rfl⟩
  have HEL : Hid (E.length = L) := by rw [hE, hL]; rfl
  have HLL := Lib.hid hL
  have HEE := Lib.hid hE
  have HL0 : L ≤ 1002 := by omega
  rw [← hE] at HE HV
  rw [← hL]
  clear hB hown hd hne hL hE
  go_enter Tryd.func22, Tryd.ntmps22
  go_wp2_with (at_builtin; refine wpList_append_own _ rfl _ _ 33 rfl B 3 i0 (.int .i64 0) 1 8 Tryd.underlying33 hi hz0 hz1 hz2 rfl (by decide) _ _ _ rfl HLIT.out ⟨g, 0, none⟩ ds.length cap (ds.map nv) rfl (by simp) ?c2 (nv_one ds) ?c3 ?c4 ?c5 ?_)
  case c2 =>
    intro j u hu
    have hj := (List.getElem?_eq_some_iff.1 hu).1
    rw [HOWN0.out.cellAt j (by simpa using hj), List.getElem?_map, hu]
    rfl
  case c3 => unfold maxLen; omega
  case c4 => omega
  case c5 => have := HB.out; omega
  intro v1 w1 hown1 hgrow _
  have hown2 : w1.ownsRow B 3 1 v1 L (E.map nv) := by rw [HEE.out, HLL.out, Nat.add_comm]; exact hown1
  have hbel1 : Below B w w1 := ((Below.refl B w).alloc (by rw [HB.out]; exact Nat.le_refl _) _).grown hgrow (by rw [World.size_alloc, HB.out]; omega) (fun k hk => (HLIT.out.lt k hk).1)
  obtain ⟨g1, cap1, rfl⟩ := Go.Joins.ownsRow_form hown2 (by have := HLL.out; omega)
  have HB1 := Lib.hid hbel1
  have HOWN2 := Lib.hid hown2
  clear hown1 hgrow hbel1 hown2 HOWN0 HLIT
  go_wp2_with fail
  go_loopw [6, 7] (fun cr i wr => ∃ k c : Nat, k ≤ L ∧ i = .int .i64 ((k : Int) - 1) ∧ cr = .int .i64 c ∧ Hid (TM B w (.slice (some ⟨g1, 0, none⟩) L cap1) E m L k c wr))
    (fun _ i _ => (intOf i + 1).toNat)
  case atStart =>
    refine ⟨L, 0, Nat.le_refl _, rfl, rfl, ⟨[], by simp, by simp, ?_, ?_⟩, Nat.zero_le _, HB1.out⟩
    · rw [← HEL.out]; simp [U.valL]
    · rw [← HEL.out, List.take_length, List.append_nil, HEL.out]; exact HOWN2.out
  case round =>
    obtain ⟨k, c, hk, rfl, rfl, htm⟩ := hrel
    cases k with
    | zero =>
      have d1 : decide (0 ≤ ((0 : Nat) : Int) - 1) = false := by decide
      go_wp2_with fail
      go_ret
      obtain ⟨D, hD1, hD2, hD3, hD4⟩ := htm.out.own
      refine ⟨_, D, c, rfl, by simpa using hD1, hD2, ?_, by simpa using hD4, htm.out.below⟩
      rw [List.drop_zero, HV.out] at hD3
      simpa using hD3
    | succ j =>
      rw [show ((j + 1 : Nat) : Int) - 1 = (j : Int) by omega]
      obtain ⟨D, hD1, hD2, hD3, hD4⟩ := htm.out.own
      have hjL : j < E.length := by rw [HEL.out]; omega
      obtain ⟨e, he⟩ : ∃ e, e = E[j]'hjL := ⟨_, rfl⟩
      have he10 : e < 10 := by rw [he]; exact HE.out _ (List.getElem_mem hjL)
      have hc := htm.out.c1
      obtain ⟨y, hy⟩ : ∃ y, e * m = y := ⟨_, rfl⟩
      have hy9 : y ≤ 9 * m := by rw [← hy]; exact Nat.mul_le_mul_right _ (by omega)
      have hyi : (e : Int) * (m : Int) = (y : Int) := by rw [← hy]; simp
      have hcell : wr.cell? ⟨g1, j, none⟩ = some (.int .i64 (e : Int)) := by
        rw [hD4.cellAt j (by omega), List.getElem?_map, List.getElem?_append_left (by simp; omega), List.getElem?_take, if_pos (by omega), List.getElem?_eq_getElem hjL, ← he]
        rfl
      have hfz := hD4.frozenAt j
      have d0 : decide (0 ≤ (j : Int)) = true := by simp
      have d1 : decide (j < L) = true := by simp; omega
      have HD := Lib.hid (And.intro hD1 (And.intro hD2 (And.intro hD3 hD4)))
      have HY := Lib.hid hy
      have HE1 := Lib.hid he
      clear hD1 hD2 hD3 hD4 hy he
      go_wp2_with fail
      obtain ⟨hD1, hD2, hD3, hD4⟩ := HD.out
      have hst := (hD4.stored j (.int .i64 (((y : Int) + (c : Int)) % 10))).1
      have hx : (((y : Int) + (c : Int)) % 10) = (((y + c) % 10 : Nat) : Int) := by omega
      have hx2 : (((y : Int) + (c : Int)) / 10) = (((y + c) / 10 : Nat) : Int) := by omega
      rw [hx] at hst
      rw [hx, hx2]
      refine ⟨⟨j, (y + c) / 10, by omega, rfl, rfl, ⟨⟨(y + c) % 10 :: D, by simp; omega, ?_, ?_, ?_⟩, by omega, htm.out.below.setCell (hD4.lt g1 rfl).1 _⟩⟩, by simp [intOf]⟩
      · intro d hd
        rcases List.mem_cons.1 hd with rfl | hd
        · omega
        · exact hD2 d hd
      · have ht : L - j = L - (j + 1) + 1 := by omega
        rw [U.valL_drop E j hjL, HEL.out, ← HE1.out, Nat.add_mul, hD3, Nat.mul_right_comm, HY.out, ht, Nat.pow_succ, U.valL, hD1]
        have h1 : y * 10 ^ (L - (j + 1)) + (c * 10 ^ (L - (j + 1)) + U.valL D) = (y + c) * 10 ^ (L - (j + 1)) + U.valL D := by rw [Nat.add_mul, Nat.add_assoc]
        rw [h1]
        have h2 : (y + c) * 10 ^ (L - (j + 1)) = ((y + c) / 10 * 10 + (y + c) % 10) * 10 ^ (L - (j + 1)) := by congr 1; omega
        rw [h2, Nat.add_mul, Nat.mul_assoc, Nat.mul_comm 10, Nat.add_assoc]
      · have e1 : (E.take j ++ (y + c) % 10 :: D).map nv = ((E.take (j + 1) ++ D).map nv).set j (nv ((y + c) % 10)) := by
          rw [List.take_succ_eq_append_getElem hjL, List.append_assoc, List.map_append, List.map_append, List.set_append_right _ _ (by simp; omega)]
          have hz : j - (List.map nv (List.take j E)).length = 0 := by simp; omega
          rw [hz]
          rfl
        rw [e1]
        exact hst
end Go.Proofs.YtojdneepnfcnjaaDoor
