/- The reference's Over, by contract. -/
import Derived.Test.YtojdneepnfcnjaaDoorUnitN
namespace Go.Proofs.YtojdneepnfcnjaaDoor
open Go.RowKit

/-- What Over's loop keeps. -/
structure OM (B : Nat) (w : World) (v : Value) (ds : List Nat) (m k r : Nat) (wr : World) : Prop where
  own : ∃ D : List Nat, D.length = k ∧ (∀ d ∈ D, d < 10) ∧ U.valL (ds.take k) = U.valL D * m + r ∧ wr.ownsRow B 3 1 v k (D.map nv)
  r1 : r < m
  below : Below B w wr

theorem valL_snoc (a : List Nat) (x : Nat) : U.valL (a ++ [x]) = U.valL a * 10 + x := by
  rw [U.valL_append]; simp [U.valL]

set_option maxRecDepth 100000 in
set_option maxHeartbeats 1000000 in
theorem over_any (v : Value) (ds : List Nat) (m B0 : Nat) (w : World) (hown : w.ownsRow B0 3 1 v ds.length (ds.map nv)) (hne : ds ≠ []) (hd : ∀ d ∈ ds, d < 10) (hm0 : 0 < m) (hm : m ≤ 1000000) (hl : ds.length ≤ 1000) :
    Calls Tryd.prog 23 #[v, .int .i64 m] w fun e w' => ∃ (v' : Value) (D : List Nat) (r : Nat), e = .returned (.tuple #[v', .int .i64 (r : Int)]) ∧ r < m ∧ D.length = ds.length ∧ (∀ d ∈ D, d < 10) ∧ U.valL ds = U.valL D * m + r ∧
      w'.ownsRow w.heap.size 3 1 v' ds.length (D.map nv) ∧ Below w.heap.size w w' := by
  obtain ⟨i0, hi, hz0, hz1, hz2⟩ := info_parts intInfo
  obtain ⟨g, cap, rfl⟩ := Go.Joins.ownsRow_form hown (List.length_pos_iff.2 hne)
  obtain ⟨B, hB⟩ : ∃ B, B = w.heap.size := ⟨_, rfl⟩
  obtain ⟨L, hL⟩ : ∃ L, ds.length = L := ⟨_, rfl⟩
  rw [← hB]
  rw [hL] at hown hl ⊢
  have HB := Lib.hid hB
  have HOWN := Lib.hid hown
  have HD := Lib.hid hd
  have HLL := Lib.hid hL
  have hglt := (hown.lt g rfl).2
  have HG : Hid (g < B) := by rw [hB]; exact hglt
  clear hB hown hd hne hL hglt
  go_enter Tryd.func23, Tryd.ntmps23
  go_wp2_with fail
  go_loopw [6, 7, 8] (fun o rs i wr => ∃ k r : Nat, k ≤ L ∧ i = .int .i64 k ∧ rs = .int .i64 r ∧ Hid (OM B w o ds m k r wr)) (fun _ _ i _ => L - (intOf i).toNat)
  case atStart => exact ⟨0, 0, Nat.zero_le _, rfl, rfl, ⟨[], rfl, by simp, by simp [U.valL], World.ownsRow_nil _ _ _ _⟩, hm0, by rw [HB.out]; exact Below.refl _ _⟩
  case round =>
    obtain ⟨k, r, hk, rfl, rfl, hom⟩ := hrel
    by_cases hlt : k < L
    · have d1 : decide (k < L) = true := by simpa using hlt
      have hkl : k < ds.length := by rw [HLL.out]; exact hlt
      obtain ⟨e, he⟩ : ∃ e, e = ds[k]'hkl := ⟨_, rfl⟩
      have he10 : e < 10 := by rw [he]; exact HD.out _ (List.getElem_mem hkl)
      have hrm := hom.out.r1
      have hcell : wr.cell? ⟨g, k, none⟩ = some (.int .i64 (e : Int)) := by
        rw [hom.out.below.cell (p := ⟨g, k, none⟩) HG.out, HOWN.out.cellAt k (by omega), List.getElem?_map, List.getElem?_eq_getElem hkl, ← he]
        rfl
      obtain ⟨x, hx⟩ : ∃ x, 10 * r + e = x := ⟨_, rfl⟩
      have hxi : 10 * (r : Int) + (e : Int) = (x : Int) := by omega
      obtain ⟨D, hD1, hD2, hD3, hD4⟩ := hom.out.own
      have HOM := Lib.hid (And.intro hD1 (And.intro hD2 (And.intro hD3 hD4)))
      have HE := Lib.hid he
      have HX := Lib.hid hx
      have hx10 : x < 10 * m := by omega
      obtain ⟨Qq, hQ⟩ : ∃ q, x / m = q := ⟨_, rfl⟩
      obtain ⟨Rr, hR⟩ : ∃ q, x % m = q := ⟨_, rfl⟩
      have hQi : (x : Int) / (m : Int) = (Qq : Int) := by rw [← hQ]; rfl
      have hRi : (x : Int) % (m : Int) = (Rr : Int) := by rw [← hR]; rfl
      have hQ9 : Qq < 10 := by rw [← hQ]; exact Nat.div_lt_of_lt_mul (by omega)
      have hRm : Rr < m := by rw [← hR]; exact Nat.mod_lt _ hm0
      have HXQ : Hid (x = Qq * m + Rr) := by
        have := Nat.div_add_mod x m
        rw [hQ, hR] at this
        rw [← this, Nat.mul_comm]
        rfl
      have hBw : B ≤ wr.heap.size := by have := hom.out.below.size; have := HB.out; omega
      have HLT := Lib.hid hlt
      clear he hx hlt hD1 hD2 hD3 hD4 hQ hR hx10
      go_wp2_with (at_builtin; refine wpList_append_own _ rfl _ _ 33 rfl B 3 i0 (.int .i64 0) 1 8 Tryd.underlying33 hi hz0 hz1 hz2 rfl (by decide) _ _ _ rfl (HOM.out.2.2.2.alloc _) ⟨wr.heap.size, 0, none⟩ 1 1 [.int .i64 (Qq : Int)] rfl rfl ?c1 ?c2 ?c3 ?c4 ?c5 ?_)
      case c1 => exact (cell_one_new _ _ _)
      case c2 => intro u hu; rw [List.mem_singleton.1 hu]; rfl
      case c3 => unfold maxLen; omega
      case c4 => omega
      case c5 => rw [World.size_alloc]; omega
      intro v' w2 hown1 hgrow _
      have HBEL := Lib.hid ((hom.out.below.alloc hBw _).grown hgrow (by rw [World.size_alloc]; omega) (fun k hk => (HOM.out.2.2.2.lt k hk).1))
      have HOWN1 := Lib.hid hown1
      clear hown1 hgrow
      go_wp2_with fail
      refine ⟨⟨k + 1, Rr, by have := HLT.out; omega, by go_num, by rw [hRi], ⟨⟨D ++ [Qq], by simp [HOM.out.1], ?_, ?_, ?_⟩, hRm, HBEL.out⟩⟩, by have := HLT.out; simp [intOf]; omega⟩
      · intro d hd
        rcases List.mem_append.1 hd with hd | hd
        · exact HOM.out.2.1 d hd
        · rw [List.mem_singleton.1 hd]; exact hQ9
      · rw [List.take_succ_eq_append_getElem hkl, valL_snoc, valL_snoc, HOM.out.2.2.1, ← HE.out]
        have h1 := HX.out
        have h2 := HXQ.out
        have h3 : (U.valL D * 10 + Qq) * m = U.valL D * m * 10 + Qq * m := by rw [Nat.add_mul, Nat.mul_right_comm]
        rw [h3]
        omega
      · rw [List.map_append]
        exact HOWN1.out
    · have d1 : decide (k < L) = false := by simpa using hlt
      have hkL : k = L := by omega
      have HKL := Lib.hid hkL
      clear hlt hkL
      go_wp2_with fail
      go_ret2
      obtain ⟨D, hD1, hD2, hD3, hD4⟩ := hom.out.own
      have e := HKL.out
      rw [e] at hD1 hD3 hD4
      rw [← HLL.out, List.take_length] at hD3
      exact ⟨_, D, r, rfl, hom.out.r1, hD1, hD2, hD3, hD4, hom.out.below⟩
end Go.Proofs.YtojdneepnfcnjaaDoor
