/- The law's same, by contract. -/
import Derived.Test.YtojdneepnfcnjaaDoorUnitN
import Derived.Deep.QuietTactic
import Derived.BigQuiet
namespace Go.Proofs.YtojdneepnfcnjaaDoor
open Go.RowKit

/-- A row's length. -/
def rowLen : Value → Nat | .slice _ n _ => n | _ => 0
/-- What a round of 'same' keeps of two rows of digits. -/
structure SM (B : Nat) (w : World) (va vb : Value) (x y V : Nat) (wr : World) : Prop where
  rows : ∃ a b : List Nat, a.length = x ∧ b.length = y ∧ (∀ d ∈ a, d < 10) ∧ (∀ d ∈ b, d < 10) ∧ U.valL a = V ∧ U.valL b = V ∧ (∃ Ba, wr.ownsRow Ba 3 1 va x (a.map nv)) ∧ (∃ Bb, wr.ownsRow Bb 3 1 vb y (b.map nv))
  below : Below B w wr

set_option maxRecDepth 100000 in
set_option maxHeartbeats 1000000 in
theorem same_any (va vb : Value) (a b : List Nat) (Ba Bb : Nat) (w : World) (hva : w.ownsRow Ba 3 1 va a.length (a.map nv)) (hvb : w.ownsRow Bb 3 1 vb b.length (b.map nv))
    (hane : a ≠ []) (hbne : b ≠ []) (had : ∀ d ∈ a, d < 10) (hbd : ∀ d ∈ b, d < 10) (hv : U.valL a = U.valL b) (hal : a.length ≤ 1000) (hbl : b.length ≤ 1000) :
    Calls Tryd.prog 18 #[va, vb] w fun e w' => e = .returned (.bool true) ∧ Below w.heap.size w w' := by
  obtain ⟨i0, hi, hz0, hz1, hz2⟩ := info_parts intInfo
  obtain ⟨B, hB⟩ : ∃ B, B = w.heap.size := ⟨_, rfl⟩
  rw [← hB]
  have HB := Lib.hid hB
  have hSM : SM B w va vb a.length b.length (U.valL a) w := ⟨⟨a, b, rfl, rfl, had, hbd, rfl, hv.symm, ⟨Ba, hva⟩, ⟨Bb, hvb⟩⟩, Below.refl _ _⟩
  have ha0 := List.length_pos_iff.2 hane
  have hb0 := List.length_pos_iff.2 hbne
  obtain ⟨x, hx⟩ : ∃ x, a.length = x := ⟨_, rfl⟩
  obtain ⟨y, hy⟩ : ∃ y, b.length = y := ⟨_, rfl⟩
  obtain ⟨V, hV⟩ : ∃ V, U.valL a = V := ⟨_, rfl⟩
  rw [hx, hy, hV] at hSM
  rw [hx] at hal ha0
  rw [hy] at hbl hb0
  obtain ⟨ga, capa, rfl⟩ := Go.Joins.ownsRow_form hva (by omega)
  obtain ⟨gb, capb, rfl⟩ := Go.Joins.ownsRow_form hvb (by omega)
  rw [hx] at hSM ⊢
  rw [hy] at hSM ⊢
  have HSM := Lib.hid hSM
  clear hB hva hvb hane hbne had hbd hv hx hy hV hSM
  go_enter Tryd.func18, Tryd.ntmps18
  go_wp2_with fail
  go_loopw [0] (fun u wr => ∃ (g cap x' : Nat), u = .slice (some ⟨g, 0, none⟩) x' cap ∧ 0 < x' ∧ x' ≤ 1000 ∧ Hid (SM B w u (.slice (some ⟨gb, 0, none⟩) y capb) x' y V wr))
    (fun u _ => y - rowLen u)
  case atStart => exact ⟨ga, capa, x, rfl, ha0, hal, HSM.out⟩
  case round =>
    obtain ⟨g, cap, x', rfl, hx0, hx1, hsm⟩ := hrel
    by_cases hlt : x' < y
    · have d1 : decide (x' < y) = true := by simpa using hlt
      obtain ⟨a', b', hal', hbl', had', hbd', hav', hbv', ⟨Ba', hoa⟩, ⟨Bb', hob⟩⟩ := hsm.out.rows
      have HLIT := Lib.hid (World.ownsRow_lit (base := wr.heap.size) (e := 3) (size := 1) wr #[.int .i64 0] 1 (Nat.le_refl _) (by unfold maxLen; omega) rfl)
      have HOA := Lib.hid (hoa.alloc (.cells #[.int .i64 0] 3))
      have HOB := Lib.hid (hob.alloc (.cells #[.int .i64 0] 3))
      have hblt := (hob.lt gb rfl).2
      have HFA := Lib.hid (And.intro had' (And.intro hbd' (And.intro hav' hbv')))
      have HAL := Lib.hid (And.intro hal' hbl')
      have hBw : B ≤ wr.heap.size := by have := hsm.out.below.size; have := HB.out; omega
      have hHB := Lib.hid hsm.out.below
      have HLT := Lib.hid hlt
      clear hoa hob had' hbd' hav' hbv' hal' hbl' hlt hsm
      go_wp2_with (at_builtin; refine wpList_append_own _ rfl _ _ 33 rfl wr.heap.size 3 i0 (.int .i64 0) 1 8 Tryd.underlying33 hi hz0 hz1 hz2 rfl (by decide) _ _ _ rfl HLIT.out ⟨g, 0, none⟩ x' cap (a'.map nv) rfl (by simp [HAL.out.1]) ?c2 (nv_one a') ?c3 ?c4 ?c5 ?_)
      case c2 =>
        intro j u hu
        have hj := (List.getElem?_eq_some_iff.1 hu).1
        rw [HOA.out.cellAt j (by rw [HAL.out.1] at hj; omega), List.getElem?_map, hu]
        rfl
      case c3 => unfold maxLen; omega
      case c4 => omega
      intro v' w2 hown1 hgrow _
      obtain ⟨g2, cap2, rfl⟩ := Go.Joins.ownsRow_form hown1 (by omega)
      have hbel2 : Below B w w2 := (hHB.out.alloc hBw _).grown hgrow (by rw [World.size_alloc]; omega) (fun k hk => by have := (HLIT.out.lt k hk).1; omega)
      have hob2 := HOB.out.kept hgrow (.inr (by simp [Value.ownBlock]; omega))
      have HSM2 : Hid (SM B w (.slice (some ⟨g2, 0, none⟩) (1 + x') cap2) (.slice (some ⟨gb, 0, none⟩) y capb) (1 + x') y V w2) :=
        ⟨⟨0 :: a', b', by simp [HAL.out.1]; omega, HAL.out.2, by
          intro d hd
          rcases List.mem_cons.1 hd with rfl | hd
          · omega
          · exact HFA.out.1 d hd, HFA.out.2.1, by rw [← HFA.out.2.2.1]; simp [U.valL], HFA.out.2.2.2, ⟨_, hown1⟩, ⟨_, hob2⟩⟩, hbel2⟩
      have hx' : 1 + x' ≤ 1000 := by have := HLT.out; omega
      clear hown1 hgrow hbel2 hob2 HOA HOB HLIT
      go_wp2_with fail
      refine ⟨⟨g2, cap2, 1 + x', rfl, by omega, hx', HSM2.out⟩, ?_⟩
      have := HLT.out
      simp [rowLen]
      omega
    · have d1 : decide (x' < y) = false := by simpa using hlt
      have hyx : y ≤ x' := by omega
      clear hlt
      go_wp2_with fail
      go_loopw [1] (fun u wr => ∃ (g1 cap1 y' : Nat), u = .slice (some ⟨g1, 0, none⟩) y' cap1 ∧ 0 < y' ∧ y' ≤ x' ∧ Hid (SM B w (.slice (some ⟨g, 0, none⟩) x' cap) u x' y' V wr))
        (fun u _ => x' - rowLen u)
      case atStart => exact ⟨gb, capb, y, rfl, hb0, hyx, hsm.out⟩
      case round =>
        obtain ⟨g1, cap1, y', rfl, hy0, hy1, hsm⟩ := hrel
        by_cases hlt : y' < x'
        · have d1 : decide (y' < x') = true := by simpa using hlt
          obtain ⟨a', b', hal', hbl', had', hbd', hav', hbv', ⟨Ba', hoa⟩, ⟨Bb', hob⟩⟩ := hsm.out.rows
          have HLIT := Lib.hid (World.ownsRow_lit (base := wr.heap.size) (e := 3) (size := 1) wr #[.int .i64 0] 1 (Nat.le_refl _) (by unfold maxLen; omega) rfl)
          have HOA := Lib.hid (hoa.alloc (.cells #[.int .i64 0] 3))
          have HOB := Lib.hid (hob.alloc (.cells #[.int .i64 0] 3))
          have hblt := (hoa.lt g rfl).2
          have HFA := Lib.hid (And.intro had' (And.intro hbd' (And.intro hav' hbv')))
          have HAL := Lib.hid (And.intro hal' hbl')
          have hBw : B ≤ wr.heap.size := by have := hsm.out.below.size; have := HB.out; omega
          have hHB := Lib.hid hsm.out.below
          have HLT := Lib.hid hlt
          clear hoa hob had' hbd' hav' hbv' hal' hbl' hlt hsm
          go_wp2_with (at_builtin; refine wpList_append_own _ rfl _ _ 33 rfl wr.heap.size 3 i0 (.int .i64 0) 1 8 Tryd.underlying33 hi hz0 hz1 hz2 rfl (by decide) _ _ _ rfl HLIT.out ⟨g1, 0, none⟩ y' cap1 (b'.map nv) rfl (by simp [HAL.out.2]) ?c2 (nv_one b') ?c3 ?c4 ?e5 ?_)
          case c2 =>
            intro j u hu
            have hj := (List.getElem?_eq_some_iff.1 hu).1
            rw [HOB.out.cellAt j (by rw [HAL.out.2] at hj; omega), List.getElem?_map, hu]
            rfl
          case c3 => unfold maxLen; omega
          case c4 => omega
          intro v' w2 hown1 hgrow _
          obtain ⟨g2, cap2, rfl⟩ := Go.Joins.ownsRow_form hown1 (by omega)
          have hbel2 : Below B w w2 := (hHB.out.alloc hBw _).grown hgrow (by rw [World.size_alloc]; omega) (fun k hk => by have := (HLIT.out.lt k hk).1; omega)
          have hoa2 := HOA.out.kept hgrow (.inr (by simp [Value.ownBlock]; omega))
          have HSM2 : Hid (SM B w (.slice (some ⟨g, 0, none⟩) x' cap) (.slice (some ⟨g2, 0, none⟩) (1 + y') cap2) x' (1 + y') V w2) :=
            ⟨⟨a', 0 :: b', HAL.out.1, by simp [HAL.out.2]; omega, HFA.out.1, by
              intro d hd
              rcases List.mem_cons.1 hd with rfl | hd
              · omega
              · exact HFA.out.2.1 d hd, HFA.out.2.2.1, by rw [← HFA.out.2.2.2]; simp [U.valL], ⟨_, hoa2⟩, ⟨_, hown1⟩⟩, hbel2⟩
          clear hown1 hgrow hbel2 hoa2 HOA HOB HLIT
          go_wp2_with fail
          have := HLT.out
          refine ⟨⟨g2, cap2, 1 + y', rfl, by omega, by omega, HSM2.out⟩, ?_⟩
          simp [rowLen]
          omega
        · have d1 : decide (y' < x') = false := by simpa using hlt
          obtain rfl : y' = x' := by omega
          obtain ⟨a', b', hal', hbl', had', hbd', hav', hbv', ⟨Ba', hoa⟩, ⟨Bb', hob⟩⟩ := hsm.out.rows
          obtain rfl : a' = b' := U.valL_inj _ _ (hal'.trans hbl'.symm) had' hbd' (hav'.trans hbv'.symm)
          have HOA := Lib.hid hoa
          have HOB := Lib.hid hob
          have HAL := Lib.hid hal'
          have HBEL := Lib.hid hsm.out.below
          obtain ⟨wz, hwz⟩ : ∃ wz, wz = wr := ⟨_, rfl⟩
          rw [← hwz] at HOA HOB HBEL
          have HWZ := Lib.hid hwz
          clear hlt hoa hob had' hbd' hav' hbv' hal' hbl' hsm hwz
          go_wp2_with fail
          go_loopw [5] (fun i wr2 => ∃ k : Nat, k ≤ y' ∧ i = .int .i64 k ∧ Hid (Below wz.heap.size wz wr2)) (fun i _ => y' - (intOf i).toNat)
          case atStart => exact ⟨0, Nat.zero_le _, rfl, by rw [HWZ.out]; exact Below.refl _ _⟩
          case round =>
            obtain ⟨k, hk, rfl, hbz⟩ := hrel
            by_cases hkl : k < y'
            · have d2 : decide (k < y') = true := by simpa using hkl
              have hka : k < a'.length := by rw [HAL.out]; exact hkl
              obtain ⟨e, he⟩ : ∃ e, e = a'[k]'hka := ⟨_, rfl⟩
              have hca : wr.cell? ⟨g, k, none⟩ = some (.int .i64 (e : Int)) := by
                rw [hbz.out.cell (p := ⟨g, k, none⟩) (HOA.out.lt g rfl).2, HOA.out.cellAt k (by omega), List.getElem?_map, List.getElem?_eq_getElem hka, ← he]
                rfl
              have hcb : wr.cell? ⟨g1, k, none⟩ = some (.int .i64 (e : Int)) := by
                rw [hbz.out.cell (p := ⟨g1, k, none⟩) (HOB.out.lt g1 rfl).2, HOB.out.cellAt k (by omega), List.getElem?_map, List.getElem?_eq_getElem hka, ← he]
                rfl
              clear he
              go_wp2_with fail
              go_quiet (fail)
              go_wp2_with fail
              exact ⟨⟨k + 1, by omega, by go_num, hbz.out.trans ⟨rfl, rfl, rfl, Nat.le_refl _, fun _ _ => rfl⟩⟩, by simp [intOf]; omega⟩
            · have d2 : decide (k < y') = false := by simpa using hkl
              clear hkl
              go_wp2_with fail
              go_ret
              exact ⟨rfl, HBEL.out.trans (hbz.out.mono (by have := HBEL.out.size; have := HB.out; omega))⟩
end Go.Proofs.YtojdneepnfcnjaaDoor
