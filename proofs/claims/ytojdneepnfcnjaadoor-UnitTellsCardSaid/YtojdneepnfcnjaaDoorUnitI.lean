/- The reference's Split, by contract. -/
import Derived.Test.YtojdneepnfcnjaaDoorUnitG
import Derived.Test.YtojdneepnfcnjaaDoorUMath4
namespace Go.Proofs.YtojdneepnfcnjaaDoor
open Go.RowKit

theorem intInfo : (Tryd.prog.info? 3).map (fun i => (i.zero, i.size, i.bytes)) = some (some (.int .i64 0), 1, 8) := by kernel_rfl
/-- A digit's value. -/
def dv (c : UInt8) : Value := .int .i64 ((c.toNat - 48 : Nat) : Int)

/-- What Split's loop keeps. -/
structure SP (B : Nat) (w : World) (s : List UInt8) (k : Nat) (v : Value) (a b : List UInt8) (f : Bool) (wr : World) : Prop where
  cut : U.cutDot (s.take k) = (a, b, f)
  alla : a.all U.isDig = true
  allb : b.all U.isDig = true
  own : wr.ownsRow B 3 1 v (a.length + b.length) ((a ++ b).map dv)
  below : Below B w wr

theorem SP.len {B : Nat} {w : World} {s : List UInt8} {k : Nat} {v : Value} {a b : List UInt8} {f : Bool} {wr : World} (h : SP B w s k v a b f wr) : a.length + b.length ≤ k := by
  have := U.cutDot_len (s.take k)
  rw [h.cut] at this
  simp only [List.length_take] at this
  omega

theorem ret3 {v v' : Value} {n n' : Int} {b b' : Bool} (h1 : v = v') (h2 : n = n') (h3 : b = b') : Ending.returned (.tuple #[v, .int .i64 n, .bool b]) = .returned (.tuple #[v', .int .i64 n', .bool b']) := by rw [h1, h2, h3]
theorem take_snoc' (s : List UInt8) (k : Nat) (h : k < s.length) : s.take (k + 1) = s.take k ++ [s[k]] := by
  rw [List.take_succ_eq_append_getElem h]

set_option maxRecDepth 100000 in
set_option maxHeartbeats 1000000 in
theorem split_any (s : ByteArray) (w : World) (hs : s.size ≤ 1048576) :
    Calls Tryd.prog 14 #[.string s] w fun e w' => ∃ v, e = .returned (.tuple #[v, .int .i64 ((U.splitR s.data.toList).2.1 : Int), .bool (U.splitR s.data.toList).2.2]) ∧
      w'.ownsRow w.heap.size 3 1 v (U.splitR s.data.toList).1.length ((U.splitR s.data.toList).1.map dv) ∧ Below w.heap.size w w' := by
  obtain ⟨i0, hi, hz0, hz1, hz2⟩ := info_parts intInfo
  have hlen : s.data.toList.length = s.size := Array.length_toList
  have HLEN := Lib.hid hlen
  clear hlen
  obtain ⟨B, hB⟩ : ∃ B, B = w.heap.size := ⟨_, rfl⟩
  rw [← hB]
  have HB := Lib.hid hB
  clear hB
  go_enter Tryd.func14, Tryd.ntmps14
  go_wp2_with fail
  go_loopw [5, 6, 7, 8, 9] (fun v bf af pt i wr => ∃ (k : Nat) (a b : List UInt8) (f : Bool), k ≤ s.size ∧ i = .int .i64 k ∧ bf = .int .i64 a.length ∧ af = .int .i64 b.length ∧ pt = .bool f ∧ a.length + b.length ≤ k ∧ Hid (SP B w s.data.toList k v a b f wr))
    (fun _ _ _ _ i _ => s.size - (intOf i).toNat)
  case atStart => exact ⟨0, [], [], false, Nat.zero_le _, rfl, rfl, rfl, rfl, Nat.le_refl _, ⟨rfl, rfl, rfl, World.ownsRow_nil _ _ _ _, by rw [HB.out]; exact Below.refl _ _⟩⟩
  case round =>
    obtain ⟨k, a, b, f, hk, rfl, rfl, rfl, rfl, hab, hsp⟩ := hrel
    by_cases hlt : k < s.size
    · have hlt' : k < s.data.toList.length := by rw [HLEN.out]; exact hlt
      obtain ⟨x, hx⟩ : ∃ x : Nat, (s[k]'hlt).toNat = x := ⟨_, rfl⟩
      have hx256 : x < 256 := by rw [← hx]; exact (s[k]'hlt).toNat_lt
      have hsc : s.data.toList[k]'hlt' = s[k]'hlt := rfl
      have hbad : ∀ (_ : U.isDig (s.data.toList[k]'hlt') = false) (_ : f = true ∨ ((s.data.toList[k]'hlt') == 46) = false), U.splitR s.data.toList = ([], 0, false) := by
        intro h1 h2
        have e : s.data.toList = s.data.toList.take k ++ (s.data.toList[k]'hlt') :: s.data.toList.drop (k + 1) := by
          rw [List.getElem_cons_drop, List.take_append_drop]
        have hp : U.plain s.data.toList = false := by
          rw [e]
          exact U.plain_bad _ _ _ h1 (by rw [hsp.out.cut]; exact h2)
        unfold U.splitR
        rw [hp]
        rfl
      have HBAD := Lib.hid hbad
      have HSC := Lib.hid (show (s.data.toList[k]'hlt').toNat = x by rw [hsc]; exact hx)
      have HTK := Lib.hid (take_snoc' s.data.toList k hlt')
      clear hbad hsc
      by_cases h46 : x = 46
      · subst h46
        cases f with
        | true =>
          have hfin := HBAD.out (by unfold U.isDig; rw [HSC.out]; rfl) (.inl rfl)
          have HF := Lib.hid hfin
          clear hfin
          go_wp2_with fail
          go_ret3
          rw [HF.out]
          exact ⟨_, rfl, World.ownsRow_nil _ _ _ _, hsp.out.below⟩
        | false =>
          have hb0 : b = [] := by have := U.cutDot_none (s.data.toList.take k) (by rw [hsp.out.cut]); rw [hsp.out.cut] at this; exact this
          subst hb0
          go_wp2_with fail
          refine ⟨⟨k + 1, a, [], true, by omega, by go_num, rfl, rfl, rfl, by simp at hab ⊢; omega, ?_⟩, by simp [intOf]; omega⟩
          refine ⟨?_, hsp.out.alla, rfl, hsp.out.own, hsp.out.below⟩
          have hc : (s.data.toList[k]'hlt') = 46 := UInt8.toNat_inj.1 HSC.out
          rw [HTK.out, U.cutDot_snoc, hsp.out.cut, hc]
          rfl
      · have h46b : ((x : Int) == 46) = false := by simp; omega
        by_cases hdg : 48 ≤ x ∧ x ≤ 57
        · have d1 : decide ((x : Int) < 48) = false := by simp; omega
          have d2 : decide (57 < (x : Int)) = false := by simp; omega
          have hx48 : 48 ≤ (x : Int) := by omega
          have hx57 : (x : Int) ≤ 57 := by omega
          have hown := hsp.out.own
          have hBw : B ≤ wr.heap.size := by have := hsp.out.below.size; have := HB.out; omega
          clear hdg
          go_wp2_with (at_builtin; refine wpList_append_own _ rfl _ _ 33 rfl B 3 i0 (.int .i64 0) 1 8 Tryd.underlying33 hi hz0 hz1 hz2 rfl (by decide) _ _ _ rfl (hown.alloc _) ⟨wr.heap.size, 0, none⟩ 1 1 [.int .i64 ((x : Int) - 48)] rfl rfl ?c1 ?c2 ?c3 ?c4 ?c5 ?_)
          case c1 => exact (cell_one_new _ _ _)
          case c2 => intro u hu; rw [List.mem_singleton.1 hu]; rfl
          case c3 => unfold maxLen; omega
          case c4 => omega
          case c5 => rw [World.size_alloc]; omega
          intro v' w1 hown1 hgrow _
          have hbel1 : Below B w w1 := (hsp.out.below.alloc hBw _).grown hgrow (by rw [World.size_alloc]; omega) (fun k hk => (hown.lt k hk).1)
          have HOWN := Lib.hid hown1
          have HBEL := Lib.hid hbel1
          have hdig : U.isDig (s.data.toList[k]'hlt') = true := by unfold U.isDig; rw [HSC.out]; simp; omega
          have hdv : dv (s.data.toList[k]'hlt') = .int .i64 ((x : Int) - 48) := by unfold dv; rw [HSC.out]; congr 1; omega
          have HDIG := Lib.hid hdig
          have HDV := Lib.hid hdv
          clear hown1 hgrow hbel1 hown hdig hdv
          cases f with
          | true =>
            go_wp2_with fail
            refine ⟨⟨k + 1, a, b ++ [s.data.toList[k]'hlt'], true, by omega, by go_num, rfl, by simp, rfl, by simp; omega, ?_⟩, by simp [intOf]; omega⟩
            refine ⟨by rw [HTK.out, U.cutDot_snoc, hsp.out.cut]; rfl, hsp.out.alla, by rw [List.all_append, hsp.out.allb, List.all_cons, HDIG.out]; rfl, ?_, HBEL.out⟩
            have e1 : a.length + (b ++ [s.data.toList[k]'hlt']).length = a.length + b.length + 1 := by simp; omega
            have e2 : (a ++ (b ++ [s.data.toList[k]'hlt'])).map dv = a.map dv ++ (b.map dv ++ [.int .i64 ((x : Int) - 48)]) := by rw [List.map_append, List.map_append, List.map_singleton, HDV.out]
            rw [e1, e2]
            exact HOWN.out
          | false =>
            have hb0 : b = [] := by have := U.cutDot_none (s.data.toList.take k) (by rw [hsp.out.cut]); rw [hsp.out.cut] at this; exact this
            subst hb0
            have hc46 : ((s.data.toList[k]'hlt') == 46) = false := by
              rw [beq_eq_false_iff_ne]
              intro h
              have := HSC.out
              rw [h] at this
              exact h46 this.symm
            have HC := Lib.hid hc46
            clear hc46
            go_wp2_with fail
            refine ⟨⟨k + 1, a ++ [s.data.toList[k]'hlt'], [], false, by omega, by go_num, by simp, rfl, rfl, by simp at hab ⊢; omega, ?_⟩, by simp [intOf]; omega⟩
            refine ⟨by rw [HTK.out, U.cutDot_snoc, hsp.out.cut, HC.out]; rfl, by rw [List.all_append, hsp.out.alla, List.all_cons, HDIG.out]; rfl, rfl, ?_, HBEL.out⟩
            have e1 : (a ++ [s.data.toList[k]'hlt']).length + ([] : List UInt8).length = a.length + 0 + 1 := by simp
            have e2 : ((a ++ [s.data.toList[k]'hlt']) ++ []).map dv = a.map dv ++ [.int .i64 ((x : Int) - 48)] := by rw [List.append_nil, List.map_append, List.map_singleton, HDV.out]
            rw [e1, e2]
            exact HOWN.out
        · have hfin := HBAD.out (by unfold U.isDig; rw [HSC.out]; simp; omega) (.inr (by rw [beq_eq_false_iff_ne]; intro h; rw [h] at HSC; exact h46 HSC.out.symm))
          have HF := Lib.hid hfin
          clear hfin
          by_cases h48 : x < 48
          · have d1 : decide ((x : Int) < 48) = true := by simp; omega
            clear hdg
            go_wp2_with fail
            go_ret3
            rw [HF.out]
            exact ⟨_, rfl, World.ownsRow_nil _ _ _ _, hsp.out.below⟩
          · have d1 : decide ((x : Int) < 48) = false := by simp; omega
            have d2 : decide (57 < (x : Int)) = true := by simp; omega
            clear hdg
            go_wp2_with fail
            go_ret3
            rw [HF.out]
            exact ⟨_, rfl, World.ownsRow_nil _ _ _ _, hsp.out.below⟩
    · have hks : k = s.size := by omega
      have hcut : U.cutDot s.data.toList = (a, b, f) := by have := hsp.out.cut; rw [hks, ← HLEN.out, List.take_length] at this; exact this
      have hsplit : U.splitR s.data.toList = (a ++ b, b.length, decide (1 ≤ a.length) && decide (a.length ≤ 20) && decide (b.length ≤ 9) && (f == decide (0 < b.length))) := by
        unfold U.splitR U.plain
        rw [hcut, hsp.out.alla, hsp.out.allb]
        rfl
      have HSPL := Lib.hid hsplit
      have hown : wr.ownsRow B 3 1 u5 (a ++ b).length ((a ++ b).map dv) := by rw [List.length_append]; exact hsp.out.own
      have HOWN := Lib.hid hown
      clear hks hcut hsplit hown
      by_cases p1 : 1 ≤ a.length
      · have d1 : decide (1 ≤ (a.length : Int)) = true := by simp; omega
        by_cases p2 : a.length ≤ 20
        · have d2 : decide ((a.length : Int) ≤ 20) = true := by simp; omega
          by_cases p3 : b.length ≤ 9
          · have d3 : decide ((b.length : Int) ≤ 9) = true := by simp; omega
            have P := Lib.hid (And.intro p1 (And.intro p2 p3))
            clear p1 p2 p3
            go_wp2_with fail
            go_ret3
            rw [HSPL.out]
            refine ⟨_, ret3 rfl rfl ?_, HOWN.out, hsp.out.below⟩
            simp [P.out]
          · have d3 : decide ((b.length : Int) ≤ 9) = false := by simp; omega
            have P := Lib.hid p3
            clear p1 p2 p3
            go_wp2_with fail
            go_ret3
            rw [HSPL.out]
            refine ⟨_, ret3 rfl rfl ?_, HOWN.out, hsp.out.below⟩
            simp [P.out]
        · have d2 : decide ((a.length : Int) ≤ 20) = false := by simp; omega
          have P := Lib.hid p2
          clear p1 p2
          go_wp2_with fail
          go_ret3
          rw [HSPL.out]
          refine ⟨_, ret3 rfl rfl ?_, HOWN.out, hsp.out.below⟩
          simp [P.out]
      · have d1 : decide (1 ≤ (a.length : Int)) = false := by simp; omega
        have P := Lib.hid p1
        clear p1
        go_wp2_with fail
        go_ret3
        rw [HSPL.out]
        refine ⟨_, ret3 rfl rfl ?_, HOWN.out, hsp.out.below⟩
        simp [P.out]
end Go.Proofs.YtojdneepnfcnjaaDoor
