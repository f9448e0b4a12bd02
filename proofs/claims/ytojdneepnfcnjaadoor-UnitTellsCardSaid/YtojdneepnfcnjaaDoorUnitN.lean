/- The law's product, by contract. -/
import Derived.Test.YtojdneepnfcnjaaDoorUnitM
namespace Go.Proofs.YtojdneepnfcnjaaDoor
open Go.RowKit

/-- The values of a numeral's digits. -/
def digN (l : List UInt8) : List Nat := l.map fun c => c.toNat - 48
theorem digN_lt {l : List UInt8} (h : l.all U.isDig = true) : ∀ d ∈ digN l, d < 10 := by
  intro d hd
  obtain ⟨c, hc, rfl⟩ := List.mem_map.1 hd
  have := List.all_eq_true.1 h c hc
  unfold U.isDig at this
  simp only [decide_eq_true_eq] at this
  have h1 : c.toNat ≤ 57 := by simpa using this.2
  omega
theorem pow_pos' (k : Nat) : 0 < 10 ^ k := Nat.pow_pos (by decide)

/-- An own row is kept where nothing of the old memory turns. -/
theorem own_below {w w' : World} {B : Nat} {e : TypeId} {size : Nat} {v : Value} {n : Nat} {xs : List Value} (h : w.ownsRow B e size v n xs) (hb : Below w.heap.size w w') : w'.ownsRow B e size v n xs := by
  refine ⟨h.1, ?_⟩
  rcases h.2 with h2 | ⟨g, cap, cur, hv, hg, hh, r⟩
  · exact .inl h2
  · have hlt : g < w.heap.size := (Array.getElem?_eq_some_iff.1 hh).1
    exact .inr ⟨g, cap, cur, hv, hg, by rw [hb.block g hlt]; exact hh, r⟩

theorem c_zero {X c P V : Nat} (h : X = c * P + V) (hX : X < P) : c = 0 := by
  cases c with
  | zero => rfl
  | succ c => rw [Nat.add_mul] at h; omega
theorem valL_zeros (z : Nat) : U.valL (List.replicate z 0) = 0 := by
  induction z with
  | zero => rfl
  | succ z ih => rw [List.replicate_succ, U.valL, ih]; simp

set_option maxRecDepth 100000 in
set_option maxHeartbeats 1000000 in
theorem product_any (n m z : Nat) (w : World) (hn : (n : Int) ≤ 1125899906842624) (hm : m ≤ 1000) (hz : z ≤ 20) :
    Calls Tryd.prog 17 #[.int .i64 n, .int .i64 m, .int .i64 z] w fun e w' => ∃ v P, e = .returned v ∧ P ≠ [] ∧ P.length ≤ 100 ∧ (∀ d ∈ P, d < 10) ∧ U.valL P = n * m * 10 ^ z ∧
      w'.ownsRow w.heap.size 3 1 v P.length (P.map nv) ∧ Below w.heap.size w w' := by
  obtain ⟨i0, hi, hz0, hz1, hz2⟩ := info_parts intInfo
  obtain ⟨B, hB⟩ : ∃ B, B = w.heap.size := ⟨_, rfl⟩
  rw [← hB]
  have HB := Lib.hid hB
  have HD := Lib.hid (digitsR_any n hn)
  obtain ⟨da, dval, dne, _⟩ := U.dec_all 15 n (by omega)
  have hdl := U.dec_len 15 n (by omega)
  obtain ⟨s, hs⟩ : ∃ s : ByteArray, s = ⟨(Lib.decDigits n).toArray⟩ := ⟨_, rfl⟩
  rw [← hs] at HD
  have hs2 : s.data.toList = Lib.decDigits n := by rw [hs]
  rw [← hs2] at da dval dne hdl
  have HLEN : Hid (s.data.toList.length = s.size) := Array.length_toList
  have hsz : s.size ≤ 16 := by rw [← HLEN.out]; exact hdl
  have HA := Lib.hid da
  have HVAL := Lib.hid dval
  have HNE := Lib.hid dne
  have HM := Lib.hid hm
  clear hB hs hs2 da dval dne hdl hm
  go_enter Tryd.func17, Tryd.ntmps17
  go_wp2_with fail
  refine (HD.out _).mono ?_
  rintro e w1 ⟨rfl, hb1⟩
  have HOWN := Lib.hid (own_below (World.ownsRow_lit (base := B) (e := 3) (size := 1) w #[.int .i64 0, .int .i64 0] 2 (by rw [HB.out]; exact Nat.le_refl _) (by unfold maxLen; omega) rfl) hb1)
  have HB1 := Lib.hid (((Below.refl B w).alloc (by rw [HB.out]; exact Nat.le_refl _) (.cells #[.int .i64 0, .int .i64 0] 3)).trans (hb1.mono (by rw [World.size_alloc, HB.out]; omega)))
  clear hb1 HD
  go_wp2_with fail
  go_loopw [7, 9] (fun l i wr => ∃ k : Nat, k ≤ s.size ∧ i = .int .i64 k ∧ Hid (wr.ownsRow B 3 1 l (k + 2) ((0 :: 0 :: (digN s.data.toList).take k).map nv)) ∧ Hid (Below B w wr))
    (fun _ i _ => s.size - (intOf i).toNat)
  case atStart => exact ⟨0, Nat.zero_le _, rfl, HOWN.out, HB1.out⟩
  case round =>
    obtain ⟨k, hk, rfl, hown, hbel⟩ := hrel
    by_cases hlt : k < s.size
    · have hlt' : k < s.data.toList.length := by rw [HLEN.out]; exact hlt
      obtain ⟨x, hx⟩ : ∃ x : Nat, (s[k]'hlt).toNat = x := ⟨_, rfl⟩
      have hx256 : x < 256 := by rw [← hx]; exact (s[k]'hlt).toNat_lt
      have hsc : s.data.toList[k]'hlt' = s[k]'hlt := rfl
      have hdig := List.all_eq_true.1 HA.out _ (List.getElem_mem hlt')
      rw [hsc] at hdig
      unfold U.isDig at hdig
      simp only [decide_eq_true_eq] at hdig
      have h48 : 48 ≤ x := by rw [← hx]; simpa using hdig.1
      have h57 : x ≤ 57 := by rw [← hx]; simpa using hdig.2
      have hx48 : 48 ≤ (x : Int) := by omega
      have hx57 : (x : Int) ≤ 57 := by omega
      have htk : (digN s.data.toList).take (k + 1) = (digN s.data.toList).take k ++ [x - 48] := by
        have hl : k < (digN s.data.toList).length := by unfold digN; rw [List.length_map]; exact hlt'
        have hg : (digN s.data.toList)[k]'hl = x - 48 := by simp only [digN, List.getElem_map]; rw [hsc, hx]
        rw [List.take_succ_eq_append_getElem hl, hg]
      have HTK := Lib.hid htk
      have hBw : B ≤ wr.heap.size := by have := hbel.out.size; have := HB.out; omega
      have d1 : decide (k < s.size) = true := by simpa using hlt
      clear hdig hsc htk h48 h57
      go_wp2_with (at_builtin; refine wpList_append_own _ rfl _ _ 33 rfl B 3 i0 (.int .i64 0) 1 8 Tryd.underlying33 hi hz0 hz1 hz2 rfl (by decide) _ _ _ rfl (hown.out.alloc _) ⟨wr.heap.size, 0, none⟩ 1 1 [.int .i64 ((x : Int) - 48)] rfl rfl ?c1 ?c2 ?c3 ?c4 ?c5 ?_)
      case c1 => exact (cell_one_new _ _ _)
      case c2 => intro u hu; rw [List.mem_singleton.1 hu]; rfl
      case c3 => unfold maxLen; omega
      case c4 => omega
      case c5 => rw [World.size_alloc]; omega
      intro v' w2 hown1 hgrow _
      have HBEL := Lib.hid ((hbel.out.alloc hBw _).grown hgrow (by rw [World.size_alloc]; omega) (fun k hk => (hown.out.lt k hk).1))
      have HOWN1 := Lib.hid hown1
      clear hown1 hgrow
      go_wp2_with fail
      refine ⟨⟨k + 1, by omega, by go_num, ?_, HBEL.out⟩, by simp [intOf]; omega⟩
      have e2 : (0 :: 0 :: (digN s.data.toList).take (k + 1)).map nv = nv 0 :: nv 0 :: (((digN s.data.toList).map nv).take k ++ [.int .i64 ((x : Int) - 48)]) := by
        rw [HTK.out]
        have : nv (x - 48) = .int .i64 ((x : Int) - 48) := by unfold nv; congr 1; omega
        simp [this]
      show w2.ownsRow B 3 1 v' (k + 1 + 2) _
      rw [e2, show k + 1 + 2 = k + 2 + 1 by omega]
      exact HOWN1.out
    · have hks : k = s.size := by omega
      have d1 : decide (k < s.size) = false := by simpa using hlt
      have hfull : (digN s.data.toList).take k = digN s.data.toList := by
        rw [hks, ← HLEN.out]
        unfold digN
        rw [← List.length_map (f := fun c : UInt8 => c.toNat - 48), List.take_length]
      obtain ⟨E, hE⟩ : ∃ E, E = 0 :: 0 :: digN s.data.toList := ⟨_, rfl⟩
      have hEl : E.length = k + 2 := by rw [hE, hks, ← HLEN.out]; simp [digN]
      have hown' : wr.ownsRow B 3 1 u7 E.length (E.map nv) := by rw [hEl, hE, ← hfull]; exact hown.out
      have hEv : U.valL E = n := by rw [hE, ← HVAL.out]; simp [U.valL, digN, U.valL_digs]
      have hEd : ∀ d ∈ E, d < 10 := by
        rw [hE]
        intro d h
        rcases List.mem_cons.1 h with rfl | h
        · omega
        · rcases List.mem_cons.1 h with rfl | h
          · omega
          · exact digN_lt HA.out d h
      have hn2 : n < 10 ^ k := by
        have h1 := U.valL_lt _ (digN_lt HA.out)
        unfold digN at h1
        rw [U.valL_digs, HVAL.out, List.length_map, HLEN.out, ← hks] at h1
        exact h1
      have T1 := Lib.hid (times_any u7 E m B wr hown' (by rw [hE]; simp) hEd (by have := HM.out; omega) (by omega))
      rw [hEl, hEv] at T1
      have HN2 := Lib.hid hn2
      have hk16 : k ≤ 16 := by omega
      have HKS := Lib.hid hks
      clear hfull hE hEl hown' hEv hEd hn2 hlt hks
      go_wp2_with fail
      refine T1.out.mono ?_
      rintro e w2 ⟨v2, D1, c1, rfl, hl1, hd1, hv1, ho1, hb2⟩
      have hc1 : c1 = 0 := by
        refine c_zero hv1 ?_
        have h1 : n * m ≤ n * 1000 := Nat.mul_le_mul_left _ HM.out
        have h2 : 10 ^ (k + 2 + 2) = 10 ^ k * 10000 := by rw [Nat.pow_add, Nat.pow_add, Nat.mul_assoc]
        have h3 := HN2.out
        omega
      rw [hc1, Nat.zero_mul, Nat.zero_add] at hv1
      rw [← hl1] at ho1
      have T2 := Lib.hid (times_any v2 D1 1 _ w2 ho1 (by rintro rfl; simp at hl1) hd1 (by omega) (by omega))
      have HV1 := Lib.hid hv1
      have HB2 := Lib.hid (hbel.out.trans (hb2.mono (by have := hbel.out.size; have := HB.out; omega)))
      have hll := U.valL_lt D1 hd1
      have HLT := Lib.hid hll
      clear hc1 hd1 hv1 ho1 hb2 hll T1
      go_wp2_with fail
      refine T2.out.mono ?_
      rintro e w3 ⟨v3, D2, c2, rfl, hl2, hd2, hv2, ho2, hb3⟩
      have hc2 : c2 = 0 := by
        refine c_zero hv2 ?_
        have h2 : 10 ^ (D1.length + 2) = 10 ^ D1.length * 100 := by rw [Nat.pow_add]
        have h3 := HLT.out
        have h4 := pow_pos' D1.length
        omega
      rw [hc2, Nat.zero_mul, Nat.zero_add, Nat.mul_one, ← HV1.out] at hv2
      have hBw2 : B ≤ w2.heap.size := by have := HB2.out.size; have := HB.out; omega
      rw [← hl2] at ho2
      have HO2 := Lib.hid (Go.Joins.ownsRow_le ho2 hBw2)
      have HV2 := Lib.hid hv2
      have HD2 := Lib.hid hd2
      have HB3 := Lib.hid (HB2.out.trans (hb3.mono hBw2))
      have hl40 : D2.length ≤ 22 := by omega
      have HL2 := Lib.hid hl2
      clear hc2 hd2 hv2 ho2 hb3 T2 hl1 hl2 HB2 HLT
      go_wp2_with fail
      go_loopw [7, 10] (fun l i wr => ∃ j : Nat, j ≤ z ∧ i = .int .i64 j ∧ Hid (wr.ownsRow B 3 1 l (D2.length + j) ((D2 ++ List.replicate j 0).map nv)) ∧ Hid (Below B w wr))
        (fun _ i _ => z - (intOf i).toNat)
      case atStart => exact ⟨0, Nat.zero_le _, rfl, by simpa [Hid] using HO2.out, HB3.out⟩
      case round =>
        obtain ⟨j, hj, rfl, hown2, hbel2⟩ := hrel
        by_cases hlt : j < z
        · have d2 : decide (j < z) = true := by simpa using hlt
          have hBw : B ≤ wr.heap.size := by have := hbel2.out.size; have := HB.out; omega
          go_wp2_with (at_builtin; refine wpList_append_own _ rfl _ _ 33 rfl B 3 i0 (.int .i64 0) 1 8 Tryd.underlying33 hi hz0 hz1 hz2 rfl (by decide) _ _ _ rfl (hown2.out.alloc _) ⟨wr.heap.size, 0, none⟩ 1 1 [.int .i64 0] rfl rfl ?c1 ?c2 ?c3 ?c4 ?c5 ?_)
          case c1 => exact (cell_one_new _ _ _)
          case c2 => intro u hu; rw [List.mem_singleton.1 hu]; rfl
          case c3 => unfold maxLen; omega
          case c4 => omega
          case c5 => rw [World.size_alloc]; omega
          intro v' w4 hown1 hgrow _
          have HBEL := Lib.hid ((hbel2.out.alloc hBw _).grown hgrow (by rw [World.size_alloc]; omega) (fun k hk => (hown2.out.lt k hk).1))
          have HOWN1 := Lib.hid hown1
          clear hown1 hgrow
          go_wp2_with fail
          refine ⟨⟨j + 1, by omega, by go_num, ?_, HBEL.out⟩, by simp [intOf]; omega⟩
          show w4.ownsRow B 3 1 v' _ _
          have e2 : (D2 ++ List.replicate (j + 1) 0).map nv = D2.map nv ++ (List.replicate j (nv 0) ++ [.int .i64 0]) := by
            rw [List.replicate_succ', List.map_append, List.map_append, List.map_replicate]
            rfl
          rw [e2, ← Nat.add_assoc]
          exact HOWN1.out
        · have d2 : decide (j < z) = false := by simpa using hlt
          obtain rfl : j = z := by omega
          clear hlt
          go_wp2_with fail
          go_ret
          refine ⟨_, D2 ++ List.replicate j 0, rfl, ?_, by simp; omega, ?_, ?_, by simpa using hown2.out, hbel2.out⟩
          · intro h
            have := congrArg List.length h
            simp at this
            have := HL2.out
            rw [(List.append_eq_nil_iff.1 h).1] at this
            simp at this
          · intro d hd
            rcases List.mem_append.1 hd with hd | hd
            · exact HD2.out d hd
            · rw [(List.mem_replicate.1 hd).2]; decide
          · rw [U.valL_append, valL_zeros, ← HV2.out, List.length_replicate, Nat.add_zero]
end Go.Proofs.YtojdneepnfcnjaaDoor
