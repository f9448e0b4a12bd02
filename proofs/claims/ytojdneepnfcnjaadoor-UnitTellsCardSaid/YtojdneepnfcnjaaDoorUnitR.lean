/- The reference's Amount, by contract. -/
import Derived.Test.YtojdneepnfcnjaaDoorUnitQ
import Derived.Test.YtojdneepnfcnjaaDoorUMath8
namespace Go.Proofs.YtojdneepnfcnjaaDoor
open Go.RowKit

theorem AR.keep2 {B B2 : Nat} {w : World} {wx w' : World} (h : AR B w wx) (hb : Below B2 wx w') (hlt : B < B2) : AR B w w' :=
  ⟨h.below.trans (hb.mono (by omega)), by have := hb.size; have := h.size; omega, (hb.cell (p := ⟨B, 0, none⟩) hlt).trans h.r0, (hb.cell (p := ⟨B, 1, none⟩) hlt).trans h.r1,
    (hb.frozen (p := ⟨B, 0, none⟩) hlt).trans h.f0, (hb.frozen (p := ⟨B, 1, none⟩) hlt).trans h.f1⟩
theorem own_cap {w : World} {B g n cap size : Nat} {e : TypeId} {xs : List Value} (h : w.ownsRow B e size (.slice (some ⟨g, 0, none⟩) n cap) n xs) : n ≤ cap ∧ cap ≤ maxLen := by
  rcases h.2 with ⟨h, _⟩ | ⟨g', cap', cur, h, _, _, h1, h2, _⟩
  · cases h
  · cases h; exact ⟨h1, h2⟩

set_option maxRecDepth 100000 in
set_option maxHeartbeats 1000000 in
theorem refAmount_any (number name : ByteArray) (w : World) (hs : number.size ≤ 1048576) :
    Calls Tryd.prog 10 #[.string number, .string name] w fun e w' =>
      e = .returned (.tuple #[.agg #[.int .i64 (U.amountU number.data.toList name.data.toList).1, .int .i64 (U.amountU number.data.toList name.data.toList).2.1],
        .int .i64 (U.amountU number.data.toList name.data.toList).2.2]) ∧ Below w.heap.size w w' := by
  obtain ⟨i0, hi, hz0, hz1, hz2⟩ := info_parts intInfo
  have HSP := Lib.hid (fun w1 => split_any number w1 hs)
  have HT0 := Lib.hid (AR.new w)
  have HF := Lib.hid (factor_any name)
  obtain ⟨s, hsl⟩ : ∃ s, number.data.toList = s := ⟨_, rfl⟩
  obtain ⟨nm, hnm⟩ : ∃ s, name.data.toList = s := ⟨_, rfl⟩
  rw [hsl] at HSP ⊢
  rw [hnm] at HF ⊢
  clear hsl hnm hs
  obtain ⟨AM, hAM⟩ : ∃ AM, U.amountU s nm = AM := ⟨_, rfl⟩
  rw [hAM]
  cases hok : (U.splitR s).2.2 with
  | false =>
    have hA2 : AM = (0, 0, 2) := by
      rw [← hAM]
      have hb := U.split_bad s
      rw [hok] at hb
      unfold U.amountU
      rw [U.cut_eq]
      cases hx : (!U.digitsB (U.cutDot s).1 20 || ((U.cutDot s).2.2 && !U.digitsB (U.cutDot s).2.1 9)) with
      | true => rfl
      | false => rw [hx] at hb; cases hb
    subst hA2
    rw [hok] at HSP
    have HOK := Lib.hid hok
    clear hok hAM
    go_enter Tryd.func10, Tryd.ntmps10
    go_wp2_with fail
    refine (HSP.out _).mono ?_
    rintro e w1 ⟨v, rfl, _, hb1⟩
    have HT1 := Lib.hid (HT0.out.keep hb1)
    clear hb1 HT0
    obtain ⟨hbel, hsz, hr0, hr1, hf0, hf1⟩ := id HT1.out
    go_wp2_with fail
    refine bodyPost_ret (v := .tuple #[.agg #[.int .i64 0, .int .i64 0], .int .i64 2]) (by simp [results, Tryd.results10, go_sem, hr0, hr1]) rfl ⟨rfl, ?_⟩
    exact ((hbel.setCell (by simp) _).setCell (by simp) _)
  | true =>
    obtain ⟨p1, p2, p3, p4, p5, p6⟩ := U.split_ok hok
    have hfst : (U.splitR s).1 = (U.cutDot s).1 ++ (U.cutDot s).2.1 := by
      unfold U.splitR
      rw [p1]
      rfl
    have ham := U.amountU_ok (name := nm) hok
    rw [hAM] at ham
    unfold U.plain at p1
    simp only [Bool.and_eq_true] at p1
    obtain ⟨q1, q2⟩ := p1
    rw [hok, p6, hfst] at HSP
    obtain ⟨Ad, hAd⟩ : ∃ A, (U.cutDot s).1 = A := ⟨_, rfl⟩
    obtain ⟨Bd, hBd⟩ : ∃ B, (U.cutDot s).2.1 = B := ⟨_, rfl⟩
    rw [hAd, hBd] at HSP ham
    rw [hAd] at p2 p3 q1
    rw [hBd] at p4 q2
    clear hok hAM hAd hBd p5 p6 hfst
    cases hu : U.unitOf nm with
    | none =>
      rw [U.fac_none hu] at HF
      rw [hu] at ham
      simp only at ham
      subst ham
      have HU := Lib.hid hu
      have HP := Lib.hid (And.intro q1 q2)
      clear hu q1 q2
      go_enter Tryd.func10, Tryd.ntmps10
      go_wp2_with fail
      refine (HSP.out _).mono ?_
      rintro e w1 ⟨v, rfl, _, hb1⟩
      have HT1 := Lib.hid (HT0.out.keep hb1)
      clear hb1 HT0
      obtain ⟨hbel, hsz, hr0, hr1, hf0, hf1⟩ := id HT1.out
      go_wp2_with fail
      refine (HF.out _).mono ?_
      rintro e w6 ⟨rfl, rfl⟩
      simp only [facRet]
      go_wp2_with fail
      refine bodyPost_ret (v := .tuple #[.agg #[.int .i64 0, .int .i64 0], .int .i64 6]) (by simp [results, Tryd.results10, go_sem, hr0, hr1]) rfl ⟨rfl, ?_⟩
      exact ((hbel.setCell (by simp) _).setCell (by simp) _)
    | some u =>
      obtain ⟨dim, num, den⟩ := u
      obtain ⟨c, x, d, hfac, hnum, hc36, hx9, hd24⟩ := U.fac_of_unit hu
      obtain ⟨hd1, hc1⟩ := U.fac_den hfac
      rw [hfac] at HF
      rw [hu] at ham
      simp only at ham
      have hAne : Ad ≠ [] := by rintro rfl; simp at p2
      have HLAW := Lib.hid (fun N low r hV hlow hr => U.ref_law (N := N) (low := low) (r := r) q1 q2 hAne p4 hu hnum hd1 hd24 hc1 hV hlow hr)
      rw [← ham] at HLAW
      obtain ⟨E, hE⟩ : ∃ E, E = digN (Ad ++ Bd) := ⟨_, rfl⟩
      have hEm : (Ad ++ Bd).map dv = E.map nv := by rw [hE]; unfold digN; rw [List.map_map]; rfl
      have hEl : (Ad ++ Bd).length = E.length := by rw [hE]; simp [digN]
      have hEd : ∀ e ∈ E, e < 10 := by rw [hE]; exact digN_lt (by rw [List.all_append, q1, q2]; rfl)
      have hEv : U.digVal (Ad ++ Bd) = U.valL E := by rw [hE]; unfold digN; rw [U.valL_digs]
      have hEb : Bd.length < E.length := by rw [← hEl]; simp; omega
      have hE29 : E.length ≤ 29 := by rw [← hEl]; simp; omega
      rw [hEv] at HLAW
      rw [hEm, hEl] at HSP
      obtain ⟨b, hb⟩ : ∃ b, Bd.length = b := ⟨_, rfl⟩
      rw [hb] at HLAW HSP p4 hEb
      have HED := Lib.hid hEd
      clear hE hEm hEl hEd hEv hb q1 q2 hAne ham hu hnum hfac p2 p3
      go_enter Tryd.func10, Tryd.ntmps10
      go_wp2_with fail
      refine (HSP.out _).mono ?_
      rintro e w1 ⟨v, rfl, ho1, hb1⟩
      have HT1 := Lib.hid (HT0.out.keep hb1)
      have T1 := Lib.hid (times_any v E c _ w1 ho1 (by rintro rfl; simp at hEb) HED.out (by omega) (by omega))
      clear ho1 hb1 HT0 HSP
      go_wp2_with fail
      refine (HF.out _).mono ?_
      rintro e w6 ⟨rfl, rfl⟩
      simp only [facRet]
      go_wp2_with fail
      refine T1.out.mono ?_
      rintro e w2 ⟨v1, D1, cc, rfl, hl1, hd1', hv1, ho2, hb2⟩
      have hcc : cc = 0 := by
        refine c_zero hv1 ?_
        have h1 := U.valL_lt E HED.out
        have h2 : U.valL E * c ≤ U.valL E * 36 := Nat.mul_le_mul_left _ hc36
        have h3 : 10 ^ (E.length + 2) = 10 ^ E.length * 100 := by rw [Nat.pow_add]
        omega
      rw [hcc, Nat.zero_mul, Nat.zero_add] at hv1
      rw [← hl1] at ho2
      have HT2 := Lib.hid (HT1.out.keep hb2)
      have HO2 := Lib.hid ho2
      have HF1 := Lib.hid (And.intro hd1' hv1)
      have hl31 : D1.length ≤ 31 := by omega
      have HL1 := Lib.hid hl1
      obtain ⟨B2, hB2⟩ : ∃ B2, B2 = w6.heap.size := ⟨_, rfl⟩
      have HB2 := Lib.hid hB2
      rw [← hB2] at HO2
      clear hcc hl1 hd1' hv1 ho2 T1 HF hB2
      have hw2 := Lib.hid hb2.size
      clear hb2
      go_wp2_with fail
      go_loopw [6, 14] (fun l i wr => ∃ j : Nat, j ≤ x ∧ i = .int .i64 j ∧ Hid (wr.ownsRow B2 3 1 l (D1.length + j) ((D1 ++ List.replicate j 0).map nv)) ∧ Hid (Below B2 w2 wr))
        (fun _ i _ => x - (intOf i).toNat)
      case atStart => exact ⟨0, Nat.zero_le _, rfl, by simpa [Hid] using HO2.out, Below.refl _ _⟩
      case round =>
        obtain ⟨j, hj, rfl, hown2, hbel2⟩ := hrel
        by_cases hlt : j < x
        · have d2 : decide (j < x) = true := by simpa using hlt
          have hBw : B2 ≤ wr.heap.size := by have := hbel2.out.size; have := HB2.out; have := hw2.out; omega
          go_wp2_with (at_builtin; refine wpList_append_own _ rfl _ _ 33 rfl B2 3 i0 (.int .i64 0) 1 8 Tryd.underlying33 hi hz0 hz1 hz2 rfl (by decide) _ _ _ rfl (hown2.out.alloc _) ⟨wr.heap.size, 0, none⟩ 1 1 [.int .i64 0] rfl rfl ?c1 ?c2 ?c3 ?c4 ?c5 ?_)
          case c1 => exact (cell_one_new _ _ _)
          case c2 => intro u hu; rw [List.mem_singleton.1 hu]; rfl
          case c3 => unfold maxLen; omega
          case c4 => omega
          case c5 => rw [World.size_alloc]; omega
          intro v' w4 hown1 hgrow _
          have HBEL := Lib.hid ((hbel2.out.alloc hBw _).grown hgrow (by rw [World.size_alloc]; omega) (fun k hk => (hown2.out.lt k hk).1))
          have HOWN1 := Lib.hid hown1
          clear hown1 hgrow
          go_wp2_with fail
          refine ⟨⟨j + 1, by omega, by go_num, ?_, HBEL.out⟩, by simp [intOf]; omega⟩
          show w4.ownsRow B2 3 1 v' _ _
          have e2 : (D1 ++ List.replicate (j + 1) 0).map nv = D1.map nv ++ (List.replicate j (nv 0) ++ [.int .i64 0]) := by
            rw [List.replicate_succ', List.map_append, List.map_append, List.map_replicate]
            rfl
          rw [e2, ← Nat.add_assoc]
          exact HOWN1.out
        · have d2 : decide (j < x) = false := by simpa using hlt
          obtain rfl : j = x := by omega
          clear hlt
          obtain ⟨Z, hZ⟩ : ∃ Z, Z = D1 ++ List.replicate j 0 := ⟨_, rfl⟩
          have hZl : D1.length + j = Z.length := by rw [hZ]; simp
          have hZd : ∀ e ∈ Z, e < 10 := by
            rw [hZ]
            intro e he
            rcases List.mem_append.1 he with he | he
            · exact HF1.out.1 e he
            · rw [(List.mem_replicate.1 he).2]; decide
          have hZv : U.valL Z = U.valL E * c * 10 ^ j := by rw [hZ, U.valL_append, valL_zeros, List.length_replicate, Nat.add_zero, HF1.out.2]
          have hZo := hown2.out
          rw [hZl, ← hZ] at hZo
          have hZ40 : Z.length ≤ 40 := by omega
          have hZb : b < Z.length := by have := HL1.out; omega
          have O1 := Lib.hid (over_any u6 Z d _ wr hZo (by rintro rfl; simp at hZb) hZd hd1 (by omega) (by omega))
          have HZV := Lib.hid hZv
          have HT3 := Lib.hid (HT2.out.keep2 hbel2.out (by have := HB2.out; have := HT1.out.size; omega))
          clear hZ hZl hZd hZv hZo
          go_wp2_with fail
          refine O1.out.mono ?_
          rintro e w3 ⟨v2, D2, r, rfl, hrd, hl2, hd2, hv2, ho3, hb3⟩
          have HT4 := Lib.hid (HT3.out.keep hb3)
          obtain ⟨K, hK⟩ : ∃ K, Z.length = K := ⟨_, rfl⟩
          rw [hK] at hl2 ho3 hZ40 hZb
          obtain ⟨g2, cap2, rfl⟩ := Go.Joins.ownsRow_form ho3 (by omega)
          have hcap := own_cap ho3
          obtain ⟨t, ht⟩ : ∃ t, K - b = t := ⟨_, rfl⟩
          have hti : (K : Int) - (b : Int) = (t : Int) := by omega
          have htcap : t ≤ cap2 := by omega
          have HO3 := Lib.hid ho3
          have hg2 := Lib.hid (ho3.lt g2 rfl).2
          have HL2 := Lib.hid hl2
          have HD2 := Lib.hid hd2
          have HT := Lib.hid ht
          have HV2 : Hid (U.valL E * c * 10 ^ j = (U.valL (D2.take t) * 10 ^ b + U.valL (D2.drop t)) * d + r) := by
            rw [← HZV.out, hv2]
            congr 2
            have h1 : D2 = D2.take t ++ D2.drop t := (List.take_append_drop t D2).symm
            have h2 : (D2.drop t).length = b := by rw [List.length_drop, hl2]; omega
            calc U.valL D2 = U.valL (D2.take t ++ D2.drop t) := by rw [← h1]
              _ = _ := by rw [U.valL_append, h2]
          have HLOW : Hid (U.valL (D2.drop t) < 10 ^ b) := by
            have h2 : (D2.drop t).length = b := by rw [List.length_drop, hl2]; omega
            have := U.valL_lt (D2.drop t) (fun e he => hd2 e (List.mem_of_mem_drop he))
            rwa [h2] at this
          have HFIN := Lib.hid (HLAW.out _ _ _ HV2.out HLOW.out hrd)
          clear ho3 hb3 hl2 hd2 hv2 ht O1 hK hcap
          go_wp2_with fail
          go_loopw [15, 16] (fun rs i wr => ∃ k rv : Nat, k ≤ b ∧ i = .int .i64 k ∧ rs = .int .i64 rv ∧ Hid (rv = 0 ↔ r = 0 ∧ U.valL (D2.drop (K - k)) = 0) ∧ Hid (Below w3.heap.size w3 wr))
            (fun _ i _ => b - (intOf i).toNat)
          case atStart =>
            refine ⟨0, r, Nat.zero_le _, rfl, rfl, ?_, Below.refl _ _⟩
            rw [Nat.sub_zero, ← HL2.out, List.drop_length]
            simp [Hid, U.valL]
          case round =>
            obtain ⟨k, rv, hk, rfl, rfl, hrv, hbz⟩ := hrel
            by_cases hlt : k < b
            · have d3 : decide (k < b) = true := by simpa using hlt
              obtain ⟨q, hq⟩ : ∃ q, K - (k + 1) = q := ⟨_, rfl⟩
              have hqi : (K : Int) - 1 - (k : Int) = (q : Int) := by omega
              have hqK : q < D2.length := by rw [HL2.out]; omega
              have hqK2 : q < K := by omega
              obtain ⟨e, he⟩ : ∃ e, e = D2[q]'hqK := ⟨_, rfl⟩
              have hce : wr.cell? ⟨g2, q, none⟩ = some (.int .i64 (e : Int)) := by
                rw [hbz.out.cell (p := ⟨g2, q, none⟩) hg2.out, HO3.out.cellAt q (by omega), List.getElem?_map, List.getElem?_eq_getElem hqK, ← he]
                rfl
              have HQ : Hid (U.valL (D2.drop (K - (k + 1))) = 0 ↔ e = 0 ∧ U.valL (D2.drop (K - k)) = 0) := by
                rw [hq, U.valL_drop D2 q hqK, ← he, show q + 1 = K - k by omega]
                have := pow_pos' (D2.length - (K - k))
                constructor
                · intro h
                  have h1 : e * 10 ^ (D2.length - (K - k)) = 0 := by omega
                  rcases Nat.mul_eq_zero.1 h1 with h2 | h2
                  · exact ⟨h2, by omega⟩
                  · omega
                · rintro ⟨rfl, h⟩
                  rw [h]; simp
              have HQ2 : Hid (e ≠ 0 → ¬ U.valL (D2.drop (K - (k + 1))) = 0) := by
                intro h0 h
                rw [hq, U.valL_drop D2 q hqK, ← he, show q + 1 = K - k by omega] at h
                have h1 : e * 10 ^ (D2.length - (K - k)) = 0 := by omega
                have := pow_pos' (D2.length - (K - k))
                rcases Nat.mul_eq_zero.1 h1 with h2 | h2
                · exact h0 h2
                · omega
              have HLT := Lib.hid hlt
              clear he hq hlt
              by_cases he0 : e = 0
              · subst he0
                have d4 : ((0 : Int) != 0) = false := rfl
                go_wp2_with fail
                refine ⟨⟨k + 1, rv, HLT.out, by go_num, rfl, hrv.out.trans (and_congr_right fun _ => ⟨fun h => HQ.out.2 ⟨rfl, h⟩, fun h => (HQ.out.1 h).2⟩), hbz.out⟩, ?_⟩
                have := HLT.out
                simp [intOf]
                omega
              · have d4 : ((e : Int) != 0) = true := by simpa using he0
                have d5 : ((e : Int) == 0) = false := by simpa using he0
                go_wp2_with fail
                refine ⟨⟨k + 1, 1, HLT.out, by go_num, rfl, ⟨fun h => absurd h (by decide), fun h => absurd h.2 (HQ2.out he0)⟩, hbz.out⟩, ?_⟩
                have := HLT.out
                simp [intOf]
                omega
            · have d3 : decide (k < b) = false := by simpa using hlt
              obtain rfl : k = b := by omega
              clear hlt
              go_wp2_with fail
              have HREST : Hid (rv = 0 ↔ r = 0 ∧ U.valL (D2.drop t) = 0) := by rw [← HT.out]; exact hrv.out
              have htD : t ≤ D2.length := by rw [HL2.out]; omega
              have HTD := Lib.hid htD
              clear htD
              go_loopw [17, 18] (fun nn i wr => ∃ j y : Nat, j ≤ t ∧ i = .int .i64 j ∧ nn = .int .i64 y ∧ y ≤ 1125899906842624 ∧ Hid (y = U.valL (D2.take j)) ∧ Hid (Below w3.heap.size w3 wr))
                (fun _ i _ => t - (intOf i).toNat)
              case atStart => exact ⟨0, 0, Nat.zero_le _, rfl, rfl, Nat.zero_le _, rfl, hbz.out⟩
              case round =>
                obtain ⟨j, y, hj, rfl, rfl, hy, hyv, hbz2⟩ := hrel
                have HAR := Lib.hid (HT4.out.keep hbz2.out)
                by_cases hlt : j < t
                · have d3 : decide (j < t) = true := by simpa using hlt
                  have hjD : j < D2.length := by have := HTD.out; omega
                  have hjK : j < K := by have := HL2.out; omega
                  obtain ⟨e, he⟩ : ∃ e, e = D2[j]'hjD := ⟨_, rfl⟩
                  have he10 : e < 10 := by rw [he]; exact HD2.out _ (List.getElem_mem hjD)
                  have hce : wr.cell? ⟨g2, j, none⟩ = some (.int .i64 (e : Int)) := by
                    rw [hbz2.out.cell (p := ⟨g2, j, none⟩) hg2.out, HO3.out.cellAt j (by omega), List.getElem?_map, List.getElem?_eq_getElem hjD, ← he]
                    rfl
                  have hnx : U.valL (D2.take (j + 1)) = 10 * y + e := by
                    rw [List.take_succ_eq_append_getElem hjD, valL_snoc, ← hyv.out, ← he, Nat.mul_comm]
                  have HNX := Lib.hid hnx
                  have HLT := Lib.hid hlt
                  obtain ⟨z, hz⟩ : ∃ z, 10 * y + e = z := ⟨_, rfl⟩
                  have hzi : 10 * (y : Int) + (e : Int) = (z : Int) := by omega
                  have HZ := Lib.hid hz
                  clear he hnx hlt hz
                  by_cases hbig : 1125899906842624 < z
                  · have d4 : decide (1125899906842624 < (z : Int)) = true := by simp; omega
                    have hA7 : AM = (0, 0, 7) := by
                      rw [HFIN.out]
                      unfold U.refT
                      rw [if_neg]
                      rintro ⟨h, _⟩
                      have h1 : D2.take t = D2.take (j + 1) ++ (D2.take t).drop (j + 1) := by
                        have := (List.take_append_drop (j + 1) (D2.take t)).symm
                        rwa [List.take_take, Nat.min_eq_left (by have := HLT.out; omega)] at this
                      rw [h1, U.valL_append, HNX.out, HZ.out] at h
                      have h2 : z * 1 ≤ z * 10 ^ ((D2.take t).drop (j + 1)).length := Nat.mul_le_mul_left _ (pow_pos' _)
                      omega
                    have HA7 := Lib.hid hA7
                    obtain ⟨hbel, hsz, hr0, hr1, hf0, hf1⟩ := id HAR.out
                    clear hA7 hbig
                    go_wp2_with fail
                    rw [HA7.out]
                    refine bodyPost_ret (v := .tuple #[.agg #[.int .i64 0, .int .i64 0], .int .i64 7]) (by simp [results, Tryd.results10, go_sem, hr0, hr1]) rfl ⟨rfl, ?_⟩
                    exact ((hbel.setCell (by simp) _).setCell (by simp) _)
                  · have d4 : decide (1125899906842624 < (z : Int)) = false := by simp; omega
                    have hbig' : z ≤ 1125899906842624 := by omega
                    clear hbig
                    go_wp2_with fail
                    refine ⟨⟨j + 1, z, HLT.out, by go_num, rfl, hbig', by show z = _; rw [HNX.out, HZ.out], hbz2.out⟩, ?_⟩
                    have := HLT.out
                    simp [intOf]
                    omega
                · have d3 : decide (j < t) = false := by simpa using hlt
                  obtain rfl : j = t := by omega
                  obtain ⟨hbel, hsz, hr0, hr1, hf0, hf1⟩ := id HAR.out
                  clear hlt
                  by_cases hrv0 : rv = 0
                  · subst hrv0
                    have hA0 : AM = ((y : Int), (dim : Int), 0) := by
                      obtain ⟨h1, h2⟩ := HREST.out.1 rfl
                      rw [HFIN.out]
                      unfold U.refT
                      rw [if_pos ⟨by rw [← hyv.out]; exact hy, h2, h1⟩, ← hyv.out]
                    have HA0 := Lib.hid hA0
                    clear hA0
                    go_wp2_with fail
                    rw [HA0.out]
                    refine bodyPost_ret (v := .tuple #[.agg #[.int .i64 (y : Int), .int .i64 (dim : Int)], .int .i64 0]) (by simp [results, Tryd.results10, go_sem, hr0, hr1]) rfl ⟨rfl, ?_⟩
                    exact ((hbel.setCell (by simp) _).setCell (by simp) _)
                  · have d4 : ((rv : Int) != 0) = true := by simpa using hrv0
                    have d5 : ((rv : Int) == 0) = false := by simpa using hrv0
                    have hA7 : AM = (0, 0, 7) := by
                      rw [HFIN.out]
                      unfold U.refT
                      rw [if_neg]
                      rintro ⟨_, h1, h2⟩
                      exact hrv0 (HREST.out.2 ⟨h2, h1⟩)
                    have HA7 := Lib.hid hA7
                    clear hA7 hrv0
                    go_wp2_with fail
                    rw [HA7.out]
                    refine bodyPost_ret (v := .tuple #[.agg #[.int .i64 0, .int .i64 0], .int .i64 7]) (by simp [results, Tryd.results10, go_sem, hr0, hr1]) rfl ⟨rfl, ?_⟩
                    exact ((hbel.setCell (by simp) _).setCell (by simp) _)
end Go.Proofs.YtojdneepnfcnjaaDoor
