/- Layer 13's white space, by contract. -/
import Derived.Test.YtooajmbpncmgjaaGreatDoorLexA
import Derived.Test.YtooajmbpncmgjaaGreatDoorPlain
import Derived.Shelf.Strings.SlTrimAscii
import Derived.Deep.Light
namespace Go.Proofs.YtooajmbpncmgjaaGreatDoor
open Go.RowKit

theorem trimLeft_any (s : ByteArray) (w : World) :
    Calls Tryz.prog 58 #[.string s, .string ⟨#[32, 9, 13, 10]⟩] w fun e w' => e = .returned (.string ⟨(Lib.trimLeftS s.data.toList L.blanks).toArray⟩) ∧ Below w.heap.size w w' :=
  Any.strings_TrimLeft_laid Tryz.lays161 (by kernel_rfl) s ⟨#[32, 9, 13, 10]⟩ w (by decide) (ascii_of_all (by decide))

def strLen (v : Value) : Nat := match v with | .string x => x.size | _ => 0
theorem strLen_mk (l : List UInt8) : strLen (.string ⟨l.toArray⟩) = l.length := L.ba_size l
theorem ret_i64 {a b : Int} (h : a = b) : Ending.returned (.int .i64 a) = .returned (.int .i64 b) := by rw [h]

set_option maxHeartbeats 1000000 in
theorem space_any (s : ByteArray) (w : World) (hs : s.size ≤ maxLen) :
    Calls Tryz.prog 43 #[.string s] w fun e w' => e = .returned (.int .i64 (L.spaceL s.data.toList : Nat)) ∧ Below w.heap.size w w' := by
  unfold maxLen at hs
  have TL := Lib.hid fun s w => trimLeft_any s w
  have HP := Lib.hid fun s w => Tryz.strings_HasPrefix s ⟨#[35]⟩ w
  have IB := Lib.hid fun s w => Tryz.strings_IndexByte s 10 w
  go_enter Tryz.func43, Tryz.ntmps43
  go_wp2_with fail
  go_loopw [2, 3, 4] (fun _ r _ wr => ∃ l : List UInt8, r = .string ⟨l.toArray⟩ ∧ Hid (L.rest false s.data.toList = L.rest false l) ∧ l.length ≤ s.size ∧ Hid (Below w.heap.size w wr)) (fun _ r _ _ => strLen r)
  case atStart => exact ⟨s.data.toList, by simp, Lib.hid rfl, by simp, Lib.hid (Below.refl _ _)⟩
  case round =>
    obtain ⟨l, rfl, hl, hlen, hb⟩ := hrel
    have tl := TL.out ⟨l.toArray⟩ wr
    have hp := fun w => HP.out ⟨(Lib.trimLeftS l L.blanks).toArray⟩ w
    have ib := fun w => IB.out ⟨(Lib.trimLeftS l L.blanks).toArray⟩ w
    have hlt := L.trim_len l L.blanks
    simp only [show (10 : Int).toNat.toUInt8 = 10 from rfl] at tl hp ib
    have h1 := L.rest_done l
    have h2 := L.rest_open l
    have h3 := L.rest_comment l
    generalize Lib.trimLeftS l L.blanks = t at *
    have TL := Lib.hid tl
    have HP := Lib.hid hp
    have IB := Lib.hid ib
    have H1 := Lib.hid h1
    have H2 := Lib.hid h2
    have H3 := Lib.hid h3
    have hts : (ByteArray.mk t.toArray).size = t.length := L.ba_size t
    have HTS := Lib.hid hts
    clear tl hp ib h1 h2 h3 hts
    cases hh : Lib.hasPrefix t [35]
    · have HH := Lib.hid hh
      clear hh
      go_wp2_with fail
      refine TL.out.mono ?_
      rintro e w1 ⟨rfl, hb1⟩
      go_wp2_with fail
      refine (HP.out _).mono ?_
      rintro e w2 ⟨rfl, rfl⟩
      rw [HH.out]
      go_wp2_with fail
      go_ret
      refine ⟨ret_i64 ?_, hb.out.trans (hb1.mono hb.out.size)⟩
      have e := hl.out.trans (H1.out HH.out)
      unfold L.spaceL
      rw [e]
      have e2 : s.data.toList.length = s.size := by simp
      omega
    · have HH := Lib.hid hh
      rcases L.index_cases t 10 with ⟨i1, i2⟩ | ⟨a, b, i1, i2, i3⟩
      · have h4 := H2.out hh i2
        have H4 := Lib.hid h4
        have I1 := Lib.hid i1
        have ht : 0 < t.length := by obtain ⟨r, hr⟩ := L.prefix_hash t hh; rw [hr]; simp
        clear hh i1 i2 h4
        go_wp2_with fail
        refine TL.out.mono ?_
        rintro e w1 ⟨rfl, hb1⟩
        go_wp2_with fail
        refine (HP.out _).mono ?_
        rintro e w2 ⟨rfl, rfl⟩
        rw [HH.out]
        go_wp2_with fail
        refine (IB.out _).mono ?_
        rintro e w2 ⟨rfl, rfl⟩
        rw [I1.out]
        go_wp2_with fail
        refine ⟨⟨[], rfl, Lib.hid (hl.out.trans H4.out), by simp, Lib.hid (hb.out.trans (hb1.mono hb.out.size))⟩, ?_⟩
        show strLen (.string ⟨([] : List UInt8).toArray⟩) < strLen (.string ⟨l.toArray⟩)
        rw [strLen_mk, strLen_mk]
        simp
        omega
      · obtain ⟨h4, h5⟩ := H3.out a b hh i1 i2
        subst i1
        have H4 := Lib.hid h4
        have I3 := Lib.hid i3
        simp at hlt
        have e1 : (⟨(a ++ 10 :: b).toArray⟩ : ByteArray).extract a.length (a.length + (b.length + 1)) = ⟨(10 :: b).toArray⟩ := by
          have d : (a ++ 10 :: b).drop a.length = 10 :: b := by simp
          rw [L.ba_mid, show (⟨(a ++ 10 :: b).toArray⟩ : ByteArray).data.toList = a ++ 10 :: b from rfl, d, List.take_of_length_le (by simp)]
        clear hh i2 i3 h4
        go_wp2_with fail
        refine TL.out.mono ?_
        rintro e w1 ⟨rfl, hb1⟩
        go_wp2_with fail
        refine (HP.out _).mono ?_
        rintro e w2 ⟨rfl, rfl⟩
        rw [HH.out]
        go_wp2_with fail
        refine (IB.out _).mono ?_
        rintro e w2 ⟨rfl, rfl⟩
        rw [I3.out]
        go_wp2_with fail
        refine ⟨⟨10 :: b, rfl, Lib.hid (hl.out.trans H4.out), by simp; omega, Lib.hid (hb.out.trans (hb1.mono hb.out.size))⟩, ?_⟩
        show strLen (.string ⟨(10 :: b).toArray⟩) < strLen (.string ⟨l.toArray⟩)
        rw [strLen_mk, strLen_mk]
        simp
        omega
end Go.Proofs.YtooajmbpncmgjaaGreatDoor
