/- strings.SplitSeq over the signs, by contract. -/
import Derived.Test.YtooajmbpncmgjaaGreatDoorLexB
import Derived.Test.YtooajmbpncmgjaaGreatDoorRange
import Derived.Shelf.Abstract
import Derived.Shelf.RegionOpen
import Derived.WalkKit
import Derived.OwnWalkIn
import Derived.TacticsInMore
import Derived.LoopNIn
import Derived.LoopIn
import Derived.Deep.Light
namespace Go.Proofs.YtooajmbpncmgjaaGreatDoor
open Go.RowKit Go.Shelf
attribute [local go_sem] Oper.semAt_some

def strLeft (w : World) (a : Addr) : Nat := match w.cell? a with | some (.string s) => s.size | _ => 0

theorem index_end (g : List UInt8) (w : World) (h : (32 : UInt8) ∉ g) :
    Calls Tryz.prog 100 #[.string ⟨g.toArray⟩, .string ⟨#[32]⟩] w fun e w' => e = .returned (.int .i64 (-1)) ∧ w = w' := by
  have c := Tryz.strings_Index_one ⟨g.toArray⟩ 32 w
  refine c.mono ?_
  rintro e w' ⟨rfl, rfl⟩
  exact ⟨congrArg (fun i => Ending.returned (.int .i64 i)) (L.index_none g h), rfl⟩
theorem index_mid (g X : List UInt8) (w : World) (h : (32 : UInt8) ∉ g) :
    Calls Tryz.prog 100 #[.string ⟨(g ++ 32 :: X).toArray⟩, .string ⟨#[32]⟩] w fun e w' => e = .returned (.int .i64 (g.length : Int)) ∧ w = w' := by
  have c := Tryz.strings_Index_one ⟨(g ++ 32 :: X).toArray⟩ 32 w
  refine c.mono ?_
  rintro e w' ⟨rfl, rfl⟩
  exact ⟨congrArg (fun i => Ending.returned (.int .i64 i)) (L.index_app g X h), rfl⟩

set_option maxHeartbeats 1000000 in
theorem split_in (n : Nat) (hn : 1 ≤ n) (B n₀ : Nat) (hB : B + 3 ≤ n₀) (w0 : World)
    (h0 : w0.cell? ⟨B, 0, none⟩ = some (.string ⟨(L.joinSp L.signsL).toArray⟩)) (hf0 : w0.frozen? ⟨B, 0, none⟩ = false) (h1 : w0.cell? ⟨B + 1, 0, none⟩ = some (.string ⟨#[32]⟩)) (h2 : w0.cell? ⟨B + 2, 0, none⟩ = some (.int .i64 0)) :
    SeqStopsC Fence.wide n Tryz.prog 99 #[.pointer (some ⟨B + 1, 0, none⟩), .pointer (some ⟨B, 0, none⟩), .pointer (some ⟨B + 2, 0, none⟩)] (fun g : List UInt8 => #[.string ⟨g.toArray⟩]) ⟨B, 0, none⟩ n₀
      (fun xs => xs = L.signsL) (fun pre => pre <+: L.signsL) 19 w0 := by
  intro l J Jx W hW hJ hY hJ0
  have g0 := (hW.cell (p := ⟨B, 0, none⟩) (by show B < n₀; omega)).trans h0
  have gf0 := (hW.frozen (p := ⟨B, 0, none⟩) (by show B < n₀; omega)).trans hf0
  have g1 := (hW.cell (p := ⟨B + 1, 0, none⟩) (by show B + 1 < n₀; omega)).trans h1
  have g2 := (hW.cell (p := ⟨B + 2, 0, none⟩) (by show B + 2 < n₀; omega)).trans h2
  refine callsIn_of_wp Tryz.func99 rfl trivial ?_ rfl
  simp only [Tryz.ntmps99, List.size_toArray, List.length_cons, List.length_nil, Nat.reduceAdd, Nat.reduceSub, Array.replicate_succ, Array.replicate_zero, List.push_toArray, List.append_toArray, List.nil_append, List.cons_append]
  gi_wp2_with fail
  gi_loopw [7] (fun _ wr => ∃ (pre rest : List (List UInt8)), Hid (L.signsL = pre ++ rest) ∧ Hid (rest ≠ []) ∧ wr.cell? ⟨B, 0, none⟩ = some (.string ⟨(L.joinSp rest).toArray⟩) ∧ wr.frozen? ⟨B, 0, none⟩ = false ∧ wr.cell? ⟨B + 1, 0, none⟩ = some (.string ⟨#[32]⟩) ∧ wr.cell? ⟨B + 2, 0, none⟩ = some (.int .i64 0) ∧ Hid (J pre wr))
    (fun _ wr => strLeft wr ⟨B, 0, none⟩)
  case atStart =>
    exact ⟨[], L.signsL, Lib.hid rfl, Lib.hid (by decide), g0, gf0, g1, g2, Lib.hid hJ0⟩
  case round =>
    obtain ⟨pre, rest, hx, hne, r0, rf0, r1, r2, hJs⟩ := hrel
    cases rest with
    | nil => exact absurd rfl hne.out
    | cons g r =>
      have hmem : g ∈ L.signsL := by rw [hx.out]; simp
      have hg := L.signs_plain g hmem
      have hlen : pre.length < 19 := by have h := congrArg List.length hx.out; simp [L.signsL] at h; omega
      have hshort := L.signs_short g hmem
      by_cases hr : r = []
      · subst hr
        have IX := Lib.hid (index_end g wr hg)
        obtain ⟨fn, tmps, assign, body, hy, hR⟩ := hY pre g wr hJs.out hlen
        have HR := Lib.hid hR
        clear hR hJ hY hg hmem
        change wr.cell? _ = some (.string ⟨g.toArray⟩) at r0
        gi_wp2_with fail
        refine ⟨trivial, (callsIn_wide.2 IX.out).mono ?_⟩
        rintro e w' ⟨rfl, rfl⟩
        gi_wp2_with fail
        refine HR.out.mono ?_
        rintro e W3 (⟨rfl, hJ3, hk3⟩ | ⟨rfl, hJx3⟩)
        · have HJ3 := Lib.hid hJ3
          have HK3 := Lib.hid hk3
          clear hJ3 hk3
          gi_wp2_with fail
          go_end0
          exact ⟨⟨_, rfl⟩, .inl ⟨_, hx.out.symm, HJ3.out⟩⟩
        · have HJ3 := Lib.hid hJx3
          clear hJx3
          gi_wp2_with fail
          go_end0
          exact ⟨⟨_, rfl⟩, .inr ⟨_, ⟨[], by rw [List.append_nil]; exact hx.out.symm⟩, HJ3.out⟩⟩
      · rw [L.joinSp_cons g r hr] at r0
        have IX := Lib.hid (index_mid g (L.joinSp r) wr hg)
        have HR2 := Lib.hid hr
        obtain ⟨fn, tmps, assign, body, hy, hR⟩ := hY pre g wr hJs.out hlen
        have HR := Lib.hid hR
        have HJ := Lib.hid hJ
        have e0 := Lib.hid (L.ba_size (g ++ 32 :: L.joinSp r))
        have e1 : (⟨(g ++ 32 :: L.joinSp r).toArray⟩ : ByteArray).extract 0 g.length = ⟨g.toArray⟩ := by rw [L.ba_take]; simp
        have e2 : (⟨(g ++ 32 :: L.joinSp r).toArray⟩ : ByteArray).extract (g.length + 1) (g.length + ((L.joinSp r).length + 1)) = ⟨(L.joinSp r).toArray⟩ := by
          have d : (g ++ 32 :: L.joinSp r).drop (g.length + 1) = L.joinSp r := by simp
          rw [L.ba_mid, show (⟨(g ++ 32 :: L.joinSp r).toArray⟩ : ByteArray).data.toList = g ++ 32 :: L.joinSp r from rfl, d, List.take_of_length_le (by omega)]
        clear hR hJ hY hg hmem hr
        gi_wp2_with fail
        refine ⟨trivial, (callsIn_wide.2 IX.out).mono ?_⟩
        rintro e w' ⟨rfl, rfl⟩
        gi_wp2_with fail
        refine HR.out.mono ?_
        rintro e W3 (⟨rfl, hJ3, hk3⟩ | ⟨rfl, hJx3⟩)
        · have q0 := (hk3.cell (p := ⟨B, 0, none⟩) (by show B < n₀; omega)).trans r0
          have qf0 := (hk3.frozen (p := ⟨B, 0, none⟩) (by show B < n₀; omega)).trans rf0
          have q1 := (hk3.cell (p := ⟨B + 1, 0, none⟩) (by show B + 1 < n₀; omega)).trans r1
          have q2 := (hk3.cell (p := ⟨B + 2, 0, none⟩) (by show B + 2 < n₀; omega)).trans r2
          have HJ3 := Lib.hid hJ3
          have HK3 := Lib.hid hk3
          clear hJ3 hk3
          gi_wp2_with fail
          refine ⟨⟨pre ++ [g], r, Lib.hid (by rw [hx.out]; simp), HR2, World.cell?_setCell_same' _ _ _ (by rw [q0]; rfl), by rw [World.frozen?_setCell]; exact qf0, ?_, ?_, Lib.hid (HJ.out _ _ _ HJ3.out)⟩, ?_⟩
          · exact (World.cell?_setCell_other _ ⟨B, 0, none⟩ ⟨B + 1, 0, none⟩ _ (by simp)).trans q1
          · exact (World.cell?_setCell_other _ ⟨B, 0, none⟩ ⟨B + 2, 0, none⟩ _ (by simp)).trans q2
          · unfold strLeft
            rw [World.cell?_setCell_same' _ _ _ (by rw [q0]; rfl), r0]
            simp only [L.ba_size]
            simp
            omega
        · have HJ3 := Lib.hid hJx3
          clear hJx3
          gi_wp2_with fail
          refine bodyPost_ret (results_none rfl _ _ _) rfl ?_
          exact ⟨⟨_, rfl⟩, .inr ⟨_, ⟨r, by rw [hx.out]; simp⟩, HJ3.out⟩⟩
end Go.Proofs.YtooajmbpncmgjaaGreatDoor
