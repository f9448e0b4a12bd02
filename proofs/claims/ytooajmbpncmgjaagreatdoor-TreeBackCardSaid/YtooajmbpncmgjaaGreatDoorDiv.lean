/- math/bits.Add64 and math/bits.Div64, by contract. -/
import Derived.Test.YtooajmbpncmgjaaGreatDoorPlain
import Derived.Test.YtooajmbpncmgjaaGreatDoorProg
import Derived.WalkKit
import Derived.WalkSpells
import Derived.WalkLawsBesides
import Derived.BigQuiet
import Derived.Deep.QuietTactic
import Derived.Lib.Hide
import Derived.Deep.DeepCutAuto
import Derived.Deep.LoopGhost
import Derived.Deep.CutBlock
namespace Go.Proofs.YtooajmbpncmgjaaGreatDoor
open Go.RowKit

set_option maxHeartbeats 400000 in
theorem div64_small (lo y : Int) (w : World) (h0 : 0 ≤ lo) (h1 : lo ≤ 18446744073709551615) (hy : 0 < y) (hy1 : y ≤ 18446744073709551615) :
    Calls Tryz.prog 52 #[.int .u64 0, .int .u64 lo, .int .u64 y] w fun e w' => e = .returned (.tuple #[.int .u64 (lo / y), .int .u64 (lo % y)]) ∧ ∃ n, w' = w.drewN n := by
  have hb1 : (y == 0) = false := by simp; omega
  have hb2 : decide (y ≤ 0) = false := by simp; omega
  go_enter Tryz.func52, Tryz.ntmps52
  go_wp2
  go_quiet (fail)
  go_wp2
  go_ret2
  exact ⟨rfl, _, rfl⟩
end Go.Proofs.YtooajmbpncmgjaaGreatDoor
namespace Go.Proofs.YtooajmbpncmgjaaGreatDoor
open Go.RowKit DivMath

theorem wrapMul {a b c : Nat} (h : a * b = c) (hc : c < 18446744073709551616) : IntKind.u64.wrap ((a : Int) * (b : Int)) = (c : Int) := by
  have h' : (a : Int) * (b : Int) = (c : Int) := by rw [← h]; simp
  rw [h', IntWalk.u64_in _ ⟨by omega, by omega⟩]
theorem slot_eq {a : Int} {b : Nat} (h : a = (b : Int)) : Value.int .u64 a = Value.int .u64 (b : Int) := by rw [h]
theorem q_step {Q q : Nat} (h : Q = q - 1) (h1 : 1 ≤ (q : Int)) : (q : Int) - 1 = (Q : Int) := by omega
theorem q_pos {A d y1 y0 q r : Nat} (h : Inv A d y1 y0 q r) (k : Ok A d y1 y0) (ht : 4294967296 ≤ q ∨ 4294967296 * r + d < q * y0) : 1 ≤ q := by
  have := too_large h k ht
  exact Nat.le_trans (Nat.succ_le_succ (Nat.zero_le _)) this
/-- What the subtraction behind a loop gives: the remainder. -/
theorem remains {A d Y Q : Nat} (hQ : Q = (A * 4294967296 + d) / Y) (hY : 0 < Y) (hY2 : Y < 18446744073709551616) :
    IntKind.u64.wrap (IntKind.u64.wrap (IntKind.u64.wrap ((A : Int) * 4294967296) + (d : Int)) - IntKind.u64.wrap ((Q : Int) * (Y : Int))) = (((A * 4294967296 + d) % Y : Nat) : Int) := by
  have h1 := Nat.div_add_mod (A * 4294967296 + d) Y
  have h2 := Nat.mod_lt (A * 4294967296 + d) hY
  rw [← hQ] at h1
  have h3 : (Q : Int) * (Y : Int) = ((Y * Q : Nat) : Int) := by rw [Nat.mul_comm]; simp
  rw [h3]
  generalize Y * Q = M at *
  generalize (A * 4294967296 + d) % Y = R at *
  simp only [IntKind.wrap_u64]
  omega

set_option maxRecDepth 100000 in
set_option maxHeartbeats 1000000 in
theorem div64_core (hi lo y s : Int) (w : World) (g0 : 0 < hi) (g1 : hi < y) (_h0 : 0 ≤ lo) (_h1 : lo ≤ 18446744073709551615) (_hy1 : y ≤ 18446744073709551615)
    (hs0 : 0 ≤ s) (hs1 : s ≤ 63) (Y U10 A y1 y0 u1 u0 Q R Q2 R2 : Nat) (k1 : Ok A u1 y1 y0) (k2 : Ok R u0 y1 y0) (hYY : Y = 4294967296 * y1 + y0)
    (hQ : Q = (A * 4294967296 + u1) / Y) (hR : R = (A * 4294967296 + u1) % Y) (hQ2 : Q2 = (R * 4294967296 + u0) / Y) (hR2 : R2 = (R * 4294967296 + u0) % Y)
    (hY : IntKind.u64.wrap (y * 2 ^ s.toNat) = (Y : Int)) (hU10 : IntKind.u64.wrap (lo * 2 ^ s.toNat) = (U10 : Int))
    (hA : bits .or .u64 (IntKind.u64.wrap (hi * 2 ^ s.toNat)) (lo / 2 ^ (64 - s).toNat) = (A : Int))
    (hY1 : (Y : Int) / 4294967296 = (y1 : Int)) (hY0 : bits .and .u64 (Y : Int) 4294967295 = (y0 : Int))
    (hu1 : (U10 : Int) / 4294967296 = (u1 : Int)) (hu0 : bits .and .u64 (U10 : Int) 4294967295 = (u0 : Int))
    (lz : ∀ w, Calls Tryz.prog 78 #[.int .u64 y] w fun e w' => e = .returned (.int .i64 s) ∧ w = w') :
    Calls Tryz.prog 52 #[.int .u64 hi, .int .u64 lo, .int .u64 y] w fun e w' =>
      e = .returned (.tuple #[.int .u64 ((Q : Int) * 4294967296 + (Q2 : Int)), .int .u64 ((R2 : Int) / 2 ^ s.toNat)]) ∧ w = w' := by
  have hb1 : (y == 0) = false := by simp; omega
  have hb2 : decide (y ≤ hi) = false := by simp; omega
  have hb3 : (hi == 0) = false := by simp; omega
  have LZ := Lib.hid lz
  obtain ⟨k1d, k1lo, k1hi, k10⟩ : (u1 : Int) < 4294967296 ∧ 2147483648 ≤ (y1 : Int) ∧ (y1 : Int) < 4294967296 ∧ (y0 : Int) < 4294967296 := by
    obtain ⟨k1A, k1d, k1lo, k1hi, k10⟩ := k1
    omega
  have k2d : (u0 : Int) < 4294967296 := by
    obtain ⟨_, k2d, _, _, _⟩ := k2
    omega
  have hQlt : (Q : Int) < 4294967296 := by have := q_lt k1; rw [← hYY, ← hQ] at this; omega
  have hQ2lt : (Q2 : Int) < 4294967296 := by have := q_lt k2; rw [← hYY, ← hQ2] at this; omega
  have hYb : 0 < Y ∧ Y < 18446744073709551616 := by omega
  have hsub := remains hQ hYb.1 hYb.2
  rw [← hR] at hsub
  have hsub2 := remains hQ2 hYb.1 hYb.2
  rw [← hR2] at hsub2
  have SUB := Lib.hid hsub
  have SUB2 := Lib.hid hsub2
  rw [hYY] at hQ hQ2
  have HQ := Lib.hid hQ
  have HQ2 := Lib.hid hQ2
  have i1 := inv_start k1
  have i2 := inv_start k2
  have K1 := Lib.hid k1
  have K2 := Lib.hid k2
  obtain ⟨q, hq⟩ : ∃ q : Nat, A / y1 = q := ⟨_, rfl⟩
  obtain ⟨q', hq'⟩ : ∃ q : Nat, R / y1 = q := ⟨_, rfl⟩
  rw [hq] at i1
  rw [hq'] at i2
  have hqi : (A : Int) / (y1 : Int) = (q : Int) := by rw [← hq]; simp
  have hqi' : (R : Int) / (y1 : Int) = (q' : Int) := by rw [← hq']; simp
  obtain ⟨p, hp⟩ : ∃ p : Nat, q * y1 = p := ⟨_, rfl⟩
  obtain ⟨p', hp'⟩ : ∃ p : Nat, q' * y1 = p := ⟨_, rfl⟩
  rw [hp] at i1
  rw [hp'] at i2
  have hpA : (p : Int) ≤ A := by
    have := Nat.div_mul_le_self A y1
    rw [hq, hp] at this
    omega
  have hpA' : (p' : Int) ≤ R := by
    have := Nat.div_mul_le_self R y1
    rw [hq', hp'] at this
    omega
  have hAu : (A : Int) < 18446744073709551616 := by
    obtain ⟨k1A, _, _, _, _⟩ := k1
    omega
  have hRu : (R : Int) < 18446744073709551616 := by
    obtain ⟨k1A, _, _, _, _⟩ := k2
    omega
  have hwp := wrapMul hp (by omega)
  have hwp' := wrapMul hp' (by omega)
  obtain ⟨q0, q0'⟩ : (q : Int) ≤ 4294967297 ∧ (q' : Int) ≤ 4294967297 := by
    obtain ⟨_, _, h, _⟩ := i1
    obtain ⟨_, _, h', _⟩ := i2
    omega
  have I1 := Lib.hid i1
  have I2 := Lib.hid i2
  have HQI := Lib.hid hqi'
  have HWP := Lib.hid hwp'
  clear lz k1 k2 i1 i2 hQ hQ2 hR hR2 hsub hsub2 hYb hq hq' hp hp' hqi' hwp' hYY
  go_enter Tryz.func52, Tryz.ntmps52
  go_upto_block 0 with (go_at_call 78; refine (LZ.out _).mono ?_; rintro e w' ⟨rfl, rfl⟩)
  clear hY hU10 hA hY1 hY0 hu1 hu0 hqi hwp LZ hb1 hb2 hb3
  go_cut [15] (fun v wx => v = .int .u64 Q ∧ w = wx)
  case first =>
    go_wp2_with fail
    go_loop [15, 16] (fun v r => ∃ q r' : Nat, Inv A u1 y1 y0 q r' ∧ v = .int .u64 q ∧ r = .int .u64 r') (fun v _ => (intOf v).toNat)
    case atStart => exact ⟨_, A - p, I1.out, rfl, slot_eq (by omega)⟩
    case round =>
      obtain ⟨q, r, hinv, rfl, rfl⟩ := hrel
      obtain ⟨hql, hrl⟩ : (q : Int) ≤ 4294967297 ∧ (r : Int) < 4294967296 := by
        obtain ⟨_, _, hql, hrl⟩ := hinv
        omega
      have HI := Lib.hid hinv
      clear hinv
      by_cases hq : (q : Int) < 4294967296
      · have hd1 : decide ((q : Int) < 4294967296) = true := by simpa using hq
        have hd2 : decide (4294967296 ≤ (q : Int)) = false := by simpa using hq
        obtain ⟨m, HM⟩ : ∃ m : Nat, Hid (q * y0 = m) := ⟨_, rfl⟩
        have hm : IntKind.u64.wrap ((q : Int) * (y0 : Int)) = (m : Int) := wrapMul HM.out (by
          have := HM.out
          have h : q * y0 ≤ 4294967295 * 4294967295 := Nat.mul_le_mul (by omega) (by omega)
          omega)
        by_cases ht : 4294967296 * (r : Int) + (u1 : Int) < (m : Int)
        · have hd3 : decide (4294967296 * (r : Int) + (u1 : Int) < (m : Int)) = true := by simpa using ht
          have HT : Hid (4294967296 ≤ q ∨ 4294967296 * r + u1 < q * y0) := Or.inr (by rw [HM.out]; omega)
          have hq1 : 1 ≤ (q : Int) := by have := q_pos HI.out K1.out HT.out; omega
          by_cases hb : (r : Int) + (y1 : Int) < 4294967296
          · have hd4 : decide ((r : Int) + (y1 : Int) < 4294967296) = true := by simpa using hb
            have hd5 : decide (4294967296 ≤ (r : Int) + (y1 : Int)) = false := by simpa using hb
            go_wp2
            go_round
            case rel => exact ⟨q - 1, r + y1, DivMath.step HI.out K1.out HT.out (by omega), slot_eq (by omega), slot_eq (by omega)⟩
            case measure => simp [intOf]; omega
          · have hd4 : decide ((r : Int) + (y1 : Int) < 4294967296) = false := by simpa using hb
            have hd5 : decide (4294967296 ≤ (r : Int) + (y1 : Int)) = true := by simpa using hb
            have HF : Hid (Q = q - 1) := (HQ.out).trans (break_q HI.out K1.out HT.out (by omega))
            go_wp2_with fail
            go_meet
            exact ⟨slot_eq (q_step HF.out hq1), rfl⟩
        · have hd3 : decide (4294967296 * (r : Int) + (u1 : Int) < (m : Int)) = false := by simpa using ht
          have HF : Hid (Q = q) := (HQ.out).trans (exact_q HI.out K1.out (by rw [HM.out]; omega))
          go_wp2_with fail
          go_meet
          exact ⟨slot_eq (by rw [HF.out]), rfl⟩
      · have hd1 : decide ((q : Int) < 4294967296) = false := by simpa using hq
        have hd2 : decide (4294967296 ≤ (q : Int)) = true := by simpa using hq
        have HT : Hid (4294967296 ≤ q ∨ 4294967296 * r + u1 < q * y0) := Or.inl (by omega)
        have hq1 : 1 ≤ (q : Int) := by omega
        by_cases hb : (r : Int) + (y1 : Int) < 4294967296
        · have hd4 : decide ((r : Int) + (y1 : Int) < 4294967296) = true := by simpa using hb
          have hd5 : decide (4294967296 ≤ (r : Int) + (y1 : Int)) = false := by simpa using hb
          go_wp2
          go_round
          case rel => exact ⟨q - 1, r + y1, DivMath.step HI.out K1.out HT.out (by omega), slot_eq (by omega), slot_eq (by omega)⟩
          case measure => simp [intOf]; omega
        · have hd4 : decide ((r : Int) + (y1 : Int) < 4294967296) = false := by simpa using hb
          have hd5 : decide (4294967296 ≤ (r : Int) + (y1 : Int)) = true := by simpa using hb
          have HF : Hid (Q = q - 1) := (HQ.out).trans (break_q HI.out K1.out HT.out (by omega))
          go_wp2_with fail
          go_meet
          exact ⟨slot_eq (q_step HF.out hq1), rfl⟩
  case rest =>
    obtain ⟨rfl, rfl⟩ := hcut
    have hqi' := HQI.out
    have hwp' := HWP.out
    have hsub := SUB.out
    go_upto_block 2 with fail
    clear hqi' hwp' hsub
    go_cut [18] (fun v wx => v = .int .u64 Q2 ∧ w = wx)
    case first =>
      go_wp2_with fail
      go_loop [18, 16] (fun v r => ∃ q r' : Nat, Inv R u0 y1 y0 q r' ∧ v = .int .u64 q ∧ r = .int .u64 r') (fun v _ => (intOf v).toNat)
      case atStart => exact ⟨_, R - p', I2.out, rfl, slot_eq (by omega)⟩
      case round =>
        obtain ⟨q, r, hinv, rfl, rfl⟩ := hrel
        obtain ⟨hql, hrl⟩ : (q : Int) ≤ 4294967297 ∧ (r : Int) < 4294967296 := by
          obtain ⟨_, _, hql, hrl⟩ := hinv
          omega
        have HI := Lib.hid hinv
        clear hinv
        by_cases hq : (q : Int) < 4294967296
        · have hd1 : decide ((q : Int) < 4294967296) = true := by simpa using hq
          have hd2 : decide (4294967296 ≤ (q : Int)) = false := by simpa using hq
          obtain ⟨m, HM⟩ : ∃ m : Nat, Hid (q * y0 = m) := ⟨_, rfl⟩
          have hm : IntKind.u64.wrap ((q : Int) * (y0 : Int)) = (m : Int) := wrapMul HM.out (by
            have := HM.out
            have h : q * y0 ≤ 4294967295 * 4294967295 := Nat.mul_le_mul (by omega) (by omega)
            omega)
          by_cases ht : 4294967296 * (r : Int) + (u0 : Int) < (m : Int)
          · have hd3 : decide (4294967296 * (r : Int) + (u0 : Int) < (m : Int)) = true := by simpa using ht
            have HT : Hid (4294967296 ≤ q ∨ 4294967296 * r + u0 < q * y0) := Or.inr (by rw [HM.out]; omega)
            have hq1 : 1 ≤ (q : Int) := by have := q_pos HI.out K2.out HT.out; omega
            by_cases hb : (r : Int) + (y1 : Int) < 4294967296
            · have hd4 : decide ((r : Int) + (y1 : Int) < 4294967296) = true := by simpa using hb
              have hd5 : decide (4294967296 ≤ (r : Int) + (y1 : Int)) = false := by simpa using hb
              go_wp2
              go_round
              case rel => exact ⟨q - 1, r + y1, DivMath.step HI.out K2.out HT.out (by omega), slot_eq (by omega), slot_eq (by omega)⟩
              case measure => simp [intOf]; omega
            · have hd4 : decide ((r : Int) + (y1 : Int) < 4294967296) = false := by simpa using hb
              have hd5 : decide (4294967296 ≤ (r : Int) + (y1 : Int)) = true := by simpa using hb
              have HF : Hid (Q2 = q - 1) := (HQ2.out).trans (break_q HI.out K2.out HT.out (by omega))
              go_wp2_with fail
              go_meet
              exact ⟨slot_eq (q_step HF.out hq1), rfl⟩
          · have hd3 : decide (4294967296 * (r : Int) + (u0 : Int) < (m : Int)) = false := by simpa using ht
            have HF : Hid (Q2 = q) := (HQ2.out).trans (exact_q HI.out K2.out (by rw [HM.out]; omega))
            go_wp2_with fail
            go_meet
            exact ⟨slot_eq (by rw [HF.out]), rfl⟩
        · have hd1 : decide ((q : Int) < 4294967296) = false := by simpa using hq
          have hd2 : decide (4294967296 ≤ (q : Int)) = true := by simpa using hq
          have HT : Hid (4294967296 ≤ q ∨ 4294967296 * r + u0 < q * y0) := Or.inl (by omega)
          have hq1 : 1 ≤ (q : Int) := by omega
          by_cases hb : (r : Int) + (y1 : Int) < 4294967296
          · have hd4 : decide ((r : Int) + (y1 : Int) < 4294967296) = true := by simpa using hb
            have hd5 : decide (4294967296 ≤ (r : Int) + (y1 : Int)) = false := by simpa using hb
            go_wp2
            go_round
            case rel => exact ⟨q - 1, r + y1, DivMath.step HI.out K2.out HT.out (by omega), slot_eq (by omega), slot_eq (by omega)⟩
            case measure => simp [intOf]; omega
          · have hd4 : decide ((r : Int) + (y1 : Int) < 4294967296) = false := by simpa using hb
            have hd5 : decide (4294967296 ≤ (r : Int) + (y1 : Int)) = true := by simpa using hb
            have HF : Hid (Q2 = q - 1) := (HQ2.out).trans (break_q HI.out K2.out HT.out (by omega))
            go_wp2_with fail
            go_meet
            exact ⟨slot_eq (q_step HF.out hq1), rfl⟩
    case rest =>
      obtain ⟨rfl, rfl⟩ := hcut
      have hsub2 := SUB2.out
      go_wp2
      go_ret2
      exact ⟨rfl, rfl⟩
end Go.Proofs.YtooajmbpncmgjaaGreatDoor
