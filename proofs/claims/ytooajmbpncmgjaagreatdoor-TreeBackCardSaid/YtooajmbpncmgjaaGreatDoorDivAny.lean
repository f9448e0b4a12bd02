/- math/bits.Div64, whole: quotient and remainder of a number of 128 bits. -/
import Derived.Test.YtooajmbpncmgjaaGreatDoorDiv
import Derived.Test.YtooajmbpncmgjaaGreatDoorShelf
import Derived.Lib.ItoaNum
namespace Go.Proofs.YtooajmbpncmgjaaGreatDoor
open Go.RowKit DivMath

theorem below_drewN' (w : World) (n : Nat) : Below w.heap.size w (w.drewN n) := ⟨rfl, rfl, rfl, Nat.le_refl _, fun _ _ => rfl⟩

theorem bitLen_bounds (y : Nat) (h0 : 0 < y) (h1 : y < 18446744073709551616) : 1 ≤ Lib.bitLen y ∧ Lib.bitLen y ≤ 64 ∧ 2 ^ (Lib.bitLen y - 1) ≤ y ∧ y < 2 ^ Lib.bitLen y := by
  obtain ⟨a, b, c⟩ := Lib.bitLenAux_bounds 64 y h1 (by omega)
  exact ⟨a, Lib.bitLen_le y 64 (by omega) h1, b, c⟩

theorem norm_bounds (y b : Nat) (h1 : 1 ≤ b) (h2 : b ≤ 64) (h3 : 2 ^ (b - 1) ≤ y) (h4 : y < 2 ^ b) :
    9223372036854775808 ≤ y * 2 ^ (64 - b) ∧ y * 2 ^ (64 - b) < 18446744073709551616 := by
  constructor
  · have := Nat.mul_le_mul_right (2 ^ (64 - b)) h3
    rw [← Nat.pow_add, show b - 1 + (64 - b) = 63 by omega] at this
    omega
  · have := Nat.mul_lt_mul_of_pos_right h4 (show 0 < 2 ^ (64 - b) from Nat.two_pow_pos _)
    rw [← Nat.pow_add, show b + (64 - b) = 64 by omega] at this
    omega

/-- The top half of the shifted number. -/
theorem top_half (hi lo s : Nat) (hs : s ≤ 63) (hlo : lo < 18446744073709551616) (hh : hi * 2 ^ s < 18446744073709551616) :
    bits .or .u64 (IntKind.u64.wrap ((hi : Int) * 2 ^ ((s : Nat) : Int).toNat)) ((lo : Int) / 2 ^ (64 - ((s : Nat) : Int)).toNat) = (((hi * 18446744073709551616 + lo) * 2 ^ s / 18446744073709551616 : Nat) : Int) := by
  have e1 : ((s : Nat) : Int).toNat = s := Int.toNat_natCast s
  have e2 : (64 - ((s : Nat) : Int)).toNat = 64 - s := by omega
  rw [e1, e2]
  have e3 : ((hi : Int) * 2 ^ s) = ((hi * 2 ^ s : Nat) : Int) := by push_cast; rfl
  have e4 : ((lo : Int) / 2 ^ (64 - s)) = ((lo / 2 ^ (64 - s) : Nat) : Int) := by push_cast; rfl
  rw [e3, e4, IntWalk.u64_in _ ⟨by omega, by omega⟩]
  have hp : 2 ^ s * 2 ^ (64 - s) = 18446744073709551616 := by
    rw [← Nat.pow_add, show s + (64 - s) = 64 by omega]
  have hlt : lo / 2 ^ (64 - s) < 2 ^ s := Nat.div_lt_of_lt_mul (by rw [Nat.mul_comm, hp]; exact hlo)
  have hle : lo / 2 ^ (64 - s) ≤ lo := Nat.div_le_self _ _
  rw [u64_or_nat _ _ hh (by omega), Nat.mul_comm hi (2 ^ s), ← Nat.two_pow_add_eq_or_of_lt hlt]
  congr 1
  have e5 : (hi * 18446744073709551616 + lo) * 2 ^ s = 18446744073709551616 * (2 ^ s * hi) + lo * 2 ^ s := by
    rw [Nat.add_mul, Nat.mul_assoc, Nat.mul_left_comm, Nat.mul_comm hi]
  rw [e5, Nat.mul_add_div (by decide)]
  congr 1
  conv => rhs; rw [← hp, Nat.mul_comm (2 ^ s) (2 ^ (64 - s)), Nat.mul_div_mul_right _ _ (Nat.two_pow_pos s)]

theorem and_mask (n : Nat) (h : n < 18446744073709551616) : bits .and .u64 (n : Int) 4294967295 = ((n % 4294967296 : Nat) : Int) := by
  rw [and_low32 _ (by omega) (by omega)]
  omega

theorem ret_cast (q1 q2 r p : Nat) : Ending.returned (.tuple #[.int .u64 ((q1 : Int) * 4294967296 + (q2 : Int)), .int .u64 ((r : Int) / 2 ^ p)]) = .returned (.tuple #[.int .u64 ((q1 * 4294967296 + q2 : Nat) : Int), .int .u64 ((r / 2 ^ p : Nat) : Int)]) := by
  have h1 : ((q1 * 4294967296 + q2 : Nat) : Int) = (q1 : Int) * 4294967296 + (q2 : Int) := by omega
  have h2 : ((r / 2 ^ p : Nat) : Int) = (r : Int) / 2 ^ p := by rw [Int.natCast_ediv, Int.natCast_pow]; rfl
  rw [h1, h2]

set_option maxRecDepth 100000 in
theorem div64_any (hi lo y : Nat) (w : World) (hlt : hi < y) (hlo : lo < 18446744073709551616) (hy : y < 18446744073709551616) :
    Calls Tryz.prog 52 #[.int .u64 hi, .int .u64 lo, .int .u64 y] w fun e w' =>
      e = .returned (.tuple #[.int .u64 (((hi * 18446744073709551616 + lo) / y : Nat) : Int), .int .u64 (((hi * 18446744073709551616 + lo) % y : Nat) : Int)]) ∧ Below w.heap.size w w' := by
  by_cases h0 : hi = 0
  · subst h0
    have c := div64_small (lo : Int) (y : Int) w (by omega) (by omega) (by omega) (by omega)
    have e1 : ((lo : Int) / (y : Int)) = (((0 * 18446744073709551616 + lo) / y : Nat) : Int) := by rw [Nat.zero_mul, Nat.zero_add]; rfl
    have e2 : ((lo : Int) % (y : Int)) = (((0 * 18446744073709551616 + lo) % y : Nat) : Int) := by rw [Nat.zero_mul, Nat.zero_add]; rfl
    rw [e1, e2] at c
    exact c.mono fun e w' ⟨a, n, b⟩ => ⟨a, by rw [b]; exact below_drewN' w n⟩
  · obtain ⟨b1, b2, b3, b4⟩ := bitLen_bounds y (by omega) hy
    obtain ⟨n1, n2⟩ := norm_bounds y (Lib.bitLen y) b1 b2 b3 b4
    have hsn : ∃ s : Nat, s = 64 - Lib.bitLen y := ⟨_, rfl⟩
    obtain ⟨s, hs⟩ := hsn
    rw [← hs] at n1 n2
    have hp : 0 < 2 ^ s := Nat.two_pow_pos s
    have hh : hi * 2 ^ s < y * 2 ^ s := Nat.mul_lt_mul_of_pos_right hlt hp
    have hs63 : s ≤ 63 := by omega
    -- the numbers of the division
    have hA := top_half hi lo s hs63 hlo (by omega)
    have hu : ∃ u : Nat, u = (hi * 18446744073709551616 + lo) * 2 ^ s := ⟨_, rfl⟩
    obtain ⟨u, hu⟩ := hu
    rw [← hu] at hA
    have hYn : ∃ Y : Nat, Y = y * 2 ^ s := ⟨_, rfl⟩
    obtain ⟨Y, hYn⟩ := hYn
    rw [← hYn] at n1 n2 hh
    have hult : u / 18446744073709551616 < Y := by
      have h1 : hi * 18446744073709551616 + lo < y * 18446744073709551616 := by omega
      have h2 := Nat.mul_lt_mul_of_pos_right h1 hp
      rw [← hu, Nat.mul_right_comm, ← hYn] at h2
      exact Nat.div_lt_of_lt_mul (by rw [Nat.mul_comm]; exact h2)
    have hlow : (lo * 2 ^ s) % 18446744073709551616 = u % 18446744073709551616 := by
      rw [hu, Nat.add_mul, Nat.mul_right_comm, Nat.add_comm, Nat.add_mul_mod_self_right]
    have hAu : ∃ A : Nat, A = u / 18446744073709551616 := ⟨_, rfl⟩
    obtain ⟨A, hAe⟩ := hAu
    have hUu : ∃ U : Nat, U = u % 18446744073709551616 := ⟨_, rfl⟩
    obtain ⟨U, hUe⟩ := hUu
    have hUlt : U < 18446744073709551616 := by rw [hUe]; exact Nat.mod_lt _ (by decide)
    rw [← hAe] at hA hult
    have huU : u = (A * 4294967296 + U / 4294967296) * 4294967296 + U % 4294967296 := by omega
    have k1 : Ok A (U / 4294967296) (Y / 4294967296) (Y % 4294967296) := ⟨by omega, by omega, by omega, by omega, by omega⟩
    have hYs : Y = 4294967296 * (Y / 4294967296) + Y % 4294967296 := by omega
    have hRlt := Nat.mod_lt (A * 4294967296 + U / 4294967296) (show 0 < Y by omega)
    have k2 : Ok ((A * 4294967296 + U / 4294967296) % Y) (U % 4294967296) (Y / 4294967296) (Y % 4294967296) := ⟨by omega, by omega, by omega, by omega, by omega⟩
    have hYw : IntKind.u64.wrap ((y : Int) * 2 ^ ((s : Nat) : Int).toNat) = (Y : Int) := by
      rw [Int.toNat_natCast]
      have e3 : ((y : Int) * 2 ^ s) = ((y * 2 ^ s : Nat) : Int) := by push_cast; rfl
      rw [e3, ← hYn]
      exact IntWalk.u64_in _ ⟨by omega, by omega⟩
    have hUw : IntKind.u64.wrap ((lo : Int) * 2 ^ ((s : Nat) : Int).toNat) = (U : Int) := by
      rw [Int.toNat_natCast]
      have e3 : ((lo : Int) * 2 ^ s) = ((lo * 2 ^ s : Nat) : Int) := by push_cast; rfl
      rw [e3, IntKind.wrap_u64, hUe, ← hlow]
      rfl
    have c := div64_core (hi : Int) (lo : Int) (y : Int) (s : Int) w (by omega) (by omega) (by omega) (by omega) (by omega) (by omega) (by omega) Y U A (Y / 4294967296) (Y % 4294967296) (U / 4294967296) (U % 4294967296) _ _ _ _
      k1 k2 hYs rfl rfl rfl rfl hYw hUw hA (by omega) (and_mask Y n2) (by omega) (and_mask U hUlt)
      ?_
    · obtain ⟨t1, t2⟩ := two_steps (A * 4294967296 + U / 4294967296) (U % 4294967296) Y (by omega)
      rw [← huU] at t1 t2
      have q1 : u / Y = (hi * 18446744073709551616 + lo) / y := by rw [hu, hYn, Nat.mul_div_mul_right _ _ hp]
      have q2 : u % Y / 2 ^ s = (hi * 18446744073709551616 + lo) % y := by
        rw [hu, hYn, Nat.mul_mod_mul_right, Nat.mul_div_cancel _ hp]
      rw [q1] at t1
      refine c.mono fun e w' ⟨a, b⟩ => ⟨?_, by rw [b]; exact Below.refl _ _⟩
      rw [a, t1, ← q2, t2, Int.toNat_natCast]
      exact ret_cast _ _ _ _
    · intro w
      have e : (64 : Int) - (Lib.bitLen (y : Int).toNat : Int) = (s : Int) := by rw [Int.toNat_natCast]; omega
      have c := Tryz.bits_LeadingZeros64 (y : Int) w (by omega) (by omega)
      rw [e] at c
      exact c.mono fun e w' ⟨a, b⟩ => ⟨a, b.symm⟩
end Go.Proofs.YtooajmbpncmgjaaGreatDoor
