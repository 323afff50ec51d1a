/-
  Numbers: how many bits; words joined.
-/
import Derived.Test.YtbkadfocjmpieaaMem
import Derived.Test.YtbkadfocjmpieaaSLib
import Derived.Test.YtbkadfocjmpieaaSDiv
import Derived.Laws.BitsAllLaws
import Derived.Deep.QuietTactic
import Derived.BigQuiet
set_option linter.unusedVariables false
namespace Go.Proofs.Ytbkadfocjmpieaa
open Go.RowKit
theorem bitLen_zero : Lib.bitLen 0 = 0 := by decide
theorem bitLen_le : ∀ (b n : Nat), n < 2 ^ b → b ≤ 64 → Lib.bitLen n ≤ b
  | 0, n, h, _ => by
    have : n = 0 := by simpa using h
    subst this; decide
  | b + 1, n, h, hb => by
    by_cases h0 : n = 0
    · subst h0; rw [bitLen_zero]; omega
    · have h64 : n < 2 ^ 64 := Nat.lt_of_lt_of_le h (Nat.pow_le_pow_right (by decide) hb)
      rw [Lib.bitLen_half n h0 h64]
      have := bitLen_le b (n / 2) (by rw [Nat.pow_succ] at h; omega) (by omega)
      omega
theorem bitLen_spec (n : Nat) : n < 2 ^ 64 → n < 2 ^ Lib.bitLen n ∧ (n ≠ 0 → 1 ≤ Lib.bitLen n ∧ 2 ^ (Lib.bitLen n - 1) ≤ n) := by
  induction n using Nat.strongRecOn with
  | ind n ih =>
    intro h
    by_cases h0 : n = 0
    · subst h0; exact ⟨by decide, fun h => absurd rfl h⟩
    · obtain ⟨a, b⟩ := ih (n / 2) (by omega) (by omega)
      rw [Lib.bitLen_half n h0 h]
      refine ⟨by rw [Nat.pow_add]; omega, fun _ => ⟨by omega, ?_⟩⟩
      rw [show 1 + Lib.bitLen (n / 2) - 1 = Lib.bitLen (n / 2) by omega]
      by_cases h1 : n / 2 = 0
      · rw [h1, bitLen_zero]; omega
      · obtain ⟨b1, b2⟩ := b h1
        have : 2 ^ Lib.bitLen (n / 2) = 2 * 2 ^ (Lib.bitLen (n / 2) - 1) := by
          rw [show Lib.bitLen (n / 2) = (Lib.bitLen (n / 2) - 1) + 1 by omega, Nat.pow_succ]; simp; omega
        omega
theorem wrap_nat64 (y : Nat) (hy : y < 18446744073709551616) : IntKind.u64.wrap (y : Int) = (y : Int) := by
  simp only [IntKind.wrap, IntKind.bits, IntKind.signed]
  simp
  omega
theorem wrap_mod64 (y : Nat) : IntKind.u64.wrap (y : Int) = ((y % 18446744073709551616 : Nat) : Int) := by
  simp only [IntKind.wrap, IntKind.bits, IntKind.signed]
  simp
theorem cast_div_pow (v n : Nat) : ((v : Int) / 2 ^ n) = ((v / 2 ^ n : Nat) : Int) := by simp
theorem cast_mul_pow (v n : Nat) : ((v : Int) * 2 ^ n) = ((v * 2 ^ n : Nat) : Int) := by simp
theorem len_any (x : Nat) (w : World) (hx : x < 18446744073709551616) : Calls Try.prog 25 #[.int .u64 x] w fun e w' => e = .returned (.int .i64 (Lib.bitLen x : Nat)) ∧ w = w' := by
  refine (bits_Len x w (by omega) (by omega)).mono ?_
  rintro e w' ⟨rfl, rfl⟩
  exact ⟨rfl, rfl⟩
theorem bitLen_64 {x : Nat} (hx : x < 18446744073709551616) : Lib.bitLen x ≤ 64 := bitLen_le 64 x (by omega) (by decide)
theorem lz_any (x : Nat) (w : World) (hx : x < 18446744073709551616) : Calls Try.prog 24 #[.int .u64 x] w fun e w' => e = .returned (.int .i64 (64 - Lib.bitLen x : Nat)) ∧ w = w' := by
  have hb := bitLen_64 hx
  refine (bits_LeadingZeros64 x w (by omega) (by omega)).mono ?_
  rintro e w' ⟨rfl, rfl⟩
  refine ⟨?_, rfl⟩
  rw [Int.toNat_natCast, show (64 - (Lib.bitLen x : Int)) = ((64 - Lib.bitLen x : Nat) : Int) by omega]
theorem shl64 {b P : Nat} (hP : P = 2 ^ b) (hb : b ≤ 63) : IntKind.u64.wrap (2 ^ b) = (P : Int) := by
  have : ((2 : Int) ^ b) = (P : Int) := by rw [hP, Int.natCast_pow]; rfl
  rw [this]
  refine wrap_nat64 _ ?_
  have h1 : 2 ^ b ≤ 2 ^ 63 := Nat.pow_le_pow_right (by decide) hb
  have h2 : (2 : Nat) ^ 63 = 9223372036854775808 := by decide
  omega
theorem mask32 (x : Nat) (hx : x < 18446744073709551616) : bits .and .u64 (x : Int) 4294967295 = ((x % 4294967296 : Nat) : Int) := by
  have := u64_and_nat x 4294967295 hx (by decide)
  rw [show ((4294967295 : Nat) : Int) = 4294967295 from rfl] at this
  rw [this]
  have e := Nat.and_two_pow_sub_one_eq_mod x 32
  rw [show (2 : Nat) ^ 32 - 1 = 4294967295 by decide, show (2 : Nat) ^ 32 = 4294967296 by decide] at e
  rw [e]
/-- a divisor, shifted up till its first bit is 1 -/
theorem norm_spec {y : Nat} (h0 : 0 < y) (h1 : y < 9223372036854775808) : 1 ≤ 64 - Lib.bitLen y ∧ 64 - Lib.bitLen y ≤ 63 ∧ 9223372036854775808 ≤ y * 2 ^ (64 - Lib.bitLen y) ∧ y * 2 ^ (64 - Lib.bitLen y) < 18446744073709551616 := by
  have e64 : (2 : Nat) ^ 64 = 18446744073709551616 := by decide
  have e63 : (2 : Nat) ^ 63 = 9223372036854775808 := by decide
  have hb := bitLen_le 63 y (by omega) (by decide)
  obtain ⟨q1, q2⟩ := bitLen_spec y (by omega)
  obtain ⟨q3, q4⟩ := q2 (by omega)
  obtain ⟨b, hbb⟩ : ∃ b, b = Lib.bitLen y := ⟨_, rfl⟩
  rw [← hbb] at hb q1 q3 q4 ⊢
  have p := Nat.two_pow_pos (64 - b)
  refine ⟨by omega, by omega, ?_, ?_⟩
  · have : 2 ^ (b - 1) * 2 ^ (64 - b) ≤ y * 2 ^ (64 - b) := Nat.mul_le_mul_right _ q4
    rw [← Nat.pow_add, show b - 1 + (64 - b) = 63 by omega, e63] at this
    exact this
  · have : y * 2 ^ (64 - b) < 2 ^ b * 2 ^ (64 - b) := Nat.mul_lt_mul_of_pos_right q1 p
    rw [← Nat.pow_add, show b + (64 - b) = 64 by omega, e64] at this
    exact this
end Go.Proofs.Ytbkadfocjmpieaa
