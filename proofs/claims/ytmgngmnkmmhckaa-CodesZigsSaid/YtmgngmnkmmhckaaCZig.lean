/-
  codes: numbers of either sign.
-/
import Derived.Test.YtmgngmnkmmhckaaCRead
set_option linter.unusedVariables false
namespace Go.Proofs.Ytmgngmnkmmhckaa
open Go.RowKit Plain

def zgN (x : Int) : Int := if 0 ≤ x then 2 * x else 2 * (-(x + 1)) + 1
def zaN (u : Int) : Int := if u % 2 = 0 then u / 2 else -(u / 2) - 1

theorem ofInt_nat (a : Nat) (ha : a < 18446744073709551616) : (BitVec.ofInt 64 (a : Int)).toNat = a := by rw [BitVec.ofInt_natCast, BitVec.toNat_ofNat]; exact Nat.mod_eq_of_lt (by omega)
theorem xor_zero64 (a : Nat) (ha : a < 18446744073709551616) : bits .xor .u64 (a : Int) 0 = (a : Int) := by
  show IntKind.u64.wrap ((BitVec.ofInt 64 (a : Int) ^^^ BitVec.ofInt 64 (0 : Int)).toNat : Int) = _
  rw [show BitVec.ofInt 64 (0 : Int) = 0#64 from by decide, BitVec.xor_zero, ofInt_nat a ha]
  exact wrap_nat64 _ ha
theorem xor_ones64 (a : Nat) (ha : a < 18446744073709551616) : bits .xor .u64 (a : Int) 18446744073709551615 = 18446744073709551615 - (a : Int) := by
  show IntKind.u64.wrap ((BitVec.ofInt 64 (a : Int) ^^^ BitVec.ofInt 64 (18446744073709551615 : Int)).toNat : Int) = _
  rw [show BitVec.ofInt 64 (18446744073709551615 : Int) = BitVec.allOnes 64 from by decide, BitVec.xor_allOnes, BitVec.toNat_not, ofInt_nat a ha]
  rw [wrap_nat64 _ (by omega)]
  omega
theorem xor_zero_i (a : Nat) (ha : a < 9223372036854775808) : bits .xor .i64 (a : Int) 0 = (a : Int) := by
  show IntKind.i64.wrap ((BitVec.ofInt 64 (a : Int) ^^^ BitVec.ofInt 64 (0 : Int)).toNat : Int) = _
  rw [show BitVec.ofInt 64 (0 : Int) = 0#64 from by decide, BitVec.xor_zero, ofInt_nat a (by omega), IntKind.wrap_i64]
  omega
theorem xor_ones_i (a : Nat) (ha : a < 9223372036854775808) : bits .xor .i64 (a : Int) (-1) = -(a : Int) - 1 := by
  show IntKind.i64.wrap ((BitVec.ofInt 64 (a : Int) ^^^ BitVec.ofInt 64 (-1 : Int)).toNat : Int) = _
  rw [show BitVec.ofInt 64 (-1 : Int) = BitVec.allOnes 64 from by decide, BitVec.xor_allOnes, BitVec.toNat_not, ofInt_nat a (by omega), IntKind.wrap_i64]
  omega
theorem and_one64 (a : Nat) (ha : a < 18446744073709551616) : bits .and .u64 (a : Int) 1 = (a : Int) % 2 := by
  show IntKind.u64.wrap ((BitVec.ofInt 64 (a : Int) &&& BitVec.ofInt 64 (1 : Int)).toNat : Int) = _
  rw [BitVec.toNat_and, ofInt_nat a ha, show (BitVec.ofInt 64 (1 : Int)).toNat = 1 from by decide, Nat.and_one_is_mod, wrap_nat64 _ (by omega)]
  omega

theorem zig_any (x : Int) (w : World) (h0 : -9223372036854775808 ≤ x) (h1 : x < 9223372036854775808) : Calls Try.prog 44 #[.int .i64 x] w fun e w' => e = .returned (.int .u64 (zgN x)) ∧ w = w' := by
  have key : bits .xor .u64 (IntKind.u64.wrap (IntKind.u64.wrap x * 2)) (IntKind.u64.wrap (x / 9223372036854775808)) = zgN x := by
    by_cases hx : 0 ≤ x
    · have e1 : x / 9223372036854775808 = 0 := by omega
      have e2 : IntKind.u64.wrap (IntKind.u64.wrap x * 2) = ((2 * x).toNat : Int) := by rw [IntKind.wrap_u64, IntKind.wrap_u64]; omega
      rw [e1, e2, show IntKind.u64.wrap 0 = 0 from by decide, xor_zero64 _ (by omega)]
      unfold zgN; rw [if_pos hx]; omega
    · have e1 : x / 9223372036854775808 = -1 := by omega
      have e2 : IntKind.u64.wrap (IntKind.u64.wrap x * 2) = ((2 * x + 18446744073709551616).toNat : Int) := by rw [IntKind.wrap_u64, IntKind.wrap_u64]; omega
      rw [e1, e2, show IntKind.u64.wrap (-1) = 18446744073709551615 from by decide, xor_ones64 _ (by omega)]
      unfold zgN; rw [if_neg hx]; omega
  have HK := Lib.hid key
  clear key
  go_enter Try.func44, Try.ntmps44
  go_wp2_with fail
  go_ret
  exact ⟨by rw [← HK.out]; rfl, rfl⟩
theorem rzig_any (x : Int) (w : World) (h0 : -9223372036854775808 ≤ x) (h1 : x < 9223372036854775808) : Calls Try.prog 45 #[.int .i64 x] w fun e w' => e = .returned (.int .u64 (zgN x)) ∧ w = w' := by
  by_cases hx : 0 ≤ x
  · have HK := Lib.hid (show zgN x = 2 * x by unfold zgN; rw [if_pos hx])
    go_enter Try.func45, Try.ntmps45
    go_wp2_with fail
    go_ret
    exact ⟨by rw [HK.out]; rfl, rfl⟩
  · have HK := Lib.hid (show zgN x = 2 * (-(x + 1)) + 1 by unfold zgN; rw [if_neg hx])
    go_enter Try.func45, Try.ntmps45
    go_wp2_with fail
    go_ret
    exact ⟨by rw [HK.out]; rfl, rfl⟩
theorem zag_any (u : Int) (w : World) (h0 : 0 ≤ u) (h1 : u < 18446744073709551616) : Calls Try.prog 46 #[.int .u64 u] w fun e w' => e = .returned (.int .i64 (zaN u)) ∧ w = w' := by
  obtain ⟨n, rfl⟩ := Int.eq_ofNat_of_zero_le h0
  have ha := and_one64 n (by omega)
  have key : bits .xor .i64 ((n : Int) / 2) (wrap64 (-wrap64 (bits .and .u64 (n : Int) 1))) = zaN n := by
    rw [ha]
    have e2 : ((n : Int) / 2) = ((n / 2 : Nat) : Int) := by omega
    by_cases hx : (n : Int) % 2 = 0
    · rw [hx, show wrap64 (-wrap64 0) = 0 from by decide +kernel, e2, xor_zero_i _ (by omega)]
      unfold zaN; rw [if_pos hx]; omega
    · have h1 : (n : Int) % 2 = 1 := by omega
      rw [h1, show wrap64 (-wrap64 1) = -1 from by decide +kernel, e2, xor_ones_i _ (by omega)]
      unfold zaN; rw [if_neg hx]; omega
  have HK := Lib.hid key
  clear key ha
  go_enter Try.func46, Try.ntmps46
  go_wp2_with fail
  go_ret
  exact ⟨by rw [← HK.out]; first | rfl | simp, rfl⟩
theorem rzag_any (u : Int) (w : World) (h0 : 0 ≤ u) (h1 : u < 18446744073709551616) : Calls Try.prog 47 #[.int .u64 u] w fun e w' => e = .returned (.int .i64 (zaN u)) ∧ w = w' := by
  by_cases hx : u % 2 = 0
  · have HK := Lib.hid (show zaN u = u / 2 by unfold zaN; rw [if_pos hx])
    go_enter Try.func47, Try.ntmps47
    go_wp2_with fail
    go_ret
    exact ⟨by rw [HK.out]; rfl, rfl⟩
  · have HK := Lib.hid (show zaN u = -(u / 2) - 1 by unfold zaN; rw [if_neg hx])
    go_enter Try.func47, Try.ntmps47
    go_wp2_with fail
    go_ret
    exact ⟨by rw [HK.out]; rfl, rfl⟩
end Go.Proofs.Ytmgngmnkmmhckaa
