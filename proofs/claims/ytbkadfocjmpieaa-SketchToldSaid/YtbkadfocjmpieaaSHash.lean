/-
  The hash: the program's and the reference's; unlike numbers have unlike hashes.
-/
import Derived.Test.YtbkadfocjmpieaaSText
set_option linter.unusedVariables false
namespace Go.Proofs.Ytbkadfocjmpieaa
open Go.RowKit

def mixA (c k z : Nat) : Nat := (z ^^^ z / k) * c % 18446744073709551616
def hsN (seed x : Nat) : Nat := mixA 10723151780598845931 134217728 (mixA 13787848793156543929 1073741824 ((seed + (x + 1) % 18446744073709551616 * 11400714819323198485 % 18446744073709551616) % 18446744073709551616)) ^^^ mixA 10723151780598845931 134217728 (mixA 13787848793156543929 1073741824 ((seed + (x + 1) % 18446744073709551616 * 11400714819323198485 % 18446744073709551616) % 18446744073709551616)) / 2147483648

set_option maxRecDepth 100000 in
set_option maxHeartbeats 4000000 in
theorem hash_any (seed x : Nat) (w : World) (hs : seed < 18446744073709551616) (hx : x < 18446744073709551616) : Calls Try.prog 10 #[.int .u64 seed, .int .u64 x] w fun e w' => e = .returned (.int .u64 (hsN seed x : Nat)) ∧ w = w' := by
  obtain ⟨R, hR⟩ : ∃ R, R = hsN seed x := ⟨_, rfl⟩
  obtain ⟨x1, hx1⟩ : ∃ x1, x1 = (x + 1) % 18446744073709551616 := ⟨_, rfl⟩
  obtain ⟨x2, hx2⟩ : ∃ x2, x2 = x1 * 11400714819323198485 % 18446744073709551616 := ⟨_, rfl⟩
  obtain ⟨z0, hz0⟩ : ∃ z0, z0 = (seed + x2) % 18446744073709551616 := ⟨_, rfl⟩
  obtain ⟨a0, ha0⟩ : ∃ a0, a0 = z0 / 1073741824 := ⟨_, rfl⟩
  obtain ⟨y0, hy0⟩ : ∃ y0, y0 = z0 ^^^ a0 := ⟨_, rfl⟩
  obtain ⟨z1, hz1⟩ : ∃ z1, z1 = y0 * 13787848793156543929 % 18446744073709551616 := ⟨_, rfl⟩
  obtain ⟨a1, ha1⟩ : ∃ a1, a1 = z1 / 134217728 := ⟨_, rfl⟩
  obtain ⟨y1, hy1⟩ : ∃ y1, y1 = z1 ^^^ a1 := ⟨_, rfl⟩
  obtain ⟨z2, hz2⟩ : ∃ z2, z2 = y1 * 10723151780598845931 % 18446744073709551616 := ⟨_, rfl⟩
  obtain ⟨a2, ha2⟩ : ∃ a2, a2 = z2 / 2147483648 := ⟨_, rfl⟩
  have hRe : R = z2 ^^^ a2 := by rw [hR]; unfold hsN mixA; rw [← hx1, ← hx2, ← hz0, ← ha0, ← hy0, ← hz1, ← ha1, ← hy1, ← hz2, ← ha2]
  have f1 : IntKind.u64.wrap ((x : Int) + 1) = (x1 : Int) := by rw [show ((x : Int) + 1) = ((x + 1 : Nat) : Int) by omega, wrap_mod64, hx1]
  have f2 : IntKind.u64.wrap ((x1 : Int) * 11400714819323198485) = (x2 : Int) := by rw [show ((x1 : Int) * 11400714819323198485) = ((x1 * 11400714819323198485 : Nat) : Int) by omega, wrap_mod64, hx2]
  have f3 : IntKind.u64.wrap ((seed : Int) + (x2 : Int)) = (z0 : Int) := by rw [show ((seed : Int) + (x2 : Int)) = ((seed + x2 : Nat) : Int) by omega, wrap_mod64, hz0]
  have b0 : z0 < 18446744073709551616 := by rw [hz0]; exact Nat.mod_lt _ (by decide)
  have f4 : ((z0 : Int) / 1073741824) = (a0 : Int) := by rw [ha0]; rfl
  have c0 : a0 < 18446744073709551616 := by rw [ha0]; exact Nat.lt_of_le_of_lt (Nat.div_le_self _ _) b0
  have f5 : bits .xor .u64 (z0 : Int) (a0 : Int) = (y0 : Int) := by rw [u64_xor_nat _ _ b0 c0, hy0]
  have f6 : IntKind.u64.wrap ((y0 : Int) * 13787848793156543929) = (z1 : Int) := by rw [show ((y0 : Int) * 13787848793156543929) = ((y0 * 13787848793156543929 : Nat) : Int) by omega, wrap_mod64, hz1]
  have b1 : z1 < 18446744073709551616 := by rw [hz1]; exact Nat.mod_lt _ (by decide)
  have f7 : ((z1 : Int) / 134217728) = (a1 : Int) := by rw [ha1]; rfl
  have c1 : a1 < 18446744073709551616 := by rw [ha1]; exact Nat.lt_of_le_of_lt (Nat.div_le_self _ _) b1
  have f8 : bits .xor .u64 (z1 : Int) (a1 : Int) = (y1 : Int) := by rw [u64_xor_nat _ _ b1 c1, hy1]
  have f9 : IntKind.u64.wrap ((y1 : Int) * 10723151780598845931) = (z2 : Int) := by rw [show ((y1 : Int) * 10723151780598845931) = ((y1 * 10723151780598845931 : Nat) : Int) by omega, wrap_mod64, hz2]
  have b2 : z2 < 18446744073709551616 := by rw [hz2]; exact Nat.mod_lt _ (by decide)
  have f10 : ((z2 : Int) / 2147483648) = (a2 : Int) := by rw [ha2]; rfl
  have c2 : a2 < 18446744073709551616 := by rw [ha2]; exact Nat.lt_of_le_of_lt (Nat.div_le_self _ _) b2
  have f11 : bits .xor .u64 (z2 : Int) (a2 : Int) = (R : Int) := by rw [u64_xor_nat _ _ b2 c2, hRe]
  rw [← hR]
  clear hR hx1 hx2 hz0 ha0 hy0 hz1 ha1 hy1 hz2 ha2 hRe b0 b1 b2 c0 c1 c2 hs hx
  go_enter Try.func10, Try.ntmps10
  go_wp2_with fail
  go_ret
  exact ⟨rfl, rfl⟩

set_option maxRecDepth 100000 in
set_option maxHeartbeats 4000000 in
theorem rhash_any (seed x : Nat) (w : World) (hs : seed < 18446744073709551616) (hx : x < 18446744073709551616) : Calls Try.prog 19 #[.int .u64 seed, .int .u64 x] w fun e w' => e = .returned (.int .u64 (hsN seed x : Nat)) ∧ w = w' := by
  obtain ⟨R, hR⟩ : ∃ R, R = hsN seed x := ⟨_, rfl⟩
  obtain ⟨x1, hx1⟩ : ∃ x1, x1 = (x + 1) % 18446744073709551616 := ⟨_, rfl⟩
  obtain ⟨x2, hx2⟩ : ∃ x2, x2 = x1 * 11400714819323198485 % 18446744073709551616 := ⟨_, rfl⟩
  obtain ⟨z0, hz0⟩ : ∃ z0, z0 = (seed + x2) % 18446744073709551616 := ⟨_, rfl⟩
  obtain ⟨a0, ha0⟩ : ∃ a0, a0 = z0 / 1073741824 := ⟨_, rfl⟩
  obtain ⟨y0, hy0⟩ : ∃ y0, y0 = z0 ^^^ a0 := ⟨_, rfl⟩
  obtain ⟨z1, hz1⟩ : ∃ z1, z1 = y0 * 13787848793156543929 % 18446744073709551616 := ⟨_, rfl⟩
  obtain ⟨a1, ha1⟩ : ∃ a1, a1 = z1 / 134217728 := ⟨_, rfl⟩
  obtain ⟨y1, hy1⟩ : ∃ y1, y1 = z1 ^^^ a1 := ⟨_, rfl⟩
  obtain ⟨z2, hz2⟩ : ∃ z2, z2 = y1 * 10723151780598845931 % 18446744073709551616 := ⟨_, rfl⟩
  obtain ⟨a2, ha2⟩ : ∃ a2, a2 = z2 / 2147483648 := ⟨_, rfl⟩
  have hRe : R = z2 ^^^ a2 := by rw [hR]; unfold hsN mixA; rw [← hx1, ← hx2, ← hz0, ← ha0, ← hy0, ← hz1, ← ha1, ← hy1, ← hz2, ← ha2]
  have f1 : IntKind.u64.wrap ((x : Int) + 1) = (x1 : Int) := by rw [show ((x : Int) + 1) = ((x + 1 : Nat) : Int) by omega, wrap_mod64, hx1]
  have f2 : IntKind.u64.wrap ((x1 : Int) * 11400714819323198485) = (x2 : Int) := by rw [show ((x1 : Int) * 11400714819323198485) = ((x1 * 11400714819323198485 : Nat) : Int) by omega, wrap_mod64, hx2]
  have f3 : IntKind.u64.wrap ((seed : Int) + (x2 : Int)) = (z0 : Int) := by rw [show ((seed : Int) + (x2 : Int)) = ((seed + x2 : Nat) : Int) by omega, wrap_mod64, hz0]
  have b0 : z0 < 18446744073709551616 := by rw [hz0]; exact Nat.mod_lt _ (by decide)
  have f4 : ((z0 : Int) / 1073741824) = (a0 : Int) := by rw [ha0]; rfl
  have c0 : a0 < 18446744073709551616 := by rw [ha0]; exact Nat.lt_of_le_of_lt (Nat.div_le_self _ _) b0
  have f5 : bits .xor .u64 (z0 : Int) (a0 : Int) = (y0 : Int) := by rw [u64_xor_nat _ _ b0 c0, hy0]
  have f6 : IntKind.u64.wrap ((y0 : Int) * 13787848793156543929) = (z1 : Int) := by rw [show ((y0 : Int) * 13787848793156543929) = ((y0 * 13787848793156543929 : Nat) : Int) by omega, wrap_mod64, hz1]
  have b1 : z1 < 18446744073709551616 := by rw [hz1]; exact Nat.mod_lt _ (by decide)
  have f7 : ((z1 : Int) / 134217728) = (a1 : Int) := by rw [ha1]; rfl
  have c1 : a1 < 18446744073709551616 := by rw [ha1]; exact Nat.lt_of_le_of_lt (Nat.div_le_self _ _) b1
  have f8 : bits .xor .u64 (z1 : Int) (a1 : Int) = (y1 : Int) := by rw [u64_xor_nat _ _ b1 c1, hy1]
  have f9 : IntKind.u64.wrap ((y1 : Int) * 10723151780598845931) = (z2 : Int) := by rw [show ((y1 : Int) * 10723151780598845931) = ((y1 * 10723151780598845931 : Nat) : Int) by omega, wrap_mod64, hz2]
  have b2 : z2 < 18446744073709551616 := by rw [hz2]; exact Nat.mod_lt _ (by decide)
  have f10 : ((z2 : Int) / 2147483648) = (a2 : Int) := by rw [ha2]; rfl
  have c2 : a2 < 18446744073709551616 := by rw [ha2]; exact Nat.lt_of_le_of_lt (Nat.div_le_self _ _) b2
  have f11 : bits .xor .u64 (z2 : Int) (a2 : Int) = (R : Int) := by rw [u64_xor_nat _ _ b2 c2, hRe]
  rw [← hR]
  clear hR hx1 hx2 hz0 ha0 hy0 hz1 ha1 hy1 hz2 ha2 hRe b0 b1 b2 c0 c1 c2 hs hx
  go_enter Try.func19, Try.ntmps19
  go_wp2_with fail
  go_ret
  exact ⟨rfl, rfl⟩
end Go.Proofs.Ytbkadfocjmpieaa
