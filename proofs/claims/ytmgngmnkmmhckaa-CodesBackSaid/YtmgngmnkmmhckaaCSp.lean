/-
  codes: what 'split' answers at each code that may be, over one name; what 'Put' writes.
-/
import Derived.Test.YtmgngmnkmmhckaaCSplit5
set_option linter.unusedVariables false
namespace Go.Proofs.Ytmgngmnkmmhckaa
open Go.RowKit Plain

theorem shN_nat (v k : Nat) (h1 : 1 ≤ k) (h2 : k ≤ 2 ^ 63) (hv : v < k) : shN v k = ((shN v k).toNat : Int) ∧ (shN v k).toNat ≤ 63 ∧ shV v k < 2 ^ (shN v k).toNat := by
  obtain ⟨q1, q2⟩ := shS_spec h1 h2
  unfold shN shV
  by_cases h : shM k ≤ v
  · rw [if_pos h, if_pos h]
    refine ⟨by omega, by omega, ?_⟩
    unfold shM
    rw [Int.toNat_natCast]
    omega
  · rw [if_neg h, if_neg h]
    have hs : shS k ≠ 0 := by
      intro e
      apply h
      unfold shM
      rw [e]
      simp; omega
    have hsp := bitLen_spec (k - 1) (by have e : (2 : Nat) ^ 63 = 9223372036854775808 := by decide
                                        omega)
    refine ⟨by omega, by omega, ?_⟩
    have e2 : 2 ^ shS k = 2 * 2 ^ (shS k - 1) := by
      rw [show shS k = (shS k - 1) + 1 by omega, Nat.pow_succ]; simp; omega
    have hk : k - 1 ≠ 0 := by
      intro e; apply hs; unfold shS; rw [e]; decide
    have h5 := (hsp.2 hk).2
    have h6 : 2 ^ (shS k - 1) ≤ k - 1 := h5
    rw [show ((shS k : Int) - 1).toNat = shS k - 1 by omega]
    unfold shM at h
    omega
theorem sp_unary (K v : Nat) (hv : v ≤ 65535) : Sp 0 K v v 0 0 0 0 := fun w => split_unary K v w hv
theorem sp_gamma (K v : Nat) (hv : v < 281474976710655) : Sp 1 K v (lo v : Nat) (rs v) (lo v) 0 0 := fun w => split_gamma K v w hv
theorem sp_delta (K v : Nat) (hv : v < 281474976710655) : Sp 2 K v (lo (lo v) : Nat) (rs (lo v)) (lo (lo v)) (rs v) (lo v) := fun w => split_delta K v w hv
theorem sp_min (K v : Nat) (h1 : 1 ≤ K) (h2 : K ≤ 281474976710655) (hv : v < K) : Sp 4 K v (-1) (shV v K) (shN v K).toNat 0 0 := fun w => by
  have e : (2 : Nat) ^ 63 = 9223372036854775808 := by decide
  have := split_minimal K v w h1 h2 hv
  rw [(shN_nat v K h1 (by omega) hv).1] at this
  exact this
end Go.Proofs.Ytmgngmnkmmhckaa
