/-
  codes: a number's piece in Minimal.
-/
import Derived.Test.YtmgngmnkmmhckaaCChk
import Derived.Laws.Rows
set_option linter.unusedVariables false
namespace Go.Proofs.Ytmgngmnkmmhckaa
open Go.RowKit Plain

def shS (k : Nat) : Nat := Lib.bitLen (k - 1)
def shM (k : Nat) : Nat := 2 ^ shS k - k
def shV (v k : Nat) : Nat := if shM k ≤ v then v + shM k else v
def shN (v k : Nat) : Int := if shM k ≤ v then (shS k : Int) else (shS k : Int) - 1
theorem bitLen_zero : Lib.bitLen 0 = 0 := by decide
theorem bitLen_le : ∀ (b n : Nat), n < 2 ^ b → b ≤ 64 → Lib.bitLen n ≤ b
  | 0, n, h, _ => by
    have : n = 0 := by simpa using h
    subst this; decide
  | b + 1, n, h, hb => by
    by_cases h0 : n = 0
    · subst h0; rw [bitLen_zero]; omega
    · have h64 : n < 2 ^ 64 := Nat.lt_of_lt_of_le h (Nat.pow_le_pow_right (by decide) hb)
      rw [Lib.bitLen_half n h0 h64]
      have := bitLen_le b (n / 2) (by rw [Nat.pow_succ] at h; omega) (by omega)
      omega
theorem bitLen_spec (n : Nat) : n < 2 ^ 64 → n < 2 ^ Lib.bitLen n ∧ (n ≠ 0 → 1 ≤ Lib.bitLen n ∧ 2 ^ (Lib.bitLen n - 1) ≤ n) := by
  induction n using Nat.strongRecOn with
  | ind n ih =>
    intro h
    by_cases h0 : n = 0
    · subst h0; exact ⟨by decide, fun h => absurd rfl h⟩
    · obtain ⟨a, b⟩ := ih (n / 2) (by omega) (by omega)
      rw [Lib.bitLen_half n h0 h]
      refine ⟨by rw [Nat.pow_add]; omega, fun _ => ⟨by omega, ?_⟩⟩
      rw [show 1 + Lib.bitLen (n / 2) - 1 = Lib.bitLen (n / 2) by omega]
      by_cases h1 : n / 2 = 0
      · rw [h1, bitLen_zero]; omega
      · obtain ⟨b1, b2⟩ := b h1
        have : 2 ^ Lib.bitLen (n / 2) = 2 * 2 ^ (Lib.bitLen (n / 2) - 1) := by
          rw [show Lib.bitLen (n / 2) = (Lib.bitLen (n / 2) - 1) + 1 by omega, Nat.pow_succ]; simp; omega
        omega
theorem shS_spec {k : Nat} (h1 : 1 ≤ k) (h2 : k ≤ 2 ^ 63) : shS k ≤ 63 ∧ k ≤ 2 ^ shS k := by
  have e : (2 : Nat) ^ 63 = 9223372036854775808 := by decide
  refine ⟨bitLen_le 63 _ (by omega) (by omega), ?_⟩
  have := (bitLen_spec (k - 1) (by omega)).1
  unfold shS; omega

set_option maxRecDepth 100000 in
set_option maxHeartbeats 4000000 in
theorem short_any (v k : Nat) (w : World) (h1 : 1 ≤ k) (h2 : k ≤ 2 ^ 63) (hv : v < k) : Calls Try.prog 72 #[.int .u64 v, .int .u64 k] w fun e w' => e = .returned (.agg #[.int .u64 (shV v k : Nat), .int .i64 (shN v k)]) ∧ Below w.heap.size w w' := by
  have hB : Hid (∀ o, Below w.heap.size w (w.alloc o)) := fun o => (Below.refl _ w).alloc (Nat.le_refl _) o
  obtain ⟨q1, q2⟩ := shS_spec h1 h2
  obtain ⟨s, hs⟩ : ∃ s, s = shS k := ⟨_, rfl⟩
  rw [← hs] at q1 q2
  obtain ⟨P, hP⟩ : ∃ P, P = 2 ^ s := ⟨_, rfl⟩
  rw [← hP] at q2
  have hP2 : P ≤ 9223372036854775808 := by rw [hP]; have : 2 ^ s ≤ 2 ^ 63 := Nat.pow_le_pow_right (by decide) q1; omega
  obtain ⟨m, hm⟩ : ∃ m, m = P - k := ⟨_, rfl⟩
  have HS := Lib.hid (And.intro (show shV v k = if m ≤ v then v + m else v by unfold shV shM; rw [← hs, ← hP, ← hm]) (show shN v k = if m ≤ v then (s : Int) else (s : Int) - 1 by unfold shN shM; rw [← hs, ← hP, ← hm]))
  have hwr : IntKind.u64.wrap (2 ^ s) = (P : Int) := by
    have : ((2 : Int) ^ s) = (P : Int) := by rw [hP, Int.natCast_pow]; rfl
    rw [this]; exact wrap_nat64 _ (by omega)
  have hk1 : IntKind.u64.wrap ((k : Int) - 1) = ((k - 1 : Nat) : Int) := by
    rw [show ((k : Int) - 1) = ((k - 1 : Nat) : Int) by omega]; exact wrap_nat64 _ (by omega)
  have hsub : IntKind.u64.wrap ((P : Int) - (k : Int)) = (m : Int) := by
    rw [show ((P : Int) - (k : Int)) = (m : Int) by omega]; exact wrap_nat64 _ (by omega)
  have hadd : IntKind.u64.wrap ((v : Int) + (m : Int)) = ((v + m : Nat) : Int) := by
    rw [show ((v : Int) + (m : Int)) = ((v + m : Nat) : Int) by omega]; exact wrap_nat64 _ (by omega)
  have hlen := len64_any (k - 1) (w.alloc (.cells #[.int .u64 0, .int .i64 0] 106)) (by omega)
  have hs2 : Lib.bitLen (k - 1) = s := hs.symm
  rw [hs2] at hlen
  have HL := Lib.hid hlen
  clear hlen hs hs2 hP hm hP2 q2 h1 h2 hv
  go_enter Try.func72, Try.ntmps72
  go_wp2_with fail
  refine HL.out.mono ?_
  rintro e w' ⟨rfl, rfl⟩
  clear HL
  by_cases hmv : m ≤ v
  · have H2 := Lib.hid (And.intro (HS.out.1.trans (if_pos hmv)) (HS.out.2.trans (if_pos hmv)))
    go_wp2_with fail
    refine bodyPost_ret (results_cell_row rfl _ _ w.heap.size 106 #[.int .u64 ((v : Int) + m), .int .i64 s] (0, 0) _ rfl (Blk.new w 106 _) Try.underlying106 rfl (by kernel_rfl)) rfl ?_
    rw [H2.out.1, H2.out.2]
    exact ⟨rfl, hB.out _⟩
  · have H2 := Lib.hid (And.intro (HS.out.1.trans (if_neg hmv)) (HS.out.2.trans (if_neg hmv)))
    go_wp2_with fail
    refine bodyPost_ret (results_cell_row rfl _ _ w.heap.size 106 #[.int .u64 v, .int .i64 ((s : Int) - 1)] (0, 0) _ rfl (Blk.new w 106 _) Try.underlying106 rfl (by kernel_rfl)) rfl ?_
    rw [H2.out.1, H2.out.2]
    exact ⟨rfl, hB.out _⟩
end Go.Proofs.Ytmgngmnkmmhckaa
