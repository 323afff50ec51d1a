/-
  The hash: unlike numbers have unlike hashes.
-/
import Derived.Test.YtbkadfocjmpieaaSHash
set_option linter.unusedVariables false
namespace Go.Proofs.Ytbkadfocjmpieaa
theorem mixA_lt (c k z : Nat) : mixA c k z < 18446744073709551616 := Nat.mod_lt _ (by decide)
/-- z ^ z >> k is known again -/
theorem xs_inj {k a b : Nat} (hk : 0 < k) (h : a ^^^ a / 2 ^ k = b ^^^ b / 2 ^ k) : a = b := by
  have hb : ∀ i, (a.testBit i ^^ a.testBit (i + k)) = (b.testBit i ^^ b.testBit (i + k)) := by
    intro i
    have := congrArg (fun x => Nat.testBit x i) h
    simpa [Nat.testBit_xor, Nat.testBit_div_two_pow, Nat.add_comm] using this
  have hbig : ∀ n, ∃ m, ∀ i, m ≤ i → Nat.testBit n i = false := fun n => ⟨n, fun i hi => Nat.testBit_lt_two_pow (Nat.lt_of_le_of_lt hi Nat.lt_two_pow_self)⟩
  obtain ⟨m1, q1⟩ := hbig a
  obtain ⟨m2, q2⟩ := hbig b
  have key : ∀ d i, m1 + m2 ≤ i + d → a.testBit i = b.testBit i := by
    intro d
    induction d with
    | zero => intro i hi; rw [q1 i (by omega), q2 i (by omega)]
    | succ d ih =>
      intro i hi
      have h1 := hb i
      have h2 := ih (i + k) (by omega)
      rw [h2] at h1
      cases ha : a.testBit i <;> cases hb' : b.testBit i <;> rw [ha, hb'] at h1 <;> cases b.testBit (i + k) <;> simp at h1 ⊢
  exact Nat.eq_of_testBit_eq fun i => key (m1 + m2) i (by omega)
/-- an odd factor is undone -/
theorem mul_inj {c d a b : Nat} (hcd : c * d % 18446744073709551616 = 1) (ha : a < 18446744073709551616) (hb : b < 18446744073709551616) (h : a * c % 18446744073709551616 = b * c % 18446744073709551616) : a = b := by
  have k : ∀ x, x < 18446744073709551616 → x * c % 18446744073709551616 * d % 18446744073709551616 = x := by
    intro x hx
    rw [Nat.mod_mul_mod, Nat.mul_assoc, Nat.mul_mod, hcd, Nat.mul_one, Nat.mod_mod, Nat.mod_eq_of_lt hx]
  rw [← k a ha, h, k b hb]
theorem mixA_inj {c d k a b : Nat} (hk : 0 < k) (hcd : c * d % 18446744073709551616 = 1) (ha : a < 18446744073709551616) (hb : b < 18446744073709551616) (h : mixA c (2 ^ k) a = mixA c (2 ^ k) b) : a = b := by
  have l : ∀ x, x < 18446744073709551616 → x ^^^ x / 2 ^ k < 18446744073709551616 := fun x hx => by
    have e : (2 : Nat) ^ 64 = 18446744073709551616 := by decide
    rw [← e] at hx ⊢
    exact Nat.xor_lt_two_pow hx (Nat.lt_of_le_of_lt (Nat.div_le_self _ _) hx)
  exact xs_inj hk (mul_inj hcd (l a ha) (l b hb) h)
theorem hsN_inj {seed x y : Nat} (hx : x < 18446744073709551616) (hy : y < 18446744073709551616) (h : hsN seed x = hsN seed y) : x = y := by
  unfold hsN at h
  have e31 : (2147483648 : Nat) = 2 ^ 31 := by decide
  have e30 : (1073741824 : Nat) = 2 ^ 30 := by decide
  have e27 : (134217728 : Nat) = 2 ^ 27 := by decide
  rw [e31] at h
  have h2 := xs_inj (by decide) h
  rw [e27] at h2
  have h1 := mixA_inj (d := 3573116690164977347) (by decide) (by decide +kernel) (mixA_lt _ _ _) (mixA_lt _ _ _) h2
  rw [e30] at h1
  have h0 := mixA_inj (d := 10871156337175269513) (by decide) (by decide +kernel) (Nat.mod_lt _ (by decide)) (Nat.mod_lt _ (by decide)) h1
  have h3 : (x + 1) % 18446744073709551616 * 11400714819323198485 % 18446744073709551616 = (y + 1) % 18446744073709551616 * 11400714819323198485 % 18446744073709551616 := by
    clear h h1 h2
    have p := Nat.mod_lt ((x + 1) % 18446744073709551616 * 11400714819323198485) (show 0 < 18446744073709551616 by decide)
    have q := Nat.mod_lt ((y + 1) % 18446744073709551616 * 11400714819323198485) (show 0 < 18446744073709551616 by decide)
    obtain ⟨u, hu⟩ : ∃ u, u = (x + 1) % 18446744073709551616 * 11400714819323198485 % 18446744073709551616 := ⟨_, rfl⟩
    obtain ⟨v, hv⟩ : ∃ v, v = (y + 1) % 18446744073709551616 * 11400714819323198485 % 18446744073709551616 := ⟨_, rfl⟩
    rw [← hu] at p h0 ⊢
    rw [← hv] at q h0 ⊢
    clear hu hv hx hy e31 e30 e27
    omega
  have h4 := mul_inj (d := 17428512612931826493) (by decide +kernel) (Nat.mod_lt _ (by decide)) (Nat.mod_lt _ (by decide)) h3
  clear h h0 h1 h2 h3
  omega
theorem hsN_lt (seed x : Nat) : hsN seed x < 18446744073709551616 := by
  unfold hsN
  have e : (2 : Nat) ^ 64 = 18446744073709551616 := by decide
  have l := mixA_lt 10723151780598845931 134217728 (mixA 13787848793156543929 1073741824 ((seed + (x + 1) % 18446744073709551616 * 11400714819323198485 % 18446744073709551616) % 18446744073709551616))
  rw [← e] at l ⊢
  exact Nat.xor_lt_two_pow l (Nat.lt_of_le_of_lt (Nat.div_le_self _ _) l)
end Go.Proofs.Ytbkadfocjmpieaa
