/-
  Long division of two words by one (Knuth's): the plain law.
-/
set_option linter.unusedVariables false
namespace Go.Proofs.Ytbkadfocjmpieaa

/-- the digit's guess and its rest -/
structure Kn (u t a b q r : Nat) : Prop where
  eq : q * a + r = u
  ge : (u * 4294967296 + t) / (a * 4294967296 + b) ≤ q
  le : q ≤ 4294967297
  rl : r < 4294967296
theorem kn_lt {u t a b : Nat} (hu : u < a * 4294967296 + b) (ht : t < 4294967296) : (u * 4294967296 + t) / (a * 4294967296 + b) < 4294967296 := by
  obtain ⟨Y, hY⟩ : ∃ Y, Y = a * 4294967296 + b := ⟨_, rfl⟩
  rw [← hY] at hu ⊢
  exact Nat.div_lt_of_lt_mul (by rw [Nat.mul_comm]; omega)
theorem kn_cmp {u t a b q r : Nat} (hY : 0 < a * 4294967296 + b) (h : q * a + r = u) : (u * 4294967296 + t) / (a * 4294967296 + b) < q ↔ r * 4294967296 + t < q * b := by
  rw [Nat.div_lt_iff_lt_mul hY, Nat.mul_add, ← Nat.mul_assoc]
  obtain ⟨A, hA⟩ : ∃ A, A = q * a := ⟨_, rfl⟩
  obtain ⟨B, hB⟩ : ∃ B, B = q * b := ⟨_, rfl⟩
  rw [← hA] at h ⊢
  rw [← hB]
  omega
theorem Kn.first {u t a b : Nat} (ha : 2147483648 ≤ a) (ha2 : a < 4294967296) (hb : b < 4294967296) (hu : u < a * 4294967296 + b) (ht : t < 4294967296) : Kn u t a b (u / a) (u % a) := by
  have e : u / a * a + u % a = u := by rw [Nat.mul_comm]; exact Nat.div_add_mod u a
  have hr : u % a < a := Nat.mod_lt _ (by omega)
  refine ⟨e, ?_, ?_, by omega⟩
  · rcases Nat.lt_or_ge (u / a) ((u * 4294967296 + t) / (a * 4294967296 + b)) with h | h
    · exfalso
      have h1 : (u / a + 1) * (a * 4294967296 + b) ≤ u * 4294967296 + t := (Nat.le_div_iff_mul_le (by omega)).1 h
      rw [Nat.mul_add, ← Nat.mul_assoc, Nat.add_mul (u / a) 1 a, Nat.one_mul] at h1
      obtain ⟨A, hA⟩ : ∃ A, A = u / a * a := ⟨_, rfl⟩
      rw [← hA] at e h1
      have := Nat.zero_le ((u / a + 1) * b)
      omega
    · exact h
  · have : u / a < 4294967296 + 2 := by
      rw [Nat.div_lt_iff_lt_mul (by omega), Nat.add_mul]
      omega
    omega
theorem Kn.last {u t a b q r : Nat} (k : Kn u t a b q r) (hY : 0 < a * 4294967296 + b) (h : r * 4294967296 + t ≥ q * b) : q = (u * 4294967296 + t) / (a * 4294967296 + b) := by
  have h1 := k.ge
  have h2 := (not_congr (kn_cmp (t := t) hY k.eq)).2 (by omega)
  omega
theorem Kn.next {u t a b q r : Nat} (k : Kn u t a b q r) (ha : 0 < a) (hu : u < a * 4294967296 + b) (ht : t < 4294967296) (h : 4294967296 ≤ q ∨ r * 4294967296 + t < q * b) :
    1 ≤ q ∧ (q - 1) * a + (r + a) = u ∧ (u * 4294967296 + t) / (a * 4294967296 + b) ≤ q - 1 := by
  have hY : 0 < a * 4294967296 + b := by omega
  have hlt : (u * 4294967296 + t) / (a * 4294967296 + b) < q := by
    rcases h with h | h
    · exact Nat.lt_of_lt_of_le (kn_lt hu ht) h
    · exact (kn_cmp hY k.eq).2 h
  have hq0 : 0 < q := Nat.lt_of_le_of_lt (Nat.zero_le _) hlt
  obtain ⟨p, rfl⟩ : ∃ p, q = p + 1 := ⟨q - 1, by omega⟩
  clear hq0
  have e := k.eq
  rw [Nat.add_mul, Nat.one_mul] at e
  refine ⟨by omega, ?_, by omega⟩
  rw [Nat.add_sub_cancel]; omega
theorem Kn.step {u t a b q r : Nat} (k : Kn u t a b q r) (ha : 0 < a) (hu : u < a * 4294967296 + b) (ht : t < 4294967296) (h : 4294967296 ≤ q ∨ r * 4294967296 + t < q * b) (hr : r + a < 4294967296) : Kn u t a b (q - 1) (r + a) := by
  obtain ⟨q1, q2, q3⟩ := k.next ha hu ht h
  exact ⟨q2, q3, by have := k.le; omega, hr⟩
theorem Kn.break_ {u t a b q r : Nat} (k : Kn u t a b q r) (ha : 0 < a) (hb : b < 4294967296) (hu : u < a * 4294967296 + b) (ht : t < 4294967296) (h : 4294967296 ≤ q ∨ r * 4294967296 + t < q * b) (hr : 4294967296 ≤ r + a) : q - 1 = (u * 4294967296 + t) / (a * 4294967296 + b) := by
  obtain ⟨q1, q2, q3⟩ := k.next ha hu ht h
  have hY : 0 < a * 4294967296 + b := by omega
  have hle := k.le
  have hp : (q - 1) * b ≤ 4294967296 * 4294967295 := Nat.mul_le_mul (by omega) (by omega)
  have h2 := (not_congr (kn_cmp (t := t) hY q2)).2 (by omega)
  omega
theorem kn_two {u t1 t0 Y : Nat} (hY : 0 < Y) : ((u * 4294967296 + t1) * 4294967296 + t0) / Y = (u * 4294967296 + t1) / Y * 4294967296 + ((u * 4294967296 + t1) % Y * 4294967296 + t0) / Y := by
  obtain ⟨N, hN⟩ : ∃ N, N = u * 4294967296 + t1 := ⟨_, rfl⟩
  rw [← hN]
  have e := Nat.div_add_mod N Y
  obtain ⟨q, hq⟩ : ∃ q, q = N / Y := ⟨_, rfl⟩
  obtain ⟨r, hr⟩ : ∃ r, r = N % Y := ⟨_, rfl⟩
  rw [← hq, ← hr] at e ⊢
  have e2 : N * 4294967296 + t0 = (r * 4294967296 + t0) + Y * (q * 4294967296) := by
    rw [← e, Nat.add_mul, Nat.mul_assoc]; omega
  rw [e2, Nat.add_mul_div_left _ _ hY, Nat.add_comm]
/-- the two words, shifted -/
theorem shift_two {hi lo s : Nat} (hs : s ≤ 64) : (hi * 2 ^ s + lo / 2 ^ (64 - s)) * 18446744073709551616 + lo * 2 ^ s % 18446744073709551616 = (hi * 18446744073709551616 + lo) * 2 ^ s := by
  have e : 2 ^ s * 2 ^ (64 - s) = 18446744073709551616 := by rw [← Nat.pow_add, show s + (64 - s) = 64 by omega]
  have h1 := Nat.div_add_mod lo (2 ^ (64 - s))
  obtain ⟨P, hP⟩ : ∃ P, P = 2 ^ s := ⟨_, rfl⟩
  obtain ⟨R, hR⟩ : ∃ R, R = 2 ^ (64 - s) := ⟨_, rfl⟩
  obtain ⟨c, hc⟩ : ∃ c, c = lo / R := ⟨_, rfl⟩
  obtain ⟨d, hd⟩ : ∃ d, d = lo % R := ⟨_, rfl⟩
  have hdl : d < R := by rw [hd]; exact Nat.mod_lt _ (by rw [hR]; exact Nat.two_pow_pos _)
  rw [← hP, ← hR] at e
  rw [← hR, ← hc, ← hd] at h1
  rw [← hP, ← hR, ← hc]
  have hm : lo * P = c * 18446744073709551616 + d * P := by
    rw [← h1, Nat.add_mul, Nat.mul_comm R c, Nat.mul_assoc, Nat.mul_comm R P, e]
  have hdp : d * P < 18446744073709551616 := by
    rw [← e, Nat.mul_comm P R]
    exact Nat.mul_lt_mul_of_pos_right hdl (by rw [hP]; exact Nat.two_pow_pos _)
  rw [hm, Nat.mul_comm c, Nat.mul_add_mod, Nat.mod_eq_of_lt hdp, Nat.add_mul (hi * 18446744073709551616), hm, Nat.add_mul, Nat.mul_assoc hi, Nat.mul_comm P, ← Nat.mul_assoc]
  omega
end Go.Proofs.Ytbkadfocjmpieaa
