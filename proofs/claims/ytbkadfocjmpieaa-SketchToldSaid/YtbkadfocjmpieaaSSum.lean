/-
  An estimate's sums, in plain numbers.
-/
import Derived.Test.YtbkadfocjmpieaaSText
set_option linter.unusedVariables false
namespace Go.Proofs.Ytbkadfocjmpieaa

/-- a register, at most 40 -/
def mn (s : ByteArray) (k : Nat) : Nat := min 40 ((sN s).getD k 0)
theorem mn_le (s : ByteArray) (k : Nat) : mn s k ≤ 40 := Nat.min_le_left _ _
/-- how often a register of j stands among the first k -/
def cn (s : ByteArray) : Nat → Nat → Nat
  | 0, _ => 0
  | k + 1, j => cn s k j + if mn s k = j then 1 else 0
theorem cn_le (s : ByteArray) : ∀ k j, cn s k j ≤ k
  | 0, j => Nat.le_refl _
  | k + 1, j => by unfold cn; have := cn_le s k j; split <;> omega
/-- the weighted sum over the first r -/
def wS (c : Nat → Nat) : Nat → Nat
  | 0 => 0
  | r + 1 => wS c r + c r * 2 ^ (40 - r)
theorem wS_one (c d : Nat → Nat) (j : Nat) (h1 : d j = c j + 1) (h2 : ∀ i, i ≠ j → d i = c i) : ∀ r, wS d r = wS c r + if j < r then 2 ^ (40 - j) else 0
  | 0 => rfl
  | r + 1 => by
    have ih := wS_one c d j h1 h2 r
    unfold wS
    rw [ih]
    by_cases e : r = j
    · subst e
      rw [h1, if_neg (by omega), if_pos (by omega), Nat.add_mul, Nat.one_mul]; omega
    · rw [h2 r e]
      by_cases e2 : j < r
      · rw [if_pos e2, if_pos (by omega)]; omega
      · rw [if_neg e2, if_neg (by omega)]; omega
/-- register by register -/
def sI (s : ByteArray) : Nat → Nat
  | 0 => 0
  | k + 1 => sI s k + 2 ^ (40 - mn s k)
theorem wS_zero : ∀ r, wS (fun _ => 0) r = 0
  | 0 => rfl
  | r + 1 => by unfold wS; rw [wS_zero r]; simp
theorem wS_cn (s : ByteArray) : ∀ k, wS (cn s k) 41 = sI s k
  | 0 => wS_zero 41
  | k + 1 => by
    have := wS_one (cn s k) (cn s (k + 1)) (mn s k) (by show cn s k (mn s k) + (if mn s k = mn s k then 1 else 0) = _; rw [if_pos rfl]) (fun i hi => by show cn s k i + _ = _; rw [if_neg (fun e => hi e.symm)]; rfl) 41
    rw [this, wS_cn s k, if_pos (by have := mn_le s k; omega)]
    rfl
theorem wS_mono (c : Nat → Nat) {r q : Nat} (h : r ≤ q) : wS c r ≤ wS c q := by
  induction q with
  | zero => have : r = 0 := by omega
            rw [this]; exact Nat.le_refl _
  | succ q ih =>
    rcases Nat.lt_or_ge q r with h1 | h1
    · have : r = q + 1 := by omega
      rw [this]; exact Nat.le_refl _
    · exact Nat.le_trans (ih h1) (Nat.le_add_right _ _)
theorem sI_bd (s : ByteArray) : ∀ k, k ≤ sI s k ∧ sI s k ≤ k * 1099511627776
  | 0 => ⟨Nat.le_refl _, Nat.le_refl _⟩
  | k + 1 => by
    have h := sI_bd s k
    have p := Nat.one_le_two_pow (n := 40 - mn s k)
    have q : 2 ^ (40 - mn s k) ≤ 2 ^ 40 := Nat.pow_le_pow_right (by decide) (by omega)
    have e : (2 : Nat) ^ 40 = 1099511627776 := by decide
    unfold sI
    omega
def xM (m : Nat) : Nat := 7213 * m * m * m / (10000 * m + 10790)
theorem xM_le (m : Nat) (hm : m ≤ 65536) : xM m ≤ m * m := by
  unfold xM
  refine Nat.div_le_of_le_mul ?_
  have : 7213 * m * m * m = (7213 * m) * (m * m) := by rw [Nat.mul_assoc (7213 * m)]
  rw [this]
  exact Nat.mul_le_mul_right _ (by omega)
/-- the linear count -/
def tS (m z : Nat) : Nat → Nat
  | 0 => 0
  | d + 1 => tS m z d + m * 1048576 / (z + d + 1)
theorem tS_bd (m z : Nat) : ∀ d, tS m z d ≤ d * (m * 1048576)
  | 0 => Nat.zero_le _
  | d + 1 => by
    have := tS_bd m z d
    have h : m * 1048576 / (z + d + 1) ≤ m * 1048576 := Nat.div_le_self _ _
    unfold tS
    rw [Nat.add_mul, Nat.one_mul]; omega
def estQ (s : ByteArray) : Nat := xM s.size * 1099511627776 / sI s s.size
def esV (s : ByteArray) : Nat := if cn s s.size 0 = 0 ∨ 5 * s.size < 2 * estQ s then estQ s else tS s.size (cn s s.size 0) (s.size - cn s s.size 0) / 1048576
theorem estQ_lt (s : ByteArray) (h1 : 1 ≤ s.size) (h2 : s.size ≤ 65536) : xM s.size * 1099511627776 / 18446744073709551616 < sI s s.size ∧ estQ s ≤ 72057594037927936 := by
  obtain ⟨b1, b2⟩ := sI_bd s s.size
  have hx := xM_le s.size h2
  have hxx : s.size * s.size ≤ s.size * 65536 := Nat.mul_le_mul_left _ h2
  obtain ⟨X, hX⟩ : ∃ X, X = xM s.size := ⟨_, rfl⟩
  obtain ⟨S, hS⟩ : ∃ S, S = s.size * s.size := ⟨_, rfl⟩
  obtain ⟨T, hT⟩ : ∃ T, T = sI s s.size := ⟨_, rfl⟩
  unfold estQ
  rw [← hX, ← hT]
  rw [← hT] at b1 b2
  rw [← hX, ← hS] at hx
  rw [← hS] at hxx
  refine ⟨by omega, ?_⟩
  have h3 : X * 1099511627776 ≤ T * (65536 * 1099511627776) := by
    rw [← Nat.mul_assoc]; exact Nat.mul_le_mul_right _ (by omega)
  exact Nat.div_le_of_le_mul h3
end Go.Proofs.Ytbkadfocjmpieaa
