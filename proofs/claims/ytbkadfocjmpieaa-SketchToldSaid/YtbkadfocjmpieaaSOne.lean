/-
  Estimates of nothing, and of one.
-/
import Derived.Test.YtbkadfocjmpieaaSAwake
set_option linter.unusedVariables false
namespace Go.Proofs.Ytbkadfocjmpieaa

/-- few registers are other than 0: at most one below k, if 'one' -/
theorem cn_zero {s : ByteArray} (h : ∀ k, (sN s).getD k 0 = 0) : ∀ k, cn s k 0 = k ∧ sI s k = k * 1099511627776
  | 0 => ⟨rfl, rfl⟩
  | k + 1 => by
    obtain ⟨h1, h2⟩ := cn_zero h k
    have hm : mn s k = 0 := by unfold mn; rw [h k]; rfl
    have e : (2 : Nat) ^ 40 = 1099511627776 := by decide
    refine ⟨?_, ?_⟩
    · show cn s k 0 + (if mn s k = 0 then 1 else 0) = k + 1
      rw [hm, if_pos rfl, h1]
    · show sI s k + 2 ^ (40 - mn s k) = _
      rw [hm, h2, Nat.sub_zero, e]; omega
theorem cn_one {s : ByteArray} {i : Nat} (h : ∀ k, k ≠ i → (sN s).getD k 0 = 0) (hi : 1 ≤ (sN s).getD i 0) : ∀ k, cn s k 0 = (if i < k then k - 1 else k) ∧ (if i < k then k - 1 else k) * 1099511627776 ≤ sI s k
  | 0 => ⟨rfl, by rw [if_neg (by omega)]; exact Nat.le_refl _⟩
  | k + 1 => by
    obtain ⟨h1, h2⟩ := cn_one h hi k
    have e : (2 : Nat) ^ 40 = 1099511627776 := by decide
    by_cases hk : k = i
    · subst hk
      have hm : ¬ mn s k = 0 := by unfold mn; omega
      rw [if_neg (by omega)] at h1 h2
      refine ⟨?_, ?_⟩
      · show cn s k 0 + (if mn s k = 0 then 1 else 0) = _
        rw [if_neg hm, h1, if_pos (by omega)]; rfl
      · show _ ≤ sI s k + 2 ^ (40 - mn s k)
        rw [if_pos (by omega), Nat.add_sub_cancel]
        exact Nat.le_trans h2 (Nat.le_add_right _ _)
    · have hm : mn s k = 0 := by unfold mn; rw [h k hk]; rfl
      refine ⟨?_, ?_⟩
      · show cn s k 0 + (if mn s k = 0 then 1 else 0) = _
        rw [hm, if_pos rfl, h1]
        by_cases h3 : i < k
        · rw [if_pos h3, if_pos (by omega)]; omega
        · rw [if_neg h3, if_neg (by omega)]
      · show _ ≤ sI s k + 2 ^ (40 - mn s k)
        rw [hm, Nat.sub_zero, e]
        clear e
        by_cases h3 : i < k
        · have h5 : i < k + 1 := by omega
          rw [if_pos h3] at h2
          rw [if_pos h5, Nat.add_sub_cancel]
          obtain ⟨j, rfl⟩ : ∃ j, k = j + 1 := ⟨k - 1, by omega⟩
          rw [Nat.add_sub_cancel] at h2
          rw [Nat.add_mul, Nat.one_mul]
          exact Nat.add_le_add_right h2 _
        · have h5 : ¬ i < k + 1 := by omega
          rw [if_neg h3] at h2
          rw [if_neg h5, Nat.add_mul, Nat.one_mul]
          exact Nat.add_le_add_right h2 _
theorem est_zero {s : ByteArray} (h : ∀ k, (sN s).getD k 0 = 0) (h1 : 16 ≤ s.size) (h2 : s.size ≤ 65536) : esV s = 0 := by
  obtain ⟨c1, c2⟩ := cn_zero h s.size
  have hx := xM_le s.size h2
  have hq : estQ s ≤ s.size := by
    unfold estQ
    rw [c2, Nat.mul_div_mul_right _ _ (by decide)]
    exact Nat.div_le_of_le_mul (by rw [Nat.mul_comm] at hx; exact hx)
  unfold esV
  rw [c1, if_neg (by omega), Nat.sub_self, show tS s.size s.size 0 = 0 from rfl]

theorem est_one {s : ByteArray} {i : Nat} (h : ∀ k, k ≠ i → (sN s).getD k 0 = 0) (hi : 1 ≤ (sN s).getD i 0) (his : i < s.size) (h1 : 16 ≤ s.size) (h2 : s.size ≤ 65536) : esV s = 1 := by
  obtain ⟨c1, c2⟩ := cn_one h hi s.size
  rw [if_pos his] at c1 c2
  have hx := xM_le s.size h2
  obtain ⟨m, hm⟩ : ∃ m, m = s.size - 1 := ⟨_, rfl⟩
  have hms : s.size = m + 1 := by omega
  rw [← hm] at c1 c2
  have hq : estQ s ≤ 2 * (m + 1) := by
    unfold estQ
    have hpos : 0 < sI s s.size := by omega
    refine Nat.div_le_of_le_mul ?_
    have a1 : xM s.size * 1099511627776 ≤ (s.size * s.size) * 1099511627776 := Nat.mul_le_mul_right _ hx
    have a2 : (m * 1099511627776) * (2 * (m + 1)) ≤ sI s s.size * (2 * (m + 1)) := Nat.mul_le_mul_right _ c2
    refine Nat.le_trans a1 (Nat.le_trans ?_ a2)
    rw [hms]
    have a3 : (m + 1) * (m + 1) ≤ (2 * m) * (m + 1) := Nat.mul_le_mul_right _ (by omega)
    have a4 : (m * 1099511627776) * (2 * (m + 1)) = ((2 * m) * (m + 1)) * 1099511627776 := by
      rw [Nat.mul_right_comm, Nat.mul_left_comm, Nat.mul_assoc 2 m (m + 1)]
    rw [a4]
    exact Nat.mul_le_mul_right _ a3
  unfold esV
  rw [c1, if_neg (by omega), hms, show m + 1 - m = 1 by omega]
  show (0 + (m + 1) * 1048576 / (m + 0 + 1)) / 1048576 = 1
  rw [Nat.zero_add, Nat.add_zero, Nat.mul_div_cancel_left _ (by omega)]
theorem getD_nwL (p k : Nat) : (nwL p).getD k 0 = 0 := by
  unfold nwL
  rw [List.getD, List.getElem?_replicate]
  split <;> rfl
theorem Sk.size {p : Nat} {l : List Nat} (h : Sk p l) : 16 ≤ (strOf l).size ∧ (strOf l).size ≤ 65536 ∧ (strOf l).size = 2 ^ p := by
  have h1 := h.len
  have h216 : 2 ^ p ≤ 2 ^ 16 := Nat.pow_le_pow_right (by decide) h.h16
  have h24 : 2 ^ 4 ≤ 2 ^ p := Nat.pow_le_pow_right (by decide) h.h4
  have e16 : (2 : Nat) ^ 16 = 65536 := by decide
  have e4 : (2 : Nat) ^ 4 = 16 := by decide
  rw [size_strOf]; omega
theorem est_nw {p : Nat} (h4 : 4 ≤ p) (h16 : p ≤ 16) : esV (strOf (nwL p)) = 0 := by
  have h := Sk.nw h4 h16
  exact est_zero (fun k => by rw [h.sN, getD_nwL]) h.size.1 h.size.2.1
theorem est_ad {p x : Nat} (h4 : 4 ≤ p) (h16 : p ≤ 16) (hx : x < 18446744073709551616) : esV (strOf (adL (nwL p) (adAt p x) (rk p x))) = 1 := by
  have h := (Sk.nw h4 h16).ad (adAt p x) x
  have hat := adAt_lt (p := p) (h := x) (by omega) hx
  have hl : (nwL p).length = 2 ^ p := (Sk.nw h4 h16).len
  refine est_one (i := adAt p x) (fun k hk => ?_) ?_ ?_ h.size.1 h.size.2.1
  · rw [h.sN, getD_adL, if_neg (fun e => hk e.1), getD_nwL]
  · rw [h.sN, getD_adL, if_pos ⟨rfl, by rw [hl]; exact hat⟩]
    have : 1 ≤ rk p x := by unfold rk; omega
    omega
  · rw [h.size.2.2]; exact hat
end Go.Proofs.Ytbkadfocjmpieaa
