/-
  CodesBack, in plain lists: lengths, and many numbers one behind the other.
-/
import Derived.Test.YtmgngmnkmmhckaaCAny
import Derived.Test.YtmgngmnkmmhckaaLOnce
set_option linter.unusedVariables false
namespace Go.Proofs.Ytmgngmnkmmhckaa
open Go.RowKit Plain

theorem lo_mono {u v : Nat} (h : u ≤ v) (hv : v < 281474976710655) : lo u ≤ lo v := by
  obtain ⟨q1, q2, q3, q4⟩ := lo_spec hv
  obtain ⟨p1, p2, p3, p4⟩ := lo_spec (v := u) (by omega)
  rcases Nat.lt_or_ge (lo v) (lo u) with h1 | h1
  · have : 2 * 2 ^ lo v ≤ 2 ^ lo u := by rw [Nat.mul_comm, ← Nat.pow_succ]; exact Nat.pow_le_pow_right (by decide) h1
    omega
  · exact h1
theorem shN_bd (v k : Nat) : shS k - 1 ≤ (shN v k).toNat ∧ (shN v k).toNat ≤ shS k := by
  unfold shN; split <;> omega
theorem shN_mono {u v : Nat} (k : Nat) (h : u ≤ v) : (shN u k).toNat ≤ (shN v k).toNat := by
  unfold shN; split <;> split <;> omega
theorem shS_mono {j k : Nat} (h1 : 1 ≤ j) (h : j ≤ k) (h2 : k ≤ 2 ^ 63) : shS j ≤ shS k := by
  obtain ⟨q1, q2⟩ := shS_spec (k := k) (by omega) h2
  rcases Nat.lt_or_ge (shS k) (shS j) with h3 | h3
  · obtain ⟨p1, p2, p3, p4⟩ := shM_lt h1 (by omega) (show shS j ≠ 0 by omega)
    have : 2 ^ shS k ≤ 2 ^ (shS j - 1) := Nat.pow_le_pow_right (by decide) (by omega)
    omega
  · exact h3
theorem cb_zeta_len (K v : Nat) : (cb 3 K v).length = zH K v + 1 + (shN (zX K v) (zK K v)).toNat := by
  unfold cb
  rw [if_neg (by decide), if_neg (by decide), if_neg (by decide), if_pos rfl, List.length_append, List.length_append, List.length_replicate, length_bitsOf]
  rfl
theorem cb_gamma_len (K v : Nat) : (cb 1 K v).length = 2 * lo v + 1 := by
  unfold cb
  rw [if_neg (by decide), if_pos rfl, length_gB]
theorem len_mono {kd K v : Nat} (h1 : cMay kd K v = true) (h2 : cMay kd K (v + 1) = true) : (cb kd K v).length ≤ (cb kd K (v + 1)).length := by
  rcases cMay_spec h2 with ⟨rfl, hv⟩ | ⟨rfl, hv⟩ | ⟨rfl, hv⟩ | ⟨rfl, k1, k2, hv⟩ | ⟨rfl, k1, k2, hv⟩
  · unfold cb; simp
  · have := lo_mono (show v ≤ v + 1 by omega) hv
    rw [cb_gamma_len, cb_gamma_len]; omega
  · have l1 := lo_mono (show v ≤ v + 1 by omega) hv
    have l2 := lo_mono l1 (by have := (lo_spec hv).1; omega)
    unfold cb
    simp only [if_neg (show ¬ (2 : Nat) = 0 by decide), if_neg (show ¬ (2 : Nat) = 1 by decide), if_true, List.length_append, length_gB, length_bitsOf]
    omega
  · rw [cb_zeta_len, cb_zeta_len]
    obtain ⟨q1, q2, q3⟩ := z_of k1 k2 (show v < 281474976710655 by omega)
    obtain ⟨p1, p2, p3⟩ := z_of k1 k2 hv
    have hh : zH K v ≤ zH K (v + 1) := Nat.div_le_div_right (lo_mono (show v ≤ v + 1 by omega) hv)
    obtain ⟨b1, b2, b3, b4⟩ := z_bound k1 k2 q1
    obtain ⟨c1, c2, c3, c4⟩ := z_bound k1 k2 p1
    rcases Nat.lt_or_ge (zH K v) (zH K (v + 1)) with hlt | hge
    · have hkk : zK K v ≤ zK K (v + 1) := by
        unfold zK
        have e1 : zFr K (zH K v) * 2 ^ K - zFr K (zH K v) = zFr K (zH K v) * (2 ^ K - 1) := by rw [Nat.mul_sub, Nat.mul_one]
        have e2 : zFr K (zH K (v + 1)) * 2 ^ K - zFr K (zH K (v + 1)) = zFr K (zH K (v + 1)) * (2 ^ K - 1) := by rw [Nat.mul_sub, Nat.mul_one]
        rw [e1, e2]
        refine Nat.mul_le_mul_right _ ?_
        unfold zFr
        exact Nat.pow_le_pow_right (by decide) (Nat.mul_le_mul_right K hh)
      have hs := shS_mono (j := zK K v) (k := zK K (v + 1)) b3 hkk c4
      have s1 := shN_bd (zX K v) (zK K v)
      have s2 := shN_bd (zX K (v + 1)) (zK K (v + 1))
      omega
    · have he : zH K (v + 1) = zH K v := by omega
      have e1 : zK K (v + 1) = zK K v := by unfold zK; rw [he]
      have e2 : zX K v ≤ zX K (v + 1) := by unfold zX; rw [he]; omega
      rw [e1, he]
      have := shN_mono (zK K v) e2
      omega
  · unfold cb
    simp only [if_neg (show ¬ (4 : Nat) = 0 by decide), if_neg (show ¬ (4 : Nat) = 1 by decide), if_neg (show ¬ (4 : Nat) = 2 by decide), if_neg (show ¬ (4 : Nat) = 3 by decide), length_bitsOf]
    exact shN_mono K (Nat.le_succ v)
theorem len_zeta1 {v : Nat} (K : Nat) (hv : v < 281474976710655) : (cb 3 1 v).length = (cb 1 K v).length := by
  rw [cb_zeta_len, cb_gamma_len]
  have hH : zH 1 v = lo v := Nat.div_one _
  have hF : zFr 1 (lo v) = 2 ^ lo v := by unfold zFr; rw [Nat.mul_one]
  have hK : zK 1 v = 2 ^ lo v := by unfold zK; rw [hH, hF]; omega
  have hl := (lo_spec hv).1
  have p := Nat.one_le_two_pow (n := lo v)
  have h63 : 2 ^ lo v ≤ 2 ^ 63 := Nat.pow_le_pow_right (by decide) (by omega)
  obtain ⟨q1, q2⟩ := shS_spec (k := 2 ^ lo v) p h63
  have hS : shS (2 ^ lo v) = lo v := by
    have h1 : lo v ≤ shS (2 ^ lo v) := by
      rcases Nat.lt_or_ge (shS (2 ^ lo v)) (lo v) with h | h
      · have := Nat.pow_lt_pow_right (a := 2) (by decide) h
        omega
      · exact h
    by_cases h0 : shS (2 ^ lo v) = 0
    · omega
    · obtain ⟨p1, p2, p3, p4⟩ := shM_lt p h63 h0
      rcases Nat.lt_or_ge (lo v) (shS (2 ^ lo v)) with h | h
      · have : 2 ^ lo v ≤ 2 ^ (shS (2 ^ lo v) - 1) := Nat.pow_le_pow_right (by decide) (by omega)
        omega
      · omega
  have hM : shM (2 ^ lo v) = 0 := by unfold shM; rw [hS]; omega
  have : (shN (zX 1 v) (zK 1 v)).toNat = lo v := by
    rw [hK]; unfold shN; rw [hM, if_pos (Nat.zero_le _), hS]; rfl
  rw [this, hH]; omega

/-! many numbers -/
abbrev T3 := Nat × Nat × Nat
def okT (x : T3) : Prop := cMay x.1 x.2.1 x.2.2 = true ∧ x.2.1 < 18446744073709551616
def CC (xs : List T3) : List Bool := xs.flatMap fun x => cb x.1 x.2.1 x.2.2
def cells3 (xs : List T3) : List Value := xs.flatMap fun x => [.int .u8 (x.1 : Nat), .int .u64 (x.2.1 : Nat), .int .u64 (x.2.2 : Nat)]
theorem CC_snoc (xs : List T3) (x : T3) : CC (xs ++ [x]) = CC xs ++ cb x.1 x.2.1 x.2.2 := by unfold CC; simp
theorem cells3_snoc (xs : List T3) (x : T3) : cells3 (xs ++ [x]) = cells3 xs ++ [.int .u8 (x.1 : Nat), .int .u64 (x.2.1 : Nat), .int .u64 (x.2.2 : Nat)] := by unfold cells3; simp
theorem CC_len {xs : List T3} (h : ∀ x ∈ xs, okT x) : (CC xs).length ≤ 65664 * xs.length := by
  induction xs with
  | nil => simp [CC]
  | cons x xs ih =>
    have h1 := cb_len (h x (by simp)).1
    have h2 := ih (fun y hy => h y (by simp [hy]))
    unfold CC at h2 ⊢
    rw [List.flatMap_cons, List.length_append, List.length_cons]
    omega
theorem length_cells3 (xs : List T3) : (cells3 xs).length = xs.length * 3 := by
  induction xs with
  | nil => rfl
  | cons x xs ih => unfold cells3 at ih ⊢; rw [List.flatMap_cons, List.length_append, ih, List.length_cons]; simp; omega
theorem cells3_get {xs : List T3} {i : Nat} {x : T3} (h : xs[i]? = some x) :
    (cells3 xs)[i * 3]? = some (.int .u8 (x.1 : Nat)) ∧ (cells3 xs)[i * 3 + 1]? = some (.int .u64 (x.2.1 : Nat)) ∧ (cells3 xs)[i * 3 + 2]? = some (.int .u64 (x.2.2 : Nat)) := by
  induction xs generalizing i with
  | nil => simp at h
  | cons y xs ih =>
    unfold cells3 at ih ⊢
    rw [List.flatMap_cons]
    cases i with
    | zero => simp at h; subst h; exact ⟨rfl, rfl, rfl⟩
    | succ i =>
      have := ih (i := i) (by simpa using h)
      have e : ∀ j, (i + 1) * 3 + j = (i * 3 + j) + 3 := fun j => by omega
      have e0 : (i + 1) * 3 = i * 3 + 3 := by omega
      rw [e 1, e 2, e0]
      exact this
theorem CC_at {xs : List T3} {i : Nat} {x : T3} (h : xs[i]? = some x) : ∃ R, CC xs = CC (xs.take i) ++ (cb x.1 x.2.1 x.2.2 ++ R) ∧ CC (xs.take (i + 1)) = CC (xs.take i) ++ cb x.1 x.2.1 x.2.2 := by
  have hi : i < xs.length := (List.getElem?_eq_some_iff.1 h).1
  have he : xs.take (i + 1) = xs.take i ++ [x] := by
    rw [List.take_add_one, h]; rfl
  refine ⟨CC (xs.drop (i + 1)), ?_, by rw [he, CC_snoc]⟩
  have : xs = xs.take i ++ ([x] ++ xs.drop (i + 1)) := by
    rw [← List.append_assoc, ← he, List.take_append_drop]
  have e2 : CC xs = CC (xs.take i ++ ([x] ++ xs.drop (i + 1))) := by rw [← this]
  rw [e2]
  unfold CC; simp
theorem back_read {xs : List T3} {i : Nat} {x : T3} {s : ByteArray} (h : xs[i]? = some x) (hok : okT x) (hs : s = strOf (pk (CC xs))) :
    rV (bitsS s) (CC (xs.take i)).length x.1 x.2.1 = x.2.2 ∧ rE (bitsS s) (CC (xs.take i)).length x.1 x.2.1 = 0 ∧ rA (bitsS s) (CC (xs.take i)).length x.1 x.2.1 = (CC (xs.take (i + 1))).length := by
  obtain ⟨R, q1, q2⟩ := CC_at h
  have hp : Pre (bitsS s) (CC (xs.take i)).length (cb x.1 x.2.1 x.2.2) := by
    rw [hs, bitsS_strOf, q1]
    obtain ⟨Z, hZ⟩ : ∃ Z, Z = List.replicate (8 * (((CC (xs.take i) ++ (cb x.1 x.2.1 x.2.2 ++ R)).length + 7) / 8) - (CC (xs.take i) ++ (cb x.1 x.2.1 x.2.2 ++ R)).length) false := ⟨_, rfl⟩
    rw [← hZ]
    refine ⟨by simp, R ++ Z, ?_⟩
    rw [List.append_assoc, List.append_assoc, List.drop_left]
  have hr := rd_fwd hok.1 hp
  have hk : cOk x.1 x.2.1 = true := by have := hok.1; unfold cMay at this; simp only [Bool.and_eq_true] at this; exact this.1
  have hm : ¬ cMost x.1 x.2.1 < x.2.2 := by have := hok.1; unfold cMay at this; simp only [Bool.and_eq_true, decide_eq_true_eq] at this; omega
  have hb : rdBad x.1 x.2.1 (rd (bitsS s) (CC (xs.take i)).length x.1 x.2.1).1 (rd (bitsS s) (CC (xs.take i)).length x.1 x.2.1).2.2 = false := by
    rw [hr]; unfold rdBad; rw [decide_eq_false hm]; rfl
  unfold rV rE rA
  rw [if_pos hk, if_pos hk, if_pos hk, hb, hr, q2, List.length_append]
  exact ⟨rfl, rfl, rfl⟩
end Go.Proofs.Ytmgngmnkmmhckaa
