/-
  codes, in plain lists of bits: what is read, and that it is what was written.
-/
import Derived.Test.YtmgngmnkmmhckaaCSp
import Derived.Test.YtmgngmnkmmhckaaCGamma
set_option linter.unusedVariables false
namespace Go.Proofs.Ytmgngmnkmmhckaa
open Go.RowKit Plain

/-- at the place stand these bits -/
def Pre (B : List Bool) (a : Nat) (L : List Bool) : Prop := a ≤ B.length ∧ ∃ R, B.drop a = L ++ R
theorem Pre.len {B L : List Bool} {a : Nat} (h : Pre B a L) : a + L.length ≤ B.length := by
  obtain ⟨h1, R, h2⟩ := h
  have := congrArg List.length h2
  rw [List.length_drop, List.length_append] at this
  omega
theorem Pre.left {B L M : List Bool} {a : Nat} (h : Pre B a (L ++ M)) : Pre B a L := by
  obtain ⟨h1, R, h2⟩ := h
  exact ⟨h1, M ++ R, by rw [h2, List.append_assoc]⟩
theorem drop_add {B L R : List Bool} {a : Nat} (h : B.drop a = L ++ R) : B.drop (a + L.length) = R := by
  rw [← List.drop_drop, h, List.drop_left]
theorem Pre.right {B L M : List Bool} {a : Nat} (h : Pre B a (L ++ M)) : Pre B (a + L.length) M := by
  have hl := h.left.len
  obtain ⟨h1, R, h2⟩ := h
  rw [List.append_assoc] at h2
  exact ⟨hl, R, drop_add h2⟩
theorem Pre.join {B L M : List Bool} {a : Nat} (h : Pre B a L) (k : Pre B (a + L.length) M) : Pre B a (L ++ M) := by
  obtain ⟨h1, R, h2⟩ := h
  obtain ⟨_, R', h3⟩ := k
  refine ⟨h1, R', ?_⟩
  rw [drop_add h2] at h3
  rw [h2, h3, List.append_assoc]
theorem Pre.nil {B : List Bool} {a : Nat} (h : a ≤ B.length) : Pre B a [] := ⟨h, B.drop a, rfl⟩
theorem Pre.take {B L : List Bool} {a : Nat} (h : Pre B a L) : (B.drop a).take L.length = L := by
  obtain ⟨_, R, h2⟩ := h
  rw [h2, List.take_left]
theorem Pre.of_take {B : List Bool} {a n : Nat} (h : a + n ≤ B.length) : Pre B a ((B.drop a).take n) := ⟨by omega, (B.drop a).drop n, (List.take_append_drop _ _).symm⟩
theorem Pre.getD {B L : List Bool} {a i : Nat} (h : Pre B a L) (hi : i < L.length) : B.getD (a + i) false = L.getD i false := by
  obtain ⟨_, R, h2⟩ := h
  have : (B.drop a).getD i false = (L ++ R).getD i false := by rw [h2]
  rw [getD_append, if_pos hi] at this
  rw [← this]
  simp [List.getD]

/- take -/
theorem tk_fwd {B : List Bool} {a v n : Nat} (hn : n ≤ 64) (hv : v < 2 ^ n) (h : Pre B a (bitsOf v n)) : takeVal B a n = v ∧ takeAt B.length a n = a + n ∧ (takeCode B.length a n != 0) = false := by
  have hl := h.len
  rw [length_bitsOf] at hl
  have hc : takeCode B.length a n = 0 := by unfold takeCode; rw [if_neg (by omega), if_neg (by omega)]
  refine ⟨?_, ?_, by rw [hc]; rfl⟩
  · unfold takeVal
    rw [if_pos hc, Int.toNat_natCast]
    have := h.take
    rw [length_bitsOf] at this
    rw [this, num_bitsOf, Nat.mod_eq_of_lt hv]
  · unfold takeAt; rw [if_pos hc, Int.toNat_natCast]
theorem tk_bwd {B : List Bool} {a n : Nat} (hn : n ≤ 64) (h : (takeCode B.length a n != 0) = false) : Pre B a (bitsOf (takeVal B a n) n) ∧ takeVal B a n < 2 ^ n ∧ takeAt B.length a n = a + n := by
  have hc : takeCode B.length a n = 0 := by simpa using h
  have hl : a + n ≤ B.length := by
    unfold takeCode at hc
    rw [if_neg (by omega)] at hc
    split at hc
    · exact absurd hc (by decide)
    · omega
  refine ⟨?_, takeVal_lt _ _ _, by unfold takeAt; rw [if_pos hc, Int.toNat_natCast]⟩
  unfold takeVal
  rw [if_pos hc, Int.toNat_natCast]
  have h2 := Pre.of_take hl
  have e : ((B.drop a).take n).length = n := by rw [List.length_take, List.length_drop]; omega
  have := bitsOf_num ((B.drop a).take n)
  rw [e] at this
  rw [this]
  exact h2

/- zeros -/
theorem zr_fwd (B : List Bool) (m : Nat) : ∀ (f a n : Nat), m < f → Pre B a (List.replicate m false ++ [true]) → zr B a n f = (n + m, a + m + 1, false) := by
  induction m with
  | zero =>
    intro f a n hf h
    obtain ⟨f, rfl⟩ : ∃ g, f = g + 1 := ⟨f - 1, by omega⟩
    have hl := h.len
    have h0 := h.getD (i := 0) (by simp)
    simp at hl h0
    unfold zr
    rw [if_neg (by omega), if_pos (by simpa using h0)]
    rfl
  | succ m ih =>
    intro f a n hf h
    obtain ⟨f, rfl⟩ : ∃ g, f = g + 1 := ⟨f - 1, by omega⟩
    have hl := h.len
    have h0 := h.getD (i := 0) (by simp)
    simp [List.replicate_succ] at hl h0
    unfold zr
    rw [if_neg (by omega), if_neg (by simpa using h0)]
    have h' : Pre B (a + 1) (List.replicate m false ++ [true]) := by
      rw [List.replicate_succ, List.cons_append, ← List.singleton_append] at h
      exact h.right
    rw [ih f (a + 1) (n + 1) (by omega) h']
    rw [show n + 1 + m = n + (m + 1) by omega, show a + 1 + m + 1 = a + (m + 1) + 1 by omega]
theorem getD_one {B : List Bool} {a : Nat} (h : a < B.length) : Pre B a [B.getD a false] := by
  refine ⟨by omega, B.drop (a + 1), ?_⟩
  rw [List.drop_eq_getElem_cons h]
  simp [List.getD, h]
theorem zr_bwd (B : List Bool) : ∀ (f a n : Nat), (zr B a n f).2.2 = false → ∃ m, m < f ∧ zr B a n f = (n + m, a + m + 1, false) ∧ Pre B a (List.replicate m false ++ [true])
  | 0, a, n, h => by simp [zr] at h
  | f + 1, a, n, h => by
    unfold zr at h ⊢
    split at h
    · simp at h
    · rename_i hl
      rw [if_neg hl]
      have h1 := getD_one (B := B) (a := a) (by omega)
      split at h
      · rename_i hb
        rw [if_pos hb]
        rw [hb] at h1
        exact ⟨0, by omega, rfl, h1⟩
      · rename_i hb
        rw [if_neg hb]
        obtain ⟨m, q1, q2, q3⟩ := zr_bwd B f (a + 1) (n + 1) h
        have hb' : B.getD a false = false := by simpa using hb
        rw [hb'] at h1
        refine ⟨m + 1, by omega, ?_, ?_⟩
        · rw [q2, show n + 1 + m = n + (m + 1) by omega, show a + 1 + m + 1 = a + (m + 1) + 1 by omega]
        · rw [List.replicate_succ, List.cons_append, ← List.singleton_append]
          exact h1.join q3

/- gamma -/
theorem lo_of {v b x : Nat} (hx : x < 2 ^ b) (hb : b ≤ 47) (hv : v = x + 2 ^ b - 1) : lo v = b ∧ rs v = x := by
  have hp := Nat.two_pow_pos b
  have h47 : 2 ^ b ≤ 2 ^ 47 := Nat.pow_le_pow_right (by decide) hb
  have e : (2 : Nat) ^ 47 = 140737488355328 := by decide
  obtain ⟨q1, q2, q3, q4⟩ := lo_spec (v := v) (by omega)
  have hl : lo v = b := by
    rcases Nat.lt_trichotomy (lo v) b with h | h | h
    · have : 2 * 2 ^ lo v ≤ 2 ^ b := by rw [Nat.mul_comm, ← Nat.pow_succ]; exact Nat.pow_le_pow_right (by decide) h
      omega
    · exact h
    · have : 2 * 2 ^ b ≤ 2 ^ lo v := by rw [Nat.mul_comm, ← Nat.pow_succ]; exact Nat.pow_le_pow_right (by decide) h
      omega
  refine ⟨hl, ?_⟩
  unfold rs
  rw [hl]
  omega
theorem rs_lt {v : Nat} (h : v < 281474976710655) : rs v < 2 ^ lo v := by
  obtain ⟨q1, q2, q3, q4⟩ := lo_spec h
  unfold rs; omega
theorem rs_add {v : Nat} (h : v < 281474976710655) : rs v + 2 ^ lo v - 1 = v := by
  obtain ⟨q1, q2, q3, q4⟩ := lo_spec h
  unfold rs; omega
def gB (v : Nat) : List Bool := List.replicate (lo v) false ++ [true] ++ bitsOf (rs v) (lo v)
theorem length_gB (v : Nat) : (gB v).length = 2 * lo v + 1 := by
  unfold gB; simp [length_bitsOf]; omega
theorem gm_fwd {B : List Bool} {a v most : Nat} (hv : v < 281474976710655) (hm : lo v ≤ most) (h : Pre B a (gB v)) : gm B a most = (v, a + (2 * lo v + 1), false) := by
  have h1 := h.left
  have h2 := h.right
  rw [List.length_append, List.length_replicate] at h2
  have hz := zr_fwd B (lo v) (most + 1) a 0 (by omega) h1
  rw [Nat.zero_add] at hz
  obtain ⟨t1, t2, t3⟩ := tk_fwd (by have := (lo_spec hv).1; omega) (rs_lt hv) h2
  rw [← Nat.add_assoc] at t1 t2 t3
  simp only [List.length_cons, List.length_nil, Nat.zero_add] at t1 t2 t3
  unfold gm
  rw [hz]
  simp only [t1, t2, t3, rs_add hv]
  rw [show a + lo v + 1 + lo v = a + (2 * lo v + 1) by omega]
  rfl
theorem gm_bwd {B : List Bool} {a most : Nat} (hm : most ≤ 47) (h : (gm B a most).2.2 = false) : ∃ v, v < 281474976710655 ∧ lo v ≤ most ∧ gm B a most = (v, a + (2 * lo v + 1), false) ∧ Pre B a (gB v) := by
  have hz0 : (zr B a 0 (most + 1)).2.2 = false := by unfold gm at h; simp only [Bool.or_eq_false_iff] at h; exact h.1
  obtain ⟨b, q1, q2, q3⟩ := zr_bwd B (most + 1) a 0 hz0
  rw [Nat.zero_add] at q2
  have h2 : (takeCode B.length (a + b + 1) b != 0) = false := by
    unfold gm at h; rw [q2] at h; simpa using h
  obtain ⟨t1, t2, t3⟩ := tk_bwd (by omega) h2
  have hp := Nat.two_pow_pos b
  have h47 : 2 ^ b ≤ 2 ^ 47 := Nat.pow_le_pow_right (by decide) (by omega)
  have e : (2 : Nat) ^ 47 = 140737488355328 := by decide
  obtain ⟨l1, l2⟩ := lo_of t2 (by omega) (v := takeVal B (a + b + 1) b + 2 ^ b - 1) rfl
  refine ⟨takeVal B (a + b + 1) b + 2 ^ b - 1, by omega, by omega, ?_, ?_⟩
  · unfold gm
    rw [q2, l1]
    simp only [t3, h2]
    rw [show a + b + 1 + b = a + (2 * b + 1) by omega]
    rfl
  · unfold gB
    rw [l1, l2]
    refine q3.join ?_
    rw [List.length_append, List.length_replicate, ← Nat.add_assoc]
    exact t1
end Go.Proofs.Ytmgngmnkmmhckaa
