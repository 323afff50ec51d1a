/-
  codes, in plain lists of bits: Minimal, and all kinds together.
-/
import Derived.Test.YtmgngmnkmmhckaaCPlain
set_option linter.unusedVariables false
namespace Go.Proofs.Ytmgngmnkmmhckaa
open Go.RowKit Plain

/-- what is read in Minimal -/
def rSh (B : List Bool) (a k : Nat) : Nat × Nat × Bool :=
  if shS k = 0 then (0, a, false) else
  if shM k ≤ takeVal B a (shS k - 1 : Nat) then
    (2 * takeVal B a (shS k - 1 : Nat) + takeVal B (takeAt B.length a (shS k - 1 : Nat)) 1 - shM k, takeAt B.length (takeAt B.length a (shS k - 1 : Nat)) 1,
      takeCode B.length a (shS k - 1 : Nat) != 0 || takeCode B.length (takeAt B.length a (shS k - 1 : Nat)) 1 != 0)
  else (takeVal B a (shS k - 1 : Nat), takeAt B.length a (shS k - 1 : Nat), takeCode B.length a (shS k - 1 : Nat) != 0)
theorem bits_one (b : Bool) : bitsOf b.toNat 1 = [b] := by cases b <;> decide
theorem shM_lt {k : Nat} (h1 : 1 ≤ k) (h2 : k ≤ 2 ^ 63) (h : shS k ≠ 0) : 2 ^ shS k = 2 * 2 ^ (shS k - 1) ∧ 2 ^ (shS k - 1) < k ∧ k ≤ 2 ^ shS k ∧ shM k + k = 2 ^ shS k := by
  obtain ⟨q1, q2⟩ := shS_spec h1 h2
  have hsp := bitLen_spec (k - 1) (by have e : (2 : Nat) ^ 63 = 9223372036854775808 := by decide
                                      omega)
  have hk : k - 1 ≠ 0 := by
    intro e; apply h; unfold shS; rw [e]; decide
  have h5 : 2 ^ (shS k - 1) ≤ k - 1 := (hsp.2 hk).2
  refine ⟨?_, by omega, q2, by unfold shM; omega⟩
  rw [show shS k = (shS k - 1) + 1 by omega, Nat.pow_succ]; simp; omega
theorem rSh_fwd {B : List Bool} {a v k : Nat} (h1 : 1 ≤ k) (h2 : k ≤ 2 ^ 63) (hv : v < k) (h : Pre B a (bitsOf (shV v k) (shN v k).toNat)) : rSh B a k = (v, a + (shN v k).toNat, false) := by
  obtain ⟨q1, q2⟩ := shS_spec h1 h2
  by_cases h0 : shS k = 0
  · have hk : k = 1 := by rw [h0] at q2; simp at q2; omega
    subst hk
    have : v = 0 := by omega
    subst this
    unfold rSh
    rw [if_pos h0]
    have : shN 0 1 = 0 := by decide +kernel
    rw [this]; rfl
  obtain ⟨p1, p2, p3, p4⟩ := shM_lt h1 h2 h0
  unfold rSh
  rw [if_neg h0]
  unfold shV shN at h
  unfold shN
  by_cases hm : shM k ≤ v
  · rw [if_pos hm, if_pos hm, Int.toNat_natCast] at h
    rw [if_pos hm]
    have hb := bitsOf_succ (v + shM k) (shS k - 1)
    rw [show shS k - 1 + 1 = shS k by omega] at hb
    rw [hb, ← bits_one] at h
    obtain ⟨t1, t2, t3⟩ := tk_fwd (by omega) (by omega) h.left
    have h' := h.right
    rw [length_bitsOf] at h'
    obtain ⟨u1, u2, u3⟩ := tk_fwd (n := 1) (by decide) (by cases ((v + shM k).testBit 0) <;> decide) h'
    rw [t1, t2, t3]
    rw [if_pos (by omega)]
    rw [show ((1 : Nat) : Int) = 1 from rfl] at u1 u2 u3
    rw [u1, u2, u3]
    have hbit : ((v + shM k).testBit 0).toNat = (v + shM k) % 2 := by
      rw [Nat.testBit_zero]; rcases Nat.mod_two_eq_zero_or_one (v + shM k) with e | e <;> rw [e] <;> rfl
    rw [hbit, Int.toNat_natCast]
    refine Prod.ext ?_ (Prod.ext ?_ rfl)
    · show 2 * ((v + shM k) / 2) + (v + shM k) % 2 - shM k = v
      omega
    · show a + (shS k - 1) + 1 = a + shS k
      omega
  · rw [if_neg hm, if_neg hm, show ((shS k : Int) - 1).toNat = shS k - 1 by omega] at h
    rw [if_neg hm]
    obtain ⟨t1, t2, t3⟩ := tk_fwd (by omega) (by omega) h
    rw [t1, t2, t3, if_neg hm]
    rw [show ((shS k : Int) - 1).toNat = shS k - 1 by omega]
theorem rSh_bwd {B : List Bool} {a k : Nat} (ha : a ≤ B.length) (h1 : 1 ≤ k) (h2 : k ≤ 2 ^ 63) (h : (rSh B a k).2.2 = false) :
    ∃ v, v < k ∧ rSh B a k = (v, a + (shN v k).toNat, false) ∧ Pre B a (bitsOf (shV v k) (shN v k).toNat) := by
  obtain ⟨q1, q2⟩ := shS_spec h1 h2
  suffices hs : ∃ v, v < k ∧ (rSh B a k).1 = v ∧ Pre B a (bitsOf (shV v k) (shN v k).toNat) by
    obtain ⟨v, x1, x2, x3⟩ := hs
    exact ⟨v, x1, rSh_fwd h1 h2 x1 x3, x3⟩
  by_cases h0 : shS k = 0
  · have hk : k = 1 := by rw [h0] at q2; simp at q2; omega
    subst hk
    refine ⟨0, by omega, by unfold rSh; rw [if_pos h0], ?_⟩
    rw [show shN 0 1 = 0 by decide +kernel]
    exact Pre.nil ha
  obtain ⟨p1, p2, p3, p4⟩ := shM_lt h1 h2 h0
  unfold rSh at h ⊢
  rw [if_neg h0] at h ⊢
  by_cases hm : shM k ≤ takeVal B a (shS k - 1 : Nat)
  · rw [if_pos hm] at h ⊢
    simp only [Bool.or_eq_false_iff] at h
    obtain ⟨t1, t2, t3⟩ := tk_bwd (by omega) h.1
    have h' := h.2
    rw [t3] at h' ⊢
    have h'' : (takeCode B.length (a + (shS k - 1)) (1 : Nat) != 0) = false := h'
    obtain ⟨u1, u2, u3⟩ := tk_bwd (n := 1) (by decide) h''
    rw [show ((1 : Nat) : Int) = 1 from rfl] at u1 u2 u3
    obtain ⟨V, hV⟩ : ∃ V, V = takeVal B a (shS k - 1 : Nat) := ⟨_, rfl⟩
    obtain ⟨c, hc⟩ : ∃ c, c = takeVal B (a + (shS k - 1)) 1 := ⟨_, rfl⟩
    rw [← hV] at hm t1 t2 ⊢
    rw [← hc] at u1 u2 ⊢
    refine ⟨2 * V + c - shM k, by omega, rfl, ?_⟩
    have hm2 : shM k ≤ 2 * V + c - shM k := by omega
    unfold shV shN
    rw [if_pos hm2, if_pos hm2, Int.toNat_natCast]
    have hb := bitsOf_add (2 * V + c) (shS k - 1) 1
    rw [show shS k - 1 + 1 = shS k by omega] at hb
    rw [show 2 * V + c - shM k + shM k = 2 * V + c by omega, hb]
    rw [show (2 * V + c) / 2 ^ 1 = V by omega]
    have hb1 : bitsOf (2 * V + c) 1 = bitsOf c 1 := by
      have e1 := bitsOf_mod (2 * V + c) 1 1 (by decide)
      rw [← e1, show (2 * V + c) % 2 ^ 1 = c by omega]
    rw [hb1]
    refine t1.join ?_
    rw [length_bitsOf]
    exact u1
  · rw [if_neg hm] at h ⊢
    simp only at h ⊢
    obtain ⟨t1, t2, t3⟩ := tk_bwd (by omega) h
    refine ⟨_, by omega, rfl, ?_⟩
    unfold shV shN
    rw [if_neg hm, if_neg hm, show ((shS k : Int) - 1).toNat = shS k - 1 by omega]
    exact t1

theorem rSh_bd (B : List Bool) (a k : Nat) (h1 : 1 ≤ k) (h2 : k ≤ 2 ^ 63) : (rSh B a k).1 ≤ 9223372036854775808 := by
  obtain ⟨q1, q2⟩ := shS_spec h1 h2
  have e : (2 : Nat) ^ 63 = 9223372036854775808 := by decide
  have hp : 2 ^ shS k ≤ 2 ^ 63 := Nat.pow_le_pow_right (by decide) q1
  unfold rSh
  by_cases h0 : shS k = 0
  · rw [if_pos h0]; exact Nat.zero_le _
  · obtain ⟨p1, p2, p3, p4⟩ := shM_lt h1 h2 h0
    rw [if_neg h0]
    have l1 := takeVal_lt B a (shS k - 1)
    have l2 := takeVal_lt B (takeAt B.length a (shS k - 1 : Nat)) 1
    have l3 : takeVal B (takeAt B.length a (shS k - 1 : Nat)) 1 < 2 ^ 1 := l2
    split
    · simp only; omega
    · simp only; omega

/-- what 'number' reads -/
def rDel (B : List Bool) (g : Nat × Nat × Bool) : Nat × Nat × Bool :=
  if 47 < g.1 then (0, g.2.1, true) else (takeVal B g.2.1 (g.1 : Nat) + 2 ^ g.1 - 1, takeAt B.length g.2.1 (g.1 : Nat), g.2.2 || takeCode B.length g.2.1 (g.1 : Nat) != 0)
def zFr (K h : Nat) : Nat := 2 ^ (h * K)
def rZet (B : List Bool) (K : Nat) (z : Nat × Nat × Bool) : Nat × Nat × Bool :=
  ((rSh B z.2.1 (zFr K z.1 * 2 ^ K - zFr K z.1)).1 + zFr K z.1 - 1, (rSh B z.2.1 (zFr K z.1 * 2 ^ K - zFr K z.1)).2.1, z.2.2 || (rSh B z.2.1 (zFr K z.1 * 2 ^ K - zFr K z.1)).2.2)
def rd (B : List Bool) (a kd K : Nat) : Nat × Nat × Bool :=
  if kd = 0 then zr B a 0 65536 else if kd = 1 then gm B a 47 else if kd = 2 then rDel B (gm B a 5) else if kd = 3 then rZet B K (zr B a 0 (47 / K + 1)) else rSh B a K

/-- a number's bits -/
def zH (K v : Nat) : Nat := lo v / K
def zK (K v : Nat) : Nat := zFr K (zH K v) * 2 ^ K - zFr K (zH K v)
def zX (K v : Nat) : Nat := v + 1 - zFr K (zH K v)
def cb (kd K v : Nat) : List Bool :=
  if kd = 0 then List.replicate v false ++ [true] else if kd = 1 then gB v else if kd = 2 then gB (lo v) ++ bitsOf (rs v) (lo v) else
  if kd = 3 then List.replicate (zH K v) false ++ [true] ++ bitsOf (shV (zX K v) (zK K v)) (shN (zX K v) (zK K v)).toNat else bitsOf (shV v K) (shN v K).toNat
theorem zFr_pos (K h : Nat) : 1 ≤ zFr K h := Nat.one_le_two_pow
theorem z_bound {K h : Nat} (h1 : 1 ≤ K) (h2 : K ≤ 16) (hh : h ≤ 47 / K) : zFr K h ≤ 2 ^ 47 ∧ zFr K h * 2 ^ K = zFr K (h + 1) ∧ 1 ≤ zFr K h * 2 ^ K - zFr K h ∧ zFr K h * 2 ^ K - zFr K h ≤ 2 ^ 63 := by
  have e : h * K ≤ 47 := by
    have := Nat.div_mul_le_self 47 K
    exact Nat.le_trans (Nat.mul_le_mul_right K hh) this
  have e1 : zFr K h * 2 ^ K = zFr K (h + 1) := by
    unfold zFr; rw [← Nat.pow_add]; congr 1; rw [Nat.add_mul, Nat.one_mul]
  have e2 : zFr K (h + 1) ≤ 2 ^ 63 := by
    unfold zFr; exact Nat.pow_le_pow_right (by decide) (by rw [Nat.add_mul]; omega)
  have e3 : 2 ≤ 2 ^ K := by
    have : 2 ^ 1 ≤ 2 ^ K := Nat.pow_le_pow_right (by decide) h1
    omega
  have e4 : zFr K h * 2 ≤ zFr K h * 2 ^ K := Nat.mul_le_mul_left _ e3
  have e5 := zFr_pos K h
  refine ⟨?_, e1, by omega, by omega⟩
  unfold zFr; exact Nat.pow_le_pow_right (by decide) e
theorem z_of {K v : Nat} (h1 : 1 ≤ K) (h2 : K ≤ 16) (hv : v < 281474976710655) : zH K v ≤ 47 / K ∧ zFr K (zH K v) ≤ v + 1 ∧ v + 1 < zFr K (zH K v + 1) := by
  obtain ⟨q1, q2, q3, q4⟩ := lo_spec hv
  refine ⟨Nat.div_le_div_right q1, ?_, ?_⟩
  · refine Nat.le_trans ?_ q2
    unfold zFr zH
    exact Nat.pow_le_pow_right (by decide) (Nat.div_mul_le_self _ _)
  · have : 2 * 2 ^ lo v ≤ zFr K (zH K v + 1) := by
      unfold zFr zH
      rw [Nat.mul_comm, ← Nat.pow_succ]
      refine Nat.pow_le_pow_right (by decide) ?_
      have := Nat.lt_div_mul_add (a := lo v) (b := K) (by omega)
      rw [Nat.add_mul]; omega
    omega
theorem z_inv {K h x v : Nat} (h1 : 1 ≤ K) (h2 : K ≤ 16) (hh : h ≤ 47 / K) (hx : x < zFr K h * 2 ^ K - zFr K h) (hv : v = x + zFr K h - 1) (hv2 : v < 281474976710655) : zH K v = h ∧ zX K v = x := by
  obtain ⟨b1, b2, b3, b4⟩ := z_bound h1 h2 hh
  have p := zFr_pos K h
  have hH : zH K v = h := by
    obtain ⟨q1, q2, q3⟩ := z_of h1 h2 hv2
    have mono : ∀ i j : Nat, i ≤ j → zFr K i ≤ zFr K j := fun i j hij => by unfold zFr; exact Nat.pow_le_pow_right (by decide) (Nat.mul_le_mul_right K hij)
    rcases Nat.lt_trichotomy (zH K v) h with e | e | e
    · have := mono (zH K v + 1) h e; omega
    · exact e
    · have := mono (h + 1) (zH K v) e; omega
  refine ⟨hH, ?_⟩
  unfold zX; rw [hH]; omega
theorem cMay_spec {kd K v : Nat} (h : cMay kd K v = true) : (kd = 0 ∧ v ≤ 65535) ∨ (kd = 1 ∧ v < 281474976710655) ∨ (kd = 2 ∧ v < 281474976710655) ∨ (kd = 3 ∧ 1 ≤ K ∧ K ≤ 16 ∧ v < 281474976710655) ∨ (kd = 4 ∧ 1 ≤ K ∧ K ≤ 281474976710655 ∧ v < K) := by
  unfold cMay at h
  simp only [Bool.and_eq_true, decide_eq_true_eq] at h
  obtain ⟨h1, h2⟩ := h
  unfold cMost at h2
  rw [if_pos h1] at h2
  unfold cOk at h1
  simp only [Bool.or_eq_true, Bool.and_eq_true, decide_eq_true_eq] at h1
  rcases h1 with (⟨a, b⟩ | ⟨a, b, c⟩) | ⟨a, b, c⟩
  · by_cases e : kd = 0
    · subst e; simp at h2; exact .inl ⟨rfl, h2⟩
    · rw [if_neg e, if_neg (by omega)] at h2
      rcases (show kd = 1 ∨ kd = 2 by omega) with e | e
      · exact .inr (.inl ⟨e, by omega⟩)
      · exact .inr (.inr (.inl ⟨e, by omega⟩))
  · subst a; simp at h2; exact .inr (.inr (.inr (.inl ⟨rfl, b, c, by omega⟩)))
  · subst a; simp at h2; exact .inr (.inr (.inr (.inr ⟨rfl, b, c, by omega⟩)))
theorem lo_lo {v : Nat} (hv : v < 281474976710655) : lo (lo v) ≤ 5 := by
  obtain ⟨q1, _, _, _⟩ := lo_spec hv
  obtain ⟨p1, p2, p3, p4⟩ := lo_spec (v := lo v) (by omega)
  rcases Nat.lt_or_ge 5 (lo (lo v)) with h | h
  · have : 2 ^ 6 ≤ 2 ^ lo (lo v) := Nat.pow_le_pow_right (by decide) h
    omega
  · exact h

theorem rd_fwd {B : List Bool} {a kd K v : Nat} (hm : cMay kd K v = true) (h : Pre B a (cb kd K v)) : rd B a kd K = (v, a + (cb kd K v).length, false) := by
  unfold cb at h ⊢
  unfold rd
  rcases cMay_spec hm with ⟨rfl, hv⟩ | ⟨rfl, hv⟩ | ⟨rfl, hv⟩ | ⟨rfl, k1, k2, hv⟩ | ⟨rfl, k1, k2, hv⟩
  · simp only [if_true, List.length_append, List.length_replicate, List.length_cons, List.length_nil] at h ⊢
    rw [zr_fwd B v 65536 a 0 (by omega) h, Nat.zero_add]
    rfl
  · simp at h ⊢
    rw [gm_fwd hv (lo_spec hv).1 h, length_gB]
  · simp at h ⊢
    have hl := (lo_spec hv).1
    rw [gm_fwd (by omega) (lo_lo hv) h.left]
    have h2 := h.right
    rw [length_gB] at h2
    obtain ⟨t1, t2, t3⟩ := tk_fwd (by omega) (rs_lt hv) h2
    unfold rDel
    simp only
    rw [if_neg (by omega), t1, t2, t3, rs_add hv, length_gB, length_bitsOf]
    refine Prod.ext rfl (Prod.ext ?_ rfl)
    show a + (2 * lo (lo v) + 1) + lo v = a + (2 * lo (lo v) + 1 + lo v)
    omega
  · simp only [if_true, if_false, show ¬ (3 : Nat) = 0 by decide, show ¬ (3 : Nat) = 1 by decide, show ¬ (3 : Nat) = 2 by decide] at h ⊢
    obtain ⟨q1, q2, q3⟩ := z_of k1 k2 hv
    obtain ⟨b1, b2, b3, b4⟩ := z_bound k1 k2 q1
    rw [zr_fwd B (zH K v) (47 / K + 1) a 0 (by omega) h.left, Nat.zero_add]
    have h2 := h.right
    rw [List.length_append, List.length_replicate] at h2
    have hx : zX K v < zK K v := by unfold zX zK; omega
    have := rSh_fwd (k := zK K v) b3 b4 hx h2
    unfold rZet
    simp only
    rw [show zFr K (zH K v) * 2 ^ K - zFr K (zH K v) = zK K v from rfl]
    rw [show a + zH K v + 1 = a + (zH K v + [true].length) by simp; omega, this]
    simp only [List.length_append, List.length_replicate, length_bitsOf, Bool.or_false]
    refine Prod.ext ?_ (Prod.ext ?_ rfl)
    · show zX K v + zFr K (zH K v) - 1 = v
      unfold zX; omega
    · show _ + _ + _ = _ + _
      omega
  · simp at h ⊢
    rw [length_bitsOf]
    exact rSh_fwd k1 (by have e : (2 : Nat) ^ 63 = 9223372036854775808 := by decide
                         omega) hv h

theorem rd_bwd {B : List Bool} {a kd K : Nat} (ha : a ≤ B.length) (hok : cOk kd K = true) (h : (rd B a kd K).2.2 = false) (hm : (rd B a kd K).1 ≤ cMost kd K) :
    ∃ v, cMay kd K v = true ∧ rd B a kd K = (v, a + (cb kd K v).length, false) ∧ Pre B a (cb kd K v) := by
  suffices hs : ∃ v, v = (rd B a kd K).1 ∧ Pre B a (cb kd K v) by
    obtain ⟨v, x1, x2⟩ := hs
    have : cMay kd K v = true := by unfold cMay; rw [hok, x1]; simpa using hm
    exact ⟨v, this, rd_fwd this x2, x2⟩
  have hmay : cMay kd K (rd B a kd K).1 = true := by unfold cMay; rw [hok]; simpa using hm
  unfold cb
  rcases cMay_spec hmay with ⟨rfl, hv⟩ | ⟨rfl, hv⟩ | ⟨rfl, hv⟩ | ⟨rfl, k1, k2, hv⟩ | ⟨rfl, k1, k2, hv⟩
  · unfold rd at h ⊢
    simp only [if_true] at h ⊢
    obtain ⟨m, q1, q2, q3⟩ := zr_bwd B 65536 a 0 h
    rw [Nat.zero_add] at q2
    exact ⟨m, by rw [q2], q3⟩
  · unfold rd at h ⊢
    simp at h ⊢
    obtain ⟨v, q1, q2, q3, q4⟩ := gm_bwd (by decide) h
    rw [q3]
    exact q4
  · unfold rd at h hv ⊢
    simp at h hv ⊢
    have hg : (gm B a 5).2.2 = false := by
      unfold rDel at h; split at h
      · simp at h
      · simp only [Bool.or_eq_false_iff] at h; exact h.1
    obtain ⟨u, q1, q2, q3, q4⟩ := gm_bwd (by decide) hg
    rw [q3] at h hv ⊢
    unfold rDel at h hv ⊢
    simp only at h hv ⊢
    by_cases hu : 47 < u
    · rw [if_pos hu] at h; simp at h
    · rw [if_neg hu] at h hv ⊢
      simp only [Bool.false_or] at h hv ⊢
      obtain ⟨t1, t2, t3⟩ := tk_bwd (by omega) h
      obtain ⟨l1, l2⟩ := lo_of t2 (by omega) (v := takeVal B (a + (2 * lo u + 1)) u + 2 ^ u - 1) rfl
      rw [l1, l2]
      refine q4.join ?_
      rw [length_gB]
      exact t1
  · unfold rd at h hv ⊢
    simp only [if_true, if_false, show ¬ (3 : Nat) = 0 by decide, show ¬ (3 : Nat) = 1 by decide, show ¬ (3 : Nat) = 2 by decide] at h hv ⊢
    have hz : (zr B a 0 (47 / K + 1)).2.2 = false := by unfold rZet at h; simp only [Bool.or_eq_false_iff] at h; exact h.1
    obtain ⟨m, q1, q2, q3⟩ := zr_bwd B (47 / K + 1) a 0 hz
    rw [Nat.zero_add] at q2
    rw [q2] at h hv ⊢
    unfold rZet at h hv ⊢
    simp only [Bool.false_or] at h hv ⊢
    obtain ⟨b1, b2, b3, b4⟩ := z_bound k1 k2 (show m ≤ 47 / K by omega)
    have hl := q3.len
    rw [List.length_append, List.length_replicate] at hl
    obtain ⟨x, x1, x2, x3⟩ := rSh_bwd (by exact hl) b3 b4 h
    rw [x2] at hv ⊢
    simp only at hv ⊢
    obtain ⟨i1, i2⟩ := z_inv k1 k2 (show m ≤ 47 / K by omega) x1 rfl hv
    refine ⟨_, rfl, ?_⟩
    unfold zK
    rw [i1, i2]
    refine q3.join ?_
    rw [List.length_append, List.length_replicate]
    exact x3
  · unfold rd at h ⊢
    simp at h ⊢
    obtain ⟨v, q1, q2, q3⟩ := rSh_bwd ha k1 (by have e : (2 : Nat) ^ 63 = 9223372036854775808 := by decide
                                                omega) h
    rw [q2]
    exact q3
end Go.Proofs.Ytmgngmnkmmhckaa
