/-
  Plain facts on bits, bytes and numbers. Nothing of the program.
-/
namespace Go.Proofs.Ytmgngmnkmmhckaa.Plain

theorem snoc_ind {α : Type} {P : List α → Prop} (h0 : P []) (h1 : ∀ l b, P l → P (l ++ [b])) : ∀ l, P l := by
  intro l
  have h : ∀ r : List α, P r.reverse := by
    intro r
    induction r with
    | nil => simpa using h0
    | cons b r ih => rw [List.reverse_cons]; exact h1 _ _ ih
  simpa using h l.reverse

/-- bits as a number, the first the highest -/
def num (l : List Bool) : Nat := l.foldl (fun a b => 2 * a + b.toNat) 0

theorem num_nil : num [] = 0 := rfl
theorem num_snoc (l : List Bool) (b : Bool) : num (l ++ [b]) = 2 * num l + b.toNat := by simp [num]

theorem num_lt (l : List Bool) : num l < 2 ^ l.length := by
  refine snoc_ind (P := fun l => num l < 2 ^ l.length) (by simp [num]) ?_ l
  intro l b ih
  rw [num_snoc, List.length_append, List.length_singleton, Nat.pow_succ]
  cases b <;> simp <;> omega

theorem testBit_num (l : List Bool) : ∀ i : Nat, (num l).testBit i = (decide (i < l.length) && l.getD (l.length - 1 - i) false) := by
  refine snoc_ind (P := fun l => ∀ i : Nat, (num l).testBit i = (decide (i < l.length) && l.getD (l.length - 1 - i) false)) (by simp [num]) ?_ l
  intro l b ih i
  rw [num_snoc]
  cases i with
  | zero => cases b <;> simp <;> omega
  | succ i =>
    rw [Nat.testBit_succ]
    have : (2 * num l + b.toNat) / 2 = num l := by cases b <;> simp <;> omega
    rw [this, ih]
    simp
    by_cases h : i < l.length
    · simp [h]
      rw [List.getElem?_append_left (by omega)]
      congr 2
      omega
    · simp [h]

/-- a number in so many bits -/
def bitsOf (v n : Nat) : List Bool := (List.range n).map fun i => v.testBit (n - 1 - i)

theorem length_bitsOf (v n : Nat) : (bitsOf v n).length = n := by simp [bitsOf]
theorem getD_bitsOf (v n i : Nat) : (bitsOf v n).getD i false = (decide (i < n) && v.testBit (n - 1 - i)) := by
  by_cases h : i < n
  · simp [bitsOf, h]
  · simp [bitsOf, h]

theorem ext_getD {l m : List Bool} (hl : l.length = m.length) (h : ∀ i, i < l.length → l.getD i false = m.getD i false) : l = m := by
  refine List.ext_getElem hl fun i h1 h2 => ?_
  have := h i h1
  simpa [List.getD, List.getElem?_eq_getElem h1, List.getElem?_eq_getElem h2] using this

theorem getD_append (l m : List Bool) (i : Nat) : (l ++ m).getD i false = if i < l.length then l.getD i false else m.getD (i - l.length) false := by
  by_cases h : i < l.length
  · rw [if_pos h]; simp [List.getElem?_append_left h]
  · rw [if_neg h]; simp [List.getElem?_append_right (Nat.le_of_not_lt h)]

theorem num_bitsOf (v n : Nat) : num (bitsOf v n) = v % 2 ^ n := by
  apply Nat.eq_of_testBit_eq
  intro i
  rw [testBit_num, length_bitsOf, getD_bitsOf, Nat.testBit_mod_two_pow]
  by_cases h : i < n
  · simp only [h, decide_true, Bool.true_and]
    have : n - 1 - (n - 1 - i) = i := by omega
    rw [this]
    simp
    intro _; omega
  · simp [h]

theorem bitsOf_num (l : List Bool) : bitsOf (num l) l.length = l := by
  refine ext_getD (length_bitsOf _ _) fun i hi => ?_
  rw [length_bitsOf] at hi
  rw [getD_bitsOf, testBit_num]
  have h1 : l.length - 1 - i < l.length := by omega
  have h2 : l.length - 1 - (l.length - 1 - i) = i := by omega
  simp [hi, h1, h2]

theorem bitsOf_add (v a b : Nat) : bitsOf v (a + b) = bitsOf (v / 2 ^ b) a ++ bitsOf v b := by
  refine ext_getD (by simp [length_bitsOf]) fun i hi => ?_
  rw [length_bitsOf] at hi
  rw [getD_append, length_bitsOf, getD_bitsOf, getD_bitsOf, getD_bitsOf]
  by_cases h : i < a
  · simp only [hi, h, if_true, decide_true, Bool.true_and]
    rw [Nat.testBit_div_two_pow]
    congr 1; omega
  · have h2 : i - a < b := by omega
    simp only [hi, h, h2, if_false, decide_true, Bool.true_and]
    congr 1; omega

theorem bitsOf_mod (v m n : Nat) (h : n ≤ m) : bitsOf (v % 2 ^ m) n = bitsOf v n := by
  refine ext_getD (by simp [length_bitsOf]) fun i hi => ?_
  rw [length_bitsOf] at hi
  rw [getD_bitsOf, getD_bitsOf, Nat.testBit_mod_two_pow]
  have : n - 1 - i < m := by omega
  simp [this]

theorem bitsOf_zero (v : Nat) : bitsOf v 0 = [] := rfl

theorem bitsOf_succ (v n : Nat) : bitsOf v (n + 1) = bitsOf (v / 2) n ++ [v.testBit 0] := by
  rw [bitsOf_add v n 1]; simp [bitsOf]
theorem bitsOf_succ' (v n : Nat) : bitsOf v (n + 1) = v.testBit n :: bitsOf v n := by
  rw [Nat.add_comm, bitsOf_add v 1 n]
  simp [bitsOf, Nat.testBit_eq_decide_div_mod_eq]

theorem num_append (l m : List Bool) : num (l ++ m) = num l * 2 ^ m.length + num m := by
  refine snoc_ind (P := fun m => num (l ++ m) = num l * 2 ^ m.length + num m) (by simp [num]) ?_ m
  intro m b ih
  rw [← List.append_assoc, num_snoc, ih, num_snoc, List.length_append, List.length_singleton, Nat.pow_succ, ← Nat.mul_assoc]
  omega

theorem num_inj {l m : List Bool} (h : l.length = m.length) (e : num l = num m) : l = m := by
  rw [← bitsOf_num l, ← bitsOf_num m, e, h]

/-- the bits of bytes -/
def bytesBits (s : List Nat) : List Bool := s.flatMap fun x => bitsOf x 8

theorem bytesBits_nil : bytesBits [] = [] := rfl
theorem bytesBits_cons (x : Nat) (s : List Nat) : bytesBits (x :: s) = bitsOf x 8 ++ bytesBits s := by simp [bytesBits]
theorem bytesBits_append (s t : List Nat) : bytesBits (s ++ t) = bytesBits s ++ bytesBits t := by simp [bytesBits]
theorem length_bytesBits (s : List Nat) : (bytesBits s).length = 8 * s.length := by
  induction s with
  | nil => rfl
  | cons x s ih => rw [bytesBits_cons, List.length_append, length_bitsOf, ih, List.length_cons]; omega

theorem getD_bytesBits (s : List Nat) : ∀ i, (bytesBits s).getD i false = (decide (i < 8 * s.length) && (s.getD (i / 8) 0).testBit (7 - i % 8)) := by
  induction s with
  | nil => intro i; simp [bytesBits]
  | cons x s ih =>
    intro i
    rw [bytesBits_cons, getD_append, length_bitsOf, getD_bitsOf, List.length_cons]
    by_cases h : i < 8
    · have h1 : i / 8 = 0 := by omega
      have h2 : i % 8 = i := by omega
      have h3 : i < 8 * (s.length + 1) := by omega
      simp [h, h1, h2, h3]
    · rw [if_neg h, ih]
      obtain ⟨j, rfl⟩ : ∃ j, i = j + 8 := ⟨i - 8, by omega⟩
      have h1 : (j + 8) / 8 = j / 8 + 1 := by omega
      have h2 : (j + 8) % 8 = j % 8 := by omega
      have h3 : j + 8 - 8 = j := by omega
      rw [h1, h2, h3]
      have h4 : (j + 8 < 8 * (s.length + 1)) = (j < 8 * s.length) := by apply propext; omega
      simp [h4]

/-- bits as bytes -/
def pk (l : List Bool) : List Nat := (List.range ((l.length + 7) / 8)).map fun k => num ((List.range 8).map fun j => l.getD (8 * k + j) false)

theorem length_pk (l : List Bool) : (pk l).length = (l.length + 7) / 8 := by simp [pk]
theorem pk_nil : pk [] = [] := rfl
theorem getD_pk (l : List Bool) (k : Nat) (hk : k < (l.length + 7) / 8) : (pk l).getD k 0 = num ((List.range 8).map fun j => l.getD (8 * k + j) false) := by
  simp [pk, hk]
theorem pk_lt (l : List Bool) (k : Nat) : (pk l).getD k 0 < 256 := by
  by_cases hk : k < (l.length + 7) / 8
  · rw [getD_pk l k hk]
    have := num_lt ((List.range 8).map fun j => l.getD (8 * k + j) false)
    simpa using this
  · have : (pk l)[k]? = none := List.getElem?_eq_none (by rw [length_pk]; omega)
    simp [List.getD, this]
theorem testBit_pk (l : List Bool) (k j : Nat) (hk : k < (l.length + 7) / 8) (hj : j < 8) : ((pk l).getD k 0).testBit j = l.getD (8 * k + (7 - j)) false := by
  rw [getD_pk l k hk, testBit_num]
  have h : 7 - j < 8 := by omega
  simp only [List.length_map, List.length_range, hj, decide_true, Bool.true_and]
  have h2 : 8 - 1 - j = 7 - j := by omega
  rw [h2]
  simp [List.getElem?_map, List.getElem?_range h]

theorem eq_of_testBits {x y : Nat} (hx : x < 256) (hy : y < 256) (h : ∀ j, j < 8 → x.testBit j = y.testBit j) : x = y := by
  apply Nat.eq_of_testBit_eq
  intro j
  by_cases hj : j < 8
  · exact h j hj
  · have e : 256 ≤ 2 ^ j := by
      have : 2 ^ 8 ≤ 2 ^ j := Nat.pow_le_pow_right (by decide) (by omega)
      simpa using this
    rw [Nat.testBit_lt_two_pow (by omega), Nat.testBit_lt_two_pow (by omega)]

theorem eq_pk {b : List Nat} {l : List Bool} (hl : b.length = (l.length + 7) / 8) (hb : ∀ k, k < b.length → b.getD k 0 < 256)
    (h : ∀ k j, k < b.length → j < 8 → (b.getD k 0).testBit j = l.getD (8 * k + (7 - j)) false) : b = pk l := by
  refine List.ext_getElem (by rw [length_pk, hl]) fun k h1 h2 => ?_
  have e1 : b[k] = b.getD k 0 := by simp [List.getD, List.getElem?_eq_getElem h1]
  have e2 : (pk l)[k] = (pk l).getD k 0 := by simp [List.getD, List.getElem?_eq_getElem h2]
  rw [e1, e2]
  refine eq_of_testBits (hb k h1) (pk_lt l k) fun j hj => ?_
  rw [h k j h1 hj, testBit_pk l k j (by omega) hj]

theorem bytesBits_pk (l : List Bool) : bytesBits (pk l) = l ++ List.replicate (8 * ((l.length + 7) / 8) - l.length) false := by
  refine ext_getD (by rw [length_bytesBits, length_pk, List.length_append, List.length_replicate]; omega) fun i hi => ?_
  rw [length_bytesBits, length_pk] at hi
  rw [getD_bytesBits, length_pk, testBit_pk l (i / 8) (7 - i % 8) (by omega) (by omega), getD_append]
  have e : 8 * (i / 8) + (7 - (7 - i % 8)) = i := by omega
  rw [e]
  simp only [hi, decide_true, Bool.true_and]
  by_cases h : i < l.length
  · rw [if_pos h]
  · rw [if_neg h]
    have h1 : l[i]? = none := List.getElem?_eq_none (by omega)
    simp only [List.getD, h1, Option.getD_none, List.getElem?_replicate]
    split <;> rfl

theorem pk_bytesBits (s : List Nat) (hs : ∀ k, k < s.length → s.getD k 0 < 256) : pk (bytesBits s) = s := by
  refine (eq_pk (by rw [length_bytesBits]; omega) hs ?_).symm
  intro k j hk hj
  rw [getD_bytesBits]
  have h1 : 8 * k + (7 - j) < 8 * s.length := by omega
  have h2 : (8 * k + (7 - j)) / 8 = k := by omega
  have h3 : (8 * k + (7 - j)) % 8 = 7 - j := by omega
  have h4 : 7 - (7 - j) = j := by omega
  simp [h1, h2, h3, h4]

theorem getD_out (l : List Bool) (i : Nat) (h : l.length ≤ i) : l.getD i false = false := by
  have : l[i]? = none := List.getElem?_eq_none h
  simp [List.getD, this]

/-- room for a bit more -/
theorem pk_room0 (l : List Bool) (h : l.length % 8 = 0) : pk l ++ [0] = pk (l ++ [false]) := by
  have hlen : (pk l).length = l.length / 8 := by rw [length_pk]; omega
  refine eq_pk (by rw [List.length_append, List.length_append, hlen]; simp; omega) ?_ ?_
  · intro k _
    by_cases hk : k < (pk l).length
    · have := pk_lt l k
      simpa [List.getD, List.getElem?_append_left hk] using this
    · simp [List.getD, List.getElem?_append_right (Nat.le_of_not_lt hk)]
      cases h2 : ([0] : List Nat)[k - (pk l).length]? with
      | none => simp
      | some v => have := List.mem_of_getElem? h2; simp at this; simp [this]
  · intro k j hk hj
    rw [List.length_append, hlen] at hk
    simp only [List.length_singleton] at hk
    rw [getD_append]
    by_cases hk2 : k < l.length / 8
    · rw [if_pos (by omega), ← testBit_pk l k j (by omega) hj]
      have : k < (pk l).length := by omega
      simp [List.getD, List.getElem?_append_left this]
    · have e : k = (pk l).length := by omega
      rw [if_neg (by omega)]
      subst e
      simp
      cases h3 : ([false] : List Bool)[8 * (pk l).length + (7 - j) - l.length]? with
      | none => simp
      | some v => have := List.mem_of_getElem? h3; simp at this; simp [this]
theorem pk_room (l : List Bool) (h : l.length % 8 ≠ 0) : pk l = pk (l ++ [false]) := by
  refine eq_pk (by rw [length_pk, List.length_append]; simp; omega) (fun k _ => pk_lt l k) ?_
  intro k j hk hj
  rw [length_pk] at hk
  rw [testBit_pk l k j hk hj, getD_append]
  by_cases h2 : 8 * k + (7 - j) < l.length
  · rw [if_pos h2]
  · rw [if_neg h2, getD_out l _ (by omega)]
    cases h3 : ([false] : List Bool)[8 * k + (7 - j) - l.length]? with
    | none => simp [List.getD, h3]
    | some v => have := List.mem_of_getElem? h3; simp at this; simp [List.getD, h3, this]

theorem testBit_shl (q s j : Nat) : (q * 2 ^ s).testBit j = (decide (s ≤ j) && q.testBit (j - s)) := by
  rw [Nat.testBit_mul_two_pow]

/-- a piece put into the last byte -/
theorem pk_step (l : List Bool) (r T q : Nat) (hr : l.length % 8 = r) (hT0 : 0 < T) (hT : T ≤ 8 - r) (hq : q < 2 ^ T) :
    (pk (l ++ [false])).set (l.length / 8) ((pk (l ++ [false])).getD (l.length / 8) 0 ||| q * 2 ^ (8 - r - T)) = pk (l ++ bitsOf q T) := by
  have hl1 : (pk (l ++ [false])).length = l.length / 8 + 1 := by rw [length_pk, List.length_append]; simp; omega
  have hqs : q * 2 ^ (8 - r - T) < 256 := by
    have h1 : q * 2 ^ (8 - r - T) < 2 ^ T * 2 ^ (8 - r - T) := Nat.mul_lt_mul_of_pos_right hq (Nat.pow_pos (by decide))
    rw [← Nat.pow_add] at h1
    have h2 : 2 ^ (T + (8 - r - T)) ≤ 2 ^ 8 := Nat.pow_le_pow_right (by decide) (by omega)
    have h3 : (2 : Nat) ^ 8 = 256 := by decide
    omega
  have hmlt : l.length / 8 < (pk (l ++ [false])).length := by omega
  have hgm : ((pk (l ++ [false])).set (l.length / 8) ((pk (l ++ [false])).getD (l.length / 8) 0 ||| q * 2 ^ (8 - r - T))).getD (l.length / 8) 0 = ((pk (l ++ [false])).getD (l.length / 8) 0 ||| q * 2 ^ (8 - r - T)) := by
    simp [List.getD, hmlt]
  have hgo : ∀ k, k ≠ l.length / 8 → ((pk (l ++ [false])).set (l.length / 8) ((pk (l ++ [false])).getD (l.length / 8) 0 ||| q * 2 ^ (8 - r - T))).getD k 0 = (pk (l ++ [false])).getD k 0 := by
    intro k hk
    simp [List.getD, Ne.symm hk]
  refine eq_pk (by rw [List.length_set, hl1, List.length_append, length_bitsOf]; omega) ?_ ?_
  · intro k _
    by_cases hk : k = l.length / 8
    · subst hk
      rw [hgm]
      have := pk_lt (l ++ [false]) (l.length / 8)
      exact Nat.or_lt_two_pow (n := 8) this hqs
    · rw [hgo k hk]; exact pk_lt _ _
  · intro k j hk hj
    rw [List.length_set, hl1] at hk
    by_cases hkm : k = l.length / 8
    · rw [hkm, hgm, Nat.testBit_or, testBit_pk _ _ _ (by rw [List.length_append]; simp; omega) hj, testBit_shl, getD_append, getD_append, getD_bitsOf]
      by_cases h1 : 8 * (l.length / 8) + (7 - j) < l.length
      · simp only [h1, if_true]
        have h2 : ¬ (8 - r - T ≤ j ∧ j - (8 - r - T) < T) := by omega
        have h3 : (decide (8 - r - T ≤ j) && q.testBit (j - (8 - r - T))) = false := by
          by_cases h4 : 8 - r - T ≤ j
          · have h5 : ¬ j - (8 - r - T) < T := by omega
            have : q < 2 ^ (j - (8 - r - T)) := Nat.lt_of_lt_of_le hq (Nat.pow_le_pow_right (by decide) (by omega))
            simp [h4, Nat.testBit_lt_two_pow this]
          · simp [h4]
        rw [h3]; simp
      · simp only [h1, if_false]
        have h6 : ([false] : List Bool).getD (8 * (l.length / 8) + (7 - j) - l.length) false = false := by
          cases h3 : ([false] : List Bool)[8 * (l.length / 8) + (7 - j) - l.length]? with
          | none => simp [List.getD, h3]
          | some v => have := List.mem_of_getElem? h3; simp at this; simp [List.getD, h3, this]
        rw [h6, Bool.false_or]
        by_cases h4 : 8 - r - T ≤ j
        · have h5 : 8 * (l.length / 8) + (7 - j) - l.length < T := by omega
          have h7 : T - 1 - (8 * (l.length / 8) + (7 - j) - l.length) = j - (8 - r - T) := by omega
          simp [h4, h5, h7]
        · have h5 : ¬ 8 * (l.length / 8) + (7 - j) - l.length < T := by omega
          simp [h4, h5]
    · rw [hgo k hkm, testBit_pk _ _ _ (by rw [List.length_append]; simp; omega) hj, getD_append, getD_append, if_pos (by omega), if_pos (by omega)]
end Go.Proofs.Ytmgngmnkmmhckaa.Plain
