/-
  A node's bytes read again, plain: what Decode reckons.
-/
import Derived.Test.YtpggicaphejjfaaPEnc
set_option linter.unusedVariables false
namespace Go.Proofs.Ytpggicaphejjfaa
open Go.RowKit

def mkB (l : List UInt8) : ByteArray := ⟨l.toArray⟩
theorem mkB_data (l : List UInt8) : (mkB l).data.toList = l := by simp [mkB]
theorem mkB_size (l : List UInt8) : (mkB l).size = l.length := by simp [mkB, ByteArray.size]
theorem mkB_of (s : ByteArray) : mkB s.data.toList = s := by cases s; simp [mkB]
/-- 'text': is it bad behind it; what it takes; what stays -/
def tB (n : Nat) (b : Bool) (r : List UInt8) : Bool := b || decide (r.length < n)
def tT (n : Nat) (b : Bool) (r : List UInt8) : List UInt8 := if tB n b r = true then [] else r.take n
def tR (n : Nat) (b : Bool) (r : List UInt8) : List UInt8 := if tB n b r = true then r else r.drop n
/-- the number of some bytes -/
def valL : List UInt8 → Nat → Nat
  | [], a => a
  | x :: r, a => valL r (a * 256 + x.toNat)
def val (l : List UInt8) : Nat := valL l 0
theorem tB_yes {a b : List UInt8} : tB a.length false (a ++ b) = false := by simp [tB]
theorem tT_yes {a b : List UInt8} : tT a.length false (a ++ b) = a := by simp [tT, tB_yes]
theorem tR_yes {a b : List UInt8} : tR a.length false (a ++ b) = b := by simp [tR, tB_yes]
theorem valL_append (l m : List UInt8) (a : Nat) : valL (l ++ m) a = valL m (valL l a) := by
  induction l generalizing a with
  | nil => rfl
  | cons x r ih => exact ih _
theorem val_be1 {v : Nat} (h : v < 256) : val (be 1 v) = v := by
  simp only [val, valL, be, UInt8.toNat_ofNat', Nat.reducePow, Nat.pow_zero, Nat.div_one]
  omega
theorem val_be2 {v : Nat} (h : v < 65536) : val (be 2 v) = v := by
  simp only [val, valL, be, UInt8.toNat_ofNat', Nat.reducePow, Nat.pow_zero, Nat.div_one]
  omega
theorem val_be4 {v : Nat} (h : v < 4294967296) : val (be 4 v) = v := by
  simp only [val, valL, be, UInt8.toNat_ofNat', Nat.reducePow, Nat.pow_zero, Nat.div_one]
  omega
theorem valL_lt : ∀ (l : List UInt8) (a k : Nat), a < 256 ^ k → valL l a < 256 ^ (k + l.length)
  | [], a, k, h => h
  | x :: r, a, k, h => by
    have hx := x.toNat_lt
    have := valL_lt r (a * 256 + x.toNat) (k + 1) (by rw [Nat.pow_succ]; omega)
    show valL r (a * 256 + x.toNat) < _
    rw [show k + (x :: r).length = k + 1 + r.length by simp; omega]
    exact this
theorem val_lt (l : List UInt8) : val l < 256 ^ l.length := by have := valL_lt l 0 0 (by decide); rwa [Nat.zero_add] at this
theorem length_tT (n : Nat) (b : Bool) (r : List UInt8) : (tT n b r).length ≤ n ∧ (tT n b r).length ≤ r.length := by
  unfold tT
  split
  · simp
  · simp only [List.length_take]; omega
theorem length_tR (n : Nat) (b : Bool) (r : List UInt8) : (tR n b r).length ≤ r.length := by
  unfold tR
  split
  · exact Nat.le_refl _
  · simp
/-- what has been read so far -/
structure PS where
  keys : List ByteArray
  vals : List ByteArray
  kids : List Nat
  b : Bool
  r : List UInt8
/-- one entry more -/
def stepL (p : PS) : PS :=
  let b1 := tB 1 p.b p.r
  let r1 := tR 1 p.b p.r
  let k := val (tT 1 p.b p.r)
  let b2 := tB 2 b1 r1
  let r2 := tR 2 b1 r1
  let v := val (tT 2 b1 r1)
  let b3 := tB k b2 r2
  let r3 := tR k b2 r2
  ⟨p.keys ++ [mkB (tT k b2 r2)], p.vals ++ [mkB (tT v b3 r3)], p.kids, tB v b3 r3, tR v b3 r3⟩
def stepB (p : PS) : PS :=
  let b1 := tB 1 p.b p.r
  let r1 := tR 1 p.b p.r
  let k := val (tT 1 p.b p.r)
  let b3 := tB k b1 r1
  let r3 := tR k b1 r1
  ⟨p.keys ++ [mkB (tT k b1 r1)], p.vals, p.kids ++ [val (tT 4 b3 r3)], tB 4 b3 r3, tR 4 b3 r3⟩
def step (leaf : Bool) (p : PS) : PS := if leaf = true then stepL p else stepB p
def iter (leaf : Bool) (p : PS) : Nat → PS
  | 0 => p
  | k + 1 => step leaf (iter leaf p k)
def kindOf (s : List UInt8) : Nat := val (tT 1 false s)
def start (s : List UInt8) : Bool × Nat × PS :=
  let b1 := tB 1 false s
  let r1 := tR 1 false s
  let leaf := decide (kindOf s = 1)
  let c := val (tT 2 b1 r1)
  let b2 := tB 2 b1 r1
  let r2 := tR 2 b1 r1
  if leaf = true then (leaf, c, ⟨[], [], [], b2, r2⟩) else (leaf, c, ⟨[], [], [val (tT 4 b2 r2)], tB 4 b2 r2, tR 4 b2 r2⟩)

/-! what was written is read -/
theorem take_snoc {α : Type} (d : α) (l : List α) {k : Nat} (h : k < l.length) : l.take (k + 1) = l.take k ++ [l.getD k d] := by
  rw [List.take_add_one, List.getElem?_eq_getElem h]
  simp [List.getD, List.getElem?_eq_getElem h]
theorem stepL_enc {n : Nd} {m k : Nat} (h : CheckN n m) (hl : n.leaf = true) (hk : k < n.keys.length) (t : List UInt8) (p : PS) (hb : p.b = false) (hr : p.r = entN n k ++ t) :
    stepL p = ⟨p.keys ++ [n.keys.getD k ⟨#[]⟩], p.vals ++ [n.vals.getD k ⟨#[]⟩], p.kids, false, t⟩ := by
  have h1 := (h.1.1 k hk).2.1
  have h2 := ((h.2.1 hl).2.2 k (by rw [(h.2.1 hl).1]; exact hk)).1
  obtain ⟨x, hx⟩ : ∃ x, x = n.keys.getD k ⟨#[]⟩ := ⟨_, rfl⟩
  obtain ⟨y, hy⟩ : ∃ y, y = n.vals.getD k ⟨#[]⟩ := ⟨_, rfl⟩
  rw [← hx] at h1
  rw [← hy] at h2
  have he : p.r = be 1 x.size ++ (be 2 y.size ++ (x.data.toList ++ (y.data.toList ++ t))) := by
    rw [hr]
    unfold entN
    simp only [hl, if_true, ← hx, ← hy, List.append_assoc]
  have a1 : tB 1 p.b p.r = false ∧ tT 1 p.b p.r = be 1 x.size ∧ tR 1 p.b p.r = be 2 y.size ++ (x.data.toList ++ (y.data.toList ++ t)) := by
    rw [hb, he]
    exact ⟨tB_yes (a := be 1 x.size), tT_yes (a := be 1 x.size), tR_yes (a := be 1 x.size)⟩
  have a2 : ∀ u, tB 2 false (be 2 y.size ++ u) = false ∧ tT 2 false (be 2 y.size ++ u) = be 2 y.size ∧ tR 2 false (be 2 y.size ++ u) = u := fun u =>
    ⟨tB_yes (a := be 2 y.size), tT_yes (a := be 2 y.size), tR_yes (a := be 2 y.size)⟩
  have a3 : ∀ (z : ByteArray) u, tB z.size false (z.data.toList ++ u) = false ∧ tT z.size false (z.data.toList ++ u) = z.data.toList ∧ tR z.size false (z.data.toList ++ u) = u := fun z u => by
    rw [← length_data]
    exact ⟨tB_yes, tT_yes, tR_yes⟩
  unfold stepL
  simp only [a1.1, a1.2.1, a1.2.2, val_be1 (show x.size < 256 by omega), (a2 _).1, (a2 _).2.1, (a2 _).2.2, val_be2 (show y.size < 65536 by omega), (a3 _ _).1, (a3 _ _).2.1, (a3 _ _).2.2, mkB_of]
  rw [hx, hy]
theorem stepB_enc {n : Nd} {m k : Nat} (h : CheckN n m) (hl : n.leaf = false) (hk : k < n.keys.length) (hu : ∀ i, n.kids.getD i 0 < 4294967296) (t : List UInt8) (p : PS) (hb : p.b = false) (hr : p.r = entN n k ++ t) :
    stepB p = ⟨p.keys ++ [n.keys.getD k ⟨#[]⟩], p.vals, p.kids ++ [n.kids.getD (k + 1) 0], false, t⟩ := by
  have h1 := (h.1.1 k hk).2.1
  obtain ⟨x, hx⟩ : ∃ x, x = n.keys.getD k ⟨#[]⟩ := ⟨_, rfl⟩
  have hy := hu (k + 1)
  obtain ⟨y, hye⟩ : ∃ y, y = n.kids.getD (k + 1) 0 := ⟨_, rfl⟩
  rw [← hx] at h1
  rw [← hye] at hy
  have he : p.r = be 1 x.size ++ (x.data.toList ++ (be 4 y ++ t)) := by
    rw [hr]
    unfold entN
    simp only [hl, Bool.false_eq_true, if_false, ← hx, ← hye, List.append_assoc]
  have a1 : tB 1 p.b p.r = false ∧ tT 1 p.b p.r = be 1 x.size ∧ tR 1 p.b p.r = x.data.toList ++ (be 4 y ++ t) := by
    rw [hb, he]
    exact ⟨tB_yes (a := be 1 x.size), tT_yes (a := be 1 x.size), tR_yes (a := be 1 x.size)⟩
  have a2 : ∀ u, tB 4 false (be 4 y ++ u) = false ∧ tT 4 false (be 4 y ++ u) = be 4 y ∧ tR 4 false (be 4 y ++ u) = u := fun u =>
    ⟨tB_yes (a := be 4 y), tT_yes (a := be 4 y), tR_yes (a := be 4 y)⟩
  have a3 : ∀ (z : ByteArray) u, tB z.size false (z.data.toList ++ u) = false ∧ tT z.size false (z.data.toList ++ u) = z.data.toList ∧ tR z.size false (z.data.toList ++ u) = u := fun z u => by
    rw [← length_data]
    exact ⟨tB_yes, tT_yes, tR_yes⟩
  unfold stepB
  simp only [a1.1, a1.2.1, a1.2.2, val_be1 (show x.size < 256 by omega), (a2 _).1, (a2 _).2.1, (a2 _).2.2, val_be4 hy, (a3 _ _).1, (a3 _ _).2.1, (a3 _ _).2.2, mkB_of]
  rw [hx, hye]
/-- the entries from the k-th on -/
def entsR (n : Nd) : Nat → Nat → List UInt8
  | _, 0 => []
  | k, j + 1 => entN n k ++ entsR n (k + 1) j
theorem entsN_split (n : Nd) : ∀ j k, entsN n (k + j) = entsN n k ++ entsR n k j
  | 0, k => by simp [entsR]
  | j + 1, k => by
    have := entsN_split n j (k + 1)
    rw [show k + (j + 1) = k + 1 + j by omega, this]
    show (entsN n k ++ entN n k) ++ _ = _
    simp [entsR]
theorem keys_small {n : Nd} {m : Nat} (h : CheckN n m) (hm : m ≤ 4096) : n.keys.length ≤ 4096 := by
  have h1 := h.1.2
  have h2 : ∀ b, b * n.keys.length ≤ szs n.keys b n.keys.length := fun b => by
    have : ∀ k, b * k ≤ szs n.keys b k := by
      intro k
      induction k with
      | zero => exact Nat.le_refl _
      | succ k ih =>
        show _ ≤ szs n.keys b k + ((n.keys.getD k ⟨#[]⟩).size + b)
        rw [Nat.mul_succ]
        omega
    exact this _
  have h3 := h2 3
  have h4 := h2 1
  unfold bytesN at h1
  split at h1 <;> omega
theorem start_enc {n : Nd} {m : Nat} (h : CheckN n m) (hm : m ≤ 4096) (hu : ∀ i, n.kids.getD i 0 < 4294967296) :
    ∃ z, kindOf (encN n m) = (if n.leaf = true then 1 else 2) ∧ start (encN n m) = (n.leaf, n.keys.length, ⟨[], [], if n.leaf = true then [] else [n.kids.getD 0 0], false, entsR n 0 n.keys.length ++ z⟩) := by
  have hk := keys_small h hm
  refine ⟨List.replicate (m - (bodyN n).length) 0, ?_⟩
  have hents : entsN n n.keys.length = entsR n 0 n.keys.length := by
    have := entsN_split n n.keys.length 0
    rw [Nat.zero_add] at this
    rw [this]
    rfl
  cases hl : n.leaf with
  | true =>
    have he : encN n m = be 1 1 ++ (be 2 n.keys.length ++ (entsR n 0 n.keys.length ++ List.replicate (m - (bodyN n).length) 0)) := by
      unfold encN bodyN
      rw [hents]
      unfold headN
      simp only [hl, if_true, List.append_assoc, List.append_nil, List.cons_append]
      rfl
    rw [he]
    have a1 : ∀ u, tB 1 false (be 1 1 ++ u) = false ∧ tT 1 false (be 1 1 ++ u) = be 1 1 ∧ tR 1 false (be 1 1 ++ u) = u := fun u => ⟨tB_yes (a := be 1 1), tT_yes (a := be 1 1), tR_yes (a := be 1 1)⟩
    have a2 : ∀ v u, tB 2 false (be 2 v ++ u) = false ∧ tT 2 false (be 2 v ++ u) = be 2 v ∧ tR 2 false (be 2 v ++ u) = u := fun v u => ⟨tB_yes (a := be 2 v), tT_yes (a := be 2 v), tR_yes (a := be 2 v)⟩
    have hkd : kindOf (be 1 1 ++ (be 2 n.keys.length ++ (entsR n 0 n.keys.length ++ List.replicate (m - (bodyN n).length) 0))) = 1 := by
      unfold kindOf
      rw [(a1 _).2.1, val_be1 (by decide)]
    refine ⟨by rw [hkd]; rfl, ?_⟩
    unfold start
    simp only [hkd, (a1 _).1, (a1 _).2.2, (a2 _ _).1, (a2 _ _).2.1, (a2 _ _).2.2, val_be2 (show n.keys.length < 65536 by omega), decide_true, if_true]
  | false =>
    have he : encN n m = be 1 2 ++ (be 2 n.keys.length ++ (be 4 (n.kids.getD 0 0) ++ (entsR n 0 n.keys.length ++ List.replicate (m - (bodyN n).length) 0))) := by
      unfold encN bodyN
      rw [hents]
      unfold headN
      simp only [hl, Bool.false_eq_true, if_false, List.append_assoc, List.cons_append]
      rfl
    rw [he]
    have a1 : ∀ u, tB 1 false (be 1 2 ++ u) = false ∧ tT 1 false (be 1 2 ++ u) = be 1 2 ∧ tR 1 false (be 1 2 ++ u) = u := fun u => ⟨tB_yes (a := be 1 2), tT_yes (a := be 1 2), tR_yes (a := be 1 2)⟩
    have a2 : ∀ v u, tB 2 false (be 2 v ++ u) = false ∧ tT 2 false (be 2 v ++ u) = be 2 v ∧ tR 2 false (be 2 v ++ u) = u := fun v u => ⟨tB_yes (a := be 2 v), tT_yes (a := be 2 v), tR_yes (a := be 2 v)⟩
    have a4 : ∀ v u, tB 4 false (be 4 v ++ u) = false ∧ tT 4 false (be 4 v ++ u) = be 4 v ∧ tR 4 false (be 4 v ++ u) = u := fun v u => ⟨tB_yes (a := be 4 v), tT_yes (a := be 4 v), tR_yes (a := be 4 v)⟩
    have hkd : kindOf (be 1 2 ++ (be 2 n.keys.length ++ (be 4 (n.kids.getD 0 0) ++ (entsR n 0 n.keys.length ++ List.replicate (m - (bodyN n).length) 0)))) = 2 := by
      unfold kindOf
      rw [(a1 _).2.1, val_be1 (by decide)]
    refine ⟨by rw [hkd]; rfl, ?_⟩
    unfold start
    simp only [hkd, (a1 _).1, (a1 _).2.2, (a2 _ _).1, (a2 _ _).2.1, (a2 _ _).2.2, (a4 _ _).1, (a4 _ _).2.1, (a4 _ _).2.2, val_be2 (show n.keys.length < 65536 by omega), val_be4 (hu 0)]
    simp
theorem iter_enc {n : Nd} {m : Nat} (h : CheckN n m) (hu : ∀ i, n.kids.getD i 0 < 4294967296) (z : List UInt8) (p : PS) (hp : p = ⟨[], [], if n.leaf = true then [] else [n.kids.getD 0 0], false, entsR n 0 n.keys.length ++ z⟩) : ∀ k, k ≤ n.keys.length →
    iter n.leaf p k = ⟨n.keys.take k, if n.leaf = true then n.vals.take k else [], if n.leaf = true then [] else n.kids.take (k + 1), false, entsR n k (n.keys.length - k) ++ z⟩
  | 0, _ => by
    show p = _
    rw [hp]
    cases hl : n.leaf with
    | true => simp
    | false =>
      have h1 := (h.2.2 hl).2.1
      have h2 : n.kids.take (0 + 1) = n.kids.take 0 ++ [n.kids.getD 0 0] := take_snoc 0 n.kids (by omega)
      simp only [Bool.false_eq_true, if_false, h2]
      simp
  | k + 1, hk => by
    have ih := iter_enc h hu z p hp k (by omega)
    show step n.leaf (iter n.leaf p k) = _
    have hr : entsR n k (n.keys.length - k) ++ z = entN n k ++ (entsR n (k + 1) (n.keys.length - (k + 1)) ++ z) := by
      rw [show n.keys.length - k = (n.keys.length - (k + 1)) + 1 by omega]
      simp [entsR]
    rw [hr] at ih
    cases hl : n.leaf with
    | true =>
      rw [hl] at ih
      simp only [if_true] at ih ⊢
      unfold step
      rw [if_pos rfl, ih, stepL_enc h hl (by omega) _ _ rfl rfl, take_snoc ⟨#[]⟩ n.keys (by omega), take_snoc ⟨#[]⟩ n.vals (by rw [(h.2.1 hl).1]; omega)]
    | false =>
      rw [hl] at ih
      simp only [Bool.false_eq_true, if_false] at ih ⊢
      unfold step
      rw [if_neg (by decide), ih, stepB_enc h hl (by omega) hu _ _ rfl rfl, take_snoc ⟨#[]⟩ n.keys (by omega), take_snoc 0 n.kids (k := k + 1) (by rw [(h.2.2 hl).2.1]; omega)]
/-- what was written is read: the node, never a bad place on the way -/
theorem dec_enc {n : Nd} {m : Nat} (h : CheckN n m) (hm : m ≤ 4096) (hu : ∀ i, n.kids.getD i 0 < 4294967296) :
    ∃ p0, kindOf (encN n m) = (if n.leaf = true then 1 else 2) ∧ start (encN n m) = (n.leaf, n.keys.length, p0) ∧ (∀ k, k ≤ n.keys.length → (iter n.leaf p0 k).b = false) ∧
      (iter n.leaf p0 n.keys.length).keys = n.keys ∧ (iter n.leaf p0 n.keys.length).vals = n.vals ∧ (iter n.leaf p0 n.keys.length).kids = n.kids := by
  obtain ⟨z, h1, h2⟩ := start_enc h hm hu
  have h3 := iter_enc h hu z _ rfl
  refine ⟨_, h1, h2, fun k hk => by rw [h3 k hk], ?_, ?_, ?_⟩
  · rw [h3 _ (Nat.le_refl _)]; simp
  · rw [h3 _ (Nat.le_refl _)]
    cases hl : n.leaf with
    | true => simp only [if_true]; rw [← (h.2.1 hl).1]; simp
    | false => simp only [Bool.false_eq_true, if_false]; exact (List.eq_nil_of_length_eq_zero (h.2.2 hl).1).symm
  · rw [h3 _ (Nat.le_refl _)]
    cases hl : n.leaf with
    | true => simp only [if_true]; exact (List.eq_nil_of_length_eq_zero (h.2.1 hl).2.1).symm
    | false => simp only [Bool.false_eq_true, if_false]; rw [← (h.2.2 hl).2.1]; simp
/-- one form -/
theorem enc_inj {n n' : Nd} {m : Nat} (h : CheckN n m) (h' : CheckN n' m) (hm : m ≤ 4096) (hu : ∀ i, n.kids.getD i 0 < 4294967296) (hu' : ∀ i, n'.kids.getD i 0 < 4294967296) (he : encN n m = encN n' m) : n = n' := by
  obtain ⟨p, _, a1, _, a2, a3, a4⟩ := dec_enc h hm hu
  obtain ⟨p', _, b1, _, b2, b3, b4⟩ := dec_enc h' hm hu'
  rw [he, b1] at a1
  simp only [Prod.mk.injEq] at a1
  obtain ⟨e1, e2, e3⟩ := a1
  rw [← e1, ← e2, ← e3] at a2 a3 a4
  cases n
  cases n'
  simp_all
end Go.Proofs.Ytpggicaphejjfaa
