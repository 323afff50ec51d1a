/-
  A map comes back from its bits: the plain law; the calls as numbers.
-/
import Derived.Test.YtinjkjgahipimaaEAwake
set_option linter.unusedVariables false
namespace Go.Proofs.Ytinjkjgahipimaa
open Go.RowKit

theorem btK_bit (f : Nat) (l : List Nat) : ∀ k i, k ≤ l.length → i < l.length → ((btK f l k).getD (i / 8) 0).testBit (7 - i % 8) = decide (i < k ∧ (i < f ∨ l.getD i 0 = 1))
  | 0, i, _, _ => by
    unfold btK
    rw [List.getD, List.getElem?_replicate]
    have : decide (i < 0 ∧ (i < f ∨ l.getD i 0 = 1)) = false := decide_eq_false (by omega)
    rw [this]
    split <;> simp
  | k + 1, i, hk, hi => by
    have ih := btK_bit f l k i (by omega) hi
    unfold btK
    by_cases hc : k < f ∨ l.getD k 0 = 1
    · rw [if_pos hc]
      unfold btS
      rw [getD_setN, length_btK]
      by_cases h8 : k / 8 = i / 8
      · rw [if_pos ⟨h8, by omega⟩, h8, Nat.testBit_or, ih]
        unfold bm
        rw [Nat.testBit_two_pow]
        by_cases e : k = i
        · subst e
          have h1 : decide (k < k + 1 ∧ (k < f ∨ l.getD k 0 = 1)) = true := decide_eq_true ⟨by omega, hc⟩
          rw [h1]; simp
        · have h1 : decide (7 - k % 8 = 7 - i % 8) = false := decide_eq_false (by omega)
          rw [h1, Bool.or_false]
          have : (i < k ∧ (i < f ∨ l.getD i 0 = 1)) = (i < k + 1 ∧ (i < f ∨ l.getD i 0 = 1)) := by apply propext; constructor <;> rintro ⟨a, b⟩ <;> exact ⟨by omega, b⟩
          simp only [this]
      · rw [if_neg (fun x => h8 x.1), ih]
        have : (i < k ∧ (i < f ∨ l.getD i 0 = 1)) = (i < k + 1 ∧ (i < f ∨ l.getD i 0 = 1)) := by
          apply propext
          constructor
          · rintro ⟨a, b⟩; exact ⟨by omega, b⟩
          · rintro ⟨a, b⟩; exact ⟨by
              rcases Nat.lt_succ_iff_lt_or_eq.1 a with h | h
              · exact h
              · exact absurd (by rw [h]) h8, b⟩
        simp only [this]
    · rw [if_neg hc, ih]
      have : (i < k ∧ (i < f ∨ l.getD i 0 = 1)) = (i < k + 1 ∧ (i < f ∨ l.getD i 0 = 1)) := by
        apply propext
        constructor
        · rintro ⟨a, b⟩; exact ⟨by omega, b⟩
        · rintro ⟨a, b⟩
          rcases Nat.lt_succ_iff_lt_or_eq.1 a with h | h
          · exact ⟨h, b⟩
          · exact absurd (h ▸ b) hc
      simp only [this]
theorem bitAt_strOf (b : List Nat) (hb : ∀ k, b.getD k 0 < 256) (i : Nat) : bitAt (strOf b) i = b.getD (i / 8) 0 / 2 ^ (7 - i % 8) % 2 := by
  unfold bitAt strOf
  have e : ((b.map UInt8.ofNat).toArray.toList.getD (i / 8) 0).toNat = b.getD (i / 8) 0 := by
    have h := hb (i / 8)
    rcases Nat.lt_or_ge (i / 8) b.length with h1 | h1
    · simp only [List.getD, List.getElem?_map, List.getElem?_eq_getElem h1, Option.map_some, Option.getD_some] at h ⊢
      rw [UInt8.toNat_ofNat']
      exact Nat.mod_eq_of_lt h
    · simp [List.getD, List.getElem?_eq_none h1]
  show ((b.map UInt8.ofNat).toArray.toList.getD (i / 8) 0).toNat / 2 ^ (7 - i % 8) % 2 = _
  rw [e]
theorem bitAt_bits (f : Nat) (l : List Nat) (i : Nat) (hi : i < l.length) : bitAt (bitsT f l) i = if i < f ∨ l.getD i 0 = 1 then 1 else 0 := by
  unfold bitsT
  rw [bitAt_strOf _ (btK_lt f l _)]
  have h := btK_bit f l l.length i (Nat.le_refl _) hi
  rw [Nat.testBit_eq_decide_div_mod_eq] at h
  by_cases hc : i < f ∨ l.getD i 0 = 1
  · rw [if_pos hc]
    rw [decide_eq_true (⟨hi, hc⟩ : i < l.length ∧ (i < f ∨ l.getD i 0 = 1))] at h
    exact of_decide_eq_true h
  · rw [if_neg hc]
    rw [decide_eq_false (fun x : i < l.length ∧ (i < f ∨ l.getD i 0 = 1) => hc x.2)] at h
    have := of_decide_eq_false h
    omega
theorem size_bitsT (f : Nat) (l : List Nat) : (bitsT f l).size = (l.length + 7) / 8 := by
  unfold bitsT strOf
  simp [ByteArray.size, length_btK]
theorem cov_low {s : St} {own : List (Nat × Nat)} (c : Cov s own) {i : Nat} (h : i < s.f) : cov own i = 0 := by
  unfold cov
  rw [List.filter_eq_nil_iff.2 (fun x hx => ?_)]
  · rfl
  · have := c.ext x hx
    rw [inX_iff]; omega
/-- what is read of a map's bits is the map -/
theorem Cov.bits {s : St} {own : List (Nat × Nat)} (c : Cov s own) : fb (bitsT s.f s.l) s.f s.l.length s.l.length = s.l ∧ fbOk s.f s.l.length (bitsT s.f s.l) := by
  have e : fb (bitsT s.f s.l) s.f s.l.length s.l.length = s.l := by
    refine ext_getDN (length_fb _ _ _ _) fun i hi => ?_
    rw [length_fb] at hi
    rw [getD_fb]
    have h1 := c.one i
    have h2 := c.st i hi
    by_cases h : s.f ≤ i
    · rw [if_pos ⟨hi, h, hi⟩, bitAt_bits _ _ _ hi]
      by_cases hz : s.l.getD i 0 = 1
      · rw [if_pos (.inr hz), hz]
      · rw [if_neg (by rintro (h3 | h3); omega; exact hz h3)]; omega
    · rw [if_neg (by omega), h2, cov_low c (by omega)]
  exact ⟨e, size_bitsT _ _, by rw [e]⟩
/-- a map that is like another one -/
theorem Cov.like {s : St} {own : List (Nat × Nat)} (c : Cov s own) : Cov (fbSt (bitsT s.f s.l) s.f s.l.length s.l.length) own := by
  have e := c.bits.1
  have hl : (fbSt (bitsT s.f s.l) s.f s.l.length s.l.length).l = s.l := e
  exact ⟨fbSt_ok c.ok.fl c.ok.le, rfl, (fun i hi => by rw [hl] at hi ⊢; exact c.st i hi), c.one, (fun x hx => by rw [hl]; exact c.ext x hx)⟩
/-- the bits of a map of which nothing is owned -/
theorem Cov.none {s : St} (c : Cov s []) : bitsT s.f s.l = bitsT s.f (List.replicate s.l.length 0) := by rw [← c.empty]
/-- nothing owned: all can be taken -/
theorem Cov.all {s : St} (c : Cov s []) (a b : Nat) : AllP s.l a b 0 := fun j hj => by
  rw [c.empty, List.getD, List.getElem?_replicate]
  split <;> rfl

/-- a list of calls that reads: kind, which map, number, extent -/
structure OpV where
  kd : Int
  wh : Int
  n : Int
  a : Int
  b : Int
def OpR (w : World) (A : Option Addr) (n : Nat) (v : Nat → OpV) : Prop :=
  0 < n → ∃ b off, A = some ⟨b, off, none⟩ ∧ b < w.heap.size ∧ ∀ i, i < n → w.cell? ⟨b, off + i * 5, none⟩ = some (.int .i64 (v i).kd) ∧ w.cell? ⟨b, off + i * 5 + 1, none⟩ = some (.int .i64 (v i).wh) ∧
    w.cell? ⟨b, off + i * 5 + 2, none⟩ = some (.int .i64 (v i).n) ∧ w.cell? ⟨b, off + i * 5 + 3, none⟩ = some (.int .i64 (v i).a) ∧ w.cell? ⟨b, off + i * 5 + 4, none⟩ = some (.int .i64 (v i).b)
theorem OpR.below {w w' : World} {A : Option Addr} {n : Nat} {v : Nat → OpV} (h : OpR w A n v) (hb : Below w.heap.size w w') : OpR w' A n v := by
  intro hn
  obtain ⟨b, off, rfl, hlt, hc⟩ := h hn
  refine ⟨b, off, rfl, Nat.lt_of_lt_of_le hlt hb.size, fun i hi => ?_⟩
  obtain ⟨c0, c1, c2, c3, c4⟩ := hc i hi
  exact ⟨(hb.cell (p := ⟨b, off + i * 5, none⟩) hlt).trans c0, (hb.cell (p := ⟨b, off + i * 5 + 1, none⟩) hlt).trans c1, (hb.cell (p := ⟨b, off + i * 5 + 2, none⟩) hlt).trans c2, (hb.cell (p := ⟨b, off + i * 5 + 3, none⟩) hlt).trans c3, (hb.cell (p := ⟨b, off + i * 5 + 4, none⟩) hlt).trans c4⟩
theorem tmod9 (N : Int) : -9 < Int.tmod N 9 ∧ Int.tmod N 9 < 9 := by
  rcases Int.le_total 0 N with h | h
  · rw [Int.tmod_eq_emod_of_nonneg h]; omega
  · have h2 : N = -(-N) := by omega
    rw [h2, Int.neg_tmod, Int.tmod_eq_emod_of_nonneg (by omega : 0 ≤ -N)]; omega
end Go.Proofs.Ytinjkjgahipimaa
