/-
  A hash's rank.
-/
import Derived.Test.YtbkadfocjmpieaaSExp2
set_option linter.unusedVariables false
namespace Go.Proofs.Ytbkadfocjmpieaa
open Go.RowKit

/-- how many bits 0 stand ahead, of the lowest m -/
def lzc (h : Nat) : Nat → Nat
  | 0 => 0
  | m + 1 => if h.testBit m = true then 0 else 1 + lzc h m
theorem lzc_le (h : Nat) : ∀ m, lzc h m ≤ m
  | 0 => Nat.le_refl _
  | m + 1 => by unfold lzc; split <;> have := lzc_le h m <;> omega
theorem bitLen_of {x b : Nat} (hb : b ≤ 63) (h1 : 2 ^ b ≤ x) (h2 : x < 2 ^ (b + 1)) : Lib.bitLen x = b + 1 := by
  have e : (2 : Nat) ^ 64 = 18446744073709551616 := by decide
  have h64 : 2 ^ (b + 1) ≤ 2 ^ 64 := Nat.pow_le_pow_right (by decide) (by omega)
  have p := Nat.two_pow_pos b
  obtain ⟨q1, q2⟩ := bitLen_spec x (by omega)
  obtain ⟨q3, q4⟩ := q2 (by omega)
  obtain ⟨c, hc⟩ : ∃ c, c = Lib.bitLen x := ⟨_, rfl⟩
  rw [← hc] at q1 q3 q4 ⊢
  have g1 : b < c := by
    rcases Nat.lt_or_ge b c with h | h
    · exact h
    · have := Nat.pow_le_pow_right (n := 2) (by decide) h; omega
  have g2 : c ≤ b + 1 := by
    rcases Nat.lt_or_ge (b + 1) c with h | h
    · have := Nat.pow_le_pow_right (n := 2) (by decide) (show b + 1 ≤ c - 1 by omega); omega
    · exact h
  omega
theorem lzc_bitLen (h : Nat) : ∀ m, m ≤ 64 → lzc h m = m - Lib.bitLen (h % 2 ^ m)
  | 0, _ => by rw [Nat.zero_sub]; rfl
  | m + 1, hm => by
    have ih := lzc_bitLen h m (by omega)
    have e : (2 : Nat) ^ 64 = 18446744073709551616 := by decide
    have hlt : h % 2 ^ m < 2 ^ m := Nat.mod_lt _ (Nat.two_pow_pos m)
    have hs : h % 2 ^ (m + 1) = (h.testBit m).toNat * 2 ^ m + h % 2 ^ m := by
      rw [Nat.pow_succ, Nat.mod_mul, Nat.testBit_eq_decide_div_mod_eq]
      rcases Nat.mod_two_eq_zero_or_one (h / 2 ^ m) with h0 | h0
      · rw [h0]; simp
      · rw [h0]; simp; omega
    unfold lzc
    cases hb : h.testBit m with
    | true =>
      rw [hb] at hs
      have : Lib.bitLen (h % 2 ^ (m + 1)) = m + 1 := bitLen_of (by omega) (by rw [hs]; simp) (by rw [hs, Nat.pow_succ]; simp; omega)
      rw [if_pos rfl, this]; omega
    | false =>
      rw [hb] at hs
      have hl := bitLen_le m (h % 2 ^ m) hlt (by omega)
      rw [if_neg (by decide), ih, hs]
      simp
      omega
theorem bitLen_shift {x p : Nat} (h0 : x ≠ 0) (hx : x * 2 ^ p < 18446744073709551616) : Lib.bitLen (x * 2 ^ p) = Lib.bitLen x + p := by
  have e : (2 : Nat) ^ 64 = 18446744073709551616 := by decide
  have pp := Nat.two_pow_pos p
  have hx1 : x ≤ x * 2 ^ p := Nat.le_mul_of_pos_right x pp
  obtain ⟨q1, q2⟩ := bitLen_spec x (by omega)
  obtain ⟨q3, q4⟩ := q2 h0
  obtain ⟨b, hb⟩ : ∃ b, b = Lib.bitLen x := ⟨_, rfl⟩
  rw [← hb] at q1 q3 q4 ⊢
  have l1 : 2 ^ (b - 1 + p) ≤ x * 2 ^ p := by rw [Nat.pow_add]; exact Nat.mul_le_mul_right _ q4
  have l2 : x * 2 ^ p < 2 ^ (b + p) := by rw [Nat.pow_add]; exact Nat.mul_lt_mul_of_pos_right q1 pp
  have hb63 : b - 1 + p ≤ 63 := by
    rcases Nat.lt_or_ge 63 (b - 1 + p) with h | h
    · have := Nat.pow_le_pow_right (n := 2) (by decide) (show 64 ≤ b - 1 + p by omega); omega
    · exact h
  have := bitLen_of hb63 l1 (by rw [show b - 1 + p + 1 = b + p by omega]; exact l2)
  omega
/-- the program's way -/
theorem lz_shift {h p : Nat} (hp : p ≤ 64) : min (64 - Lib.bitLen (h * 2 ^ p % 18446744073709551616)) (64 - p) = lzc h (64 - p) := by
  rw [lzc_bitLen h (64 - p) (by omega)]
  have e : (2 : Nat) ^ 64 = 18446744073709551616 := by decide
  have e2 : 2 ^ p * 2 ^ (64 - p) = 18446744073709551616 := by rw [← Nat.pow_add, ← e]; congr 1; omega
  have hm : h * 2 ^ p % 18446744073709551616 = h % 2 ^ (64 - p) * 2 ^ p := by
    rw [← e2, Nat.mul_comm h, Nat.mul_mod_mul_left, Nat.mul_comm]
  rw [hm]
  by_cases h0 : h % 2 ^ (64 - p) = 0
  · have hz : Lib.bitLen 0 = 0 := by decide
    rw [h0, Nat.zero_mul, hz]; omega
  · have hlt : h % 2 ^ (64 - p) < 2 ^ (64 - p) := Nat.mod_lt _ (Nat.two_pow_pos _)
    rw [bitLen_shift h0 (by rw [← e2, Nat.mul_comm (2 ^ p)]; exact Nat.mul_lt_mul_of_pos_right hlt (Nat.two_pow_pos p))]
    have hl := bitLen_le (64 - p) _ hlt (by omega)
    omega
def rk (p h : Nat) : Nat := 1 + lzc h (64 - p)
def adAt (p h : Nat) : Nat := h / 2 ^ (64 - p)
theorem adAt_lt {p h : Nat} (hp : p ≤ 64) (hh : h < 18446744073709551616) : adAt p h < 2 ^ p := by
  have e : (2 : Nat) ^ 64 = 18446744073709551616 := by decide
  unfold adAt
  rw [Nat.div_lt_iff_lt_mul (Nat.two_pow_pos _), ← Nat.pow_add, show p + (64 - p) = 64 by omega, e]
  exact hh
/-- a register more -/
def adL (l : List Nat) (i r : Nat) : List Nat := l.set i (max (l.getD i 0) r)
open Classical in
noncomputable def adV (s : ByteArray) (h : Nat) : ByteArray := if exOk s then strOf (adL (sN s) (adAt (exP s) h) (rk (exP s) h)) else ⟨#[]⟩

set_option maxRecDepth 100000 in
set_option maxHeartbeats 4000000 in
theorem rank_any (p h : Nat) (w : World) (hp : p ≤ 63) (hp1 : 4 ≤ p) (hh : h < 18446744073709551616) : Calls Try.prog 26 #[.int .i64 p, .int .u64 h] w fun e w' => e = .returned (.int .u8 (rk p h : Nat)) ∧ w = w' := by
  have hle := lzc_le h (64 - p)
  have HR := Lib.hid (show rk p h = 1 + lzc h (64 - p) from rfl)
  obtain ⟨R, hR⟩ : ∃ R, R = rk p h := ⟨_, rfl⟩
  obtain ⟨m, hm⟩ : ∃ m, m = 64 - p := ⟨_, rfl⟩
  have hRm : R = 1 + lzc h m := by rw [hR, hm]; rfl
  have hRb : R ≤ 61 := by rw [← hm] at hle; omega
  rw [← hR]
  have HRm := Lib.hid hRm
  have hm63 : (63 : Int) - (p : Int) = (m : Int) - 1 := by omega
  have hm60 : m ≤ 60 := by omega
  clear hle HR hR hm hRm
  go_enter Try.func26, Try.ntmps26
  go_wp2_with fail
  go_loopg [5, 6] m (fun g s5 s6 wr => s6 = .int .i64 ((g : Int) - 1) ∧ g ≤ m ∧ ∃ c : Nat, s5 = .int .i64 c ∧ c + lzc h g = R ∧ wr = w)
  case atStart => exact ⟨rfl, Nat.le_refl _, 1, rfl, HRm.out.symm, rfl⟩
  case round =>
    obtain ⟨rfl, hg, c, rfl, hc, rfl⟩ := hrel
    have HC := Lib.hid hc
    clear hc
    have hcb : c ≤ 61 := by have := HC.out; omega
    by_cases hg0 : gk = 0
    · subst hg0
      have hcr : c = R := by have := HC.out; unfold lzc at this; omega
      have HCR := Lib.hid hcr
      clear hcr
      go_wp2_with fail
      go_ret
      rw [← HCR.out]
      exact ⟨rfl, rfl⟩
    · obtain ⟨g, rfl⟩ : ∃ g, gk = g + 1 := ⟨gk - 1, by omega⟩
      have e : (((g + 1 : Nat) : Int) - 1) = (g : Int) := by omega
      rw [e]
      have hbt := Nat.testBit_eq_decide_div_mod_eq (x := h) (i := g)
      have hdv : ((h : Int) / 2 ^ g) = ((h / 2 ^ g : Nat) : Int) := cast_div_pow h g
      obtain ⟨d, hd⟩ : ∃ d, d = h / 2 ^ g := ⟨_, rfl⟩
      rw [← hd] at hbt hdv
      have hst : lzc h (g + 1) = if h.testBit g = true then 0 else 1 + lzc h g := rfl
      rcases Nat.mod_two_eq_zero_or_one d with h0 | h0
      · have hz : ((d : Int) % 2 == 0) = true := by simp; omega
        rw [hbt, h0, if_neg (by decide)] at hst
        have HS := Lib.hid hst
        clear hst hbt hd e h0 hg0
        go_wp2_with fail
        go_roundg g
        case measure => omega
        case rel => exact ⟨rfl, by omega, c + 1, by go_num, by have := HC.out; have := HS.out; omega, rfl⟩
      · have hz : ((d : Int) % 2 == 0) = false := by simp; omega
        rw [hbt, h0, if_pos (by decide)] at hst
        have hcr : c = R := by have := HC.out; omega
        have HCR := Lib.hid hcr
        clear hst hbt hd e h0 hg0 hcr
        go_wp2_with fail
        go_ret
        rw [← HCR.out]
        exact ⟨rfl, rfl⟩
end Go.Proofs.Ytbkadfocjmpieaa
