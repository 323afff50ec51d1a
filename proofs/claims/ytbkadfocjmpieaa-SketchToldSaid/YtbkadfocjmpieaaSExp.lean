/-
  A sketch's exponent.
-/
import Derived.Test.YtbkadfocjmpieaaSText
set_option linter.unusedVariables false
namespace Go.Proofs.Ytbkadfocjmpieaa
open Go.RowKit

def exP (s : ByteArray) : Nat := Lib.bitLen s.size - 1
def exSz (s : ByteArray) : Prop := 4 ≤ exP s ∧ exP s ≤ 16 ∧ s.size = 2 ^ exP s
def exAll (s : ByteArray) : Prop := ∀ i, i < s.size → (sN s).getD i 0 ≤ 65 - exP s
def exOk (s : ByteArray) : Prop := exSz s ∧ exAll s
open Classical in
noncomputable def exE (s : ByteArray) : Int := if exOk s then 0 else 4
open Classical in
noncomputable def exV (s : ByteArray) : Nat := if exOk s then exP s else 0
theorem ex_yes {s : ByteArray} (h : exOk s) : exE s = 0 ∧ exV s = exP s := by unfold exE exV; rw [if_pos h, if_pos h]; exact ⟨rfl, rfl⟩
theorem ex_no {s : ByteArray} (h : ¬ exOk s) : exE s = 4 ∧ exV s = 0 := by unfold exE exV; rw [if_neg h, if_neg h]; exact ⟨rfl, rfl⟩
theorem exP_of {s : ByteArray} {p : Nat} (hp : p ≤ 62) (h : s.size = 2 ^ p) : exP s = p := by
  have e : (2 : Nat) ^ 64 = 18446744073709551616 := by decide
  have h62 : 2 ^ p ≤ 2 ^ 62 := Nat.pow_le_pow_right (by decide) hp
  have e62 : (2 : Nat) ^ 62 = 4611686018427387904 := by decide
  have hp0 := Nat.two_pow_pos p
  obtain ⟨q1, q2⟩ := bitLen_spec s.size (by omega)
  obtain ⟨q3, q4⟩ := q2 (by omega)
  unfold exP
  rw [h] at q1 q4 q3 ⊢
  obtain ⟨b, hb⟩ : ∃ b, b = Lib.bitLen (2 ^ p) := ⟨_, rfl⟩
  rw [← hb] at q1 q3 q4 ⊢
  have h1 : p < b := by
    rcases Nat.lt_or_ge p b with h | h
    · exact h
    · have := Nat.pow_le_pow_right (n := 2) (by decide) h; omega
  have h2 : b - 1 ≤ p := by
    rcases Nat.lt_or_ge p (b - 1) with h | h
    · have := Nat.pow_lt_pow_right (a := 2) (by decide) h; omega
    · exact h
  omega

set_option maxRecDepth 100000 in
set_option maxHeartbeats 4000000 in
theorem exp_no (s : ByteArray) (w : World) (hs : s.size ≤ 140737488355328) (h : ¬ exSz s) : Calls Try.prog 12 #[.string s] w fun e w' => e = .returned (.tuple #[.int .i64 0, .int .i64 4]) ∧ w = w' := by
  have hlen := len_any s.size w (by omega)
  have hb := bitLen_64 (show s.size < 18446744073709551616 by omega)
  unfold exSz exP at h
  obtain ⟨L, hL⟩ : ∃ L, L = Lib.bitLen s.size := ⟨_, rfl⟩
  rw [← hL] at hlen h hb
  have HL := Lib.hid hlen
  clear hlen hL
  by_cases h1 : L < 5
  · have d1 : decide ((L : Int) - 1 < 4) = true := decide_eq_true (by omega)
    have d2 : decide ((L : Int) < 4 + 1) = true := decide_eq_true (by omega)
    clear h
    go_enter Try.func12, Try.ntmps12
    go_wp2_with fail
    refine HL.out.mono ?_
    rintro e w' ⟨rfl, rfl⟩
    go_wp2_with fail
    go_ret2
    exact ⟨rfl, rfl⟩
  · obtain ⟨p, rfl⟩ : ∃ p, L = p + 1 := ⟨L - 1, by omega⟩
    have hp : ((p + 1 : Nat) : Int) - 1 = (p : Int) := by omega
    by_cases h2 : 16 < p
    · clear h
      go_enter Try.func12, Try.ntmps12
      go_wp2_with fail
      refine HL.out.mono ?_
      rintro e w' ⟨rfl, rfl⟩
      go_wp2_with fail
      go_ret2
      exact ⟨rfl, rfl⟩
    · have hne : s.size ≠ 2 ^ p := fun e => h ⟨by omega, by omega, e⟩
      obtain ⟨P, hP⟩ : ∃ P, P = 2 ^ p := ⟨_, rfl⟩
      rw [← hP] at hne
      have hw : wrap64 (2 ^ p) = (P : Int) := by
        have h16 : 2 ^ p ≤ 2 ^ 16 := Nat.pow_le_pow_right (by decide) (by omega)
        have e16 : (2 : Nat) ^ 16 = 65536 := by decide
        have e : ((2 : Int) ^ p) = (P : Int) := by rw [hP, Int.natCast_pow]; rfl
        rw [e]; unfold wrap64; omega
      have hnb : ((s.size : Int) != (P : Int)) = true := by simp; omega
      have hp4 : 4 ≤ p := by omega
      have hp16 : p ≤ 16 := by omega
      clear h hP hne h1 h2
      go_enter Try.func12, Try.ntmps12
      go_wp2_with fail
      refine HL.out.mono ?_
      rintro e w' ⟨rfl, rfl⟩
      go_wp2_with fail
      go_ret2
      exact ⟨rfl, rfl⟩
end Go.Proofs.Ytbkadfocjmpieaa
