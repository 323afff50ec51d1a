/-
  The reference's Key and Bytes; the program's Check of a size that is none.
-/
import Derived.Test.YtpggicaphejjfaaPCheck
set_option linter.unusedVariables false
namespace Go.Proofs.Ytpggicaphejjfaa
open Go.RowKit

set_option maxRecDepth 100000 in
theorem check_no (n : Nd) (A1 A2 A3 : Option Addr) (c1 c2 c3 : Nat) (m : Int) (w : World) (h : ¬ SizeP m) :
    Calls Try.prog 15 #[.agg (ndC n A1 A2 A3 c1 c2 c3), .int .i64 m] w fun e w' => e = .returned (.int .i64 1) ∧ Below w.heap.size w w' := by
  obtain ⟨w1, hw1⟩ : ∃ w1, w1 = w.alloc (.cells (ndC n A1 A2 A3 c1 c2 c3) 26) := ⟨_, rfl⟩
  have hB1 : Below w.heap.size w w1 := by rw [hw1]; exact (Below.refl _ w).alloc (Nat.le_refl _) _
  have HM := Lib.hid (And.intro (most_no m w1 h) hB1)
  obtain ⟨N1, hN1⟩ : ∃ N, N = n.keys.length := ⟨_, rfl⟩
  obtain ⟨N2, hN2⟩ : ∃ N, N = n.vals.length := ⟨_, rfl⟩
  obtain ⟨N3, hN3⟩ : ∃ N, N = n.kids.length := ⟨_, rfl⟩
  obtain ⟨lf, hlf⟩ : ∃ b, b = n.leaf := ⟨_, rfl⟩
  unfold ndC at *
  rw [← hN1, ← hN2, ← hN3, ← hlf] at hw1 ⊢
  have HW := Lib.hid hw1
  clear h hB1 hN1 hN2 hN3 hlf hw1
  go_enter Try.func15, Try.ntmps15
  go_upto_region 1 with fail
  rw [← HW.out]
  go_wp2_with fail
  refine HM.out.1.mono ?_
  rintro e w2 ⟨rfl, rfl⟩
  go_wp2_with fail
  go_ret
  exact ⟨rfl, HM.out.2⟩
set_option maxRecDepth 100000 in
theorem key_any (x : ByteArray) (w : World) (r : Bool) (hr : r = true ↔ (1 ≤ x.size ∧ x.size ≤ 64)) : Calls Try.prog 37 #[.string x] w fun e w' => e = .returned (.bool r) ∧ w = w' := by
  obtain ⟨p, hp⟩ : ∃ p, p = x.size := ⟨_, rfl⟩
  have hp' : x.size = p := hp.symm
  rw [hp'] at hr
  clear hp
  by_cases h1 : 1 ≤ p
  · by_cases h2 : p ≤ 64
    · obtain rfl : r = true := hr.2 ⟨h1, h2⟩
      clear hr
      go_enter Try.func37, Try.ntmps37
      go_wp2_with fail
      go_ret
      exact ⟨by simp; omega, rfl⟩
    · obtain rfl : r = false := by rw [Bool.eq_false_iff]; intro e; exact h2 (hr.1 e).2
      have d : decide (p ≤ 64) = false := decide_eq_false h2
      have d2 : decide ((p : Int) ≤ 64) = false := decide_eq_false (by omega)
      clear hr h2
      go_enter Try.func37, Try.ntmps37
      go_wp2_with fail
      go_ret
      exact ⟨by simp, rfl⟩
  · obtain rfl : r = false := by rw [Bool.eq_false_iff]; intro e; exact h1 (hr.1 e).1
    obtain rfl : p = 0 := by omega
    clear hr h1
    go_enter Try.func37, Try.ntmps37
    go_wp2_with fail
    go_ret
    exact ⟨by simp, rfl⟩
end Go.Proofs.Ytpggicaphejjfaa
