/-
  Size, Most and Order of both sides.
-/
import Derived.Test.YtpggicaphejjfaaMem
import Derived.Deep.CutBlock
import Derived.BigQuiet
set_option linter.unusedVariables false
namespace Go.Proofs.Ytpggicaphejjfaa
open Go.RowKit

/-- a block may have so many bytes -/
def SizeP (n : Int) : Prop := 512 ≤ n ∧ n ≤ 4096 ∧ n % 512 = 0
instance (n : Int) : Decidable (SizeP n) := by unfold SizeP; infer_instance
theorem SizeP.nat {n : Int} (h : SizeP n) : ∃ m : Nat, n = (m : Int) ∧ 512 ≤ m ∧ m ≤ 4096 ∧ m % 512 = 0 := ⟨n.toNat, by unfold SizeP at h; omega, by unfold SizeP at h; omega, by unfold SizeP at h; omega, by unfold SizeP at h; omega⟩

set_option maxRecDepth 100000 in
theorem size_yes (n : Nat) (w : World) (h1 : 512 ≤ n) (h2 : n ≤ 4096) (h3 : n % 512 = 0) : Calls Try.prog 19 #[.int .i64 n] w fun e w' => e = .returned (.int .i64 0) ∧ w = w' := by
  have h4 : (n : Int) % 512 = 0 := by omega
  clear h3
  go_enter Try.func19, Try.ntmps19
  go_wp2_with fail
  go_ret
  exact ⟨rfl, rfl⟩
set_option maxRecDepth 100000 in
theorem rsize_yes (n : Nat) (w : World) (h1 : 512 ≤ n) (h2 : n ≤ 4096) (h3 : n % 512 = 0) : Calls Try.prog 20 #[.int .i64 n] w fun e w' => e = .returned (.int .i64 0) ∧ w = w' := by
  have h4 : (n : Int) % 512 = 0 := by omega
  clear h3
  go_enter Try.func20, Try.ntmps20
  go_wp2_with fail
  go_ret
  exact ⟨rfl, rfl⟩
set_option maxRecDepth 100000 in
theorem size_no (n : Int) (w : World) (h : ¬ SizeP n) : Calls Try.prog 19 #[.int .i64 n] w fun e w' => e = .returned (.int .i64 1) ∧ w = w' := by
  unfold SizeP at h
  by_cases h1 : 512 ≤ n
  · by_cases h2 : n ≤ 4096
    · obtain ⟨m, rfl⟩ : ∃ m : Nat, n = (m : Int) := ⟨n.toNat, by omega⟩
      obtain ⟨q, hq⟩ : ∃ q, q = m % 512 := ⟨_, rfl⟩
      have h4 : (m : Int) % 512 = (q : Int) := by omega
      have h5 : 0 < q := by omega
      have h6 : m ≤ 4096 := by omega
      have h7 : 512 ≤ m := by omega
      clear hq h
      go_enter Try.func19, Try.ntmps19
      go_wp2_with fail
      go_ret
      exact ⟨rfl, rfl⟩
    · have d1 : decide (n < 512) = false := decide_eq_false (by omega)
      have d2 : decide (4096 < n) = true := decide_eq_true (by omega)
      clear h
      go_enter Try.func19, Try.ntmps19
      go_wp2_with fail
      go_ret
      exact ⟨rfl, rfl⟩
  · have d1 : decide (n < 512) = true := decide_eq_true (by omega)
    clear h
    go_enter Try.func19, Try.ntmps19
    go_wp2_with fail
    go_ret
    exact ⟨rfl, rfl⟩
set_option maxRecDepth 100000 in
theorem rsize_no (n : Int) (w : World) (h : ¬ SizeP n) : Calls Try.prog 20 #[.int .i64 n] w fun e w' => e = .returned (.int .i64 1) ∧ w = w' := by
  unfold SizeP at h
  by_cases h1 : 512 ≤ n
  · by_cases h2 : n ≤ 4096
    · obtain ⟨m, rfl⟩ : ∃ m : Nat, n = (m : Int) := ⟨n.toNat, by omega⟩
      obtain ⟨q, hq⟩ : ∃ q, q = m % 512 := ⟨_, rfl⟩
      have h4 : (m : Int) % 512 = (q : Int) := by omega
      have h5 : 0 < q := by omega
      have h6 : m ≤ 4096 := by omega
      have h7 : 512 ≤ m := by omega
      have h8 : ((q : Int) != 0) = true := by rw [bne_iff_ne]; omega
      clear hq h
      go_enter Try.func20, Try.ntmps20
      go_wp2_with fail
      go_ret
      exact ⟨rfl, rfl⟩
    · have d1 : decide (n < 512) = false := decide_eq_false (by omega)
      have d2 : decide (4096 < n) = true := decide_eq_true (by omega)
      clear h
      go_enter Try.func20, Try.ntmps20
      go_wp2_with fail
      go_ret
      exact ⟨rfl, rfl⟩
  · have d1 : decide (n < 512) = true := decide_eq_true (by omega)
    clear h
    go_enter Try.func20, Try.ntmps20
    go_wp2_with fail
    go_ret
    exact ⟨rfl, rfl⟩
/-- the most bytes of an entry, the most kids -/
def mostN (n : Nat) : Nat := (n - 3) / 4
def orderN (n : Nat) : Nat := 1 + (n - 7) / 69
set_option maxRecDepth 100000 in
theorem most_yes (n : Nat) (w : World) (h1 : 512 ≤ n) (h2 : n ≤ 4096) (h3 : n % 512 = 0) : Calls Try.prog 11 #[.int .i64 n] w fun e w' => e = .returned (.tuple #[.int .i64 (mostN n), .int .i64 0]) ∧ w = w' := by
  have HC := Lib.hid (size_yes n w h1 h2 h3)
  obtain ⟨q, hq⟩ : ∃ q, q = mostN n := ⟨_, rfl⟩
  obtain ⟨r, hr⟩ : ∃ r, r = n - 3 := ⟨_, rfl⟩
  have hr2 : (n : Int) - 3 = (r : Int) := by omega
  have hq2 : r / 4 = q := by unfold mostN at hq; omega
  have hr3 : r ≤ 4096 := by omega
  rw [← hq]
  clear h3 hq hr
  go_enter Try.func11, Try.ntmps11
  go_wp2_with fail
  refine HC.out.mono ?_
  rintro e w1 ⟨rfl, rfl⟩
  go_wp2_with fail
  go_ret2
  exact ⟨by simp; omega, rfl⟩
set_option maxRecDepth 100000 in
theorem rmost_yes (n : Nat) (w : World) (h1 : 512 ≤ n) (h2 : n ≤ 4096) (h3 : n % 512 = 0) : Calls Try.prog 12 #[.int .i64 n] w fun e w' => e = .returned (.tuple #[.int .i64 (mostN n), .int .i64 0]) ∧ w = w' := by
  have HC := Lib.hid (rsize_yes n w h1 h2 h3)
  obtain ⟨q, hq⟩ : ∃ q, q = mostN n := ⟨_, rfl⟩
  obtain ⟨r, hr⟩ : ∃ r, r = n - 3 := ⟨_, rfl⟩
  have hr2 : (n : Int) - 3 = (r : Int) := by omega
  have hq2 : r / 4 = q := by unfold mostN at hq; omega
  have hr3 : r ≤ 4096 := by omega
  rw [← hq]
  clear h3 hq hr
  go_enter Try.func12, Try.ntmps12
  go_wp2_with fail
  refine HC.out.mono ?_
  rintro e w1 ⟨rfl, rfl⟩
  go_wp2_with fail
  go_ret2
  exact ⟨by simp; omega, rfl⟩
set_option maxRecDepth 100000 in
theorem order_yes (n : Nat) (w : World) (h1 : 512 ≤ n) (h2 : n ≤ 4096) (h3 : n % 512 = 0) : Calls Try.prog 13 #[.int .i64 n] w fun e w' => e = .returned (.tuple #[.int .i64 (orderN n), .int .i64 0]) ∧ w = w' := by
  have HC := Lib.hid (size_yes n w h1 h2 h3)
  obtain ⟨q, hq⟩ : ∃ q, q = orderN n := ⟨_, rfl⟩
  obtain ⟨r, hr⟩ : ∃ r, r = n - 3 := ⟨_, rfl⟩
  obtain ⟨s, hs⟩ : ∃ s, s = n - 7 := ⟨_, rfl⟩
  obtain ⟨t, ht⟩ : ∃ t, t = (n - 7) / 69 := ⟨_, rfl⟩
  have hr2 : (n : Int) - 3 = (r : Int) := by omega
  have hs2 : (r : Int) - 4 = (s : Int) := by omega
  have ht2 : s / 69 = t := by omega
  have hq2 : (1 : Int) + (t : Int) = (q : Int) := by unfold orderN at hq; omega
  have hr3 : r ≤ 4096 := by omega
  have hs3 : s ≤ 4096 := by omega
  have ht3 : t ≤ 4096 := by omega
  rw [← hq]
  clear h3 hq hr hs ht
  go_enter Try.func13, Try.ntmps13
  go_wp2_with fail
  refine HC.out.mono ?_
  rintro e w1 ⟨rfl, rfl⟩
  go_wp2_with fail
  go_ret2
  exact ⟨by simp; omega, rfl⟩
set_option maxRecDepth 100000 in
theorem rorder_yes (n : Nat) (w : World) (h1 : 512 ≤ n) (h2 : n ≤ 4096) (h3 : n % 512 = 0) : Calls Try.prog 14 #[.int .i64 n] w fun e w' => e = .returned (.tuple #[.int .i64 (orderN n), .int .i64 0]) ∧ w = w' := by
  have HC := Lib.hid (rsize_yes n w h1 h2 h3)
  obtain ⟨q, hq⟩ : ∃ q, q = orderN n := ⟨_, rfl⟩
  obtain ⟨s, hs⟩ : ∃ s, s = n - 7 := ⟨_, rfl⟩
  obtain ⟨t, ht⟩ : ∃ t, t = (n - 7) / 69 := ⟨_, rfl⟩
  have hs2 : (n : Int) - 7 = (s : Int) := by omega
  have ht2 : s / 69 = t := by omega
  have hq2 : (1 : Int) + (t : Int) = (q : Int) := by unfold orderN at hq; omega
  have hs3 : s ≤ 4096 := by omega
  have ht3 : t ≤ 4096 := by omega
  rw [← hq]
  clear h3 hq hs ht
  go_enter Try.func14, Try.ntmps14
  go_wp2_with fail
  refine HC.out.mono ?_
  rintro e w1 ⟨rfl, rfl⟩
  go_wp2_with fail
  go_ret2
  exact ⟨by simp; omega, rfl⟩
set_option maxRecDepth 100000 in
theorem most_no (n : Int) (w : World) (h : ¬ SizeP n) : Calls Try.prog 11 #[.int .i64 n] w fun e w' => e = .returned (.tuple #[.int .i64 0, .int .i64 1]) ∧ w = w' := by
  have HC := Lib.hid (size_no n w h)
  clear h
  go_enter Try.func11, Try.ntmps11
  go_wp2_with fail
  refine HC.out.mono ?_
  rintro e w1 ⟨rfl, rfl⟩
  go_wp2_with fail
  go_ret2
  exact ⟨rfl, rfl⟩
set_option maxRecDepth 100000 in
theorem rmost_no (n : Int) (w : World) (h : ¬ SizeP n) : Calls Try.prog 12 #[.int .i64 n] w fun e w' => e = .returned (.tuple #[.int .i64 0, .int .i64 1]) ∧ w = w' := by
  have HC := Lib.hid (rsize_no n w h)
  clear h
  go_enter Try.func12, Try.ntmps12
  go_wp2_with fail
  refine HC.out.mono ?_
  rintro e w1 ⟨rfl, rfl⟩
  go_wp2_with fail
  go_ret2
  exact ⟨rfl, rfl⟩
set_option maxRecDepth 100000 in
theorem order_no (n : Int) (w : World) (h : ¬ SizeP n) : Calls Try.prog 13 #[.int .i64 n] w fun e w' => e = .returned (.tuple #[.int .i64 0, .int .i64 1]) ∧ w = w' := by
  have HC := Lib.hid (size_no n w h)
  clear h
  go_enter Try.func13, Try.ntmps13
  go_wp2_with fail
  refine HC.out.mono ?_
  rintro e w1 ⟨rfl, rfl⟩
  go_wp2_with fail
  go_ret2
  exact ⟨rfl, rfl⟩
set_option maxRecDepth 100000 in
theorem rorder_no (n : Int) (w : World) (h : ¬ SizeP n) : Calls Try.prog 14 #[.int .i64 n] w fun e w' => e = .returned (.tuple #[.int .i64 0, .int .i64 1]) ∧ w = w' := by
  have HC := Lib.hid (rsize_no n w h)
  clear h
  go_enter Try.func14, Try.ntmps14
  go_wp2_with fail
  refine HC.out.mono ?_
  rintro e w1 ⟨rfl, rfl⟩
  go_wp2_with fail
  go_ret2
  exact ⟨rfl, rfl⟩
end Go.Proofs.Ytpggicaphejjfaa
