/-
  CodesZigs: the law's walk.
-/
import Derived.Test.YtmgngmnkmmhckaaCAwake
import Derived.Test.YtmgngmnkmmhckaaCZig
set_option linter.unusedVariables false
namespace Go.Proofs.Ytmgngmnkmmhckaa
open Go.RowKit Plain

theorem zgN_range (x : Int) (h0 : -9223372036854775808 ≤ x) (h1 : x < 9223372036854775808) : 0 ≤ zgN x ∧ zgN x < 18446744073709551616 := by unfold zgN; split <;> omega
theorem zaN_range (u : Int) (h0 : 0 ≤ u) (h1 : u < 18446744073709551616) : -9223372036854775808 ≤ zaN u ∧ zaN u < 9223372036854775808 := by unfold zaN; split <;> omega
theorem za_zg (x : Int) : zaN (zgN x) = x := by unfold zgN zaN; split <;> split <;> omega
theorem zg_za (u : Int) (h : 0 ≤ u) : zgN (zaN u) = u := by unfold zgN zaN; split <;> split <;> omega
theorem zg_lt {x y : Int} (h : (0 ≤ x ∧ 0 ≤ y ∧ x < y) ∨ (x < 0 ∧ y < 0 ∧ y < x)) : zgN x < zgN y := by unfold zgN; split <;> split <;> omega
theorem zg_eq (x y : Int) : (zgN x == zgN y) = (x == y) := by
  by_cases h : x = y
  · subst h; simp
  · have : zgN x ≠ zgN y := fun e => h (by rw [← za_zg x, ← za_zg y, e])
    rw [beq_eq_false_iff_ne.2 this, beq_eq_false_iff_ne.2 h]
theorem near_cases (x y : Int) : ((0 ≤ x ∧ 0 ≤ y ∧ x < y) ∨ (x < 0 ∧ y < 0 ∧ y < x)) ∨ (0 ≤ x ∧ 0 ≤ y ∧ ¬ x < y) ∨ (0 ≤ x ∧ y < 0) ∨ (x < 0 ∧ 0 ≤ y) ∨ (x < 0 ∧ y < 0 ∧ ¬ y < x) := by omega

set_option maxRecDepth 100000 in
set_option maxHeartbeats 4000000 in
theorem zigs_any (x y u : Int) (w : World) (hx0 : -9223372036854775808 ≤ x) (hx1 : x < 9223372036854775808) (hy0 : -9223372036854775808 ≤ y) (hy1 : y < 9223372036854775808) (hu0 : 0 ≤ u) (hu1 : u < 18446744073709551616) :
    Calls Try.prog 11 #[.int .i64 x, .int .i64 y, .int .u64 u] w fun e w' => e = .returned (.bool true) ∧ Below w.heap.size w w' := by
  obtain ⟨A, hA⟩ : ∃ A, A = zgN x := ⟨_, rfl⟩
  obtain ⟨B, hB⟩ : ∃ B, B = zgN y := ⟨_, rfl⟩
  obtain ⟨Z, hZ⟩ : ∃ Z, Z = zaN u := ⟨_, rfl⟩
  have C1 : Hid (∀ w, Calls Try.prog 44 #[.int .i64 x] w fun e w' => e = .returned (.int .u64 A) ∧ w = w') := fun w => by rw [hA]; exact zig_any x w hx0 hx1
  have C2 : Hid (∀ w, Calls Try.prog 44 #[.int .i64 y] w fun e w' => e = .returned (.int .u64 B) ∧ w = w') := fun w => by rw [hB]; exact zig_any y w hy0 hy1
  have C3 : Hid (∀ w, Calls Try.prog 45 #[.int .i64 x] w fun e w' => e = .returned (.int .u64 A) ∧ w = w') := fun w => by rw [hA]; exact rzig_any x w hx0 hx1
  have C4 : Hid (∀ w, Calls Try.prog 46 #[.int .u64 u] w fun e w' => e = .returned (.int .i64 Z) ∧ w = w') := fun w => by rw [hZ]; exact zag_any u w hu0 hu1
  have C5 : Hid (∀ w, Calls Try.prog 47 #[.int .u64 u] w fun e w' => e = .returned (.int .i64 Z) ∧ w = w') := fun w => by rw [hZ]; exact rzag_any u w hu0 hu1
  have C6 : Hid (∀ w, Calls Try.prog 46 #[.int .u64 A] w fun e w' => e = .returned (.int .i64 x) ∧ w = w') := fun w => by
    have := zag_any A w (by rw [hA]; exact (zgN_range x hx0 hx1).1) (by rw [hA]; exact (zgN_range x hx0 hx1).2)
    rw [show zaN A = x from by rw [hA]; exact za_zg x] at this
    exact this
  have C7 : Hid (∀ w, Calls Try.prog 44 #[.int .i64 Z] w fun e w' => e = .returned (.int .u64 u) ∧ w = w') := fun w => by
    have := zig_any Z w (by rw [hZ]; exact (zaN_range u hu0 hu1).1) (by rw [hZ]; exact (zaN_range u hu0 hu1).2)
    rw [show zgN Z = u from by rw [hZ]; exact zg_za u hu0] at this
    exact this
  have hE : (A == B) = (x == y) := by rw [hA, hB]; exact zg_eq x y
  have HN : Hid (((0 ≤ x ∧ 0 ≤ y ∧ x < y) ∨ (x < 0 ∧ y < 0 ∧ y < x)) → A < B) := fun h => by rw [hA, hB]; exact zg_lt h
  clear hA hB hZ hx0 hx1 hy0 hy1 hu0 hu1
  obtain ⟨q, hq⟩ : ∃ q, q = (x == y) := ⟨_, rfl⟩
  rw [← hq] at hE
  have hq2 := hq.symm
  clear hq
  rcases near_cases x y with (⟨a1, a2, a3⟩ | ⟨a1, a2, a3⟩) | ⟨a1, a2, a3⟩ | ⟨a1, a2⟩ | ⟨a1, a2⟩ | ⟨a1, a2, a3⟩
  · have hlt := HN.out (.inl ⟨a1, a2, a3⟩)
    go_enter Try.func11, Try.ntmps11
    go_wp2_with fail
    refine (C1.out _).mono ?_
    rintro e w1 ⟨rfl, rfl⟩
    go_wp2_with fail
    refine (C2.out _).mono ?_
    rintro e w1 ⟨rfl, rfl⟩
    go_wp2_with fail
    refine (C3.out _).mono ?_
    rintro e w1 ⟨rfl, rfl⟩
    go_wp2_with fail
    refine (C4.out _).mono ?_
    rintro e w1 ⟨rfl, rfl⟩
    go_wp2_with fail
    refine (C5.out _).mono ?_
    rintro e w1 ⟨rfl, rfl⟩
    go_wp2_with fail
    refine (C6.out _).mono ?_
    rintro e w1 ⟨rfl, rfl⟩
    go_wp2_with fail
    refine (C4.out _).mono ?_
    rintro e w1 ⟨rfl, rfl⟩
    go_wp2_with fail
    refine (C7.out _).mono ?_
    rintro e w1 ⟨rfl, rfl⟩
    go_wp2_with fail
    refine (caw_any _).mono ?_
    rintro e w1 ⟨rfl, hb⟩
    have HB := Lib.hid hb
    clear hb
    go_wp2_with fail
    go_ret
    exact ⟨rfl, HB.out⟩
  · have hlt := HN.out (.inr ⟨a1, a2, a3⟩)
    go_enter Try.func11, Try.ntmps11
    go_wp2_with fail
    refine (C1.out _).mono ?_
    rintro e w1 ⟨rfl, rfl⟩
    go_wp2_with fail
    refine (C2.out _).mono ?_
    rintro e w1 ⟨rfl, rfl⟩
    go_wp2_with fail
    refine (C3.out _).mono ?_
    rintro e w1 ⟨rfl, rfl⟩
    go_wp2_with fail
    refine (C4.out _).mono ?_
    rintro e w1 ⟨rfl, rfl⟩
    go_wp2_with fail
    refine (C5.out _).mono ?_
    rintro e w1 ⟨rfl, rfl⟩
    go_wp2_with fail
    refine (C6.out _).mono ?_
    rintro e w1 ⟨rfl, rfl⟩
    go_wp2_with fail
    refine (C4.out _).mono ?_
    rintro e w1 ⟨rfl, rfl⟩
    go_wp2_with fail
    refine (C7.out _).mono ?_
    rintro e w1 ⟨rfl, rfl⟩
    go_wp2_with fail
    refine (caw_any _).mono ?_
    rintro e w1 ⟨rfl, hb⟩
    have HB := Lib.hid hb
    clear hb
    go_wp2_with fail
    go_ret
    exact ⟨rfl, HB.out⟩
  · clear HN
    go_enter Try.func11, Try.ntmps11
    go_wp2_with fail
    refine (C1.out _).mono ?_
    rintro e w1 ⟨rfl, rfl⟩
    go_wp2_with fail
    refine (C2.out _).mono ?_
    rintro e w1 ⟨rfl, rfl⟩
    go_wp2_with fail
    refine (C3.out _).mono ?_
    rintro e w1 ⟨rfl, rfl⟩
    go_wp2_with fail
    refine (C4.out _).mono ?_
    rintro e w1 ⟨rfl, rfl⟩
    go_wp2_with fail
    refine (C5.out _).mono ?_
    rintro e w1 ⟨rfl, rfl⟩
    go_wp2_with fail
    refine (C6.out _).mono ?_
    rintro e w1 ⟨rfl, rfl⟩
    go_wp2_with fail
    refine (C4.out _).mono ?_
    rintro e w1 ⟨rfl, rfl⟩
    go_wp2_with fail
    refine (C7.out _).mono ?_
    rintro e w1 ⟨rfl, rfl⟩
    go_wp2_with fail
    refine (caw_any _).mono ?_
    rintro e w1 ⟨rfl, hb⟩
    have HB := Lib.hid hb
    clear hb
    go_wp2_with fail
    go_ret
    exact ⟨rfl, HB.out⟩
  · clear HN
    go_enter Try.func11, Try.ntmps11
    go_wp2_with fail
    refine (C1.out _).mono ?_
    rintro e w1 ⟨rfl, rfl⟩
    go_wp2_with fail
    refine (C2.out _).mono ?_
    rintro e w1 ⟨rfl, rfl⟩
    go_wp2_with fail
    refine (C3.out _).mono ?_
    rintro e w1 ⟨rfl, rfl⟩
    go_wp2_with fail
    refine (C4.out _).mono ?_
    rintro e w1 ⟨rfl, rfl⟩
    go_wp2_with fail
    refine (C5.out _).mono ?_
    rintro e w1 ⟨rfl, rfl⟩
    go_wp2_with fail
    refine (C6.out _).mono ?_
    rintro e w1 ⟨rfl, rfl⟩
    go_wp2_with fail
    refine (C4.out _).mono ?_
    rintro e w1 ⟨rfl, rfl⟩
    go_wp2_with fail
    refine (C7.out _).mono ?_
    rintro e w1 ⟨rfl, rfl⟩
    go_wp2_with fail
    refine (caw_any _).mono ?_
    rintro e w1 ⟨rfl, hb⟩
    have HB := Lib.hid hb
    clear hb
    go_wp2_with fail
    go_ret
    exact ⟨rfl, HB.out⟩
  · clear HN
    go_enter Try.func11, Try.ntmps11
    go_wp2_with fail
    refine (C1.out _).mono ?_
    rintro e w1 ⟨rfl, rfl⟩
    go_wp2_with fail
    refine (C2.out _).mono ?_
    rintro e w1 ⟨rfl, rfl⟩
    go_wp2_with fail
    refine (C3.out _).mono ?_
    rintro e w1 ⟨rfl, rfl⟩
    go_wp2_with fail
    refine (C4.out _).mono ?_
    rintro e w1 ⟨rfl, rfl⟩
    go_wp2_with fail
    refine (C5.out _).mono ?_
    rintro e w1 ⟨rfl, rfl⟩
    go_wp2_with fail
    refine (C6.out _).mono ?_
    rintro e w1 ⟨rfl, rfl⟩
    go_wp2_with fail
    refine (C4.out _).mono ?_
    rintro e w1 ⟨rfl, rfl⟩
    go_wp2_with fail
    refine (C7.out _).mono ?_
    rintro e w1 ⟨rfl, rfl⟩
    go_wp2_with fail
    refine (caw_any _).mono ?_
    rintro e w1 ⟨rfl, hb⟩
    have HB := Lib.hid hb
    clear hb
    go_wp2_with fail
    go_ret
    exact ⟨rfl, HB.out⟩
  · clear HN
    go_enter Try.func11, Try.ntmps11
    go_wp2_with fail
    refine (C1.out _).mono ?_
    rintro e w1 ⟨rfl, rfl⟩
    go_wp2_with fail
    refine (C2.out _).mono ?_
    rintro e w1 ⟨rfl, rfl⟩
    go_wp2_with fail
    refine (C3.out _).mono ?_
    rintro e w1 ⟨rfl, rfl⟩
    go_wp2_with fail
    refine (C4.out _).mono ?_
    rintro e w1 ⟨rfl, rfl⟩
    go_wp2_with fail
    refine (C5.out _).mono ?_
    rintro e w1 ⟨rfl, rfl⟩
    go_wp2_with fail
    refine (C6.out _).mono ?_
    rintro e w1 ⟨rfl, rfl⟩
    go_wp2_with fail
    refine (C4.out _).mono ?_
    rintro e w1 ⟨rfl, rfl⟩
    go_wp2_with fail
    refine (C7.out _).mono ?_
    rintro e w1 ⟨rfl, rfl⟩
    go_wp2_with fail
    refine (caw_any _).mono ?_
    rintro e w1 ⟨rfl, hb⟩
    have HB := Lib.hid hb
    clear hb
    go_wp2_with fail
    go_ret
    exact ⟨rfl, HB.out⟩
end Go.Proofs.Ytmgngmnkmmhckaa
