/-
  Two extents taken, one given back; any size.
-/
import Derived.Test.YtinjkjgahipimaaECov
set_option linter.unusedVariables false
namespace Go.Proofs.Ytinjkjgahipimaa
open Go.RowKit

theorem oD : OwnP sC 2 3 := ⟨by decide, by decide, by decide +kernel, by decide +kernel⟩
theorem fD : AllP sC.l 2 3 1 := (by decide +kernel : ∀ j, j < 3 → sC.l.getD (2 + j) 0 = 1)
theorem rD : room sD.l sD.f = 4 := by decide +kernel

set_option maxRecDepth 100000 in
set_option maxHeartbeats 2000000 in
theorem awake_any (w : World) : Calls Try.prog 15 #[] w fun e w' => e = .returned (.bool true) ∧ Below w.heap.size w w' := by
  have n6 := fun w => new_yes 2 10 w (by decide) (by decide)
  have HN := Lib.hid n6
  clear n6
  go_enter Try.func15, Try.ntmps15
  go_wp2_with fail
  refine (HN.out _).mono ?_
  rintro e w7 ⟨h, S, rfl, hm, hb, hS⟩
  have H7 := Lib.hid (And.intro hm (And.intro hb hS))
  clear hm hb hS
  go_wp2_with fail
  refine (alloc_yes w7 H7.out.1 sA_ok (n := 3) (by decide) (by decide) aA).mono ?_
  rintro e w8 ⟨rfl, hm, ho⟩
  have H8 := Lib.hid (And.intro hm (below_of_only H7.out.2.1 ho H7.out.2.2))
  clear hm ho
  go_wp2_with fail
  have hb8 := Blk.new w8 39 #[.int .i64 2, .int .i64 3]
  have hm8 := H8.out.1.below ((Below.refl _ w8).alloc (Nat.le_refl _) (.cells #[.int .i64 2, .int .i64 3] 39))
  obtain ⟨w9, hw9⟩ : ∃ w9, w9 = w8.alloc (.cells #[.int .i64 2, .int .i64 3] 39) := ⟨_, rfl⟩
  obtain ⟨g1, hg1⟩ : ∃ g, g = w8.heap.size := ⟨_, rfl⟩
  have hS1 : ¬ S g1 := fun hs => by have := H8.out.1.lt _ hs; omega
  have H9 : Hid (Mp w9 h S sB ∧ Below w.heap.size w w9 ∧ Blk w9 g1 39 #[.int .i64 2, .int .i64 3] ∧ ¬ S g1) := by
    rw [hw9, hg1]; exact ⟨hm8, H8.out.2.alloc H8.out.2.size _, hb8, by rw [← hg1]; exact hS1⟩
  rw [← hw9, ← hg1]
  clear hw9 hg1 hb8 hm8 hS1
  go_wp2_with fail
  refine (alloc_yes w9 H9.out.1 sB_ok (n := 4) (by decide) (by decide) aB).mono ?_
  rintro e w10 ⟨rfl, hm, ho⟩
  have H10 := Lib.hid (And.intro hm (And.intro (below_of_only H9.out.2.1 ho H7.out.2.2) (H9.out.2.2.1.only ho H9.out.2.2.2)))
  clear hm ho
  have hb8 := Blk.new w10 39 #[.int .i64 5, .int .i64 4]
  have hm8 := H10.out.1.below ((Below.refl _ w10).alloc (Nat.le_refl _) (.cells #[.int .i64 5, .int .i64 4] 39))
  go_upto_region 6 with fail
  obtain ⟨w11, hw9⟩ : ∃ w9, w9 = w10.alloc (.cells #[.int .i64 5, .int .i64 4] 39) := ⟨_, rfl⟩
  obtain ⟨g2, hg1⟩ : ∃ g, g = w10.heap.size := ⟨_, rfl⟩
  have H11 : Hid (Mp w11 h S sC ∧ Below w.heap.size w w11 ∧ Blk w11 g1 39 #[.int .i64 2, .int .i64 3] ∧ Blk w11 g2 39 #[.int .i64 5, .int .i64 4]) := by
    rw [hw9, hg1]; exact ⟨hm8, H10.out.2.1.alloc H10.out.2.1.size _, H10.out.2.2.alloc _, hb8⟩
  rw [← hw9, ← hg1]
  clear hw9 hg1 hb8 hm8
  have x0 := H11.out.2.2.1.cell 0
  have x1 := H11.out.2.2.1.cell 1
  have y0 := H11.out.2.2.2.cell 0
  have y1 := H11.out.2.2.2.cell 1
  simp at x0 x1 y0 y1
  go_wp2_with fail
  refine (free_ok h S sC 2 3 w11 H11.out.1 sC_ok oD fD).mono ?_
  rintro e w12 ⟨rfl, hm, ho⟩
  have H12 := Lib.hid (And.intro hm (below_of_only H11.out.2.1 ho H7.out.2.2))
  clear hm ho x0 x1 y0 y1
  go_wp2_with fail
  refine (room_any h S sD w12 H12.out.1 sD_ok).mono ?_
  rintro e w13 ⟨rfl, hb⟩
  rw [rD]
  have H13 := Lib.hid (below_step H12.out.2 hb)
  clear hb
  go_wp2_with fail
  go_ret
  exact ⟨rfl, H13.out⟩

theorem size_any (f n : Int) (w : World) : Calls Try.prog 13 #[.int .i64 f, .int .i64 n] w fun e w' => (∃ a b : Nat, a < 20 ∧ b < 120 ∧ e = .returned (.tuple #[.int .i64 a, .int .i64 (a + b : Nat)])) ∧ w = w' := by
  have t20 : -20 < Int.tmod f 20 ∧ Int.tmod f 20 < 20 := by
    rcases Int.le_total 0 f with h | h
    · rw [Int.tmod_eq_emod_of_nonneg h]; omega
    · have h2 : f = -(-f) := by omega
      rw [h2, Int.neg_tmod, Int.tmod_eq_emod_of_nonneg (by omega : 0 ≤ -f)]; omega
  have t120 : -120 < Int.tmod n 120 ∧ Int.tmod n 120 < 120 := by
    rcases Int.le_total 0 n with h | h
    · rw [Int.tmod_eq_emod_of_nonneg h]; omega
    · have h2 : n = -(-n) := by omega
      rw [h2, Int.neg_tmod, Int.tmod_eq_emod_of_nonneg (by omega : 0 ≤ -n)]; omega
  obtain ⟨t1, t2⟩ := t20
  obtain ⟨t3, t4⟩ := t120
  obtain ⟨a, ha⟩ : ∃ a, a = ((Int.tmod f 20 + 20) % 20).toNat := ⟨_, rfl⟩
  have ha1 : (Int.tmod f 20 + 20) % 20 = (a : Int) := by omega
  have ha2 : Int.tmod f 20 % 20 = (a : Int) := by omega
  obtain ⟨b, hb⟩ : ∃ b, b = ((Int.tmod n 120 + 120) % 120).toNat := ⟨_, rfl⟩
  have hb1 : (Int.tmod n 120 + 120) % 120 = (b : Int) := by omega
  have hb2 : Int.tmod n 120 % 120 = (b : Int) := by omega
  have ha3 : a < 20 := by omega
  have hb3 : b < 120 := by omega
  clear ha hb
  go_enter Try.func13, Try.ntmps13
  go_wp2_with fail
  go_ret2
  exact ⟨⟨a, b, ha3, hb3, by rw [Int.natCast_add, ← ha1]; rfl⟩, rfl⟩
end Go.Proofs.Ytinjkjgahipimaa
