/-
  The law's does: Alloc; all kinds of call.
-/
import Derived.Test.YtinjkjgahipimaaEDoes2
set_option linter.unusedVariables false
namespace Go.Proofs.Ytinjkjgahipimaa
open Go.RowKit

set_option maxRecDepth 100000 in
set_option maxHeartbeats 2000000 in
theorem does_alloc (h hr : Nat) (S R : Nat → Prop) (s : St) (who n a b : Int) (w : World) (m : Mp w h S s) (r : Rm w hr R s) (ok : s.Ok) (hd : ∀ k, S k → ¬ R k) (hn : n ≤ 9223372036854775807) :
    Calls Try.prog 31 #[.pointer (some ⟨h, 0, none⟩), .pointer (some ⟨hr, 0, none⟩), .agg #[.int .i64 0, .int .i64 who, .int .i64 n, .int .i64 a, .int .i64 b]] w (DoP w h hr S R) := by
  obtain ⟨cs, hcs⟩ : ∃ cs : Array Value, cs = #[.int .i64 0, .int .i64 who, .int .i64 n, .int .i64 a, .int .i64 b] := ⟨_, rfl⟩
  have hM := MidB.start m r hd cs
  obtain ⟨x, y, e, s', hB⟩ := alloc_both h hr s ok n hn
  have hC1 : ∀ u, MidB w h hr S R w.heap.size cs s s u → Calls Try.prog 17 #[.pointer (some ⟨h, 0, none⟩), .int .i64 n] u fun e1 w' => e1 = .returned (.tuple #[.agg #[.int .i64 x, .int .i64 y], .int .i64 e]) ∧ MidB w h hr S R w.heap.size cs s' s w' := fun u M => M.call1 (fun S1 m1 => hB.2.1 u S1 m1)
  have hC2 : ∀ u Z, Mid w h hr S R Z s' s u → Calls Try.prog 44 #[.pointer (some ⟨hr, 0, none⟩), .int .i64 n] u fun e1 w' => e1 = .returned (.tuple #[.agg #[.int .i64 x, .int .i64 y], .int .i64 e]) ∧ Mid w h hr S R Z s' s' w' ∧ Only (fun k => ¬ Z k) u w' := fun u Z M => M.call2 (fun R1 m1 => hB.2.2 u R1 m1)
  have hOk := hB.1
  obtain ⟨w1, hw1⟩ : ∃ w1, w1 = w.alloc (.cells cs 41) := ⟨_, rfl⟩
  obtain ⟨bx, hbx⟩ : ∃ bx, bx = w.heap.size := ⟨_, rfl⟩
  rw [← hw1, ← hbx] at hM
  rw [← hbx] at hC1
  have hcell : ∀ u, Blk u bx 41 cs → u.cell? ⟨bx, 0, none⟩ = some (.int .i64 0) ∧ u.cell? ⟨bx, 2, none⟩ = some (.int .i64 n) := fun u M => by
    rw [hcs] at M
    exact ⟨M.cell 0, M.cell 2⟩
  have HW := Lib.hid (And.intro hw1 (And.intro hbx hcs))
  have HM := Lib.hid (And.intro hM hOk)
  have HC1 := Lib.hid hC1
  have HC2 := Lib.hid hC2
  have HL := Lib.hid hcell
  clear hM hC1 hC2 hOk hB hw1 hbx m r hd ok hcell hcs
  go_enter Try.func31, Try.ntmps31
  go_upto_region 1 with fail
  rw [← HW.out.2.2, ← HW.out.1, ← HW.out.2.1]
  obtain ⟨x0, x2⟩ := HL.out _ HM.out.1.2
  go_wp2_with fail
  refine (HC1.out _ HM.out.1).mono ?_
  rintro e1 y1 ⟨rfl, hm⟩
  have K1 := Lib.hid hm
  clear hm x0 x2
  go_upto_region 4 with fail
  obtain ⟨u, hu⟩ : ∃ u, u = y1.alloc (.cells #[.int .i64 x, .int .i64 y] 39) := ⟨_, rfl⟩
  obtain ⟨b7, hb7⟩ : ∃ b7, b7 = y1.heap.size := ⟨_, rfl⟩
  have HB7 : Hid (Blk u b7 39 #[.int .i64 x, .int .i64 y] ∧ Blk u bx 41 cs ∧ Mid w h hr S R (fun k => k = bx ∨ k = b7) s' s u) := by
    rw [hu, hb7]
    exact ⟨Blk.new _ _ _, K1.out.2.alloc _, K1.out.1.new _⟩
  rw [← hu, ← hb7]
  clear hu hb7
  obtain ⟨_, x2⟩ := HL.out _ HB7.out.2.1
  go_wp2_with fail
  refine (HC2.out _ _ HB7.out.2.2).mono ?_
  rintro e1 y2 ⟨rfl, hm, ho⟩
  have hb2 := HB7.out.1.only ho (fun e => e (.inr rfl))
  have K2 := Lib.hid (And.intro hm hb2)
  clear hm ho x2
  go_upto_region 5 with fail
  obtain ⟨v, hv⟩ : ∃ v, v = y2.alloc (.cells #[.int .i64 x, .int .i64 y] 39) := ⟨_, rfl⟩
  obtain ⟨b9, hb9⟩ : ∃ b9, b9 = y2.heap.size := ⟨_, rfl⟩
  have HB9 : Hid (Blk v b9 39 #[.int .i64 x, .int .i64 y] ∧ Blk v b7 39 #[.int .i64 x, .int .i64 y] ∧ Mid w h hr S R (fun k => k = bx ∨ k = b7) s' s' v) := by
    rw [hv, hb9]
    exact ⟨Blk.new _ _ _, K2.out.2.alloc _, K2.out.1.below ((Below.refl _ y2).alloc (Nat.le_refl _) _)⟩
  rw [← hv, ← hb9]
  clear hv hb9 hb2
  have z0 := HB9.out.2.1.cell 0
  have z1 := HB9.out.2.1.cell 1
  have t0 := HB9.out.1.cell 0
  have t1 := HB9.out.1.cell 1
  simp at z0 z1 t0 t1
  go_wp2_with fail
  go_ret
  exact ⟨by simp, s', HM.out.2, _, HB9.out.2.2⟩
theorem does_any (h hr : Nat) (S R : Nat → Prop) (s : St) (kd who n a b : Int) (w : World) (m : Mp w h S s) (r : Rm w hr R s) (ok : s.Ok) (hd : ∀ k, S k → ¬ R k) (hn : n ≤ 9223372036854775807) :
    Calls Try.prog 31 #[.pointer (some ⟨h, 0, none⟩), .pointer (some ⟨hr, 0, none⟩), .agg #[.int .i64 kd, .int .i64 who, .int .i64 n, .int .i64 a, .int .i64 b]] w (DoP w h hr S R) := by
  by_cases k0 : kd = 0
  · subst k0; exact does_alloc h hr S R s who n a b w m r ok hd hn
  by_cases k1 : kd = 1
  · subst k1; exact does_free h hr S R s who n a b w m r ok hd
  by_cases k2 : kd = 2
  · subst k2; exact does_take h hr S R s who n a b w m r ok hd
  by_cases k3 : kd = 3
  · subst k3; exact does_begin h hr S R s who n a b w m r ok hd
  by_cases k4 : kd = 4
  · subst k4; exact does_commit h hr S R s who n a b w m r ok hd
  by_cases k5 : kd = 5
  · subst k5; exact does_abort h hr S R s who n a b w m r ok hd
  exact does_taken h hr S R s kd who n a b w m r ok hd k0 k1 k2 k3 k4 k5
end Go.Proofs.Ytinjkjgahipimaa
