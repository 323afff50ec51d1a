/-
  The reference's: are all blocks of an extent so; its Take, Free, Taken.
-/
import Derived.Test.YtinjkjgahipimaaERSet
set_option linter.unusedVariables false
namespace Go.Proofs.Ytinjkjgahipimaa
open Go.RowKit

set_option maxRecDepth 100000 in
set_option maxHeartbeats 2000000 in
theorem rall_any (h : Nat) (S : Nat → Prop) (s : St) (a b v : Nat) (r : Bool) (w : World) (m : Rm w h S s) (hab : a + b ≤ s.l.length) (hle : s.l.length ≤ 4096) (hr : r = true ↔ AllP s.l a b v) :
    Calls Try.prog 55 #[.pointer (some ⟨h, 0, none⟩), .agg #[.int .i64 a, .int .i64 b], .int .i64 v] w fun e w' => e = .returned (.bool r) ∧ Below w.heap.size w w' := by
  obtain ⟨A, c, V, hbk, hown⟩ := m.own
  have hbx := Blk.new w 39 #[.int .i64 a, .int .i64 b]
  obtain ⟨N, hN⟩ : ∃ N, N = s.l.length := ⟨_, rfl⟩
  rw [← hN] at hab hle hbk hown
  have hBe : Below w.heap.size w (w.alloc (.cells #[.int .i64 a, .int .i64 b] 39)) := (Below.refl _ w).alloc (Nat.le_refl _) _
  have hcl : N ≤ c := by
    rcases hown.2 with ⟨e, h0⟩ | ⟨g, cap, cur, e, _, _, h5, _⟩
    · omega
    · cases e; exact h5
  have H0 := Lib.hid (And.intro hbx (And.intro hBe (And.intro hbk hown)))
  have HN := Lib.hid hN
  have HR := Lib.hid hr
  clear hbx hBe hbk hown m hN hr
  go_enter Try.func55, Try.ntmps55
  go_upto_region 1 with fail
  obtain ⟨w1, hw1⟩ : ∃ w1, w1 = w.alloc (.cells #[.int .i64 a, .int .i64 b] 39) := ⟨_, rfl⟩
  obtain ⟨bx, hbx⟩ : ∃ bx, bx = w.heap.size := ⟨_, rfl⟩
  rw [← hw1, ← hbx] at H0
  rw [← hw1, ← hbx]
  have HB : Hid (Below w.heap.size w w1) := by rw [← hbx]; exact H0.out.2.1
  clear hw1 hbx
  go_wp2_with fail
  go_loopg [7] b (fun g i wr => ∃ k : Nat, k + g = b ∧ i = .int .i64 k ∧ (∀ j, j < k → s.l.getD (a + j) 0 = v) ∧ Below w.heap.size w wr ∧ Blk wr bx 39 #[.int .i64 a, .int .i64 b])
  case atStart => exact ⟨0, by omega, rfl, (fun j hj => absurd hj (by omega)), HB.out, H0.out.1⟩
  case round =>
    obtain ⟨k, hk, rfl, hall, hbel, hb⟩ := hrel
    have x1 := hb.cell 1
    simp at x1
    by_cases hlt : k < b
    · have hbk := H0.out.2.2.1.below hbel H0.out.2.2.1.lt
      have hsrc := Src.own H0.out.2.2.2
      obtain ⟨q, hq⟩ : ∃ q, q = a + k := ⟨_, rfl⟩
      obtain ⟨a0, rfl, hcell⟩ := hsrc q _ (i64s_get (by rw [← HN.out]; omega))
      obtain ⟨u, hu⟩ : ∃ u, u = s.l.getD q 0 := ⟨_, rfl⟩
      rw [← hu] at hcell
      have hcell := (hbel.cell (World.block_lt_of_cell? w _ hcell)).trans hcell
      obtain ⟨go, ge⟩ : ∃ go, a0 = ⟨go, 0, none⟩ := by
        rcases H0.out.2.2.2.2 with ⟨e, _⟩ | ⟨g, cap, cur, e, _⟩
        · cases e
        · cases e; exact ⟨g, rfl⟩
      subst ge
      rw [Addr.add_lit, Nat.zero_add] at hcell
      have c1 := hbk.cell 2
      have x0 := hb.cell 0
      simp at c1 x0
      have hqi : (a : Int) + (k : Int) = (q : Int) := by omega
      have hqw : IntKind.i64.wrap ((a : Int) + (k : Int)) = (q : Int) := by rw [hqi]; exact IntWalk.i64_in _ (by omega)
      have hqN : q < N := by omega
      have hqN2 : (q : Int) < (N : Int) := by omega
      have HA := Lib.hid (And.intro hall (And.intro hbel (And.intro hb (And.intro hq hu))))
      clear hall hbel hb hq hu hsrc hbk
      by_cases huv : u = v
      · have hd1 : ((u : Int) != (v : Int)) = false := by simp [huv]
        have HV := Lib.hid huv
        clear huv
        go_wp2_with fail
        go_quiet (fail)
        go_wp2_with fail
        go_roundg (gk - 1)
        case measure => omega
        case rel =>
          refine ⟨k + 1, by omega, by go_num, fun j hj => ?_, below_drewN HA.out.2.1 _, HA.out.2.2.1.drewN _⟩
          rcases Nat.lt_succ_iff_lt_or_eq.1 hj with h | h
          · exact HA.out.1 j h
          · subst h; rw [← HA.out.2.2.2.1, ← HA.out.2.2.2.2]; exact HV.out
      · have hd1 : ((u : Int) != (v : Int)) = true := by rw [bne_iff_ne]; intro e; exact huv (by omega)
        have hrf : r = false := by
          rw [Bool.eq_false_iff]
          intro e
          have := HR.out.1 e k hlt
          rw [← HA.out.2.2.2.1, ← HA.out.2.2.2.2] at this
          exact huv this
        subst hrf
        clear huv
        go_wp2_with fail
        go_quiet (fail)
        go_wp2_with fail
        go_ret
        exact ⟨rfl, below_drewN HA.out.2.1 _⟩
    · obtain rfl : k = b := by omega
      have HX := Lib.hid (And.intro hall hbel)
      have hrt : r = true := HR.out.2 hall
      subst hrt
      clear hall hbel hb
      go_wp2_with fail
      go_ret
      exact ⟨rfl, HX.out.2⟩
end Go.Proofs.Ytinjkjgahipimaa
