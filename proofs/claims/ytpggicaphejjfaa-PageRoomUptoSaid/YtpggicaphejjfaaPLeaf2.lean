/-
  A leaf's entries: the program's leaf.
-/
import Derived.Test.YtpggicaphejjfaaPLeaf
set_option linter.unusedVariables false
namespace Go.Proofs.Ytpggicaphejjfaa
open Go.RowKit

/-- an entry of a leaf may be -/
def eOk (n : Nd) (most i : Nat) : Prop := (n.vals.getD i ⟨#[]⟩).size ≤ 4095 ∧ 3 + (n.keys.getD i ⟨#[]⟩).size + (n.vals.getD i ⟨#[]⟩).size ≤ most
/-- a leaf's entries may be -/
def LeafP (n : Nd) (most : Nat) : Prop := n.vals.length = n.keys.length ∧ n.kids.length = 0 ∧ ∀ i, i < n.vals.length → eOk n most i

set_option maxRecDepth 100000 in
set_option maxHeartbeats 2000000 in
theorem leaf_any (n : Nd) (A1 A2 A3 : Option Addr) (c1 c2 c3 most : Nat) (r : Bool) (w : World) (h1 : StrR w A1 n.keys) (h2 : StrR w A2 n.vals) (hl1 : n.keys.length ≤ 140737488355328) (hl2 : n.vals.length ≤ 140737488355328) (hl3 : n.kids.length ≤ 140737488355328)
    (hk : ∀ i, (n.keys.getD i ⟨#[]⟩).size ≤ 140737488355328) (hm : most ≤ 4096) (hr : r = true ↔ LeafP n most) :
    Calls Try.prog 35 #[.agg (ndC n A1 A2 A3 c1 c2 c3), .int .i64 most] w fun e w' => e = .returned (.bool r) ∧ Below w.heap.size w w' := by
  have hbx := Blk.new w 26 (ndC n A1 A2 A3 c1 c2 c3)
  have hB1 : Below w.heap.size w (w.alloc (.cells (ndC n A1 A2 A3 c1 c2 c3) 26)) := (Below.refl _ w).alloc (Nat.le_refl _) _
  obtain ⟨N1, hN1⟩ : ∃ N, N = n.keys.length := ⟨_, rfl⟩
  obtain ⟨N2, hN2⟩ : ∃ N, N = n.vals.length := ⟨_, rfl⟩
  obtain ⟨N3, hN3⟩ : ∃ N, N = n.kids.length := ⟨_, rfl⟩
  obtain ⟨lf, hlf⟩ : ∃ b, b = n.leaf := ⟨_, rfl⟩
  have HN := Lib.hid (And.intro hN1 (And.intro hN2 hN3))
  unfold ndC at hbx hB1 ⊢
  rw [← hN1] at hl1
  rw [← hN2] at hl2
  rw [← hN3] at hl3
  rw [← hN1, ← hN2, ← hN3, ← hlf] at hbx hB1 ⊢
  obtain ⟨w1, hw1⟩ : ∃ w1, w1 = w.alloc (.cells #[.bool lf, .slice A1 N1 c1, .slice A2 N2 c2, .slice A3 N3 c3] 26) := ⟨_, rfl⟩
  obtain ⟨bx, hbxe⟩ : ∃ bx, bx = w.heap.size := ⟨_, rfl⟩
  rw [← hw1] at hB1
  rw [← hw1, ← hbxe] at hbx
  have HW := Lib.hid (And.intro hw1 hbxe)
  have H0 := Lib.hid (And.intro (h1.below hB1) (And.intro (h2.below hB1) (And.intro hB1 (And.intro hk hr))))
  have x1 := hbx.cell 1
  have x2 := hbx.cell 2
  have x3 := hbx.cell 3
  simp at x1 x2 x3
  clear h1 h2 hB1 hk hr hN1 hN2 hN3 hlf hw1 hbxe hbx
  by_cases g1 : N2 = N1
  · by_cases g2 : N3 = 0
    · subst g1
      subst g2
      go_enter Try.func35, Try.ntmps35
      go_upto_region 1 with fail
      rw [← HW.out.1, ← HW.out.2]
      go_wp2_with fail
      go_loopg [23] N2 (fun g i wr => ∃ k : Nat, k + g = N2 ∧ i = .int .i64 k ∧ (∀ j, j < k → eOk n most j) ∧ wr = w1)
      case atStart => exact ⟨0, by omega, rfl, (fun j hj => absurd hj (by omega)), rfl⟩
      case round =>
        obtain ⟨k, hk, rfl, hall, rfl⟩ := hrel
        by_cases hlt : k < N2
        · have hno : Hid (¬ eOk n most k → r = false) := fun hn => by
            rw [Bool.eq_false_iff]
            intro e
            exact hn ((H0.out.2.2.2.2.1 e).2.2 k (by rw [← HN.out.2.1]; exact hlt))
          have hyes : Hid (eOk n most k → ∀ j, j < k + 1 → eOk n most j) := fun hk j hj => by
            rcases Nat.lt_succ_iff_lt_or_eq.1 hj with h | h
            · exact hall j h
            · rw [h]; exact hk
          clear hall
          obtain ⟨b1, o1, rfl, _, hcl1⟩ := H0.out.1 (by rw [← HN.out.1]; omega)
          obtain ⟨b2, o2, rfl, _, hcl2⟩ := H0.out.2.1 (by rw [← HN.out.2.1]; omega)
          have hcell1 := hcl1 k (by rw [← HN.out.1]; exact hlt)
          have hcell2 := hcl2 k (by rw [← HN.out.2.1]; exact hlt)
          have hks := H0.out.2.2.2.1 k
          have hdef : eOk n most k ↔ ((n.vals.getD k ⟨#[]⟩).size ≤ 4095 ∧ 3 + (n.keys.getD k ⟨#[]⟩).size + (n.vals.getD k ⟨#[]⟩).size ≤ most) := Iff.rfl
          obtain ⟨x, hx⟩ : ∃ x, x = n.keys.getD k ⟨#[]⟩ := ⟨_, rfl⟩
          obtain ⟨y, hy⟩ : ∃ y, y = n.vals.getD k ⟨#[]⟩ := ⟨_, rfl⟩
          rw [← hx] at hcell1 hdef hks
          rw [← hy] at hcell2 hdef
          obtain ⟨p, hp⟩ : ∃ p, p = x.size := ⟨_, rfl⟩
          obtain ⟨q, hq⟩ : ∃ q, q = y.size := ⟨_, rfl⟩
          have hp' : x.size = p := hp.symm
          have hq' : y.size = q := hq.symm
          rw [hp', hq'] at hdef
          rw [hp'] at hks
          have HD := Lib.hid hdef
          clear hx hy hcl1 hcl2 hdef hp hq
          by_cases h0 : q ≤ 4095
          · obtain ⟨s, hs⟩ : ∃ s, s = 3 + p := ⟨_, rfl⟩
            have hs1 : (3 : Int) + (p : Int) = (s : Int) := by omega
            have hs2 : s ≤ 140737488355331 := by omega
            obtain ⟨t, ht⟩ : ∃ t, t = s + q := ⟨_, rfl⟩
            have ht1 : (s : Int) + (q : Int) = (t : Int) := by omega
            have ht2 : t ≤ 140737488360000 := by omega
            by_cases h1 : t ≤ most
            · have hok := hyes.out (HD.out.2 ⟨h0, by omega⟩)
              have HY := Lib.hid hok
              clear hok hs ht
              go_wp2_with fail
              all_goals go_roundg (gk - 1)
              all_goals first | omega | exact ⟨k + 1, by omega, by go_num, HY.out, rfl⟩
            · have hrf := hno.out (fun h => h1 (by have := (HD.out.1 h).2; omega))
              subst hrf
              clear hs ht
              go_wp2_with fail
              all_goals first | (go_ret; exact ⟨rfl, H0.out.2.2.1⟩) | exact ⟨rfl, .bool false, by simp [results, Try.results35, go_sem], rfl, H0.out.2.2.1⟩
          · have hrf := hno.out (fun h => h0 (HD.out.1 h).1)
            subst hrf
            go_wp2_with fail
            all_goals first | (go_ret; exact ⟨rfl, H0.out.2.2.1⟩) | exact ⟨rfl, .bool false, by simp [results, Try.results35, go_sem], rfl, H0.out.2.2.1⟩
        · have hk2 : k = N2 := by omega
          have hrt : r = true := H0.out.2.2.2.2.2 ⟨by rw [← HN.out.1, ← HN.out.2.1], HN.out.2.2.symm, fun i hi => hall i (by have := HN.out.2.1; omega)⟩
          subst hrt hk2
          clear hall
          go_wp2_with fail
          go_ret
          exact ⟨rfl, H0.out.2.2.1⟩
    · have hrf : r = false := by
        rw [Bool.eq_false_iff]; intro e; exact g2 (by have := (H0.out.2.2.2.2.1 e).2.1; rw [← HN.out.2.2] at this; exact this)
      subst hrf
      have g2b : decide (0 < N3) = true := decide_eq_true (by omega)
      have g2c : decide ((0 : Int) < (N3 : Int)) = true := decide_eq_true (by omega)
      subst g1
      go_enter Try.func35, Try.ntmps35
      go_upto_region 1 with fail
      rw [← HW.out.1, ← HW.out.2]
      go_wp2_with fail
      go_ret
      exact ⟨rfl, H0.out.2.2.1⟩
  · have hrf : r = false := by
      rw [Bool.eq_false_iff]; intro e; exact g1 (by have := (H0.out.2.2.2.2.1 e).1; rw [← HN.out.1, ← HN.out.2.1] at this; exact this)
    subst hrf
    have g1b : ((N2 : Int) != (N1 : Int)) = true := by rw [bne_iff_ne]; omega
    go_enter Try.func35, Try.ntmps35
    go_upto_region 1 with fail
    rw [← HW.out.1, ← HW.out.2]
    go_wp2_with fail
    go_ret
    exact ⟨rfl, H0.out.2.2.1⟩
end Go.Proofs.Ytpggicaphejjfaa
