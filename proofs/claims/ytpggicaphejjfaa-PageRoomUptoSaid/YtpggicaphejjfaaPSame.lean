/-
  The reference's Same: are two nodes one.
-/
import Derived.Test.YtpggicaphejjfaaPRCheck
set_option linter.unusedVariables false
namespace Go.Proofs.Ytpggicaphejjfaa
open Go.RowKit

theorem getD_ext {α : Type} {d : α} {l m : List α} (h : l.length = m.length) (hk : ∀ j, j < l.length → l.getD j d = m.getD j d) : l = m := by
  refine List.ext_getElem h fun i h1 h2 => ?_
  have := hk i h1
  simpa [List.getD, List.getElem?_eq_getElem h1, List.getElem?_eq_getElem h2] using this
theorem nd_ext {a b : Nd} (h1 : a.leaf = b.leaf) (h2 : a.keys = b.keys) (h3 : a.vals = b.vals) (h4 : a.kids = b.kids) : a = b := by
  cases a; cases b; simp_all
/-- what the walk keeps -/
def SmI (w : World) (a b : Nd) (A1 A2 A3 B1 B2 B3 : Option Addr) (bx ay : Nat) (ca cb : Array Value) (u : World) : Prop :=
  Below w.heap.size w u ∧ NdR u a A1 A2 A3 ∧ NdR u b B1 B2 B3 ∧ Blk u bx 25 ca ∧ Blk u ay 25 cb
theorem SmI.drewN {w : World} {a b : Nd} {A1 A2 A3 B1 B2 B3 : Option Addr} {bx ay : Nat} {ca cb : Array Value} {u : World} (h : SmI w a b A1 A2 A3 B1 B2 B3 bx ay ca cb u) (k : Nat) : SmI w a b A1 A2 A3 B1 B2 B3 bx ay ca cb (u.drewN k) :=
  ⟨below_drewN h.1 k, h.2.1.below (below_drewN (Below.refl _ u) k), h.2.2.1.below (below_drewN (Below.refl _ u) k), h.2.2.2.1.drewN k, h.2.2.2.2.drewN k⟩

set_option maxRecDepth 100000 in
set_option maxHeartbeats 4000000 in
theorem rsame_any (a b : Nd) (A1 A2 A3 B1 B2 B3 : Option Addr) (c1 c2 c3 d1 d2 d3 : Nat) (r : Bool) (w : World) (ha : NdR w a A1 A2 A3) (hb : NdR w b B1 B2 B3) (hr : r = true ↔ a = b) :
    Calls Try.prog 26 #[.agg (ndC a A1 A2 A3 c1 c2 c3), .agg (ndC b B1 B2 B3 d1 d2 d3)] w fun e w' => e = .returned (.bool r) ∧ Below w.heap.size w w' := by
  obtain ⟨w2, hw2⟩ : ∃ w2, w2 = (w.alloc (.cells (ndC a A1 A2 A3 c1 c2 c3) 25)).alloc (.cells (ndC b B1 B2 B3 d1 d2 d3) 25) := ⟨_, rfl⟩
  obtain ⟨bx, hbx⟩ : ∃ bx, bx = w.heap.size := ⟨_, rfl⟩
  obtain ⟨ay, hay⟩ : ∃ ay, ay = w.heap.size + 1 := ⟨_, rfl⟩
  have hsz : (w.alloc (.cells (ndC a A1 A2 A3 c1 c2 c3) 25)).heap.size = w.heap.size + 1 := by simp
  have hB2 : Below w.heap.size w w2 := by rw [hw2]; exact ((Below.refl _ w).alloc (Nat.le_refl _) _).alloc (by simp) _
  have hk1 : Blk w2 bx 25 (ndC a A1 A2 A3 c1 c2 c3) := by rw [hw2, hbx]; exact (Blk.new w 25 _).alloc _
  have hk2 : Blk w2 ay 25 (ndC b B1 B2 B3 d1 d2 d3) := by rw [hw2, hay, ← hsz]; exact Blk.new _ 25 _
  have hI : SmI w a b A1 A2 A3 B1 B2 B3 bx ay (ndC a A1 A2 A3 c1 c2 c3) (ndC b B1 B2 B3 d1 d2 d3) w2 := ⟨hB2, ha.below hB2, hb.below hB2, hk1, hk2⟩
  have hl1 := ha.l1
  have hl2 := ha.l2
  have hl3 := ha.l3
  have hm1 := hb.l1
  have hm2 := hb.l2
  have hm3 := hb.l3
  clear ha hb hB2 hk1 hk2 hsz
  unfold ndC at *
  obtain ⟨N1, hN1⟩ : ∃ N, N = a.keys.length := ⟨_, rfl⟩
  obtain ⟨N2, hN2⟩ : ∃ N, N = a.vals.length := ⟨_, rfl⟩
  obtain ⟨N3, hN3⟩ : ∃ N, N = a.kids.length := ⟨_, rfl⟩
  obtain ⟨lf, hlf⟩ : ∃ b, b = a.leaf := ⟨_, rfl⟩
  obtain ⟨M1, hM1⟩ : ∃ N, N = b.keys.length := ⟨_, rfl⟩
  obtain ⟨M2, hM2⟩ : ∃ N, N = b.vals.length := ⟨_, rfl⟩
  obtain ⟨M3, hM3⟩ : ∃ N, N = b.kids.length := ⟨_, rfl⟩
  obtain ⟨lg, hlg⟩ : ∃ q, q = b.leaf := ⟨_, rfl⟩
  rw [← hN1] at hl1
  rw [← hN2] at hl2
  rw [← hN3] at hl3
  rw [← hM1] at hm1
  rw [← hM2] at hm2
  rw [← hM3] at hm3
  rw [← hN1, ← hN2, ← hN3, ← hlf, ← hM1, ← hM2, ← hM3, ← hlg] at hw2 hI ⊢
  have HW := Lib.hid (And.intro hw2 (And.intro hbx hay))
  have HI := Lib.hid hI
  have HN := Lib.hid (And.intro hN1 (And.intro hN2 (And.intro hN3 hlf)))
  have HM := Lib.hid (And.intro hM1 (And.intro hM2 (And.intro hM3 hlg)))
  have HR := Lib.hid hr
  obtain ⟨_, _, _, hk1, hk2⟩ := hI
  have x0 := hk1.cell 0
  have x1 := hk1.cell 1
  have x2 := hk1.cell 2
  have x3 := hk1.cell 3
  have y0 := hk2.cell 0
  have y1 := hk2.cell 1
  have y2 := hk2.cell 2
  have y3 := hk2.cell 3
  simp at x0 x1 x2 x3 y0 y1 y2 y3
  clear hw2 hbx hay hN1 hN2 hN3 hlf hM1 hM2 hM3 hlg hr hk1 hk2
  go_enter Try.func26, Try.ntmps26
  go_upto_region 1 with fail
  rw [← HW.out.1, ← HW.out.2.2, ← HW.out.2.1]
  have hfalse : Hid (a ≠ b → r = false) := fun h => by rw [Bool.eq_false_iff]; intro e; exact h (HR.out.1 e)
  by_cases g0 : lf = lg
  · subst g0
    by_cases g1 : N1 = M1
    · subst g1
      by_cases g2 : N2 = M2
      · subst g2
        by_cases g3 : N3 = M3
        · subst g3
          clear hm1 hm2 hm3
          have g0b : (lf != lf) = false := by cases lf <;> rfl
          go_wp2_with fail
          clear x0 x1 x2 x3 y0 y1 y2 y3
          go_loopg [5] N1 (fun g i wr => ∃ k : Nat, k + g = N1 ∧ i = .int .i64 k ∧ (∀ j, j < k → a.keys.getD j ⟨#[]⟩ = b.keys.getD j ⟨#[]⟩) ∧ SmI w a b A1 A2 A3 B1 B2 B3 bx ay #[.bool lf, .slice A1 N1 c1, .slice A2 N2 c2, .slice A3 N3 c3] #[.bool lf, .slice B1 N1 d1, .slice B2 N2 d2, .slice B3 N3 d3] wr)
          case atStart => exact ⟨0, by omega, rfl, (fun j hj => absurd hj (by omega)), HI.out⟩
          case round =>
            obtain ⟨k, hk, rfl, hall, hI⟩ := hrel
            have HJ := Lib.hid hI
            have x1 := hI.2.2.2.1.cell 1
            have y1 := hI.2.2.2.2.cell 1
            simp at x1 y1
            clear hI
            by_cases hlt : k < N1
            · obtain ⟨p1, o1, rfl, _, hcl1⟩ := HJ.out.2.1.k (by rw [← HN.out.1]; omega)
              obtain ⟨p2, o2, rfl, _, hcl2⟩ := HJ.out.2.2.1.k (by rw [← HM.out.1]; omega)
              have hc1 := hcl1 k (by rw [← HN.out.1]; exact hlt)
              have hc2 := hcl2 k (by rw [← HM.out.1]; exact hlt)
              obtain ⟨x, hx⟩ : ∃ x, x = a.keys.getD k ⟨#[]⟩ := ⟨_, rfl⟩
              obtain ⟨y, hy⟩ : ∃ y, y = b.keys.getD k ⟨#[]⟩ := ⟨_, rfl⟩
              rw [← hx] at hc1
              rw [← hy] at hc2
              have HA := Lib.hid (And.intro hall (And.intro hx hy))
              have hkI0 : (0 : Int) ≤ (k : Int) := by omega
              have hkI1 : (k : Int) < (N1 : Int) := by omega
              clear hall hcl1 hcl2 hx hy
              by_cases hxy : x = y
              · have HX := Lib.hid hxy
                subst hxy
                go_wp2_with fail
                go_quiet (fail)
                go_wp2_with fail
                go_roundg (gk - 1)
                case measure => omega
                case rel =>
                  refine ⟨k + 1, by omega, by go_num, fun j hj => ?_, HJ.out.drewN _⟩
                  rcases Nat.lt_succ_iff_lt_or_eq.1 hj with h | h
                  · exact HA.out.1 j h
                  · subst h; rw [← HA.out.2.1, ← HA.out.2.2]
              · have hrf := hfalse.out (fun e => hxy (by rw [HA.out.2.1, HA.out.2.2, e]))
                subst hrf
                have hx1 := toList_ne hxy
                go_wp2_with fail
                go_quiet (fail)
                go_wp2_with fail
                go_ret
                exact ⟨rfl, below_drewN HJ.out.1 _⟩
            · have hk2 : N1 = k := by omega
              have HEkeys : Hid (a.keys = b.keys) := getD_ext (by rw [← HN.out.1, ← HM.out.1]) (fun j hj => hall j (by have := HN.out.1; omega))
              subst hk2
              clear hall
              go_wp2_with fail
              clear x1 y1
              go_loopg [6] N2 (fun g i wr => ∃ k : Nat, k + g = N2 ∧ i = .int .i64 k ∧ (∀ j, j < k → a.vals.getD j ⟨#[]⟩ = b.vals.getD j ⟨#[]⟩) ∧ SmI w a b A1 A2 A3 B1 B2 B3 bx ay #[.bool lf, .slice A1 N1 c1, .slice A2 N2 c2, .slice A3 N3 c3] #[.bool lf, .slice B1 N1 d1, .slice B2 N2 d2, .slice B3 N3 d3] wr)
              case atStart => exact ⟨0, by omega, rfl, (fun j hj => absurd hj (by omega)), HJ.out⟩
              case round =>
                obtain ⟨k, hk, rfl, hall, hI⟩ := hrel
                have HJ := Lib.hid hI
                have x2 := hI.2.2.2.1.cell 2
                have y2 := hI.2.2.2.2.cell 2
                simp at x2 y2
                clear hI
                by_cases hlt : k < N2
                · obtain ⟨p1, o1, rfl, _, hcl1⟩ := HJ.out.2.1.v (by rw [← HN.out.2.1]; omega)
                  obtain ⟨p2, o2, rfl, _, hcl2⟩ := HJ.out.2.2.1.v (by rw [← HM.out.2.1]; omega)
                  have hc1 := hcl1 k (by rw [← HN.out.2.1]; exact hlt)
                  have hc2 := hcl2 k (by rw [← HM.out.2.1]; exact hlt)
                  obtain ⟨x, hx⟩ : ∃ x, x = a.vals.getD k ⟨#[]⟩ := ⟨_, rfl⟩
                  obtain ⟨y, hy⟩ : ∃ y, y = b.vals.getD k ⟨#[]⟩ := ⟨_, rfl⟩
                  rw [← hx] at hc1
                  rw [← hy] at hc2
                  have HA := Lib.hid (And.intro hall (And.intro hx hy))
                  have hkI0 : (0 : Int) ≤ (k : Int) := by omega
                  have hkI1 : (k : Int) < (N2 : Int) := by omega
                  clear hall hcl1 hcl2 hx hy
                  by_cases hxy : x = y
                  · have HX := Lib.hid hxy
                    subst hxy
                    go_wp2_with fail
                    go_quiet (fail)
                    go_wp2_with fail
                    go_roundg (N2 - k - 1)
                    case measure => omega
                    case rel =>
                      refine ⟨k + 1, by omega, by go_num, fun j hj => ?_, HJ.out.drewN _⟩
                      rcases Nat.lt_succ_iff_lt_or_eq.1 hj with h | h
                      · exact HA.out.1 j h
                      · subst h; rw [← HA.out.2.1, ← HA.out.2.2]
                  · have hrf := hfalse.out (fun e => hxy (by rw [HA.out.2.1, HA.out.2.2, e]))
                    subst hrf
                    have hx1 := toList_ne hxy
                    go_wp2_with fail
                    go_quiet (fail)
                    go_wp2_with fail
                    go_ret
                    exact ⟨rfl, below_drewN HJ.out.1 _⟩
                · have hk2 : N2 = k := by omega
                  have HEvals : Hid (a.vals = b.vals) := getD_ext (by rw [← HN.out.2.1, ← HM.out.2.1]) (fun j hj => hall j (by have := HN.out.2.1; omega))
                  subst hk2
                  clear hall
                  go_wp2_with fail
                  clear x2 y2
                  go_loopg [7] N3 (fun g i wr => ∃ k : Nat, k + g = N3 ∧ i = .int .i64 k ∧ (∀ j, j < k → a.kids.getD j 0 = b.kids.getD j 0) ∧ SmI w a b A1 A2 A3 B1 B2 B3 bx ay #[.bool lf, .slice A1 N1 c1, .slice A2 N2 c2, .slice A3 N3 c3] #[.bool lf, .slice B1 N1 d1, .slice B2 N2 d2, .slice B3 N3 d3] wr)
                  case atStart => exact ⟨0, by omega, rfl, (fun j hj => absurd hj (by omega)), HJ.out⟩
                  case round =>
                    obtain ⟨k, hk, rfl, hall, hI⟩ := hrel
                    have HJ := Lib.hid hI
                    have x3 := hI.2.2.2.1.cell 3
                    have y3 := hI.2.2.2.2.cell 3
                    simp at x3 y3
                    clear hI
                    by_cases hlt : k < N3
                    · obtain ⟨p1, o1, rfl, _, hcl1⟩ := HJ.out.2.1.i (by rw [← HN.out.2.2.1]; omega)
                      obtain ⟨p2, o2, rfl, _, hcl2⟩ := HJ.out.2.2.1.i (by rw [← HM.out.2.2.1]; omega)
                      have hc1 := hcl1 k (by rw [← HN.out.2.2.1]; exact hlt)
                      have hc2 := hcl2 k (by rw [← HM.out.2.2.1]; exact hlt)
                      obtain ⟨x, hx⟩ : ∃ x, x = a.kids.getD k 0 := ⟨_, rfl⟩
                      obtain ⟨y, hy⟩ : ∃ y, y = b.kids.getD k 0 := ⟨_, rfl⟩
                      rw [← hx] at hc1
                      rw [← hy] at hc2
                      have HA := Lib.hid (And.intro hall (And.intro hx hy))
                      have hkI0 : (0 : Int) ≤ (k : Int) := by omega
                      have hkI1 : (k : Int) < (N3 : Int) := by omega
                      clear hall hcl1 hcl2 hx hy
                      by_cases hxy : x = y
                      · have HX := Lib.hid hxy
                        subst hxy
                        go_wp2_with fail
                        go_quiet (fail)
                        go_wp2_with fail
                        go_roundg (N3 - k - 1)
                        case measure => omega
                        case rel =>
                          refine ⟨k + 1, by omega, by go_num, fun j hj => ?_, HJ.out.drewN _⟩
                          rcases Nat.lt_succ_iff_lt_or_eq.1 hj with h | h
                          · exact HA.out.1 j h
                          · subst h; rw [← HA.out.2.1, ← HA.out.2.2]
                      · have hrf := hfalse.out (fun e => hxy (by rw [HA.out.2.1, HA.out.2.2, e]))
                        subst hrf
                        have hx1 : ((x : Int) == (y : Int)) = false := by rw [beq_eq_false_iff_ne]; omega
                        have hx2 : ¬ ((x : Int) = (y : Int)) := by omega
                        go_wp2_with fail
                        go_quiet (fail)
                        go_wp2_with fail
                        go_ret
                        exact ⟨rfl, below_drewN HJ.out.1 _⟩
                    · have hk2 : N3 = k := by omega
                      have HEkids : Hid (a.kids = b.kids) := getD_ext (by rw [← HN.out.2.2.1, ← HM.out.2.2.1]) (fun j hj => hall j (by have := HN.out.2.2.1; omega))
                      subst hk2
                      clear hall
                      have hrt : r = true := HR.out.2 (nd_ext (by rw [← HN.out.2.2.2, ← HM.out.2.2.2]) HEkeys.out HEvals.out HEkids.out)
                      subst hrt
                      go_wp2_with fail
                      go_ret
                      exact ⟨rfl, HJ.out.1⟩
        · have hrf := hfalse.out (fun e => g3 (by rw [HN.out.2.2.1, HM.out.2.2.1, e]))
          subst hrf
          have q1 : ((N3 : Int) != (M3 : Int)) = true := by rw [bne_iff_ne]; omega
          have q2 : ((N3 : Int) == (M3 : Int)) = false := by rw [beq_eq_false_iff_ne]; omega
          have g0b : (lf != lf) = false := by cases lf <;> rfl
          go_wp2_with fail
          go_ret
          exact ⟨rfl, HI.out.1⟩
      · have hrf := hfalse.out (fun e => g2 (by rw [HN.out.2.1, HM.out.2.1, e]))
        subst hrf
        have q1 : ((N2 : Int) != (M2 : Int)) = true := by rw [bne_iff_ne]; omega
        have q2 : ((N2 : Int) == (M2 : Int)) = false := by rw [beq_eq_false_iff_ne]; omega
        have g0b : (lf != lf) = false := by cases lf <;> rfl
        go_wp2_with fail
        go_ret
        exact ⟨rfl, HI.out.1⟩
    · have hrf := hfalse.out (fun e => g1 (by rw [HN.out.1, HM.out.1, e]))
      subst hrf
      have q1 : ((N1 : Int) != (M1 : Int)) = true := by rw [bne_iff_ne]; omega
      have q2 : ((N1 : Int) == (M1 : Int)) = false := by rw [beq_eq_false_iff_ne]; omega
      have g0b : (lf != lf) = false := by cases lf <;> rfl
      go_wp2_with fail
      go_ret
      exact ⟨rfl, HI.out.1⟩
  · have hrf := hfalse.out (fun e => g0 (by rw [HN.out.2.2.2, HM.out.2.2.2, e]))
    subst hrf
    have q1 : (lf != lg) = true := by cases lf <;> cases lg <;> simp_all
    have q2 : (lf == lg) = false := by cases lf <;> cases lg <;> simp_all
    go_wp2_with fail
    go_ret
    exact ⟨rfl, HI.out.1⟩
end Go.Proofs.Ytpggicaphejjfaa
