/-
  The reference's Bytes.
-/
import Derived.Test.YtpggicaphejjfaaPRef
set_option linter.unusedVariables false
namespace Go.Proofs.Ytpggicaphejjfaa
open Go.RowKit

set_option maxRecDepth 100000 in
set_option maxHeartbeats 4000000 in
theorem rbytes_any (n : Nd) (A1 A2 A3 : Option Addr) (c1 c2 c3 : Nat) (w : World) (h : NdR w n A1 A2 A3) :
    Calls Try.prog 18 #[.agg (ndC n A1 A2 A3 c1 c2 c3)] w fun e w' => e = .returned (.int .i64 (wrap64 (bytesN n : Nat))) ∧ Below w.heap.size w w' := by
  have hbx := Blk.new w 25 (ndC n A1 A2 A3 c1 c2 c3)
  have hB1 : Below w.heap.size w (w.alloc (.cells (ndC n A1 A2 A3 c1 c2 c3) 25)) := (Below.refl _ w).alloc (Nat.le_refl _) _
  obtain ⟨w1, hw1⟩ : ∃ w1, w1 = w.alloc (.cells (ndC n A1 A2 A3 c1 c2 c3) 25) := ⟨_, rfl⟩
  obtain ⟨bx, hbxe⟩ : ∃ bx, bx = w.heap.size := ⟨_, rfl⟩
  rw [← hw1] at hB1
  rw [← hw1, ← hbxe] at hbx
  have h' := h.below hB1
  have hzk := h.z
  have hzv := h.b
  unfold bytesN at *
  unfold ndC at *
  obtain ⟨lf, keys, vals, kids⟩ := n
  have hk := h'.k
  have hv := h'.v
  have hl1 := h.l1
  have hl2 := h.l2
  have hl3 := h.l3
  simp only at hzk hzv hk hv hl1 hl2 hl3 hbx hw1 ⊢
  obtain ⟨N1, hN1⟩ : ∃ N, N = keys.length := ⟨_, rfl⟩
  obtain ⟨N2, hN2⟩ : ∃ N, N = vals.length := ⟨_, rfl⟩
  obtain ⟨N3, hN3⟩ : ∃ N, N = kids.length := ⟨_, rfl⟩
  rw [← hN1] at hl1
  rw [← hN2] at hl2
  rw [← hN3] at hl3
  rw [← hN1, ← hN2, ← hN3] at hbx hw1 ⊢
  have HN := Lib.hid (And.intro hN1 (And.intro hN2 (And.intro hN3 (And.intro hzk hzv))))
  have HW := Lib.hid (And.intro hw1 hbxe)
  have HS := Lib.hid (And.intro hk (And.intro hv hB1))
  have x0 := hbx.cell 0
  have x1 := hbx.cell 1
  have x2 := hbx.cell 2
  have x3 := hbx.cell 3
  simp at x0 x1 x2 x3
  clear h h' hbx hB1 hw1 hbxe hk hv hN1 hN2 hN3 hzk hzv
  obtain ⟨d, hd⟩ : ∃ d : Nat, d = (if lf = true then 3 else 1) := ⟨_, rfl⟩
  go_enter Try.func18, Try.ntmps18
  go_upto_region 1 with fail
  rw [← HW.out.1, ← HW.out.2]
  go_wp2_with fail
  go_loopg [3, 4] N1 (fun g v3 v4 wr => ∃ k : Nat, k + g = N1 ∧ v4 = .int .i64 k ∧ v3 = .int .i64 (wrap64 ((3 + szs keys d k : Nat) : Int)) ∧ wr = w1)
  case atStart => exact ⟨0, by omega, rfl, by rw [wrap_ofNat (by show 3 + 0 ≤ _; decide)]; rfl, rfl⟩
  case round =>
    obtain ⟨k, hk, rfl, rfl, rfl⟩ := hrel
    by_cases hlt : k < N1
    · obtain ⟨b, off, rfl, _, hcl⟩ := HS.out.1 (by rw [← HN.out.1]; omega)
      have hcell := hcl k (by rw [← HN.out.1]; exact hlt)
      have hz1 := HN.out.2.2.2.1 k
      obtain ⟨x, hx⟩ : ∃ x, x = keys.getD k ⟨#[]⟩ := ⟨_, rfl⟩
      rw [← hx] at hcell hz1
      obtain ⟨z, hz⟩ : ∃ z, z = x.size := ⟨_, rfl⟩
      have hz' : x.size = z := hz.symm
      rw [hz'] at hz1
      obtain ⟨m, hm⟩ : ∃ m, m = wrap64 ((3 + szs keys d k : Nat) : Int) := ⟨_, rfl⟩
      have hnext : 3 + szs keys d (k + 1) = 3 + szs keys d k + z + d := by show 3 + (szs keys d k + ((keys.getD k ⟨#[]⟩).size + d)) = _; rw [← hx, hz]; omega
      obtain ⟨y, hy⟩ : ∃ y, y = wrap64 (m + (z : Int)) := ⟨_, rfl⟩
      have hstep := wrap_step (d := d) (hy.trans (wrap_step (d := z) hm))
      rw [← hnext] at hstep
      have hy1 : wrap64 (m + (z : Int)) = y := hy.symm
      have hz2 : z ≤ 140737488360000 := by omega
      rw [← hm]
      cases lf with
      | true =>
        obtain rfl : d = 3 := by rw [hd]; rfl
        have HF : Hid (wrap64 (y + 3) = wrap64 ((3 + szs keys 3 (k + 1) : Nat) : Int)) := hstep
        clear hx hz hm hnext hy hcl hd hstep hz1
        go_wp2_with fail
        go_roundg (gk - 1)
        case measure => omega
        case rel => exact ⟨k + 1, by omega, by go_num, by rw [← HF.out], rfl⟩
      | false =>
        obtain rfl : d = 1 := by rw [hd]; rfl
        have HF : Hid (wrap64 (y + 1) = wrap64 ((3 + szs keys 1 (k + 1) : Nat) : Int)) := hstep
        clear hx hz hm hnext hy hcl hd hstep hz1
        go_wp2_with fail
        go_roundg (gk - 1)
        case measure => omega
        case rel => exact ⟨k + 1, by omega, by go_num, by rw [← HF.out], rfl⟩
    · have hk2 : k = N1 := by omega
      subst hk2
      obtain ⟨m, hm⟩ : ∃ m, m = wrap64 ((3 + szs keys d k : Nat) : Int) := ⟨_, rfl⟩
      rw [← hm]
      cases lf with
      | true =>
        obtain rfl : d = 3 := by rw [hd]; rfl
        have HM := Lib.hid hm
        clear hd
        have hm0 : m = wrap64 ((3 + szs keys 3 k + szs vals 0 0 : Nat) : Int) := hm
        have HM0 := Lib.hid hm0
        clear hm hm0
        go_wp2_with fail
        go_loopg [3, 5] N2 (fun g v3 v5 wz => ∃ j : Nat, j + g = N2 ∧ v5 = .int .i64 j ∧ v3 = .int .i64 (wrap64 ((3 + szs keys 3 k + szs vals 0 j : Nat) : Int)) ∧ wz = wr)
        case atStart => exact ⟨0, by omega, rfl, by rw [← HM0.out], rfl⟩
        case round =>
          obtain ⟨j, hj, rfl, rfl, rfl⟩ := hrel
          by_cases hlt2 : j < N2
          · obtain ⟨b, off, rfl, _, hcl⟩ := HS.out.2.1 (by rw [← HN.out.2.1]; omega)
            have hcell := hcl j (by rw [← HN.out.2.1]; exact hlt2)
            have hz1 := HN.out.2.2.2.2 j
            obtain ⟨x, hx⟩ : ∃ x, x = vals.getD j ⟨#[]⟩ := ⟨_, rfl⟩
            rw [← hx] at hcell hz1
            obtain ⟨z, hz⟩ : ∃ z, z = x.size := ⟨_, rfl⟩
            have hz' : x.size = z := hz.symm
            rw [hz'] at hz1
            obtain ⟨q, hq⟩ : ∃ q, q = wrap64 ((3 + szs keys 3 k + szs vals 0 j : Nat) : Int) := ⟨_, rfl⟩
            have hnext : 3 + szs keys 3 k + szs vals 0 (j + 1) = 3 + szs keys 3 k + szs vals 0 j + z := by show 3 + szs keys 3 k + (szs vals 0 j + ((vals.getD j ⟨#[]⟩).size + 0)) = _; rw [← hx, hz]; omega
            have hstep := wrap_step (d := z) hq
            rw [← hnext] at hstep
            have HF : Hid (wrap64 (q + (z : Int)) = wrap64 ((3 + szs keys 3 k + szs vals 0 (j + 1) : Nat) : Int)) := hstep
            have hz2 : z ≤ 140737488360000 := by omega
            rw [← hq]
            clear hx hz hq hnext hstep hz1 hcl
            go_wp2_with fail
            go_roundg (N2 - j - 1)
            case measure => omega
            case rel => exact ⟨j + 1, by omega, by go_num, by rw [← HF.out], rfl⟩
          · have hj2 : j = N2 := by omega
            subst hj2
            go_wp2_with fail
            go_ret
            exact ⟨by simp, HS.out.2.2⟩
      | false =>
        obtain rfl : d = 1 := by rw [hd]; rfl
        obtain ⟨q, hq⟩ : ∃ q, q = 4 * N3 := ⟨_, rfl⟩
        have hq1 : (4 : Int) * (N3 : Int) = (q : Int) := by omega
        have hstep := wrap_step (d := q) hm
        rw [hq] at hstep
        have hq2 : q ≤ 140737488360000000 := by omega
        have HM := Lib.hid (And.intro hm (And.intro hq hstep))
        clear hm hd hq hstep
        go_wp2_with fail
        go_ret
        exact ⟨by rw [HM.out.2.1, HM.out.2.2]; simp, HS.out.2.2⟩
end Go.Proofs.Ytpggicaphejjfaa
