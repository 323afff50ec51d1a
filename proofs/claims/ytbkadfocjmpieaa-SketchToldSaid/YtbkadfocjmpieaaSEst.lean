/-
  How many hashes a sketch has, about: the walk.
-/
import Derived.Test.YtbkadfocjmpieaaSSum
import Derived.Test.YtbkadfocjmpieaaSDiv2
import Derived.Test.YtbkadfocjmpieaaSExp2
import Derived.Laws.Rows
set_option linter.unusedVariables false
namespace Go.Proofs.Ytbkadfocjmpieaa
open Go.RowKit

def cells41 (c : Nat → Nat) : Array Value := ((List.range 41).map fun j => Value.int .u64 (c j : Nat)).toArray
theorem cells41_get (c : Nat → Nat) {j : Nat} (h : j < 41) : (cells41 c)[j]? = some (.int .u64 (c j : Nat)) := by
  unfold cells41
  simp [h]
theorem cells41_set (c d : Nat → Nat) {j : Nat} (hj : j < 41) (h2 : ∀ i, i ≠ j → d i = c i) : (cells41 c).setIfInBounds j (.int .u64 (d j : Nat)) = cells41 d := by
  unfold cells41
  refine Array.ext (by simp) fun i h1 h3 => ?_
  simp only [List.setIfInBounds_toArray, List.getElem_toArray, List.getElem_set, List.getElem_map, List.getElem_range]
  split
  · rename_i e; subst e; rfl
  · rename_i e; rw [h2 i (fun x => e x.symm)]
theorem cells41_size (c : Nat → Nat) : (cells41 c).size = 41 := by unfold cells41; simp
theorem ix41 (c : Nat → Nat) (w : World) (k : Nat) (hk : k < 41) : (Instr.index 44 (.agg (cells41 c)) (.int .i64 k)).run Try.prog w = .ok (.int .u64 (c k : Nat)) w := by
  have a := Try.isAgg22
  have s := Try.sizeOf22
  have h := cells41_get c hk
  have h2 := cells41_size c
  simp [Instr.index, run_underlying Try.underlying44, asIntOf, go_sem, part, a, s, h2, hk]
  rw [Array.getElem?_eq_getElem (by rw [h2]; exact hk)] at h
  exact Option.some.inj h
theorem est_no (s : ByteArray) (w : World) (hs : s.size ≤ 140737488355328) (hn : ¬ exOk s) : Calls Try.prog 8 #[.string s] w fun e w' => e = .returned (.tuple #[.int .u64 0, .int .i64 4]) ∧ w = w' := by
  have hc := exp_any s w hs
  rw [(ex_no hn).1, (ex_no hn).2] at hc
  have HC := Lib.hid hc
  clear hc hn
  go_enter Try.func8, Try.ntmps8
  go_wp2_with fail
  refine HC.out.mono ?_
  rintro e w' ⟨rfl, rfl⟩
  go_wp2_with fail
  go_ret2
  exact ⟨rfl, rfl⟩

set_option maxRecDepth 100000 in
set_option maxHeartbeats 8000000 in
theorem est_yes (s : ByteArray) (w : World) (hy : exOk s) : Calls Try.prog 8 #[.string s] w fun e w' => e = .returned (.tuple #[.int .u64 (esV s : Nat), .int .i64 0]) ∧ Below w.heap.size w w' := by
  obtain ⟨⟨h4, h16, hsz⟩, hall⟩ := id hy
  have h216 : 2 ^ exP s ≤ 2 ^ 16 := Nat.pow_le_pow_right (by decide) h16
  have h24 : 2 ^ 4 ≤ 2 ^ exP s := Nat.pow_le_pow_right (by decide) h4
  have e16 : (2 : Nat) ^ 16 = 65536 := by decide
  have e4 : (2 : Nat) ^ 4 = 16 := by decide
  have hs : s.size ≤ 65536 := by omega
  have hs1 : 1 ≤ s.size := by omega
  have hc := exp_any s w (by omega)
  rw [(ex_yes hy).1, (ex_yes hy).2] at hc
  have HC := Lib.hid hc
  clear hc hy h4 h16 hsz hall h216 h24 e16 e4
  have hb0 := Blk.new w 44 (cells41 (cn s 0))
  have hB : Hid (Below w.heap.size w (w.alloc (.cells (cells41 (cn s 0)) 44))) := (Below.refl _ _).alloc (Nat.le_refl _) _
  go_enter Try.func8, Try.ntmps8
  go_wp2_with fail
  refine HC.out.mono ?_
  rintro e w' ⟨rfl, rfl⟩
  go_upto_region 5 with fail
  obtain ⟨w1, hw1⟩ : ∃ w1, w1 = w.alloc (.cells (cells41 (cn s 0)) 44) := ⟨_, rfl⟩
  obtain ⟨g, hg⟩ : ∃ g, g = w.heap.size := ⟨_, rfl⟩
  rw [show w.alloc (.cells #[.int .u64 0, .int .u64 0, .int .u64 0, .int .u64 0, .int .u64 0, .int .u64 0, .int .u64 0, .int .u64 0, .int .u64 0, .int .u64 0, .int .u64 0, .int .u64 0, .int .u64 0, .int .u64 0, .int .u64 0, .int .u64 0, .int .u64 0, .int .u64 0, .int .u64 0, .int .u64 0, .int .u64 0, .int .u64 0, .int .u64 0, .int .u64 0, .int .u64 0, .int .u64 0, .int .u64 0, .int .u64 0, .int .u64 0, .int .u64 0, .int .u64 0, .int .u64 0, .int .u64 0, .int .u64 0, .int .u64 0, .int .u64 0, .int .u64 0, .int .u64 0, .int .u64 0, .int .u64 0, .int .u64 0] 44) = w1 from hw1.symm]
  have H1 : Hid (Blk w1 g 44 (cells41 (cn s 0)) ∧ Below w.heap.size w w1 ∧ w.heap.size ≤ g) := by rw [hw1, hg]; exact ⟨hb0, hB.out, Nat.le_refl _⟩
  rw [← hg]
  clear hw1 hg hb0 hB
  go_upto_block 0 with fail
  go_cut [] (fun wx => Blk wx g 44 (cells41 (cn s s.size)) ∧ Below w.heap.size w wx)
  case first =>
    go_wp2_with fail
    go_loopg [28] s.size (fun gg i wr => ∃ k : Nat, k + gg = s.size ∧ i = .int .i64 k ∧ Blk wr g 44 (cells41 (cn s k)) ∧ Below w.heap.size w wr)
    case atStart => exact ⟨0, by omega, rfl, H1.out.1, H1.out.2.1⟩
    case round =>
      obtain ⟨k, hk, rfl, hb, hbel⟩ := hrel
      have HR := Lib.hid (And.intro hb hbel)
      clear hb hbel
      by_cases hlt : k < s.size
      · have hgd := sN_getD s k hlt
        have hx : s[k].toNat ≤ 255 := by have := s[k].toNat_lt; omega
        obtain ⟨q, hq⟩ : ∃ q, q = mn s k := ⟨_, rfl⟩
        have hq40 : q ≤ 40 := by rw [hq]; exact mn_le s k
        have hmN : min 40 s[k].toNat = q := by rw [hq]; unfold mn; rw [hgd]
        have hmI : min (40 : Int) (s[k].toNat : Int) = (q : Int) := by omega
        have hcn := cn_le s k q
        have c0 : wr.cell? ⟨g, q, none⟩ = some (.int .u64 (cn s k q : Nat)) := by rw [HR.out.1.cell q]; exact cells41_get _ (by omega)
        have f0 := HR.out.1.frozen q
        obtain ⟨c, hce⟩ : ∃ c, c = cn s k q := ⟨_, rfl⟩
        rw [← hce] at hcn c0
        have hst : cn s (k + 1) q = c + 1 := by rw [hce, hq]; show cn s k (mn s k) + (if mn s k = mn s k then 1 else 0) = _; rw [if_pos rfl]
        have hoth : ∀ i, i ≠ q → cn s (k + 1) i = cn s k i := fun i hi => by show cn s k i + (if mn s k = i then 1 else 0) = _; rw [if_neg (fun e => hi (by rw [hq, e]))]; rfl
        have HS : Hid (Blk (wr.setCell ⟨g, q, none⟩ (.int .u64 ((c : Int) + 1))) g 44 (cells41 (cn s (k + 1)))) := by
          have := HR.out.1.set_ q (.int .u64 (cn s (k + 1) q : Nat))
          rw [cells41_set (cn s k) (cn s (k + 1)) (by omega) hoth, hst] at this
          exact this
        clear hgd hq hce hst hoth
        go_wp2_with fail
        go_roundg (gk - 1)
        case measure => omega
        case rel => exact ⟨k + 1, by omega, by go_num, HS.out, HR.out.2.setCell (p := ⟨g, q, none⟩) H1.out.2.2 _⟩
      · have hkn : k = s.size := by omega
        have hb := HR.out.1
        rw [hkn] at hb
        have HF := Lib.hid hb
        clear hb hkn
        go_wp2_with fail
        go_meet
        exact ⟨HF.out, HR.out.2⟩
  case rest =>
    have H2 := Lib.hid hcut
    clear hcut H1
    obtain ⟨C, hC⟩ : ∃ C, C = cn s s.size := ⟨_, rfl⟩
    rw [← hC] at H2
    have hS41 : wS C 41 = sI s s.size := by rw [hC]; exact wS_cn s s.size
    have hCl : ∀ j, C j ≤ 65536 := fun j => by rw [hC]; have := cn_le s s.size j; omega
    have hTb := sI_bd s s.size
    obtain ⟨T, hT⟩ : ∃ T, T = sI s s.size := ⟨_, rfl⟩
    rw [← hT] at hS41 hTb
    have hT56 : T ≤ 72057594037927936 := by omega
    have HC2 := Lib.hid (And.intro hC (And.intro hS41 (And.intro hCl (And.intro hTb (And.intro hT hT56)))))
    clear hC hS41 hCl hTb hT hT56
    have hsz41 : (Try.prog.info? 44).map (·.size) = some (cells41 C).size := by rw [cells41_size]; kernel_rfl
    go_upto_region 11 with fail
    go_upto_block 2 with (refine wpList_load_row rfl 44 (.tmp 6) rfl g rfl 44 (cells41 C) (0, 0) _ H2.out.1 Try.underlying44 rfl hsz41 ?_)
    go_cut [8] (fun s8 wx => s8 = .int .u64 (T : Nat) ∧ wx = wc)
    case first =>
      go_wp2_with fail
      go_loopg [8, 42] 41 (fun gg s8 i wr => ∃ r : Nat, r + gg = 41 ∧ i = .int .i64 r ∧ s8 = .int .u64 (wS C r : Nat) ∧ wr = wc)
      case atStart => exact ⟨0, by omega, rfl, rfl, rfl⟩
      case round =>
        obtain ⟨r, hr, rfl, rfl, rfl⟩ := hrel
        by_cases hlt : r < 41
        · have hix := fun w => ix41 C w r hlt
          have hcr := HC2.out.2.2.1 r
          have hmono := wS_mono C (show r + 1 ≤ 41 by omega)
          rw [HC2.out.2.1] at hmono
          have hT56 := HC2.out.2.2.2.2.2
          have hstep : wS C (r + 1) = wS C r + C r * 2 ^ (40 - r) := rfl
          obtain ⟨cr, hcre⟩ : ∃ cr, cr = C r := ⟨_, rfl⟩
          obtain ⟨t, ht⟩ : ∃ t, t = 40 - r := ⟨_, rfl⟩
          obtain ⟨S, hS⟩ : ∃ S, S = wS C r := ⟨_, rfl⟩
          rw [← hS, ← hcre, ← ht] at hstep
          rw [← hcre] at hcr hix
          obtain ⟨X, hX⟩ : ∃ X, X = cr * 2 ^ t := ⟨_, rfl⟩
          rw [← hX] at hstep
          have hti : (40 : Int) - (r : Int) = (t : Int) := by omega
          have hXw : IntKind.u64.wrap ((cr : Int) * 2 ^ t) = (X : Int) := by rw [cast_mul_pow, ← hX]; exact wrap_nat64 _ (by omega)
          have hSw : IntKind.u64.wrap ((S : Int) + (X : Int)) = ((S + X : Nat) : Int) := by
            rw [show ((S : Int) + (X : Int)) = ((S + X : Nat) : Int) by omega]; exact wrap_nat64 _ (by omega)
          rw [← hS]
          have HS := Lib.hid (And.intro hstep hS)
          clear hstep hS hcre ht hX hmono hT56
          go_wp2_with fail
          go_roundg (gk - 1)
          case measure => omega
          case rel => exact ⟨r + 1, by omega, by go_num, by rw [HS.out.1, Int.natCast_add], rfl⟩
        · have hr41 : r = 41 := by omega
          have hfin : wS C r = T := by rw [hr41]; exact HC2.out.2.1
          have HF := Lib.hid hfin
          clear hfin hr41
          go_wp2_with fail
          go_meet
          exact ⟨by rw [HF.out], rfl⟩
    case rest =>
      obtain ⟨rfl, rfl⟩ := hcut
      obtain ⟨m, hm⟩ : ∃ m, m = s.size := ⟨_, rfl⟩
      have hmi : (s.size : Int) = (m : Int) := by omega
      have hmN : s.size = m := hm.symm
      obtain ⟨q1, q2⟩ := estQ_lt s hs1 hs
      rw [← HC2.out.2.2.2.2.1] at q1
      obtain ⟨Q, hQ⟩ : ∃ Q, Q = estQ s := ⟨_, rfl⟩
      rw [← hQ] at q2
      have hQe : Q = xM m * 1099511627776 / T := by rw [hQ, hm, HC2.out.2.2.2.2.1]; rfl
      rw [← hm] at q1
      obtain ⟨A2, hA2⟩ : ∃ A2, A2 = 7213 * m * m := ⟨_, rfl⟩
      obtain ⟨A3, hA3⟩ : ∃ A3, A3 = A2 * m := ⟨_, rfl⟩
      obtain ⟨D, hD⟩ : ∃ D, D = 10000 * m + 10790 := ⟨_, rfl⟩
      obtain ⟨X, hX⟩ : ∃ X, X = A3 / D := ⟨_, rfl⟩
      have hXx : xM m = X := by rw [hX, hA3, hA2, hD]; rfl
      rw [hXx] at q1 hQe
      have hm16 : m ≤ 65536 := by omega
      have hA2b : A2 ≤ 30979599106048 := by
        rw [hA2]; have := Nat.mul_le_mul (show 7213 * m ≤ 472711168 by omega) hm16; omega
      have hA3b : A3 ≤ 2030279007013961728 := by
        rw [hA3]; have := Nat.mul_le_mul hA2b hm16; omega
      have k2 : (7213 : Int) * (m : Int) * (m : Int) = (A2 : Int) := by rw [hA2]; simp
      have k3 : (A2 : Int) * (m : Int) = (A3 : Int) := by rw [hA3]; simp
      have k4 : (10000 : Int) * (m : Int) + 10790 = (D : Int) := by omega
      have k5 : (A3 : Int) / (D : Int) = (X : Int) := by rw [hX]; rfl
      have hXb : X ≤ 4294967296 := by
        have h1 := xM_le m hm16
        rw [hXx] at h1
        have h2 := Nat.mul_le_mul hm16 hm16
        omega
      have hD0 : ¬ (D : Int) = 0 := by omega
      have hDb : D ≤ 655370790 := by omega
      obtain ⟨hi, hhi⟩ : ∃ hi, hi = X * 1099511627776 / 18446744073709551616 := ⟨_, rfl⟩
      obtain ⟨lo, hlo⟩ : ∃ lo, lo = X * 1099511627776 % 18446744073709551616 := ⟨_, rfl⟩
      rw [← hhi] at q1
      have hlob : lo < 18446744073709551616 := by rw [hlo]; exact Nat.mod_lt _ (by decide)
      have hMul : Hid (∀ w, Calls Try.prog 22 #[.int .u64 X, .int .u64 1099511627776] w fun e w' => e = .returned (.tuple #[.int .u64 (hi : Nat), .int .u64 (lo : Nat)]) ∧ w = w') := by
        intro w
        refine (bits_Mul64 X 1099511627776 (by omega) (by decide) w).mono ?_
        rintro e w' ⟨rfl, rfl⟩
        rw [← hhi, ← hlo]
        exact ⟨rfl, rfl⟩
      have hDiv : Hid (∀ w, Calls Try.prog 23 #[.int .u64 hi, .int .u64 lo, .int .u64 T] w (DvP Q w)) := by
        intro w
        have := div64_any hi lo T w q1 (by have := HC2.out.2.2.2.2.2; omega) hlob
        rw [show hi * 18446744073709551616 + lo = X * 1099511627776 by omega, ← hQe] at this
        exact this
      obtain ⟨z, hz⟩ : ∃ z, z = C 0 := ⟨_, rfl⟩
      have hzm : z ≤ m := by rw [hz, HC2.out.1, hm]; exact cn_le s s.size 0
      have hE : esV s = if z = 0 ∨ 5 * m < 2 * Q then Q else tS m z (m - z) / 1048576 := by
        unfold esV; rw [← hQ, ← HC2.out.1, ← hz, ← hm]
      have HE := Lib.hid hE
      have Hz := Lib.hid hz
      have c0 : wc.cell? ⟨g, 0, none⟩ = some (.int .u64 (z : Nat)) := by rw [H2.out.1.cell 0, hz]; exact cells41_get _ (by decide)
      clear hm hQ hQe hA2 hA3 hD hX hXx hhi hlo hlob hz hE q1
      go_wp2_with fail
      refine (hMul.out _).mono ?_
      rintro e w' ⟨rfl, rfl⟩
      go_wp2_with fail
      refine (hDiv.out _).mono ?_
      rintro e w' ⟨⟨r, rfl⟩, nd, rfl⟩
      have hc0 : (wc.drewN nd).cell? ⟨g, 0, none⟩ = some (.int .u64 (z : Nat)) := c0
      have HBf : Hid (Below w.heap.size w (wc.drewN nd)) := ((Only.of_below (F := fun _ => False) H2.out.2).drewN nd).below (fun _ _ e => e) (Nat.le_refl _)
      clear c0
      by_cases hz0 : z = 0
      · have hEq : esV s = Q := by rw [HE.out, if_pos (.inl hz0)]
        subst hz0
        have HEq := Lib.hid hEq
        clear hEq
        go_wp2_with fail
        go_ret2
        rw [HEq.out]
        exact ⟨rfl, HBf.out⟩
      · have hzb : ((z : Int) == 0) = false := by simp; omega
        by_cases hgt : 5 * m < 2 * Q
        · have hEq : esV s = Q := by rw [HE.out, if_pos (.inr hgt)]
          have hd : decide ((5 : Int) * (m : Int) < 2 * (Q : Int)) = true := decide_eq_true (by omega)
          have HEq := Lib.hid hEq
          clear hEq hz0
          go_wp2_with fail
          go_ret2
          rw [HEq.out]
          exact ⟨rfl, HBf.out⟩
        · have hEq : esV s = tS m z (m - z) / 1048576 := by rw [HE.out, if_neg (by omega)]
          have hd : decide ((5 : Int) * (m : Int) < 2 * (Q : Int)) = false := decide_eq_false (by omega)
          have HEq := Lib.hid hEq
          clear hEq hz0
          go_wp2_with fail
          go_loopg [16, 17] (m - z) (fun gg s16 s17 wr => ∃ d : Nat, d + gg = m - z ∧ s17 = .int .u64 (z + d + 1 : Nat) ∧ s16 = .int .u64 (tS m z d : Nat) ∧ wr = wc.drewN nd)
          case atStart => exact ⟨0, by omega, by go_num, rfl, rfl⟩
          case round =>
            obtain ⟨d, hd2, rfl, rfl, rfl⟩ := hrel
            obtain ⟨i, hi⟩ : ∃ i, i = z + d + 1 := ⟨_, rfl⟩
            rw [← hi]
            have htb := tS_bd m z d
            have hmm : d * (m * 1048576) ≤ 65536 * (65536 * 1048576) := Nat.mul_le_mul (by omega) (Nat.mul_le_mul hm16 (Nat.le_refl _))
            have hstep : tS m z (d + 1) = tS m z d + m * 1048576 / i := by rw [hi]; rfl
            obtain ⟨S, hS⟩ : ∃ S, S = tS m z d := ⟨_, rfl⟩
            rw [← hS] at htb hstep ⊢
            have hSb : S ≤ 4503599627370496 := by omega
            have hi0 : ¬ (i : Int) = 0 := by omega
            have hib : i ≤ 65537 := by omega
            have hi1 : 1 ≤ i := by omega
            obtain ⟨Y, hY⟩ : ∃ Y, Y = m * 1048576 / i := ⟨_, rfl⟩
            have hYi : ((m : Int) * 1048576) / (i : Int) = (Y : Int) := by rw [hY]; rfl
            have hYb : Y ≤ 68719476736 := by
              have : m * 1048576 / i ≤ m * 1048576 := Nat.div_le_self _ _
              omega
            rw [← hY] at hstep
            have HS := Lib.hid (And.intro hstep (And.intro hS hi))
            by_cases hlt : i ≤ m
            · have hlI : decide ((i : Int) ≤ (m : Int)) = true := decide_eq_true (by omega)
              have hgg : d + 1 + (gk - 1) = m - z := by omega
              have hgm : gk - 1 < gk := by omega
              clear hstep hS hi hY htb hmm hd2
              go_wp2_with fail
              go_roundg (gk - 1)
              case measure => exact hgm
              case rel => exact ⟨d + 1, hgg, by have := HS.out.2.2; rw [this]; go_num, by rw [HS.out.1, Int.natCast_add], rfl⟩
            · have hlI : decide ((i : Int) ≤ (m : Int)) = false := decide_eq_false (by omega)
              have hdm : d = m - z := by omega
              have hfin : esV s = S / 1048576 := by rw [HEq.out, hS, hdm]
              have HF := Lib.hid hfin
              clear hstep hS hi hY htb hmm hd2 hdm hfin
              go_wp2_with fail
              go_ret2
              rw [HF.out]
              exact ⟨rfl, HBf.out⟩
end Go.Proofs.Ytbkadfocjmpieaa
