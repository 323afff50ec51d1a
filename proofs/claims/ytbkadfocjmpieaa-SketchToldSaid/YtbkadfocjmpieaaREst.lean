/-
  The reference: Estimate.
-/
import Derived.Test.YtbkadfocjmpieaaRDiv
import Derived.Test.YtbkadfocjmpieaaRNew
set_option linter.unusedVariables false
namespace Go.Proofs.Ytbkadfocjmpieaa
open Go.RowKit

set_option maxRecDepth 100000 in
set_option maxHeartbeats 1000000 in
theorem rest_no (s : ByteArray) (w : World) (hs : s.size ≤ 140737488355328) (hn : ¬ exOk s) : Calls Try.prog 16 #[.string s] w fun e w' => e = .returned (.tuple #[.int .u64 0, .int .i64 4]) ∧ w = w' := by
  have hc := rexp_any s w hs
  rw [(ex_no hn).1, (ex_no hn).2] at hc
  have HC := Lib.hid hc
  clear hc hn
  go_enter Try.func16, Try.ntmps16
  go_wp2_with fail
  refine HC.out.mono ?_
  rintro e w' ⟨rfl, rfl⟩
  go_wp2_with fail
  go_ret2
  exact ⟨rfl, rfl⟩

set_option maxRecDepth 100000 in
set_option maxHeartbeats 4000000 in
theorem rest_yes (s : ByteArray) (w : World) (hy : exOk s) : Calls Try.prog 16 #[.string s] w fun e w' => e = .returned (.tuple #[.int .u64 (esV s : Nat), .int .i64 0]) ∧ w = w' := by
  have hs := ex_size hy
  have hc := rexp_any s w (by omega)
  rw [(ex_yes hy).1, (ex_yes hy).2] at hc
  have hs1 : 1 ≤ s.size := by rw [hy.1.2.2]; exact Nat.one_le_two_pow
  have HC := Lib.hid hc
  clear hc hy
  have hTb := sI_bd s s.size
  obtain ⟨T, hT⟩ : ∃ T, T = sI s s.size := ⟨_, rfl⟩
  rw [← hT] at hTb
  have hT56 : T ≤ 72057594037927936 := by omega
  obtain ⟨z, hz⟩ : ∃ z, z = cn s s.size 0 := ⟨_, rfl⟩
  have hzm : z ≤ s.size := by rw [hz]; exact cn_le s s.size 0
  have hT1 : 1 ≤ T := by omega
  have HT := Lib.hid (And.intro hT hz)
  obtain ⟨m, hm⟩ : ∃ m, m = s.size := ⟨_, rfl⟩
  have hmi : (s.size : Int) = (m : Int) := by omega
  have hmN : s.size = m := hm.symm
  obtain ⟨q1, q2⟩ := estQ_lt s hs1 hs
  obtain ⟨Q, hQ⟩ : ∃ Q, Q = estQ s := ⟨_, rfl⟩
  rw [← hQ] at q2
  have hQe : xM m * 1099511627776 / T = Q := by rw [hQ, hm, hT]; rfl
  obtain ⟨A2, hA2⟩ : ∃ A2, A2 = 7213 * m * m := ⟨_, rfl⟩
  obtain ⟨A3, hA3⟩ : ∃ A3, A3 = A2 * m := ⟨_, rfl⟩
  obtain ⟨D, hD⟩ : ∃ D, D = 10000 * m + 10790 := ⟨_, rfl⟩
  obtain ⟨X, hX⟩ : ∃ X, X = A3 / D := ⟨_, rfl⟩
  have hXx : xM m = X := by rw [hX, hA3, hA2, hD]; rfl
  rw [hXx] at hQe
  have hm16 : m ≤ 65536 := by omega
  have hA2b : A2 ≤ 30979599106048 := by
    rw [hA2]; have := Nat.mul_le_mul (show 7213 * m ≤ 472711168 by omega) hm16; omega
  have hA3b : A3 ≤ 2030279007013961728 := by
    rw [hA3]; have := Nat.mul_le_mul hA2b hm16; omega
  have k2 : (7213 : Int) * (m : Int) * (m : Int) = (A2 : Int) := by rw [hA2]; simp
  have k3 : (A2 : Int) * (m : Int) = (A3 : Int) := by rw [hA3]; simp
  have k4 : (10000 : Int) * (m : Int) + 10790 = (D : Int) := by omega
  have k5 : (A3 : Int) / (D : Int) = (X : Int) := by rw [hX]; rfl
  have hXb : X ≤ 4294967296 := by
    have h1 := xM_le m hm16
    rw [hXx] at h1
    have h2 := Nat.mul_le_mul hm16 hm16
    omega
  have hD0 : ¬ (D : Int) = 0 := by omega
  have hDb : D ≤ 655370790 := by omega
  have hDiv : Hid (∀ w, Calls Try.prog 29 #[.int .u64 X, .int .u64 T] w fun e w' => e = .returned (.int .u64 (Q : Nat)) ∧ w = w') := by
    intro w
    have := rdiv_any X T w (by omega) hT1 (by omega) (by rw [hQe]; omega)
    rw [hQe] at this
    exact this
  have hE : esV s = if z = 0 ∨ 5 * m < 2 * Q then Q else tS m z (m - z) / 1048576 := by
    unfold esV; rw [← hQ, ← hz, ← hm]
  have HE := Lib.hid hE
  have hzm2 : z ≤ m := by omega
  clear hm hQ hQe hA2 hA3 hD hX hXx hz hE q1 hT hzm hTb
  go_enter Try.func16, Try.ntmps16
  go_wp2_with fail
  refine HC.out.mono ?_
  rintro e w' ⟨rfl, rfl⟩
  go_upto_block 0 with fail
  go_cut [7, 8] (fun s7 s8 wx => s7 = .int .u64 (T : Nat) ∧ s8 = .int .u64 (z : Nat) ∧ wx = w)
  case first =>
    clear k2 k3 k4 k5
    go_wp2_with fail
    go_loopg [7, 8, 9] m (fun gg s7 s8 i wr => ∃ k : Nat, k + gg = m ∧ i = .int .i64 k ∧ s7 = .int .u64 (sI s k : Nat) ∧ s8 = .int .u64 (cn s k 0 : Nat) ∧ wr = w)
    case atStart => exact ⟨0, by omega, rfl, rfl, rfl, rfl⟩
    case round =>
      obtain ⟨k, hk, rfl, rfl, rfl, rfl⟩ := hrel
      by_cases hlt : k < m
      · have hlt2 : k < s.size := by omega
        have hgd := sN_getD s k hlt2
        have hx : s[k].toNat ≤ 255 := by have := s[k].toNat_lt; omega
        obtain ⟨q, hq⟩ : ∃ q, q = mn s k := ⟨_, rfl⟩
        have hq40 : q ≤ 40 := by rw [hq]; exact mn_le s k
        have hmN2 : min 40 s[k].toNat = q := by rw [hq]; unfold mn; rw [hgd]
        have hmI : min (40 : Int) (s[k].toNat : Int) = (q : Int) := by omega
        obtain ⟨t, ht⟩ : ∃ t, t = 40 - q := ⟨_, rfl⟩
        have hti : (40 : Int) - (q : Int) = (t : Int) := by omega
        have hstep : sI s (k + 1) = sI s k + 2 ^ t := by rw [ht, hq]; rfl
        have hz0 : q = 0 ↔ s[k].toNat = 0 := by omega
        have hzs : cn s (k + 1) 0 = cn s k 0 + (if q = 0 then 1 else 0) := by rw [hq]; rfl
        have b1 := (sI_bd s k).2
        have b2 := cn_le s k 0
        obtain ⟨S, hS⟩ : ∃ S, S = sI s k := ⟨_, rfl⟩
        obtain ⟨Z, hZ⟩ : ∃ Z, Z = cn s k 0 := ⟨_, rfl⟩
        obtain ⟨P, hP⟩ : ∃ P, P = 2 ^ t := ⟨_, rfl⟩
        rw [← hS] at b1 hstep ⊢
        rw [← hZ] at b2 hzs ⊢
        rw [← hP] at hstep
        have hPb : P ≤ 1099511627776 := by rw [hP]; have e : (2 : Nat) ^ 40 = 1099511627776 := by decide
                                           rw [← e]; exact Nat.pow_le_pow_right (by decide) (by omega)
        have hPw : IntKind.u64.wrap ((2 : Int) ^ t) = (P : Int) := by
          have e : ((2 : Int) ^ t) = (P : Int) := by rw [hP, Int.natCast_pow]; rfl
          rw [e]; exact wrap_nat64 _ (by omega)
        have hSb : S ≤ 72057594037927936 := by omega
        have HS := Lib.hid (And.intro hstep (And.intro hzs hz0))
        clear hgd hq ht hstep hzs hS hZ hP hz0 b1
        by_cases h0 : s[k].toNat = 0
        · have hb : ((s[k].toNat : Int) == 0) = true := by simp; omega
          have HQ := Lib.hid (HS.out.2.2.2 h0)
          clear h0
          go_wp2_with fail
          go_roundg (gk - 1)
          case measure => omega
          case rel => exact ⟨k + 1, by omega, by go_num, by rw [HS.out.1]; go_num, by rw [HS.out.2.1, if_pos HQ.out]; go_num, rfl⟩
        · have hb : ((s[k].toNat : Int) == 0) = false := by simp; omega
          have HQ := Lib.hid (fun h => h0 (HS.out.2.2.1 h))
          clear h0
          go_wp2_with fail
          go_roundg (gk - 1)
          case measure => omega
          case rel => exact ⟨k + 1, by omega, by go_num, by rw [HS.out.1]; go_num, by rw [HS.out.2.1, if_neg HQ.out]; go_num, rfl⟩
      · obtain rfl : k = m := by omega
        have h1 : sI s k = T := by rw [HT.out.1, ← hmN]
        have h2 : cn s k 0 = z := by rw [HT.out.2, ← hmN]
        have H12 := Lib.hid (And.intro h1 h2)
        clear h1 h2
        go_wp2_with fail
        go_meet
        exact ⟨by rw [H12.out.1], by rw [H12.out.2], rfl⟩
  case rest =>
    obtain ⟨rfl, rfl, rfl⟩ := hcut
    go_wp2_with fail
    refine (hDiv.out _).mono ?_
    rintro e w' ⟨rfl, rfl⟩
    by_cases hz0 : z = 0
    · have hEq : esV s = Q := by rw [HE.out, if_pos (.inl hz0)]
      subst hz0
      have HEq := Lib.hid hEq
      clear hEq
      go_wp2_with fail
      go_ret2
      rw [HEq.out]
      exact ⟨rfl, rfl⟩
    · have hzb : ((z : Int) == 0) = false := by simp; omega
      by_cases hgt : 5 * m < 2 * Q
      · have hEq : esV s = Q := by rw [HE.out, if_pos (.inr hgt)]
        have hd : decide ((5 : Int) * (m : Int) < 2 * (Q : Int)) = true := decide_eq_true (by omega)
        have HEq := Lib.hid hEq
        clear hEq hz0
        go_wp2_with fail
        go_ret2
        rw [HEq.out]
        exact ⟨rfl, rfl⟩
      · have hEq : esV s = tS m z (m - z) / 1048576 := by rw [HE.out, if_neg (by omega)]
        have hd : decide ((5 : Int) * (m : Int) < 2 * (Q : Int)) = false := decide_eq_false (by omega)
        have HEq := Lib.hid hEq
        clear hEq hz0
        go_wp2_with fail
        go_loopg [11, 12] (m - z) (fun gg s16 s17 wr => ∃ d : Nat, d + gg = m - z ∧ s17 = .int .u64 (z + d + 1 : Nat) ∧ s16 = .int .u64 (tS m z d : Nat) ∧ wr = wc)
        case atStart => exact ⟨0, by omega, by go_num, rfl, rfl⟩
        case round =>
          obtain ⟨d, hd2, rfl, rfl, rfl⟩ := hrel
          obtain ⟨i, hi⟩ : ∃ i, i = z + d + 1 := ⟨_, rfl⟩
          rw [← hi]
          have htb := tS_bd m z d
          have hmm : d * (m * 1048576) ≤ 65536 * (65536 * 1048576) := Nat.mul_le_mul (by omega) (Nat.mul_le_mul hm16 (Nat.le_refl _))
          have hstep : tS m z (d + 1) = tS m z d + m * 1048576 / i := by rw [hi]; rfl
          obtain ⟨S, hS⟩ : ∃ S, S = tS m z d := ⟨_, rfl⟩
          rw [← hS] at htb hstep ⊢
          have hSb : S ≤ 4503599627370496 := by omega
          have hi0 : ¬ (i : Int) = 0 := by omega
          have hib : i ≤ 65537 := by omega
          have hi1 : 1 ≤ i := by omega
          obtain ⟨Y, hY⟩ : ∃ Y, Y = m * 1048576 / i := ⟨_, rfl⟩
          have hYi : ((m : Int) * 1048576) / (i : Int) = (Y : Int) := by rw [hY]; rfl
          have hYb : Y ≤ 68719476736 := by
            have : m * 1048576 / i ≤ m * 1048576 := Nat.div_le_self _ _
            omega
          rw [← hY] at hstep
          have HS := Lib.hid (And.intro hstep (And.intro hS hi))
          by_cases hlt : i ≤ m
          · have hlI : decide ((i : Int) ≤ (m : Int)) = true := decide_eq_true (by omega)
            have hgg : d + 1 + (gk - 1) = m - z := by omega
            have hgm : gk - 1 < gk := by omega
            clear hstep hS hi hY htb hmm hd2
            go_wp2_with fail
            go_roundg (gk - 1)
            case measure => exact hgm
            case rel => exact ⟨d + 1, hgg, by have := HS.out.2.2; rw [this]; go_num, by rw [HS.out.1, Int.natCast_add], rfl⟩
          · have hlI : decide ((i : Int) ≤ (m : Int)) = false := decide_eq_false (by omega)
            have hdm : d = m - z := by omega
            have hfin : esV s = S / 1048576 := by rw [HEq.out, hS, hdm]
            have HF := Lib.hid hfin
            clear hstep hS hi hY htb hmm hd2 hdm hfin
            go_wp2_with fail
            go_ret2
            rw [HF.out]
            exact ⟨rfl, rfl⟩
end Go.Proofs.Ytbkadfocjmpieaa
