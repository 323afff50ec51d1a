/-
  The reference: the whole part of 2^40 x / s, bit by bit.
-/
import Derived.Test.YtbkadfocjmpieaaSEst
set_option linter.unusedVariables false
namespace Go.Proofs.Ytbkadfocjmpieaa
open Go.RowKit

/-- the number's leading bits -/
def nB (x g : Nat) : Nat := x * 1099511627776 / 2 ^ g
theorem nB_half (x g : Nat) : nB x (g + 1) = nB x g / 2 := by
  unfold nB
  rw [Nat.pow_succ, Nat.div_div_eq_div_mul]
theorem nB_hi (x d : Nat) : nB x (d + 40) = x / 2 ^ d := by
  unfold nB
  rw [Nat.pow_add, Nat.mul_comm (2 ^ d), ← Nat.div_div_eq_div_mul, show (2 : Nat) ^ 40 = 1099511627776 by decide, Nat.mul_div_cancel _ (by decide)]
theorem nB_lo (x i : Nat) (h : i < 40) : nB x i % 2 = 0 := by
  unfold nB
  have e : (1099511627776 : Nat) = 2 ^ (40 - i - 1) * 2 * 2 ^ i := by
    rw [← Nat.pow_succ, ← Nat.pow_add, show 40 - i - 1 + 1 + i = 40 by omega]
  rw [e, ← Nat.mul_assoc, Nat.mul_div_cancel _ (Nat.two_pow_pos i), ← Nat.mul_assoc]
  exact Nat.mul_mod_left _ _
theorem nB_top (x : Nat) (h : x < 8589934592) : nB x 73 = 0 := by
  unfold nB
  exact Nat.div_eq_of_lt (by omega)
theorem nB_zero (x : Nat) : nB x 0 = x * 1099511627776 := by unfold nB; simp
theorem nB_le (x g : Nat) : nB x g ≤ nB x 0 := by rw [nB_zero]; exact Nat.div_le_self _ _
/-- a step of the division -/
theorem dv_step {x s g b : Nat} (hs : 1 ≤ s) (hb : nB x g % 2 = b) :
    (s ≤ 2 * (nB x (g + 1) % s) + b → nB x g / s = 2 * (nB x (g + 1) / s) + 1 ∧ nB x g % s = 2 * (nB x (g + 1) % s) + b - s) ∧
    (2 * (nB x (g + 1) % s) + b < s → nB x g / s = 2 * (nB x (g + 1) / s) ∧ nB x g % s = 2 * (nB x (g + 1) % s) + b) := by
  have h1 := nB_half x g
  have h2 := Nat.div_add_mod (nB x (g + 1)) s
  have h3 := Nat.mod_lt (nB x (g + 1)) (show 0 < s by omega)
  obtain ⟨q, hq⟩ : ∃ q, q = nB x (g + 1) / s := ⟨_, rfl⟩
  obtain ⟨r, hr⟩ : ∃ r, r = nB x (g + 1) % s := ⟨_, rfl⟩
  rw [← hq, ← hr] at h2
  rw [← hr] at h3
  rw [← hq, ← hr]
  have hn : nB x g = (2 * r + b) + s * (2 * q) := by
    have : s * (2 * q) = 2 * (s * q) := by rw [Nat.mul_left_comm]
    omega
  rw [hn, Nat.add_mul_div_left _ _ (show 0 < s by omega), Nat.add_mul_mod_self_left]
  constructor
  · intro h
    have e : 2 * r + b = (2 * r + b - s) + s * 1 := by omega
    have hlt : 2 * r + b - s < s := by omega
    constructor
    · rw [e, Nat.add_mul_div_left _ _ (show 0 < s by omega), Nat.div_eq_of_lt hlt]; omega
    · rw [e, Nat.add_mul_mod_self_left, Nat.mod_eq_of_lt hlt]; omega
  · intro h
    exact ⟨by rw [Nat.div_eq_of_lt h]; omega, Nat.mod_eq_of_lt h⟩

set_option maxRecDepth 100000 in
set_option maxHeartbeats 2000000 in
theorem rdiv_any (x s : Nat) (w : World) (hx : x < 8589934592) (hs : 1 ≤ s) (hs2 : s ≤ 144115188075855872) (hQ : x * 1099511627776 / s ≤ 144115188075855872) :
    Calls Try.prog 29 #[.int .u64 x, .int .u64 s] w fun e w' => e = .returned (.int .u64 (x * 1099511627776 / s : Nat)) ∧ w = w' := by
  have hq : ∀ g, nB x g / s ≤ 144115188075855872 := fun g => Nat.le_trans (Nat.div_le_div_right (nB_le x g)) (by rw [nB_zero]; exact hQ)
  have hfin := nB_zero x
  have htop := nB_top x hx
  have HH := Lib.hid (And.intro hq (And.intro hfin htop))
  clear hq hfin htop hQ
  go_enter Try.func29, Try.ntmps29
  go_wp2_with fail
  go_loopg [5, 6, 7] 73 (fun gg q r i wr => gg ≤ 73 ∧ i = .int .i64 ((gg : Int) - 1) ∧ q = .int .u64 (nB x gg / s : Nat) ∧ r = .int .u64 (nB x gg % s : Nat) ∧ wr = w)
  case atStart => exact ⟨Nat.le_refl _, rfl, by rw [HH.out.2.2]; simp, by rw [HH.out.2.2]; simp, rfl⟩
  case round =>
    obtain ⟨hg, rfl, rfl, rfl, rfl⟩ := hrel
    rcases Nat.eq_zero_or_pos gk with h0 | h0
    · subst h0
      have hf := HH.out.2.1
      rw [hf]
      clear hf
      go_wp2_with fail
      go_ret
      exact ⟨rfl, rfl⟩
    · obtain ⟨i, rfl⟩ : ∃ i, gk = i + 1 := ⟨gk - 1, by omega⟩
      have hii : ((i + 1 : Nat) : Int) - 1 = (i : Int) := by omega
      rw [hii]
      obtain ⟨b, hb⟩ : ∃ b, b = nB x i % 2 := ⟨_, rfl⟩
      have hst := dv_step (x := x) (s := s) (g := i) hs hb.symm
      have hq1 := HH.out.1 (i + 1)
      have hr1 := Nat.mod_lt (nB x (i + 1)) (show 0 < s by omega)
      obtain ⟨q, hq⟩ : ∃ q, q = nB x (i + 1) / s := ⟨_, rfl⟩
      obtain ⟨r, hr⟩ : ∃ r, r = nB x (i + 1) % s := ⟨_, rfl⟩
      rw [← hq, ← hr] at hst
      rw [← hr] at hr1
      rw [← hq] at hq1
      rw [← hq, ← hr]
      have HST := Lib.hid hst
      clear hst hq hr hii
      by_cases h40 : 40 ≤ i
      · obtain ⟨d, rfl⟩ : ∃ d, i = d + 40 := ⟨i - 40, by omega⟩
        have hbx : b = x / 2 ^ d % 2 := by rw [hb, nB_hi]
        obtain ⟨y, hy⟩ : ∃ y, y = x / 2 ^ d := ⟨_, rfl⟩
        have f1 : ((x : Int) / 2 ^ d) = (y : Int) := by rw [cast_div_pow, hy]
        rw [← hy] at hbx
        have hd0 : ((d + 40 : Nat) : Int) - 40 = (d : Int) := by omega
        have f2 : (y : Int) % 2 = (b : Int) := by omega
        have hb2 : b = 0 ∨ b = 1 := by omega
        have hi40 : decide ((40 : Int) ≤ ((d + 40 : Nat) : Int)) = true := decide_eq_true (by omega)
        clear hb hbx hy h40
        rcases hb2 with rfl | rfl
        · have eb : ((0 : Int) == 1) = false := rfl
          by_cases hge : s ≤ 2 * r
          · have hgi : (s : Int) ≤ 2 * (r : Int) := by omega
            have HS := Lib.hid (HST.out.1 hge)
            have HG := Lib.hid hge
            clear hge
            go_wp2_with fail
            go_roundg (d + 40)
            case measure => omega
            case rel => exact ⟨by omega, by go_num, by rw [HS.out.1]; go_num, by rw [HS.out.2]; have := HG.out; go_num, rfl⟩
          · have hd : decide ((s : Int) ≤ 2 * (r : Int)) = false := decide_eq_false (by omega)
            have HS := Lib.hid (HST.out.2 (by omega))
            clear hge
            go_wp2_with fail
            go_roundg (d + 40)
            case measure => omega
            case rel => exact ⟨by omega, by go_num, by rw [HS.out.1]; go_num, by rw [HS.out.2]; go_num, rfl⟩
        · by_cases hge : s ≤ 2 * r + 1
          · have hgi : (s : Int) ≤ 2 * (r : Int) + 1 := by omega
            have HS := Lib.hid (HST.out.1 hge)
            have HG := Lib.hid hge
            clear hge
            go_wp2_with fail
            go_roundg (d + 40)
            case measure => omega
            case rel => exact ⟨by omega, by go_num, by rw [HS.out.1]; go_num, by rw [HS.out.2]; have := HG.out; go_num, rfl⟩
          · have hd : decide ((s : Int) ≤ 2 * (r : Int) + 1) = false := decide_eq_false (by omega)
            have HS := Lib.hid (HST.out.2 (by omega))
            clear hge
            go_wp2_with fail
            go_roundg (d + 40)
            case measure => omega
            case rel => exact ⟨by omega, by go_num, by rw [HS.out.1]; go_num, by rw [HS.out.2]; go_num, rfl⟩
      · have hb0 : b = 0 := by rw [hb]; exact nB_lo x i (by omega)
        subst hb0
        have hi40 : decide ((40 : Int) ≤ (i : Int)) = false := decide_eq_false (by omega)
        have hlt40 : i < 40 := by omega
        clear hb h40
        by_cases hge : s ≤ 2 * r
        · have hgi : (s : Int) ≤ 2 * (r : Int) := by omega
          have HS := Lib.hid (HST.out.1 hge)
          have HG := Lib.hid hge
          clear hge
          go_wp2_with fail
          go_roundg i
          case measure => omega
          case rel => exact ⟨by omega, by go_num, by rw [HS.out.1]; go_num, by rw [HS.out.2]; have := HG.out; go_num, rfl⟩
        · have hd : decide ((s : Int) ≤ 2 * (r : Int)) = false := decide_eq_false (by omega)
          have HS := Lib.hid (HST.out.2 (by omega))
          clear hge
          go_wp2_with fail
          go_roundg i
          case measure => omega
          case rel => exact ⟨by omega, by go_num, by rw [HS.out.1]; go_num, by rw [HS.out.2]; go_num, rfl⟩
end Go.Proofs.Ytbkadfocjmpieaa
