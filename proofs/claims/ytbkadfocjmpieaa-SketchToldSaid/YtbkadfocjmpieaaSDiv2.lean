/-
  Long division of two words by one: the library function's walk.
-/
import Derived.Test.YtbkadfocjmpieaaSBits
import Derived.Deep.LoopGhost
import Derived.Deep.CutBlock
set_option linter.unusedVariables false
namespace Go.Proofs.Ytbkadfocjmpieaa
open Go.RowKit

theorem two_eq {a b c : Int} (h : a = b) : Ending.returned (.tuple #[.int .u64 a, .int .u64 c]) = .returned (.tuple #[.int .u64 b, .int .u64 c]) := by rw [h]
def DvP (q : Nat) (w : World) (e : Ending) (w' : World) : Prop := (∃ r : Int, e = .returned (.tuple #[.int .u64 (q : Nat), .int .u64 r])) ∧ ∃ n, w.drewN n = w'
set_option maxRecDepth 100000 in
set_option maxHeartbeats 4000000 in
theorem div64_0 (lo y : Nat) (w : World) (hy : 0 < y) (hlo : lo < 18446744073709551616) : Calls Try.prog 23 #[.int .u64 0, .int .u64 lo, .int .u64 y] w (DvP (lo / y) w) := by
  have hyb : ((y : Int) == 0) = false := by simp; omega
  have hyl : decide ((y : Int) ≤ 0) = false := decide_eq_false (by omega)
  have hne : ¬ (y : Int) = 0 := by omega
  have hne2 : ¬ y = 0 := by omega
  go_enter Try.func23, Try.ntmps23
  go_wp2_with fail
  go_quiet (fail)
  go_wp2_with fail
  go_ret2
  exact ⟨⟨_, two_eq (by rw [show ((lo : Int) / (y : Int)) = ((lo / y : Nat) : Int) from rfl]; exact wrap_nat64 _ (Nat.lt_of_le_of_lt (Nat.div_le_self _ _) hlo))⟩, _, rfl⟩

set_option maxRecDepth 100000 in
set_option maxHeartbeats 4000000 in
theorem div64_1 (hi lo y : Nat) (w : World) (hh : 0 < hi) (hy : hi < y) (hy63 : y < 9223372036854775808) (hlo : lo < 18446744073709551616) : Calls Try.prog 23 #[.int .u64 hi, .int .u64 lo, .int .u64 y] w (DvP ((hi * 18446744073709551616 + lo) / y) w) := by
  obtain ⟨s1, s2, s3, s4⟩ := norm_spec (show 0 < y by omega) hy63
  have hlz := lz_any y w (by omega)
  obtain ⟨s, hs⟩ : ∃ s, s = 64 - Lib.bitLen y := ⟨_, rfl⟩
  rw [← hs] at s1 s2 s3 s4 hlz
  obtain ⟨Y, hY⟩ : ∃ Y, Y = y * 2 ^ s := ⟨_, rfl⟩
  rw [← hY] at s3 s4
  obtain ⟨a, ha⟩ : ∃ a, a = Y / 4294967296 := ⟨_, rfl⟩
  obtain ⟨b, hb⟩ : ∃ b, b = Y % 4294967296 := ⟨_, rfl⟩
  have hab : Y = a * 4294967296 + b := by omega
  have ha1 : 2147483648 ≤ a := by omega
  have ha2 : a < 4294967296 := by omega
  have hb2 : b < 4294967296 := by omega
  obtain ⟨t, ht⟩ : ∃ t, t = 64 - s := ⟨_, rfl⟩
  have hst := shift_two (hi := hi) (lo := lo) (s := s) (by omega)
  rw [← ht] at hst
  obtain ⟨l1, hl1⟩ : ∃ l1, l1 = lo / 2 ^ t := ⟨_, rfl⟩
  obtain ⟨h1, hh1⟩ : ∃ h1, h1 = hi * 2 ^ s := ⟨_, rfl⟩
  obtain ⟨v, hv⟩ : ∃ v, v = lo * 2 ^ s % 18446744073709551616 := ⟨_, rfl⟩
  have hP := Nat.two_pow_pos s
  have hh1b : h1 + 2 ^ s ≤ Y := by rw [hh1, hY, ← Nat.succ_mul]; exact Nat.mul_le_mul_right _ hy
  have hl1b : l1 < 2 ^ s := by
    rw [hl1, Nat.div_lt_iff_lt_mul (Nat.two_pow_pos t), ← Nat.pow_add, show s + t = 64 by omega]
    exact hlo
  obtain ⟨u, hu⟩ : ∃ u, u = h1 + l1 := ⟨_, rfl⟩
  have huY : u < Y := by omega
  obtain ⟨t1, ht1⟩ : ∃ t1, t1 = v / 4294967296 := ⟨_, rfl⟩
  obtain ⟨t0, ht0⟩ : ∃ t0, t0 = v % 4294967296 := ⟨_, rfl⟩
  have hv64 : v < 18446744073709551616 := by rw [hv]; exact Nat.mod_lt _ (by decide)
  have hvt : v = t1 * 4294967296 + t0 := by omega
  have ht1b : t1 < 4294967296 := by omega
  have ht0b : t0 < 4294967296 := by omega
  have f1 : IntKind.u64.wrap ((y : Int) * 2 ^ s) = (Y : Int) := by rw [cast_mul_pow, ← hY]; exact wrap_nat64 _ s4
  have f2 : (Y : Int) / 4294967296 = (a : Int) := by rw [ha]; rfl
  have f3 : bits .and .u64 (Y : Int) 4294967295 = (b : Int) := by rw [mask32 Y s4, hb]
  have f4 : IntKind.u64.wrap ((hi : Int) * 2 ^ s) = (h1 : Int) := by rw [cast_mul_pow, ← hh1]; exact wrap_nat64 _ (by omega)
  have f5 : (64 : Int) - (s : Int) = (t : Int) := by omega
  have f6 : (lo : Int) / 2 ^ t = (l1 : Int) := by rw [cast_div_pow, hl1]
  have f7 : bits .or .u64 (h1 : Int) (l1 : Int) = (u : Int) := by
    rw [u64_or_nat _ _ (by omega) (by omega), nat_join s h1 l1 (by rw [hh1]; exact Nat.mul_mod_left _ _) hl1b, hu]
  have f8 : IntKind.u64.wrap ((lo : Int) * 2 ^ s) = (v : Int) := by rw [cast_mul_pow, wrap_mod64, hv]
  have f9 : (v : Int) / 4294967296 = (t1 : Int) := by rw [ht1]; rfl
  have f10 : bits .and .u64 (v : Int) 4294967295 = (t0 : Int) := by rw [mask32 v hv64, ht0]
  have hs64 : decide ((s : Int) < 64) = true := decide_eq_true (by omega)
  have hyl : decide ((y : Int) ≤ (hi : Int)) = false := decide_eq_false (by omega)
  have hyl2 : decide (y ≤ hi) = false := decide_eq_false (by omega)
  have hhb : ((hi : Int) == 0) = false := by simp; omega
  have hyb : ((y : Int) == 0) = false := by simp; omega
  have HL := Lib.hid hlz
  have HE := Lib.hid (And.intro hY (And.intro hab (And.intro hst (And.intro hl1 (And.intro hh1 (And.intro hv (And.intro hu hvt)))))))
  clear hlz hs hY ha hb hab ht hst hl1 hh1 hv hu ht1 ht0 hvt hP hh1b hl1b s3 s4
  go_enter Try.func23, Try.ntmps23
  go_wp2_with fail
  refine HL.out.mono ?_
  rintro e w' ⟨rfl, rfl⟩
  have ha0 : ¬ (a : Int) = 0 := by omega
  have ha00 : ¬ a = 0 := by omega
  have hk0 := Kn.first (t := t1) ha1 ha2 hb2 (by rw [← HE.out.2.1]; exact huY) ht1b
  obtain ⟨q0, hq0⟩ : ∃ q0, q0 = u / a := ⟨_, rfl⟩
  obtain ⟨r0, hr0⟩ : ∃ r0, r0 = u % a := ⟨_, rfl⟩
  have g1 : (u : Int) / (a : Int) = (q0 : Int) := by rw [hq0]; rfl
  rw [← hq0, ← hr0] at hk0
  obtain ⟨qa, hqa⟩ : ∃ qa, qa = q0 * a := ⟨_, rfl⟩
  have hqau : qa + r0 = u := by rw [hqa]; exact hk0.eq
  have g2 : IntKind.u64.wrap ((q0 : Int) * (a : Int)) = (qa : Int) := by
    rw [show ((q0 : Int) * (a : Int)) = (qa : Int) by rw [hqa, Int.natCast_mul]]; exact wrap_nat64 _ (by omega)
  have g3 : IntKind.u64.wrap ((u : Int) - (qa : Int)) = (r0 : Int) := by
    rw [show ((u : Int) - (qa : Int)) = (r0 : Int) by omega]; exact wrap_nat64 _ (by have := hk0.rl; omega)
  have HK := Lib.hid hk0
  have hq0l : q0 ≤ 4294967297 := HK.out.le
  clear hq0 hr0 hqa hqau hk0
  go_upto_block 0 with fail
  clear g1 g2 g3
  obtain ⟨D1, hD1⟩ : ∃ D1, D1 = (u * 4294967296 + t1) / (a * 4294967296 + b) := ⟨_, rfl⟩
  have HD1 := Lib.hid hD1
  clear hD1
  go_cut [15] (fun s15 wx => s15 = .int .u64 (D1 : Nat) ∧ wx = w)
  case first =>
    go_wp2_with fail
    go_loopg [15, 16] (4294967296 - r0) (fun g s15 s16 wr => ∃ q r : Nat, s15 = .int .u64 q ∧ s16 = .int .u64 r ∧ r ≤ 4294967296 ∧ g = 4294967296 - r ∧ Kn u t1 a b q r ∧ wr = w)
    case atStart => exact ⟨q0, r0, rfl, rfl, by have := HK.out.rl; omega, rfl, HK.out, rfl⟩
    case round =>
      obtain ⟨q, r, rfl, rfl, hr0, hg, hk, rfl⟩ := hrel
      have hle := hk.le
      have hrl := hk.rl
      have HKr := Lib.hid hk
      clear hk HK
      have hq1 : IntKind.u64.wrap ((q : Int) - 1) = if q = 0 then 18446744073709551615 else ((q - 1 : Nat) : Int) := by
        by_cases h0 : q = 0
        · subst h0; decide
        · rw [if_neg h0, show ((q : Int) - 1) = ((q - 1 : Nat) : Int) by omega]; exact wrap_nat64 _ (by omega)
      have hra : IntKind.u64.wrap ((r : Int) + (a : Int)) = ((r + a : Nat) : Int) := by
        rw [show ((r : Int) + (a : Int)) = ((r + a : Nat) : Int) by omega]; exact wrap_nat64 _ (by omega)
      obtain ⟨B, hB⟩ : ∃ B, B = q * b := ⟨_, rfl⟩
      have hB2 : (q : Int) * (b : Int) = (B : Int) := by rw [hB, Int.natCast_mul]
      by_cases hc : 4294967296 ≤ q ∨ r * 4294967296 + t1 < q * b
      · obtain ⟨n1, n2, n3⟩ := HKr.out.next (by omega) (by rw [← HE.out.2.1]; exact huY) ht1b hc
        rw [if_neg (by omega)] at hq1
        obtain ⟨p, hp⟩ : ∃ p, p = q - 1 := ⟨_, rfl⟩
        rw [← hp] at hq1
        obtain ⟨r2, hr2⟩ : ∃ r2, r2 = r + a := ⟨_, rfl⟩
        rw [← hr2] at hra
        have hcond : (4294967296 ≤ q) ∨ (q < 4294967296 ∧ r * 4294967296 + t1 < B) := by
          rcases Nat.lt_or_ge q 4294967296 with h | h
          · right; refine ⟨h, ?_⟩; rw [hB]; rcases hc with h2 | h2
            · omega
            · exact h2
          · left; exact h
        have HN := Lib.hid (And.intro hp (And.intro hr2 (And.intro hc hB)))
        by_cases hbr : 4294967296 ≤ r2
        · have hend := HKr.out.break_ (by omega) hb2 (by rw [← HE.out.2.1]; exact huY) ht1b hc (by omega)
          have hbd : decide ((4294967296 : Int) ≤ (r2 : Int)) = true := decide_eq_true (by omega)
          have HEn := Lib.hid hend
          clear hend hp hr2 hB n1 n2 n3 hc
          rcases hcond with hq | ⟨hq, hlt⟩
          · have hqd : decide ((4294967296 : Int) ≤ (q : Int)) = true := decide_eq_true (by omega)
            clear hle
            go_wp2_with fail
            go_meet
            exact ⟨by rw [HD1.out, ← HEn.out, ← HN.out.1], rfl⟩
          · have hqd : decide ((4294967296 : Int) ≤ (q : Int)) = false := decide_eq_false (by omega)
            have hw1 : IntKind.u64.wrap (B : Int) = (B : Int) := wrap_nat64 _ (by have := HN.out.2.2.2; have := Nat.mul_le_mul (show q ≤ 4294967295 by omega) (show b ≤ 4294967295 by omega); omega)
            obtain ⟨R, hR⟩ : ∃ R, R = 4294967296 * r := ⟨_, rfl⟩
            have hR1 : (4294967296 : Int) * (r : Int) = (R : Int) := by rw [hR, Int.natCast_mul]; rfl
            have hR2 : IntKind.u64.wrap (R : Int) = (R : Int) := wrap_nat64 _ (by omega)
            obtain ⟨S, hS⟩ : ∃ S, S = R + t1 := ⟨_, rfl⟩
            have hS1 : (R : Int) + (t1 : Int) = (S : Int) := by omega
            have hS2 : IntKind.u64.wrap (S : Int) = (S : Int) := wrap_nat64 _ (by omega)
            have hSd : decide ((S : Int) < (B : Int)) = true := decide_eq_true (by omega)
            have hSd2 : decide (S < B) = true := decide_eq_true (by omega)
            clear hR hS hlt hle
            go_wp2_with fail
            go_meet
            exact ⟨by rw [HD1.out, ← HEn.out, ← HN.out.1], rfl⟩
        · have hstep := HKr.out.step (by omega) (by rw [← HE.out.2.1]; exact huY) ht1b hc (by omega)
          have hbd : decide ((4294967296 : Int) ≤ (r2 : Int)) = false := decide_eq_false (by omega)
          rw [← hp, ← hr2] at hstep
          have HSt := Lib.hid hstep
          have hr2l : r2 = r + a := hr2
          have Hr2 := Lib.hid hr2l
          clear hstep hp hr2 hr2l hB n1 n2 n3 hc
          rcases hcond with hq | ⟨hq, hlt⟩
          · have hqd : decide ((4294967296 : Int) ≤ (q : Int)) = true := decide_eq_true (by omega)
            clear hle
            go_wp2_with fail
            go_roundg (4294967296 - r2)
            case measure => have := Hr2.out; omega
            case rel => exact ⟨p, r2, rfl, rfl, by omega, rfl, HSt.out, rfl⟩
          · have hqd : decide ((4294967296 : Int) ≤ (q : Int)) = false := decide_eq_false (by omega)
            have hw1 : IntKind.u64.wrap (B : Int) = (B : Int) := wrap_nat64 _ (by have := HN.out.2.2.2; have := Nat.mul_le_mul (show q ≤ 4294967295 by omega) (show b ≤ 4294967295 by omega); omega)
            obtain ⟨R, hR⟩ : ∃ R, R = 4294967296 * r := ⟨_, rfl⟩
            have hR1 : (4294967296 : Int) * (r : Int) = (R : Int) := by rw [hR, Int.natCast_mul]; rfl
            have hR2 : IntKind.u64.wrap (R : Int) = (R : Int) := wrap_nat64 _ (by omega)
            obtain ⟨S, hS⟩ : ∃ S, S = R + t1 := ⟨_, rfl⟩
            have hS1 : (R : Int) + (t1 : Int) = (S : Int) := by omega
            have hS2 : IntKind.u64.wrap (S : Int) = (S : Int) := wrap_nat64 _ (by omega)
            have hSd : decide ((S : Int) < (B : Int)) = true := decide_eq_true (by omega)
            have hSd2 : decide (S < B) = true := decide_eq_true (by omega)
            clear hR hS hlt hle
            go_wp2_with fail
            go_roundg (4294967296 - r2)
            case measure => have := Hr2.out; omega
            case rel => exact ⟨p, r2, rfl, rfl, by omega, rfl, HSt.out, rfl⟩
      · have hlast := HKr.out.last (by omega) (by omega)
        have HLa := Lib.hid hlast
        have hqd : decide ((4294967296 : Int) ≤ (q : Int)) = false := decide_eq_false (by omega)
        have hw1 : IntKind.u64.wrap (B : Int) = (B : Int) := wrap_nat64 _ (by have := Nat.mul_le_mul (show q ≤ 4294967295 by omega) (show b ≤ 4294967295 by omega); omega)
        obtain ⟨R, hR⟩ : ∃ R, R = 4294967296 * r := ⟨_, rfl⟩
        have hR1 : (4294967296 : Int) * (r : Int) = (R : Int) := by rw [hR, Int.natCast_mul]; rfl
        have hR2 : IntKind.u64.wrap (R : Int) = (R : Int) := wrap_nat64 _ (by omega)
        obtain ⟨S, hS⟩ : ∃ S, S = R + t1 := ⟨_, rfl⟩
        have hS1 : (R : Int) + (t1 : Int) = (S : Int) := by omega
        have hS2 : IntKind.u64.wrap (S : Int) = (S : Int) := wrap_nat64 _ (by omega)
        have hSd : decide ((S : Int) < (B : Int)) = false := decide_eq_false (by omega)
        have hSd2 : decide (S < B) = false := decide_eq_false (by omega)
        clear hlast hR hS hB hc hle hq1
        go_wp2_with fail
        go_meet
        exact ⟨by rw [HD1.out, ← HLa.out], rfl⟩
  case rest =>
    obtain ⟨rfl, rfl⟩ := hcut
    clear HK hq0l
    have hD1e := HD1.out
    rw [← HE.out.2.1] at hD1e
    have hD1l : D1 < 4294967296 := by
      have := kn_lt (u := u) (t := t1) (a := a) (b := b) (by rw [← HE.out.2.1]; exact huY) ht1b
      rw [HD1.out]; exact this
    obtain ⟨u2, hu2⟩ : ∃ u2, u2 = (u * 4294967296 + t1) % Y := ⟨_, rfl⟩
    have hu2Y : u2 < Y := by rw [hu2]; exact Nat.mod_lt _ (by omega)
    have hdm := Nat.div_add_mod (u * 4294967296 + t1) Y
    rw [← hu2, ← hD1e, Nat.mul_comm] at hdm
    obtain ⟨DY, hDY⟩ : ∃ DY, DY = D1 * Y := ⟨_, rfl⟩
    rw [← hDY] at hdm
    have hDYi : (D1 : Int) * (Y : Int) = (DY : Int) := by rw [hDY, Int.natCast_mul]
    obtain ⟨x1, hx1⟩ : ∃ x1, x1 = u * 4294967296 % 18446744073709551616 := ⟨_, rfl⟩
    have k1 : IntKind.u64.wrap ((u : Int) * 4294967296) = (x1 : Int) := by
      rw [show ((u : Int) * 4294967296) = ((u * 4294967296 : Nat) : Int) by omega, wrap_mod64, hx1]
    obtain ⟨x2, hx2⟩ : ∃ x2, x2 = (x1 + t1) % 18446744073709551616 := ⟨_, rfl⟩
    have k2 : IntKind.u64.wrap ((x1 : Int) + (t1 : Int)) = (x2 : Int) := by
      rw [show ((x1 : Int) + (t1 : Int)) = ((x1 + t1 : Nat) : Int) by omega, wrap_mod64, hx2]
    obtain ⟨x3, hx3⟩ : ∃ x3, x3 = DY % 18446744073709551616 := ⟨_, rfl⟩
    have k3 : IntKind.u64.wrap (DY : Int) = (x3 : Int) := by rw [wrap_mod64, hx3]
    have k4 : IntKind.u64.wrap ((x2 : Int) - (x3 : Int)) = (u2 : Int) := by
      simp only [IntKind.wrap, IntKind.bits, IntKind.signed]
      simp
      omega
    have hu2e := Lib.hid (And.intro hu2 hD1e)
    clear hx1 hx2 hx3 hdm hDY hu2 hD1e
    have hk2 := Kn.first (t := t0) ha1 ha2 hb2 (by rw [← HE.out.2.1]; exact hu2Y) ht0b
    obtain ⟨p0, hp0⟩ : ∃ p0, p0 = u2 / a := ⟨_, rfl⟩
    obtain ⟨z0, hz0⟩ : ∃ z0, z0 = u2 % a := ⟨_, rfl⟩
    have g1 : (u2 : Int) / (a : Int) = (p0 : Int) := by rw [hp0]; rfl
    rw [← hp0, ← hz0] at hk2
    obtain ⟨qa, hqa⟩ : ∃ qa, qa = p0 * a := ⟨_, rfl⟩
    have hqau : qa + z0 = u2 := by rw [hqa]; exact hk2.eq
    have g2 : IntKind.u64.wrap ((p0 : Int) * (a : Int)) = (qa : Int) := by
      rw [show ((p0 : Int) * (a : Int)) = (qa : Int) by rw [hqa, Int.natCast_mul]]; exact wrap_nat64 _ (by omega)
    have g3 : IntKind.u64.wrap ((u2 : Int) - (qa : Int)) = (z0 : Int) := by
      rw [show ((u2 : Int) - (qa : Int)) = (z0 : Int) by omega]; exact wrap_nat64 _ (by have := hk2.rl; omega)
    have HK := Lib.hid hk2
    have hp0l : p0 ≤ 4294967297 := HK.out.le
    clear hp0 hz0 hqa hqau hk2
    go_upto_block 2 with fail
    clear g1 g2 g3 k1 k2 k3 k4 hDYi
    obtain ⟨D0, hD0⟩ : ∃ D0, D0 = (u2 * 4294967296 + t0) / (a * 4294967296 + b) := ⟨_, rfl⟩
    have HD0 := Lib.hid hD0
    clear hD0
    go_cut [18] (fun s18 wx => s18 = .int .u64 (D0 : Nat) ∧ wx = wc)
    case first =>
      go_wp2_with fail
      go_loopg [16, 18] (4294967296 - z0) (fun g s16 s18 wr => ∃ q r : Nat, s18 = .int .u64 q ∧ s16 = .int .u64 r ∧ r ≤ 4294967296 ∧ g = 4294967296 - r ∧ Kn u2 t0 a b q r ∧ wr = wc)
      case atStart => exact ⟨p0, z0, rfl, rfl, by have := HK.out.rl; omega, rfl, HK.out, rfl⟩
      case round =>
        obtain ⟨q, r, rfl, rfl, hr0, hg, hk, rfl⟩ := hrel
        have hle := hk.le
        have hrl := hk.rl
        have HKr := Lib.hid hk
        clear hk HK
        have hq1 : IntKind.u64.wrap ((q : Int) - 1) = if q = 0 then 18446744073709551615 else ((q - 1 : Nat) : Int) := by
          by_cases h0 : q = 0
          · subst h0; decide
          · rw [if_neg h0, show ((q : Int) - 1) = ((q - 1 : Nat) : Int) by omega]; exact wrap_nat64 _ (by omega)
        have hra : IntKind.u64.wrap ((r : Int) + (a : Int)) = ((r + a : Nat) : Int) := by
          rw [show ((r : Int) + (a : Int)) = ((r + a : Nat) : Int) by omega]; exact wrap_nat64 _ (by omega)
        obtain ⟨B, hB⟩ : ∃ B, B = q * b := ⟨_, rfl⟩
        have hB2 : (q : Int) * (b : Int) = (B : Int) := by rw [hB, Int.natCast_mul]
        by_cases hc : 4294967296 ≤ q ∨ r * 4294967296 + t0 < q * b
        · obtain ⟨n1, n2, n3⟩ := HKr.out.next (by omega) (by rw [← HE.out.2.1]; exact hu2Y) ht0b hc
          rw [if_neg (by omega)] at hq1
          obtain ⟨p, hp⟩ : ∃ p, p = q - 1 := ⟨_, rfl⟩
          rw [← hp] at hq1
          obtain ⟨r2, hr2⟩ : ∃ r2, r2 = r + a := ⟨_, rfl⟩
          rw [← hr2] at hra
          have hcond : (4294967296 ≤ q) ∨ (q < 4294967296 ∧ r * 4294967296 + t0 < B) := by
            rcases Nat.lt_or_ge q 4294967296 with h | h
            · right; refine ⟨h, ?_⟩; rw [hB]; rcases hc with h2 | h2
              · omega
              · exact h2
            · left; exact h
          have HN := Lib.hid (And.intro hp (And.intro hr2 (And.intro hc hB)))
          by_cases hbr : 4294967296 ≤ r2
          · have hend := HKr.out.break_ (by omega) hb2 (by rw [← HE.out.2.1]; exact hu2Y) ht0b hc (by omega)
            have hbd : decide ((4294967296 : Int) ≤ (r2 : Int)) = true := decide_eq_true (by omega)
            have HEn := Lib.hid hend
            clear hend hp hr2 hB n1 n2 n3 hc
            rcases hcond with hq | ⟨hq, hlt⟩
            · have hqd : decide ((4294967296 : Int) ≤ (q : Int)) = true := decide_eq_true (by omega)
              clear hle
              go_wp2_with fail
              go_meet
              exact ⟨by rw [HD0.out, ← HEn.out, ← HN.out.1], rfl⟩
            · have hqd : decide ((4294967296 : Int) ≤ (q : Int)) = false := decide_eq_false (by omega)
              have hw1 : IntKind.u64.wrap (B : Int) = (B : Int) := wrap_nat64 _ (by have := HN.out.2.2.2; have := Nat.mul_le_mul (show q ≤ 4294967295 by omega) (show b ≤ 4294967295 by omega); omega)
              obtain ⟨R, hR⟩ : ∃ R, R = 4294967296 * r := ⟨_, rfl⟩
              have hR1 : (4294967296 : Int) * (r : Int) = (R : Int) := by rw [hR, Int.natCast_mul]; rfl
              have hR2 : IntKind.u64.wrap (R : Int) = (R : Int) := wrap_nat64 _ (by omega)
              obtain ⟨S, hS⟩ : ∃ S, S = R + t0 := ⟨_, rfl⟩
              have hS1 : (R : Int) + (t0 : Int) = (S : Int) := by omega
              have hS2 : IntKind.u64.wrap (S : Int) = (S : Int) := wrap_nat64 _ (by omega)
              have hSd : decide ((S : Int) < (B : Int)) = true := decide_eq_true (by omega)
              have hSd2 : decide (S < B) = true := decide_eq_true (by omega)
              clear hR hS hlt hle
              go_wp2_with fail
              go_meet
              exact ⟨by rw [HD0.out, ← HEn.out, ← HN.out.1], rfl⟩
          · have hstep := HKr.out.step (by omega) (by rw [← HE.out.2.1]; exact hu2Y) ht0b hc (by omega)
            have hbd : decide ((4294967296 : Int) ≤ (r2 : Int)) = false := decide_eq_false (by omega)
            rw [← hp, ← hr2] at hstep
            have HSt := Lib.hid hstep
            have hr2l : r2 = r + a := hr2
            have Hr2 := Lib.hid hr2l
            clear hstep hp hr2 hr2l hB n1 n2 n3 hc
            rcases hcond with hq | ⟨hq, hlt⟩
            · have hqd : decide ((4294967296 : Int) ≤ (q : Int)) = true := decide_eq_true (by omega)
              clear hle
              go_wp2_with fail
              go_roundg (4294967296 - r2)
              case measure => have := Hr2.out; omega
              case rel => exact ⟨p, r2, rfl, rfl, by omega, rfl, HSt.out, rfl⟩
            · have hqd : decide ((4294967296 : Int) ≤ (q : Int)) = false := decide_eq_false (by omega)
              have hw1 : IntKind.u64.wrap (B : Int) = (B : Int) := wrap_nat64 _ (by have := HN.out.2.2.2; have := Nat.mul_le_mul (show q ≤ 4294967295 by omega) (show b ≤ 4294967295 by omega); omega)
              obtain ⟨R, hR⟩ : ∃ R, R = 4294967296 * r := ⟨_, rfl⟩
              have hR1 : (4294967296 : Int) * (r : Int) = (R : Int) := by rw [hR, Int.natCast_mul]; rfl
              have hR2 : IntKind.u64.wrap (R : Int) = (R : Int) := wrap_nat64 _ (by omega)
              obtain ⟨S, hS⟩ : ∃ S, S = R + t0 := ⟨_, rfl⟩
              have hS1 : (R : Int) + (t0 : Int) = (S : Int) := by omega
              have hS2 : IntKind.u64.wrap (S : Int) = (S : Int) := wrap_nat64 _ (by omega)
              have hSd : decide ((S : Int) < (B : Int)) = true := decide_eq_true (by omega)
              have hSd2 : decide (S < B) = true := decide_eq_true (by omega)
              clear hR hS hlt hle
              go_wp2_with fail
              go_roundg (4294967296 - r2)
              case measure => have := Hr2.out; omega
              case rel => exact ⟨p, r2, rfl, rfl, by omega, rfl, HSt.out, rfl⟩
        · have hlast := HKr.out.last (by omega) (by omega)
          have HLa := Lib.hid hlast
          have hqd : decide ((4294967296 : Int) ≤ (q : Int)) = false := decide_eq_false (by omega)
          have hw1 : IntKind.u64.wrap (B : Int) = (B : Int) := wrap_nat64 _ (by have := Nat.mul_le_mul (show q ≤ 4294967295 by omega) (show b ≤ 4294967295 by omega); omega)
          obtain ⟨R, hR⟩ : ∃ R, R = 4294967296 * r := ⟨_, rfl⟩
          have hR1 : (4294967296 : Int) * (r : Int) = (R : Int) := by rw [hR, Int.natCast_mul]; rfl
          have hR2 : IntKind.u64.wrap (R : Int) = (R : Int) := wrap_nat64 _ (by omega)
          obtain ⟨S, hS⟩ : ∃ S, S = R + t0 := ⟨_, rfl⟩
          have hS1 : (R : Int) + (t0 : Int) = (S : Int) := by omega
          have hS2 : IntKind.u64.wrap (S : Int) = (S : Int) := wrap_nat64 _ (by omega)
          have hSd : decide ((S : Int) < (B : Int)) = false := decide_eq_false (by omega)
          have hSd2 : decide (S < B) = false := decide_eq_false (by omega)
          clear hlast hR hS hB hc hle hq1
          go_wp2_with fail
          go_meet
          exact ⟨by rw [HD0.out, ← HLa.out], rfl⟩
    case rest =>
      obtain ⟨rfl, rfl⟩ := hcut
      clear HK hp0l
      have hD0l : D0 < 4294967296 := by
        have := kn_lt (u := u2) (t := t0) (a := a) (b := b) (by rw [← HE.out.2.1]; exact hu2Y) ht0b
        rw [HD0.out]; exact this
      have hfin : (hi * 18446744073709551616 + lo) / y = D1 * 4294967296 + D0 := by
        have h2 := kn_two (u := u) (t1 := t1) (t0 := t0) (Y := Y) (by omega)
        rw [← hu2e.out.1, ← hu2e.out.2] at h2
        have h3 := HD0.out
        rw [← HE.out.2.1] at h3
        rw [← h3] at h2
        rw [← h2]
        have e1 : (u * 4294967296 + t1) * 4294967296 + t0 = (hi * 18446744073709551616 + lo) * 2 ^ s := by
          rw [← HE.out.2.2.1, ← HE.out.2.2.2.2.1, ← HE.out.2.2.2.1, ← HE.out.2.2.2.2.2.1, ← HE.out.2.2.2.2.2.2.1]
          have := HE.out.2.2.2.2.2.2.2
          omega
        rw [e1, HE.out.1, Nat.mul_div_mul_right _ _ (Nat.two_pow_pos s)]
      have m1 : IntKind.u64.wrap ((D1 : Int) * 4294967296) = ((D1 : Int) * 4294967296) := by
        rw [show ((D1 : Int) * 4294967296) = ((D1 * 4294967296 : Nat) : Int) by omega]; exact wrap_nat64 _ (by omega)
      have m2 : IntKind.u64.wrap ((D1 : Int) * 4294967296 + (D0 : Int)) = ((D1 * 4294967296 + D0 : Nat) : Int) := by
        rw [show ((D1 : Int) * 4294967296 + (D0 : Int)) = ((D1 * 4294967296 + D0 : Nat) : Int) by omega]; exact wrap_nat64 _ (by omega)
      have HF := Lib.hid hfin
      clear hfin
      go_wp2_with fail
      go_ret2
      rw [HF.out]
      exact ⟨⟨_, rfl⟩, 0, rfl⟩
theorem div64_any (hi lo y : Nat) (w : World) (hy : hi < y) (hy63 : y < 9223372036854775808) (hlo : lo < 18446744073709551616) : Calls Try.prog 23 #[.int .u64 hi, .int .u64 lo, .int .u64 y] w (DvP ((hi * 18446744073709551616 + lo) / y) w) := by
  rcases Nat.eq_zero_or_pos hi with h | h
  · subst h
    have := div64_0 lo y w hy hlo
    rw [Nat.zero_mul, Nat.zero_add]
    exact this
  · exact div64_1 hi lo y w h hy hy63 hlo
end Go.Proofs.Ytbkadfocjmpieaa
