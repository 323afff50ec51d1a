/-
  The writer's call Add.
-/
import Derived.Test.YtmgngmnkmmhckaaWPut
set_option linter.unusedVariables false
namespace Go.Proofs.Ytmgngmnkmmhckaa
open Go.RowKit Plain

def addCode (len sz : Nat) (n : Int) : Int := if n < 0 ∨ 8 * (sz : Int) < n then 1 else if 134217728 < (len : Int) + n then 3 else 0
def addBits (l : List Bool) (s : ByteArray) (n : Int) : List Bool := if addCode l.length s.size n = 0 then l ++ (bitsS s).take n.toNat else l

theorem bitsS_take_succ (s : ByteArray) (k : Nat) (h : k < s.size) : (bitsS s).take (8 * (k + 1)) = (bitsS s).take (8 * k) ++ bitsOf s[k].toNat 8 := by
  have hsplit : sN s = (sN s).take k ++ ([s[k].toNat] ++ (sN s).drop (k + 1)) := by
    rw [← List.append_assoc, ← sN_take s k h, List.take_append_drop]
  have hlk : ((sN s).take k).length = k := by rw [List.length_take, length_sN]; omega
  have e1 : bytesBits [s[k].toNat] = bitsOf s[k].toNat 8 := by simp [bytesBits]
  unfold bitsS
  rw [hsplit, bytesBits_append, bytesBits_append, e1]
  have hl : (bytesBits ((sN s).take k)).length = 8 * k := by rw [length_bytesBits, hlk]
  rw [← List.append_assoc, List.take_left' (by rw [List.length_append, hl, length_bitsOf]; omega), List.append_assoc, List.take_left' hl]
theorem bitsS_take_rest (s : ByteArray) (k r : Nat) (h : k < s.size) (hr : r ≤ 8) : (bitsS s).take (8 * k + r) = (bitsS s).take (8 * k) ++ bitsOf (s[k].toNat / 2 ^ (8 - r)) r := by
  have h1 := bitsS_take_succ s k h
  have h2 : (bitsS s).take (8 * k + r) = ((bitsS s).take (8 * (k + 1))).take (8 * k + r) := by rw [List.take_take]; congr 1; omega
  have hl : ((bitsS s).take (8 * k)).length = 8 * k := by rw [List.length_take, length_bitsS]; omega
  rw [h2, h1, List.take_append, hl, List.take_of_length_le (by omega)]
  congr 1
  have e : bitsOf s[k].toNat 8 = bitsOf s[k].toNat (r + (8 - r)) := by congr 1; omega
  rw [e, bitsOf_add]
  have e2 : 8 * k + r - 8 * k = r := by omega
  rw [e2, List.take_left' (length_bitsOf _ _)]

theorem wrap_nat64 (y : Nat) (hy : y < 18446744073709551616) : IntKind.u64.wrap (y : Int) = (y : Int) := by
  simp only [IntKind.wrap, IntKind.bits, IntKind.signed]
  simp
  omega
theorem wrap_small (x j : Nat) (hx : x < 256) : IntKind.u64.wrap ((x : Int) / 2 ^ j) = ((x / 2 ^ j : Nat) : Int) := by
  have h : x / 2 ^ j < 256 := Nat.lt_of_le_of_lt (Nat.div_le_self _ _) hx
  rw [cast_div_pow]
  exact wrap_nat64 _ (by omega)
theorem toNat_div (x j : Nat) : ((x : Int) / 2 ^ j).toNat = x / 2 ^ j := by rw [cast_div_pow]; exact Int.toNat_natCast _

theorem put_int (h : Nat) (o : Option Nat) (l : List Bool) (v n : Int) (w : World) (hv0 : 0 ≤ v) (hv : v < 18446744073709551616) (h0 : 0 ≤ n) (hn : n ≤ 64) (hw : WrAt w h o l) (hL : l.length + n.toNat ≤ 134217728) :
    Calls Try.prog 51 #[.pointer (some ⟨h, 0, none⟩), .int .u64 v, .int .i64 n] w fun e w' => e = .returned (.tuple #[]) ∧ WrTo w h o (l ++ bitsOf v.toNat n.toNat) w' := by
  obtain ⟨m, rfl⟩ := Int.eq_ofNat_of_zero_le h0
  obtain ⟨x, rfl⟩ := Int.eq_ofNat_of_zero_le hv0
  simpa using put_any h o l x m w (by omega) (by omega) hw (by simpa using hL)

set_option maxRecDepth 100000 in
set_option maxHeartbeats 1000000 in
theorem wadd_any (h : Nat) (o : Option Nat) (l : List Bool) (s : ByteArray) (n : Int) (w : World) (hs : s.size ≤ 140737488355328) (hw : WrAt w h o l) (hL : l.length ≤ 134217728) :
    Calls Try.prog 36 #[.pointer (some ⟨h, 0, none⟩), .string s, .int .i64 n] w fun e w' => e = .returned (.int .i64 (addCode l.length s.size n)) ∧ WrTo w h o (addBits l s n) w' := by
  obtain ⟨sv, hb, hown, hsv⟩ := hw
  have hw : WrAt w h o l := ⟨sv, hb, hown, hsv⟩
  have hc1 := hb.cell 1
  simp at hc1
  clear hb hown hsv
  by_cases h1 : n < 0 ∨ 8 * (s.size : Int) < n
  · have hfin : addCode l.length s.size n = 1 ∧ WrTo w h o (addBits l s n) w := by
      have e : addCode l.length s.size n = 1 := by unfold addCode; rw [if_pos h1]
      refine ⟨e, ?_⟩
      unfold addBits
      rw [e, if_neg (by decide)]
      exact WrTo.refl hw
    have Hf := Lib.hid hfin
    clear hfin
    rcases h1 with h1 | h1
    · go_enter Try.func36, Try.ntmps36
      go_wp2_with fail
      go_ret
      exact ⟨by rw [Hf.out.1]; rfl, Hf.out.2⟩
    · have h2 : ¬ n < 0 := by omega
      go_enter Try.func36, Try.ntmps36
      go_wp2_with fail
      go_ret
      exact ⟨by rw [Hf.out.1]; rfl, Hf.out.2⟩
  · obtain ⟨m, rfl⟩ := Int.eq_ofNat_of_zero_le (show 0 ≤ n by omega)
    have hm : m ≤ 8 * s.size := by omega
    have hm2 : ¬ ((m : Int) < 0) := by omega
    have hm3 : ¬ (8 * (s.size : Int) < m) := by omega
    by_cases hful : 134217728 < l.length + m
    · have hfin : addCode l.length s.size m = 3 ∧ WrTo w h o (addBits l s m) w := by
        have e : addCode l.length s.size m = 3 := by unfold addCode; rw [if_neg h1, if_pos (by omega)]
        refine ⟨e, ?_⟩
        unfold addBits
        rw [e, if_neg (by decide)]
        exact WrTo.refl hw
      have Hf := Lib.hid hfin
      clear hfin h1
      go_enter Try.func36, Try.ntmps36
      go_wp2_with fail
      go_ret
      exact ⟨by rw [Hf.out.1]; rfl, Hf.out.2⟩
    · have hfin : addCode l.length s.size m = 0 ∧ addBits l s m = l ++ (bitsS s).take m := by
        have e : addCode l.length s.size m = 0 := by unfold addCode; rw [if_neg h1, if_neg (by omega)]
        refine ⟨e, ?_⟩
        unfold addBits
        rw [e, if_pos rfl]
        rfl
      have Hf := Lib.hid hfin
      have hand := and7 m (by omega)
      obtain ⟨r, hr⟩ : ∃ r, r = m % 8 := ⟨_, rfl⟩
      obtain ⟨q, hq⟩ : ∃ q, q = m / 8 := ⟨_, rfl⟩
      rw [← hr] at hand
      have hdiv : (m : Int) / 8 = (q : Int) := by omega
      have hmq : m = 8 * q + r := by omega
      have hr8 : r < 8 := by omega
      have hqs : q ≤ s.size := by omega
      have hqs2 : 0 < r → q < s.size := by omega
      have Hmq := Lib.hid hmq
      have Hqs2 := Lib.hid hqs2
      have hml : l.length + m ≤ 134217728 := by omega
      have hql : l.length + (8 * q + r) ≤ 134217728 := by omega
      clear hfin h1 hr hq hmq hqs2
      go_enter Try.func36, Try.ntmps36
      go_wp2_with fail
      go_loopg [7, 32] q (fun g s7 c wr => ∃ k : Nat, k + g = q ∧ c = .int .i64 k ∧ WrTo w h o (l ++ (bitsS s).take (8 * k)) wr)
      case atStart => exact ⟨0, by omega, rfl, by rw [Nat.mul_zero, List.take_zero, List.append_nil]; exact WrTo.refl hw⟩
      case round =>
        obtain ⟨k, hk, rfl, o1, hw1, ho1, hf1⟩ := hrel
        by_cases hkq : k < q
        · have hks : k < s.size := by omega
          have hx : s[k].toNat < 256 := s[k].toNat_lt
          obtain ⟨x, hxe⟩ : ∃ x, x = s[k].toNat := ⟨_, rfl⟩
          have hlen : (l ++ (bitsS s).take (8 * k)).length + 8 ≤ 134217728 := by rw [List.length_append, List.length_take]; omega
          go_wp2_with (go_at_call 51; refine (put_int h o1 (l ++ (bitsS s).take (8 * k)) _ 8 _ ?_ ?_ (by decide) (by decide) hw1 hlen).mono ?_)
          · omega
          · omega
          rintro e w1 ⟨rfl, hw2⟩
          have HW := Lib.hid hw2
          clear hw2
          go_wp2_with fail
          go_roundg (gk - 1)
          case measure => omega
          case rel =>
            refine ⟨k + 1, by omega, by go_num, ?_⟩
            have hw2 := HW.out
            rw [bitsS_take_succ s k hks, ← List.append_assoc]
            exact WrTo.trans hw.lto ho1 hf1 (by simpa using hw2)
        · have hkq2 : k = q := by omega
          subst hkq2
          clear hk hkq
          by_cases hr0 : 0 < r
          · have hqs3 := Hqs2.out hr0
            have hx : s[k].toNat < 256 := s[k].toNat_lt
            have hdd : s[k].toNat / 2 ^ (8 - r) < 256 := Nat.lt_of_le_of_lt (Nat.div_le_self _ _) hx
            have hlen : (l ++ (bitsS s).take (8 * k)).length + r ≤ 134217728 := by rw [List.length_append, List.length_take]; omega
            go_wp2_with (go_at_call 51; refine (put_int h o1 (l ++ (bitsS s).take (8 * k)) _ r _ ?_ ?_ ?_ ?_ hw1 hlen).mono ?_)
            · rw [wrap_small _ _ hx]; exact Int.natCast_nonneg _
            · rw [wrap_small _ _ hx]; omega
            · omega
            · omega
            rintro e w1 ⟨rfl, hw2⟩
            have HW := Lib.hid hw2
            clear hw2
            go_wp2_with fail
            go_ret
            refine ⟨by rw [Hf.out.1]; rfl, ?_⟩
            have hw2 := HW.out
            rw [Hf.out.2, Hmq.out, bitsS_take_rest s k r hqs3 (by omega), ← List.append_assoc]
            rw [wrap_small _ _ hx, Int.toNat_natCast, Int.toNat_natCast] at hw2
            exact WrTo.trans hw.lto ho1 hf1 hw2
          · go_wp2_with fail
            go_ret
            refine ⟨by rw [Hf.out.1]; rfl, ?_⟩
            have e0 : r = 0 := by omega
            have e1 := Hmq.out
            rw [e0, Nat.add_zero] at e1
            rw [Hf.out.2, e1]
            exact ⟨o1, hw1, ho1, hf1⟩
end Go.Proofs.Ytmgngmnkmmhckaa
