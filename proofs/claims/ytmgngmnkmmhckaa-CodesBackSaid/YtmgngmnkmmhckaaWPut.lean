/-
  The writer's calls: Put, Bit, Add.
-/
import Derived.Test.YtmgngmnkmmhckaaPut
import Derived.Test.YtmgngmnkmmhckaaRefNum
set_option linter.unusedVariables false
namespace Go.Proofs.Ytmgngmnkmmhckaa
open Go.RowKit Plain

theorem div_eq_zero_of (v n : Nat) (h : v < 2 ^ n) : v / 2 ^ n = 0 := Nat.div_eq_of_lt h
theorem cast_div_pow (v n : Nat) : ((v : Int) / 2 ^ n) = ((v / 2 ^ n : Nat) : Int) := by simp

set_option maxHeartbeats 400000 in
theorem fits_yes (v n : Nat) (w : World) (hv : v < 18446744073709551616) (hn : n ≤ 64) (h : v < 2 ^ n) :
    Calls Try.prog 50 #[.int .u64 v, .int .i64 n] w fun e w' => e = .returned (.bool true) ∧ w = w' := by
  by_cases h64 : 64 ≤ n
  · go_enter Try.func50, Try.ntmps50
    go_wp2
    go_ret
    exact ⟨rfl, rfl⟩
  · have hd : ((v : Int) / 2 ^ n == 0) = true := by rw [cast_div_pow, div_eq_zero_of v n h]; rfl
    clear h
    go_enter Try.func50, Try.ntmps50
    go_wp2
    go_ret
    exact ⟨rfl, rfl⟩
set_option maxHeartbeats 400000 in
theorem fits_no (v n : Nat) (w : World) (hv : v < 18446744073709551616) (hn : n ≤ 64) (h : ¬ v < 2 ^ n) :
    Calls Try.prog 50 #[.int .u64 v, .int .i64 n] w fun e w' => e = .returned (.bool false) ∧ w = w' := by
  have h64 : ¬ 64 ≤ n := by
    intro h64
    have : n = 64 := by omega
    subst this
    exact h (by simpa using hv)
  have hd : ((v : Int) / 2 ^ n == 0) = false := by
    rw [cast_div_pow, beq_eq_false_iff_ne]
    intro e
    have e2 : v / 2 ^ n = 0 := by omega
    rw [Nat.div_eq_zero_iff] at e2
    rcases e2 with e2 | e2
    · have : 0 < 2 ^ n := Nat.pow_pos (by decide)
      omega
    · exact h e2
  clear h
  go_enter Try.func50, Try.ntmps50
  go_wp2
  go_ret
  exact ⟨by show Ending.returned (.bool (decide (64 ≤ (n : Int)))) = _; rw [decide_eq_false (by omega)], rfl⟩

def putCode (len v : Nat) (n : Int) : Int := if n < 0 ∨ 64 < n ∨ ¬ v < 2 ^ n.toNat then 1 else if 134217728 < (len : Int) + n then 3 else 0
def putBits (l : List Bool) (v : Nat) (n : Int) : List Bool := if putCode l.length v n = 0 then l ++ bitsOf v n.toNat else l
theorem putCode_arg {len v : Nat} {n : Int} (h : n < 0 ∨ 64 < n ∨ ¬ v < 2 ^ n.toNat) : putCode len v n = 1 := by unfold putCode; rw [if_pos h]
theorem putCode_full {len v : Nat} {n : Int} (h : ¬ (n < 0 ∨ 64 < n ∨ ¬ v < 2 ^ n.toNat)) (h2 : 134217728 < (len : Int) + n) : putCode len v n = 3 := by unfold putCode; rw [if_neg h, if_pos h2]
theorem putCode_ok {len v : Nat} {n : Int} (h : ¬ (n < 0 ∨ 64 < n ∨ ¬ v < 2 ^ n.toNat)) (h2 : ¬ 134217728 < (len : Int) + n) : putCode len v n = 0 := by unfold putCode; rw [if_neg h, if_neg h2]

set_option maxRecDepth 100000 in
set_option maxHeartbeats 1000000 in
theorem wput_any (h : Nat) (o : Option Nat) (l : List Bool) (v : Nat) (n : Int) (w : World) (hv : v < 18446744073709551616) (hw : WrAt w h o l) (hL : l.length ≤ 134217728) :
    Calls Try.prog 26 #[.pointer (some ⟨h, 0, none⟩), .int .u64 v, .int .i64 n] w fun e w' => e = .returned (.int .i64 (putCode l.length v n)) ∧ WrTo w h o (putBits l v n) w' := by
  obtain ⟨sv, hb, hown, hsv⟩ := hw
  have hw : WrAt w h o l := ⟨sv, hb, hown, hsv⟩
  have hc1 := hb.cell 1
  simp at hc1
  clear hb hown hsv
  by_cases h1 : n < 0 ∨ 64 < n
  · have hfin : putCode l.length v n = 1 ∧ WrTo w h o (putBits l v n) w := by
      have e := putCode_arg (len := l.length) (v := v) (n := n) (by omega)
      refine ⟨e, ?_⟩
      unfold putBits
      rw [e, if_neg (by decide)]
      exact WrTo.refl hw
    have Hf := Lib.hid hfin
    clear hfin
    rcases h1 with h1 | h1
    · go_enter Try.func26, Try.ntmps26
      go_wp2_with fail
      go_ret
      exact ⟨by rw [Hf.out.1]; rfl, Hf.out.2⟩
    · have h2 : ¬ n < 0 := by omega
      go_enter Try.func26, Try.ntmps26
      go_wp2_with fail
      go_ret
      exact ⟨by rw [Hf.out.1]; rfl, Hf.out.2⟩
  · obtain ⟨m, rfl⟩ := Int.eq_ofNat_of_zero_le (show 0 ≤ n by omega)
    have hm : m ≤ 64 := by omega
    have hm2 : ¬ ((m : Int) < 0) := by omega
    have hm3 : ¬ ((64 : Int) < m) := by omega
    by_cases hf : v < 2 ^ m
    · by_cases hful : 134217728 < l.length + m
      · have hfin : putCode l.length v m = 3 ∧ WrTo w h o (putBits l v m) w := by
          have e := putCode_full (len := l.length) (v := v) (n := m) (by simp [hf]; omega) (by omega)
          refine ⟨e, ?_⟩
          unfold putBits
          rw [e, if_neg (by decide)]
          exact WrTo.refl hw
        have Hf := Lib.hid hfin
        have Hfit := Lib.hid hf
        clear hfin h1 hf
        go_enter Try.func26, Try.ntmps26
        go_wp2_with (go_at_call 50; refine (fits_yes v m _ hv hm Hfit.out).mono ?_; rintro e w' ⟨rfl, rfl⟩)
        go_ret
        exact ⟨by rw [Hf.out.1]; rfl, Hf.out.2⟩
      · have hfin : putCode l.length v m = 0 ∧ putBits l v m = l ++ bitsOf v m := by
          have e := putCode_ok (len := l.length) (v := v) (n := m) (by simp [hf]; omega) (by omega)
          refine ⟨e, ?_⟩
          unfold putBits
          rw [e, if_pos rfl]
          rfl
        have Hf := Lib.hid hfin
        have Hfit := Lib.hid hf
        clear hfin h1 hf
        go_enter Try.func26, Try.ntmps26
        go_wp2_with (first | (go_at_call 50; refine (fits_yes v m _ hv hm Hfit.out).mono ?_; rintro e w' ⟨rfl, rfl⟩) | (go_at_call 51; refine (put_any h o l v m _ hv hm hw (by omega)).mono ?_; rintro e w1 ⟨rfl, hw1⟩))
        go_ret
        exact ⟨by rw [Hf.out.1]; rfl, by rw [Hf.out.2]; exact hw1⟩
    · have hfin : putCode l.length v m = 1 ∧ WrTo w h o (putBits l v m) w := by
        have e := putCode_arg (len := l.length) (v := v) (n := m) (by right; right; simpa using hf)
        refine ⟨e, ?_⟩
        unfold putBits
        rw [e, if_neg (by decide)]
        exact WrTo.refl hw
      have Hf := Lib.hid hfin
      have Hfit := Lib.hid hf
      clear hfin h1 hf
      go_enter Try.func26, Try.ntmps26
      go_wp2_with (go_at_call 50; refine (fits_no v m _ hv hm Hfit.out).mono ?_; rintro e w' ⟨rfl, rfl⟩)
      go_ret
      exact ⟨by rw [Hf.out.1]; rfl, Hf.out.2⟩

set_option maxHeartbeats 400000 in
theorem wbit_any (h : Nat) (o : Option Nat) (l : List Bool) (b : Bool) (w : World) (hw : WrAt w h o l) (hL : l.length ≤ 134217728) :
    Calls Try.prog 27 #[.pointer (some ⟨h, 0, none⟩), .bool b] w fun e w' => e = .returned (.int .i64 (putCode l.length b.toNat 1)) ∧ WrTo w h o (putBits l b.toNat 1) w' := by
  cases b
  · go_enter Try.func27, Try.ntmps27
    go_wp2_with (go_at_call 26; refine (wput_any h o l 0 1 _ (by decide) hw hL).mono ?_; rintro e w1 ⟨rfl, hw1⟩)
    go_ret
    exact ⟨rfl, hw1⟩
  · go_enter Try.func27, Try.ntmps27
    go_wp2_with (go_at_call 26; refine (wput_any h o l 1 1 _ (by decide) hw hL).mono ?_; rintro e w1 ⟨rfl, hw1⟩)
    go_ret
    exact ⟨rfl, hw1⟩

set_option maxHeartbeats 400000 in
theorem new_any (w : World) :
    Calls Try.prog 24 #[] w fun e w' => e = .returned (.pointer (some ⟨w.heap.size, 0, none⟩)) ∧ w.alloc (.cells #[.slice none 0 0, .int .i64 0] 93) = w' := by
  go_enter Try.func24, Try.ntmps24
  go_wp2
  go_ret
  exact ⟨rfl, rfl⟩
theorem WrAt.new (w : World) : WrAt (w.alloc (.cells #[.slice none 0 0, .int .i64 0] 93)) w.heap.size none [] :=
  ⟨_, Blk.new _ _ _, World.ownsRow_nil _ _ _ _, rfl⟩
end Go.Proofs.Ytmgngmnkmmhckaa
