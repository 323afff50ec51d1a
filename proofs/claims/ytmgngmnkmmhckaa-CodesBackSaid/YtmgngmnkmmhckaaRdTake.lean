/-
  The program's reader: Take, Bit.
-/
import Derived.Test.YtmgngmnkmmhckaaRd
set_option linter.unusedVariables false
namespace Go.Proofs.Ytmgngmnkmmhckaa
open Go.RowKit Plain

def TkRel (w : World) (h : Nat) (s : ByteArray) (a m br bv k : Nat) (wr : World) : Prop :=
  k ≤ m ∧ Blk wr br 23 #[.pointer (some ⟨h, 0, none⟩)] ∧ Blk wr bv 35 #[.int .u64 (num (((bitsS s).drop a).take (m - k)) : Nat)] ∧ Blk wr h 88 #[.string s, .int .i64 (a + (m - k) : Nat)] ∧ Only (fun k => k = h) w wr

set_option maxRecDepth 100000 in
set_option maxHeartbeats 2000000 in
theorem take_any (h : Nat) (s : ByteArray) (a : Nat) (n : Int) (w : World) (hw : RdAt w h s a) (hs : s.size ≤ 140737488355328) :
    Calls Try.prog 17 #[.pointer (some ⟨h, 0, none⟩), .int .i64 n] w fun e w' => e = .returned (.tuple #[.int .u64 (takeVal (bitsS s) a n), .int .i64 (takeCode (8 * s.size) a n)]) ∧ RdTo w h s (takeAt (8 * s.size) a n) w' := by
  have hw0 := hw
  obtain ⟨hb, ha⟩ := hw
  have hlen := length_bitsS s
  have Hlen := Lib.hid hlen
  clear hlen
  by_cases h1 : n < 0 ∨ 64 < n
  · have e1 : takeCode (8 * s.size) a n = 1 := by unfold takeCode; rw [if_pos h1]
    have hfin : takeVal (bitsS s) a n = 0 ∧ takeCode (8 * s.size) a n = 1 ∧ takeAt (8 * s.size) a n = a :=
      ⟨by unfold takeVal; rw [Hlen.out, e1, if_neg (by decide)], e1, by unfold takeAt; rw [e1, if_neg (by decide)]⟩
    have Hf := Lib.hid hfin
    clear e1 hfin
    have HB := Lib.hid (And.intro hb hw0)
    clear hb hw0 ha
    rcases h1 with h1 | h1
    · go_enter Try.func17, Try.ntmps17
      go_wp2_with fail
      go_ret2
      obtain ⟨q1, q2, q3⟩ := Hf.out
      rw [q1, q2, q3]
      exact ⟨rfl, ⟨HB.out.1.alloc _, HB.out.2.2⟩, (Only.refl _ _).alloc _⟩
    · have h2 : ¬ n < 0 := by omega
      go_enter Try.func17, Try.ntmps17
      go_wp2_with fail
      go_ret2
      obtain ⟨q1, q2, q3⟩ := Hf.out
      rw [q1, q2, q3]
      exact ⟨rfl, ⟨HB.out.1.alloc _, HB.out.2.2⟩, (Only.refl _ _).alloc _⟩
  · obtain ⟨m, rfl⟩ := Int.eq_ofNat_of_zero_le (show 0 ≤ n by omega)
    have hm : m ≤ 64 := by omega
    have hm2 : ¬ ((m : Int) < 0) := by omega
    have hm3 : ¬ ((64 : Int) < m) := by omega
    have hlt := hb.lt
    by_cases hful : 8 * s.size < a + m
    · have e1 : takeCode (8 * s.size) a m = 4 := by unfold takeCode; rw [if_neg h1, if_pos (by omega)]
      have hfin : takeVal (bitsS s) a m = 0 ∧ takeCode (8 * s.size) a m = 4 ∧ takeAt (8 * s.size) a m = a :=
        ⟨by unfold takeVal; rw [Hlen.out, e1, if_neg (by decide)], e1, by unfold takeAt; rw [e1, if_neg (by decide)]⟩
      have Hf := Lib.hid hfin
      have hd : 8 * (s.size : Int) - (a : Int) < (m : Int) := by omega
      clear e1 hfin h1 hful
      have HB := Lib.hid (And.intro hb hw0)
      clear hb hw0
      go_enter Try.func17, Try.ntmps17
      go_wp2_with (go_at_call 22; refine (left_any h s a _ ⟨HB.out.1.alloc _, ha⟩ hs).mono ?_; rintro e w1 ⟨rfl, nk, rfl⟩)
      go_ret2
      obtain ⟨q1, q2, q3⟩ := Hf.out
      rw [q1, q2, q3]
      exact ⟨rfl, ⟨(HB.out.1.alloc _).drewN _, HB.out.2.2⟩, ((Only.refl _ _).alloc _).drewN _⟩
    · have e1 : takeCode (8 * s.size) a m = 0 := by unfold takeCode; rw [if_neg h1, if_neg (by omega)]
      have hfin : takeVal (bitsS s) a m = num (((bitsS s).drop a).take m) ∧ takeCode (8 * s.size) a m = 0 ∧ takeAt (8 * s.size) a m = a + m :=
        ⟨by unfold takeVal; rw [Hlen.out, e1, if_pos rfl]; rfl, e1, by unfold takeAt; rw [e1, if_pos rfl]; rfl⟩
      have Hf := Lib.hid hfin
      have hd : (m : Int) ≤ 8 * (s.size : Int) - (a : Int) := by omega
      have hful2 : a + m ≤ 8 * s.size := by omega
      clear e1 hfin h1 hful
      have HB := Lib.hid (And.intro hb hw0)
      clear hb hw0
      go_enter Try.func17, Try.ntmps17
      go_wp2_with (go_at_call 22; refine (left_any h s a _ ⟨HB.out.1.alloc _, ha⟩ hs).mono ?_; rintro e w1 ⟨rfl, nk, rfl⟩)
      go_loopg [1] m (fun k n wr => n = .int .i64 k ∧ TkRel w h s a m w.heap.size (w.heap.size + 1) k wr)
      case atStart =>
        refine ⟨rfl, Nat.le_refl _, ?_, ?_, ?_, ?_⟩
        · exact (((Blk.new w 23 _).drewN _).alloc _)
        · rw [Nat.sub_self, List.take_zero]
          have := Blk.new ((w.alloc (.cells #[.pointer (some ⟨h, 0, none⟩)] 23)).drewN nk) 35 #[.int .u64 0]
          simpa [num] using this
        · rw [Nat.sub_self]
          exact (((HB.out.1.alloc _).drewN _).alloc _)
        · exact (((Only.refl _ _).alloc _).drewN _).alloc _
      case round =>
        obtain ⟨rfl, hk, b1, b2, b3, ho⟩ := hrel
        by_cases hk0 : 0 < gk
        · obtain ⟨i, hi⟩ : ∃ i, i = m - gk := ⟨_, rfl⟩
          obtain ⟨x, hx⟩ : ∃ x, x = num (((bitsS s).drop a).take i) := ⟨_, rfl⟩
          obtain ⟨a1, ha1⟩ : ∃ a1, a1 = a + i := ⟨_, rfl⟩
          rw [← hi] at b2 b3
          rw [← hx] at b2
          rw [← ha1] at b3
          have hxl : x < 2 ^ i := by rw [hx]; exact num_take_lt _ _
          obtain ⟨r, hr⟩ : ∃ r, r = a1 % 8 := ⟨_, rfl⟩
          have hand := and7 a1 (by omega)
          rw [← hr] at hand
          have hr8 : r < 8 := by omega
          obtain ⟨T, hTm⟩ : ∃ T, T = min gk (8 - r) := ⟨_, rfl⟩
          have hT0 : 0 < T := by omega
          have hTk : T ≤ gk := by omega
          have hTr : T ≤ 8 - r := by omega
          have hat : a1 + T ≤ 8 * s.size := by omega
          have hv64 : x * 2 ^ T < 18446744073709551616 := by
            have h5 : x * 2 ^ T < 2 ^ i * 2 ^ T := Nat.mul_lt_mul_of_pos_right hxl (Nat.pow_pos (by decide))
            rw [← Nat.pow_add] at h5
            have h6 : 2 ^ (i + T) ≤ 2 ^ 64 := Nat.pow_le_pow_right (by decide) (by omega)
            have h7 : (2 : Nat) ^ 64 = 18446744073709551616 := by decide
            omega
          have c1 := b1.cell 0
          have c2 := b2.cell 0
          have c3 := b3.cell 1
          simp at c1 c2 c3
          have hsh := fun wx hb1 hb2 hb3 => shift_any w.heap.size (w.heap.size + 1) h s a1 T x wx hb1 hb2 hb3 hs hT0 (by rw [← hr]; exact hTr) hat hv64
          have HS := Lib.hid hsh
          have HQ := Lib.hid (And.intro hi (And.intro hx (And.intro ha1 (And.intro hr hTm))))
          clear hsh hi hx ha1 hr hTm hxl hv64
          go_upto_region 10 with fail
          go_cut [8] (fun s8 wx => s8 = .int .i64 (T : Nat) ∧ wx = wr)
          case first =>
            by_cases hkr : gk ≤ 8 - r
            · go_wp2_with fail
              go_meet
              have : T = gk := by have := HQ.out.2.2.2.2; omega
              exact ⟨by rw [this], rfl⟩
            · go_wp2_with fail
              go_meet
              have : T = 8 - r := by have := HQ.out.2.2.2.2; omega
              exact ⟨by rw [this]; congr 1; omega, rfl⟩
          case rest =>
            obtain ⟨rfl, rfl⟩ := hcut
            go_wp2_with (go_at_call 48; refine (HS.out _ b1 b2 b3).mono ?_; rintro e w2 ⟨rfl, hfin⟩; have HF := Lib.hid hfin; clear hfin)
            go_roundg (gk - T)
            case measure => omega
            case rel =>
              obtain ⟨hi, hx, ha1, hr, hTm⟩ := HQ.out
              obtain ⟨d2, d3, do2⟩ := HF.out
              have e1 : m - (gk - T) = i + T := by omega
              refine ⟨by go_num, by omega, b1.only do2 ?_, ?_, ?_, ho.trans do2 ?_⟩
              · rintro (h5 | h5)
                · omega
                · omega
              · rw [e1, take_split, num_append, ← hx, ← ha1]
                have hl5 : (((bitsS s).drop a1).take T).length = T := by rw [List.length_take, List.length_drop, Hlen.out]; omega
                rw [hl5]
                exact d2
              · rw [e1, ← Nat.add_assoc, ← ha1]; exact d3
              · rintro j hj (h5 | h5)
                · omega
                · exact h5
        · have hg0 : gk = 0 := by omega
          subst hg0
          rw [Nat.sub_zero] at b2 b3
          have c2 := b2.cell 0
          simp at c2
          go_wp2_with fail
          go_ret2
          obtain ⟨q1, q2, q3⟩ := Hf.out
          rw [q1, q2, q3]
          exact ⟨rfl, ⟨b3, hful2⟩, ho⟩

set_option maxHeartbeats 400000 in
theorem rbitof_any (h : Nat) (s : ByteArray) (a : Nat) (w : World) (hw : RdAt w h s a) (hs : s.size ≤ 140737488355328) :
    Calls Try.prog 15 #[.pointer (some ⟨h, 0, none⟩)] w fun e w' => e = .returned (.tuple #[.bool ((takeVal (bitsS s) a 1 : Int) == 1), .int .i64 (takeCode (8 * s.size) a 1)]) ∧ RdTo w h s (takeAt (8 * s.size) a 1) w' := by
  go_enter Try.func15, Try.ntmps15
  go_wp2_with (go_at_call 17; refine (take_any h s a 1 _ hw hs).mono ?_; rintro e w2 ⟨rfl, hfin⟩; have HF := Lib.hid hfin; clear hfin)
  go_ret2
  exact ⟨rfl, HF.out⟩
end Go.Proofs.Ytmgngmnkmmhckaa
