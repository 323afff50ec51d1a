/-
  The program's reader: its calls.
-/
import Derived.Test.YtmgngmnkmmhckaaRefText
set_option linter.unusedVariables false
namespace Go.Proofs.Ytmgngmnkmmhckaa
open Go.RowKit Plain

def RdAt (w : World) (h : Nat) (s : ByteArray) (at_ : Nat) : Prop := Blk w h 88 #[.string s, .int .i64 (at_ : Nat)] ∧ at_ ≤ 8 * s.size
def RdTo (w : World) (h : Nat) (s : ByteArray) (at_ : Nat) (w' : World) : Prop := RdAt w' h s at_ ∧ Only (fun k => k = h) w w'

theorem getD_bitsS (s : ByteArray) (i : Nat) (h : i < 8 * s.size) : (bitsS s).getD i false = ((sN s).getD (i / 8) 0).testBit (7 - i % 8) := by
  rw [bitsS, getD_bytesBits, length_sN]
  simp [h]

/-- the piece of a byte -/
theorem num_piece (s : ByteArray) (a T : Nat) (hT : T ≤ 8 - a % 8) (h : a + T ≤ 8 * s.size) : num (((bitsS s).drop a).take T) = ((sN s).getD (a / 8) 0 % 2 ^ (8 - a % 8)) / 2 ^ (8 - a % 8 - T) := by
  apply Nat.eq_of_testBit_eq
  intro j
  have hl : (((bitsS s).drop a).take T).length = T := by rw [List.length_take, List.length_drop, length_bitsS]; omega
  rw [testBit_num, hl, Nat.testBit_div_two_pow, Nat.testBit_mod_two_pow]
  by_cases hj : j < T
  · have h1 : (((bitsS s).drop a).take T).getD (T - 1 - j) false = (bitsS s).getD (a + (T - 1 - j)) false := by
      simp only [List.getD, List.getElem?_take, List.getElem?_drop]
      rw [if_pos (by omega)]
    rw [h1, getD_bitsS s _ (by omega)]
    have h2 : (a + (T - 1 - j)) / 8 = a / 8 := by omega
    have h3 : 7 - (a + (T - 1 - j)) % 8 = j + (8 - a % 8 - T) := by omega
    have h4 : j + (8 - a % 8 - T) < 8 - a % 8 := by omega
    rw [h2, h3]
    simp [hj, h4]
  · have h4 : ¬ j + (8 - a % 8 - T) < 8 - a % 8 := by omega
    simp [hj, h4]

theorem mask_i64 (k : Nat) (hk : k ≤ 8) : wrap64 (wrap64 (2 ^ k) - 1) = ((2 ^ k - 1 : Nat) : Int) := by
  have : k = 0 ∨ k = 1 ∨ k = 2 ∨ k = 3 ∨ k = 4 ∨ k = 5 ∨ k = 6 ∨ k = 7 ∨ k = 8 := by omega
  rcases this with rfl | rfl | rfl | rfl | rfl | rfl | rfl | rfl | rfl <;> decide +kernel
theorem i64_and_nat (a b : Nat) (ha : a < 9223372036854775808) (hb : b < 9223372036854775808) : bits .and .i64 (a : Int) (b : Int) = ((a &&& b : Nat) : Int) := by
  have hx : a &&& b < 2 ^ 63 := Nat.and_lt_two_pow _ (by omega)
  have h1 : (BitVec.ofInt 64 (a : Int)).toNat = a := by rw [BitVec.ofInt_natCast, BitVec.toNat_ofNat]; exact Nat.mod_eq_of_lt (by omega)
  have h2 : (BitVec.ofInt 64 (b : Int)).toNat = b := by rw [BitVec.ofInt_natCast, BitVec.toNat_ofNat]; exact Nat.mod_eq_of_lt (by omega)
  show IntKind.i64.wrap ((BitVec.ofInt 64 (a : Int) &&& BitVec.ofInt 64 (b : Int)).toNat : Int) = _
  rw [BitVec.toNat_and, h1, h2, IntKind.wrap_i64]
  omega
theorem wrap64_nat (y : Nat) (h : y < 9223372036854775808) : wrap64 (y : Int) = (y : Int) := by
  unfold wrap64
  omega
theorem shift_val (x v r T : Nat) (hx : x < 256) (hr : r < 8) (hT : T ≤ 8 - r) (hv : v * 2 ^ T < 18446744073709551616) :
    bits BinOp.or IntKind.u64 (IntKind.u64.wrap ((v : Int) * 2 ^ T)) (IntKind.u64.wrap (bits BinOp.and IntKind.i64 (wrap64 (x : Int)) (wrap64 (wrap64 (2 ^ (8 - r)) - 1)) / 2 ^ (8 - r - T))) = ((v * 2 ^ T + (x % 2 ^ (8 - r)) / 2 ^ (8 - r - T) : Nat) : Int) := by
  have hp8 : 2 ^ (8 - r) ≤ 2 ^ 8 := Nat.pow_le_pow_right (by decide) (by omega)
  have e8 : (2 : Nat) ^ 8 = 256 := by decide
  have hp0 : 0 < 2 ^ (8 - r) := Nat.pow_pos (by decide)
  have h1 : ((v : Int) * 2 ^ T) = ((v * 2 ^ T : Nat) : Int) := by rw [Int.natCast_mul, Int.natCast_pow]; rfl
  have hy : (x % 2 ^ (8 - r)) / 2 ^ (8 - r - T) < 2 ^ T := by
    have h2 : x % 2 ^ (8 - r) < 2 ^ (8 - r) := Nat.mod_lt _ hp0
    have h3 : 2 ^ (8 - r) = 2 ^ T * 2 ^ (8 - r - T) := by rw [← Nat.pow_add]; congr 1; omega
    rw [Nat.div_lt_iff_lt_mul (Nat.pow_pos (by decide))]
    omega
  have hT8 : 2 ^ T ≤ 2 ^ 8 := Nat.pow_le_pow_right (by decide) (by omega)
  rw [wrap64_nat x (by omega), mask_i64 (8 - r) (by omega), i64_and_nat _ _ (by omega) (by omega), Nat.and_two_pow_sub_one_eq_mod, cast_div_pow, h1, wrap_nat64 _ hv,
    wrap_nat64 _ (by omega), u64_or_nat _ _ hv (by omega)]
  congr 1
  exact nat_join T _ _ (Nat.mul_mod_left _ _) hy

set_option maxRecDepth 100000 in
set_option maxHeartbeats 2000000 in
theorem shift_any (br bv h : Nat) (s : ByteArray) (a T v : Nat) (w : World) (h1 : Blk w br 23 #[.pointer (some ⟨h, 0, none⟩)]) (h2 : Blk w bv 35 #[.int .u64 (v : Nat)]) (h3 : Blk w h 88 #[.string s, .int .i64 (a : Nat)])
    (hs : s.size ≤ 140737488355328) (hT0 : 0 < T) (hT : T ≤ 8 - a % 8) (hat : a + T ≤ 8 * s.size) (hv : v * 2 ^ T < 18446744073709551616) :
    Calls Try.prog 48 #[.int .i64 T, .pointer (some ⟨br, 0, none⟩), .pointer (some ⟨bv, 0, none⟩)] w fun e w' => e = .returned (.tuple #[]) ∧ Blk w' bv 35 #[.int .u64 (v * 2 ^ T + num (((bitsS s).drop a).take T) : Nat)] ∧ Blk w' h 88 #[.string s, .int .i64 (a + T : Nat)] ∧ Only (fun k => k = bv ∨ k = h) w w' := by
  have n1 : br ≠ bv := h1.ne_ h2 (by decide)
  have n2 : br ≠ h := h1.ne_ h3 (by decide)
  have n3 : bv ≠ h := h2.ne_ h3 (by decide)
  have c1 := h1.cell 0
  have c2 := h2.cell 0
  have c3 := h3.cell 0
  have c4 := h3.cell 1
  have f2 := h2.frozen 0
  have f3 := h3.frozen 1
  simp at c1 c2 c3 c4
  obtain ⟨r, hr⟩ : ∃ r, r = a % 8 := ⟨_, rfl⟩
  obtain ⟨q, hq⟩ : ∃ q, q = a / 8 := ⟨_, rfl⟩
  have hand := and7 a (by omega)
  rw [← hr] at hand hT
  have hdiv : (a : Int) / 8 = (q : Int) := by omega
  have hr8 : r < 8 := by omega
  have hqs : q < s.size := by omega
  have has : a ≤ 1125899906842624 := by omega
  have Hq := Lib.hid (And.intro hr (And.intro hq hv))
  have n1' := n1.symm
  have n2' := n2.symm
  have n3' := n3.symm
  have HB := Lib.hid (And.intro h1 (And.intro h2 h3))
  clear hr hq hv h1 h2 h3
  go_enter Try.func48, Try.ntmps48
  go_wp2_with fail
  go_quiet (fail)
  go_wp2_with fail
  go_end0
  obtain ⟨h1, h2, h3⟩ := HB.out
  obtain ⟨rfl, rfl, hv⟩ := Hq.out
  have hx : s[a / 8].toNat < 256 := s[a / 8].toNat_lt
  have hval := shift_val s[a / 8].toNat v (a % 8) T hx (by omega) hT hv
  rw [hval]
  have hpc := num_piece s a T hT hat
  have hxe : (sN s).getD (a / 8) 0 = s[a / 8].toNat := by rw [List.getD, List.getElem?_eq_getElem (by rw [length_sN]; exact hqs), sN_get s _ hqs]; rfl
  rw [hxe] at hpc
  rw [← hpc, show ((a : Int) + (T : Int)) = ((a + T : Nat) : Int) by omega]
  refine ⟨rfl, ?_, ?_, ?_⟩
  · have := (((h2.drewN nq).set_ 0 (.int .u64 (v * 2 ^ T + num (((bitsS s).drop a).take T) : Nat))).far (p := ⟨h, 1, none⟩) n3 (.int .i64 (a + T : Nat)))
    simpa using this
  · have := (((h3.drewN nq).far (p := ⟨bv, 0, none⟩) n3' (.int .u64 (v * 2 ^ T + num (((bitsS s).drop a).take T) : Nat))).set_ 1 (.int .i64 (a + T : Nat)))
    simpa using this
  · exact (((Only.refl _ _).drewN nq).setCell (p := ⟨bv, 0, none⟩) (.inl (.inl rfl)) _).setCell (p := ⟨h, 1, none⟩) (.inl (.inr rfl)) _

def takeCode (len a : Nat) (n : Int) : Int := if n < 0 ∨ 64 < n then 1 else if (len : Int) - a < n then 4 else 0
def takeVal (l : List Bool) (a : Nat) (n : Int) : Nat := if takeCode l.length a n = 0 then num ((l.drop a).take n.toNat) else 0
def takeAt (len a : Nat) (n : Int) : Nat := if takeCode len a n = 0 then a + n.toNat else a

theorem take_split (l : List Bool) (a i T : Nat) : (l.drop a).take (i + T) = (l.drop a).take i ++ (l.drop (a + i)).take T := by
  rw [List.take_add, List.drop_drop]
theorem num_take_lt (l : List Bool) (n : Nat) : num (l.take n) < 2 ^ n := by
  have h := num_lt (l.take n)
  have h2 : 2 ^ (l.take n).length ≤ 2 ^ n := Nat.pow_le_pow_right (by decide) (by rw [List.length_take]; omega)
  omega

set_option maxHeartbeats 400000 in
theorem left_any (h : Nat) (s : ByteArray) (a : Nat) (w : World) (hw : RdAt w h s a) (hs : s.size ≤ 140737488355328) :
    Calls Try.prog 22 #[.pointer (some ⟨h, 0, none⟩)] w fun e w' => e = .returned (.int .i64 (8 * (s.size : Int) - (a : Int))) ∧ ∃ k, w.drewN k = w' := by
  obtain ⟨hb, ha⟩ := hw
  have c0 := hb.cell 0
  have c1 := hb.cell 1
  simp at c0 c1
  clear hb
  go_enter Try.func22, Try.ntmps22
  go_wp2_with fail
  go_quiet (fail)
  go_wp2_with fail
  go_ret
  exact ⟨rfl, _, rfl⟩

set_option maxHeartbeats 400000 in
theorem at_any (h : Nat) (s : ByteArray) (a : Nat) (w : World) (hw : RdAt w h s a) :
    Calls Try.prog 21 #[.pointer (some ⟨h, 0, none⟩)] w fun e w' => e = .returned (.int .i64 (a : Nat)) ∧ w = w' := by
  obtain ⟨hb, ha⟩ := hw
  have c1 := hb.cell 1
  simp at c1
  clear hb
  go_enter Try.func21, Try.ntmps21
  go_wp2_with fail
  go_ret
  exact ⟨rfl, rfl⟩

set_option maxHeartbeats 400000 in
theorem open_any (s : ByteArray) (w : World) :
    Calls Try.prog 13 #[.string s] w fun e w' => e = .returned (.pointer (some ⟨w.heap.size, 0, none⟩)) ∧ w.alloc (.cells #[.string s, .int .i64 0] 88) = w' := by
  go_enter Try.func13, Try.ntmps13
  go_wp2
  go_ret
  exact ⟨rfl, rfl⟩
theorem RdAt.new (w : World) (s : ByteArray) : RdAt (w.alloc (.cells #[.string s, .int .i64 0] 88)) w.heap.size s 0 := ⟨Blk.new _ _ _, Nat.zero_le _⟩

def seekCode (sz : Nat) (n : Int) : Int := if n < 0 ∨ 8 * (sz : Int) < n then 1 else 0
def seekAt (sz a : Nat) (n : Int) : Nat := if seekCode sz n = 0 then n.toNat else a

set_option maxRecDepth 100000 in
set_option maxHeartbeats 1000000 in
theorem seek_any (h : Nat) (s : ByteArray) (a : Nat) (n : Int) (w : World) (hw : RdAt w h s a) (hs : s.size ≤ 140737488355328) :
    Calls Try.prog 19 #[.pointer (some ⟨h, 0, none⟩), .int .i64 n] w fun e w' => e = .returned (.int .i64 (seekCode s.size n)) ∧ RdTo w h s (seekAt s.size a n) w' := by
  have hw0 := hw
  obtain ⟨hb, ha⟩ := hw
  have c0 := hb.cell 0
  have f1 := hb.frozen 1
  have c1 := hb.cell 1
  simp at c0 c1
  have HB := Lib.hid (And.intro hb (And.intro ha hw0))
  clear hb ha hw0
  by_cases h1 : n < 0
  · have e1 : seekCode s.size n = 1 := by unfold seekCode; rw [if_pos (.inl h1)]
    have Hf := Lib.hid e1
    clear e1
    go_enter Try.func19, Try.ntmps19
    go_wp2_with fail
    go_ret
    exact ⟨by rw [Hf.out]; rfl, by unfold seekAt; rw [Hf.out, if_neg (by decide)]; exact HB.out.2.2, Only.refl _ _⟩
  · by_cases h2 : 8 * (s.size : Int) < n
    · have e1 : seekCode s.size n = 1 := by unfold seekCode; rw [if_pos (.inr h2)]
      have Hf := Lib.hid e1
      clear e1
      go_enter Try.func19, Try.ntmps19
      go_wp2_with fail
      go_ret
      exact ⟨by rw [Hf.out]; rfl, by unfold seekAt; rw [Hf.out, if_neg (by decide)]; exact HB.out.2.2, Only.refl _ _⟩
    · have e1 : seekCode s.size n = 0 := by unfold seekCode; rw [if_neg (by omega)]
      have Hf := Lib.hid e1
      clear e1
      obtain ⟨m, rfl⟩ := Int.eq_ofNat_of_zero_le (show 0 ≤ n by omega)
      go_enter Try.func19, Try.ntmps19
      go_wp2_with fail
      go_ret
      refine ⟨by rw [Hf.out]; rfl, ?_, (Only.refl (fun k => k = h) w).setCell (p := ⟨h, 1, none⟩) (.inl rfl) _⟩
      unfold seekAt
      rw [Hf.out, if_pos rfl]
      have := HB.out.1.set_ 1 (.int .i64 (m : Nat))
      exact ⟨by simpa using this, by simp; omega⟩
end Go.Proofs.Ytmgngmnkmmhckaa
