/-
  The reference: New and Union.
-/
import Derived.Test.YtbkadfocjmpieaaSUnion2
import Derived.Test.YtbkadfocjmpieaaSNew
set_option linter.unusedVariables false
namespace Go.Proofs.Ytbkadfocjmpieaa
open Go.RowKit

set_option maxRecDepth 100000 in
set_option maxHeartbeats 1000000 in
theorem rnew_no (p : Int) (w : World) (h : p < 4 ∨ 16 < p) : Calls Try.prog 18 #[.int .i64 p] w fun e w' => e = .returned (.tuple #[.string ⟨#[]⟩, .int .i64 1]) ∧ w = w' := by
  rcases h with h | h
  · go_enter Try.func18, Try.ntmps18
    go_wp2_with fail
    go_ret2
    exact ⟨rfl, rfl⟩
  · have h2 : ¬ p < 4 := by omega
    go_enter Try.func18, Try.ntmps18
    go_wp2_with fail
    go_ret2
    exact ⟨rfl, rfl⟩

theorem zeros_lt (n k : Nat) : (List.replicate n 0).getD k 0 < 256 := by
  rw [List.getD, List.getElem?_replicate]
  split <;> simp
set_option maxRecDepth 100000 in
set_option maxHeartbeats 1000000 in
theorem rnew_yes (p : Nat) (w : World) (h4 : 4 ≤ p) (h16 : p ≤ 16) : Calls Try.prog 18 #[.int .i64 p] w fun e w' => e = .returned (.tuple #[.string (strOf (nwL p)), .int .i64 0]) ∧ Below w.heap.size w w' := by
  obtain ⟨i0, hi, hz0, hz1, hz2⟩ := info_parts info5
  have h216 : 2 ^ p ≤ 2 ^ 16 := Nat.pow_le_pow_right (by decide) h16
  have e16 : (2 : Nat) ^ 16 = 65536 := by decide
  have h1 := Nat.one_le_two_pow (n := p)
  unfold nwL
  obtain ⟨N, hN⟩ : ∃ N, N = 2 ^ p := ⟨_, rfl⟩
  rw [← hN] at h216 h1 ⊢
  have hw : wrap64 (2 ^ p) = (N : Int) := by
    have e : ((2 : Int) ^ p) = (N : Int) := by rw [hN, Int.natCast_pow]; rfl
    rw [e]; unfold wrap64; omega
  have hN2 : N ≤ 65536 := by omega
  clear hN h216 e16
  go_enter Try.func18, Try.ntmps18
  go_wp2_with (refine wpList_make_full _ rfl (.tmp 11) (.tmp 11) 42 rfl w.heap.size 5 i0 (.int .u8 0) 1 Try.underlying42 hi hz0 hz1 .i64 .i64 _ _ N rfl rfl hw hw ?m1 ?m2 ?m3 ?_)
  case m1 => rw [hz2]; omega
  case m2 => unfold maxLen; omega
  case m3 => exact Nat.le_refl _
  intro w1 hown1 hgrow1
  have hbel1 : Below w.heap.size w w1 := (Below.refl _ w).grown hgrow1 (Nat.le_refl _) (by simp)
  rw [toList_madeCells_one, u8s_replicate] at hown1
  have hcv := run_text (List.length_replicate).symm (own_base hown1) (zeros_lt N)
  have H1 := Lib.hid hbel1
  clear hown1 hbel1 hgrow1
  go_wp2_with fail
  go_ret2
  exact ⟨rfl, H1.out⟩

set_option maxRecDepth 100000 in
set_option maxHeartbeats 4000000 in
theorem runion_no (a b : ByteArray) (w : World) (ha : a.size ≤ 140737488355328) (hb : b.size ≤ 140737488355328) (h : ¬ (exOk a ∧ exOk b)) : Calls Try.prog 15 #[.string a, .string b] w fun e w' => e = .returned (.tuple #[.string ⟨#[]⟩, .int .i64 4]) ∧ w = w' := by
  have h1 := rexp_any a w ha
  have h2 := rexp_any b w hb
  obtain ⟨ea, hea⟩ : ∃ x, x = exE a := ⟨_, rfl⟩
  obtain ⟨eb, heb⟩ : ∃ x, x = exE b := ⟨_, rfl⟩
  have hor : ea = 4 ∨ (ea = 0 ∧ eb = 4) := by
    by_cases hA : exOk a
    · right; exact ⟨by rw [hea]; exact (ex_yes hA).1, by rw [heb]; exact (ex_no (fun x => h ⟨hA, x⟩)).1⟩
    · left; rw [hea]; exact (ex_no hA).1
  rw [← hea] at h1
  rw [← heb] at h2
  have HH := Lib.hid (And.intro h1 h2)
  clear h1 h2 hea heb h
  rcases hor with rfl | ⟨rfl, rfl⟩
  all_goals
    go_enter Try.func15, Try.ntmps15
    go_wp2_with fail
    refine HH.out.1.mono ?_
    rintro e w' ⟨rfl, rfl⟩
    go_wp2_with fail
    refine HH.out.2.mono ?_
    rintro e w' ⟨rfl, rfl⟩
    go_wp2_with fail
    go_ret2
    exact ⟨rfl, rfl⟩

theorem exP_ne {a b : ByteArray} (ha : exOk a) (hb : exOk b) (h : exP a ≠ exP b) : a.size ≠ b.size := by
  intro e
  exact h (exP_of (by have := hb.1.2.1; omega) (by rw [e]; exact hb.1.2.2))
theorem ex_size {s : ByteArray} (h : exOk s) : s.size ≤ 65536 := by
  have h216 : 2 ^ exP s ≤ 2 ^ 16 := Nat.pow_le_pow_right (by decide) h.1.2.1
  have e16 : (2 : Nat) ^ 16 = 65536 := by decide
  have := h.1.2.2
  omega

set_option maxRecDepth 100000 in
set_option maxHeartbeats 4000000 in
theorem runion_arg (a b : ByteArray) (w : World) (ha : exOk a) (hb : exOk b) (h : exP a ≠ exP b) : Calls Try.prog 15 #[.string a, .string b] w fun e w' => e = .returned (.tuple #[.string ⟨#[]⟩, .int .i64 1]) ∧ w = w' := by
  have hs := exP_ne ha hb h
  have h1 := rexp_any a w (by have := ex_size ha; omega)
  have h2 := rexp_any b w (by have := ex_size hb; omega)
  rw [(ex_yes ha).1, (ex_yes ha).2] at h1
  rw [(ex_yes hb).1, (ex_yes hb).2] at h2
  have hne : ((a.size : Int) != (b.size : Int)) = true := by simp; omega
  have HH := Lib.hid (And.intro h1 h2)
  clear h1 h2 h ha hb hs
  go_enter Try.func15, Try.ntmps15
  go_wp2_with fail
  refine HH.out.1.mono ?_
  rintro e w' ⟨rfl, rfl⟩
  go_wp2_with fail
  refine HH.out.2.mono ?_
  rintro e w' ⟨rfl, rfl⟩
  go_wp2_with fail
  go_ret2
  exact ⟨rfl, rfl⟩

set_option maxRecDepth 100000 in
set_option maxHeartbeats 4000000 in
theorem runion_yes (a b : ByteArray) (w : World) (ha : exOk a) (hb : exOk b) (h : exP a = exP b) : Calls Try.prog 15 #[.string a, .string b] w fun e w' => e = .returned (.tuple #[.string (strOf (unL (sN a) (sN b))), .int .i64 0]) ∧ Below w.heap.size w w' := by
  obtain ⟨i0, hi, hz0, hz1, hz2⟩ := info_parts info5
  have hab : a.size = b.size := by rw [ha.1.2.2, hb.1.2.2, h]
  have hs : a.size ≤ 65536 := by
    have h216 : 2 ^ exP a ≤ 2 ^ 16 := Nat.pow_le_pow_right (by decide) ha.1.2.1
    have e16 : (2 : Nat) ^ 16 = 65536 := by decide
    have := ha.1.2.2
    omega
  have h1 := rexp_any a w (by omega)
  have h2 := rexp_any b w (by omega)
  rw [(ex_yes ha).1, (ex_yes ha).2] at h1
  rw [(ex_yes hb).1, (ex_yes hb).2, ← h] at h2
  obtain ⟨p, hp⟩ : ∃ p, p = exP a := ⟨_, rfl⟩
  rw [← hp] at h1 h2
  obtain ⟨n, hn⟩ : ∃ n, n = a.size := ⟨_, rfl⟩
  have hlen : (sN a).length = (sN b).length := by rw [length_sN, length_sN, hab]
  have hla : (sN a).length = n := by rw [length_sN, hn]
  have HH := Lib.hid (And.intro h1 (And.intro h2 (And.intro hlen (And.intro hla hab))))
  have hani : (a.size : Int) = (n : Int) := by omega
  have hbni : (b.size : Int) = (n : Int) := by omega
  have hanN : a.size = n := hn.symm
  have hbnN : b.size = n := by omega
  rw [← hn] at hs
  clear h1 h2 hp ha hb h hab hn hlen hla
  go_enter Try.func15, Try.ntmps15
  go_wp2_with fail
  refine HH.out.1.mono ?_
  rintro e w' ⟨rfl, rfl⟩
  go_wp2_with fail
  refine HH.out.2.1.mono ?_
  rintro e w' ⟨rfl, rfl⟩
  go_wp2_with (refine wpList_make_full _ rfl (.tmp 34) (.tmp 34) 42 rfl w.heap.size 5 i0 (.int .u8 0) 1 Try.underlying42 hi hz0 hz1 .i64 .i64 _ _ n rfl rfl rfl rfl ?m1 ?m2 ?m3 ?_)
  case m1 => rw [hz2]; omega
  case m2 => unfold maxLen; omega
  case m3 => exact Nat.le_refl _
  intro w1 hown1 hgrow1
  have hbel1 : Below w.heap.size w w1 := (Below.refl _ w).grown hgrow1 (Nat.le_refl _) (by simp)
  rw [toList_madeCells_one, u8s_replicate] at hown1
  obtain ⟨go, hgo⟩ : ∃ go, go = w.heap.size := ⟨_, rfl⟩
  have hW1 : w1.ownsRow go 5 1 (.slice (some ⟨go, 0, none⟩) n n) n (u8s (unK (sN a) (sN b) 0)) := by rw [unK_zero, HH.out.2.2.2.1, hgo]; exact hown1
  have HW := Lib.hid (And.intro hW1 (And.intro hbel1 hgo))
  rw [← hgo]
  clear hown1 hbel1 hgrow1 hgo hW1
  go_wp2_with fail
  go_loopg [11] n (fun g i wr => ∃ k : Nat, k + g = n ∧ i = .int .i64 k ∧ wr.ownsRow go 5 1 (.slice (some ⟨go, 0, none⟩) n n) n (u8s (unK (sN a) (sN b) k)) ∧ Below w.heap.size w wr)
  case atStart => exact ⟨0, by omega, rfl, HW.out.1, HW.out.2.1⟩
  case round =>
    obtain ⟨k, hk, rfl, hown, hbel⟩ := hrel
    by_cases hlt : k < n
    · have hka : k < a.size := by omega
      have hkb : k < b.size := by omega
      have hga := sN_getD a k hka
      have hgb := sN_getD b k hkb
      have hlk : (unK (sN a) (sN b) k).length = n := by rw [length_unK HH.out.2.2.1 (by rw [HH.out.2.2.2.1]; omega), HH.out.2.2.2.1]
      have hkn : (k : Int) < (a.size : Int) := by omega
      have hfx := hown.frozenAt k
      have hx := hown.cellAt k (by omega)
      rw [u8s_get (by omega)] at hx
      obtain ⟨z, hz⟩ : ∃ z, z = (unK (sN a) (sN b) k).getD k 0 := ⟨_, rfl⟩
      rw [← hz] at hx
      obtain ⟨M, hM⟩ : ∃ M, M = max a[k].toNat b[k].toNat := ⟨_, rfl⟩
      have hmN : max a[k].toNat b[k].toNat = M := hM.symm
      have hmx : max (a[k].toNat : Int) (b[k].toNat : Int) = (M : Int) := by omega
      have hst := (hown.stored k (.int .u8 M)).1
      rw [u8s_set, hM, ← hga, ← hgb, unK_step HH.out.2.2.1 (by rw [HH.out.2.2.2.1]; omega), hga, hgb, ← hM] at hst
      have hbs := hbel.setCell (p := ⟨go, k, none⟩) (by rw [HW.out.2.2]; exact Nat.le_refl _) (.int .u8 M)
      have HX := Lib.hid (And.intro hst hbs)
      clear hga hgb hlk hz hM hst hbs hown hbel
      go_wp2_with fail
      go_region
      all_goals go_wp2_with fail
      all_goals go_roundg (gk - 1)
      all_goals first | omega | exact ⟨k + 1, by omega, by go_num, HX.out.1, HX.out.2.drew⟩
    · have hkn : k = n := by omega
      have hfin := hown
      rw [hkn, ← HH.out.2.2.2.1, unK_full HH.out.2.2.1, HH.out.2.2.2.1] at hfin
      have hlu : (unL (sN a) (sN b)).length = n := by rw [length_unL HH.out.2.2.1, HH.out.2.2.2.1]
      have hcv := run_text hlu.symm (own_base hfin) (unL_lt a b HH.out.2.2.2.2)
      have HF := Lib.hid hbel
      clear hfin hkn hlu hown hbel
      go_wp2_with fail
      go_ret2
      exact ⟨rfl, HF.out⟩
end Go.Proofs.Ytbkadfocjmpieaa
