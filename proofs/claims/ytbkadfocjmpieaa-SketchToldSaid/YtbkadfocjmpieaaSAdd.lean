/-
  A sketch with a hash more.
-/
import Derived.Test.YtbkadfocjmpieaaSRank
set_option linter.unusedVariables false
namespace Go.Proofs.Ytbkadfocjmpieaa
open Go.RowKit

theorem set_getD (l : List Nat) (i : Nat) : l.set i (l.getD i 0) = l := by
  refine List.ext_getElem (by simp) fun k h1 h2 => ?_
  rw [List.getElem_set]
  split
  · rename_i e; subst e; simp [List.getD, h2]
  · rfl
theorem sN_append (a b : ByteArray) : sN (a ++ b) = sN a ++ sN b := by unfold sN; simp
theorem sN_extract (s : ByteArray) (i j : Nat) : sN (s.extract i j) = ((sN s).take j).drop i := by unfold sN; simp [List.drop_take]
theorem add_text {s : ByteArray} {i r : Nat} (hi : i < s.size) (hr : r < 256) (hm : (sN s).getD i 0 ≤ r) : s.extract 0 i ++ strOf [r] ++ s.extract (i + 1) s.size = strOf (adL (sN s) i r) := by
  have hall : ∀ k, (adL (sN s) i r).getD k 0 < 256 := by
    intro k
    unfold adL
    rw [List.getD, List.getElem?_set]
    split
    · split
      · rw [Option.getD_some]; have := sN_lt s i; omega
      · decide
    · exact sN_lt s k
  refine sN_inj ?_
  rw [sN_append, sN_append, sN_extract, sN_extract, sN_strOf _ hall, sN_strOf _ (fun k => by
    rcases k with _ | k
    · simpa using hr
    · simp)]
  unfold adL
  rw [List.set_eq_take_append_cons_drop, if_pos (by rw [length_sN]; exact hi), Nat.max_eq_right hm, List.drop_zero, show (sN s).take s.size = sN s from List.take_of_length_le (by rw [length_sN]; exact Nat.le_refl _), List.append_assoc]
  rfl
theorem cv_one (w : World) (g R : Nat) (hR : R < 256) (hc : w.cell? ⟨g, 0, none⟩ = some (.int .u8 R)) : (convert 42 9 (.slice (some ⟨g, 0, none⟩) 1 1)).run Try.prog w = .ok (.string (strOf [R])) w := by
  refine run_convert_bytes_back (P := Try.prog) w 42 9 5 ⟨g, 0, none⟩ 1 [UInt8.ofNat R] Try.underlying42 Try.underlying5 Try.underlying9 (fun j hj => ?_)
  obtain rfl : j = 0 := by simpa using hj
  have ha : (⟨g, 0, none⟩ : Addr).add 0 = ⟨g, 0, none⟩ := by simp [Addr.add]
  rw [ha, hc]
  simp only [List.getElem_cons_zero]
  rw [UInt8.toNat_ofNat', Nat.mod_eq_of_lt (by simpa using hR)]
set_option maxRecDepth 100000 in
set_option maxHeartbeats 4000000 in
theorem add_no (s : ByteArray) (h : Nat) (w : World) (hs : s.size ≤ 140737488355328) (hn : ¬ exOk s) : Calls Try.prog 9 #[.string s, .int .u64 h] w fun e w' => e = .returned (.tuple #[.string ⟨#[]⟩, .int .i64 4]) ∧ w = w' := by
  have hc := exp_any s w hs
  rw [(ex_no hn).1, (ex_no hn).2] at hc
  have HC := Lib.hid hc
  clear hc hn
  go_enter Try.func9, Try.ntmps9
  go_wp2_with fail
  refine HC.out.mono ?_
  rintro e w' ⟨rfl, rfl⟩
  go_wp2_with fail
  go_ret2
  exact ⟨rfl, rfl⟩

set_option maxRecDepth 100000 in
set_option maxHeartbeats 4000000 in
theorem add_yes (s : ByteArray) (h : Nat) (w : World) (hh : h < 18446744073709551616) (hy : exOk s) : Calls Try.prog 9 #[.string s, .int .u64 h] w fun e w' => e = .returned (.tuple #[.string (strOf (adL (sN s) (adAt (exP s) h) (rk (exP s) h))), .int .i64 0]) ∧ Below w.heap.size w w' := by
  obtain ⟨⟨h4, h16, hsz⟩, hall⟩ := id hy
  have h216 : 2 ^ exP s ≤ 2 ^ 16 := Nat.pow_le_pow_right (by decide) h16
  have e16 : (2 : Nat) ^ 16 = 65536 := by decide
  have hs : s.size ≤ 65536 := by omega
  have hc := exp_any s w (by omega)
  rw [(ex_yes hy).1, (ex_yes hy).2] at hc
  obtain ⟨p, hp⟩ : ∃ p, p = exP s := ⟨_, rfl⟩
  rw [← hp] at hc h4 h16 hsz ⊢
  have hat := adAt_lt (p := p) (h := h) (by omega) hh
  rw [← hsz] at hat
  obtain ⟨m, hm⟩ : ∃ m, m = 64 - p := ⟨_, rfl⟩
  obtain ⟨at_, hat_⟩ : ∃ a, a = adAt p h := ⟨_, rfl⟩
  have hae : at_ = h / 2 ^ m := by rw [hat_, hm]; rfl
  rw [← hat_] at hat ⊢
  have hmi : (64 : Int) - (p : Int) = (m : Int) := by omega
  have f1 : ((h : Int) / 2 ^ m) = (at_ : Int) := by rw [cast_div_pow, hae]
  have hlz := lz_shift (h := h) (p := p) (by omega)
  rw [← hm] at hlz
  obtain ⟨H, hH⟩ : ∃ H, H = h * 2 ^ p % 18446744073709551616 := ⟨_, rfl⟩
  have hHl : H < 18446744073709551616 := by rw [hH]; exact Nat.mod_lt _ (by decide)
  have f2 : IntKind.u64.wrap ((h : Int) * 2 ^ p) = (H : Int) := by rw [cast_mul_pow, wrap_mod64, hH]
  have hlc := lz_any H w hHl
  obtain ⟨z, hz⟩ : ∃ z, z = 64 - Lib.bitLen H := ⟨_, rfl⟩
  rw [← hz] at hlc
  rw [← hH, ← hz] at hlz
  obtain ⟨R, hR⟩ : ∃ R, R = rk p h := ⟨_, rfl⟩
  have hRe : R = 1 + min z m := by rw [hR, hlz]; unfold rk; rw [hm]
  have hRb : R ≤ 61 := by omega
  rw [← hR]
  have hzb : z ≤ 64 := by omega
  have hgd := sN_getD s at_ hat
  have hx : s[at_].toNat ≤ 255 := by have := s[at_].toNat_lt; omega
  have HB : Hid (Below w.heap.size w w) := Below.refl _ _
  have hmm : m ≤ 60 := by omega
  obtain ⟨q, hq⟩ : ∃ q, q = min z m := ⟨_, rfl⟩
  have hmin1 : min (z : Int) (m : Int) = (q : Int) := by omega
  have hqb : q ≤ 60 := by omega
  have hRq : (R : Int) = 1 + (q : Int) := by omega
  have hminN : min z m = q := hq.symm
  have hat0 : 0 ≤ (at_ : Int) := by omega
  have HE := Lib.hid (And.intro hc (And.intro hlc (And.intro hgd (And.intro hRe hRq))))
  clear hRq hq hc hlc hgd hsz h216 e16 hp hm hat_ hae hlz hH hz hR hHl hy hall
  go_enter Try.func9, Try.ntmps9
  go_wp2_with fail
  refine HE.out.1.mono ?_
  rintro e w' ⟨rfl, rfl⟩
  go_wp2_with fail
  refine HE.out.2.1.mono ?_
  rintro e w' ⟨rfl, rfl⟩
  by_cases hle : R ≤ s[at_].toNat
  · have hd : decide ((1 : Int) + (q : Int) ≤ (s[at_].toNat : Int)) = true := decide_eq_true (by have := HE.out.2.2.2.2; omega)
    have hsame : strOf (adL (sN s) at_ R) = s := by
      have h1 : max ((sN s).getD at_ 0) R = (sN s).getD at_ 0 := by rw [HE.out.2.2.1]; omega
      unfold adL
      rw [h1, set_getD, strOf_sN]
    have HSm := Lib.hid hsame
    clear hsame
    go_wp2_with fail
    go_ret2
    rw [HSm.out]
    exact ⟨rfl, HB.out⟩
  · have hd : decide ((1 : Int) + (q : Int) ≤ (s[at_].toNat : Int)) = false := decide_eq_false (by have := HE.out.2.2.2.2; omega)
    obtain ⟨A, hA⟩ : ∃ A, A = s.extract 0 at_ := ⟨_, rfl⟩
    obtain ⟨B, hBB⟩ : ∃ B, B = strOf [R] := ⟨_, rfl⟩
    obtain ⟨D, hD⟩ : ∃ D, D = s.extract (at_ + 1) s.size := ⟨_, rfl⟩
    have hAs : A.size ≤ 65536 := by rw [hA]; simp; omega
    have hBs : B.size ≤ 1 := by rw [hBB, size_strOf]; simp
    have hDs : D.size ≤ 65536 := by rw [hD]; simp; omega
    have hA' : s.extract 0 at_ = A := hA.symm
    have hD' : s.extract (at_ + 1) s.size = D := hD.symm
    have HABD := Lib.hid (And.intro hA (And.intro hBB hD))
    have hX : (w.alloc (.cells #[.int .u8 (1 + (q : Int))] 5)).cell? ⟨w.heap.size, 0, none⟩ = some (.int .u8 (R : Nat)) := by rw [(Blk.new w 5 #[.int .u8 (1 + (q : Int))]).cell 0, HE.out.2.2.2.2]; rfl
    have cv0 : (convert 42 9 (.slice (some ⟨w.heap.size, 0, none⟩) 1 1)).run Try.prog (w.alloc (.cells #[.int .u8 (1 + (q : Int))] 5)) = .ok (.string B) (w.alloc (.cells #[.int .u8 (1 + (q : Int))] 5)) := by rw [hBB]; exact cv_one _ _ _ (by omega) hX
    have cv1 : (convert 42 9 (.slice (some ⟨w.heap.size, 0, none⟩) 1 1)).run Try.prog (w.alloc (.cells #[.int .u8 (1 + (q : Int))] 5)).drew = .ok (.string B) (w.alloc (.cells #[.int .u8 (1 + (q : Int))] 5)).drew := by rw [hBB]; exact cv_one _ _ _ (by omega) hX
    have cv2 : (convert 42 9 (.slice (some ⟨w.heap.size, 0, none⟩) 1 1)).run Try.prog (w.alloc (.cells #[.int .u8 (1 + (q : Int))] 5)).drew.drew = .ok (.string B) (w.alloc (.cells #[.int .u8 (1 + (q : Int))] 5)).drew.drew := by rw [hBB]; exact cv_one _ _ _ (by omega) hX
    clear hX hA hBB hD
    have hat1 : at_ ≤ s.size := by omega
    have hat2 : at_ + 1 ≤ s.size := by omega
    have hfin : A ++ B ++ D = strOf (adL (sN s) at_ R) := by
      rw [HABD.out.1, HABD.out.2.1, HABD.out.2.2]
      exact add_text hat (by omega) (by rw [HE.out.2.2.1]; omega)
    have HF := Lib.hid hfin
    clear hfin
    go_upto_region 8 with fail
    go_region
    all_goals go_wp2_with fail
    all_goals go_ret2
    all_goals rw [← HF.out]
    all_goals exact ⟨rfl, (((Only.refl (fun _ => False) w).alloc _).drewN _).below (fun _ _ e => e) (Nat.le_refl _)⟩
theorem add_any (s : ByteArray) (h : Nat) (w : World) (hs : s.size ≤ 140737488355328) (hh : h < 18446744073709551616) : Calls Try.prog 9 #[.string s, .int .u64 h] w fun e w' => e = .returned (.tuple #[.string (adV s h), .int .i64 (exE s)]) ∧ Below w.heap.size w w' := by
  by_cases hy : exOk s
  · have := add_yes s h w hh hy
    unfold adV
    rw [(ex_yes hy).1, if_pos hy]
    exact this
  · have := add_no s h w hs hy
    unfold adV
    rw [(ex_no hy).1, if_neg hy]
    exact this.mono fun e w' ⟨he, hw⟩ => ⟨he, by rw [← hw]; exact Below.refl _ _⟩
end Go.Proofs.Ytbkadfocjmpieaa
