/-
  SketchNone: the law's walk.
-/
import Derived.Test.YtbkadfocjmpieaaNF
import Derived.Test.YtbkadfocjmpieaaSUnion2
set_option linter.unusedVariables false
namespace Go.Proofs.Ytbkadfocjmpieaa
open Go.RowKit

theorem fill_step : ∀ k, k < 16 → (List.replicate k 61 ++ List.replicate (16 - k) 0).set k 61 = List.replicate (k + 1) 61 ++ List.replicate (16 - (k + 1)) 0 := by decide +kernel
theorem u8s_set_n (n : Nat) (l : List Nat) (k : Nat) : (u8s l).set k (.int .u8 (n : Int)) = u8s (l.set k n) := by rw [← u8s_set]

theorem r61 (k : Nat) : (List.replicate 16 61).getD k 0 < 256 := by
  by_cases h : k < 16
  · exact (by decide +kernel : ∀ k, k < 16 → (List.replicate 16 61).getD k 0 < 256) k h
  · rw [List.getD, List.getElem?_eq_none (by simp; omega)]; decide
theorem r62 (k : Nat) : ((List.replicate 16 61).set 3 62).getD k 0 < 256 := by
  by_cases h : k < 16
  · exact (by decide +kernel : ∀ k, k < 16 → ((List.replicate 16 61).set 3 62).getD k 0 < 256) k h
  · rw [List.getD, List.getElem?_eq_none (by simp; omega)]; decide

set_option maxRecDepth 100000 in
set_option maxHeartbeats 2000000 in
theorem none_any (w : World) : Calls Try.prog 6 #[] w fun e w' => e = .returned (.bool true) ∧ Below w.heap.size w w' := by
  obtain ⟨i0, hi, hz0, hz1, hz2⟩ := info_parts info5
  have s16 := Sk.nw (p := 16) (by decide) (by decide)
  have s4 := Sk.nw (p := 4) (by decide) (by decide)
  have a1 := fun w => new_no 3 w (by omega)
  have a2 := fun w => new_no 17 w (by omega)
  have a3 := fun w => new_yes 16 w (by decide) (by decide)
  have a4 := fun w => add_no ⟨#[]⟩ 0 w (by decide) no_nil
  have a5 := fun w => union_no ⟨#[]⟩ ⟨#[]⟩ w (by decide) (by decide) (fun h => no_nil h.1)
  have a6 := fun w => est_no tNum w (by decide +kernel) no_num
  have a7 := fun w => new_yes 4 w (by decide) (by decide)
  have a8 := fun w => union_arg (strOf (nwL 16)) (strOf (nwL 4)) w s16.ok s4.ok (by rw [s16.exP, s4.exP]; decide)
  have a9 := fun w => addL_any 0 w s4 (by decide)
  rw [one_text] at a9
  have a10 := fun w => estL_any w s16
  rw [est_nw (by decide) (by decide)] at a10
  have a11 := fun w => est_yes tFull w yes_full
  rw [full_est] at a11
  have a12 := fun w => exp_any tOver w (by decide +kernel)
  rw [(ex_no no_over).1, (ex_no no_over).2] at a12
  obtain ⟨S, hS⟩ : ∃ S, S = strOf (nwL 16) := ⟨_, rfl⟩
  obtain ⟨T, hT⟩ : ∃ T, T = strOf (nwL 4) := ⟨_, rfl⟩
  have hSs : S.size = 65536 := by rw [hS, s16.size.2.2]
  have hh := fun w => hash_any 18446744073709551615 18446744073709551615 w (by decide) (by decide)
  have hr := fun w => rhash_any 18446744073709551615 18446744073709551615 w (by decide) (by decide)
  obtain ⟨hv, hhv⟩ : ∃ hv, hv = hsN 18446744073709551615 18446744073709551615 := ⟨_, rfl⟩
  rw [← hhv] at hh hr
  rw [← hS] at a3 a8 a10
  rw [← hT] at a7 a8 a9
  clear hS hT hhv s16 s4
  have A1 := Lib.hid a1
  have A2 := Lib.hid a2
  have A3 := Lib.hid a3
  have A4 := Lib.hid a4
  have A5 := Lib.hid a5
  have A6 := Lib.hid a6
  have A7 := Lib.hid a7
  have A8 := Lib.hid a8
  have A9 := Lib.hid a9
  have A10 := Lib.hid a10
  have A11 := Lib.hid a11
  have A12 := Lib.hid a12
  have AH := Lib.hid hh
  have AR := Lib.hid hr
  clear a1 a2 a3 a4 a5 a6 a7 a8 a9 a10 a11 a12 hh hr
  go_enter Try.func6, Try.ntmps6
  go_wp2_with fail
  refine (A1.out _).mono ?_
  rintro e w' ⟨rfl, rfl⟩
  go_wp2_with fail
  refine (A2.out _).mono ?_
  rintro e w' ⟨rfl, rfl⟩
  go_wp2_with fail
  refine (A3.out _).mono ?_
  rintro e w1 ⟨rfl, hb⟩
  have H1 := Lib.hid hb
  clear hb
  go_wp2_with fail
  refine (A4.out _).mono ?_
  rintro e w' ⟨rfl, rfl⟩
  go_wp2_with fail
  refine (A5.out _).mono ?_
  rintro e w' ⟨rfl, rfl⟩
  go_wp2_with fail
  refine (A6.out _).mono ?_
  rintro e w' ⟨rfl, rfl⟩
  go_wp2_with fail
  refine (A7.out _).mono ?_
  rintro e w2 ⟨rfl, hb⟩
  have H2 := Lib.hid (below_step H1.out hb)
  clear hb
  go_wp2_with fail
  refine (A8.out _).mono ?_
  rintro e w' ⟨rfl, rfl⟩
  go_wp2_with fail
  refine (A9.out _).mono ?_
  rintro e w3 ⟨rfl, hb⟩
  have H3 := Lib.hid (below_step H2.out hb)
  clear hb
  go_wp2_with fail
  refine (A10.out _).mono ?_
  rintro e w4 ⟨rfl, hb⟩
  have H4 := Lib.hid (below_step H3.out hb)
  clear hb
  obtain ⟨B, hB⟩ : ∃ B, B = w4.heap.size := ⟨_, rfl⟩
  go_wp2_with (refine wpList_make_full _ rfl (.const (.int .i64 16)) (.const (.int .i64 16)) 42 rfl B 5 i0 (.int .u8 0) 1 Try.underlying42 hi hz0 hz1 .i64 .i64 _ _ 16 rfl rfl rfl rfl ?m1 ?m2 ?m3 ?_)
  case m1 => rw [hz2]; omega
  case m2 => unfold maxLen; omega
  case m3 => exact Nat.le_of_eq hB
  intro w5 hown1 hgrow1
  have hbel1 : Below w4.heap.size w4 w5 := (Below.refl _ w4).grown hgrow1 (Nat.le_refl _) (by simp)
  rw [toList_madeCells_one, u8s_replicate] at hown1
  have H5 := Lib.hid (And.intro hown1 (below_step H4.out hbel1))
  clear hown1 hbel1 hgrow1
  go_wp2_with fail
  go_loopg [22] 16 (fun g i wr => ∃ k : Nat, k + g = 16 ∧ i = .int .i64 k ∧ wr.ownsRow w4.heap.size 5 1 (.slice (some ⟨w4.heap.size, 0, none⟩) 16 16) 16 (u8s (List.replicate k 61 ++ List.replicate (16 - k) 0)) ∧ Below w.heap.size w wr)
  case atStart => exact ⟨0, by omega, rfl, H5.out.1, H5.out.2⟩
  case round =>
    obtain ⟨k, hk, rfl, hown, hbel⟩ := hrel
    by_cases hlt : k < 16
    · have hfx := hown.frozenAt k
      have hln : (List.replicate k 61 ++ List.replicate (16 - k) 0).length = 16 := by simp; omega
      have hx := hown.cellAt k (by omega)
      rw [u8s_get (by omega)] at hx
      obtain ⟨z, hz⟩ : ∃ z, z = (List.replicate k 61 ++ List.replicate (16 - k) 0).getD k 0 := ⟨_, rfl⟩
      try rw [← hz] at hx
      clear hz hln
      have hst := (hown.stored k (.int .u8 61)).1
      have hbk := hbel.setCell (p := ⟨w4.heap.size, k, none⟩) H4.out.size (.int .u8 61)
      have HX := Lib.hid (And.intro hown (And.intro hst hbk))
      clear hown hst hbk hbel
      go_wp2_with fail
      go_roundg (gk - 1)
      case measure => omega
      case rel =>
        refine ⟨k + 1, by omega, by go_num, ?_, HX.out.2.2⟩
        have hst := HX.out.2.1
        have e : (u8s (List.replicate k 61 ++ List.replicate (16 - k) 0)).set k (.int .u8 61) = _ := u8s_set _ k 61
        rw [e, fill_step k hlt] at hst
        exact hst
    · obtain rfl : k = 16 := by omega
      have hfull : strOf (List.replicate 16 61) = tFull := by decide +kernel
      have hover : strOf ((List.replicate 16 61).set 3 62) = tOver := by decide +kernel
      have hcv := run_text (b := List.replicate 16 61) rfl (own_base hown) r61
      rw [hfull] at hcv
      go_wp2_with fail
      have HR := Lib.hid (And.intro hown hbel)
      clear hown hbel hcv
      refine (A11.out _).mono ?_
      rintro e w6 ⟨rfl, hb⟩
      have hown6 := own_only HR.out.1 (Only.of_below (F := fun _ => False) hb) (fun _ _ h => h)
      have hbel6 := below_step HR.out.2 hb
      clear hb
      have hfx := hown6.frozenAt 3
      have hx := hown6.cellAt 3 (by decide)
      have hx2 : w6.cell? ⟨w4.heap.size, 3, none⟩ = some (.int .u8 61) := hx
      have hst := (hown6.stored 3 (.int .u8 62)).1
      have e : (u8s (List.replicate 16 61 ++ List.replicate (16 - 16) 0)).set 3 (.int .u8 62) = u8s ((List.replicate 16 61).set 3 62) := u8s_set _ 3 62
      rw [e] at hst
      have hcv2 := run_text (b := (List.replicate 16 61).set 3 62) rfl (own_base hst) r62
      rw [hover] at hcv2
      have H7 := Lib.hid (hbel6.setCell (p := ⟨w4.heap.size, 3, none⟩) H4.out.size (.int .u8 62))
      clear hown6 hbel6 hx hst e HR
      go_wp2_with fail
      refine (A12.out _).mono ?_
      rintro e w' ⟨rfl, rfl⟩
      go_wp2_with fail
      refine (AH.out _).mono ?_
      rintro e w' ⟨rfl, rfl⟩
      go_wp2_with fail
      refine (AR.out _).mono ?_
      rintro e w' ⟨rfl, rfl⟩
      go_wp2_with fail
      refine (awake_any _).mono ?_
      rintro e w9 ⟨rfl, hb⟩
      have H9 := Lib.hid (below_step H7.out hb)
      clear hb
      go_wp2_with fail
      go_ret
      exact ⟨rfl, H9.out⟩
end Go.Proofs.Ytbkadfocjmpieaa
