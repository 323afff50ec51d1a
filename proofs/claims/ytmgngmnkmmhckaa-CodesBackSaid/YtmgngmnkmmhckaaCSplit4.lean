/-
  codes: a number's bits, in Delta.
-/
import Derived.Test.YtmgngmnkmmhckaaCSplit3
set_option linter.unusedVariables false
namespace Go.Proofs.Ytmgngmnkmmhckaa
open Go.RowKit Plain

set_option maxRecDepth 100000 in
set_option maxHeartbeats 4000000 in
theorem split_delta (K v : Nat) (w : World) (hv : v < 281474976710655) : Calls Try.prog 61 #[.agg #[.int .u8 2, .int .u64 K], .int .u64 v] w fun e w' =>
    e = .returned (.tuple #[.int .i64 (lo (lo v) : Nat), .agg #[.int .u64 (rs (lo v) : Nat), .int .i64 (lo (lo v) : Nat), .int .u64 (rs v : Nat), .int .i64 (lo v : Nat)]]) ∧ Below w.heap.size w w' := by
  obtain ⟨b1, b2, b3, b4⟩ := lo_spec hv
  obtain ⟨b, hb⟩ : ∃ b, b = lo v := ⟨_, rfl⟩
  obtain ⟨r, hr⟩ : ∃ r, r = rs v := ⟨_, rfl⟩
  rw [← hb, ← hr]
  have hr2 := hr
  unfold rs at hr2
  rw [← hb] at b1 b2 b3 b4 hr2
  obtain ⟨P, hP⟩ : ∃ P, P = 2 ^ b := ⟨_, rfl⟩
  rw [← hP] at b2 b3 hr2
  have hn : IntKind.u64.wrap ((v : Int) + 1) = ((v + 1 : Nat) : Int) := by
    rw [show ((v : Int) + 1) = ((v + 1 : Nat) : Int) by omega]; exact wrap_nat64 _ (by omega)
  have hwr := shl64 hP (by omega)
  have hsub : IntKind.u64.wrap ((v : Int) + 1 - (P : Int)) = (r : Int) := by
    rw [show ((v : Int) + 1 - (P : Int)) = (r : Int) by omega]; exact wrap_nat64 _ (by omega)
  have HL : Hid (∀ w, Calls Try.prog 71 #[.int .u64 ((v : Int) + 1)] w fun e w' => e = .returned (.int .i64 ((b : Int) + 1)) ∧ w = w') := by
    intro w
    have := len64_any (v + 1) w (by omega)
    rw [b4] at this
    exact this
  have H0 : Hid (∀ o1 o2 o3 : Obj, Below w.heap.size w (((w.alloc o1).alloc o2).alloc o3)) := fun o1 o2 o3 => (((Below.refl _ w).alloc (Nat.le_refl _) o1).alloc (by rw [World.size_alloc]; omega) o2).alloc (by rw [World.size_alloc, World.size_alloc]; omega) o3
  have HS : Hid (∀ w, Calls Try.prog 61 #[.agg #[.int .u8 1, .int .u64 0], .int .u64 b] w fun e w' => e = .returned (.tuple #[.int .i64 (lo b : Nat), .agg #[.int .u64 (rs b : Nat), .int .i64 (lo b : Nat), .int .u64 0, .int .i64 0]]) ∧ Below w.heap.size w w') := fun w => split_gamma 0 b w (by omega)
  clear b2 b3 b4 hP hr hr2 hb hv
  go_enter Try.func61, Try.ntmps61
  go_wp2_with fail
  refine (HL.out _).mono ?_
  rintro e w' ⟨rfl, rfl⟩
  clear HL
  go_wp2_with fail
  have hB2 := blk2 w (.cells #[.int .u8 2, .int .u64 K] 71) (.cells #[.int .u64 r, .int .i64 b] 106) 107 #[.int .u64 0, .int .i64 0, .int .u64 0, .int .i64 0]
  have hB3 : Blk (((w.alloc (.cells #[.int .u8 2, .int .u64 K] 71)).alloc (.cells #[.int .u64 0, .int .i64 0, .int .u64 0, .int .i64 0] 107)).alloc (.cells #[.int .u64 r, .int .i64 b] 106)) (w.heap.size + 1 + 1) 106 #[.int .u64 r, .int .i64 b] := by
    have := Blk.new ((w.alloc (.cells #[.int .u8 2, .int .u64 K] 71)).alloc (.cells #[.int .u64 0, .int .i64 0, .int .u64 0, .int .i64 0] 107)) 106 #[.int .u64 r, .int .i64 b]
    rw [World.size_alloc, World.size_alloc] at this
    exact this
  have hb3 := H0.out (.cells #[.int .u8 2, .int .u64 K] 71) (.cells #[.int .u64 0, .int .i64 0, .int .u64 0, .int .i64 0] 107) (.cells #[.int .u64 r, .int .i64 b] 106)
  obtain ⟨w3, hw3⟩ : ∃ w3, w3 = (((w.alloc (.cells #[.int .u8 2, .int .u64 K] 71)).alloc (.cells #[.int .u64 0, .int .i64 0, .int .u64 0, .int .i64 0] 107)).alloc (.cells #[.int .u64 r, .int .i64 b] 106)) := ⟨_, rfl⟩
  rw [← hw3] at hB2 hb3 hB3
  rw [← hw3]
  obtain ⟨gg, hgg⟩ : ∃ gg, gg = w.heap.size := ⟨_, rfl⟩
  rw [← hgg] at hB2 hB3
  rw [← hgg]
  have Hg := Lib.hid (And.intro hgg hb3)
  clear hw3 hgg hb3 H0
  refine (HS.out _).mono ?_
  rintro e w4 ⟨rfl, hb⟩
  have hB4 := hB2.only (Only.of_below (F := fun _ => False) hb) (fun e => e)
  have hB5 := hB3.only (Only.of_below (F := fun _ => False) hb) (fun e => e)
  have d0 := hB4.cell 0
  have d1 := hB4.cell 1
  have d2 := hB4.cell 2
  have d3 := hB4.cell 3
  have f0 := hB4.frozen 0
  have f1 := hB4.frozen 1
  have f2 := hB4.frozen 2
  have f3 := hB4.frozen 3
  have k0 := hB5.cell 0
  have k1 := hB5.cell 1
  simp at d0 d1 d2 d3 k0 k1
  have H4 := Lib.hid (And.intro hB4 (below_step Hg.out.2 hb))
  clear hb hB4 hB5 hB2 hB3 HS
  obtain ⟨V, hV⟩ : ∃ V, V = rs b := ⟨_, rfl⟩
  obtain ⟨N, hN⟩ : ∃ N, N = lo b := ⟨_, rfl⟩
  rw [← hV, ← hN]
  have HE := Lib.hid (And.intro hV hN)
  clear hV hN
  go_wp2_with fail
  have hbk : Blk ((((((w4.setCell ⟨gg + 1, 0, none⟩ (.int .u64 V)).setCell ⟨gg + 1, 1, none⟩ (.int .i64 N)).setCell ⟨gg + 1, 2, none⟩ (.int .u64 0)).setCell ⟨gg + 1, 3, none⟩ (.int .i64 0)).setCell ⟨gg + 1, 2, none⟩ (.int .u64 r)).setCell ⟨gg + 1, 3, none⟩ (.int .i64 b)) (gg + 1) 107 #[.int .u64 V, .int .i64 N, .int .u64 r, .int .i64 b] := by
    have := (((((H4.out.1.set_ 0 (.int .u64 V)).set_ 1 (.int .i64 N)).set_ 2 (.int .u64 0)).set_ 3 (.int .i64 0)).set_ 2 (.int .u64 r)).set_ 3 (.int .i64 b)
    simpa using this
  have hge : w.heap.size ≤ gg + 1 := by have := Hg.out.1; omega
  have hon : Only (fun _ => False) w ((((((w4.setCell ⟨gg + 1, 0, none⟩ (.int .u64 V)).setCell ⟨gg + 1, 1, none⟩ (.int .i64 N)).setCell ⟨gg + 1, 2, none⟩ (.int .u64 0)).setCell ⟨gg + 1, 3, none⟩ (.int .i64 0)).setCell ⟨gg + 1, 2, none⟩ (.int .u64 r)).setCell ⟨gg + 1, 3, none⟩ (.int .i64 b)) :=
    ((((((Only.of_below H4.out.2).setCell (p := ⟨gg + 1, 0, none⟩) (.inr hge) _).setCell (p := ⟨gg + 1, 1, none⟩) (.inr hge) _).setCell (p := ⟨gg + 1, 2, none⟩) (.inr hge) _).setCell (p := ⟨gg + 1, 3, none⟩) (.inr hge) _).setCell (p := ⟨gg + 1, 2, none⟩) (.inr hge) _).setCell (p := ⟨gg + 1, 3, none⟩) (.inr hge) _
  obtain ⟨wz, hwz⟩ : ∃ wz, wz = ((((((w4.setCell ⟨gg + 1, 0, none⟩ (.int .u64 V)).setCell ⟨gg + 1, 1, none⟩ (.int .i64 N)).setCell ⟨gg + 1, 2, none⟩ (.int .u64 0)).setCell ⟨gg + 1, 3, none⟩ (.int .i64 0)).setCell ⟨gg + 1, 2, none⟩ (.int .u64 r)).setCell ⟨gg + 1, 3, none⟩ (.int .i64 b)) := ⟨_, rfl⟩
  rw [← hwz] at hbk hon
  rw [← hwz]
  clear hwz d0 d1 d2 d3 f0 f1 f2 f3 k0 k1 H4
  have d0 := hbk.cell 0
  have d1 := hbk.cell 1
  have d2 := hbk.cell 2
  have d3 := hbk.cell 3
  have f0 := hbk.frozen 0
  have f1 := hbk.frozen 1
  have f2 := hbk.frozen 2
  have f3 := hbk.frozen 3
  simp at d0 d1 d2 d3
  have HB := Lib.hid (And.intro hbk (And.intro hon hge))
  clear hbk hon hge
  go_region
  all_goals go_wp2_with fail
  have hbk : Blk ((((wz.setCell ⟨gg + 1, 0, none⟩ (.int .u64 V)).setCell ⟨gg + 1, 1, none⟩ (.int .i64 N)).setCell ⟨gg + 1, 2, none⟩ (.int .u64 r)).setCell ⟨gg + 1, 3, none⟩ (.int .i64 b)) (gg + 1) 107 #[.int .u64 V, .int .i64 N, .int .u64 r, .int .i64 b] := by
    have := (((HB.out.1.set_ 0 (.int .u64 V)).set_ 1 (.int .i64 N)).set_ 2 (.int .u64 r)).set_ 3 (.int .i64 b)
    simpa using this
  have hon : Only (fun _ => False) w ((((wz.setCell ⟨gg + 1, 0, none⟩ (.int .u64 V)).setCell ⟨gg + 1, 1, none⟩ (.int .i64 N)).setCell ⟨gg + 1, 2, none⟩ (.int .u64 r)).setCell ⟨gg + 1, 3, none⟩ (.int .i64 b)) :=
    (((HB.out.2.1.setCell (p := ⟨gg + 1, 0, none⟩) (.inr HB.out.2.2) _).setCell (p := ⟨gg + 1, 1, none⟩) (.inr HB.out.2.2) _).setCell (p := ⟨gg + 1, 2, none⟩) (.inr HB.out.2.2) _).setCell (p := ⟨gg + 1, 3, none⟩) (.inr HB.out.2.2) _
  refine bodyPost_ret (results_tmp_cell rfl _ _ (gg + 1) 107 #[.int .u64 V, .int .i64 N, .int .u64 r, .int .i64 b] (0, 0) _ rfl hbk.drew Try.underlying107 rfl (by kernel_rfl)) rfl ?_
  rw [← HE.out.1, ← HE.out.2]
  exact ⟨rfl, below_drew (hon.below (fun _ _ e => e) (Nat.le_refl _))⟩
end Go.Proofs.Ytmgngmnkmmhckaa
