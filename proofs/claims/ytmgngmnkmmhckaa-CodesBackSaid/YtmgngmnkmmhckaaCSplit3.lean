/-
  codes: a number's bits, in Minimal.
-/
import Derived.Test.YtmgngmnkmmhckaaCSplit2
set_option linter.unusedVariables false
namespace Go.Proofs.Ytmgngmnkmmhckaa
open Go.RowKit Plain

set_option maxRecDepth 100000 in
set_option maxHeartbeats 4000000 in
theorem split_minimal (K v : Nat) (w : World) (hK1 : 1 ≤ K) (hK2 : K ≤ 281474976710655) (hv0 : v < K) : Calls Try.prog 61 #[.agg #[.int .u8 4, .int .u64 K], .int .u64 v] w fun e w' =>
    e = .returned (.tuple #[.int .i64 (-1), .agg #[.int .u64 (shV v K : Nat), .int .i64 (shN v K), .int .u64 0, .int .i64 0]]) ∧ Below w.heap.size w w' := by
  have hv : v < 281474976710655 := by omega
  obtain ⟨b1, b2, b3, b4⟩ := lo_spec hv
  obtain ⟨b, hb⟩ : ∃ b, b = lo v := ⟨_, rfl⟩
  obtain ⟨r, hr⟩ : ∃ r, r = rs v := ⟨_, rfl⟩
  have hr2 := hr
  unfold rs at hr2
  rw [← hb] at b1 b2 b3 b4 hr2
  obtain ⟨P, hP⟩ : ∃ P, P = 2 ^ b := ⟨_, rfl⟩
  rw [← hP] at b2 b3 hr2
  have hn : IntKind.u64.wrap ((v : Int) + 1) = ((v + 1 : Nat) : Int) := by
    rw [show ((v : Int) + 1) = ((v + 1 : Nat) : Int) by omega]; exact wrap_nat64 _ (by omega)
  have hwr := shl64 hP (by omega)
  have hsub : IntKind.u64.wrap ((v : Int) + 1 - (P : Int)) = (r : Int) := by
    rw [show ((v : Int) + 1 - (P : Int)) = (r : Int) by omega]; exact wrap_nat64 _ (by omega)
  have HL : Hid (∀ w, Calls Try.prog 71 #[.int .u64 ((v : Int) + 1)] w fun e w' => e = .returned (.int .i64 ((b : Int) + 1)) ∧ w = w') := by
    intro w
    have := len64_any (v + 1) w (by omega)
    rw [b4] at this
    exact this
  have H0 : Hid (∀ o1 o2 o3 : Obj, Below w.heap.size w (((w.alloc o1).alloc o2).alloc o3)) := fun o1 o2 o3 => (((Below.refl _ w).alloc (Nat.le_refl _) o1).alloc (by rw [World.size_alloc]; omega) o2).alloc (by rw [World.size_alloc, World.size_alloc]; omega) o3
  have h63 : K ≤ 2 ^ 63 := by
    have e : (2 : Nat) ^ 63 = 9223372036854775808 := by decide
    omega
  have HS : Hid (∀ w, Calls Try.prog 72 #[.int .u64 v, .int .u64 K] w fun e w' => e = .returned (.agg #[.int .u64 (shV v K : Nat), .int .i64 (shN v K)]) ∧ Below w.heap.size w w') := fun w => short_any v K w hK1 h63 hv0
  clear b2 b3 b4 hP hr hr2 hb hv hK1 hK2 hv0 h63
  go_enter Try.func61, Try.ntmps61
  go_wp2_with fail
  refine (HL.out _).mono ?_
  rintro e w' ⟨rfl, rfl⟩
  clear HL
  go_wp2_with fail
  have hB2 := blk2 w (.cells #[.int .u8 4, .int .u64 K] 71) (.cells #[.int .u64 r, .int .i64 b] 106) 107 #[.int .u64 0, .int .i64 0, .int .u64 0, .int .i64 0]
  have hb3 := H0.out (.cells #[.int .u8 4, .int .u64 K] 71) (.cells #[.int .u64 0, .int .i64 0, .int .u64 0, .int .i64 0] 107) (.cells #[.int .u64 r, .int .i64 b] 106)
  obtain ⟨w3, hw3⟩ : ∃ w3, w3 = (((w.alloc (.cells #[.int .u8 4, .int .u64 K] 71)).alloc (.cells #[.int .u64 0, .int .i64 0, .int .u64 0, .int .i64 0] 107)).alloc (.cells #[.int .u64 r, .int .i64 b] 106)) := ⟨_, rfl⟩
  rw [← hw3] at hB2 hb3
  rw [← hw3]
  obtain ⟨gg, hgg⟩ : ∃ gg, gg = w.heap.size := ⟨_, rfl⟩
  rw [← hgg] at hB2
  rw [← hgg]
  have Hg := Lib.hid (And.intro hgg hb3)
  clear hw3 hgg hb3 H0
  refine (HS.out _).mono ?_
  rintro e w4 ⟨rfl, hb⟩
  have hB4 := hB2.only (Only.of_below (F := fun _ => False) hb) (fun e => e)
  have d0 := hB4.cell 0
  have d1 := hB4.cell 1
  have d2 := hB4.cell 2
  have d3 := hB4.cell 3
  have f0 := hB4.frozen 0
  have f1 := hB4.frozen 1
  have f2 := hB4.frozen 2
  have f3 := hB4.frozen 3
  simp at d0 d1 d2 d3
  have H4 := Lib.hid (And.intro hB4 (below_step Hg.out.2 hb))
  clear hb hB4 hB2 HS
  obtain ⟨V, hV⟩ : ∃ V, V = shV v K := ⟨_, rfl⟩
  obtain ⟨N, hN⟩ : ∃ N, N = shN v K := ⟨_, rfl⟩
  rw [← hV, ← hN]
  have HE := Lib.hid (And.intro hV hN)
  clear hV hN
  go_wp2_with fail
  have hbk : Blk ((((w4.setCell ⟨gg + 1, 0, none⟩ (.int .u64 V)).setCell ⟨gg + 1, 1, none⟩ (.int .i64 N)).setCell ⟨gg + 1, 2, none⟩ (.int .u64 0)).setCell ⟨gg + 1, 3, none⟩ (.int .i64 0)) (gg + 1) 107 #[.int .u64 V, .int .i64 N, .int .u64 0, .int .i64 0] := by
    have := (((H4.out.1.set_ 0 (.int .u64 V)).set_ 1 (.int .i64 N)).set_ 2 (.int .u64 0)).set_ 3 (.int .i64 0)
    simpa using this
  have hge : w.heap.size ≤ gg + 1 := by have := Hg.out.1; omega
  have hon : Only (fun _ => False) w ((((w4.setCell ⟨gg + 1, 0, none⟩ (.int .u64 V)).setCell ⟨gg + 1, 1, none⟩ (.int .i64 N)).setCell ⟨gg + 1, 2, none⟩ (.int .u64 0)).setCell ⟨gg + 1, 3, none⟩ (.int .i64 0)) :=
    ((((Only.of_below H4.out.2).setCell (p := ⟨gg + 1, 0, none⟩) (.inr hge) _).setCell (p := ⟨gg + 1, 1, none⟩) (.inr hge) _).setCell (p := ⟨gg + 1, 2, none⟩) (.inr hge) _).setCell (p := ⟨gg + 1, 3, none⟩) (.inr hge) _
  refine bodyPost_ret (results_tmp_cell rfl _ _ (gg + 1) 107 #[.int .u64 V, .int .i64 N, .int .u64 0, .int .i64 0] (0, 0) _ rfl hbk Try.underlying107 rfl (by kernel_rfl)) rfl ?_
  rw [← HE.out.1, ← HE.out.2]
  exact ⟨rfl, hon.below (fun _ _ e => e) (Nat.le_refl _)⟩
end Go.Proofs.Ytmgngmnkmmhckaa
