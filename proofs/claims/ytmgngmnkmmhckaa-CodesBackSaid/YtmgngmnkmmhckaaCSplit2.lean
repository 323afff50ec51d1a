/-
  codes: a number's bits, at the other kinds.
-/
import Derived.Test.YtmgngmnkmmhckaaCPut
set_option linter.unusedVariables false
namespace Go.Proofs.Ytmgngmnkmmhckaa
open Go.RowKit Plain

set_option maxRecDepth 100000 in
set_option maxHeartbeats 4000000 in
theorem split_unary (K v : Nat) (w : World) (hv0 : v ≤ 65535) : Calls Try.prog 61 #[.agg #[.int .u8 0, .int .u64 K], .int .u64 v] w fun e w' =>
    e = .returned (.tuple #[.int .i64 v, .agg #[.int .u64 0, .int .i64 0, .int .u64 0, .int .i64 0]]) ∧ Below w.heap.size w w' := by
  have hv : v < 281474976710655 := by omega
  obtain ⟨b1, b2, b3, b4⟩ := lo_spec hv
  obtain ⟨b, hb⟩ : ∃ b, b = lo v := ⟨_, rfl⟩
  obtain ⟨r, hr⟩ : ∃ r, r = rs v := ⟨_, rfl⟩
  have hr2 := hr
  unfold rs at hr2
  rw [← hb] at b1 b2 b3 b4 hr2
  obtain ⟨P, hP⟩ : ∃ P, P = 2 ^ b := ⟨_, rfl⟩
  rw [← hP] at b2 b3 hr2
  have hn : IntKind.u64.wrap ((v : Int) + 1) = ((v + 1 : Nat) : Int) := by
    rw [show ((v : Int) + 1) = ((v + 1 : Nat) : Int) by omega]; exact wrap_nat64 _ (by omega)
  have hwr := shl64 hP (by omega)
  have hsub : IntKind.u64.wrap ((v : Int) + 1 - (P : Int)) = (r : Int) := by
    rw [show ((v : Int) + 1 - (P : Int)) = (r : Int) by omega]; exact wrap_nat64 _ (by omega)
  have HL : Hid (∀ w, Calls Try.prog 71 #[.int .u64 ((v : Int) + 1)] w fun e w' => e = .returned (.int .i64 ((b : Int) + 1)) ∧ w = w') := by
    intro w
    have := len64_any (v + 1) w (by omega)
    rw [b4] at this
    exact this
  have H0 : Hid (∀ o1 o2 o3 : Obj, Below w.heap.size w (((w.alloc o1).alloc o2).alloc o3)) := fun o1 o2 o3 => (((Below.refl _ w).alloc (Nat.le_refl _) o1).alloc (by rw [World.size_alloc]; omega) o2).alloc (by rw [World.size_alloc, World.size_alloc]; omega) o3
  clear b2 b3 b4 hP hr hr2 hb hv
  go_enter Try.func61, Try.ntmps61
  go_wp2_with fail
  refine (HL.out _).mono ?_
  rintro e w' ⟨rfl, rfl⟩
  clear HL
  go_wp2_with fail
  go_region
  all_goals go_wp2_with fail
  all_goals refine bodyPost_ret (results_tmp_cell rfl _ _ (w.heap.size + 1) 107 #[.int .u64 0, .int .i64 0, .int .u64 0, .int .i64 0] (0, 0) _ rfl ((blk2 w _ _ 107 _).drew) Try.underlying107 rfl (by kernel_rfl)) rfl ?_
  all_goals exact ⟨rfl, below_drew (H0.out _ _ _)⟩
end Go.Proofs.Ytmgngmnkmmhckaa
