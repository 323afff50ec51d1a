/-
  codes: how many bits a number has in a code.
-/
import Derived.Test.YtmgngmnkmmhckaaCSplit
set_option linter.unusedVariables false
namespace Go.Proofs.Ytmgngmnkmmhckaa
open Go.RowKit Plain

/-- what 'split' answers at one code and number -/
def Sp (kd K v : Nat) (z : Int) (a0 n0 a1 n1 : Nat) : Prop := ∀ w, Calls Try.prog 61 #[.agg #[.int .u8 kd, .int .u64 K], .int .u64 v] w fun e w' =>
    e = .returned (.tuple #[.int .i64 z, .agg #[.int .u64 a0, .int .i64 n0, .int .u64 a1, .int .i64 n1]]) ∧ Below w.heap.size w w'

set_option maxRecDepth 100000 in
set_option maxHeartbeats 4000000 in
theorem len_no (kd K v : Nat) (w : World) (hK : K < 18446744073709551616) (h : cMay kd K v = false) : Calls Try.prog 42 #[.agg #[.int .u8 kd, .int .u64 K], .int .u64 v] w fun e w' =>
    e = .returned (.tuple #[.int .i64 0, .int .i64 1]) ∧ Below w.heap.size w w' := by
  have hB : Hid (∀ o, Below w.heap.size w (w.alloc o)) := fun o => (Below.refl _ w).alloc (Nat.le_refl _) o
  have HH := Lib.hid (And.intro hK h)
  clear hK h
  go_enter Try.func42, Try.ntmps42
  go_wp2_with fail
  refine (may_any kd K v _ HH.out.1).mono ?_
  rintro e w' ⟨rfl, hb⟩
  rw [HH.out.2]
  have H1 := Lib.hid (below_step (hB.out _) hb)
  clear hb
  go_wp2_with fail
  go_ret2
  exact ⟨rfl, H1.out⟩

set_option maxRecDepth 100000 in
set_option maxHeartbeats 4000000 in
theorem len_yes (kd K v : Nat) (z : Int) (a0 n0 a1 n1 : Nat) (w : World) (hK : K < 18446744073709551616) (h : cMay kd K v = true) (hsp : Sp kd K v z a0 n0 a1 n1) (hz : -1 ≤ z) (hz2 : z ≤ 65535) (h0 : n0 ≤ 64) (h1 : n1 ≤ 64) :
    Calls Try.prog 42 #[.agg #[.int .u8 kd, .int .u64 K], .int .u64 v] w fun e w' =>
    e = .returned (.tuple #[.int .i64 (z + 1 + n0 + n1), .int .i64 0]) ∧ Below w.heap.size w w' := by
  have hB : Hid (∀ o, Below w.heap.size w (w.alloc o)) := fun o => (Below.refl _ w).alloc (Nat.le_refl _) o
  have HH := Lib.hid (And.intro hK (And.intro h hsp))
  have hb0 := Blk.new w 71 #[.int .u8 kd, .int .u64 K]
  clear hK h hsp
  go_enter Try.func42, Try.ntmps42
  go_wp2_with fail
  obtain ⟨g, hg⟩ : ∃ g, g = w.heap.size := ⟨_, rfl⟩
  obtain ⟨w1, hw1⟩ : ∃ w1, w1 = w.alloc (.cells #[.int .u8 kd, .int .u64 K] 71) := ⟨_, rfl⟩
  have hbw : Below w.heap.size w w1 := by rw [hw1]; exact hB.out _
  rw [← hw1, ← hg] at hb0
  rw [← hw1, ← hg]
  have Hg := Lib.hid hbw
  clear hw1 hg hbw
  refine (may_any kd K v _ HH.out.1).mono ?_
  rintro e w' ⟨rfl, hb⟩
  rw [HH.out.2.1]
  have hb1 := hb0.only (Only.of_below (F := fun _ => False) hb) (fun e => e)
  have c0 := hb1.cell 0
  have c1 := hb1.cell 1
  simp at c0 c1
  have H1 := Lib.hid (below_step Hg.out hb)
  clear hb hb0 hb1
  go_wp2_with fail
  refine (HH.out.2.2 _).mono ?_
  rintro e w2 ⟨rfl, hb⟩
  have H2 := Lib.hid (below_step H1.out hb)
  clear hb c0 c1
  go_wp2_with fail
  go_ret2
  exact ⟨rfl, H2.out.alloc H2.out.size _⟩
end Go.Proofs.Ytmgngmnkmmhckaa
