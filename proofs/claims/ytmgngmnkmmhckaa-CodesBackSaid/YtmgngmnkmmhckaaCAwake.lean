/-
  codes: a number in Gamma, there and back.
-/
import Derived.Test.YtmgngmnkmmhckaaCRead
set_option linter.unusedVariables false
namespace Go.Proofs.Ytmgngmnkmmhckaa
open Go.RowKit Plain

theorem sp7 : Sp 1 0 7 3 0 3 0 0 := fun w => by
  have := split_gamma 0 7 w (by decide)
  rw [show lo 7 = 3 from by decide +kernel, show rs 7 = 0 from by decide +kernel] at this
  exact this
theorem caw_put {h : Nat} {w : World} (hw : WrAt w h none []) : Calls Try.prog 41 #[.pointer (some ⟨h, 0, none⟩), .agg #[.int .u8 1, .int .u64 0], .int .u64 7] w fun e w' => e = .returned (.int .i64 0) ∧ WrTo w h none ([] ++ cB 3 0 3 0 0) w' :=
  cput_yes h none [] 1 0 7 3 0 3 0 0 w hw (by decide) (by decide) (by decide +kernel) sp7 (by decide) (by decide) (by decide) (by decide) (by decide) (by decide) (by decide)
theorem caw_read {h : Nat} {w : World} (hw : RdAt w h ⟨#[16]⟩ 0) : Calls Try.prog 37 #[.pointer (some ⟨h, 0, none⟩), .agg #[.int .u8 1, .int .u64 0]] w fun e w' => e = .returned (.tuple #[.int .u64 7, .int .i64 0]) ∧ RdTo w h ⟨#[16]⟩ 7 w' := by
  have hn := nm_gamma 0 ⟨#[16]⟩ 0 (by decide)
  rw [show gm (bitsS ⟨#[16]⟩) 0 47 = (7, 7, false) from by decide +kernel] at hn
  exact cread_yes h ⟨#[16]⟩ 0 1 0 7 7 false w hw (by decide) (by decide) (by decide +kernel) hn 7 0 7 (by
    have : rdBad 1 0 7 false = false := by decide +kernel
    rw [this]; exact ⟨rfl, rfl, rfl⟩)

set_option maxRecDepth 100000 in
set_option maxHeartbeats 4000000 in
theorem caw_any (w : World) : Calls Try.prog 40 #[] w fun e w' => e = .returned (.bool true) ∧ Below w.heap.size w w' := by
  go_enter Try.func40, Try.ntmps40
  go_wp2_with fail
  refine (new_any _).mono ?_
  rintro e w1 ⟨rfl, rfl⟩
  have hw1 := WrAt.new w
  have hb1 : Below w.heap.size w (w.alloc (.cells #[.slice none 0 0, .int .i64 0] 93)) := (Below.refl _ _).alloc (Nat.le_refl _) _
  obtain ⟨w1, hw1e⟩ : ∃ w1, w1 = w.alloc (.cells #[.slice none 0 0, .int .i64 0] 93) := ⟨_, rfl⟩
  rw [← hw1e] at hw1 hb1 ⊢
  clear hw1e
  have H1 := Lib.hid hb1
  clear hb1
  go_wp2_with fail
  refine (caw_put hw1).mono ?_
  rintro e w2 ⟨rfl, hp⟩
  have H2 := Lib.hid (below_wr H1.out hp (Nat.le_refl _) Ge.none_)
  obtain ⟨o2, q1, _, _⟩ := hp
  have Q := Lib.hid q1
  clear q1 hw1
  go_wp2_with fail
  refine (wtext_any _ o2 _ _ Q.out).mono ?_
  rintro e w' ⟨rfl, rfl⟩
  rw [show strOf (pk ([] ++ cB 3 0 3 0 0)) = ⟨#[16]⟩ from by decide +kernel]
  go_wp2_with fail
  refine (open_any _ _).mono ?_
  rintro e w4 ⟨rfl, rfl⟩
  have hr4 := RdAt.new w2 ⟨#[16]⟩
  have hsz : w.heap.size ≤ w2.heap.size := H2.out.size
  have H4 : Hid (Below w.heap.size w (w2.alloc (.cells #[.string ⟨#[16]⟩, .int .i64 0] 88))) := H2.out.alloc hsz _
  obtain ⟨w4, hw4e⟩ : ∃ w4, w4 = w2.alloc (.cells #[.string ⟨#[16]⟩, .int .i64 0] 88) := ⟨_, rfl⟩
  rw [← hw4e] at hr4 H4 ⊢
  clear hw4e
  go_wp2_with fail
  refine (caw_read hr4).mono ?_
  rintro e w5 ⟨rfl, hr5, ho5⟩
  have H5 : Hid (Below w.heap.size w w5) := below_only H4.out ho5 H4.out.size (by rintro i rfl; exact hsz)
  clear ho5
  go_wp2_with fail
  go_ret
  exact ⟨rfl, H5.out⟩
end Go.Proofs.Ytmgngmnkmmhckaa
