/-
  strings.Builder's copyCheck at this program.
-/
import Derived.Test.YtpggicaphejjfaaPLib
import Derived.Test.YtpggicaphejjfaaPSize
set_option linter.unusedVariables false
namespace Go.Proofs.Ytpggicaphejjfaa
open Go.RowKit

theorem info56 : (Try.prog.info? 56).map (·.size) = some 2 := by kernel_rfl
theorem lies56 : liesAt Try.prog Try.prog.depth 56 (2 / Try.prog.cellsOf 56) 0 56 1 = true := by kernel_rfl
set_option maxRecDepth 100000 in
/-- a builder that was written: nothing -/
theorem check_used (b : Nat) (w : World) (h0 : w.cell? ⟨b, 0, none⟩ = some (.pointer (some ⟨b, 0, none⟩))) : Calls Try.prog 43 #[.pointer (some ⟨b, 0, none⟩)] w fun e w' => e = .returned (.tuple #[]) ∧ w' = w := by
  obtain ⟨j, hj, hjs⟩ := Option.map_eq_some_iff.1 info56
  have hq := Lib.run_neq_ptr_same w ⟨b, 0, none⟩ Try.underlying54 hj
  clear hj hjs
  go_enter Try.func43, Try.ntmps43
  go_wp2_with fail
  go_end0
  exact ⟨rfl, rfl⟩
set_option maxRecDepth 100000 in
set_option maxHeartbeats 2000000 in
/-- a fresh one: it keeps its own address -/
theorem check_fresh (b : Nat) (w : World) (h0 : w.cell? ⟨b, 0, none⟩ = some (.pointer none)) (hsh : w.shape? b = some (56, 2)) (hfz : w.frozen? ⟨b, 0, none⟩ = false) :
    Calls Try.prog 43 #[.pointer (some ⟨b, 0, none⟩)] w fun e w' => e = .returned (.tuple #[]) ∧ w' = w.setCell ⟨b, 0, none⟩ (.pointer (some ⟨b, 0, none⟩)) := by
  obtain ⟨j, hj, hjs⟩ := Option.map_eq_some_iff.1 info56
  have hc1 := Lib.run_to_unsafe w ⟨b, 0, none⟩ Try.underlying54 Try.underlying84 hj (by rw [hjs]; decide) hsh (Nat.zero_lt_succ 1)
  have hc2 := Lib.run_from_unsafe w ⟨b, 0, none⟩ Try.underlying84 Try.underlying54 hj hsh lies56
  have hq := Lib.run_neq_ptr_same (w.setCell ⟨b, 0, none⟩ (.pointer (some ⟨b, 0, none⟩))) ⟨b, 0, none⟩ Try.underlying54 hj
  have hne : (callFunc 48 #[.pointer (some ⟨b, 0, none⟩)]).run Try.prog w = .ok (Next.value (.pointer (some ⟨b, 0, none⟩))) w := by
    rw [run_callFunc_extern Try.func48 (by kernel_rfl) (by kernel_rfl) (by kernel_rfl) (e := Extern.AbiNoEscape.same) (by kernel_rfl)]
    rw [Lib.run_noEscape]
    rfl
  clear hj hjs hsh
  go_enter Try.func43, Try.ntmps43
  go_wp2_with fail
  go_end0
  exact ⟨rfl, rfl⟩
/-- copyCheck of whatever builder: it is a used one behind it -/
theorem check_any (B b : Nat) (bs : List Value) (w : World) (h : Lib.IsBuilder 56 5 B b bs w) : Calls Try.prog 43 #[.pointer (some ⟨b, 0, none⟩)] w fun e w' => e = .returned (.tuple #[]) ∧
    Lib.BuilderAt 56 5 B b (.pointer (some ⟨b, 0, none⟩)) bs w' ∧ Only (fun k => k = b) w w' ∧ B ≤ b := by
  rcases h with h | h
  · refine (check_fresh b w h.cell0 h.shape h.frozen0).mono ?_
    rintro e w' ⟨rfl, rfl⟩
    exact ⟨rfl, h.used _, (Only.refl (fun k => k = b) w).setCell (p := ⟨b, 0, none⟩) (.inl rfl) _, h.1⟩
  · refine (check_used b w h.cell0).mono ?_
    rintro e w' ⟨rfl, rfl⟩
    exact ⟨rfl, h, Only.refl _ _, h.1⟩
end Go.Proofs.Ytpggicaphejjfaa
