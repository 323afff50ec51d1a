/-
  A leaf's entries; is a kid nought.
-/
import Derived.Test.YtpggicaphejjfaaPBytes2
set_option linter.unusedVariables false
namespace Go.Proofs.Ytpggicaphejjfaa
open Go.RowKit

/-- a slice of kids' numbers that reads as a list -/
def KidR (w : World) (A : Option Addr) (l : List Nat) : Prop :=
  0 < l.length → ∃ b off, A = some ⟨b, off, none⟩ ∧ b < w.heap.size ∧ ∀ i, i < l.length → w.cell? ⟨b, off + i, none⟩ = some (.int .u32 (l.getD i 0 : Nat))
theorem KidR.below {w w' : World} {A : Option Addr} {l : List Nat} (h : KidR w A l) (hb : Below w.heap.size w w') : KidR w' A l := by
  intro hn
  obtain ⟨b, off, rfl, hlt, hc⟩ := h hn
  exact ⟨b, off, rfl, Nat.lt_of_lt_of_le hlt hb.size, fun i hi => (hb.cell (p := ⟨b, off + i, none⟩) hlt).trans (hc i hi)⟩

set_option maxRecDepth 100000 in
set_option maxHeartbeats 2000000 in
theorem index0_any (A : Option Addr) (c : Nat) (l : List Nat) (w : World) (hl : l.length ≤ 140737488355328) (hs : KidR w A l) :
    Calls Try.prog 47 #[.slice A l.length c, .int .u32 0] w fun e w' => ∃ i : Int, e = .returned (.int .i64 i) ∧ (0 ≤ i ↔ ∃ j, j < l.length ∧ l.getD j 0 = 0) ∧ w = w' := by
  obtain ⟨N, hN⟩ : ∃ N, N = l.length := ⟨_, rfl⟩
  rw [← hN] at hl ⊢
  have HS := Lib.hid (And.intro hs hN)
  clear hs hN
  go_enter Try.func47, Try.ntmps47
  go_wp2_with fail
  go_loopg [8] N (fun g i wr => ∃ k : Nat, k + g = N ∧ i = .int .i64 k ∧ (∀ j, j < k → l.getD j 0 ≠ 0) ∧ wr = w)
  case atStart => exact ⟨0, by omega, rfl, (fun j hj => absurd hj (by omega)), rfl⟩
  case round =>
    obtain ⟨k, hk, rfl, hall, rfl⟩ := hrel
    by_cases hlt : k < N
    · obtain ⟨b, off, rfl, _, hcl⟩ := HS.out.1 (by rw [← HS.out.2]; omega)
      have hcell := hcl k (by rw [← HS.out.2]; exact hlt)
      obtain ⟨x, hx⟩ : ∃ x, x = l.getD k 0 := ⟨_, rfl⟩
      rw [← hx] at hcell
      have HA := Lib.hid (And.intro hall hx)
      clear hall hx hcl
      by_cases hx0 : x = 0
      · subst hx0
        go_wp2_with fail
        go_ret
        exact ⟨_, rfl, ⟨fun _ => ⟨k, hlt, HA.out.2.symm⟩, fun _ => by omega⟩, rfl⟩
      · have hxb : ((0 : Int) == (x : Int)) = false := by simpa using (fun e : (0 : Int) = (x : Int) => hx0 (by omega))
        have HX := Lib.hid hx0
        have hx1 : ¬ ((0 : Int) = (x : Int)) := by omega
        have hx2 : ¬ (0 = x) := fun e => hx0 e.symm
        clear hx0
        go_wp2_with fail
        go_roundg (gk - 1)
        case measure => omega
        case rel =>
          refine ⟨k + 1, by omega, by go_num, fun j hj => ?_, rfl⟩
          rcases Nat.lt_succ_iff_lt_or_eq.1 hj with h | h
          · exact HA.out.1 j h
          · subst h; rw [← HA.out.2]; exact HX.out
    · have HA := Lib.hid hall
      clear hall
      go_wp2_with fail
      go_ret
      exact ⟨_, rfl, ⟨fun h => absurd h (by decide), fun ⟨j, hj, e⟩ => absurd e (HA.out j (by omega))⟩, rfl⟩
set_option maxRecDepth 100000 in
theorem contains0_any (A : Option Addr) (c : Nat) (l : List Nat) (r : Bool) (w : World) (hl : l.length ≤ 140737488355328) (hs : KidR w A l) (hr : r = true ↔ ∃ j, j < l.length ∧ l.getD j 0 = 0) :
    Calls Try.prog 36 #[.slice A l.length c, .int .u32 0] w fun e w' => e = .returned (.bool r) ∧ w = w' := by
  have HC := Lib.hid (index0_any A c l w hl hs)
  have HR := Lib.hid hr
  obtain ⟨N, hN⟩ : ∃ N, N = l.length := ⟨_, rfl⟩
  rw [← hN] at HC ⊢
  have HN := Lib.hid hN
  clear hs hr hN
  go_enter Try.func36, Try.ntmps36
  go_wp2_with fail
  refine HC.out.mono ?_
  rintro e w1 ⟨i, rfl, hi, rfl⟩
  have hd : decide (0 ≤ i) = r := by
    by_cases h : 0 ≤ i
    · rw [decide_eq_true h]; exact (HR.out.2 (by have := hi.1 h; rw [HN.out] at this; exact this)).symm
    · rw [decide_eq_false h]; exact (Bool.eq_false_iff.2 (fun e => h (hi.2 (by have := HR.out.1 e; rw [HN.out]; exact this)))).symm
  clear hi
  go_wp2_with fail
  go_ret
  exact ⟨by simp, rfl⟩
end Go.Proofs.Ytpggicaphejjfaa
