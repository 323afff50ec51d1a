/-
  SketchGrows: what one more hash does to a sketch.
-/
import Derived.Test.YtbkadfocjmpieaaSOne
import Derived.Test.YtbkadfocjmpieaaSHashI
set_option linter.unusedVariables false
namespace Go.Proofs.Ytbkadfocjmpieaa
open Go.RowKit

theorem ad_facts (s : ByteArray) (y : Nat) (hs : s.size ≤ 140737488355328) (hyy : y < 18446744073709551616) (hy : exOk s) :
    ∃ (T : ByteArray) (ia ra p : Nat), (∀ w, Calls Try.prog 9 #[.string s, .int .u64 y] w fun e w' => e = .returned (.tuple #[.string T, .int .i64 0]) ∧ Below w.heap.size w w') ∧
      T.size = s.size ∧ s.size ≤ 65536 ∧ (∀ k (h : k < T.size), T[k].toNat = (adL (sN s) ia ra).getD k 0) ∧ wrap64 (2 ^ p) = (T.size : Int) ∧ p ≤ 16 ∧ ia < s.size ∧
      (∀ w, Calls Try.prog 12 #[.string T] w fun e w' => e = .returned (.tuple #[.int .i64 (p : Nat), .int .i64 0]) ∧ w = w') := by
  have hA := fun w => add_yes s y w hyy hy
  have hsk := (Sk.of hy).ad (adAt (exP s) y) y
  have hsz : s.size = 2 ^ exP s := hy.1.2.2
  have h16 : exP s ≤ 16 := (Sk.of hy).h16
  have hiaL : adAt (exP s) y < s.size := by rw [hsz]; exact adAt_lt (by omega) hyy
  refine ⟨strOf (adL (sN s) (adAt (exP s) y) (rk (exP s) y)), adAt (exP s) y, rk (exP s) y, exP s, hA, ?_, ?_, ?_, ?_, h16, hiaL, ?_⟩
  · rw [size_strOf, hsk.len, hsz]
  · have h216 : 2 ^ exP s ≤ 2 ^ 16 := Nat.pow_le_pow_right (by decide) h16
    have e16 : (2 : Nat) ^ 16 = 65536 := by decide
    omega
  · intro k h
    rw [← sN_getD _ k h, hsk.sN]
  · have h216 : 2 ^ exP s ≤ 2 ^ 16 := Nat.pow_le_pow_right (by decide) h16
    have e16 : (2 : Nat) ^ 16 = 65536 := by decide
    have e1 : (strOf (adL (sN s) (adAt (exP s) y) (rk (exP s) y))).size = s.size := by rw [size_strOf, hsk.len, hsz]
    have e : ((2 : Int) ^ exP s) = (s.size : Int) := by rw [hsz, Int.natCast_pow]; rfl
    rw [e1, e]
    unfold wrap64
    omega
  · intro w
    have h1 := ex_yes hsk.ok
    rw [hsk.exP] at h1
    have := exp_any _ w (show (strOf (adL (sN s) (adAt (exP s) y) (rk (exP s) y))).size ≤ 140737488355328 by rw [size_strOf, hsk.len, ← hsz]; exact hs)
    rw [h1.1, h1.2] at this
    exact this
end Go.Proofs.Ytbkadfocjmpieaa
