/-
  A row of marks.
-/
import Derived.Test.YtinjkjgahipimaaEPart1
set_option linter.unusedVariables false
namespace Go.Proofs.Ytinjkjgahipimaa
open Go.RowKit

/-- a row of N marks -/
def Mk (w : World) (B go N : Nat) (φ : Nat → Nat) : Prop := w.ownsRow B 3 1 (.slice (some ⟨go, 0, none⟩) N N) N (i64s ((List.range N).map φ)) ∧ B ≤ go
section
variable {w w' : World} {B go N : Nat} {φ : Nat → Nat}
theorem Mk.cell (m : Mk w B go N φ) {k : Nat} (hk : k < N) : w.cell? ⟨go, k, none⟩ = some (.int .i64 (φ k : Nat)) := by
  have h := (m.1.cellAt k (by omega)).trans (i64s_get (xs := (List.range N).map φ) (by simpa using hk))
  simpa [List.getD, hk] using h
theorem Mk.frozen (m : Mk w B go N φ) (k : Nat) : w.frozen? ⟨go, k, none⟩ = false := m.1.frozenAt k
theorem Mk.set (m : Mk w B go N φ) (k y : Nat) : Mk (w.setCell ⟨go, k, none⟩ (.int .i64 y)) B go N (fun p => if p = k then y else φ p) := by
  refine ⟨?_, m.2⟩
  have hst := (m.1.stored k (.int .i64 y)).1
  rw [i64s_set] at hst
  have e : ((List.range N).map φ).set k y = (List.range N).map (fun p => if p = k then y else φ p) := by
    apply List.ext_getElem (by simp)
    intro i h1 h2
    simp only [List.length_set, List.length_map, List.length_range] at h1
    rw [List.getElem_set]
    simp only [List.getElem_map, List.getElem_range]
    by_cases hk : k = i
    · subst hk; simp
    · rw [if_neg hk, if_neg (fun e => hk e.symm)]
  rw [e] at hst
  exact hst
theorem Mk.below (m : Mk w B go N φ) (hb : Below w.heap.size w w') : Mk w' B go N φ := ⟨own_only m.1 (F := fun _ => False) (Only.of_below hb) (fun _ _ => id), m.2⟩
theorem Mk.drew (m : Mk w B go N φ) : Mk w.drew B go N φ := m.below (Below.refl _ w).drew
end
theorem cov_le_take {l : List (Nat × Nat)} {i : Nat} (h : i < l.length) {p : Nat} (h1 : ∀ p, cov l p ≤ 1) (hp : (l.getD i (0, 0)).1 ≤ p) (hp2 : p < (l.getD i (0, 0)).1 + (l.getD i (0, 0)).2) : cov (l.take i) p = 0 := by
  have e := cov_take_succ h p
  rw [if_pos ⟨hp, hp2⟩] at e
  have e2 : cov l p = cov (l.take (i + 1)) p + cov (l.drop (i + 1)) p := by rw [← cov_append, List.take_append_drop]
  have := h1 p
  omega
end Go.Proofs.Ytinjkjgahipimaa
