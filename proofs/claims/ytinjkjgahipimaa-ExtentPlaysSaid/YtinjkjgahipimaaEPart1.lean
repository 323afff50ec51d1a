/-
  Are the blocks parted: the plain law of the spaces.
-/
import Derived.Test.YtinjkjgahipimaaEBack2
set_option linter.unusedVariables false
namespace Go.Proofs.Ytinjkjgahipimaa
open Go.RowKit

/-- a space lies whole behind the one ahead of it, with a gap -/
theorem spc_pair (l : List Nat) : ∀ d n, l.length - n ≤ d → (spc l n).Pairwise (fun x y => x.1 + x.2 < y.1)
  | 0, n, h => by rw [spc_end (by omega)]; exact List.Pairwise.nil
  | d + 1, n, h => by
    rcases Nat.lt_or_ge n l.length with hn | hn
    · rcases Nat.eq_zero_or_pos (fr l n) with h0 | h0
      · rw [spc_zero hn h0]; exact spc_pair l d (n + 1) (by omega)
      · rw [spc_pos hn h0]
        exact List.Pairwise.cons (fun y hy => by have := (spc_in hy).1; show n + fr l n < y.1; omega) (spc_pair l d _ (by omega))
    · rw [spc_end hn]; exact List.Pairwise.nil
theorem pair_at {r : Nat × Nat → Nat × Nat → Prop} {l : List (Nat × Nat)} (h : l.Pairwise r) {i j : Nat} (hij : i < j) (hj : j < l.length) : r (l.getD i (0, 0)) (l.getD j (0, 0)) := by
  have := List.pairwise_iff_getElem.1 h i j (by omega) hj hij
  simpa [List.getD, List.getElem?_eq_getElem hj, List.getElem?_eq_getElem (show i < l.length by omega)] using this
/-- every free block lies in a space -/
theorem spc_cover (l : List Nat) : ∀ d n, l.length - n ≤ d → ∀ p, n ≤ p → p < l.length → l.getD p 0 = 0 → ∃ x ∈ spc l n, x.1 ≤ p ∧ p < x.1 + x.2
  | 0, n, h, p, h1, h2, h3 => by omega
  | d + 1, n, h, p, h1, h2, h3 => by
    have hn : n < l.length := by omega
    rcases Nat.eq_zero_or_pos (fr l n) with h0 | h0
    · rw [spc_zero hn h0]
      have hne : p ≠ n := by
        rintro rfl
        have := fr_stop (l := l) (n := p) (by omega)
        rw [h0] at this
        exact this h3
      exact spc_cover l d (n + 1) (by omega) p (by omega) h2 h3
    · rw [spc_pos hn h0]
      rcases Nat.lt_or_ge p (n + fr l n) with hp | hp
      · exact ⟨_, List.mem_cons_self, h1, hp⟩
      · have hne : p ≠ n + fr l n := by
          rintro rfl
          exact fr_stop (by omega) h3
        obtain ⟨x, hx, hxx⟩ := spc_cover l d (n + fr l n + 1) (by omega) p (by omega) h2 h3
        exact ⟨x, List.mem_cons_of_mem _ hx, hxx⟩
theorem lenS_take_succ {l : List (Nat × Nat)} {i : Nat} (h : i < l.length) : lenS (l.take (i + 1)) = lenS (l.take i) + (l.getD i (0, 0)).2 := by
  rw [List.take_add_one, lenS_append, List.getElem?_eq_getElem h]
  simp [List.getD, List.getElem?_eq_getElem h, lenS]
theorem cov_take_succ {l : List (Nat × Nat)} {i : Nat} (h : i < l.length) (p : Nat) : cov (l.take (i + 1)) p = cov (l.take i) p + (if (l.getD i (0, 0)).1 ≤ p ∧ p < (l.getD i (0, 0)).1 + (l.getD i (0, 0)).2 then 1 else 0) := by
  rw [List.take_add_one, cov_append, List.getElem?_eq_getElem h]
  simp only [Option.toList, cov_cons, cov_nil, List.getD, List.getElem?_eq_getElem h, Option.getD_some]
  omega
/-- ahead of a space no space ahead holds its blocks -/
theorem spc_fresh {l : List Nat} {f i p : Nat} (hi : i < (spc l f).length) (hp : ((spc l f).getD i (0, 0)).1 ≤ p) : cov ((spc l f).take i) p = 0 := by
  unfold cov
  rw [List.filter_eq_nil_iff.2]
  · rfl
  · intro x hx
    rw [inX_iff]
    obtain ⟨j, hj, e⟩ := List.mem_iff_getElem.1 hx
    rw [List.length_take] at hj
    rw [List.getElem_take] at e
    have := pair_at (spc_pair l _ f (Nat.le_refl _)) (show j < i by omega) hi
    have e2 : (spc l f).getD j (0, 0) = x := by rw [List.getD, List.getElem?_eq_getElem (by omega)]; exact e
    rw [e2] at this
    omega
end Go.Proofs.Ytinjkjgahipimaa
