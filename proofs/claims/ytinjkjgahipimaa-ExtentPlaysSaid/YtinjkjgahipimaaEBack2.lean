/-
  Giving back what is owned, one by one.
-/
import Derived.Test.YtinjkjgahipimaaEBack
set_option linter.unusedVariables false
namespace Go.Proofs.Ytinjkjgahipimaa
open Go.RowKit

/-- one is given back -/
theorem free_at (h : Nat) (S : Nat → Prop) (s : St) (own : List (Nat × Nat)) (k : Nat) (w : World) (m : Mp w h S s) (c : Cov s own) (hk : k < own.length) :
    Calls Try.prog 18 #[.pointer (some ⟨h, 0, none⟩), .agg #[.int .i64 (own.getD k (0, 0)).1, .int .i64 (own.getD k (0, 0)).2]] w fun e w' => e = .returned (.int .i64 0) ∧
      ∃ s', Mp w' h S s' ∧ Cov s' (own.take k ++ own.drop (k + 1)) ∧ s'.f = s.f ∧ s'.l.length = s.l.length ∧ Only S w w' := by
  have hx : own.getD k (0, 0) ∈ own := by rw [List.getD, List.getElem?_eq_getElem hk]; exact List.getElem_mem hk
  obtain ⟨h1, h2⟩ := c.owned hx
  refine (free_ok h S s _ _ w m c.ok h1 h2).mono ?_
  rintro e w' ⟨rfl, hm, ho⟩
  rw [c.op] at hm
  exact ⟨rfl, _, hm, c.free hk, rfl, St.put_length _ _ _ _, ho⟩
theorem free_front (h : Nat) (S : Nat → Prop) (s : St) (own : List (Nat × Nat)) (j : Nat) (w : World) (m : Mp w h S s) (c : Cov s (own.drop j)) (hj : j < own.length) :
    Calls Try.prog 18 #[.pointer (some ⟨h, 0, none⟩), .agg #[.int .i64 (own.getD j (0, 0)).1, .int .i64 (own.getD j (0, 0)).2]] w fun e w' => e = .returned (.int .i64 0) ∧
      ∃ s', Mp w' h S s' ∧ Cov s' (own.drop (j + 1)) ∧ s'.f = s.f ∧ s'.l.length = s.l.length ∧ Only S w w' := by
  have := free_at h S s (own.drop j) 0 w m c (by rw [List.length_drop]; omega)
  have e : (own.drop j).getD 0 (0, 0) = own.getD j (0, 0) := by simp [List.getD, List.getElem?_drop]
  have e2 : (own.drop j).take 0 ++ (own.drop j).drop (0 + 1) = own.drop (j + 1) := by simp [List.drop_drop]
  rw [e, e2] at this
  exact this
theorem free_last (h : Nat) (S : Nat → Prop) (s : St) (own : List (Nat × Nat)) (j : Nat) (w : World) (m : Mp w h S s) (c : Cov s (own.take (j + 1))) (hj : j < own.length) :
    Calls Try.prog 18 #[.pointer (some ⟨h, 0, none⟩), .agg #[.int .i64 (own.getD j (0, 0)).1, .int .i64 (own.getD j (0, 0)).2]] w fun e w' => e = .returned (.int .i64 0) ∧
      ∃ s', Mp w' h S s' ∧ Cov s' (own.take j) ∧ s'.f = s.f ∧ s'.l.length = s.l.length ∧ Only S w w' := by
  have := free_at h S s (own.take (j + 1)) j w m c (by rw [List.length_take]; omega)
  have e : (own.take (j + 1)).getD j (0, 0) = own.getD j (0, 0) := by simp [List.getD]
  have e2 : (own.take (j + 1)).take j ++ (own.take (j + 1)).drop (j + 1) = own.take j := by
    rw [List.take_take, Nat.min_eq_left (by omega), List.drop_eq_nil_of_le (by rw [List.length_take]; omega), List.append_nil]
  rw [e, e2] at this
  exact this
/-- all of an empty map is taken: or there is nothing -/
theorem take_end (h : Nat) (S : Nat → Prop) (s : St) (f N : Nat) (w : World) (m : Mp w h S s) (c : Cov s []) (hf : s.f = f) (hl : s.l.length = N) (hfN : f ≤ N) :
    Calls Try.prog 22 #[.pointer (some ⟨h, 0, none⟩), .agg #[.int .i64 f, .int .i64 (max ((N : Int) - f) 1)]] w fun e w' => e = .returned (.int .i64 (if N = f then 1 else 0)) ∧ Only S w w' := by
  by_cases hN : N = f
  · rw [if_pos hN]
    have e : max ((N : Int) - f) 1 = 1 := by omega
    rw [e]
    refine (take_arg h S s f 1 w m c.ok ?_).mono (fun e w' h => ⟨h.1, Only.of_below h.2⟩)
    rintro ⟨_, _, h3, h4⟩
    omega
  · rw [if_neg hN]
    have e : max ((N : Int) - f) 1 = ((N - f : Nat) : Int) := by omega
    rw [e]
    exact (take_ok h S s f (N - f) w m c.ok ⟨by omega, by omega, by omega, by omega⟩ (c.all _ _)).mono (fun e w' h => ⟨h.1, h.2.2⟩)
theorem emptyTake_any (f N : Nat) (w : World) (hf : f ≤ N) (hN : N ≤ 4096) : Calls Try.prog 23 #[.int .i64 f, .int .i64 N] w fun e w' => e = .returned (.int .i64 (if N = f then 1 else 0)) ∧ w' = w := by
  go_enter Try.func23, Try.ntmps23
  by_cases h : N = f
  · rw [if_pos h]
    subst h
    go_wp2_with fail
    exact ⟨rfl, _, by simp [results, Try.results23, go_sem], rfl, rfl⟩
  · rw [if_neg h]
    have h1 : decide ((N : Int) = (f : Int)) = false := by simp; omega
    go_wp2_with fail
    exact ⟨rfl, _, by simp [results, Try.results23, go_sem], rfl, rfl⟩
theorem cell_lt {w : World} {g k : Nat} {v : Value} (h : w.cell? ⟨g, k, none⟩ = some v) : g < w.heap.size := by
  rcases Nat.lt_or_ge g w.heap.size with h1 | h1
  · exact h1
  · exfalso
    unfold World.cell? at h
    rw [Array.getElem?_eq_none (by simpa using h1)] at h
    simp at h
end Go.Proofs.Ytinjkjgahipimaa
