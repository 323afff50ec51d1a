/-
  Calls on no map; small calls.
-/
import Derived.Test.YtinjkjgahipimaaEAlloc
set_option linter.unusedVariables false
namespace Go.Proofs.Ytinjkjgahipimaa
open Go.RowKit

theorem take_nil (a b : Int) (w : World) : Calls Try.prog 22 #[.pointer none, .agg #[.int .i64 a, .int .i64 b]] w fun e w' => e = .returned (.int .i64 2) ∧ Below w.heap.size w w' := by
  have hb : Hid (Below w.heap.size w (w.alloc (.cells #[.int .i64 a, .int .i64 b] 39))) := (Below.refl _ _).alloc (Nat.le_refl _) _
  go_enter Try.func22, Try.ntmps22
  go_wp2_with fail
  go_ret
  exact ⟨rfl, hb.out⟩
theorem free_nil (a b : Int) (w : World) : Calls Try.prog 18 #[.pointer none, .agg #[.int .i64 a, .int .i64 b]] w fun e w' => e = .returned (.int .i64 2) ∧ Below w.heap.size w w' := by
  have hb : Hid (Below w.heap.size w (w.alloc (.cells #[.int .i64 a, .int .i64 b] 39))) := (Below.refl _ _).alloc (Nat.le_refl _) _
  go_enter Try.func18, Try.ntmps18
  go_wp2_with fail
  go_ret
  exact ⟨rfl, hb.out⟩
theorem begin_nil (w : World) : Calls Try.prog 24 #[.pointer none] w fun e w' => e = .returned (.int .i64 2) ∧ w = w' := by
  go_enter Try.func24, Try.ntmps24
  go_wp2_with fail
  go_ret
  exact ⟨rfl, rfl⟩
theorem ends_nil (w : World) : Calls Try.prog 43 #[.pointer none] w fun e w' => e = .returned (.int .i64 2) ∧ w = w' := by
  go_enter Try.func43, Try.ntmps43
  go_wp2_with fail
  go_ret
  exact ⟨rfl, rfl⟩
theorem commit_nil (w : World) : Calls Try.prog 27 #[.pointer none] w fun e w' => e = .returned (.int .i64 2) ∧ w = w' := by
  have HE := Lib.hid (ends_nil w)
  go_enter Try.func27, Try.ntmps27
  go_wp2_with fail
  refine HE.out.mono ?_
  rintro e w' ⟨rfl, rfl⟩
  go_wp2_with fail
  go_ret
  exact ⟨rfl, rfl⟩
theorem abort_nil (w : World) : Calls Try.prog 26 #[.pointer none] w fun e w' => e = .returned (.int .i64 2) ∧ w = w' := by
  have HE := Lib.hid (ends_nil w)
  go_enter Try.func26, Try.ntmps26
  go_wp2_with fail
  refine HE.out.mono ?_
  rintro e w' ⟨rfl, rfl⟩
  go_wp2_with fail
  go_ret
  exact ⟨rfl, rfl⟩
theorem twin_nil (w : World) : Calls Try.prog 29 #[.pointer none] w fun e w' => e = .returned (.pointer none) ∧ w = w' := by
  go_enter Try.func29, Try.ntmps29
  go_wp2_with fail
  go_ret
  exact ⟨rfl, rfl⟩
theorem taken_nil (n : Int) (w : World) : Calls Try.prog 32 #[.pointer none, .int .i64 n] w fun e w' => e = .returned (.bool false) ∧ w = w' := by
  go_enter Try.func32, Try.ntmps32
  go_wp2_with fail
  go_ret
  exact ⟨rfl, rfl⟩
/-- is a block the map's, and not free -/
def TakP (s : St) (n : Int) : Bool := decide ((s.f : Int) ≤ n) && (decide (n < (s.l.length : Int)) && ((s.l.getD n.toNat 0 : Int) != 0))
set_option maxRecDepth 100000 in
set_option maxHeartbeats 1000000 in
theorem taken_any (h : Nat) (S : Nat → Prop) (s : St) (n : Int) (w : World) (m : Mp w h S s) (hle : s.l.length ≤ 4096) : Calls Try.prog 32 #[.pointer (some ⟨h, 0, none⟩), .int .i64 n] w fun e w' => e = .returned (.bool (TakP s n)) ∧ w = w' := by
  obtain ⟨f, l, op, wl⟩ := s
  obtain ⟨A, c, V, hb, ho⟩ := m.own
  dsimp only at hb ho hle
  have c0 := hb.cell 0
  have c1 := hb.cell 1
  simp at c0 c1
  obtain ⟨N, hN⟩ : ∃ N, N = l.length := ⟨_, rfl⟩
  have hrow := fun k (hk : k < l.length) => row_u8 ho hk
  rw [← hN] at hle c1 hrow
  have HR := Lib.hid (And.intro hrow hN)
  clear hb ho m hrow
  by_cases h1 : (f : Int) ≤ n
  · by_cases h2 : n < (N : Int)
    · obtain ⟨k, rfl⟩ : ∃ k : Nat, n = (k : Int) := ⟨n.toNat, by omega⟩
      obtain ⟨a, rfl, hc⟩ := HR.out.1 k (by omega)
      have hT : TakP ⟨f, l, op, wl⟩ (k : Int) = ((l.getD k 0 : Int) != 0) := by
        unfold TakP
        rw [decide_eq_true h1, decide_eq_true (show (k : Int) < (l.length : Int) by omega)]; simp
      obtain ⟨v, hv⟩ : ∃ v, v = l.getD k 0 := ⟨_, rfl⟩
      rw [← hv] at hc hT
      have HT := Lib.hid hT
      have hk : k < N := by omega
      clear hT hv hN
      go_enter Try.func32, Try.ntmps32
      go_wp2_with fail
      go_ret
      rw [HT.out]
      exact ⟨rfl, rfl⟩
    · have hd : decide (n < (N : Int)) = false := decide_eq_false h2
      have hT : Hid (TakP ⟨f, l, op, wl⟩ n = false) := by
        show TakP ⟨f, l, op, wl⟩ n = false
        unfold TakP
        rw [decide_eq_false (show ¬ n < (l.length : Int) by omega)]; simp
      clear h2 hN
      go_enter Try.func32, Try.ntmps32
      go_wp2_with fail
      go_ret
      rw [hT.out]
      exact ⟨rfl, rfl⟩
  · have hd : decide ((f : Int) ≤ n) = false := decide_eq_false h1
    have hT : Hid (TakP ⟨f, l, op, wl⟩ n = false) := by
      show TakP ⟨f, l, op, wl⟩ n = false
      unfold TakP
      rw [decide_eq_false h1]; simp
    clear h1 hN
    go_enter Try.func32, Try.ntmps32
    go_wp2_with fail
    go_ret
    rw [hT.out]
    exact ⟨rfl, rfl⟩

theorem below_four (w : World) (o1 o2 o3 o4 : Obj) : Below w.heap.size w ((((w.alloc o1).alloc o2).alloc o3).alloc o4) :=
  ((((Below.refl _ w).alloc (Nat.le_refl _) _).alloc (by simp) _).alloc (by simp; omega) _).alloc (by simp; omega) _
set_option maxRecDepth 100000 in
set_option maxHeartbeats 1000000 in
theorem alloc_nil (n : Int) (w : World) : Calls Try.prog 17 #[.pointer none, .int .i64 n] w fun e w' => e = .returned (.tuple #[.agg #[.int .i64 0, .int .i64 0], .int .i64 2]) ∧ Below w.heap.size w w' := by
  go_enter Try.func17, Try.ntmps17
  go_wp2_with fail
  exact bodyPost_ret (v := .tuple #[.agg #[.int .i64 0, .int .i64 0], .int .i64 2]) (by simp [results, Try.results17, go_sem]) rfl ⟨rfl, below_four _ _ _ _ _⟩
set_option maxRecDepth 100000 in
set_option maxHeartbeats 1000000 in
theorem alloc_arg (h : Nat) (n : Int) (w : World) (hn : n < 1) : Calls Try.prog 17 #[.pointer (some ⟨h, 0, none⟩), .int .i64 n] w fun e w' => e = .returned (.tuple #[.agg #[.int .i64 0, .int .i64 0], .int .i64 1]) ∧ Below w.heap.size w w' := by
  go_enter Try.func17, Try.ntmps17
  go_wp2_with fail
  exact bodyPost_ret (v := .tuple #[.agg #[.int .i64 0, .int .i64 0], .int .i64 1]) (by simp [results, Try.results17, go_sem]) rfl ⟨rfl, below_four _ _ _ _ _⟩
end Go.Proofs.Ytinjkjgahipimaa
