/-
  Is it its own: no; is all of it so.
-/
import Derived.Test.YtinjkjgahipimaaEOps
set_option linter.unusedVariables false
namespace Go.Proofs.Ytinjkjgahipimaa
open Go.RowKit

set_option maxRecDepth 100000 in
set_option maxHeartbeats 2000000 in
theorem own_no (h : Nat) (S : Nat → Prop) (s : St) (a b : Int) (w : World) (m : Mp w h S s) (hle : s.l.length ≤ 4096) (hp : ¬ OwnP s a b) :
    Calls Try.prog 40 #[.pointer (some ⟨h, 0, none⟩), .agg #[.int .i64 a, .int .i64 b]] w fun e w' => e = .returned (.bool false) ∧ Below w.heap.size w w' := by
  obtain ⟨A, c, V, hbk, _⟩ := m.own
  have hlt := hbk.lt
  have hbx := Blk.new w 39 #[.int .i64 a, .int .i64 b]
  have hk1 := hbk.alloc (.cells #[.int .i64 a, .int .i64 b] 39)
  have hB0 : Below w.heap.size w (w.alloc (.cells #[.int .i64 a, .int .i64 b] 39)) := (Below.refl _ w).alloc (Nat.le_refl _) _
  obtain ⟨f, l, op, wl⟩ := s
  unfold OwnP at hp
  dsimp only at hk1 hle hp
  obtain ⟨N, hN⟩ : ∃ N, N = l.length := ⟨_, rfl⟩
  rw [← hN] at hk1 hle hp
  have HX := Lib.hid (And.intro hbx (And.intro hk1 hB0))
  clear hbx hk1 hB0 hbk m hlt hN
  obtain ⟨w1, hw1⟩ : ∃ w1, w1 = w.alloc (.cells #[.int .i64 a, .int .i64 b] 39) := ⟨_, rfl⟩
  obtain ⟨bx, hbx⟩ : ∃ bx, bx = w.heap.size := ⟨_, rfl⟩
  rw [← hw1, ← hbx] at HX
  have HB : Hid (Below w.heap.size w w1) := by rw [← hbx]; exact HX.out.2.2
  have HW := Lib.hid (And.intro hw1 hbx)
  clear hw1 hbx
  have x0 := HX.out.1.cell 0
  have x1 := HX.out.1.cell 1
  have c0 := HX.out.2.1.cell 0
  have c1 := HX.out.2.1.cell 1
  simp at x0 x1 c0 c1
  by_cases p1 : 1 ≤ b
  · by_cases p2 : (f : Int) ≤ a
    · by_cases p3 : a < (N : Int)
      · have s1 : IntKind.i64.wrap ((N : Int) - a) = (N : Int) - a := IntWalk.i64_in _ (by omega)
        have d : decide (b ≤ (N : Int) - a) = false := decide_eq_false (by omega)
        clear hp
        go_enter Try.func40, Try.ntmps40
        go_upto_region 1 with fail
        rw [← HW.out.1, ← HW.out.2]
        go_quiet (fail)
        go_wp2_with fail
        go_ret
        exact ⟨rfl, below_drewN HB.out _⟩
      · have d : decide (a < (N : Int)) = false := decide_eq_false p3
        clear hp p3
        go_enter Try.func40, Try.ntmps40
        go_upto_region 1 with fail
        rw [← HW.out.1, ← HW.out.2]
        go_quiet (fail)
        go_wp2_with fail
        go_ret
        exact ⟨rfl, below_drewN HB.out _⟩
    · have d : decide ((f : Int) ≤ a) = false := decide_eq_false p2
      clear hp p2
      go_enter Try.func40, Try.ntmps40
      go_upto_region 1 with fail
      rw [← HW.out.1, ← HW.out.2]
      go_quiet (fail)
      go_wp2_with fail
      go_ret
      exact ⟨rfl, below_drewN HB.out _⟩
  · have d : decide (1 ≤ b) = false := decide_eq_false p1
    clear hp p1
    go_enter Try.func40, Try.ntmps40
    go_upto_region 1 with fail
    rw [← HW.out.1, ← HW.out.2]
    go_quiet (fail)
    go_wp2_with fail
    go_ret
    exact ⟨rfl, below_drewN HB.out _⟩

theorem unlike_no (x v bx : Nat) (w : World) (hc : w.cell? ⟨bx, 0, none⟩ = some (.int .u8 v)) (h : x = v) : Calls Try.prog 54 #[.int .u8 x, .pointer (some ⟨bx, 0, none⟩)] w fun e w' => e = .returned (.bool false) ∧ w = w' := by
  have d : ((x : Int) != (v : Int)) = false := by simp; omega
  clear h
  go_enter Try.func54, Try.ntmps54
  go_wp2_with fail
  go_ret
  exact ⟨rfl, rfl⟩
theorem unlike_yes (x v bx : Nat) (w : World) (hc : w.cell? ⟨bx, 0, none⟩ = some (.int .u8 v)) (h : x ≠ v) : Calls Try.prog 54 #[.int .u8 x, .pointer (some ⟨bx, 0, none⟩)] w fun e w' => e = .returned (.bool true) ∧ w = w' := by
  have d : ((x : Int) != (v : Int)) = true := by simp; omega
  clear h
  go_enter Try.func54, Try.ntmps54
  go_wp2_with fail
  go_ret
  exact ⟨rfl, rfl⟩
/-- a slice of states that reads as a list -/
def SlS (w : World) (A : Option Addr) (l : List Nat) : Prop := ∀ i, i < l.length → ∃ a, A = some a ∧ w.cell? (a.add i) = some (.int .u8 (l.getD i 0 : Nat))
/-- where is the first that is not so; -1: nowhere -/
def IdxP (l : List Nat) (v : Nat) (i : Int) : Prop := ((∀ j, j < l.length → l.getD j 0 = v) ∧ i = -1) ∨ (¬ (∀ j, j < l.length → l.getD j 0 = v) ∧ 0 ≤ i)
def IdxR (l : List Nat) (v : Nat) (w : World) (e : Ending) (w' : World) : Prop := ∃ i : Int, e = .returned (.int .i64 i) ∧ IdxP l v i ∧ w = w'

set_option maxRecDepth 100000 in
set_option maxHeartbeats 2000000 in
theorem index_any (A : Option Addr) (c v bx : Nat) (l : List Nat) (w : World) (hl : l.length ≤ 4096) (hs : SlS w A l) (hc : w.cell? ⟨bx, 0, none⟩ = some (.int .u8 v)) :
    Calls Try.prog 58 #[.slice A l.length c, .func (.func 54) #[] #[.pointer (some ⟨bx, 0, none⟩)]] w (IdxR l v w) := by
  obtain ⟨N, hN⟩ : ∃ N, N = l.length := ⟨_, rfl⟩
  rw [← hN] at hl ⊢
  have HS := Lib.hid (And.intro hs (And.intro hc hN))
  clear hs hc hN
  go_enter Try.func58, Try.ntmps58
  go_wp2_with fail
  go_loopg [8] N (fun g i wr => ∃ k : Nat, k + g = N ∧ i = .int .i64 k ∧ (∀ j, j < k → l.getD j 0 = v) ∧ wr = w)
  case atStart => exact ⟨0, by omega, rfl, (fun j hj => absurd hj (by omega)), rfl⟩
  case round =>
    obtain ⟨k, hk, rfl, hall, rfl⟩ := hrel
    by_cases hlt : k < N
    · obtain ⟨a, rfl, hcell⟩ := HS.out.1 k (by rw [← HS.out.2.2]; exact hlt)
      obtain ⟨x, hx⟩ : ∃ x, x = l.getD k 0 := ⟨_, rfl⟩
      rw [← hx] at hcell
      have HA := Lib.hid (And.intro hall hx)
      clear hall hx
      by_cases hxv : x = v
      · have HC := Lib.hid (unlike_no x v bx wr HS.out.2.1 hxv)
        have HV := Lib.hid hxv
        clear hxv
        go_wp2_with fail
        refine HC.out.mono ?_
        rintro e w' ⟨rfl, rfl⟩
        go_wp2_with fail
        go_roundg (gk - 1)
        case measure => omega
        case rel =>
          refine ⟨k + 1, by omega, by go_num, fun j hj => ?_, rfl⟩
          rcases Nat.lt_succ_iff_lt_or_eq.1 hj with h | h
          · exact HA.out.1 j h
          · subst h; rw [← HA.out.2]; exact HV.out
      · have HC := Lib.hid (unlike_yes x v bx wr HS.out.2.1 hxv)
        have HV := Lib.hid hxv
        clear hxv
        go_wp2_with fail
        refine HC.out.mono ?_
        rintro e w' ⟨rfl, rfl⟩
        go_wp2_with fail
        go_ret
        exact ⟨_, rfl, .inr ⟨fun hh => HV.out (by rw [HA.out.2]; exact hh k (by rw [← HS.out.2.2]; exact hlt)), by omega⟩, rfl⟩
    · have HA := Lib.hid hall
      clear hall
      go_wp2_with fail
      go_ret
      exact ⟨_, rfl, .inl ⟨fun j hj => HA.out j (by have := HS.out.2.2; omega), rfl⟩, rfl⟩

def ConR (l : List Nat) (v : Nat) (w : World) (e : Ending) (w' : World) : Prop := ((∀ j, j < l.length → l.getD j 0 = v) → e = .returned (.bool false)) ∧ (¬ (∀ j, j < l.length → l.getD j 0 = v) → e = .returned (.bool true)) ∧ w = w'
set_option maxRecDepth 100000 in
theorem contains_any (A : Option Addr) (c v bx : Nat) (l : List Nat) (w : World) (hl : l.length ≤ 4096) (hs : SlS w A l) (hc : w.cell? ⟨bx, 0, none⟩ = some (.int .u8 v)) :
    Calls Try.prog 53 #[.slice A l.length c, .func (.func 54) #[] #[.pointer (some ⟨bx, 0, none⟩)]] w (ConR l v w) := by
  have HC := Lib.hid (index_any A c v bx l w hl hs hc)
  clear hs hc
  go_enter Try.func53, Try.ntmps53
  go_wp2_with fail
  refine HC.out.mono ?_
  rintro e w' ⟨i, rfl, hp, rfl⟩
  rcases hp with ⟨h1, rfl⟩ | ⟨h1, h2⟩
  · have H1 := Lib.hid h1
    clear h1
    go_wp2_with fail
    go_ret
    exact ⟨fun _ => rfl, fun h => absurd H1.out h, rfl⟩
  · have H1 := Lib.hid h1
    clear h1
    go_wp2_with fail
    go_ret
    exact ⟨fun h => absurd h H1.out, fun _ => rfl, rfl⟩
end Go.Proofs.Ytinjkjgahipimaa
