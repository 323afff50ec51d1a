/-
  The reference's extent of a map: is it its own, let it be so.
-/
import Derived.Test.YtinjkjgahipimaaELst
set_option linter.unusedVariables false
namespace Go.Proofs.Ytinjkjgahipimaa
open Go.RowKit

set_option maxRecDepth 100000 in
set_option maxHeartbeats 2000000 in
theorem rset_any (h : Nat) (S : Nat → Prop) (s : St) (a b v : Nat) (w : World) (m : Rm w h S s) (hab : a + b ≤ s.l.length) (hle : s.l.length ≤ 4096) :
    Calls Try.prog 56 #[.pointer (some ⟨h, 0, none⟩), .agg #[.int .i64 a, .int .i64 b], .int .i64 v] w fun e w' => e = .returned (.tuple #[]) ∧ Rm w' h S (s.put a b v) ∧ Only S w w' := by
  have hbx := Blk.new w 39 #[.int .i64 a, .int .i64 b]
  have hS := m.lt
  have hm1 : Rm (w.alloc (.cells #[.int .i64 a, .int .i64 b] 39)) h S (s.put a 0 v) := by
    have e : s.put a 0 v = s := by unfold St.put; rw [setR_zero]
    rw [e]
    exact m.below ((Below.refl _ w).alloc (Nat.le_refl _) _)
  have ho1 : Only S w (w.alloc (.cells #[.int .i64 a, .int .i64 b] 39)) := (Only.refl S w).alloc _
  have H0 := Lib.hid (And.intro hbx (And.intro hm1 (And.intro ho1 hS)))
  obtain ⟨N, hN⟩ : ∃ N, N = s.l.length := ⟨_, rfl⟩
  rw [← hN] at hab hle
  have HN := Lib.hid hN
  clear hbx hm1 ho1 m hS hN
  go_enter Try.func56, Try.ntmps56
  go_upto_region 1 with fail
  obtain ⟨w1, hw1⟩ : ∃ w1, w1 = w.alloc (.cells #[.int .i64 a, .int .i64 b] 39) := ⟨_, rfl⟩
  obtain ⟨bx, hbx⟩ : ∃ bx, bx = w.heap.size := ⟨_, rfl⟩
  rw [← hw1, ← hbx] at H0
  rw [← hw1, ← hbx]
  have HBS : Hid (¬ S bx) := fun hs => by have := H0.out.2.2.2 bx hs; omega
  clear hw1 hbx
  go_wp2_with fail
  go_loopg [6] b (fun g i wr => ∃ k : Nat, k + g = b ∧ i = .int .i64 k ∧ Rm wr h S (s.put a k v) ∧ Only S w wr ∧ Blk wr bx 39 #[.int .i64 a, .int .i64 b])
  case atStart => exact ⟨0, by omega, rfl, H0.out.2.1, H0.out.2.2.1, H0.out.1⟩
  case round =>
    obtain ⟨k, hk, rfl, hm, ho, hb⟩ := hrel
    by_cases hlt : k < b
    · have hpl : (s.put a k v).l.length = N := by show (setR s.l a k v).length = N; rw [length_setR]; exact HN.out.symm
      obtain ⟨go, c, V, hbk, hcell, hfz, hSg, hset, hcl⟩ := hm.set_ (k := a + k) (by rw [hpl]; omega)
      rw [hpl] at hbk hcl
      have c1 := hbk.cell 2
      have x0 := hb.cell 0
      have x1 := hb.cell 1
      simp at c1 x0 x1
      have hst := hset v
      have hsk : ({ s.put a k v with l := (s.put a k v).l.set (a + k) v } : St) = s.put a (k + 1) v := by
        show (⟨s.f, (setR s.l a k v).set (a + k) v, s.op, s.wl⟩ : St) = _
        rw [setR_step (by rw [← HN.out]; omega)]; rfl
      rw [hsk] at hst
      obtain ⟨q, hq⟩ : ∃ q, q = a + k := ⟨_, rfl⟩
      rw [← hq] at hst hcell hfz
      have hqi : (a : Int) + (k : Int) = (q : Int) := by omega
      have hqw : IntKind.i64.wrap ((a : Int) + (k : Int)) = (q : Int) := by rw [hqi]; exact IntWalk.i64_in _ (by omega)
      have hqN : q < N := by omega
      have hqN2 : (q : Int) < (N : Int) := by omega
      obtain ⟨u, hu⟩ : ∃ u, u = (s.put a k v).l.getD q 0 := ⟨_, rfl⟩
      have hcell2 : wr.cell? ⟨go, q, none⟩ = some (.int .i64 (u : Nat)) := by rw [hu, hq]; rw [hq] at hcell; exact hcell
      have hbx2 : Blk (wr.setCell ⟨go, q, none⟩ (.int .i64 v)) bx 39 #[.int .i64 a, .int .i64 b] := hb.far (p := ⟨go, q, none⟩) (fun e => HBS.out (by have e2 : bx = go := e; rw [e2]; exact hSg)) _
      have HX := Lib.hid (And.intro hst (And.intro (ho.setCell (p := ⟨go, q, none⟩) (.inl hSg) (.int .i64 v)) hbx2))
      clear hst hsk hset hm ho hb hbk hu hcell hq hbx2 hpl
      go_wp2_with fail
      go_region
      all_goals go_wp2_with fail
      all_goals go_roundg (gk - 1)
      all_goals first | omega | exact ⟨k + 1, by omega, by go_num, HX.out.1.drewN 1, HX.out.2.1.drew, HX.out.2.2.drew⟩
    · obtain rfl : k = b := by omega
      have x1 := hb.cell 1
      simp at x1
      have HX := Lib.hid (And.intro hm ho)
      clear hm ho hb
      go_wp2_with fail
      go_end0
      exact ⟨rfl, HX.out.1, HX.out.2⟩

set_option maxRecDepth 100000 in
set_option maxHeartbeats 2000000 in
theorem rown_yes (h : Nat) (S : Nat → Prop) (s : St) (a b : Int) (w : World) (m : Rm w h S s) (hle : s.l.length ≤ 4096) (hp : OwnP s a b) :
    Calls Try.prog 57 #[.pointer (some ⟨h, 0, none⟩), .agg #[.int .i64 a, .int .i64 b]] w fun e w' => e = .returned (.bool true) ∧ Below w.heap.size w w' := by
  obtain ⟨A, c, V, hbk, _⟩ := m.own
  have hlt := hbk.lt
  have hbx := Blk.new w 39 #[.int .i64 a, .int .i64 b]
  have hk1 := hbk.alloc (.cells #[.int .i64 a, .int .i64 b] 39)
  have hB0 : Below w.heap.size w (w.alloc (.cells #[.int .i64 a, .int .i64 b] 39)) := (Below.refl _ w).alloc (Nat.le_refl _) _
  obtain ⟨f, l, op, wl⟩ := s
  obtain ⟨p1, p2, p3, p4⟩ := hp
  dsimp only at hk1 hle p2 p3 p4
  obtain ⟨N, hN⟩ : ∃ N, N = l.length := ⟨_, rfl⟩
  rw [← hN] at hk1 hle p3 p4
  have HX := Lib.hid (And.intro hbx (And.intro hk1 hB0))
  clear hbx hk1 hB0 hbk m hlt hN
  have s1 : IntKind.i64.wrap ((N : Int) - a) = (N : Int) - a := IntWalk.i64_in _ (by omega)
  go_enter Try.func57, Try.ntmps57
  go_upto_region 1 with fail
  obtain ⟨w1, hw1⟩ : ∃ w1, w1 = w.alloc (.cells #[.int .i64 a, .int .i64 b] 39) := ⟨_, rfl⟩
  obtain ⟨bx, hbx⟩ : ∃ bx, bx = w.heap.size := ⟨_, rfl⟩
  rw [← hw1, ← hbx] at HX
  rw [← hw1, ← hbx]
  have HB : Hid (Below w.heap.size w w1) := by rw [← hbx]; exact HX.out.2.2
  clear hw1 hbx
  have x0 := HX.out.1.cell 0
  have x1 := HX.out.1.cell 1
  have c0 := HX.out.2.1.cell 0
  have c1 := HX.out.2.1.cell 1
  simp at x0 x1 c0 c1
  go_quiet (fail)
  go_wp2_with fail
  go_ret
  exact ⟨rfl, below_drewN HB.out _⟩
set_option maxRecDepth 100000 in
set_option maxHeartbeats 2000000 in
theorem rown_no (h : Nat) (S : Nat → Prop) (s : St) (a b : Int) (w : World) (m : Rm w h S s) (hle : s.l.length ≤ 4096) (hp : ¬ OwnP s a b) :
    Calls Try.prog 57 #[.pointer (some ⟨h, 0, none⟩), .agg #[.int .i64 a, .int .i64 b]] w fun e w' => e = .returned (.bool false) ∧ Below w.heap.size w w' := by
  obtain ⟨A, c, V, hbk, _⟩ := m.own
  have hlt := hbk.lt
  have hbx := Blk.new w 39 #[.int .i64 a, .int .i64 b]
  have hk1 := hbk.alloc (.cells #[.int .i64 a, .int .i64 b] 39)
  have hB0 : Below w.heap.size w (w.alloc (.cells #[.int .i64 a, .int .i64 b] 39)) := (Below.refl _ w).alloc (Nat.le_refl _) _
  obtain ⟨f, l, op, wl⟩ := s
  unfold OwnP at hp
  dsimp only at hk1 hle hp
  obtain ⟨N, hN⟩ : ∃ N, N = l.length := ⟨_, rfl⟩
  rw [← hN] at hk1 hle hp
  have HX := Lib.hid (And.intro hbx (And.intro hk1 hB0))
  clear hbx hk1 hB0 hbk m hlt hN
  obtain ⟨w1, hw1⟩ : ∃ w1, w1 = w.alloc (.cells #[.int .i64 a, .int .i64 b] 39) := ⟨_, rfl⟩
  obtain ⟨bx, hbx⟩ : ∃ bx, bx = w.heap.size := ⟨_, rfl⟩
  rw [← hw1, ← hbx] at HX
  have HB : Hid (Below w.heap.size w w1) := by rw [← hbx]; exact HX.out.2.2
  have HW := Lib.hid (And.intro hw1 hbx)
  clear hw1 hbx
  have x0 := HX.out.1.cell 0
  have x1 := HX.out.1.cell 1
  have c0 := HX.out.2.1.cell 0
  have c1 := HX.out.2.1.cell 1
  simp at x0 x1 c0 c1
  by_cases p1 : 1 ≤ b
  · by_cases p2 : (f : Int) ≤ a
    · by_cases p3 : a < (N : Int)
      · have s1 : IntKind.i64.wrap ((N : Int) - a) = (N : Int) - a := IntWalk.i64_in _ (by omega)
        have d : decide (b ≤ (N : Int) - a) = false := decide_eq_false (by omega)
        clear hp
        go_enter Try.func57, Try.ntmps57
        go_upto_region 1 with fail
        rw [← HW.out.1, ← HW.out.2]
        go_quiet (fail)
        go_wp2_with fail
        go_ret
        exact ⟨rfl, below_drewN HB.out _⟩
      · have d : decide (a < (N : Int)) = false := decide_eq_false p3
        clear hp p3
        go_enter Try.func57, Try.ntmps57
        go_upto_region 1 with fail
        rw [← HW.out.1, ← HW.out.2]
        go_quiet (fail)
        go_wp2_with fail
        go_ret
        exact ⟨rfl, below_drewN HB.out _⟩
    · have d : decide ((f : Int) ≤ a) = false := decide_eq_false p2
      clear hp p2
      go_enter Try.func57, Try.ntmps57
      go_upto_region 1 with fail
      rw [← HW.out.1, ← HW.out.2]
      go_quiet (fail)
      go_wp2_with fail
      go_ret
      exact ⟨rfl, below_drewN HB.out _⟩
  · have d : decide (1 ≤ b) = false := decide_eq_false p1
    clear hp p1
    go_enter Try.func57, Try.ntmps57
    go_upto_region 1 with fail
    rw [← HW.out.1, ← HW.out.2]
    go_quiet (fail)
    go_wp2_with fail
    go_ret
    exact ⟨rfl, below_drewN HB.out _⟩
end Go.Proofs.Ytinjkjgahipimaa
