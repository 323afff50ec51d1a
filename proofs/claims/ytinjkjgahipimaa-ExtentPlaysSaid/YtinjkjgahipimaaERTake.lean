/-
  The reference's Take and Free.
-/
import Derived.Test.YtinjkjgahipimaaERAll
import Derived.Test.YtinjkjgahipimaaETake
set_option linter.unusedVariables false
namespace Go.Proofs.Ytinjkjgahipimaa
open Go.RowKit

set_option maxRecDepth 100000 in
set_option maxHeartbeats 2000000 in
theorem rtake_arg (h : Nat) (S : Nat → Prop) (s : St) (a b : Int) (w : World) (m : Rm w h S s) (ok : s.Ok) (hp : ¬ OwnP s a b) :
    Calls Try.prog 46 #[.pointer (some ⟨h, 0, none⟩), .agg #[.int .i64 a, .int .i64 b]] w fun e w' => e = .returned (.int .i64 1) ∧ Below w.heap.size w w' := by
  have hbx := Blk.new w 39 #[.int .i64 a, .int .i64 b]
  obtain ⟨w1, hw1⟩ : ∃ w1, w1 = w.alloc (.cells #[.int .i64 a, .int .i64 b] 39) := ⟨_, rfl⟩
  obtain ⟨bx, hbxe⟩ : ∃ bx, bx = w.heap.size := ⟨_, rfl⟩
  rw [← hw1, ← hbxe] at hbx
  have hbel : Below w.heap.size w w1 := by rw [hw1]; exact (Below.refl _ w).alloc (Nat.le_refl _) _
  have m1 := m.below hbel
  have x0 := hbx.cell 0
  have x1 := hbx.cell 1
  simp at x0 x1
  have HX := Lib.hid (And.intro hw1 (And.intro hbxe (And.intro hbel (rown_no h S s a b w1 m1 ok.le hp))))
  clear hw1 hbxe hbel hbx m m1 ok hp
  go_enter Try.func46, Try.ntmps46
  go_upto_region 1 with fail
  rw [← HX.out.1, ← HX.out.2.1]
  go_wp2_with fail
  refine HX.out.2.2.2.mono ?_
  rintro e w2 ⟨rfl, hb⟩
  have H2 := Lib.hid (HX.out.2.2.1.trans (hb.mono HX.out.2.2.1.size))
  clear hb x0 x1
  go_wp2_with fail
  go_ret
  exact ⟨rfl, H2.out⟩
set_option maxRecDepth 100000 in
set_option maxHeartbeats 2000000 in
theorem rtake_there (h : Nat) (S : Nat → Prop) (s : St) (a b : Nat) (w : World) (m : Rm w h S s) (ok : s.Ok) (hp : OwnP s a b) (hall : ¬ AllP s.l a b 0) :
    Calls Try.prog 46 #[.pointer (some ⟨h, 0, none⟩), .agg #[.int .i64 a, .int .i64 b]] w fun e w' => e = .returned (.int .i64 7) ∧ Below w.heap.size w w' := by
  have hbx := Blk.new w 39 #[.int .i64 a, .int .i64 b]
  obtain ⟨w1, hw1⟩ : ∃ w1, w1 = w.alloc (.cells #[.int .i64 a, .int .i64 b] 39) := ⟨_, rfl⟩
  obtain ⟨bx, hbxe⟩ : ∃ bx, bx = w.heap.size := ⟨_, rfl⟩
  rw [← hw1, ← hbxe] at hbx
  have hbel : Below w.heap.size w w1 := by rw [hw1]; exact (Below.refl _ w).alloc (Nat.le_refl _) _
  have m1 := m.below hbel
  have hown := rown_yes h S s a b w1 m1 ok.le hp
  have hla : ∀ w', Below w1.heap.size w1 w' → Calls Try.prog 55 #[.pointer (some ⟨h, 0, none⟩), .agg #[.int .i64 a, .int .i64 b], .int .i64 0] w' fun e w'' => e = .returned (.bool false) ∧ Below w'.heap.size w' w'' := fun w' hb' =>
    rall_any h S s a b 0 false w' (m1.below hb') (by obtain ⟨p1, p2, p3, p4⟩ := hp; omega) ok.le (by simp [hall])
  have x0 := hbx.cell 0
  have x1 := hbx.cell 1
  simp at x0 x1
  have HX := Lib.hid (And.intro hw1 (And.intro hbxe (And.intro hbel (And.intro hown (And.intro hla hbx)))))
  clear hw1 hbxe hbel hbx m m1 ok hp hall hown hla
  go_enter Try.func46, Try.ntmps46
  go_upto_region 1 with fail
  rw [← HX.out.1, ← HX.out.2.1]
  go_wp2_with fail
  refine HX.out.2.2.2.1.mono ?_
  rintro e w2 ⟨rfl, hb⟩
  have y0 := (hb.cell (p := ⟨bx, 0, none⟩) HX.out.2.2.2.2.2.lt).trans x0
  have y1 := (hb.cell (p := ⟨bx, 1, none⟩) HX.out.2.2.2.2.2.lt).trans x1
  have H2 := Lib.hid hb
  clear hb x0 x1
  go_wp2_with fail
  refine (HX.out.2.2.2.2.1 _ H2.out).mono ?_
  rintro e w3 ⟨rfl, hb⟩
  have H3 := Lib.hid (HX.out.2.2.1.trans ((below_step H2.out hb).mono HX.out.2.2.1.size))
  clear hb y0 y1
  go_wp2_with fail
  go_ret
  exact ⟨rfl, H3.out⟩
set_option maxRecDepth 100000 in
set_option maxHeartbeats 2000000 in
theorem rtake_ok (h : Nat) (S : Nat → Prop) (s : St) (a b : Nat) (w : World) (m : Rm w h S s) (ok : s.Ok) (hp : OwnP s a b) (hall : AllP s.l a b 0) :
    Calls Try.prog 46 #[.pointer (some ⟨h, 0, none⟩), .agg #[.int .i64 a, .int .i64 b]] w fun e w' => e = .returned (.int .i64 0) ∧ Rm w' h S (s.put a b 1) ∧ Only S w w' := by
  have hbx := Blk.new w 39 #[.int .i64 a, .int .i64 b]
  obtain ⟨w1, hw1⟩ : ∃ w1, w1 = w.alloc (.cells #[.int .i64 a, .int .i64 b] 39) := ⟨_, rfl⟩
  obtain ⟨bx, hbxe⟩ : ∃ bx, bx = w.heap.size := ⟨_, rfl⟩
  rw [← hw1, ← hbxe] at hbx
  have hbel : Below w.heap.size w w1 := by rw [hw1]; exact (Below.refl _ w).alloc (Nat.le_refl _) _
  have m1 := m.below hbel
  have hown := rown_yes h S s a b w1 m1 ok.le hp
  have hab : a + b ≤ s.l.length := by obtain ⟨p1, p2, p3, p4⟩ := hp; omega
  have hla : ∀ w', Below w1.heap.size w1 w' → Calls Try.prog 55 #[.pointer (some ⟨h, 0, none⟩), .agg #[.int .i64 a, .int .i64 b], .int .i64 0] w' fun e w'' => e = .returned (.bool true) ∧ Below w'.heap.size w' w'' := fun w' hb' =>
    rall_any h S s a b 0 true w' (m1.below hb') hab ok.le (by simp [hall])
  have hset : ∀ w', Below w1.heap.size w1 w' → Calls Try.prog 56 #[.pointer (some ⟨h, 0, none⟩), .agg #[.int .i64 a, .int .i64 b], .int .i64 1] w' fun e w'' => e = .returned (.tuple #[]) ∧ Rm w'' h S (s.put a b 1) ∧ Only S w' w'' := fun w' hb' =>
    rset_any h S s a b 1 w' (m1.below hb') hab ok.le
  have x0 := hbx.cell 0
  have x1 := hbx.cell 1
  simp at x0 x1
  have HX := Lib.hid (And.intro hw1 (And.intro hbxe (And.intro hbel (And.intro hown (And.intro hla (And.intro hset hbx))))))
  clear hw1 hbxe hbel hbx m m1 ok hp hall hown hla hset hab
  go_enter Try.func46, Try.ntmps46
  go_upto_region 1 with fail
  rw [← HX.out.1, ← HX.out.2.1]
  go_wp2_with fail
  refine HX.out.2.2.2.1.mono ?_
  rintro e w2 ⟨rfl, hb⟩
  have y0 := (hb.cell (p := ⟨bx, 0, none⟩) HX.out.2.2.2.2.2.2.lt).trans x0
  have y1 := (hb.cell (p := ⟨bx, 1, none⟩) HX.out.2.2.2.2.2.2.lt).trans x1
  have H2 := Lib.hid hb
  clear hb
  go_wp2_with fail
  refine (HX.out.2.2.2.2.1 _ H2.out).mono ?_
  rintro e w3 ⟨rfl, hb⟩
  have H3 := Lib.hid (below_step H2.out hb)
  clear hb y0 y1
  have y0 := (H3.out.cell (p := ⟨bx, 0, none⟩) HX.out.2.2.2.2.2.2.lt).trans x0
  have y1 := (H3.out.cell (p := ⟨bx, 1, none⟩) HX.out.2.2.2.2.2.2.lt).trans x1
  clear x0 x1
  go_wp2_with fail
  refine (HX.out.2.2.2.2.2.1 _ H3.out).mono ?_
  rintro e w4 ⟨rfl, hm, ho⟩
  have H4 := Lib.hid (And.intro hm (Only.of_steps (HX.out.2.2.1.trans (H3.out.mono HX.out.2.2.1.size)) ho))
  clear hm ho y0 y1
  go_wp2_with fail
  go_ret
  exact ⟨rfl, H4.out.1, H4.out.2⟩

set_option maxRecDepth 100000 in
set_option maxHeartbeats 2000000 in
theorem rfree_arg (h : Nat) (S : Nat → Prop) (s : St) (a b : Int) (w : World) (m : Rm w h S s) (ok : s.Ok) (hp : ¬ OwnP s a b) :
    Calls Try.prog 45 #[.pointer (some ⟨h, 0, none⟩), .agg #[.int .i64 a, .int .i64 b]] w fun e w' => e = .returned (.int .i64 1) ∧ Below w.heap.size w w' := by
  have hbx := Blk.new w 39 #[.int .i64 a, .int .i64 b]
  obtain ⟨w1, hw1⟩ : ∃ w1, w1 = w.alloc (.cells #[.int .i64 a, .int .i64 b] 39) := ⟨_, rfl⟩
  obtain ⟨bx, hbxe⟩ : ∃ bx, bx = w.heap.size := ⟨_, rfl⟩
  rw [← hw1, ← hbxe] at hbx
  have hbel : Below w.heap.size w w1 := by rw [hw1]; exact (Below.refl _ w).alloc (Nat.le_refl _) _
  have m1 := m.below hbel
  have x0 := hbx.cell 0
  have x1 := hbx.cell 1
  simp at x0 x1
  have HX := Lib.hid (And.intro hw1 (And.intro hbxe (And.intro hbel (rown_no h S s a b w1 m1 ok.le hp))))
  clear hw1 hbxe hbel hbx m m1 ok hp
  go_enter Try.func45, Try.ntmps45
  go_upto_region 1 with fail
  rw [← HX.out.1, ← HX.out.2.1]
  go_wp2_with fail
  refine HX.out.2.2.2.mono ?_
  rintro e w2 ⟨rfl, hb⟩
  have H2 := Lib.hid (HX.out.2.2.1.trans (hb.mono HX.out.2.2.1.size))
  clear hb x0 x1
  go_wp2_with fail
  go_ret
  exact ⟨rfl, H2.out⟩
set_option maxRecDepth 100000 in
set_option maxHeartbeats 2000000 in
theorem rfree_not (h : Nat) (S : Nat → Prop) (s : St) (a b : Nat) (w : World) (m : Rm w h S s) (ok : s.Ok) (hp : OwnP s a b) (hall : ¬ AllP s.l a b 1) :
    Calls Try.prog 45 #[.pointer (some ⟨h, 0, none⟩), .agg #[.int .i64 a, .int .i64 b]] w fun e w' => e = .returned (.int .i64 1) ∧ Below w.heap.size w w' := by
  have hbx := Blk.new w 39 #[.int .i64 a, .int .i64 b]
  obtain ⟨w1, hw1⟩ : ∃ w1, w1 = w.alloc (.cells #[.int .i64 a, .int .i64 b] 39) := ⟨_, rfl⟩
  obtain ⟨bx, hbxe⟩ : ∃ bx, bx = w.heap.size := ⟨_, rfl⟩
  rw [← hw1, ← hbxe] at hbx
  have hbel : Below w.heap.size w w1 := by rw [hw1]; exact (Below.refl _ w).alloc (Nat.le_refl _) _
  have m1 := m.below hbel
  have hown := rown_yes h S s a b w1 m1 ok.le hp
  have hla : ∀ w', Below w1.heap.size w1 w' → Calls Try.prog 55 #[.pointer (some ⟨h, 0, none⟩), .agg #[.int .i64 a, .int .i64 b], .int .i64 1] w' fun e w'' => e = .returned (.bool false) ∧ Below w'.heap.size w' w'' := fun w' hb' =>
    rall_any h S s a b 1 false w' (m1.below hb') (by obtain ⟨p1, p2, p3, p4⟩ := hp; omega) ok.le (by simp [hall])
  have x0 := hbx.cell 0
  have x1 := hbx.cell 1
  simp at x0 x1
  have HX := Lib.hid (And.intro hw1 (And.intro hbxe (And.intro hbel (And.intro hown (And.intro hla hbx)))))
  clear hw1 hbxe hbel hbx m m1 ok hp hall hown hla
  go_enter Try.func45, Try.ntmps45
  go_upto_region 1 with fail
  rw [← HX.out.1, ← HX.out.2.1]
  go_wp2_with fail
  refine HX.out.2.2.2.1.mono ?_
  rintro e w2 ⟨rfl, hb⟩
  have y0 := (hb.cell (p := ⟨bx, 0, none⟩) HX.out.2.2.2.2.2.lt).trans x0
  have y1 := (hb.cell (p := ⟨bx, 1, none⟩) HX.out.2.2.2.2.2.lt).trans x1
  have H2 := Lib.hid hb
  clear hb x0 x1
  go_wp2_with fail
  refine (HX.out.2.2.2.2.1 _ H2.out).mono ?_
  rintro e w3 ⟨rfl, hb⟩
  have H3 := Lib.hid (HX.out.2.2.1.trans ((below_step H2.out hb).mono HX.out.2.2.1.size))
  clear hb y0 y1
  go_wp2_with fail
  go_ret
  exact ⟨rfl, H3.out⟩
set_option maxRecDepth 100000 in
set_option maxHeartbeats 2000000 in
theorem rfree_ok (h : Nat) (S : Nat → Prop) (s : St) (a b : Nat) (w : World) (m : Rm w h S s) (ok : s.Ok) (hp : OwnP s a b) (hall : AllP s.l a b 1) :
    Calls Try.prog 45 #[.pointer (some ⟨h, 0, none⟩), .agg #[.int .i64 a, .int .i64 b]] w fun e w' => e = .returned (.int .i64 0) ∧ Rm w' h S (s.put a b (if s.op = true then 2 else 0)) ∧ Only S w w' := by
  have hbx := Blk.new w 39 #[.int .i64 a, .int .i64 b]
  obtain ⟨w1, hw1⟩ : ∃ w1, w1 = w.alloc (.cells #[.int .i64 a, .int .i64 b] 39) := ⟨_, rfl⟩
  obtain ⟨bx, hbxe⟩ : ∃ bx, bx = w.heap.size := ⟨_, rfl⟩
  rw [← hw1, ← hbxe] at hbx
  have hbel : Below w.heap.size w w1 := by rw [hw1]; exact (Below.refl _ w).alloc (Nat.le_refl _) _
  have m1 := m.below hbel
  have hown := rown_yes h S s a b w1 m1 ok.le hp
  have hab : a + b ≤ s.l.length := by obtain ⟨p1, p2, p3, p4⟩ := hp; omega
  have hla : ∀ w', Below w1.heap.size w1 w' → Calls Try.prog 55 #[.pointer (some ⟨h, 0, none⟩), .agg #[.int .i64 a, .int .i64 b], .int .i64 1] w' fun e w'' => e = .returned (.bool true) ∧ Below w'.heap.size w' w'' := fun w' hb' =>
    rall_any h S s a b 1 true w' (m1.below hb') hab ok.le (by simp [hall])
  have hset : ∀ w', Below w1.heap.size w1 w' → Calls Try.prog 56 #[.pointer (some ⟨h, 0, none⟩), .agg #[.int .i64 a, .int .i64 b], .int .i64 ((if s.op = true then 2 else 0 : Nat))] w' fun e w'' => e = .returned (.tuple #[]) ∧ Rm w'' h S (s.put a b (if s.op = true then 2 else 0)) ∧ Only S w' w'' := fun w' hb' =>
    rset_any h S s a b (if s.op = true then 2 else 0) w' (m1.below hb') hab ok.le
  have hc3 : ∀ w', Below w1.heap.size w1 w' → w'.cell? ⟨h, 4, none⟩ = some (.bool s.op) := fun w' hb' => by
    obtain ⟨A, c, V, hbk, _⟩ := (m1.below hb').own
    rw [hbk.cell 4]; rfl
  have x0 := hbx.cell 0
  have x1 := hbx.cell 1
  simp at x0 x1
  obtain ⟨o, ho⟩ : ∃ o, o = s.op := ⟨_, rfl⟩
  rw [← ho] at hc3 hset ⊢
  have HX := Lib.hid (And.intro hw1 (And.intro hbxe (And.intro hbel (And.intro hown (And.intro hla (And.intro hset (And.intro hc3 hbx)))))))
  clear hw1 hbxe hbel hbx m m1 ok hp hall hown hla hset hab hc3 ho
  go_enter Try.func45, Try.ntmps45
  go_upto_region 1 with fail
  rw [← HX.out.1, ← HX.out.2.1]
  go_wp2_with fail
  refine HX.out.2.2.2.1.mono ?_
  rintro e w2 ⟨rfl, hb⟩
  have y0 := (hb.cell (p := ⟨bx, 0, none⟩) HX.out.2.2.2.2.2.2.2.lt).trans x0
  have y1 := (hb.cell (p := ⟨bx, 1, none⟩) HX.out.2.2.2.2.2.2.2.lt).trans x1
  have H2 := Lib.hid hb
  clear hb
  go_wp2_with fail
  refine (HX.out.2.2.2.2.1 _ H2.out).mono ?_
  rintro e w3 ⟨rfl, hb⟩
  have H3 := Lib.hid (below_step H2.out hb)
  clear hb y0 y1
  have y0 := (H3.out.cell (p := ⟨bx, 0, none⟩) HX.out.2.2.2.2.2.2.2.lt).trans x0
  have y1 := (H3.out.cell (p := ⟨bx, 1, none⟩) HX.out.2.2.2.2.2.2.2.lt).trans x1
  clear x0 x1
  have c3 := HX.out.2.2.2.2.2.2.1 _ H3.out
  cases o
  all_goals
    go_wp2_with fail
    refine (HX.out.2.2.2.2.2.1 _ H3.out).mono ?_
    rintro e w4 ⟨rfl, hm, ho⟩
    have H4 := Lib.hid (And.intro hm (Only.of_steps (HX.out.2.2.1.trans (H3.out.mono HX.out.2.2.1.size)) ho))
    clear hm ho y0 y1 c3
    go_wp2_with fail
    go_ret
    exact ⟨rfl, H4.out.1, H4.out.2⟩
end Go.Proofs.Ytinjkjgahipimaa
