/-
  The law's does: a call on both maps is answered alike.
-/
import Derived.Test.YtinjkjgahipimaaEDoes
import Derived.Deep.RegionHeld3
set_option linter.unusedVariables false
namespace Go.Proofs.Ytinjkjgahipimaa
open Go.RowKit

/-- both maps in the midst of a call, and the call's own box -/
def MidB (w : World) (h hr : Nat) (S R : Nat → Prop) (bx : Nat) (cs : Array Value) (s1 s2 : St) (u : World) : Prop := Mid w h hr S R (fun k => k = bx) s1 s2 u ∧ Blk u bx 41 cs
section
variable {w u u' : World} {h hr bx : Nat} {cs : Array Value} {S R Z : Nat → Prop} {s s1 s2 s' : St} {v : Value} {f : FuncId} {args : Array Value}
theorem MidB.drew (M : MidB w h hr S R bx cs s1 s2 u) : MidB w h hr S R bx cs s1 s2 u.drew := ⟨M.1.below (Below.refl _ u).drew, M.2.drew⟩
theorem MidB.drewN (M : MidB w h hr S R bx cs s1 s2 u) (n : Nat) : MidB w h hr S R bx cs s1 s2 (u.drewN n) := ⟨M.1.below (below_drewN (Below.refl _ u) n), M.2.drewN n⟩
theorem MidB.call1 (M : MidB w h hr S R bx cs s1 s2 u) (C : ∀ S1, Mp u h S1 s1 → Calls Try.prog f args u (MTo h S1 u v s')) : Calls Try.prog f args u fun e w' => e = .returned v ∧ MidB w h hr S R bx cs s' s2 w' :=
  (M.1.call1 C).mono fun e w' hp => ⟨hp.1, hp.2.1, M.2.only hp.2.2 (fun e => e rfl)⟩
theorem MidB.call2 (M : MidB w h hr S R bx cs s1 s2 u) (C : ∀ R1, Rm u hr R1 s2 → Calls Try.prog f args u (RTo hr R1 u v s')) : Calls Try.prog f args u fun e w' => e = .returned v ∧ MidB w h hr S R bx cs s1 s' w' :=
  (M.1.call2 C).mono fun e w' hp => ⟨hp.1, hp.2.1, M.2.only hp.2.2 (fun e => e rfl)⟩
theorem MidB.start (m : Mp w h S s) (r : Rm w hr R s) (hd : ∀ k, S k → ¬ R k) (cs : Array Value) : MidB w h hr S R w.heap.size cs s s (w.alloc (.cells cs 41)) := by
  refine ⟨?_, Blk.new w 41 cs⟩
  obtain ⟨S1, R1, h1, h2, h3, h4, h5, h6, h7⟩ := (Mid.start m r hd).new (.cells cs 41)
  exact ⟨S1, R1, h1, h2, h3, h4, h5, h6, fun k hk => h7 k (.inr hk)⟩
end
/-- what a call leaves -/
def DoP (w : World) (h hr : Nat) (S R : Nat → Prop) (e : Ending) (w' : World) : Prop := e = .returned (.bool true) ∧ ∃ s', s'.Ok ∧ ∃ Z, Mid w h hr S R Z s' s' w'
theorem MidB.fin {w u : World} {h hr bx : Nat} {cs : Array Value} {S R : Nat → Prop} {s : St} (M : MidB w h hr S R bx cs s s u) (ok : s.Ok) : ∃ s', s'.Ok ∧ ∃ Z, Mid w h hr S R Z s' s' u := ⟨s, ok, _, M.1⟩

set_option maxRecDepth 100000 in
set_option maxHeartbeats 2000000 in
theorem does_free (h hr : Nat) (S R : Nat → Prop) (s : St) (who n a b : Int) (w : World) (m : Mp w h S s) (r : Rm w hr R s) (ok : s.Ok) (hd : ∀ k, S k → ¬ R k) :
    Calls Try.prog 31 #[.pointer (some ⟨h, 0, none⟩), .pointer (some ⟨hr, 0, none⟩), .agg #[.int .i64 1, .int .i64 who, .int .i64 n, .int .i64 a, .int .i64 b]] w (DoP w h hr S R) := by
  obtain ⟨cs, hcs⟩ : ∃ cs : Array Value, cs = #[.int .i64 1, .int .i64 who, .int .i64 n, .int .i64 a, .int .i64 b] := ⟨_, rfl⟩
  have hM := MidB.start m r hd cs
  obtain ⟨v, s', hB⟩ := free_both h hr s ok a b
  have hC1 : ∀ u, MidB w h hr S R w.heap.size cs s s u → Calls Try.prog 18 #[.pointer (some ⟨h, 0, none⟩), .agg #[.int .i64 a, .int .i64 b]] u fun e w' => e = .returned (.int .i64 v) ∧ MidB w h hr S R w.heap.size cs s' s w' := fun u M => M.call1 (fun S1 m1 => hB.2.1 u S1 m1)
  have hC2 : ∀ u, MidB w h hr S R w.heap.size cs s' s u → Calls Try.prog 45 #[.pointer (some ⟨hr, 0, none⟩), .agg #[.int .i64 a, .int .i64 b]] u fun e w' => e = .returned (.int .i64 v) ∧ MidB w h hr S R w.heap.size cs s' s' w' := fun u M => M.call2 (fun R1 m1 => hB.2.2 u R1 m1)
  have hOk := hB.1
  obtain ⟨w1, hw1⟩ : ∃ w1, w1 = w.alloc (.cells cs 41) := ⟨_, rfl⟩
  obtain ⟨bx, hbx⟩ : ∃ bx, bx = w.heap.size := ⟨_, rfl⟩
  rw [← hw1, ← hbx] at hM
  rw [← hbx] at hC1 hC2
  have hcell : ∀ u s1 s2, MidB w h hr S R bx cs s1 s2 u → u.cell? ⟨bx, 0, none⟩ = some (.int .i64 1) ∧ u.cell? ⟨bx, 2, none⟩ = some (.int .i64 n) ∧ u.cell? ⟨bx, 3, none⟩ = some (.int .i64 a) ∧ u.cell? ⟨bx, 4, none⟩ = some (.int .i64 b) := fun u s1 s2 M => by
    rw [hcs] at M
    exact ⟨M.2.cell 0, M.2.cell 2, M.2.cell 3, M.2.cell 4⟩
  have HW := Lib.hid (And.intro hw1 (And.intro hbx hcs))
  have HM := Lib.hid (And.intro hM hOk)
  have HC1 := Lib.hid hC1
  have HC2 := Lib.hid hC2
  have HL := Lib.hid hcell
  clear hM hC1 hC2 hOk hB hw1 hbx m r hd ok hcell hcs
  go_enter Try.func31, Try.ntmps31
  go_upto_region 1 with fail
  rw [← HW.out.2.2, ← HW.out.1, ← HW.out.2.1]
  obtain ⟨x0, x2, x3, x4⟩ := HL.out _ _ _ HM.out.1
  go_upto_region 7 with fail
  clear x0 x2
  go_region_held3 (fun w' => w'.cell? ⟨bx, 3, none⟩ = some (.int .i64 a) ∧ w'.cell? ⟨bx, 4, none⟩ = some (.int .i64 b)) (first | exact ⟨x3, x4⟩ | exact K2.out.2 | exact K1.out.2)
    (first
      | (go_at_call 18; refine (HC1.out _ (by repeat (first | exact HM.out.1 | refine MidB.drew ?_))).mono ?_; rintro e y1 ⟨rfl, hm⟩; have K1 := Lib.hid (And.intro hm (by obtain ⟨z0, z2, z3, z4⟩ := HL.out _ _ _ hm; exact ⟨z3, z4⟩ : (fun w' => w'.cell? ⟨bx, 3, none⟩ = some (.int .i64 a) ∧ w'.cell? ⟨bx, 4, none⟩ = some (.int .i64 b)) y1)); clear hm)
      | (go_at_call 45; refine (HC2.out _ (by repeat (first | exact K1.out.1 | refine MidB.drew ?_))).mono ?_; rintro e y2 ⟨rfl, hm⟩; have K2 := Lib.hid (And.intro hm (by obtain ⟨z0, z2, z3, z4⟩ := HL.out _ _ _ hm; exact ⟨z3, z4⟩ : (fun w' => w'.cell? ⟨bx, 3, none⟩ = some (.int .i64 a) ∧ w'.cell? ⟨bx, 4, none⟩ = some (.int .i64 b)) y2)); clear hm))
  all_goals
    go_wp2_with fail
    go_ret
    exact ⟨by simp, MidB.fin (by repeat (first | exact K2.out.1 | refine MidB.drew ?_ | refine MidB.drewN ?_ _)) HM.out.2⟩

set_option maxRecDepth 100000 in
set_option maxHeartbeats 2000000 in
theorem does_take (h hr : Nat) (S R : Nat → Prop) (s : St) (who n a b : Int) (w : World) (m : Mp w h S s) (r : Rm w hr R s) (ok : s.Ok) (hd : ∀ k, S k → ¬ R k) :
    Calls Try.prog 31 #[.pointer (some ⟨h, 0, none⟩), .pointer (some ⟨hr, 0, none⟩), .agg #[.int .i64 2, .int .i64 who, .int .i64 n, .int .i64 a, .int .i64 b]] w (DoP w h hr S R) := by
  obtain ⟨cs, hcs⟩ : ∃ cs : Array Value, cs = #[.int .i64 2, .int .i64 who, .int .i64 n, .int .i64 a, .int .i64 b] := ⟨_, rfl⟩
  have hM := MidB.start m r hd cs
  obtain ⟨v, s', hB⟩ := take_both h hr s ok a b
  have hC1 : ∀ u, MidB w h hr S R w.heap.size cs s s u → Calls Try.prog 22 #[.pointer (some ⟨h, 0, none⟩), .agg #[.int .i64 a, .int .i64 b]] u fun e w' => e = .returned (.int .i64 v) ∧ MidB w h hr S R w.heap.size cs s' s w' := fun u M => M.call1 (fun S1 m1 => hB.2.1 u S1 m1)
  have hC2 : ∀ u, MidB w h hr S R w.heap.size cs s' s u → Calls Try.prog 46 #[.pointer (some ⟨hr, 0, none⟩), .agg #[.int .i64 a, .int .i64 b]] u fun e w' => e = .returned (.int .i64 v) ∧ MidB w h hr S R w.heap.size cs s' s' w' := fun u M => M.call2 (fun R1 m1 => hB.2.2 u R1 m1)
  have hOk := hB.1
  obtain ⟨w1, hw1⟩ : ∃ w1, w1 = w.alloc (.cells cs 41) := ⟨_, rfl⟩
  obtain ⟨bx, hbx⟩ : ∃ bx, bx = w.heap.size := ⟨_, rfl⟩
  rw [← hw1, ← hbx] at hM
  rw [← hbx] at hC1 hC2
  have hcell : ∀ u s1 s2, MidB w h hr S R bx cs s1 s2 u → u.cell? ⟨bx, 0, none⟩ = some (.int .i64 2) ∧ u.cell? ⟨bx, 2, none⟩ = some (.int .i64 n) ∧ u.cell? ⟨bx, 3, none⟩ = some (.int .i64 a) ∧ u.cell? ⟨bx, 4, none⟩ = some (.int .i64 b) := fun u s1 s2 M => by
    rw [hcs] at M
    exact ⟨M.2.cell 0, M.2.cell 2, M.2.cell 3, M.2.cell 4⟩
  have HW := Lib.hid (And.intro hw1 (And.intro hbx hcs))
  have HM := Lib.hid (And.intro hM hOk)
  have HC1 := Lib.hid hC1
  have HC2 := Lib.hid hC2
  have HL := Lib.hid hcell
  clear hM hC1 hC2 hOk hB hw1 hbx m r hd ok hcell hcs
  go_enter Try.func31, Try.ntmps31
  go_upto_region 1 with fail
  rw [← HW.out.2.2, ← HW.out.1, ← HW.out.2.1]
  obtain ⟨x0, x2, x3, x4⟩ := HL.out _ _ _ HM.out.1
  go_upto_region 9 with fail
  clear x0 x2
  go_region_held3 (fun w' => w'.cell? ⟨bx, 3, none⟩ = some (.int .i64 a) ∧ w'.cell? ⟨bx, 4, none⟩ = some (.int .i64 b)) (first | exact ⟨x3, x4⟩ | exact K2.out.2 | exact K1.out.2)
    (first
      | (go_at_call 22; refine (HC1.out _ (by repeat (first | exact HM.out.1 | refine MidB.drew ?_))).mono ?_; rintro e y1 ⟨rfl, hm⟩; have K1 := Lib.hid (And.intro hm (by obtain ⟨z0, z2, z3, z4⟩ := HL.out _ _ _ hm; exact ⟨z3, z4⟩ : (fun w' => w'.cell? ⟨bx, 3, none⟩ = some (.int .i64 a) ∧ w'.cell? ⟨bx, 4, none⟩ = some (.int .i64 b)) y1)); clear hm)
      | (go_at_call 46; refine (HC2.out _ (by repeat (first | exact K1.out.1 | refine MidB.drew ?_))).mono ?_; rintro e y2 ⟨rfl, hm⟩; have K2 := Lib.hid (And.intro hm (by obtain ⟨z0, z2, z3, z4⟩ := HL.out _ _ _ hm; exact ⟨z3, z4⟩ : (fun w' => w'.cell? ⟨bx, 3, none⟩ = some (.int .i64 a) ∧ w'.cell? ⟨bx, 4, none⟩ = some (.int .i64 b)) y2)); clear hm))
  all_goals
    go_wp2_with fail
    go_ret
    exact ⟨by simp, MidB.fin (by repeat (first | exact K2.out.1 | refine MidB.drew ?_ | refine MidB.drewN ?_ _)) HM.out.2⟩

set_option maxRecDepth 100000 in
set_option maxHeartbeats 2000000 in
theorem does_begin (h hr : Nat) (S R : Nat → Prop) (s : St) (who n a b : Int) (w : World) (m : Mp w h S s) (r : Rm w hr R s) (ok : s.Ok) (hd : ∀ k, S k → ¬ R k) :
    Calls Try.prog 31 #[.pointer (some ⟨h, 0, none⟩), .pointer (some ⟨hr, 0, none⟩), .agg #[.int .i64 3, .int .i64 who, .int .i64 n, .int .i64 a, .int .i64 b]] w (DoP w h hr S R) := by
  obtain ⟨cs, hcs⟩ : ∃ cs : Array Value, cs = #[.int .i64 3, .int .i64 who, .int .i64 n, .int .i64 a, .int .i64 b] := ⟨_, rfl⟩
  have hM := MidB.start m r hd cs
  obtain ⟨v, s', hB⟩ := begin_both h hr s ok
  have hC1 : ∀ u, MidB w h hr S R w.heap.size cs s s u → Calls Try.prog 24 #[.pointer (some ⟨h, 0, none⟩)] u fun e w' => e = .returned (.int .i64 v) ∧ MidB w h hr S R w.heap.size cs s' s w' := fun u M => M.call1 (fun S1 m1 => hB.2.1 u S1 m1)
  have hC2 : ∀ u, MidB w h hr S R w.heap.size cs s' s u → Calls Try.prog 47 #[.pointer (some ⟨hr, 0, none⟩)] u fun e w' => e = .returned (.int .i64 v) ∧ MidB w h hr S R w.heap.size cs s' s' w' := fun u M => M.call2 (fun R1 m1 => hB.2.2 u R1 m1)
  have hOk := hB.1
  obtain ⟨w1, hw1⟩ : ∃ w1, w1 = w.alloc (.cells cs 41) := ⟨_, rfl⟩
  obtain ⟨bx, hbx⟩ : ∃ bx, bx = w.heap.size := ⟨_, rfl⟩
  rw [← hw1, ← hbx] at hM
  rw [← hbx] at hC1 hC2
  have hcell : ∀ u s1 s2, MidB w h hr S R bx cs s1 s2 u → u.cell? ⟨bx, 0, none⟩ = some (.int .i64 3) ∧ u.cell? ⟨bx, 2, none⟩ = some (.int .i64 n) ∧ u.cell? ⟨bx, 3, none⟩ = some (.int .i64 a) ∧ u.cell? ⟨bx, 4, none⟩ = some (.int .i64 b) := fun u s1 s2 M => by
    rw [hcs] at M
    exact ⟨M.2.cell 0, M.2.cell 2, M.2.cell 3, M.2.cell 4⟩
  have HW := Lib.hid (And.intro hw1 (And.intro hbx hcs))
  have HM := Lib.hid (And.intro hM hOk)
  have HC1 := Lib.hid hC1
  have HC2 := Lib.hid hC2
  have HL := Lib.hid hcell
  clear hM hC1 hC2 hOk hB hw1 hbx m r hd ok hcell hcs
  go_enter Try.func31, Try.ntmps31
  go_upto_region 1 with fail
  rw [← HW.out.2.2, ← HW.out.1, ← HW.out.2.1]
  obtain ⟨x0, x2, x3, x4⟩ := HL.out _ _ _ HM.out.1
  clear x2 x3 x4
  go_wp2_with fail
  refine (HC1.out _ HM.out.1).mono ?_
  rintro e y1 ⟨rfl, hm⟩
  have K1 := Lib.hid hm
  clear hm x0
  go_wp2_with fail
  refine (HC2.out _ K1.out).mono ?_
  rintro e y2 ⟨rfl, hm⟩
  have K2 := Lib.hid hm
  clear hm
  go_wp2_with fail
  go_ret
  exact ⟨by simp, MidB.fin K2.out HM.out.2⟩

set_option maxRecDepth 100000 in
set_option maxHeartbeats 2000000 in
theorem does_commit (h hr : Nat) (S R : Nat → Prop) (s : St) (who n a b : Int) (w : World) (m : Mp w h S s) (r : Rm w hr R s) (ok : s.Ok) (hd : ∀ k, S k → ¬ R k) :
    Calls Try.prog 31 #[.pointer (some ⟨h, 0, none⟩), .pointer (some ⟨hr, 0, none⟩), .agg #[.int .i64 4, .int .i64 who, .int .i64 n, .int .i64 a, .int .i64 b]] w (DoP w h hr S R) := by
  obtain ⟨cs, hcs⟩ : ∃ cs : Array Value, cs = #[.int .i64 4, .int .i64 who, .int .i64 n, .int .i64 a, .int .i64 b] := ⟨_, rfl⟩
  have hM := MidB.start m r hd cs
  obtain ⟨v, s', hB⟩ := commit_both h hr s ok
  have hC1 : ∀ u, MidB w h hr S R w.heap.size cs s s u → Calls Try.prog 27 #[.pointer (some ⟨h, 0, none⟩)] u fun e w' => e = .returned (.int .i64 v) ∧ MidB w h hr S R w.heap.size cs s' s w' := fun u M => M.call1 (fun S1 m1 => hB.2.1 u S1 m1)
  have hC2 : ∀ u, MidB w h hr S R w.heap.size cs s' s u → Calls Try.prog 48 #[.pointer (some ⟨hr, 0, none⟩)] u fun e w' => e = .returned (.int .i64 v) ∧ MidB w h hr S R w.heap.size cs s' s' w' := fun u M => M.call2 (fun R1 m1 => hB.2.2 u R1 m1)
  have hOk := hB.1
  obtain ⟨w1, hw1⟩ : ∃ w1, w1 = w.alloc (.cells cs 41) := ⟨_, rfl⟩
  obtain ⟨bx, hbx⟩ : ∃ bx, bx = w.heap.size := ⟨_, rfl⟩
  rw [← hw1, ← hbx] at hM
  rw [← hbx] at hC1 hC2
  have hcell : ∀ u s1 s2, MidB w h hr S R bx cs s1 s2 u → u.cell? ⟨bx, 0, none⟩ = some (.int .i64 4) ∧ u.cell? ⟨bx, 2, none⟩ = some (.int .i64 n) ∧ u.cell? ⟨bx, 3, none⟩ = some (.int .i64 a) ∧ u.cell? ⟨bx, 4, none⟩ = some (.int .i64 b) := fun u s1 s2 M => by
    rw [hcs] at M
    exact ⟨M.2.cell 0, M.2.cell 2, M.2.cell 3, M.2.cell 4⟩
  have HW := Lib.hid (And.intro hw1 (And.intro hbx hcs))
  have HM := Lib.hid (And.intro hM hOk)
  have HC1 := Lib.hid hC1
  have HC2 := Lib.hid hC2
  have HL := Lib.hid hcell
  clear hM hC1 hC2 hOk hB hw1 hbx m r hd ok hcell hcs
  go_enter Try.func31, Try.ntmps31
  go_upto_region 1 with fail
  rw [← HW.out.2.2, ← HW.out.1, ← HW.out.2.1]
  obtain ⟨x0, x2, x3, x4⟩ := HL.out _ _ _ HM.out.1
  clear x2 x3 x4
  go_wp2_with fail
  refine (HC1.out _ HM.out.1).mono ?_
  rintro e y1 ⟨rfl, hm⟩
  have K1 := Lib.hid hm
  clear hm x0
  go_wp2_with fail
  refine (HC2.out _ K1.out).mono ?_
  rintro e y2 ⟨rfl, hm⟩
  have K2 := Lib.hid hm
  clear hm
  go_wp2_with fail
  go_ret
  exact ⟨by simp, MidB.fin K2.out HM.out.2⟩

set_option maxRecDepth 100000 in
set_option maxHeartbeats 2000000 in
theorem does_abort (h hr : Nat) (S R : Nat → Prop) (s : St) (who n a b : Int) (w : World) (m : Mp w h S s) (r : Rm w hr R s) (ok : s.Ok) (hd : ∀ k, S k → ¬ R k) :
    Calls Try.prog 31 #[.pointer (some ⟨h, 0, none⟩), .pointer (some ⟨hr, 0, none⟩), .agg #[.int .i64 5, .int .i64 who, .int .i64 n, .int .i64 a, .int .i64 b]] w (DoP w h hr S R) := by
  obtain ⟨cs, hcs⟩ : ∃ cs : Array Value, cs = #[.int .i64 5, .int .i64 who, .int .i64 n, .int .i64 a, .int .i64 b] := ⟨_, rfl⟩
  have hM := MidB.start m r hd cs
  obtain ⟨v, s', hB⟩ := abort_both h hr s ok
  have hC1 : ∀ u, MidB w h hr S R w.heap.size cs s s u → Calls Try.prog 26 #[.pointer (some ⟨h, 0, none⟩)] u fun e w' => e = .returned (.int .i64 v) ∧ MidB w h hr S R w.heap.size cs s' s w' := fun u M => M.call1 (fun S1 m1 => hB.2.1 u S1 m1)
  have hC2 : ∀ u, MidB w h hr S R w.heap.size cs s' s u → Calls Try.prog 49 #[.pointer (some ⟨hr, 0, none⟩)] u fun e w' => e = .returned (.int .i64 v) ∧ MidB w h hr S R w.heap.size cs s' s' w' := fun u M => M.call2 (fun R1 m1 => hB.2.2 u R1 m1)
  have hOk := hB.1
  obtain ⟨w1, hw1⟩ : ∃ w1, w1 = w.alloc (.cells cs 41) := ⟨_, rfl⟩
  obtain ⟨bx, hbx⟩ : ∃ bx, bx = w.heap.size := ⟨_, rfl⟩
  rw [← hw1, ← hbx] at hM
  rw [← hbx] at hC1 hC2
  have hcell : ∀ u s1 s2, MidB w h hr S R bx cs s1 s2 u → u.cell? ⟨bx, 0, none⟩ = some (.int .i64 5) ∧ u.cell? ⟨bx, 2, none⟩ = some (.int .i64 n) ∧ u.cell? ⟨bx, 3, none⟩ = some (.int .i64 a) ∧ u.cell? ⟨bx, 4, none⟩ = some (.int .i64 b) := fun u s1 s2 M => by
    rw [hcs] at M
    exact ⟨M.2.cell 0, M.2.cell 2, M.2.cell 3, M.2.cell 4⟩
  have HW := Lib.hid (And.intro hw1 (And.intro hbx hcs))
  have HM := Lib.hid (And.intro hM hOk)
  have HC1 := Lib.hid hC1
  have HC2 := Lib.hid hC2
  have HL := Lib.hid hcell
  clear hM hC1 hC2 hOk hB hw1 hbx m r hd ok hcell hcs
  go_enter Try.func31, Try.ntmps31
  go_upto_region 1 with fail
  rw [← HW.out.2.2, ← HW.out.1, ← HW.out.2.1]
  obtain ⟨x0, x2, x3, x4⟩ := HL.out _ _ _ HM.out.1
  clear x2 x3 x4
  go_wp2_with fail
  refine (HC1.out _ HM.out.1).mono ?_
  rintro e y1 ⟨rfl, hm⟩
  have K1 := Lib.hid hm
  clear hm x0
  go_wp2_with fail
  refine (HC2.out _ K1.out).mono ?_
  rintro e y2 ⟨rfl, hm⟩
  have K2 := Lib.hid hm
  clear hm
  go_wp2_with fail
  go_ret
  exact ⟨by simp, MidB.fin K2.out HM.out.2⟩

set_option maxRecDepth 100000 in
set_option maxHeartbeats 2000000 in
theorem does_taken (h hr : Nat) (S R : Nat → Prop) (s : St) (kd who n a b : Int) (w : World) (m : Mp w h S s) (r : Rm w hr R s) (ok : s.Ok) (hd : ∀ k, S k → ¬ R k) (k0 : ¬ kd = 0) (k1 : ¬ kd = 1) (k2 : ¬ kd = 2) (k3 : ¬ kd = 3) (k4 : ¬ kd = 4) (k5 : ¬ kd = 5) :
    Calls Try.prog 31 #[.pointer (some ⟨h, 0, none⟩), .pointer (some ⟨hr, 0, none⟩), .agg #[.int .i64 kd, .int .i64 who, .int .i64 n, .int .i64 a, .int .i64 b]] w (DoP w h hr S R) := by
  obtain ⟨cs, hcs⟩ : ∃ cs : Array Value, cs = #[.int .i64 kd, .int .i64 who, .int .i64 n, .int .i64 a, .int .i64 b] := ⟨_, rfl⟩
  have hM := MidB.start m r hd cs
  have hB := taken_both h hr s ok n
  obtain ⟨s', hs'⟩ : ∃ s', s' = s := ⟨_, rfl⟩
  have hB : Both h hr s 32 50 [.int .i64 n] (.bool (TakP s n)) s' := by rw [hs']; exact hB
  obtain ⟨v, hv⟩ : ∃ v, v = TakP s n := ⟨_, rfl⟩
  rw [← hv] at hB
  clear hs' hv
  have hC1 : ∀ u, MidB w h hr S R w.heap.size cs s s u → Calls Try.prog 32 #[.pointer (some ⟨h, 0, none⟩), .int .i64 n] u fun e w' => e = .returned (.bool v) ∧ MidB w h hr S R w.heap.size cs s' s w' := fun u M => M.call1 (fun S1 m1 => hB.2.1 u S1 m1)
  have hC2 : ∀ u, MidB w h hr S R w.heap.size cs s' s u → Calls Try.prog 50 #[.pointer (some ⟨hr, 0, none⟩), .int .i64 n] u fun e w' => e = .returned (.bool v) ∧ MidB w h hr S R w.heap.size cs s' s' w' := fun u M => M.call2 (fun R1 m1 => hB.2.2 u R1 m1)
  have hOk := hB.1
  obtain ⟨w1, hw1⟩ : ∃ w1, w1 = w.alloc (.cells cs 41) := ⟨_, rfl⟩
  obtain ⟨bx, hbx⟩ : ∃ bx, bx = w.heap.size := ⟨_, rfl⟩
  rw [← hw1, ← hbx] at hM
  rw [← hbx] at hC1 hC2
  have hcell : ∀ u s1 s2, MidB w h hr S R bx cs s1 s2 u → u.cell? ⟨bx, 0, none⟩ = some (.int .i64 kd) ∧ u.cell? ⟨bx, 2, none⟩ = some (.int .i64 n) ∧ u.cell? ⟨bx, 3, none⟩ = some (.int .i64 a) ∧ u.cell? ⟨bx, 4, none⟩ = some (.int .i64 b) := fun u s1 s2 M => by
    rw [hcs] at M
    exact ⟨M.2.cell 0, M.2.cell 2, M.2.cell 3, M.2.cell 4⟩
  have HW := Lib.hid (And.intro hw1 (And.intro hbx hcs))
  have HM := Lib.hid (And.intro hM hOk)
  have HC1 := Lib.hid hC1
  have HC2 := Lib.hid hC2
  have HL := Lib.hid hcell
  clear hM hC1 hC2 hOk hB hw1 hbx m r hd ok hcell hcs
  go_enter Try.func31, Try.ntmps31
  go_upto_region 1 with fail
  rw [← HW.out.2.2, ← HW.out.1, ← HW.out.2.1]
  obtain ⟨x0, x2, x3, x4⟩ := HL.out _ _ _ HM.out.1
  go_upto_region 16 with fail
  clear x0 x3 x4
  go_region_held3 (fun w' => w'.cell? ⟨bx, 2, none⟩ = some (.int .i64 n)) (first | exact x2 | exact K2.out.2 | exact K1.out.2)
    (first
      | (go_at_call 32; refine (HC1.out _ (by repeat (first | exact HM.out.1 | refine MidB.drew ?_))).mono ?_; rintro e y1 ⟨rfl, hm⟩; have K1 := Lib.hid (And.intro hm (by obtain ⟨z0, z2, z3, z4⟩ := HL.out _ _ _ hm; exact z2 : (fun w' => w'.cell? ⟨bx, 2, none⟩ = some (.int .i64 n)) y1)); clear hm)
      | (go_at_call 50; refine (HC2.out _ (by repeat (first | exact K1.out.1 | refine MidB.drew ?_))).mono ?_; rintro e y2 ⟨rfl, hm⟩; have K2 := Lib.hid (And.intro hm (by obtain ⟨z0, z2, z3, z4⟩ := HL.out _ _ _ hm; exact z2 : (fun w' => w'.cell? ⟨bx, 2, none⟩ = some (.int .i64 n)) y2)); clear hm))
  all_goals
    go_wp2_with fail
    go_ret
    exact ⟨by simp, MidB.fin (by repeat (first | exact K2.out.1 | refine MidB.drew ?_ | refine MidB.drewN ?_ _)) HM.out.2⟩
end Go.Proofs.Ytinjkjgahipimaa
