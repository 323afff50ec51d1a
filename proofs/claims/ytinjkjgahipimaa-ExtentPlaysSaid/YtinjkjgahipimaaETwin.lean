/-
  The program's Twin.
-/
import Derived.Test.YtinjkjgahipimaaERAlloc2
set_option linter.unusedVariables false
namespace Go.Proofs.Ytinjkjgahipimaa
open Go.RowKit

set_option maxRecDepth 100000 in
set_option maxHeartbeats 2000000 in
theorem twin_any (h : Nat) (S : Nat → Prop) (s : St) (w : World) (m : Mp w h S s) (ok : s.Ok) : Calls Try.prog 29 #[.pointer (some ⟨h, 0, none⟩)] w fun e w' =>
    ∃ (h2 : Nat) (S2 : Nat → Prop), e = .returned (.pointer (some ⟨h2, 0, none⟩)) ∧ Mp w' h2 S2 s ∧ Below w.heap.size w w' ∧ ∀ k, S2 k → w.heap.size ≤ k := by
  obtain ⟨A, A', c, c', wl, hb, h1, h2, h3, h4, hS⟩ := m
  have hle := ok.le
  obtain ⟨f, l, op, wl0⟩ := s
  dsimp only at hb h1 h2 hS hle
  have hP : ∀ w', Below w.heap.size w w' → w'.cell? ⟨h, 0, none⟩ = some (.int .i64 f) ∧ w'.cell? ⟨h, 1, none⟩ = some (.slice A l.length c) ∧ w'.cell? ⟨h, 2, none⟩ = some (.slice A' wl.length c') ∧ w'.cell? ⟨h, 3, none⟩ = some (.bool op) := fun w' hw => by
    have hk := hb.below hw hb.lt
    exact ⟨hk.cell 0, hk.cell 1, hk.cell 2, hk.cell 3⟩
  have hC1 : ∀ w', Below w.heap.size w w' → Calls Try.prog 42 #[.slice A l.length c] w' fun e w'' => ∃ B d, e = .returned (.slice B l.length d) ∧ w''.ownsRow w'.heap.size 65 1 (.slice B l.length d) l.length (u8s l) ∧ Below w'.heap.size w' w'' := fun w' hw =>
    clone_any A l.length c l w' (own_only h1 (F := fun _ => False) (Only.of_below hw) (fun _ _ => id)) hle
  have hC2 : ∀ w', Below w.heap.size w w' → Calls Try.prog 42 #[.slice A' wl.length c'] w' fun e w'' => ∃ B d, e = .returned (.slice B wl.length d) ∧ w''.ownsRow w'.heap.size 65 1 (.slice B wl.length d) wl.length (u8s wl) ∧ Below w'.heap.size w' w'' := fun w' hw =>
    clone_any A' wl.length c' wl w' (own_only h2 (F := fun _ => False) (Only.of_below hw) (fun _ _ => id)) h3.2
  have x0 := hP w (Below.refl _ _)
  have HP := Lib.hid hP
  have HC1 := Lib.hid hC1
  have HC2 := Lib.hid hC2
  have H3 := Lib.hid h3
  clear hP hC1 hC2 h1 h2 h3 h4 hS ok hb
  go_enter Try.func29, Try.ntmps29
  go_upto_region 3 with fail
  go_region_held3 (fun w' => w'.cell? ⟨h, 0, none⟩ = some (.int .i64 f) ∧ w'.cell? ⟨h, 1, none⟩ = some (.slice A l.length c) ∧ w'.cell? ⟨h, 2, none⟩ = some (.slice A' wl.length c') ∧ w'.cell? ⟨h, 3, none⟩ = some (.bool op)) (first | exact x0 | exact K2.out.2.2 | exact K1.out.2.2 | exact HP.out _ (K2.out.2.1.alloc K2.out.2.1.size _))
    (first
      | (go_at_call 42; refine (HC1.out _ (by repeat (first | exact Below.refl _ _ | refine Below.drew ?_ | refine below_drewN ?_ _))).mono ?_; rintro e y1 ⟨B1, d1, rfl, hown, hb⟩; have K1 := Lib.hid (And.intro hown (And.intro (show Below w.heap.size w y1 from below_step (by repeat (first | exact Below.refl _ _ | refine Below.drew ?_ | refine below_drewN ?_ _)) hb) (HP.out y1 (show Below w.heap.size w y1 from below_step (by repeat (first | exact Below.refl _ _ | refine Below.drew ?_ | refine below_drewN ?_ _)) hb)))); clear hb hown)
      | (go_at_call 42; refine (HC2.out _ (by repeat (first | exact K1.out.2.1 | refine Below.drew ?_ | refine below_drewN ?_ _))).mono ?_; rintro e y2 ⟨B2, d2, rfl, hown, hb⟩; have K2 := Lib.hid (And.intro (And.intro hown hb) (And.intro (show Below w.heap.size w y2 from below_step (by repeat (first | exact K1.out.2.1 | refine Below.drew ?_ | refine below_drewN ?_ _)) hb) (HP.out y2 (show Below w.heap.size w y2 from below_step (by repeat (first | exact K1.out.2.1 | refine Below.drew ?_ | refine below_drewN ?_ _)) hb)))); clear hb hown))
  all_goals
    go_wp2_with fail
    go_ret
    obtain ⟨p1, p2, _⟩ := K1.out
    obtain ⟨⟨r1, r1b⟩, r2, _⟩ := K2.out
    have hk := p2.size
    have hk2 := r2.size
    have g1 := fun g hg => p1.lt g hg
    have g2 := fun g hg => r1.lt g hg
    have p3 := own_only p1 (F := fun _ => False) (Only.of_below r1b) (fun _ _ => id)
    refine ⟨y2.heap.size, fun k => k = y2.heap.size ∨ Value.ownBlock (.slice B1 l.length d1) = some k ∨ Value.ownBlock (.slice B2 wl.length d2) = some k, rfl, ⟨B1, B2, d1, d2, wl, Blk.new _ _ _, own_base (p3.alloc _), own_base (r1.alloc _), H3.out, fun k e1 e2 => ?_, fun k => Iff.rfl⟩, r2.alloc r2.size _, ?_⟩
    · have h1 := (g1 k e1).2
      have h2 := (g2 k e2).1
      omega
    · rintro k (rfl | e | e)
      · exact hk2
      · have := (g1 k e).1; simp at this; omega
      · have := (g2 k e).1; omega
end Go.Proofs.Ytinjkjgahipimaa
