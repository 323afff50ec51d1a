/-
  The program's Begin.
-/
import Derived.Test.YtinjkjgahipimaaEClone
set_option linter.unusedVariables false
namespace Go.Proofs.Ytinjkjgahipimaa
open Go.RowKit

set_option maxRecDepth 100000 in
theorem begin_yes (h : Nat) (S : Nat → Prop) (s : St) (w : World) (m : Mp w h S s) (ok : s.Ok) (ho : s.op = false) : Calls Try.prog 24 #[.pointer (some ⟨h, 0, none⟩)] w fun e w' => e = .returned (.int .i64 0) ∧
    ∃ S' : Nat → Prop, Mp2 w' h S' ⟨s.f, s.l, true, s.l⟩ ∧ (∀ k, S' k → S k ∨ w.heap.size ≤ k) ∧ Only S w w' := by
  obtain ⟨f, l, op, wl⟩ := s
  obtain ⟨A, A', c, c', wl', h1, h2, h3, _, h4, h5⟩ := m
  have hle := ok.le
  dsimp only at h1 h2 h5 hle ho
  subst ho
  have hS : S h := (h5 h).2 (.inl rfl)
  have hSA : ∀ k, Value.ownBlock (.slice A l.length c) = some k → S k := fun k e => (h5 k).2 (.inr (.inl e))
  have hb3 := h1.set_ 3 (.bool true)
  have hf := h1.frozen
  have n1 : ∀ g, Value.ownBlock (.slice A l.length c) = some g → ¬ g = h := fun g hg e => own_blk_ne h2 h1 (by decide) g hg e
  have ho1 : Only (fun k => k = h) w (w.setCell ⟨h, 3, none⟩ (.bool true)) := (Only.refl (fun k => k = h) w).setCell (p := ⟨h, 3, none⟩) (.inl rfl) _
  have h2b := own_only h2 ho1 n1
  have x3 : w.cell? ⟨h, 3, none⟩ = some (.bool false) := h1.cell 3
  have f3 := h1.frozen 3
  have hlt := h1.lt
  obtain ⟨w1, hw1⟩ : ∃ w1, w1 = w.setCell ⟨h, 3, none⟩ (.bool true) := ⟨_, rfl⟩
  have hz : w1.heap.size = w.heap.size := by rw [hw1]; simp [World.setCell]
  rw [← hw1] at hb3 ho1 h2b
  have hc := clone_any A l.length c l w1 h2b hle
  have hlen : l.length = l.length := rfl
  obtain ⟨N, hN⟩ : ∃ N, N = l.length := ⟨_, rfl⟩
  have HM := Lib.hid (And.intro hS (And.intro hSA (And.intro n1 (And.intro ho1 (And.intro h2b (And.intro hb3 (And.intro hz (And.intro h5 hN))))))))
  have y1 : w1.cell? ⟨h, 1, none⟩ = some (.slice A l.length c) := by have := hb3.cell 1; simpa using this
  rw [← hN] at hc y1
  have HC := Lib.hid hc
  have HW := Lib.hid hw1
  clear hS hSA n1 ho1 h2b hb3 h5 h2 h3 h4 hf ok hz hc hle hlen hN h1 hw1
  go_enter Try.func24, Try.ntmps24
  go_upto_region 6 with fail
  rw [← HW.out]
  clear x3 f3
  go_wp2_with fail
  refine HC.out.mono ?_
  rintro e w2 ⟨B, d, rfl, hown, hb⟩
  have hbk := HM.out.2.2.2.2.2.1.below hb (HM.out.2.2.2.2.2.1.lt)
  have f2 := hbk.frozen 2
  have x2 := hbk.cell 2
  simp at x2
  have H2 := Lib.hid (And.intro hown (And.intro hb hbk))
  clear hown hb hbk y1
  go_wp2_with fail
  go_ret
  obtain ⟨hS, hSA, n1, ho1, h2b, hb3, hz, h5, hN⟩ := HM.out
  obtain ⟨hown, hb, hbk⟩ := H2.out
  subst hN
  have hBlt := fun g hg => (hown.lt g hg).1
  have ho3 : Only (fun k => k = h) w2 (w2.setCell ⟨h, 2, none⟩ (.slice B l.length d)) := (Only.refl (fun k => k = h) w2).setCell (p := ⟨h, 2, none⟩) (.inl rfl) _
  have hbf := hbk.set_ 2 (.slice B l.length d)
  refine ⟨rfl, fun k => k = h ∨ Value.ownBlock (.slice A l.length c) = some k ∨ Value.ownBlock (.slice B l.length d) = some k, ⟨A, B, c, d, hbf, ?_, ?_, ?_, fun k => Iff.rfl⟩, ?_, ?_⟩
  · exact own_only (own_only h2b (F := fun _ => False) (Only.of_below hb) (fun _ _ => id)) ho3 n1
  · exact own_only (own_base hown) ho3 (fun g hg e => by
      have := hBlt g hg
      have e2 : g = h := e
      omega)
  · intro k h1 h2
    have := hBlt k h2
    have := (h2b.lt k h1).2
    omega
  · rintro k (rfl | e | e)
    · exact .inl hS
    · exact .inl (hSA k e)
    · have := hBlt k e
      exact .inr (by omega)
  · exact ((ho1.mono (fun i _ e => by have e2 : i = h := e; rw [e2]; exact hS)).trans (G := fun k => k = h) ((Only.of_below hb).trans ho3 (fun i _ e => e)) (fun i _ e => by have e2 : i = h := e; rw [e2]; exact hS))
end Go.Proofs.Ytinjkjgahipimaa
