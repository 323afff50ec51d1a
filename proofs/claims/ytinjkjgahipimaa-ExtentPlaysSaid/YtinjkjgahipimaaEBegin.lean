/-
  A transaction's end: the program's ends.
-/
import Derived.Test.YtinjkjgahipimaaELst
set_option linter.unusedVariables false
namespace Go.Proofs.Ytinjkjgahipimaa
open Go.RowKit

/-- a map whose former state is known, open or not -/
def Mp2 (w : World) (h : Nat) (S : Nat → Prop) (s : St) : Prop :=
  ∃ (A A' : Option Addr) (c c' : Nat), Blk w h 68 #[.int .i64 s.f, .slice A s.l.length c, .slice A' s.wl.length c', .bool s.op] ∧
    w.ownsRow 0 65 1 (.slice A s.l.length c) s.l.length (u8s s.l) ∧ w.ownsRow 0 65 1 (.slice A' s.wl.length c') s.wl.length (u8s s.wl) ∧
    (∀ k, Value.ownBlock (.slice A s.l.length c) = some k → Value.ownBlock (.slice A' s.wl.length c') ≠ some k) ∧
    ∀ k, S k ↔ (k = h ∨ Value.ownBlock (.slice A s.l.length c) = some k ∨ Value.ownBlock (.slice A' s.wl.length c') = some k)
theorem Mp2.mp {w : World} {h : Nat} {S : Nat → Prop} {s : St} (m : Mp2 w h S s) (hb : s.wl.length ≤ 4096) : Mp w h S s := by
  obtain ⟨A, A', c, c', h1, h2, h3, h4, h5⟩ := m
  exact ⟨A, A', c, c', s.wl, h1, h2, h3, ⟨fun _ => rfl, hb⟩, h4, h5⟩
theorem Mp.mp2 {w : World} {h : Nat} {S : Nat → Prop} {s : St} (m : Mp w h S s) (ho : s.op = true) : Mp2 w h S s := by
  obtain ⟨A, A', c, c', wl, h1, h2, h3, h6, h4, h5⟩ := m
  obtain rfl := h6.1 ho
  exact ⟨A, A', c, c', h1, h2, h3, h4, h5⟩
/-- the open mark turned -/
theorem Mp2.opened {w : World} {h : Nat} {S : Nat → Prop} {s : St} (m : Mp2 w h S s) (b : Bool) : Mp2 (w.setCell ⟨h, 3, none⟩ (.bool b)) h S { s with op := b } := by
  obtain ⟨A, A', c, c', h1, h2, h3, h4, h5⟩ := m
  have n1 : ∀ g, Value.ownBlock (.slice A s.l.length c) = some g → ¬ g = h := fun g hg e => own_blk_ne h2 h1 (by decide) g hg e
  have n2 : ∀ g, Value.ownBlock (.slice A' s.wl.length c') = some g → ¬ g = h := fun g hg e => own_blk_ne h3 h1 (by decide) g hg e
  have ho : Only (fun k => k = h) w (w.setCell ⟨h, 3, none⟩ (.bool b)) := (Only.refl (fun k => k = h) w).setCell (p := ⟨h, 3, none⟩) (.inl rfl) _
  exact ⟨A, A', c, c', h1.set_ 3 _, own_only h2 ho n1, own_only h3 ho n2, h4, h5⟩
theorem Mp2.h_in {w : World} {h : Nat} {S : Nat → Prop} {s : St} (m : Mp2 w h S s) : S h := by
  obtain ⟨A, A', c, c', h1, h2, h3, h4, h5⟩ := m
  exact (h5 h).2 (.inl rfl)

set_option maxRecDepth 100000 in
theorem ends_yes (h : Nat) (S : Nat → Prop) (s : St) (w : World) (m : Mp2 w h S s) (ho : s.op = true) : Calls Try.prog 43 #[.pointer (some ⟨h, 0, none⟩)] w fun e w' => e = .returned (.int .i64 0) ∧ Mp2 w' h S { s with op := false } ∧ Only S w w' := by
  have hm := m.opened false
  have hin := m.h_in
  obtain ⟨A, A', c, c', h1, _⟩ := m
  have c3 := h1.cell 3
  have f3 := h1.frozen 3
  simp [ho] at c3
  have HM := Lib.hid (And.intro hm hin)
  clear hm hin h1 ho
  go_enter Try.func43, Try.ntmps43
  go_wp2_with fail
  go_ret
  exact ⟨rfl, HM.out.1, (Only.refl S w).setCell (p := ⟨h, 3, none⟩) (.inl HM.out.2) _⟩
/-- the former state taken back -/
theorem Mp2.back {w : World} {h : Nat} {S : Nat → Prop} {s : St} (m : Mp2 w h S s) (ho : s.op = false) : ∃ (A' : Option Addr) (c' : Nat) (S' : Nat → Prop), w.cell? ⟨h, 2, none⟩ = some (.slice A' s.wl.length c') ∧
    Mp ((w.setCell ⟨h, 1, none⟩ (.slice A' s.wl.length c')).setCell ⟨h, 2, none⟩ (.slice none 0 0)) h S' ⟨s.f, s.wl, false, []⟩ ∧ (∀ k, S' k → S k) := by
  obtain ⟨A, A', c, c', h1, h2, h3, h4, h5⟩ := m
  have n2 : ∀ g, Value.ownBlock (.slice A' s.wl.length c') = some g → ¬ g = h := fun g hg e => own_blk_ne h3 h1 (by decide) g hg e
  have ho2 : Only (fun k => k = h) w ((w.setCell ⟨h, 1, none⟩ (.slice A' s.wl.length c')).setCell ⟨h, 2, none⟩ (.slice none 0 0)) :=
    ((Only.refl (fun k => k = h) w).setCell (p := ⟨h, 1, none⟩) (.inl rfl) _).setCell (p := ⟨h, 2, none⟩) (.inl rfl) _
  have hb := (h1.set_ 1 (.slice A' s.wl.length c')).set_ 2 (.slice none 0 0)
  rw [ho] at hb
  refine ⟨A', c', fun k => k = h ∨ Value.ownBlock (.slice A' s.wl.length c') = some k, by rw [h1.cell 2]; rfl, ⟨A', none, c', 0, [], hb, own_only h3 ho2 n2, World.ownsRow_nil _ _ _ _, ⟨(fun e => by cases e), Nat.zero_le _⟩, (fun k _ => by simp [Value.ownBlock]), fun k => ?_⟩, fun k hk => ?_⟩
  · simp [Value.ownBlock]
  · rcases hk with rfl | e
    · exact (h5 k).2 (.inl rfl)
    · exact (h5 k).2 (.inr (.inr e))

set_option maxRecDepth 100000 in
theorem abort_yes (h : Nat) (S : Nat → Prop) (s : St) (w : World) (m : Mp2 w h S s) (ho : s.op = true) : Calls Try.prog 26 #[.pointer (some ⟨h, 0, none⟩)] w fun e w' => e = .returned (.int .i64 0) ∧
    ∃ S' : Nat → Prop, Mp w' h S' ⟨s.f, s.wl, false, []⟩ ∧ (∀ k, S' k → S k) ∧ Only S w w' := by
  have hin := m.h_in
  have HE := Lib.hid (And.intro (ends_yes h S s w m ho) hin)
  clear m ho hin
  go_enter Try.func26, Try.ntmps26
  go_wp2_with fail
  refine HE.out.1.mono ?_
  rintro e w1 ⟨rfl, hm, ho⟩
  obtain ⟨A', c', S', x2, hback, hsub⟩ := hm.back rfl
  obtain ⟨B, B', d, d', h1, _⟩ := hm
  have f1 := h1.frozen 1
  have f2 := h1.frozen 2
  have x1 := h1.cell 1
  have xx2 : (w1.setCell ⟨h, 1, none⟩ (.slice A' s.wl.length c')).cell? ⟨h, 2, none⟩ = some (.slice A' s.wl.length c') := by rw [(h1.set_ 1 _).cell 2]; have := h1.cell 2; rw [x2] at this; simpa using this.symm
  have HM := Lib.hid (And.intro hback (And.intro hsub ho))
  simp at x1
  clear hback hsub ho h1
  go_wp2_with fail
  all_goals
    go_ret
    exact ⟨rfl, S', HM.out.1, HM.out.2.1, (HM.out.2.2.setCell (p := ⟨h, 1, none⟩) (.inl HE.out.2) _).setCell (p := ⟨h, 2, none⟩) (.inl HE.out.2) _⟩
end Go.Proofs.Ytinjkjgahipimaa
