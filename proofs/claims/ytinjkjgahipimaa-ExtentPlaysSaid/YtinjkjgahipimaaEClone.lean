/-
  slices.Clone of a map's states.
-/
import Derived.Test.YtinjkjgahipimaaEBegin
import Derived.Lib.SliceRun
set_option linter.unusedVariables false
namespace Go.Proofs.Ytinjkjgahipimaa
open Go.RowKit

set_option maxRecDepth 100000 in
theorem clone_any (A : Option Addr) (n c : Nat) (l : List Nat) (w : World) (h : w.ownsRow 0 65 1 (.slice A n c) n (u8s l)) (hn : n ≤ 4096) :
    Calls Try.prog 42 #[.slice A n c] w fun e w' => ∃ A' c', e = .returned (.slice A' n c') ∧ w'.ownsRow w.heap.size 65 1 (.slice A' n c') n (u8s l) ∧ Below w.heap.size w w' := by
  obtain ⟨i0, hi, hz0, hz1, hz2⟩ := info_parts info65
  have hl : l.length = n := by have := h.1; simpa [u8s] using this
  have hnew : (w.alloc (.cells #[] 65)).ownsRow w.heap.size 65 1 (.slice (some ⟨w.heap.size, 0, none⟩) 0 0) 0 [] := ⟨rfl, .inr ⟨w.heap.size, 0, #[], rfl, Nat.le_refl _, Blk.new w 65 #[], Nat.le_refl _, Nat.zero_le _, rfl, rfl⟩⟩
  have hu := Try.underlying66
  have hq : ∀ (a : Option Addr) (l c : Nat), (binOp .eql 66 (.slice a l c) (.slice none 0 0)).run Try.prog w = .ok (.bool a.isNone) w := fun a l c => Lib.run_eql_slice_nil w 66 65 a l c 0 0 hu
  rcases A with _ | a
  · have hn0 : n = 0 ∧ c = 0 := by
      rcases h.2 with ⟨e, h0⟩ | ⟨g, cap, cur, e, _⟩
      · injection e with _ e2 e3; exact ⟨e2, e3⟩
      · cases e
    obtain ⟨rfl, rfl⟩ := hn0
    have hnil : l = [] := List.eq_nil_of_length_eq_zero hl
    subst hnil
    clear h hl hnew
    go_enter Try.func42, Try.ntmps42
    go_wp2_with fail
    go_ret
    exact ⟨none, 0, rfl, World.ownsRow_nil _ _ _ _, Below.refl _ _⟩
  · have HH := Lib.hid (And.intro h (And.intro hl hnew))
    clear h hl hnew
    go_enter Try.func42, Try.ntmps42
    go_wp2_with (refine wpList_append_sz _ rfl (.tmp 5) (.tmp 6) 66 rfl w.heap.size 65 i0 (.int .u8 0) 1 1 Try.underlying66 hi hz0 hz1 hz2 rfl (by decide) _ 0 [] rfl HH.out.2.2 (some a) n c (u8s l) rfl ?q1 (Src.own (HH.out.1.alloc _)) ?q2 ?q3 ?q4 ?q5 ?_)
    case q1 => simp [u8s]; exact HH.out.2.1
    case q2 =>
      intro u hu
      simp only [u8s, List.mem_map] at hu
      obtain ⟨x, _, rfl⟩ := hu
      rfl
    case q3 => unfold maxLen; omega
    case q4 => omega
    case q5 => simp
    intro A' c' w' hown hg hat
    have hb : Below w.heap.size w w' := ((Below.refl _ w).alloc (Nat.le_refl _) (.cells #[] 65)).grown hg (by simp) (fun k hk => by cases hk; exact Nat.le_refl _)
    have HO := Lib.hid (And.intro hown hb)
    clear hown hg hat hb
    go_wp2_with fail
    go_ret
    exact ⟨A', c', rfl, HO.out.1, HO.out.2⟩
end Go.Proofs.Ytinjkjgahipimaa
