/-
  The reference's Twin.
-/
import Derived.Test.YtinjkjgahipimaaETwin
import Derived.Test.YtinjkjgahipimaaEUnd
set_option linter.unusedVariables false
namespace Go.Proofs.Ytinjkjgahipimaa
open Go.RowKit

theorem own0 {W : World} {g : Nat} (h : Blk W g 3 #[]) : W.ownsRow 0 3 1 (.slice (some ⟨g, 0, none⟩) 0 0) 0 [] := ⟨rfl, .inr ⟨g, 0, #[], rfl, Nat.zero_le _, h, Nat.le_refl _, Nat.zero_le _, rfl, rfl⟩⟩
theorem src_below {w W : World} {A : Option Addr} {c : Nat} {l : List Nat} (h : w.ownsRow 0 3 1 (.slice A l.length c) l.length (i64s l)) (hb : Below w.heap.size w W) : Src W A (i64s l) :=
  Src.own (own_only h (F := fun _ => False) (Only.of_below hb) (fun _ _ => id))
theorem blk_two (w : World) : Blk ((w.alloc (Obj.cells #[] 3)).alloc (Obj.cells #[] 3)) (w.heap.size + 1) 3 #[] := by
  have := Blk.new (w.alloc (Obj.cells #[] 3)) 3 #[]
  simpa using this
theorem below_al {w W : World} (hb : Below w.heap.size w W) (o : Obj) : Below w.heap.size w (W.alloc o) := hb.alloc hb.size o
theorem step_tw {ops : Array Oper} {o : Oper} {a : Act} {K : Act → World → Prop} {Q : Exit → Act → World → Prop} {E : Prop} (hgd : o.guard = none) (s x : Operand)
    (ho : o.op = .call { callee := .builtin .append, args := #[s, x], argTypes := #[55, 55] }) {W w : World} (g : Nat) (A : Option Addr) (c : Nat) (l : List Nat)
    (hs : a.eval s = .slice (some ⟨g, 0, none⟩) 0 0) (hx : a.eval x = .slice A l.length c) (hbk : Blk W g 3 #[]) (hw : w.ownsRow 0 3 1 (.slice A l.length c) l.length (i64s l)) (hb : Below w.heap.size w W) (hgw : w.heap.size ≤ g) (hl : l.length ≤ 4096)
    (h : ∀ B d y, y.ownsRow 0 3 1 (.slice B l.length d) l.length (i64s l) → Below w.heap.size w y → Only (fun k => k = g) W y → (∀ k, ob B = some k → k = g ∨ W.heap.size ≤ k) → K (a.put o.dst (.slice B l.length d)) y) :
    if Region.wanted o (yielded ops a.tmps) = true then Oper.wp Try.prog o a W K Q else E := by
  obtain ⟨i0, hi, hz0, hz1, hz2⟩ := info_parts info3
  refine step_append_sz W hgd s x 55 ho 0 3 i0 (.int .i64 0) 1 8 Try.underlying55 hi hz0 hz1 hz2 rfl (by decide) _ 0 [] hs (own0 hbk) A l.length c (i64s l) hx (by rw [length_i64s, Nat.mul_one]) (src_below hw hb) (i64s_one l) (by unfold maxLen; omega) (by omega) (Nat.zero_le _) ?_
  intro B d y hown hg hat
  rw [Nat.zero_add] at hown hat ⊢
  refine h B d y hown (hb.grown hg hb.size (fun k hk => ?_)) ((Only.refl (fun k => k = g) W).grown hg (fun k hk => ?_)) (fun k hk => ?_)
  · simp [Value.ownBlock] at hk; omega
  · simp [Value.ownBlock] at hk; exact .inl hk.symm
  · rw [ob_eq] at hat
    rcases hat with e | e
    · rw [e] at hk; simp [Value.ownBlock] at hk; exact .inl hk.symm
    · rw [e] at hk; simp at hk; exact .inr (by omega)

set_option maxRecDepth 100000 in
set_option maxHeartbeats 4000000 in
theorem rtwin_any (h : Nat) (S : Nat → Prop) (s : St) (w : World) (m : Rm w h S s) (ok : s.Ok) : Calls Try.prog 30 #[.pointer (some ⟨h, 0, none⟩)] w fun e w' =>
    ∃ (h2 : Nat) (S2 : Nat → Prop), e = .returned (.pointer (some ⟨h2, 0, none⟩)) ∧ Rm w' h2 S2 s ∧ Below w.heap.size w w' ∧ ∀ k, S2 k → w.heap.size ≤ k := by
  obtain ⟨A, A', c, c', wl, hb, h1, h2, h3, h4, hS⟩ := m
  have hle := ok.le
  obtain ⟨f, l, op, wl0⟩ := s
  dsimp only at hb h1 h2 hS hle
  have hlw := h3.2
  have hP : ∀ w', Below w.heap.size w w' → w'.cell? ⟨h, 0, none⟩ = some (.int .i64 f) ∧ w'.cell? ⟨h, 1, none⟩ = some (.int .i64 l.length) ∧ w'.cell? ⟨h, 2, none⟩ = some (.slice A l.length c) ∧ w'.cell? ⟨h, 3, none⟩ = some (.slice A' wl.length c') ∧ w'.cell? ⟨h, 4, none⟩ = some (.bool op) := fun w' hw => by
    have hk := hb.below hw hb.lt
    exact ⟨hk.cell 0, hk.cell 1, hk.cell 2, hk.cell 3, hk.cell 4⟩
  have x0 := hP w (Below.refl _ _)
  have HP := Lib.hid hP
  have H1 := Lib.hid h1
  have H2 := Lib.hid h2
  have H3 := Lib.hid h3
  clear hP h1 h2 h3 h4 hS ok hb
  go_enter Try.func30, Try.ntmps30
  go_upto_region 1 with fail
  go_region_held3 (fun w' => w'.cell? ⟨h, 0, none⟩ = some (.int .i64 f) ∧ w'.cell? ⟨h, 1, none⟩ = some (.int .i64 l.length) ∧ w'.cell? ⟨h, 2, none⟩ = some (.slice A l.length c) ∧ w'.cell? ⟨h, 3, none⟩ = some (.slice A' wl.length c') ∧ w'.cell? ⟨h, 4, none⟩ = some (.bool op))
    (first | exact x0 | exact HP.out _ (by repeat (first | exact Below.refl _ _ | refine Below.drew ?_ | refine below_al ?_ _ | exact K2.out.2.1 | exact K1.out.2.1)))
    (first
      | (refine step_tw (w := w) rfl (.tmp 11) (.tmp 15) rfl _ A c l rfl rfl (by first | exact Blk.new w 3 #[] | exact (Blk.new w 3 #[]).alloc _ | exact blk_two w) H1.out (by repeat (first | exact Below.refl _ _ | refine Below.drew ?_ | refine below_al ?_ _)) (by first | (simp; done) | exact K1.out.2.1.size) hle ?_
         intro B1 d1 y1 e1 e2 e3 e4
         have K1 := Lib.hid (And.intro e1 (And.intro e2 (And.intro e3 e4)))
         clear e1 e2 e3 e4)
      | (refine step_tw (w := w) rfl (.tmp 17) (.tmp 21) rfl _ A' c' wl rfl rfl (by first | exact Blk.new y1 3 #[] | exact (K1.out.2.2.1.block _ (by first | (simp; done) | (simp; omega)) (by simp)).trans ((Blk.new w 3 #[]).alloc _) | exact (K1.out.2.2.1.block _ (by first | (simp; done) | (simp; omega)) (by simp)).trans (blk_two w)) H2.out (by repeat (first | refine Below.drew ?_ | refine below_al ?_ _ | exact K1.out.2.1)) (by first | (simp; done) | exact K1.out.2.1.size) hlw ?_
         intro B2 d2 y2 e1 e2 e3 e4
         have K2 := Lib.hid (And.intro e1 (And.intro e2 (And.intro e3 e4)))
         clear e1 e2 e3 e4))
  all_goals
    go_wp2_with fail
    go_ret
    obtain ⟨p1, p2, p3, p4⟩ := K1.out
    obtain ⟨r1, r2, r3, r4⟩ := K2.out
    have g1 := fun g hg => (p1.lt g hg).2
    have g2 := fun g hg => (r1.lt g hg).2
    have hsz := r3.size
    have hne : ∀ k, Value.ownBlock (.slice B1 l.length d1) = some k → k < y1.heap.size ∧ _ := fun k hk => ⟨g1 k hk, p4 k (by rw [← ob_eq B1 l.length d1]; exact hk)⟩
    have hne2 : ∀ k, Value.ownBlock (.slice B2 wl.length d2) = some k → _ := fun k hk => r4 k (by rw [← ob_eq B2 wl.length d2]; exact hk)
    simp at hne hne2
    have p5 := own_only (own_only p1 (F := fun _ => False) (Only.of_below (by repeat (first | exact Below.refl _ _ | refine Below.drew ?_ | refine below_al ?_ _))) (fun _ _ => id)) r3 (fun k hk e => by
      have q := hne k hk
      have e2 : k = _ := e
      omega)
    refine ⟨y2.heap.size, fun k => k = y2.heap.size ∨ Value.ownBlock (.slice B1 l.length d1) = some k ∨ Value.ownBlock (.slice B2 wl.length d2) = some k, rfl, ⟨B1, B2, d1, d2, wl, Blk.new _ _ _, own_base (p5.alloc _), own_base (r1.alloc _), H3.out, .inl (fun k e1 e2 => ?_), fun k => Iff.rfl⟩, below_al r2 _, ?_⟩
    · have h1 := hne k e1
      have h2 := hne2 k e2
      omega
    · have hk1 := p2.size
      rintro k (rfl | e | e)
      · exact r2.size
      · have := hne k e; omega
      · have := hne2 k e; omega
end Go.Proofs.Ytinjkjgahipimaa
