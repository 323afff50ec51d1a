/-
  Spaces: the free extents, collected.
-/
import Derived.Test.YtinjkjgahipimaaERoom
set_option linter.unusedVariables false
namespace Go.Proofs.Ytinjkjgahipimaa
open Go.RowKit Go.Shelf
attribute [local go_sem] Oper.semAt_some

/-- extents, cell by cell -/
def exs (xs : List (Nat × Nat)) : List Value := xs.flatMap fun x => [.int .i64 x.1, .int .i64 x.2]
theorem exs_append (xs ys : List (Nat × Nat)) : exs (xs ++ ys) = exs xs ++ exs ys := by simp [exs]
theorem length_exs : ∀ xs : List (Nat × Nat), (exs xs).length = xs.length * 2
  | [] => rfl
  | x :: xs => by
    have : exs (x :: xs) = [.int .i64 x.1, .int .i64 x.2] ++ exs xs := by simp [exs]
    rw [this, List.length_append, length_exs xs, List.length_cons]; simp; omega
theorem cell_two_new (w : World) (x y : Value) (t : TypeId) : ∀ j u, [x, y][j]? = some u → (w.alloc (.cells #[x, y] t)).cell? ((⟨w.heap.size, 0, none⟩ : Addr).add j) = some u := by
  intro j u hj
  have hB := Blk.new w t #[x, y]
  match j, hj with
  | 0, hj => rw [show (⟨w.heap.size, 0, none⟩ : Addr).add 0 = ⟨w.heap.size, 0, none⟩ from rfl, hB.cell 0]; exact hj
  | 1, hj => rw [show (⟨w.heap.size, 0, none⟩ : Addr).add 1 = ⟨w.heap.size, 1, none⟩ from rfl, hB.cell 1]; exact hj
  | n + 2, hj => simp at hj

set_option maxRecDepth 100000 in
set_option maxHeartbeats 2000000 in
theorem appendSeq_in (F : Fence) (n : Nat) (hF : ∀ k, F.fn k) (hro : F.round = none) (hn : 5 ≤ n) (G : Nat → Prop) (Bm h c f : Nat) (A : Option Addr) (L : List Nat) (w : World)
    (hGs : ∀ k, G k → k < w.heap.size) (hr : Rd G Bm h A c f L w) (hL : L.length ≤ 4096) (hfL : f ≤ L.length) :
    CallsIn F n Try.prog 51 #[.slice none 0 0, .func (.func 52) #[] #[.pointer (some ⟨Bm, 0, none⟩)]] w fun e w' => ∃ v, e = .returned v ∧ w'.ownsRow w.heap.size 39 2 v (spc L f).length (exs (spc L f)) ∧ Below w.heap.size w w' := by
  have h1 : 1 ≤ n := by omega
  obtain ⟨i0, hi, hz0, hz1, hz2⟩ := info_parts info39
  refine callsIn_of_wp_marks Try.func51 rfl (hF 51) ?_ hro
  simp only [Try.ntmps51, List.size_toArray, List.length_cons, List.length_nil, Nat.reduceAdd, Nat.reduceSub, Array.replicate_succ, Array.replicate_zero, List.push_toArray, List.append_toArray, List.nil_append, List.cons_append]
  gi_wp2
  have bO := Boxed.new w 37 (.slice none 0 0)
  have hB0 : Below w.heap.size w (w.alloc (.cells #[.slice none 0 0] 37)) := (Below.refl _ w).alloc (Nat.le_refl _) _
  have hsz : (w.alloc (.cells #[.slice none 0 0] 37)).heap.size = w.heap.size + 1 := by simp
  obtain ⟨W0, hW0⟩ : ∃ W0, w.alloc (.cells #[.slice none 0 0] 37) = W0 := ⟨_, rfl⟩
  rw [hW0] at bO hB0 hsz ⊢
  clear hW0
  have hG0 : ∀ k, G k → k < W0.heap.size := fun k hk => by have := hGs k hk; omega
  have hr0 : Rd G Bm h A c f L W0 := hr.keep ⟨hB0.size, fun k hk => hB0.block k (hGs k hk)⟩
  refine wpIn_rangeFunc_ownH hro h1 (gf := 52) (lb := #[.pointer (some ⟨Bm, 0, none⟩)]) rfl (hF 52) (enters_of Try.func52 (by kernel_rfl) rfl)
    (spaces_stops F (n - 1) (hF 52) hro (by omega) G Bm h c f A L W0 hG0 hr0 hL hfL) Kg.trans (kg_b hG0) (Below.refl _ _) (fun _ => rfl)
    (fun pre W => (∃ v, Boxed W w.heap.size 37 v ∧ W.ownsRow w.heap.size 39 2 v pre.length (exs (vals pre)) ∧ True) ∧ (Below w.heap.size w W ∧ W0.heap.size ≤ W.heap.size))
    (fun _ _ _ => False)
    (OwnFrom.and (Own.from (holdsRow_own w.heap.size w.heap.size 37 39 2 (fun pre => pre.length) (fun pre => exs (vals pre)) (fun _ _ => True)) _) (OwnFrom.and (ownFrom_below (Nat.le_refl _) (by omega)) (ownFrom_size _ _)))
    (fun _ _ _ _ _ hs _ _ => hs)
    ⟨⟨_, bO, World.ownsRow_nil _ _ _ _, trivial⟩, hB0, Nat.le_refl _⟩
    (fun x a' W => ∃ Bx, w.heap.size < Bx ∧ Blk W Bx 39 #[.int .i64 x.1.1, .int .i64 x.1.2] ∧ a' = { tmps := #[.slice none 0 0, .func (.func 52) #[] #[.pointer (some ⟨Bm, 0, none⟩)], .pointer (some ⟨w.heap.size, 0, none⟩), undef, .slice none 0 0, .pointer (some ⟨Bx, 0, none⟩), .func (.func 52) #[] #[.pointer (some ⟨Bm, 0, none⟩)], exV x.1, undef, undef, undef, undef, undef], defers := [] })
    (fun x a' _ X Y row hs hg hr => by obtain ⟨Bx, h1, h2, h3⟩ := hs; exact ⟨Bx, h1, blk_own Bx 39 (fun (_ : Unit) => #[.int .i64 x.1.1, .int .i64 x.1.2]) () X Y row h2 hg (fun r e => (hr r e).2), h3⟩)
    ?assign ?body ?done ?stop
  case assign =>
    rintro l pre x W K ⟨⟨v, bv, hrow, _⟩, hB1, hp⟩ hK
    unfold exV at *
    gi_wp2
    exact hK _ _ ((KeepsOthers.alloc _ _).from _) ((Kg.refl _ W).alloc (fun k hk => Nat.lt_of_lt_of_le (hG0 k hk) hp) _) ⟨⟨v, bv.alloc _, hrow.alloc _, trivial⟩, hB1.alloc hB1.size _, Nat.le_trans hp (by simp)⟩ ⟨W.heap.size, by omega, Blk.new W 39 _, rfl⟩
  case body =>
    rintro l pre x a' W hl ⟨r, hr⟩ ⟨⟨v, bv, hrow, _⟩, hB1, hp⟩ ⟨Bx, hBx, bX, rfl⟩ hlt
    have hsl := spc_length L f
    have hpl : pre.length < 4096 := by omega
    have hc := bv.cell
    have x0 := bX.cell 0
    have x1 := bX.cell 1
    simp at x0 x1
    clear hsl hlt
    gi_wp2_with (gi_at_builtin; refine wpListIn_append_own _ rfl _ _ 37 rfl w.heap.size 39 i0 (.agg #[.int .i64 0, .int .i64 0]) 2 16 Try.underlying37 hi hz0 hz1 hz2 rfl (by decide) _ _ _ rfl (hrow.alloc _) ⟨W.heap.size, 0, none⟩ 1 1 [.int .i64 x.1.1, .int .i64 x.1.2] rfl rfl (cell_two_new _ _ _ _) (by simp [Value.oneCell']) (by unfold maxLen; omega) (by omega) (by have := hB1.size; simp; omega) ?_; intro v' w1 hown' hgrow _; obtain ⟨g', cap', rfl⟩ := ownsRow_succ hown'; obtain ⟨hv1, hv2, hr2, hk2, hb2⟩ := bv.appended (by decide) hrow hB1.size (Nat.le_refl _) hown' hgrow; have hc1 := hv1.cell; have hf1 := hv1.frozen)
    refine ⟨hk2.from _, ⟨hb2.size, fun k hk => hb2.block k (hGs k hk)⟩, ⟨_, hv2, ?_, trivial⟩, hB1.trans hb2, Nat.le_trans hp hb2.size⟩
    rw [vals_snoc, exs_append, List.length_append]
    exact hr2
  case done =>
    rintro D zs W hD hz ⟨⟨v, bv, hrow, _⟩, hB1, hp⟩ hK
    have hc := bv.cell
    rw [hz, ← vals_length, hz] at hrow
    gi_wp2
    refine ⟨by simp, .inl ⟨_, _, rfl, run_takeDeferred hK, ?_⟩⟩
    exact ⟨_, results_tmp rfl _ _ _, v, rfl, ownsRow_putObj hrow _ hK rfl, hB1.trans (belowK_b (w := w) (Nat.le_refl _) W D _ _ (by omega) hK rfl rfl)⟩
  case stop =>
    rintro D c pre W _ _ h _
    exact h.elim

theorem spaces_nil (w : World) : Calls Try.prog 16 #[.pointer none] w fun e w' => e = .returned (.slice none 0 0) ∧ w = w' := by
  go_enter Try.func16, Try.ntmps16
  go_wp2_with fail
  go_ret
  exact ⟨rfl, rfl⟩

set_option maxRecDepth 100000 in
set_option maxHeartbeats 2000000 in
theorem spacesC_any (h : Nat) (S : Nat → Prop) (s : St) (w : World) (m : Mp w h S s) (ok : s.Ok) :
    Calls Try.prog 16 #[.pointer (some ⟨h, 0, none⟩)] w fun e w' => ∃ v, e = .returned v ∧ w'.ownsRow w.heap.size 39 2 v (spc s.l s.f).length (exs (spc s.l s.f)) ∧ Below w.heap.size w w' := by
  have hsp := (callsIn_wide (n := 5)).1 (spaces_in Fence.wide 5 trivial rfl h w)
  have bB := Boxed.new w 26 (.pointer (some ⟨h, 0, none⟩))
  have hB0 : Below w.heap.size w (w.alloc (.cells #[.pointer (some ⟨h, 0, none⟩)] 26)) := (Below.refl _ w).alloc (Nat.le_refl _) _
  obtain ⟨A, c, G, hrd, hGs, hGm⟩ := m.rd hB0 (Nat.le_refl _) (by simp) bB.cell
  have hcol : Calls Try.prog 37 #[.func (.func 52) #[] #[.pointer (some ⟨w.heap.size, 0, none⟩)]] (w.alloc (.cells #[.pointer (some ⟨h, 0, none⟩)] 26)) fun e w' => ∃ v, e = .returned v ∧ w'.ownsRow w.heap.size 39 2 v (spc s.l s.f).length (exs (spc s.l s.f)) ∧ Below w.heap.size w w' := by
    have happ := (callsIn_wide (n := 5)).1 (appendSeq_in Fence.wide 5 (fun _ => trivial) rfl (Nat.le_refl _) G w.heap.size h c s.f A s.l _ hGs hrd ok.le ok.fl)
    clear hsp hrd hGs hGm bB
    have HB0 := Lib.hid hB0
    clear hB0
    go_enter Try.func37, Try.ntmps37
    go_wp2_with fail
    refine happ.mono ?_
    rintro e w' ⟨v, rfl, hown, hb⟩
    have HW := Lib.hid (And.intro hown hb)
    clear hown hb happ
    go_wp2_with fail
    go_ret
    refine ⟨v, rfl, ?_, HB0.out.trans (HW.out.2.mono (by simp))⟩
    have := HW.out.1
    rcases this.2 with ⟨e1, e2⟩ | ⟨g, cap, cur, e1, e2, e3⟩
    · exact ⟨this.1, .inl ⟨e1, e2⟩⟩
    · exact ⟨this.1, .inr ⟨g, cap, cur, e1, Nat.le_trans (by simp) e2, e3⟩⟩
  have HC := Lib.hid (And.intro hsp hcol)
  clear hsp hcol bB hB0 hrd hGs hGm
  go_enter Try.func16, Try.ntmps16
  go_wp2_with fail
  refine HC.out.1.mono ?_
  rintro e w' ⟨rfl, rfl⟩
  go_wp2_with fail
  refine HC.out.2.mono ?_
  rintro e w' ⟨v, rfl, hown, hb⟩
  have HW := Lib.hid (And.intro hown hb)
  clear hown hb
  go_wp2_with fail
  go_ret
  exact ⟨v, rfl, HW.out.1, HW.out.2⟩
end Go.Proofs.Ytinjkjgahipimaa
