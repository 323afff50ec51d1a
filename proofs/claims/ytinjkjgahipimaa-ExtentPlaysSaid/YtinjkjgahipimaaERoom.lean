/-
  Room: the walk.
-/
import Derived.Test.YtinjkjgahipimaaEIter
set_option linter.unusedVariables false
namespace Go.Proofs.Ytinjkjgahipimaa
open Go.RowKit Go.Shelf
attribute [local go_sem] Oper.semAt_some

/-- what an iterator's caller needs to know of a map -/
theorem Mp.rd {w w1 : World} {h Bm : Nat} {S : Nat → Prop} {s : St} (m : Mp w h S s) (hb : Below w.heap.size w w1) (hB : w.heap.size ≤ Bm) (hBs : Bm < w1.heap.size) (hc : w1.cell? ⟨Bm, 0, none⟩ = some (.pointer (some ⟨h, 0, none⟩))) :
    ∃ (A : Option Addr) (c : Nat) (G : Nat → Prop), Rd G Bm h A c s.f s.l w1 ∧ (∀ k, G k → k < w1.heap.size) ∧ (∀ k, G k → k = Bm ∨ S k) := by
  have m1 := m.below hb
  obtain ⟨A, A', c, c', wl, hbk, h1, h2, h3, h4, hS⟩ := m1
  refine ⟨A, c, fun k => k = Bm ∨ S k, ⟨hc, ?_, ?_, ?_, .inl rfl, .inr ((hS h).2 (.inl rfl))⟩, ?_, fun k hk => hk⟩
  · rw [hbk.cell 0]; rfl
  · rw [hbk.cell 1]; rfl
  · intro k hk
    obtain ⟨a, e, hcell⟩ := Src.own h1 k _ (u8s_get hk)
    refine ⟨a, e, hcell, .inr ((hS _).2 (.inr (.inl ?_)))⟩
    subst e; rfl
  · rintro k (rfl | hk)
    · exact hBs
    · exact Nat.lt_of_lt_of_le (m.lt k hk) hb.size

theorem room_nil (w : World) : Calls Try.prog 20 #[.pointer none] w fun e w' => e = .returned (.int .i64 0) ∧ Below w.heap.size w w' := by
  go_enter Try.func20, Try.ntmps20
  go_wp2_with fail
  go_ret
  exact ⟨rfl, (Below.refl _ _).alloc (Nat.le_refl _) _⟩

theorem wrap_step (a b : Nat) : wrap64 (wrap64 (a : Int) + (b : Int)) = wrap64 ((a + b : Nat) : Int) := by unfold wrap64; omega
theorem wrap_small {a : Nat} (h : a ≤ 4096) : wrap64 (a : Int) = (a : Int) := by unfold wrap64; omega
theorem ownFrom_size {β : Type} (B N : Nat) : OwnFrom B (fun (_ : β) W => N ≤ W.heap.size) := fun _ _ _ _ hs hg _ => Nat.le_trans hs hg.size
/-- a block of cells lies as it lay -/
theorem blk_own {β : Type} (g : Nat) (t : TypeId) (f : β → Array Value) : Own (fun s W => Blk W g t (f s)) := fun s X Y row hs hg hrow =>
  (hg.block g hs.lt (fun e' => by obtain ⟨o, ho, hc⟩ := hrow g e'.symm; rw [show X.heap[g]? = _ from hs] at ho; cases ho; cases hc)).trans hs

set_option maxRecDepth 100000 in
set_option maxHeartbeats 2000000 in
theorem room_in (F : Fence) (n : Nat) (hF : ∀ k, F.fn k) (hro : F.round = none) (hn : 5 ≤ n) (h : Nat) (S : Nat → Prop) (s : St) (w : World) (m : Mp w h S s) (ok : s.Ok) :
    CallsIn F n Try.prog 20 #[.pointer (some ⟨h, 0, none⟩)] w fun e w' => e = .returned (.int .i64 (room s.l s.f : Nat)) ∧ Below w.heap.size w w' := by
  have h1 : 1 ≤ n := by omega
  refine callsIn_of_wp_marks Try.func20 rfl (hF 20) ?_ hro
  simp only [Try.ntmps20, List.size_toArray, List.length_cons, List.length_nil, Nat.reduceAdd, Nat.reduceSub, Array.replicate_succ, Array.replicate_zero, List.push_toArray, List.append_toArray, List.nil_append, List.cons_append]
  have HM := Lib.hid (And.intro m ok)
  clear m ok
  gi_wp2_with (gi_at_call 38; refine (spaces_in F (n - 1) (hF 38) hro _ _).mono ?_; rintro e w' ⟨rfl, rfl⟩)
  have bN := (Boxed.new w 3 (.int .i64 0)).alloc (.cells #[.pointer (some ⟨h, 0, none⟩)] 26)
  have bB := Boxed.new (w.alloc (.cells #[.int .i64 0] 3)) 26 (.pointer (some ⟨h, 0, none⟩))
  simp only [World.size_alloc] at bB
  have hB0 : Below w.heap.size w ((w.alloc (.cells #[.int .i64 0] 3)).alloc (.cells #[.pointer (some ⟨h, 0, none⟩)] 26)) := ((Below.refl _ w).alloc (Nat.le_refl _) _).alloc (by simp) _
  have hsz : ((w.alloc (.cells #[.int .i64 0] 3)).alloc (.cells #[.pointer (some ⟨h, 0, none⟩)] 26)).heap.size = w.heap.size + 2 := by simp
  obtain ⟨W0, hW0⟩ : ∃ W0, (w.alloc (.cells #[.int .i64 0] 3)).alloc (.cells #[.pointer (some ⟨h, 0, none⟩)] 26) = W0 := ⟨_, rfl⟩
  rw [hW0] at bN bB hB0 hsz ⊢
  clear hW0
  obtain ⟨A, c, G, hrd, hGs, hGm⟩ := HM.out.1.rd hB0 (Nat.le_succ _) (by omega) bB.cell
  have hGn : ¬ G w.heap.size := fun hg => by
    rcases hGm _ hg with e | e
    · omega
    · have := HM.out.1.lt _ e; omega
  refine wpIn_rangeFunc_ownH hro h1 (gf := 52) (lb := #[.pointer (some ⟨w.heap.size + 1, 0, none⟩)]) rfl (hF 52) (enters_of Try.func52 (by kernel_rfl) rfl)
    (spaces_stops F (n - 1) (hF 52) hro (by omega) G (w.heap.size + 1) h c s.f A s.l W0 hGs hrd HM.out.2.le HM.out.2.fl) Kg.trans (kg_b hGs) (Below.refl _ _) (fun _ => rfl)
    (fun pre W => Boxed W w.heap.size 3 (.int .i64 (wrap64 (lenS (vals pre) : Nat))) ∧ (Below w.heap.size w W ∧ W0.heap.size ≤ W.heap.size))
    (fun _ _ _ => False)
    (OwnFrom.and (Own.from (boxed_own _ _ _) _) (OwnFrom.and (ownFrom_below (Nat.le_refl _) (by omega)) (ownFrom_size _ _)))
    (fun _ _ _ _ _ hs _ _ => hs)
    ⟨by have e : wrap64 ((lenS (vals ([] : List (Sx s.l s.f))) : Nat) : Int) = 0 := by simp [vals, lenS, wrap64]
        rw [e]; exact bN, hB0, Nat.le_refl _⟩
    (fun x a' W => ∃ Bx, w.heap.size + 1 < Bx ∧ Blk W Bx 39 #[.int .i64 x.1.1, .int .i64 x.1.2] ∧ a' = { tmps := #[.pointer (some ⟨h, 0, none⟩), undef, .int .i64 0, .pointer (some ⟨w.heap.size, 0, none⟩), .pointer (some ⟨Bx, 0, none⟩), .pointer (some ⟨h, 0, none⟩), .bool true, .pointer (some ⟨h, 0, none⟩), .func (.func 52) #[] #[.pointer (some ⟨w.heap.size + 1, 0, none⟩)], exV x.1, undef, undef, undef, undef, undef], defers := [] })
    (fun x a' _ X Y row hs hg hr => by obtain ⟨Bx, h1, h2, h3⟩ := hs; exact ⟨Bx, h1, blk_own Bx 39 (fun (_ : Unit) => #[.int .i64 x.1.1, .int .i64 x.1.2]) () X Y row h2 hg (fun r e => (hr r e).2), h3⟩)
    ?assign ?body ?done ?stop
  case assign =>
    rintro l pre x W K ⟨bN1, hB1, hp⟩ hK
    unfold exV at *
    gi_wp2
    exact hK _ _ ((KeepsOthers.alloc _ _).from _) ((Kg.refl _ W).alloc (fun k hk => Nat.lt_of_lt_of_le (hGs k hk) hp) _) ⟨bN1.alloc _, hB1.alloc hB1.size _, Nat.le_trans hp (by simp)⟩ ⟨W.heap.size, by omega, Blk.new W 39 _, rfl⟩
  case body =>
    rintro l pre x a' W hl ⟨r, hr⟩ ⟨bN1, hB1, hp⟩ ⟨Bx, hBx, bX, rfl⟩ hlt
    have c0 := bN1.cell
    have f0 := bN1.frozen
    have x1 := bX.cell 1
    simp at x1
    have hw := wrap_step (lenS (vals pre)) x.1.2
    have he : lenS (vals (pre ++ [x])) = lenS (vals pre) + x.1.2 := by rw [vals_snoc, lenS_append]; rfl
    have HE := Lib.hid he
    clear he
    gi_wp2
    refine ⟨(KeepsOthers.setCell _ _ _).from _, (Kg.refl _ W).setCell (p := ⟨w.heap.size, 0, none⟩) hGn _, by rw [HE.out]; exact bN1.set _, hB1.setCell (p := ⟨w.heap.size, 0, none⟩) (Nat.le_refl _) _, by simpa [World.setCell] using hp⟩
  case done =>
    rintro D zs W hD hz ⟨bN1, hB1, hp⟩ hK
    have c0 := bN1.cell
    rw [hz, lenS_spaces, wrap_small (Nat.le_trans (room_le _ _) HM.out.2.le)] at c0
    gi_wp2
    refine ⟨by simp, .inl ⟨_, _, rfl, run_takeDeferred hK, ?_⟩⟩
    exact ⟨_, results_tmp rfl _ _ _, rfl, hB1.trans (belowK_b (w := w) (Nat.le_refl _) W D _ _ (by omega) hK rfl rfl)⟩
  case stop =>
    rintro D c pre W _ _ h _
    exact h.elim
theorem room_any (h : Nat) (S : Nat → Prop) (s : St) (w : World) (m : Mp w h S s) (ok : s.Ok) :
    Calls Try.prog 20 #[.pointer (some ⟨h, 0, none⟩)] w fun e w' => e = .returned (.int .i64 (room s.l s.f : Nat)) ∧ Below w.heap.size w w' :=
  (callsIn_wide (n := 5)).1 (room_in Fence.wide 5 (fun _ => trivial) rfl (Nat.le_refl _) h S s w m ok)
end Go.Proofs.Ytinjkjgahipimaa
