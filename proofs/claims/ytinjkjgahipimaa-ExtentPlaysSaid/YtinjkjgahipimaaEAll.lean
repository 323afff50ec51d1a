/-
  Is all of an extent so: the walk; Take, Free.
-/
import Derived.Test.YtinjkjgahipimaaEOps2
set_option linter.unusedVariables false
namespace Go.Proofs.Ytinjkjgahipimaa
open Go.RowKit

theorem quiet_same {P : Program} {f : FuncId} {args : Array Value} {w : World} {v : Value} (n : Nat)
    (h : Calls P f args (w.drewN n) fun e w' => e = .returned v ∧ w.drewN n = w') : Calls P f args (w.drewN n) fun e w'' => e = .returned v ∧ w'' = w.drewN n :=
  h.mono fun _ _ ⟨he, hm⟩ => ⟨he, hm.symm⟩
theorem SlS.below {w w' : World} {A : Option Addr} {l : List Nat} (h : SlS w A l) (hb : Below w.heap.size w w') : SlS w' A l := by
  intro i hi
  obtain ⟨a, rfl, hc⟩ := h i hi
  exact ⟨a, rfl, (hb.cell (World.block_lt_of_cell? w _ hc)).trans hc⟩
def sub (l : List Nat) (a b : Nat) : List Nat := (l.drop a).take b
theorem length_sub {l : List Nat} {a b : Nat} (h : a + b ≤ l.length) : (sub l a b).length = b := by unfold sub; rw [List.length_take, List.length_drop]; omega
theorem getD_sub {l : List Nat} {a b j : Nat} (h : j < b) : (sub l a b).getD j 0 = l.getD (a + j) 0 := by
  unfold sub
  simp [List.getD, List.getElem?_drop, h]
theorem all_sub {l : List Nat} {a b v : Nat} (h : a + b ≤ l.length) : (∀ j, j < (sub l a b).length → (sub l a b).getD j 0 = v) ↔ AllP l a b v := by
  rw [length_sub h]
  exact ⟨fun hh j hj => by rw [← getD_sub hj]; exact hh j hj, fun hh j hj => by rw [getD_sub hj]; exact hh j hj⟩

set_option maxRecDepth 100000 in
set_option maxHeartbeats 2000000 in
theorem all_any (h : Nat) (S : Nat → Prop) (s : St) (a b v : Nat) (r : Bool) (w : World) (m : Mp w h S s) (hle : s.l.length ≤ 4096) (hb : 1 ≤ b) (hab : a + b ≤ s.l.length) (hr : r = true ↔ AllP s.l a b v) :
    Calls Try.prog 41 #[.pointer (some ⟨h, 0, none⟩), .agg #[.int .i64 a, .int .i64 b], .int .u8 v] w fun e w' => e = .returned (.bool r) ∧ Below w.heap.size w w' := by
  have hmf : ∀ (fn : Fn) (first cap : Array Value) (w : World), (Instr.makeFunc fn first cap).run Try.prog w = .ok (.func fn first cap) w := fun _ _ _ _ => rfl
  obtain ⟨w2, hw2⟩ : ∃ w2, w2 = (w.alloc (.cells #[.int .i64 a, .int .i64 b] 39)).alloc (.cells #[.int .u8 v] 65) := ⟨_, rfl⟩
  have hbx : Blk w2 w.heap.size 39 #[.int .i64 a, .int .i64 b] := by rw [hw2]; exact (Blk.new w 39 _).alloc _
  have hbv : Blk w2 (w.heap.size + 1) 65 #[.int .u8 v] := by
    rw [hw2]; have := Blk.new (w.alloc (.cells #[.int .i64 a, .int .i64 b] 39)) 65 #[.int .u8 v]
    rwa [World.size_alloc] at this
  have hbel : Below w.heap.size w w2 := by rw [hw2]; exact ((Below.refl _ w).alloc (Nat.le_refl _) _).alloc (by simp) _
  have m2 := m.below hbel
  obtain ⟨A, c, V, hbk, hown⟩ := m2.own
  have hcl : s.l.length ≤ c := by
    rcases hown.2 with ⟨e, h0⟩ | ⟨g, cap, cur, e, _, _, h5, _⟩
    · omega
    · cases e; exact h5
  obtain ⟨go, cap, e, _, _⟩ := World.ownsRow.form hown (by omega)
  injection e with e1 _ e3
  subst e1 e3
  have hsl : SlS w2 (some ⟨go, a, none⟩) (sub s.l a b) := by
    intro i hi
    rw [length_sub hab] at hi
    refine ⟨_, rfl, ?_⟩
    rw [getD_sub hi]
    have := (hown.cellAt (a + i) (by omega)).trans (u8s_get (by omega))
    have ha : (⟨go, a, none⟩ : Addr).add i = ⟨go, a + i, none⟩ := by unfold Addr.add; split <;> simp_all
    rw [ha]; exact this
  have hv := hbv.cell 0
  simp at hv
  have hcon : ∀ w', Below w2.heap.size w2 w' → Calls Try.prog 53 #[.slice (some ⟨go, a, none⟩) b (c - a), .func (.func 54) #[] #[.pointer (some ⟨w.heap.size + 1, 0, none⟩)]] w' fun e w'' => e = .returned (.bool (!r)) ∧ w' = w'' := by
    intro w' hbw
    have := contains_any (some ⟨go, a, none⟩) (c - a) v (w.heap.size + 1) (sub s.l a b) w' (by rw [length_sub hab]; omega) (hsl.below hbw) ((hbw.cell (p := ⟨w.heap.size + 1, 0, none⟩) hbv.lt).trans hv)
    rw [length_sub hab] at this
    refine this.mono fun e w'' ⟨h1, h2, h3⟩ => ⟨?_, h3⟩
    rw [all_sub hab, ← hr] at h1 h2
    cases r
    · exact h2 (by simp)
    · exact h1 rfl
  obtain ⟨N, hN⟩ : ∃ N, N = s.l.length := ⟨_, rfl⟩
  rw [← hN] at hle hab hbk hcl
  have x0 := hbx.cell 0
  have x1 := hbx.cell 1
  have c1 := hbk.cell 1
  simp at x0 x1 c1
  have HX := Lib.hid (And.intro hcon (And.intro hbel (And.intro hw2 (And.intro hN hr))))
  clear hcon hbel hw2 hN hr hbx hbv hsl hown hbk m2 m hv
  obtain ⟨z, hz⟩ : ∃ z, z = a + b := ⟨_, rfl⟩
  have hzi : (a : Int) + (b : Int) = (z : Int) := by omega
  have hzw : IntKind.i64.wrap ((a : Int) + (b : Int)) = (z : Int) := by rw [hzi]; exact IntWalk.i64_in _ (by omega)
  have hzw2 : IntKind.i64.wrap (z : Int) = (z : Int) := IntWalk.i64_in _ (by omega)
  have hzb : z - a = b := by omega
  have haz : a ≤ z := by omega
  have hazI : (a : Int) ≤ (z : Int) := by omega
  have hzc : z ≤ c := by omega
  have hzcI : (z : Int) ≤ (c : Int) := by omega
  have ha0 : (0 : Int) ≤ (a : Int) := by omega
  have hca : ¬ c = a := by omega
  have hzbI : (z : Int) - (a : Int) = (b : Int) := by omega
  have hcn : ((!r) = false) = (r = true) := by cases r <;> simp
  clear hz hcn
  go_enter Try.func41, Try.ntmps41
  go_upto_region 1 with fail
  rw [← HX.out.2.2.1]
  go_region_held3 (fun w' => w'.cell? ⟨w.heap.size, 0, none⟩ = some (.int .i64 a) ∧ w'.cell? ⟨w.heap.size, 1, none⟩ = some (.int .i64 b) ∧ w'.cell? ⟨h, 1, none⟩ = some (.slice (some ⟨go, 0, none⟩) N c)) (first | exact ⟨x0, x1, c1⟩)
    (first | (go_at_call 53; refine (HX.out.1 _ (by repeat (first | exact Below.refl _ _ | refine Below.drew ?_ | refine below_drewN ?_ _))).mono ?_; rintro e w' ⟨rfl, rfl⟩))
  all_goals
    go_wp2_with fail
    go_ret
    exact ⟨by simp, below_drewN HX.out.2.1 _⟩
end Go.Proofs.Ytinjkjgahipimaa
