/-
  Alloc: the walk.
-/
import Derived.Test.YtinjkjgahipimaaETake
set_option linter.unusedVariables false
namespace Go.Proofs.Ytinjkjgahipimaa
open Go.RowKit Go.Shelf
attribute [local go_sem] Oper.semAt_some

theorem Mp.grown {W W' : World} {h : Nat} {S : Nat → Prop} {s : St} {row : Option Nat} (m : Mp W h S s) (hg : W.grownBy W' row) (hr : ∀ r, row = some r → ∃ o : Obj, W.heap[r]? = some o ∧ o.isCells = false) : Mp W' h S s := by
  refine m.keep (F := fun k => row = some k) ⟨hg.os, hg.tape, hg.output, hg.size, fun k hk hn => hg.block k hk (fun e => hn e.symm)⟩ fun k hk e => ?_
  obtain ⟨o, ho, hc⟩ := hr k e
  obtain ⟨A, A', c, c', wl, hb, h1, h2, _, _, hS⟩ := m
  rcases (hS k).1 hk with rfl | e2 | e2
  · rw [show W.heap[k]? = _ from hb] at ho; cases ho; cases hc
  · rcases h1.2 with ⟨e3, _⟩ | ⟨g, cap, cur, e3, _, hgb, _⟩
    · rw [e3] at e2; cases e2
    · rw [e3] at e2
      have : g = k := by simpa [Value.ownBlock] using e2
      subst this
      rw [hgb] at ho; cases ho; cases hc
  · rcases h2.2 with ⟨e3, _⟩ | ⟨g, cap, cur, e3, _, hgb, _⟩
    · rw [e3] at e2; cases e2
    · rw [e3] at e2
      have : g = k := by simpa [Value.ownBlock] using e2
      subst this
      rw [hgb] at ho; cases ho; cases hc
theorem mp_own {β : Type} (h : Nat) (S : Nat → Prop) (f : β → St) : Own (fun b W => Mp W h S (f b)) := fun s X Y row hs hg hr => hs.grown hg hr
theorem ownFrom_only {β : Type} {B : Nat} {S : Nat → Prop} {w₀ : World} (hB : w₀.heap.size ≤ B) : OwnFrom B (fun (_ : β) W => Only S w₀ W) :=
  fun _ W W' row hs hg hr => Only.grown hs hg (fun g e => .inr (Nat.le_trans hB (hr g e).1))

/-- where n blocks in a row lie free first -/
def alc (l : List Nat) (f n : Nat) : Option (Nat × Nat) := (spc l f).find? fun x => decide (n ≤ x.2)
theorem alc_none {l : List Nat} {f n : Nat} (h : ∀ x ∈ spc l f, x.2 < n) : alc l f n = none := by
  unfold alc
  rw [List.find?_eq_none]
  intro x hx
  have := h x hx
  simp; omega
theorem alc_some {l : List Nat} {f n : Nat} {pre : List (Nat × Nat)} {x : Nat × Nat} (h : ∀ y ∈ pre, y.2 < n) (hx : n ≤ x.2) (hp : pre ++ [x] <+: spc l f) : alc l f n = some x := by
  obtain ⟨post, hpost⟩ := hp
  unfold alc
  rw [← hpost, List.find?_append, List.find?_append]
  have : pre.find? (fun x => decide (n ≤ x.2)) = none := by
    rw [List.find?_eq_none]; intro y hy; have := h y hy; simp; omega
  rw [this]
  simp [hx]
theorem alc_fits {l : List Nat} {f n : Nat} {x : Nat × Nat} (h : alc l f n = some x) : x ∈ spc l f ∧ n ≤ x.2 := by
  unfold alc at h
  exact ⟨List.mem_of_find?_eq_some h, by have := List.find?_some h; simpa using this⟩

theorem keepsFrom_only {F : Nat → Prop} {W W' : World} {B : Nat} (h : Only F W W') (hF : ∀ k, B ≤ k → ¬ F k) : KeepsFrom B W W' :=
  ⟨h.size, fun k o hB ho _ => (h.block k (Array.getElem?_eq_some_iff.1 ho).1 (hF k hB)).trans ho⟩
/-- what turns beyond the beginning is nobody's -/
theorem Only.trans2 {S F : Nat → Prop} {a b c : World} (h : Only S a b) (k : Only F b c) (hF : ∀ i, F i → a.heap.size ≤ i) : Only S a c :=
  h.trans k (fun i hi hf => absurd (hF i hf) (by omega))
/-- what Alloc answers -/
def AlcP (s : St) (n : Nat) (h : Nat) (S : Nat → Prop) (w : World) (e : Ending) (w' : World) : Prop :=
  (alc s.l s.f n = none → e = .returned (.tuple #[.agg #[.int .i64 0, .int .i64 0], .int .i64 3]) ∧ Below w.heap.size w w') ∧
  (∀ x, alc s.l s.f n = some x → e = .returned (.tuple #[.agg #[.int .i64 x.1, .int .i64 n], .int .i64 0]) ∧ Mp w' h S (s.put x.1 n 1) ∧ Only S w w')

theorem Blk.grown' {W W' : World} {row : Option Nat} {g : Nat} {t : TypeId} {cs : Array Value} (h : Blk W g t cs) (hg : W.grownBy W' row) (hr : ∀ r, row = some r → ∃ o : Obj, W.heap[r]? = some o ∧ o.isCells = false) : Blk W' g t cs :=
  blk_own g t (fun (_ : Unit) => cs) () W W' row h hg hr
/-- what Alloc's loop leaves where it has found room -/
def FoundP (s : St) (n h : Nat) (S : Nat → Prop) (w : World) (b3 b4 : Nat) (pre : List (Nat × Nat)) (W : World) : Prop :=
  ∃ (x : Nat × Nat) (p : List (Nat × Nat)), pre = p ++ [x] ∧ (∀ y ∈ p, y.2 < n) ∧ n ≤ x.2 ∧ Blk W b3 39 #[.int .i64 x.1, .int .i64 n] ∧ Blk W b4 23 #[.int .i64 0] ∧ Mp W h S (s.put x.1 n 1) ∧ Only S w W
theorem foundP_own {β : Type} {s : St} {n h : Nat} {S : Nat → Prop} {w : World} {b3 b4 B : Nat} (f : β → List (Nat × Nat)) (hB : w.heap.size ≤ B) : OwnFrom B (fun b W => FoundP s n h S w b3 b4 (f b) W) := by
  rintro b X Y row ⟨x, p, h1, h2, h3, h4, h5, h6, h7⟩ hg hr
  exact ⟨x, p, h1, h2, h3, h4.grown' hg (fun r e => (hr r e).2), h5.grown' hg (fun r e => (hr r e).2), h6.grown hg (fun r e => (hr r e).2), h7.grown hg (fun r e => .inr (Nat.le_trans hB (hr r e).1))⟩

set_option maxRecDepth 100000 in
set_option maxHeartbeats 2000000 in
theorem alloc_in (h : Nat) (S : Nat → Prop) (s : St) (n : Nat) (w : World) (m : Mp w h S s) (ok : s.Ok) (hn : 1 ≤ n) (hn2 : n ≤ 9223372036854775807) :
    CallsIn Fence.wide 6 Try.prog 17 #[.pointer (some ⟨h, 0, none⟩), .int .i64 n] w (AlcP s n h S w) := by
  have h1 : 1 ≤ 6 := by omega
  have hd : decide ((n : Int) < 1) = false := decide_eq_false (by omega)
  refine callsIn_of_wp_marks Try.func17 rfl trivial ?_ rfl
  simp only [Try.ntmps17, List.size_toArray, List.length_cons, List.length_nil, Nat.reduceAdd, Nat.reduceSub, Array.replicate_succ, Array.replicate_zero, List.push_toArray, List.append_toArray, List.nil_append, List.cons_append]
  have HM := Lib.hid (And.intro m ok)
  clear m ok
  gi_wp2_with (refine ⟨trivial, ?_⟩; gi_at_call 38; refine (spaces_in Fence.wide _ trivial rfl _ _).mono ?_; rintro e w' ⟨rfl, rfl⟩)
  have k1 := ((((Blk.new w 26 #[.pointer (some ⟨h, 0, none⟩)]).alloc (.cells #[.int .i64 n] 3)).alloc (.cells #[.int .i64 0, .int .i64 0] 39)).alloc (.cells #[.int .i64 0] 23)).alloc (.cells #[.pointer (some ⟨h, 0, none⟩)] 26)
  have k2 := (((Blk.new (w.alloc (.cells #[.pointer (some ⟨h, 0, none⟩)] 26)) 3 #[.int .i64 n]).alloc (.cells #[.int .i64 0, .int .i64 0] 39)).alloc (.cells #[.int .i64 0] 23)).alloc (.cells #[.pointer (some ⟨h, 0, none⟩)] 26)
  have k3 := ((Blk.new ((w.alloc (.cells #[.pointer (some ⟨h, 0, none⟩)] 26)).alloc (.cells #[.int .i64 n] 3)) 39 #[.int .i64 0, .int .i64 0]).alloc (.cells #[.int .i64 0] 23)).alloc (.cells #[.pointer (some ⟨h, 0, none⟩)] 26)
  have k4 := (Blk.new (((w.alloc (.cells #[.pointer (some ⟨h, 0, none⟩)] 26)).alloc (.cells #[.int .i64 n] 3)).alloc (.cells #[.int .i64 0, .int .i64 0] 39)) 23 #[.int .i64 0]).alloc (.cells #[.pointer (some ⟨h, 0, none⟩)] 26)
  have k5 := Blk.new ((((w.alloc (.cells #[.pointer (some ⟨h, 0, none⟩)] 26)).alloc (.cells #[.int .i64 n] 3)).alloc (.cells #[.int .i64 0, .int .i64 0] 39)).alloc (.cells #[.int .i64 0] 23)) 26 #[.pointer (some ⟨h, 0, none⟩)]
  simp only [World.size_alloc] at k2 k3 k4 k5
  have hB0 : Below w.heap.size w (((((w.alloc (.cells #[.pointer (some ⟨h, 0, none⟩)] 26)).alloc (.cells #[.int .i64 n] 3)).alloc (.cells #[.int .i64 0, .int .i64 0] 39)).alloc (.cells #[.int .i64 0] 23)).alloc (.cells #[.pointer (some ⟨h, 0, none⟩)] 26)) :=
    (((((Below.refl _ w).alloc (Nat.le_refl _) _).alloc (by simp) _).alloc (by simp; omega) _).alloc (by simp; omega) _).alloc (by simp; omega) _
  have hsz : (((((w.alloc (.cells #[.pointer (some ⟨h, 0, none⟩)] 26)).alloc (.cells #[.int .i64 n] 3)).alloc (.cells #[.int .i64 0, .int .i64 0] 39)).alloc (.cells #[.int .i64 0] 23)).alloc (.cells #[.pointer (some ⟨h, 0, none⟩)] 26)).heap.size = w.heap.size + 5 := by simp
  obtain ⟨W0, hW0⟩ : ∃ W0, (((((w.alloc (.cells #[.pointer (some ⟨h, 0, none⟩)] 26)).alloc (.cells #[.int .i64 n] 3)).alloc (.cells #[.int .i64 0, .int .i64 0] 39)).alloc (.cells #[.int .i64 0] 23)).alloc (.cells #[.pointer (some ⟨h, 0, none⟩)] 26)) = W0 := ⟨_, rfl⟩
  rw [hW0] at k1 k2 k3 k4 k5 hB0 hsz ⊢
  clear hW0
  obtain ⟨A, c, G, hrd, hGs, hGm⟩ := HM.out.1.rd (Bm := w.heap.size + 1 + 1 + 1 + 1) hB0 (by omega) (by omega) (by rw [k5.cell 0]; rfl)
  have hGn : ∀ k, w.heap.size ≤ k → k < w.heap.size + 4 → ¬ G k := fun k hk1 hk2 hg => by
    rcases hGm _ hg with e | e
    · omega
    · have := HM.out.1.lt _ e; omega
  have hSn : ∀ k, w.heap.size ≤ k → ¬ S k := fun k hk hs => by have := HM.out.1.lt _ hs; omega
  refine wpIn_rangeFunc_ownH rfl h1 (gf := 52) (lb := #[.pointer (some ⟨w.heap.size + 1 + 1 + 1 + 1, 0, none⟩)]) rfl trivial (enters_of Try.func52 (by kernel_rfl) rfl)
    (spaces_stops Fence.wide (6 - 1) trivial rfl (by omega) G (w.heap.size + 1 + 1 + 1 + 1) h c s.f A s.l W0 hGs hrd HM.out.2.le HM.out.2.fl) Kg.trans (kg_b hGs) (Below.refl _ _) (fun _ => rfl)
    (fun pre W => (Blk W w.heap.size 26 #[.pointer (some ⟨h, 0, none⟩)] ∧ Blk W (w.heap.size + 1) 3 #[.int .i64 n] ∧ Blk W (w.heap.size + 1 + 1) 39 #[.int .i64 0, .int .i64 0] ∧ Blk W (w.heap.size + 1 + 1 + 1) 23 #[.int .i64 0] ∧ Mp W h S s) ∧ (Below w.heap.size w W ∧ W0.heap.size ≤ W.heap.size) ∧ ∀ y ∈ vals pre, y.2 < n)
    (fun c pre W => c = .ret ∧ FoundP s n h S w (w.heap.size + 1 + 1) (w.heap.size + 1 + 1 + 1) (vals pre) W)
    (OwnFrom.and (OwnFrom.and (Own.from (blk_own _ _ _) _) (OwnFrom.and (Own.from (blk_own _ _ _) _) (OwnFrom.and (Own.from (blk_own _ _ _) _) (OwnFrom.and (Own.from (blk_own _ _ _) _) (Own.from (mp_own _ _ _) _))))) (OwnFrom.and (OwnFrom.and (ownFrom_below (Nat.le_refl _) (by omega)) (ownFrom_size _ _)) (ownFrom_pure _ _)))
    (fun c => OwnFrom.and (ownFrom_pure _ _) (foundP_own _ (by omega)))
    ⟨⟨k1, k2, k3, k4, HM.out.1.below hB0⟩, ⟨hB0, Nat.le_refl _⟩, (fun y hy => by simp [vals] at hy)⟩
    (fun x a' W => ∃ Bx, w.heap.size + 1 + 1 + 1 + 1 < Bx ∧ Blk W Bx 39 #[.int .i64 x.1.1, .int .i64 x.1.2] ∧ a' = { tmps := #[.pointer (some ⟨h, 0, none⟩), .int .i64 n, .pointer (some ⟨w.heap.size, 0, none⟩), .pointer (some ⟨w.heap.size + 1, 0, none⟩), .pointer (some ⟨w.heap.size + 1 + 1, 0, none⟩), .pointer (some ⟨w.heap.size + 1 + 1 + 1, 0, none⟩), .pointer (some ⟨Bx, 0, none⟩), .bool false, .pointer (some ⟨h, 0, none⟩), .bool false, undef, .bool false, .int .i64 n, .bool false, undef, .pointer (some ⟨h, 0, none⟩), .func (.func 52) #[] #[.pointer (some ⟨w.heap.size + 1 + 1 + 1 + 1, 0, none⟩)], exV x.1, undef, undef, undef, undef, undef, undef, undef, undef, undef, undef, undef], defers := [] })
    (fun x a' _ X Y row hs hg hr => by obtain ⟨Bx, h1, h2, h3⟩ := hs; exact ⟨Bx, h1, h2.grown' hg (fun r e => (hr r e).2), h3⟩)
    ?assign ?body ?done ?stop
  case assign =>
    rintro l pre x W K ⟨⟨q1, q2, q3, q4, qm⟩, ⟨hB1, hp⟩, hall⟩ hK
    unfold exV at *
    gi_wp2
    exact hK _ _ ((KeepsOthers.alloc _ _).from _) ((Kg.refl _ W).alloc (fun k hk => Nat.lt_of_lt_of_le (hGs k hk) hp) _) ⟨⟨q1.alloc _, q2.alloc _, q3.alloc _, q4.alloc _, qm.below ((Below.refl _ W).alloc (Nat.le_refl _) _)⟩, ⟨hB1.alloc hB1.size _, Nat.le_trans hp (by simp)⟩, hall⟩ ⟨W.heap.size, by omega, Blk.new W 39 _, rfl⟩
  case body =>
    rintro l pre x a' W hl ⟨r, hr⟩ ⟨⟨q1, q2, q3, q4, qm⟩, ⟨hB1, hp⟩, hall⟩ ⟨Bx, hBx, bX, rfl⟩ hlt
    have c1 := q1.cell 0
    have c2 := q2.cell 0
    have x0 := bX.cell 0
    have x1 := bX.cell 1
    have f1 := bX.frozen 1
    simp at c1 c2 x0 x1
    have hxm := (spc_in x.2).2.2.1
    by_cases hfit : n ≤ x.1.2
    · have hfI : (n : Int) ≤ (x.1.2 : Int) := by omega
      have bX1 : Blk (W.setCell ⟨Bx, 1, none⟩ (.int .i64 n)) Bx 39 #[.int .i64 x.1.1, .int .i64 n] := bX.set_ 1 (.int .i64 n)
      have hm1 : Mp (W.setCell ⟨Bx, 1, none⟩ (.int .i64 n)) h S s := qm.keep (F := fun k => k = Bx) ((Only.refl (fun k => k = Bx) W).setCell (p := ⟨Bx, 1, none⟩) (.inl rfl) _) (fun k hk e => hSn Bx (by omega) (e ▸ hk))
      have q31 : Blk (W.setCell ⟨Bx, 1, none⟩ (.int .i64 n)) (w.heap.size + 1 + 1) 39 #[.int .i64 0, .int .i64 0] := q3.far (p := ⟨Bx, 1, none⟩) (by show _ ≠ Bx; omega) _
      have q41 : Blk (W.setCell ⟨Bx, 1, none⟩ (.int .i64 n)) (w.heap.size + 1 + 1 + 1) 23 #[.int .i64 0] := q4.far (p := ⟨Bx, 1, none⟩) (by show _ ≠ Bx; omega) _
      have q11 : Blk (W.setCell ⟨Bx, 1, none⟩ (.int .i64 n)) w.heap.size 26 #[.pointer (some ⟨h, 0, none⟩)] := q1.far (p := ⟨Bx, 1, none⟩) (by show _ ≠ Bx; omega) _
      have hoW : Only S w (W.setCell ⟨Bx, 1, none⟩ (.int .i64 n)) := (Only.of_below (F := S) hB1).setCell (p := ⟨Bx, 1, none⟩) (.inr (by show w.heap.size ≤ Bx; omega)) _
      have hkW : KeepsFrom W0.heap.size W (W.setCell ⟨Bx, 1, none⟩ (.int .i64 n)) := (KeepsOthers.setCell _ _ _).from _
      obtain ⟨W1, hW1⟩ : ∃ W1, W1 = W.setCell ⟨Bx, 1, none⟩ (.int .i64 n) := ⟨_, rfl⟩
      rw [← hW1] at bX1 hm1 q31 q41 q11 hoW hkW
      have hset := set_any h S s x.1.1 n 1 W1 hm1 (by omega) HM.out.2.le
      have d1 := q11.cell 0
      have y0 := bX1.cell 0
      have y1 := bX1.cell 1
      simp at d1 y0 y1
      have HQ := Lib.hid (And.intro bX1 (And.intro q31 (And.intro q41 (And.intro hoW (And.intro hkW (And.intro hset (And.intro hall hfit)))))))
      have HS1 : Hid (W.setCell ⟨Bx, 1, none⟩ (.int .i64 n) = W1) := hW1.symm
      clear bX1 hm1 q31 q41 q11 hoW hkW hset hall hfit qm q1 q2 q3 q4 bX hW1
      gi_wp2_with fail
      refine ⟨trivial, ?_⟩
      rw [HS1.out]
      refine (CallsIn.inRound l (callsIn_wide.2 HQ.out.2.2.2.2.2.1)).mono ?_
      rintro e w2 ⟨rfl, hm, ho⟩
      have hlt1 := HQ.out.1.lt
      have hlt3 := HQ.out.2.1.lt
      have hlt4 := HQ.out.2.2.1.lt
      have bX2 := HQ.out.1.only ho (hSn Bx (by omega))
      have q32 := HQ.out.2.1.only ho (hSn _ (by omega))
      have q42 := HQ.out.2.2.1.only ho (hSn _ (by omega))
      have z0 := bX2.cell 0
      have z1 := bX2.cell 1
      have r0 := q32.cell 0
      have r1 := q32.cell 1
      have g0 := q32.frozen 0
      have g1 := q32.frozen 1
      have e0 := q42.cell 0
      have k0 := q42.frozen 0
      simp at z0 z1 r0 r1 e0
      have H2 := Lib.hid (And.intro hm (And.intro ho (And.intro q32 q42)))
      clear hm ho bX2 q32 q42 d1 y0 y1 x0 x1 c1 c2 f1
      gi_wp2_with fail
      have hne : w.heap.size + 1 + 1 ≠ w.heap.size + 1 + 1 + 1 := by omega
      have w1' : Blk (((w2.setCell ⟨w.heap.size + 1 + 1, 0, none⟩ (.int .i64 x.1.1)).setCell ⟨w.heap.size + 1 + 1, 1, none⟩ (.int .i64 n)).setCell ⟨w.heap.size + 1 + 1 + 1, 0, none⟩ (.int .i64 0)) (w.heap.size + 1 + 1) 39 #[.int .i64 x.1.1, .int .i64 n] :=
        ((H2.out.2.2.1.set_ 0 (.int .i64 x.1.1)).set_ 1 (.int .i64 n)).far (p := ⟨w.heap.size + 1 + 1 + 1, 0, none⟩) hne _
      have w2' : Blk (((w2.setCell ⟨w.heap.size + 1 + 1, 0, none⟩ (.int .i64 x.1.1)).setCell ⟨w.heap.size + 1 + 1, 1, none⟩ (.int .i64 n)).setCell ⟨w.heap.size + 1 + 1 + 1, 0, none⟩ (.int .i64 0)) (w.heap.size + 1 + 1 + 1) 23 #[.int .i64 0] :=
        ((H2.out.2.2.2.far (p := ⟨w.heap.size + 1 + 1, 0, none⟩) hne.symm _).far (p := ⟨w.heap.size + 1 + 1, 1, none⟩) hne.symm _).set_ 0 (.int .i64 0)
      have hF : Only (fun k => w.heap.size ≤ k) w2 (((w2.setCell ⟨w.heap.size + 1 + 1, 0, none⟩ (.int .i64 x.1.1)).setCell ⟨w.heap.size + 1 + 1, 1, none⟩ (.int .i64 n)).setCell ⟨w.heap.size + 1 + 1 + 1, 0, none⟩ (.int .i64 0)) :=
        (((Only.refl (fun k => w.heap.size ≤ k) w2).setCell (p := ⟨w.heap.size + 1 + 1, 0, none⟩) (.inl (by show w.heap.size ≤ w.heap.size + 1 + 1; omega)) _).setCell (p := ⟨w.heap.size + 1 + 1, 1, none⟩) (.inl (by show w.heap.size ≤ w.heap.size + 1 + 1; omega)) _).setCell (p := ⟨w.heap.size + 1 + 1 + 1, 0, none⟩) (.inl (by show w.heap.size ≤ w.heap.size + 1 + 1 + 1; omega)) _
      refine ⟨?_, rfl, ?_⟩
      · refine (HQ.out.2.2.2.2.1.trans (keepsFrom_only H2.out.2.1 (fun k hk => hSn k (by omega)))).trans ?_
        exact (((KeepsOthers.setCell _ _ _).trans (KeepsOthers.setCell _ _ _)).trans (KeepsOthers.setCell _ _ _)).from _
      · refine ⟨x.1, vals pre, vals_snoc _ _, HQ.out.2.2.2.2.2.2.1, HQ.out.2.2.2.2.2.2.2, w1', w2', H2.out.1.keep hF (fun k hk hk2 => hSn k hk2 hk), ?_⟩
        exact (HQ.out.2.2.2.1.trans H2.out.2.1 (fun _ _ h => h)).trans2 hF (fun k hk => hk)
    · have hfI : decide ((n : Int) ≤ (x.1.2 : Int)) = false := decide_eq_false (by omega)
      gi_wp2
      exact ⟨KeepsFrom.refl _ _, Kg.refl _ _, ⟨q1, q2, q3, q4, qm⟩, ⟨hB1, hp⟩, (fun y hy => by rw [vals_snoc] at hy; rcases List.mem_append.1 hy with hy | hy; exact hall y hy; simp at hy; subst hy; omega)⟩
  case done =>
    rintro D zs W hD hz ⟨⟨q1, q2, q3, q4, qm⟩, ⟨hB1, hp⟩, hall⟩ hK
    have r0 := q3.cell 0
    have r1 := q3.cell 1
    have g0 := q3.frozen 0
    have g1 := q3.frozen 1
    have e0 := q4.cell 0
    have k0 := q4.frozen 0
    simp at r0 r1 e0
    rw [hz] at hall
    have HQ := Lib.hid (And.intro q3 (And.intro q4 (And.intro hB1 (And.intro hall hK))))
    clear q1 q2 q3 q4 qm hB1 hall hK hz
    gi_wp2
    have hne : w.heap.size + 1 + 1 ≠ w.heap.size + 1 + 1 + 1 := by omega
    have hD3 : (((W.setCell ⟨w.heap.size + 1 + 1, 0, none⟩ (.int .i64 0)).setCell ⟨w.heap.size + 1 + 1, 1, none⟩ (.int .i64 0)).setCell ⟨w.heap.size + 1 + 1 + 1, 0, none⟩ (.int .i64 3)).heap[D]? = some (.deferred (some [])) := ((KeepsOthers.setCell _ _ _).trans ((KeepsOthers.setCell _ _ _).trans (KeepsOthers.setCell _ _ _))).same D _ HQ.out.2.2.2.2 rfl
    refine ⟨by simp, .inl ⟨_, _, rfl, run_takeDeferred hD3, ?_⟩⟩
    have w1' : Blk (((W.setCell ⟨w.heap.size + 1 + 1, 0, none⟩ (.int .i64 0)).setCell ⟨w.heap.size + 1 + 1, 1, none⟩ (.int .i64 0)).setCell ⟨w.heap.size + 1 + 1 + 1, 0, none⟩ (.int .i64 3)) (w.heap.size + 1 + 1) 39 #[.int .i64 0, .int .i64 0] :=
      ((HQ.out.1.set_ 0 (.int .i64 0)).set_ 1 (.int .i64 0)).far (p := ⟨w.heap.size + 1 + 1 + 1, 0, none⟩) hne _
    have w2' : Blk (((W.setCell ⟨w.heap.size + 1 + 1, 0, none⟩ (.int .i64 0)).setCell ⟨w.heap.size + 1 + 1, 1, none⟩ (.int .i64 0)).setCell ⟨w.heap.size + 1 + 1 + 1, 0, none⟩ (.int .i64 3)) (w.heap.size + 1 + 1 + 1) 23 #[.int .i64 3] :=
      ((HQ.out.2.1.far (p := ⟨w.heap.size + 1 + 1, 0, none⟩) hne.symm _).far (p := ⟨w.heap.size + 1 + 1, 1, none⟩) hne.symm _).set_ 0 (.int .i64 3)
    have hbl : Below w.heap.size w (((W.setCell ⟨w.heap.size + 1 + 1, 0, none⟩ (.int .i64 0)).setCell ⟨w.heap.size + 1 + 1, 1, none⟩ (.int .i64 0)).setCell ⟨w.heap.size + 1 + 1 + 1, 0, none⟩ (.int .i64 3)) :=
      ((HQ.out.2.2.1.setCell (p := ⟨w.heap.size + 1 + 1, 0, none⟩) (by show w.heap.size ≤ w.heap.size + 1 + 1; omega) _).setCell (p := ⟨w.heap.size + 1 + 1, 1, none⟩) (by show w.heap.size ≤ w.heap.size + 1 + 1; omega) _).setCell (p := ⟨w.heap.size + 1 + 1 + 1, 0, none⟩) (by show w.heap.size ≤ w.heap.size + 1 + 1 + 1; omega) _
    obtain ⟨Wq, hWq⟩ : ∃ Wq, Wq = (((W.setCell ⟨w.heap.size + 1 + 1, 0, none⟩ (.int .i64 0)).setCell ⟨w.heap.size + 1 + 1, 1, none⟩ (.int .i64 0)).setCell ⟨w.heap.size + 1 + 1 + 1, 0, none⟩ (.int .i64 3)) := ⟨_, rfl⟩
    rw [← hWq] at w1' w2' hbl hD3 ⊢
    have v1 := w1'.grown' (grownBy_putObj' Wq D (.deferred none)) (fun r e => by cases e; exact ⟨_, hD3, rfl⟩)
    have v2 := w2'.grown' (grownBy_putObj' Wq D (.deferred none)) (fun r e => by cases e; exact ⟨_, hD3, rfl⟩)
    have hbl2 := hbl.trans (belowK_b (w := w) (Nat.le_refl _) Wq D _ (.deferred none) (by omega) hD3 rfl rfl)
    obtain ⟨Wf, hWf⟩ : ∃ Wf, Wf = Wq.putObj D (.deferred none) := ⟨_, rfl⟩
    rw [← hWf] at v1 v2 hbl2 ⊢
    have t0 := v1.cell 0
    have t1 := v1.cell 1
    have t2 := v2.cell 0
    simp at t0 t1 t2
    refine ⟨.tuple #[.agg #[.int .i64 0, .int .i64 0], .int .i64 3], by simp [results, Try.results17, go_sem, t0, t1, t2], fun _ => ⟨rfl, hbl2⟩, fun x hx => ?_⟩
    rw [alc_none HQ.out.2.2.2.1] at hx
    cases hx
  case stop =>
    rintro D c pre W hD hsp ⟨rfl, hf⟩ hK
    obtain ⟨x, p, h1, h2, h3, h4, h5, h6, h7⟩ := hf
    have r0 := h4.cell 0
    have r1 := h4.cell 1
    have e0 := h5.cell 0
    simp at r0 r1 e0
    have HB := Lib.hid (And.intro h4 h5)
    have HQ := Lib.hid (And.intro h1 (And.intro h2 (And.intro h3 (And.intro h6 (And.intro h7 (And.intro hK hsp))))))
    clear h1 h2 h3 h6 h7 hK hsp h4 h5
    gi_wp2
    have hKD := HQ.out.2.2.2.2.2.1
    refine ⟨by simp, .inl ⟨_, _, rfl, run_takeDeferred hKD, ?_⟩⟩
    have v1 := HB.out.1.grown' (grownBy_putObj' W D (.deferred none)) (fun r e => by cases e; exact ⟨_, hKD, rfl⟩)
    have v2 := HB.out.2.grown' (grownBy_putObj' W D (.deferred none)) (fun r e => by cases e; exact ⟨_, hKD, rfl⟩)
    have vm := HQ.out.2.2.2.1.grown (grownBy_putObj' W D (.deferred none)) (fun r e => by cases e; exact ⟨_, hKD, rfl⟩)
    have vo := HQ.out.2.2.2.2.1.grown (grownBy_putObj' W D (.deferred none)) (fun g e => by cases e; right; omega)
    obtain ⟨Wf, hWf⟩ : ∃ Wf, Wf = W.putObj D (.deferred none) := ⟨_, rfl⟩
    rw [← hWf] at v1 v2 vm vo ⊢
    have t0 := v1.cell 0
    have t1 := v1.cell 1
    have t2 := v2.cell 0
    simp at t0 t1 t2
    have hal := alc_some (l := s.l) (f := s.f) (n := n) (pre := p) (x := x) HQ.out.2.1 HQ.out.2.2.1 (by rw [← HQ.out.1]; exact HQ.out.2.2.2.2.2.2)
    refine ⟨.tuple #[.agg #[.int .i64 x.1, .int .i64 n], .int .i64 0], by simp [results, Try.results17, go_sem, t0, t1, t2], fun hx => ?_, fun y hy => ?_⟩
    · rw [hal] at hx; cases hx
    · rw [hal] at hy
      cases hy
      exact ⟨rfl, vm, vo⟩
theorem alloc_any (h : Nat) (S : Nat → Prop) (s : St) (n : Nat) (w : World) (m : Mp w h S s) (ok : s.Ok) (hn : 1 ≤ n) (hn2 : n ≤ 9223372036854775807) :
    Calls Try.prog 17 #[.pointer (some ⟨h, 0, none⟩), .int .i64 n] w (AlcP s n h S w) := callsIn_wide.1 (alloc_in h S s n w m ok hn hn2)
end Go.Proofs.Ytinjkjgahipimaa
