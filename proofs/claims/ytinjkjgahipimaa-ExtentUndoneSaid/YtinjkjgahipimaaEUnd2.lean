/-
  An open transaction in memory: the map, the three lists, the spaces as they were.
-/
import Derived.Test.YtinjkjgahipimaaEUnd
set_option linter.unusedVariables false
namespace Go.Proofs.Ytinjkjgahipimaa
open Go.RowKit

section
variable {W0 : Nat} {S : Nat → Prop} {w w' : World} {A : Option Addr} {c : Nat} {own : List (Nat × Nat)}
theorem exr_lt {w : World} {A : Option Addr} {own : List (Nat × Nat)} (h1 : ExR w A own) {k : Nat} (hk : k < own.length) : ∀ g, ob A = some g → g < w.heap.size := by
  intro g hg
  obtain ⟨g2, rfl, c0, _⟩ := h1 k hk
  have e4 : g2 = g := by simpa [ob] using hg
  rw [← e4]; exact World.block_lt_of_cell? w _ c0
/-- one taken out of it: the slice ahead, full, and what lies behind -/
theorem wpList_append_out2 {ops : Array Oper} {rest : List Oper} {o : Oper} {a : Act} {Q : Exit → Act → World → Prop} (hgd : o.guard = none) (s x : Operand)
    (ho : o.op = .call { callee := .builtin .append, args := #[s, x], argTypes := #[37, 37] })
    (L : Lst W0 S w A c own) (k M : Nat) (hM : own.length = M) (hk : k < M) (hM2 : M ≤ 1000) (g : Nat) (hA : A = some ⟨g, 0, none⟩) (hs : a.eval s = .slice A k k)
    (B : Option Addr) (cb : Nat) (hx : a.eval x = .slice B (M - (k + 1)) cb) (hB : k + 1 < M → B = some ⟨g, (k + 1) * 2, none⟩) (hBn : M = k + 1 → ∀ b, B = some b → True) (hW0 : W0 ≤ w.heap.size) (hS : ∀ i, S i → i < w.heap.size)
    (hB0 : ∃ b, B = some b)
    (h : ∀ A' c' w', Lst W0 S w' A' c' (own.take k ++ own.drop (k + 1)) → Only (OutS W0 S) w w' → (∀ g, ob A' = some g → g < w'.heap.size) → wpList Try.prog ops Q rest (a.put o.dst (.slice A' (M - 1) c')) w') : wpList Try.prog ops Q (o :: rest) a w := by
  obtain ⟨i0, hi, hz0, hz1, hz2⟩ := info_parts info39
  obtain ⟨h1, h2, h3⟩ := L
  subst hM hA
  obtain ⟨b, rfl⟩ := hB0
  have hlen : (own.take k ++ own.drop (k + 1)).length = own.length - 1 := by simp; omega
  have hex : exs (own.take k ++ own.drop (k + 1)) = exs (own.take k) ++ exs (own.drop (k + 1)) := exs_append _ _
  have ht : ExR w (some ⟨g, 0, none⟩) (own.take k) := fun i hi => by
    rw [List.length_take] at hi
    obtain ⟨g', e, c0, c1⟩ := h1 i (by omega)
    have : (own.take k).getD i (0, 0) = own.getD i (0, 0) := by simp [List.getD, show i < k by omega]
    rw [this]
    exact ⟨g', e, c0, c1⟩
  rcases Nat.lt_or_ge (k + 1) own.length with hlt | hge
  · have hb := hB hlt
    injection hb with hb
    subst hb
    have hsrc : ∀ j u, (exs (own.drop (k + 1)))[j]? = some u → w.cell? ((⟨g, (k + 1) * 2, none⟩ : Addr).add j) = some u := fun j u hu => by
      have e : exs own = exs (own.take (k + 1)) ++ exs (own.drop (k + 1)) := by rw [← exs_append, List.take_append_drop]
      have hl : (exs (own.take (k + 1))).length = (k + 1) * 2 := by rw [length_exs, List.length_take]; congr 1; omega
      have := h1.src ⟨g, 0, none⟩ rfl ((k + 1) * 2 + j) u (by rw [e, List.getElem?_append_right (by omega), hl]; simpa using hu)
      rw [Addr.add_lit] at this ⊢
      rwa [Nat.zero_add] at this
    refine wpList_append_grows w hgd s x 37 ho 39 i0 _ 2 16 Try.underlying37 hi hz0 hz1 hz2 rfl (by decide) (some ⟨g, 0, none⟩) k k (exs (own.take k)) hs (fun e => by cases e) (by rw [length_exs, List.length_take]; congr 1; omega) ht.src ⟨g, (k + 1) * 2, none⟩ (own.length - (k + 1)) cb (exs (own.drop (k + 1))) hx (by rw [length_exs, List.length_drop]) hsrc (by
      intro u hu
      simp only [exs, List.mem_flatMap] at hu
      obtain ⟨y, _, hy⟩ := hu
      simp at hy
      rcases hy with rfl | rfl <;> rfl) (by omega) (by unfold maxLen; omega) (by omega) ?_
    intro v' w' hown hg
    obtain ⟨A', c', rfl⟩ := own_shapeZ hown
    have hn : k + (own.length - (k + 1)) = own.length - 1 := by omega
    rw [hn] at hown ⊢
    have hrow : w'.ownsRow w.heap.size 39 2 (.slice A' (own.take k ++ own.drop (k + 1)).length c') (own.take k ++ own.drop (k + 1)).length (exs (own.take k ++ own.drop (k + 1))) := by rw [hlen, hex]; exact hown
    refine h A' c' w' ⟨ExR.own hrow, fun g' hg' => ?_, .inl (own_base hrow)⟩ (((Only.refl (OutS W0 S) w).grown hg (fun g' hg' => by cases hg'))) (fun g' hg' => (hrow.lt g' (by rw [ob_eq]; exact hg')).2)
    have := (hrow.lt g' hg').1
    exact ⟨fun hk => by have := hS _ hk; omega, by omega⟩
  · have hk1 : own.length = k + 1 := by omega
    have hd : own.drop (k + 1) = [] := List.drop_eq_nil_of_le (by omega)
    refine wpList_plain hgd fun K hK' => ?_
    have hx' : a.eval x = .slice (some b) 0 cb := by rw [hx]; congr 1; omega
    unfold Oper.wp
    simp [execOp, ho, resolve, invoke, builtin, hs, hx', Builtin.append_, run_underlying Try.underlying37, sizeOf, typeInfo, hi, Builtin.lenOf, Builtin.firstCells, Result.andThen]
    have e1 : Sem.run Try.prog (loadCells b 0) w = .ok #[] w := by simp [loadCells, loadCellsFrom]
    rw [e1]
    have e2 : ∀ p : Addr, Sem.run Try.prog (storeCells p (#[] : Array Value).toList) w = .ok () w := fun p => by simp [storeCells]
    simp only [e2]
    have hk2 : own.length - 1 = k := by omega
    have hte : own.take k ++ own.drop (k + 1) = own.take k := by rw [hd, List.append_nil]
    refine hK' _ _ ?_
    have := h (some ⟨g, 0, none⟩) k w ?_ (Only.refl _ _) (exr_lt h1 hk)
    · rw [hk2] at this; exact this
    · rw [hte]
      have hl : (own.take k).length = k := by rw [List.length_take]; omega
      refine ⟨ht, fun g' hg' => h2 g' hg', .inr ⟨hl.symm, fun e => by cases e⟩⟩
end
/-- a set with one list's block -/
def Wt (S : Nat → Prop) (A : Option Addr) : Nat → Prop := fun k => S k ∨ ob A = some k
/-- a transaction in memory -/
structure UdM (W0 : World) (h : Nat) (S : Nat → Prop) (AW : Option Addr) (ws : List (Nat × Nat)) (A1 : Option Addr) (c1 : Nat) (own : List (Nat × Nat)) (A2 : Option Addr) (c2 : Nat) (giv : List (Nat × Nat)) (A3 : Option Addr) (c3 : Nat) (tak : List (Nat × Nat)) (s : St) (w : World) : Prop where
  mp : Mp w h S s
  L1 : Lst W0.heap.size (Wt S AW) w A1 c1 own
  L2 : Lst W0.heap.size (Wt S AW) w A2 c2 giv
  L3 : Lst W0.heap.size (Wt S AW) w A3 c3 tak
  d12 : Dis A1 A2
  d13 : Dis A1 A3
  d23 : Dis A2 A3
  t1 : ∀ g, ob A1 = some g → g < w.heap.size
  t2 : ∀ g, ob A2 = some g → g < w.heap.size
  t3 : ∀ g, ob A3 = some g → g < w.heap.size
  wb : ∀ g, ob AW = some g → ¬ S g ∧ g < w.heap.size
  was : ExR w AW ws
  sb : ∀ k, S k → W0.heap.size ≤ k
  be : Below W0.heap.size W0 w
section
variable {W0 w w' : World} {h : Nat} {S : Nat → Prop} {AW A1 A2 A3 B : Option Addr} {ws own giv tak xs : List (Nat × Nat)} {c1 c2 c3 d : Nat} {s s' : St}
theorem UdM.below (u : UdM W0 h S AW ws A1 c1 own A2 c2 giv A3 c3 tak s w) (hb : Below w.heap.size w w') : UdM W0 h S AW ws A1 c1 own A2 c2 giv A3 c3 tak s w' :=
  ⟨u.mp.below hb, u.L1.below hb, u.L2.below hb, u.L3.below hb, u.d12, u.d13, u.d23, fun g e => Nat.lt_of_lt_of_le (u.t1 g e) hb.size, fun g e => Nat.lt_of_lt_of_le (u.t2 g e) hb.size, fun g e => Nat.lt_of_lt_of_le (u.t3 g e) hb.size,
    fun g e => ⟨(u.wb g e).1, Nat.lt_of_lt_of_le (u.wb g e).2 hb.size⟩, u.was.below hb, u.sb, below_step u.be hb⟩
/-- the map alone was changed -/
theorem UdM.set_ (u : UdM W0 h S AW ws A1 c1 own A2 c2 giv A3 c3 tak s w) (hm : Mp w' h S s') (ho : Only S w w') : UdM W0 h S AW ws A1 c1 own A2 c2 giv A3 c3 tak s' w' :=
  ⟨hm, u.L1.keep ho (fun k hk e => e.2 (.inl hk)), u.L2.keep ho (fun k hk e => e.2 (.inl hk)), u.L3.keep ho (fun k hk e => e.2 (.inl hk)), u.d12, u.d13, u.d23,
    fun g e => Nat.lt_of_lt_of_le (u.t1 g e) ho.size, fun g e => Nat.lt_of_lt_of_le (u.t2 g e) ho.size, fun g e => Nat.lt_of_lt_of_le (u.t3 g e) ho.size,
    fun g e => ⟨(u.wb g e).1, Nat.lt_of_lt_of_le (u.wb g e).2 ho.size⟩, u.was.only ho (fun g hg => (u.wb g (by rw [hg]; rfl)).1), u.sb, below_of_only u.be ho u.sb⟩
theorem UdM.lt (u : UdM W0 h S AW ws A1 c1 own A2 c2 giv A3 c3 tak s w) : ∀ k, Wt S AW k → k < w.heap.size := by
  rintro k (e | e)
  · exact u.mp.lt k e
  · exact (u.wb k e).2
/-- the map and the spaces behind a list's change -/
theorem UdM.far (u : UdM W0 h S AW ws A1 c1 own A2 c2 giv A3 c3 tak s w) {T : Nat → Prop} (hT : ∀ k, Wt S AW k → T k) (ho : Only (OutS W0.heap.size T) w w') :
    Mp w' h S s ∧ (∀ g, ob AW = some g → ¬ S g ∧ g < w'.heap.size) ∧ ExR w' AW ws ∧ Below W0.heap.size W0 w' :=
  ⟨u.mp.keep ho (fun k hk e => e.2 (hT k (.inl hk))), fun g e => ⟨(u.wb g e).1, Nat.lt_of_lt_of_le (u.wb g e).2 ho.size⟩, u.was.only ho (fun g hg e => e.2 (hT g (.inr (by rw [hg]; rfl)))), below_of_only u.be ho (fun i hi => hi.1)⟩
theorem Lst.stay (L : Lst W0.heap.size S w B d xs) {T : Nat → Prop} (hT : ∀ g, ob B = some g → T g) (ho : Only (OutS W0.heap.size T) w w') : Lst W0.heap.size S w' B d xs :=
  L.keepB ho (fun g hg e => e.2 (hT g hg))
theorem UdM.p1 (u : UdM W0 h S AW ws A1 c1 own A2 c2 giv A3 c3 tak s w) : Lst W0.heap.size (With (Wt S AW) A2 A3) w A1 c1 own ∧ ∀ k, With (Wt S AW) A2 A3 k → k < w.heap.size :=
  ⟨u.L1.prot u.d12 u.d13, by rintro k (e | e | e); exact u.lt k e; exact u.t2 k e; exact u.t3 k e⟩
theorem UdM.p2 (u : UdM W0 h S AW ws A1 c1 own A2 c2 giv A3 c3 tak s w) : Lst W0.heap.size (With (Wt S AW) A1 A3) w A2 c2 giv ∧ ∀ k, With (Wt S AW) A1 A3 k → k < w.heap.size :=
  ⟨u.L2.prot u.d12.symm u.d23, by rintro k (e | e | e); exact u.lt k e; exact u.t1 k e; exact u.t3 k e⟩
theorem UdM.p3 (u : UdM W0 h S AW ws A1 c1 own A2 c2 giv A3 c3 tak s w) : Lst W0.heap.size (With (Wt S AW) A1 A2) w A3 c3 tak ∧ ∀ k, With (Wt S AW) A1 A2 k → k < w.heap.size :=
  ⟨u.L3.prot u.d13.symm u.d23.symm, by rintro k (e | e | e); exact u.lt k e; exact u.t1 k e; exact u.t2 k e⟩
theorem UdM.after1 (u : UdM W0 h S AW ws A1 c1 own A2 c2 giv A3 c3 tak s w) (L : Lst W0.heap.size (With (Wt S AW) A2 A3) w' B d xs) (ho : Only (OutS W0.heap.size (With (Wt S AW) A2 A3)) w w') (hl : ∀ g, ob B = some g → g < w'.heap.size) :
    UdM W0 h S AW ws B d xs A2 c2 giv A3 c3 tak s w' := by
  obtain ⟨q1, q2, q3, q4⟩ := u.far (fun k e => .inl e) ho
  obtain ⟨r1, r2, r3⟩ := L.unprot
  exact ⟨q1, r1, u.L2.stay (fun g e => .inr (.inl e)) ho, u.L3.stay (fun g e => .inr (.inr e)) ho, r2, r3, u.d23, hl, fun g e => Nat.lt_of_lt_of_le (u.t2 g e) ho.size, fun g e => Nat.lt_of_lt_of_le (u.t3 g e) ho.size, q2, q3, u.sb, q4⟩
theorem UdM.after2 (u : UdM W0 h S AW ws A1 c1 own A2 c2 giv A3 c3 tak s w) (L : Lst W0.heap.size (With (Wt S AW) A1 A3) w' B d xs) (ho : Only (OutS W0.heap.size (With (Wt S AW) A1 A3)) w w') (hl : 0 < xs.length) :
    UdM W0 h S AW ws A1 c1 own B d xs A3 c3 tak s w' := by
  obtain ⟨q1, q2, q3, q4⟩ := u.far (fun k e => .inl e) ho
  obtain ⟨r1, r2, r3⟩ := L.unprot
  exact ⟨q1, u.L1.stay (fun g e => .inr (.inl e)) ho, r1, u.L3.stay (fun g e => .inr (.inr e)) ho, r2.symm, u.d13, r3, fun g e => Nat.lt_of_lt_of_le (u.t1 g e) ho.size, L.lt_of hl, fun g e => Nat.lt_of_lt_of_le (u.t3 g e) ho.size, q2, q3, u.sb, q4⟩
theorem UdM.after3 (u : UdM W0 h S AW ws A1 c1 own A2 c2 giv A3 c3 tak s w) (L : Lst W0.heap.size (With (Wt S AW) A1 A2) w' B d xs) (ho : Only (OutS W0.heap.size (With (Wt S AW) A1 A2)) w w') (hl : 0 < xs.length) :
    UdM W0 h S AW ws A1 c1 own A2 c2 giv B d xs s w' := by
  obtain ⟨q1, q2, q3, q4⟩ := u.far (fun k e => .inl e) ho
  obtain ⟨r1, r2, r3⟩ := L.unprot
  exact ⟨q1, u.L1.stay (fun g e => .inr (.inl e)) ho, u.L2.stay (fun g e => .inr (.inr e)) ho, r1, u.d12, r2.symm, r3.symm, fun g e => Nat.lt_of_lt_of_le (u.t1 g e) ho.size, fun g e => Nat.lt_of_lt_of_le (u.t2 g e) ho.size, L.lt_of hl, q2, q3, u.sb, q4⟩
end
end Go.Proofs.Ytinjkjgahipimaa
