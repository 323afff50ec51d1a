/-
  A list of extents that is owned: a row of its own, or a full slice of one.
-/
import Derived.Test.YtinjkjgahipimaaEParted
import Derived.ArgAppend
import Derived.Deep.RegionLawGrows
import Derived.StillTailTactics
set_option linter.unusedVariables false
namespace Go.Proofs.Ytinjkjgahipimaa
open Go.RowKit

/-- what is owned, in memory: W0: what the law found; S: the map's blocks -/
def Lst (W0 : Nat) (S : Nat → Prop) (w : World) (A : Option Addr) (c : Nat) (own : List (Nat × Nat)) : Prop :=
  ExR w A own ∧ (∀ g, Value.ownBlock (.slice A own.length c) = some g → ¬ S g ∧ W0 ≤ g) ∧
    (w.ownsRow 0 39 2 (.slice A own.length c) own.length (exs own) ∨ (c = own.length ∧ (A = none → own = [])))
/-- what may turn beside the map -/
def OutS (W0 : Nat) (S : Nat → Prop) : Nat → Prop := fun k => W0 ≤ k ∧ ¬ S k
section
variable {W0 : Nat} {S : Nat → Prop} {w w' : World} {A : Option Addr} {c : Nat} {own : List (Nat × Nat)}
theorem Lst.nil : Lst W0 S w none 0 [] := ⟨fun i h => absurd h (by simp), fun g h => by simp [Value.ownBlock] at h, .inl (World.ownsRow_nil _ _ _ _)⟩
theorem Lst.keep (L : Lst W0 S w A c own) {F : Nat → Prop} (ho : Only F w w') (hF : ∀ k, F k → ¬ OutS W0 S k) : Lst W0 S w' A c own := by
  obtain ⟨h1, h2, h3⟩ := L
  have hn : ∀ g, Value.ownBlock (.slice A own.length c) = some g → ¬ F g := fun g hg hf => hF g hf ⟨(h2 g hg).2, (h2 g hg).1⟩
  refine ⟨h1.only ho (fun g hg => hn g (by rw [hg]; rfl)), h2, ?_⟩
  rcases h3 with h3 | h3
  · exact .inl (own_only h3 ho hn)
  · exact .inr h3
theorem Lst.only (L : Lst W0 S w A c own) (ho : Only S w w') : Lst W0 S w' A c own := L.keep ho (fun k hk h => h.2 hk)
theorem Lst.below (L : Lst W0 S w A c own) (hb : Below w.heap.size w w') : Lst W0 S w' A c own := L.keep (F := fun _ => False) (Only.of_below hb) (fun k hk => absurd hk id)
theorem ExR.src {xs : List (Nat × Nat)} (h : ExR w A xs) : ∀ b, A = some b → ∀ j u, (exs xs)[j]? = some u → w.cell? (b.add j) = some u := by
  intro b hb j u hu
  have hj : j < xs.length * 2 := by
    have := (List.getElem?_eq_some_iff.1 hu).1
    rwa [length_exs] at this
  obtain ⟨g, rfl, h1, h2⟩ := h (j / 2) (by omega)
  injection hb with hb
  subst hb
  obtain ⟨e1, e2⟩ := exs_get0 (xs := xs) (i := j / 2) (by omega)
  rcases Nat.mod_two_eq_zero_or_one j with hm | hm
  · have hj2 : j / 2 * 2 = j := by omega
    rw [hj2] at e1 h1
    rw [hu] at e1
    rw [e1, Addr.add_lit, Nat.zero_add]; exact h1
  · have hj2 : j / 2 * 2 + 1 = j := by omega
    rw [hj2] at e2 h2
    rw [hu] at e2
    rw [e2, Addr.add_lit, Nat.zero_add]; exact h2
theorem own_shape_len {v : Value} {n : Nat} {base : Nat} {xs : List Value} (h : w.ownsRow base 39 2 v n xs) : ∃ A c, v = .slice A n c := own_shapeZ h
/-- an append onto it -/
theorem wpList_append_lst {ops : Array Oper} {rest : List Oper} {o : Oper} {a : Act} {Q : Exit → Act → World → Prop} (hgd : o.guard = none) (s x : Operand)
    (ho : o.op = .call { callee := .builtin .append, args := #[s, x], argTypes := #[37, 37] })
    (L : Lst W0 S w A c own) (M : Nat) (hM : own.length = M) (hM2 : M ≤ 1000) (hs : a.eval s = .slice A M c) (gx xa xb : Nat) (hx : a.eval x = .slice (some ⟨gx, 0, none⟩) 1 1)
    (hx0 : ∀ j u, [Value.int .i64 xa, .int .i64 xb][j]? = some u → w.cell? ((⟨gx, 0, none⟩ : Addr).add j) = some u) (hW0 : W0 ≤ w.heap.size) (hS : ∀ k, S k → k < w.heap.size)
    (h : ∀ A' c' w', Lst W0 S w' A' c' (own ++ [(xa, xb)]) → Only (OutS W0 S) w w' → wpList Try.prog ops Q rest (a.put o.dst (.slice A' (M + 1) c')) w') : wpList Try.prog ops Q (o :: rest) a w := by
  obtain ⟨i0, hi, hz0, hz1, hz2⟩ := info_parts info39
  obtain ⟨h1, h2, h3⟩ := L
  subst hM
  have hlen : (own ++ [(xa, xb)]).length = own.length + 1 := by simp
  have hex : exs (own ++ [(xa, xb)]) = exs own ++ [.int .i64 xa, .int .i64 xb] := by rw [exs_append]; rfl
  rcases h3 with h3 | ⟨rfl, h4⟩
  · refine wpList_append_sz w hgd s x 37 ho 0 39 i0 _ 2 16 Try.underlying37 hi hz0 hz1 hz2 rfl (by decide) _ _ _ hs h3 (some ⟨gx, 0, none⟩) 1 1 [.int .i64 xa, .int .i64 xb] hx rfl (fun j u hu => ⟨_, rfl, hx0 j u hu⟩) (by simp [Value.oneCell']) (by unfold maxLen; omega) (by omega) (Nat.zero_le _) ?_
    intro A' c' w' hown hg hat
    have hrow : w'.ownsRow 0 39 2 (.slice A' (own ++ [(xa, xb)]).length c') (own ++ [(xa, xb)]).length (exs (own ++ [(xa, xb)])) := by rw [hlen, hex]; exact hown
    refine h A' c' w' ⟨ExR.own hrow, fun g hg' => ?_, .inl hrow⟩ (((Only.refl (OutS W0 S) w).grown hg (fun g hg' => .inl ⟨(h2 g hg').2, (h2 g hg').1⟩)))
    rw [hlen] at hg'
    rcases hat with e | e
    · rw [e] at hg'; exact h2 g hg'
    · rw [e] at hg'
      injection hg' with hg'
      subst hg'
      exact ⟨fun hk => by have := hS _ hk; omega, hW0⟩
  · refine wpList_append_grows w hgd s x 37 ho 39 i0 _ 2 16 Try.underlying37 hi hz0 hz1 hz2 rfl (by decide) A own.length own.length (exs own) hs (fun e => by rw [h4 e]; exact ⟨rfl, rfl⟩) (length_exs _) h1.src ⟨gx, 0, none⟩ 1 1 [.int .i64 xa, .int .i64 xb] hx rfl hx0 (by simp [Value.oneCell']) (by omega) (by unfold maxLen; omega) (by omega) ?_
    intro v' w' hown hg
    obtain ⟨A', c', rfl⟩ := own_shapeZ hown
    have hrow : w'.ownsRow w.heap.size 39 2 (.slice A' (own ++ [(xa, xb)]).length c') (own ++ [(xa, xb)]).length (exs (own ++ [(xa, xb)])) := by rw [hlen, hex]; exact hown
    refine h A' c' w' ⟨ExR.own hrow, fun g hg' => ?_, .inl (own_base hrow)⟩ (((Only.refl (OutS W0 S) w).grown hg (fun g hg' => by cases hg')))
    have := (hrow.lt g hg').1
    exact ⟨fun hk => by have := hS _ hk; omega, by omega⟩
/-- one taken out of it: the slice ahead, full, and what lies behind -/
theorem wpList_append_out {ops : Array Oper} {rest : List Oper} {o : Oper} {a : Act} {Q : Exit → Act → World → Prop} (hgd : o.guard = none) (s x : Operand)
    (ho : o.op = .call { callee := .builtin .append, args := #[s, x], argTypes := #[37, 37] })
    (L : Lst W0 S w A c own) (k M : Nat) (hM : own.length = M) (hk : k < M) (hM2 : M ≤ 1000) (g : Nat) (hA : A = some ⟨g, 0, none⟩) (hs : a.eval s = .slice A k k)
    (B : Option Addr) (cb : Nat) (hx : a.eval x = .slice B (M - (k + 1)) cb) (hB : k + 1 < M → B = some ⟨g, (k + 1) * 2, none⟩) (hBn : M = k + 1 → ∀ b, B = some b → True) (hW0 : W0 ≤ w.heap.size) (hS : ∀ i, S i → i < w.heap.size)
    (hB0 : ∃ b, B = some b)
    (h : ∀ A' c' w', Lst W0 S w' A' c' (own.take k ++ own.drop (k + 1)) → Only (OutS W0 S) w w' → wpList Try.prog ops Q rest (a.put o.dst (.slice A' (M - 1) c')) w') : wpList Try.prog ops Q (o :: rest) a w := by
  obtain ⟨i0, hi, hz0, hz1, hz2⟩ := info_parts info39
  obtain ⟨h1, h2, h3⟩ := L
  subst hM hA
  obtain ⟨b, rfl⟩ := hB0
  have hlen : (own.take k ++ own.drop (k + 1)).length = own.length - 1 := by simp; omega
  have hex : exs (own.take k ++ own.drop (k + 1)) = exs (own.take k) ++ exs (own.drop (k + 1)) := exs_append _ _
  have ht : ExR w (some ⟨g, 0, none⟩) (own.take k) := fun i hi => by
    rw [List.length_take] at hi
    obtain ⟨g', e, c0, c1⟩ := h1 i (by omega)
    have : (own.take k).getD i (0, 0) = own.getD i (0, 0) := by simp [List.getD, show i < k by omega]
    rw [this]
    exact ⟨g', e, c0, c1⟩
  rcases Nat.lt_or_ge (k + 1) own.length with hlt | hge
  · have hb := hB hlt
    injection hb with hb
    subst hb
    have hsrc : ∀ j u, (exs (own.drop (k + 1)))[j]? = some u → w.cell? ((⟨g, (k + 1) * 2, none⟩ : Addr).add j) = some u := fun j u hu => by
      have e : exs own = exs (own.take (k + 1)) ++ exs (own.drop (k + 1)) := by rw [← exs_append, List.take_append_drop]
      have hl : (exs (own.take (k + 1))).length = (k + 1) * 2 := by rw [length_exs, List.length_take]; congr 1; omega
      have := h1.src ⟨g, 0, none⟩ rfl ((k + 1) * 2 + j) u (by rw [e, List.getElem?_append_right (by omega), hl]; simpa using hu)
      rw [Addr.add_lit] at this ⊢
      rwa [Nat.zero_add] at this
    refine wpList_append_grows w hgd s x 37 ho 39 i0 _ 2 16 Try.underlying37 hi hz0 hz1 hz2 rfl (by decide) (some ⟨g, 0, none⟩) k k (exs (own.take k)) hs (fun e => by cases e) (by rw [length_exs, List.length_take]; congr 1; omega) ht.src ⟨g, (k + 1) * 2, none⟩ (own.length - (k + 1)) cb (exs (own.drop (k + 1))) hx (by rw [length_exs, List.length_drop]) hsrc (by
      intro u hu
      simp only [exs, List.mem_flatMap] at hu
      obtain ⟨y, _, hy⟩ := hu
      simp at hy
      rcases hy with rfl | rfl <;> rfl) (by omega) (by unfold maxLen; omega) (by omega) ?_
    intro v' w' hown hg
    obtain ⟨A', c', rfl⟩ := own_shapeZ hown
    have hn : k + (own.length - (k + 1)) = own.length - 1 := by omega
    rw [hn] at hown ⊢
    have hrow : w'.ownsRow w.heap.size 39 2 (.slice A' (own.take k ++ own.drop (k + 1)).length c') (own.take k ++ own.drop (k + 1)).length (exs (own.take k ++ own.drop (k + 1))) := by rw [hlen, hex]; exact hown
    refine h A' c' w' ⟨ExR.own hrow, fun g' hg' => ?_, .inl (own_base hrow)⟩ (((Only.refl (OutS W0 S) w).grown hg (fun g' hg' => by cases hg')))
    have := (hrow.lt g' hg').1
    exact ⟨fun hk => by have := hS _ hk; omega, by omega⟩
  · have hk1 : own.length = k + 1 := by omega
    have hd : own.drop (k + 1) = [] := List.drop_eq_nil_of_le (by omega)
    refine wpList_plain hgd fun K hK' => ?_
    have hx' : a.eval x = .slice (some b) 0 cb := by rw [hx]; congr 1; omega
    unfold Oper.wp
    simp [execOp, ho, resolve, invoke, builtin, hs, hx', Builtin.append_, run_underlying Try.underlying37, sizeOf, typeInfo, hi, Builtin.lenOf, Builtin.firstCells, Result.andThen]
    have e1 : Sem.run Try.prog (loadCells b 0) w = .ok #[] w := by simp [loadCells, loadCellsFrom]
    rw [e1]
    have e2 : ∀ p : Addr, Sem.run Try.prog (storeCells p (#[] : Array Value).toList) w = .ok () w := fun p => by simp [storeCells]
    simp only [e2]
    have hk2 : own.length - 1 = k := by omega
    have hte : own.take k ++ own.drop (k + 1) = own.take k := by rw [hd, List.append_nil]
    refine hK' _ _ ?_
    have := h (some ⟨g, 0, none⟩) k w ?_ (Only.refl _ _)
    · rw [hk2] at this; exact this
    · rw [hte]
      have hl : (own.take k).length = k := by rw [List.length_take]; omega
      refine ⟨ht, fun g' hg' => h2 g' hg', .inr ⟨hl.symm, fun e => by cases e⟩⟩
end
end Go.Proofs.Ytinjkjgahipimaa
