/-
  A transaction's law in plain: what is owned, taken and given while it is open; three lists that lie apart.
-/
import Derived.Test.YtinjkjgahipimaaECommit
import Derived.Test.YtinjkjgahipimaaELst
import Derived.Test.YtinjkjgahipimaaECov
set_option linter.unusedVariables false
namespace Go.Proofs.Ytinjkjgahipimaa
open Go.RowKit

/-- does an extent hold it: a number -/
def inN (i : Nat) (x : Nat × Nat) : Nat := if x.1 ≤ i ∧ i < x.1 + x.2 then 1 else 0
theorem cov_snoc (own : List (Nat × Nat)) (x : Nat × Nat) (i : Nat) : cov (own ++ [x]) i = cov own i + inN i x := by
  rw [cov_append, cov_cons, cov_nil]; rfl
theorem cov_take {own : List (Nat × Nat)} {k : Nat} (hk : k < own.length) (i : Nat) : cov own i = cov (own.take k ++ own.drop (k + 1)) i + inN i (own.getD k (0, 0)) := cov_split hk i
/-- an open map: owned and taken are marked 1, given 2 -/
structure Und (s : St) (own tak giv : List (Nat × Nat)) : Prop where
  ok : s.Ok
  op : s.op = true
  st : ∀ i, i < s.l.length → s.l.getD i 0 = cov own i + cov tak i + 2 * cov giv i
  one : ∀ i, cov own i + cov tak i + cov giv i ≤ 1
  e1 : ∀ x ∈ own, 1 ≤ x.2 ∧ s.f ≤ x.1 ∧ x.1 + x.2 ≤ s.l.length
  e2 : ∀ x ∈ tak, 1 ≤ x.2 ∧ s.f ≤ x.1 ∧ x.1 + x.2 ≤ s.l.length
  e3 : ∀ x ∈ giv, 1 ≤ x.2 ∧ s.f ≤ x.1 ∧ x.1 + x.2 ≤ s.l.length
theorem Und.begin {f : Nat} {l : List Nat} {op : Bool} {wl : List Nat} {own : List (Nat × Nat)} (c : Cov ⟨f, l, op, wl⟩ own) : Und ⟨f, l, true, l⟩ own [] [] :=
  ⟨⟨c.ok.fl, c.ok.le, c.ok.st, fun _ => rfl, fun _ => c.ok.st⟩, rfl, fun i hi => by rw [cov_nil]; have := c.st i hi; exact this, fun i => by rw [cov_nil]; have := c.one i; omega, c.ext, (fun x hx => by cases hx), fun x hx => by cases hx⟩
section
variable {s : St} {own tak giv : List (Nat × Nat)}
theorem Und.owned (c : Und s own tak giv) {x : Nat × Nat} (hx : x ∈ own) : OwnP s x.1 x.2 ∧ AllP s.l x.1 x.2 1 := by
  obtain ⟨h1, h2, h3⟩ := c.e1 x hx
  refine ⟨⟨by omega, by omega, by omega, by omega⟩, fun j hj => ?_⟩
  rw [c.st _ (by omega)]
  have := cov_mem hx (i := x.1 + j) (by omega) (by omega)
  have := c.one (x.1 + j)
  omega
theorem Und.zone (c : Und s own tak giv) {n : Nat} {x : Nat × Nat} (ha : alc s.l s.f n = some x) : s.f ≤ x.1 ∧ x.1 + n ≤ s.l.length ∧ ∀ i, x.1 ≤ i → i < x.1 + n → cov own i + cov tak i + cov giv i = 0 := by
  obtain ⟨hm, hnx⟩ := alc_fits ha
  obtain ⟨h1, h2, h3, h4⟩ := spc_in hm
  refine ⟨h1, by omega, fun i hi1 hi2 => ?_⟩
  have e := c.st i (by omega)
  have := fr_zero (l := s.l) (n := x.1) (j := i - x.1) (by omega)
  rw [show x.1 + (i - x.1) = i by omega] at this
  omega
/-- what is taken is none of what was given -/
theorem Und.apart (c : Und s own tak giv) {n : Nat} (hn : 1 ≤ n) {x : Nat × Nat} (ha : alc s.l s.f n = some x) {y : Nat × Nat} (hy : y ∈ giv) : ¬ (x.1 < y.1 + y.2 ∧ y.1 < x.1 + n) := by
  rintro ⟨h1, h2⟩
  obtain ⟨_, _, hz⟩ := c.zone ha
  obtain ⟨q1, _, _⟩ := c.e3 y hy
  rcases Nat.le_total x.1 y.1 with h | h
  · have := hz y.1 h h2
    have := cov_mem hy (i := y.1) (Nat.le_refl _) (by omega)
    omega
  · have := hz x.1 (Nat.le_refl _) (by omega)
    have := cov_mem hy (i := x.1) h h1
    omega
theorem Und.alloc (c : Und s own tak giv) {n : Nat} {x : Nat × Nat} (hn : 1 ≤ n) (ha : alc s.l s.f n = some x) : Und (s.put x.1 n 1) own (tak ++ [(x.1, n)]) giv := by
  obtain ⟨h1, h3, hz⟩ := c.zone ha
  refine ⟨c.ok.put _ _ (by decide), c.op, fun i hi => ?_, fun i => ?_, ?_, fun y hy => ?_, ?_⟩
  · have hi' : i < s.l.length := by rw [← St.put_length s x.1 n 1]; exact hi
    show (setR s.l x.1 n 1).getD i 0 = _
    rw [getD_setR, cov_snoc, c.st i hi']
    unfold inN
    dsimp only
    by_cases h : x.1 ≤ i ∧ i < x.1 + n
    · have := hz i h.1 h.2
      rw [if_pos ⟨hi', h⟩, if_pos h]; omega
    · rw [if_neg (fun e => h e.2), if_neg h]; omega
  · rw [cov_snoc]
    unfold inN
    dsimp only
    have := c.one i
    by_cases h : x.1 ≤ i ∧ i < x.1 + n
    · have := hz i h.1 h.2
      rw [if_pos h]; omega
    · rw [if_neg h]; omega
  · intro y hy; rw [St.put_length]; exact c.e1 y hy
  · rw [St.put_length]
    rcases List.mem_append.1 hy with hy | hy
    · exact c.e2 y hy
    · simp at hy; subst hy; exact ⟨hn, h1, h3⟩
  · intro y hy; rw [St.put_length]; exact c.e3 y hy
theorem Und.give (c : Und s own tak giv) {k : Nat} (hk : k < own.length) :
    Und (s.put (own.getD k (0, 0)).1 (own.getD k (0, 0)).2 2) (own.take k ++ own.drop (k + 1)) tak (giv ++ [own.getD k (0, 0)]) := by
  have hx : own.getD k (0, 0) ∈ own := by rw [List.getD, List.getElem?_eq_getElem hk]; exact List.getElem_mem hk
  obtain ⟨h1, h2, h3⟩ := c.e1 _ hx
  obtain ⟨x, hxe⟩ : ∃ x, x = own.getD k (0, 0) := ⟨_, rfl⟩
  have hsp := fun i => cov_take hk i
  rw [← hxe] at hx h1 h2 h3 ⊢
  simp only [← hxe] at hsp
  refine ⟨c.ok.put _ _ (by decide), c.op, fun i hi => ?_, fun i => ?_, fun y hy => ?_, ?_, fun y hy => ?_⟩
  · have hi' : i < s.l.length := by rw [← St.put_length s x.1 x.2 2]; exact hi
    show (setR s.l x.1 x.2 2).getD i 0 = _
    have e1 := hsp i
    have e2 := c.one i
    rw [getD_setR, cov_snoc, c.st i hi']
    unfold inN at *
    by_cases h : x.1 ≤ i ∧ i < x.1 + x.2
    · rw [if_pos ⟨hi', h⟩]; rw [if_pos h] at e1 ⊢; omega
    · rw [if_neg (fun e => h e.2)]; rw [if_neg h] at e1 ⊢; omega
  · have e1 := hsp i
    have e2 := c.one i
    rw [cov_snoc]
    omega
  · rw [St.put_length]
    rcases List.mem_append.1 hy with hy | hy
    · exact c.e1 y (List.mem_of_mem_take hy)
    · exact c.e1 y (List.mem_of_mem_drop hy)
  · intro y hy; rw [St.put_length]; exact c.e2 y hy
  · rw [St.put_length]
    rcases List.mem_append.1 hy with hy | hy
    · exact c.e3 y hy
    · simp at hy; subst hy; exact ⟨h1, h2, h3⟩
/-- committed: what is owned and taken is all -/
theorem Und.commit (c : Und s own tak giv) : Cov ⟨s.f, clr s.l s.l.length, false, []⟩ (own ++ tak) := by
  refine ⟨⟨?_, ?_, fun i => ?_, (fun h => by cases h), (fun h => by cases h)⟩, rfl, fun i hi => ?_, fun i => ?_, fun y hy => ?_⟩
  · show s.f ≤ (clr s.l s.l.length).length
    rw [length_clr]; exact c.ok.fl
  · show (clr s.l s.l.length).length ≤ 4096
    rw [length_clr]; exact c.ok.le
  · show (clr s.l s.l.length).getD i 0 ≤ 2
    rw [getD_clr]
    have := c.ok.st i
    split <;> omega
  · have hi2 : i < s.l.length := by have : i < (clr s.l s.l.length).length := hi; rwa [length_clr] at this
    show (clr s.l s.l.length).getD i 0 = _
    rw [getD_clr, cov_append]
    have e1 := c.st i hi2
    have e2 := c.one i
    by_cases h : s.l.getD i 0 = 2
    · rw [if_pos ⟨hi2, h⟩]; omega
    · rw [if_neg (fun e => h e.2)]; omega
  · rw [cov_append]; have := c.one i; omega
  · show 1 ≤ y.2 ∧ s.f ≤ y.1 ∧ y.1 + y.2 ≤ (clr s.l s.l.length).length
    rw [length_clr]
    rcases List.mem_append.1 hy with hy | hy
    · exact c.e1 y hy
    · exact c.e2 y hy
end
theorem btK_clr (f : Nat) (l : List Nat) (n : Nat) : ∀ k, btK f (clr l n) k = btK f l k
  | 0 => by unfold btK; rw [length_clr]
  | k + 1 => by
    have ih := btK_clr f l n k
    have e : (k < f ∨ (clr l n).getD k 0 = 1) ↔ (k < f ∨ l.getD k 0 = 1) := by
      rw [getD_clr]
      by_cases h : k < n ∧ l.getD k 0 = 2
      · rw [if_pos h, h.2]; simp
      · rw [if_neg h]
    by_cases h : k < f ∨ l.getD k 0 = 1
    · rw [btK_yes h, btK_yes (e.2 h), ih]
    · rw [btK_no h, btK_no (fun x => h (e.1 x)), ih]
theorem bitsT_clr (f : Nat) (l : List Nat) (n : Nat) : bitsT f (clr l n) = bitsT f l := by unfold bitsT; rw [btK_clr, length_clr]

/-- the block of a slice -/
def ob (A : Option Addr) : Option Nat := A.map Addr.block
theorem ob_eq (A : Option Addr) (n c : Nat) : Value.ownBlock (.slice A n c) = ob A := by cases A <;> rfl
def Dis (A B : Option Addr) : Prop := ∀ g, ob A = some g → ob B ≠ some g
theorem Dis.symm {A B : Option Addr} (h : Dis A B) : Dis B A := fun g h1 h2 => h g h2 h1
section
variable {W0 : Nat} {S : Nat → Prop} {w w' : World} {A B C : Option Addr} {c d : Nat} {own xs : List (Nat × Nat)}
/-- a set with two lists' blocks -/
def With (S : Nat → Prop) (B C : Option Addr) : Nat → Prop := fun k => S k ∨ ob B = some k ∨ ob C = some k
theorem Lst.prot (L : Lst W0 S w A c own) (h1 : Dis A B) (h2 : Dis A C) : Lst W0 (With S B C) w A c own := by
  obtain ⟨q1, q2, q3⟩ := L
  refine ⟨q1, fun g hg => ⟨fun h => ?_, (q2 g hg).2⟩, q3⟩
  rcases h with h | h | h
  · exact (q2 g hg).1 h
  · rw [ob_eq] at hg; exact h1 g hg h
  · rw [ob_eq] at hg; exact h2 g hg h
theorem Lst.unprot (L : Lst W0 (With S B C) w A c own) : Lst W0 S w A c own ∧ Dis A B ∧ Dis A C := by
  obtain ⟨q1, q2, q3⟩ := L
  refine ⟨⟨q1, fun g hg => ⟨fun h => (q2 g hg).1 (.inl h), (q2 g hg).2⟩, q3⟩, fun g hg h => ?_, fun g hg h => ?_⟩
  · exact (q2 g (by rw [ob_eq]; exact hg)).1 (.inr (.inl h))
  · exact (q2 g (by rw [ob_eq]; exact hg)).1 (.inr (.inr h))
theorem Lst.keepB (L : Lst W0 S w A c own) {F : Nat → Prop} (ho : Only F w w') (hn : ∀ g, ob A = some g → ¬ F g) : Lst W0 S w' A c own := by
  obtain ⟨h1, h2, h3⟩ := L
  refine ⟨h1.only ho (fun g hg => hn g (by rw [hg]; rfl)), h2, ?_⟩
  rcases h3 with h3 | h3
  · exact .inl (own_only h3 ho (fun g hg => hn g (by rw [ob_eq] at hg; exact hg)))
  · exact .inr h3
theorem Lst.more {T : Nat → Prop} (L : Lst W0 T w A c own) (h : ∀ k, S k → T k) : Lst W0 S w A c own :=
  ⟨L.1, fun g hg => ⟨fun e => (L.2.1 g hg).1 (h g e), (L.2.1 g hg).2⟩, L.2.2⟩
theorem Lst.lt_of (L : Lst W0 S w A c own) (hne : 0 < own.length) : ∀ g, ob A = some g → g < w.heap.size := by
  intro g hg
  obtain ⟨b, rfl, c0, _⟩ := L.1 0 hne
  have : b = g := by simpa [ob] using hg
  rw [← this]; exact World.block_lt_of_cell? w _ c0
end
end Go.Proofs.Ytinjkjgahipimaa
