/-
  A region that draws its order, by an invariant: whatever order comes, each operation keeps it.
-/
import Derived.Test.YtpggicaphejjfaaMem
import Derived.OrdersHeld
import Derived.Deep.RegionHeld3
set_option linter.unusedVariables false
namespace Go.Proofs.Ytpggicaphejjfaa
open Go.RowKit

/-- how many have not come up -/
def unl (n : Nat) (l : Array Bool) : Nat := ((List.range n).filter fun i => !l.getD i true).length
theorem filter_lt {α : Type} (p q : α → Bool) (h : ∀ x, q x = true → p x = true) : ∀ {l : List α} {x : α}, x ∈ l → p x = true → q x = false → (l.filter q).length < (l.filter p).length
  | y :: r, x, hx, hp, hq => by
    have hle : ∀ l : List α, (l.filter q).length ≤ (l.filter p).length := by
      intro l
      induction l with
      | nil => exact Nat.le_refl _
      | cons z r ih =>
        rw [List.filter_cons, List.filter_cons]
        cases hqz : q z with
        | true => rw [h z hqz]; simpa using ih
        | false =>
          cases p z with
          | true => simp; omega
          | false => simpa using ih
    rcases List.mem_cons.1 hx with e | e
    · subst e
      rw [List.filter_cons, List.filter_cons, hp, hq]
      have := hle r
      simp
      omega
    · have := filter_lt p q h e hp hq
      rw [List.filter_cons, List.filter_cons]
      cases hqz : q y with
      | true => rw [h y hqz]; simpa using this
      | false =>
        cases p y with
        | true => simp; omega
        | false => simpa using this
theorem unl_set {n i : Nat} {l : Array Bool} (hi : i < n) (hl : l.getD i true = false) : unl n (l.setIfInBounds i true) < unl n l := by
  have hsz : i < l.size := by
    rcases Nat.lt_or_ge i l.size with h | h
    · exact h
    · simp [Array.getElem?_eq_none h] at hl
  refine filter_lt _ _ (fun x hx => ?_) (x := i) (List.mem_range.2 hi) (by simp [hl]) (by simp [hsz])
  by_cases e : i = x
  · subst e; simp [hsz] at hx
  · rw [getD_set_ne true e] at hx; exact hx

section
variable {P : Program} {ops : Array Oper} {Q : Exit → Act → World → Prop} {md : Region.Mode} {S : World → Prop}
theorem all_listed {l : Array Bool} (hback : ∀ (i : Nat) (o : Oper), ops[i]? = some o → ∀ e ∈ o.after, e.on < i) (hr : Region.ready md ops l = []) (hsz : l.size = ops.size) : ∀ i, l.getD i true = true := by
  intro i
  induction i using Nat.strongRecOn with
  | _ i ih =>
    rcases Nat.lt_or_ge i ops.size with h | h
    · cases hl : l.getD i true with
      | true => rfl
      | false =>
        have hmem : i ∈ Region.ready md ops l := mem_ready.2 ⟨hl, ops[i], Array.getElem?_eq_getElem h, fun e he _ => by
          have h1 := hback i _ (Array.getElem?_eq_getElem h) e he
          have h2 := ih e.on h1
          have h3 : e.on < l.size := by omega
          simp [h3] at h2 ⊢
          exact h2⟩
        rw [hr] at hmem
        cases hmem
    · have h' : l.size ≤ i := by omega
      simp [Array.getElem?_eq_none h']
theorem wpAnyH_inv {J : Array Bool → Act → World → Prop} (hback : ∀ (i : Nat) (o : Oper), ops[i]? = some o → ∀ e ∈ o.after, e.on < i)
    (hJ : ∀ l a w, J l a w → S w ∧ l.size = ops.size)
    (hstep : ∀ (i : Nat) (o : Oper) (l : Array Bool) (a : Act) (w : World), ops[i]? = some o → l.getD i true = false → (∀ e ∈ o.after, Region.binds md e = true → l.getD e.on false = true) → J l a w → wpOp P ops Q i (fun a' w' => J (l.setIfInBounds i true) a' w') a w)
    (hend : ∀ l a w, (∀ i, l.getD i true = true) → J l a w → Q .normal a w) :
    ∀ fuel l a w, unl ops.size l ≤ fuel → J l a w → wpAnyH P md ops Q S fuel l a w := by
  intro fuel
  induction fuel with
  | zero =>
    intro l a w hf hj
    have hr : Region.ready md ops l = [] := by
      cases hc : Region.ready md ops l with
      | nil => rfl
      | cons i r =>
        have hm : i ∈ Region.ready md ops l := by rw [hc]; exact List.mem_cons_self
        obtain ⟨h1, o, ho, _⟩ := mem_ready.1 hm
        have := unl_set (Array.getElem?_eq_some_iff.1 ho).1 h1
        omega
    exact ⟨hr, hend l a w (all_listed hback hr (hJ l a w hj).2) hj⟩
  | succ fuel ih =>
    intro l a w hf hj
    refine ⟨fun hr => hend l a w (all_listed hback hr (hJ l a w hj).2) hj, fun i hi => ?_⟩
    obtain ⟨h1, o, ho, hall⟩ := mem_ready.1 hi
    have hlt := unl_set (Array.getElem?_eq_some_iff.1 ho).1 h1
    exact wpOp_mono (fun a' w' hj' => ⟨(hJ _ _ _ hj').1, ih _ a' w' (by omega) hj'⟩) (hstep i o l a w ho h1 hall hj)
end
end Go.Proofs.Ytpggicaphejjfaa
