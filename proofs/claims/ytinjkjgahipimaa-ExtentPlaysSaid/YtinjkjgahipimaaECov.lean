/-
  Extents that are owned: the plain law.
-/
import Derived.Test.YtinjkjgahipimaaLNames
set_option linter.unusedVariables false
namespace Go.Proofs.Ytinjkjgahipimaa

/-- does an extent hold a block -/
def inX (i : Nat) (x : Nat × Nat) : Bool := decide (x.1 ≤ i) && decide (i < x.1 + x.2)
theorem inX_iff {i : Nat} {x : Nat × Nat} : inX i x = true ↔ x.1 ≤ i ∧ i < x.1 + x.2 := by unfold inX; simp
/-- how many of them do -/
def cov (own : List (Nat × Nat)) (i : Nat) : Nat := (own.filter (inX i)).length
theorem cov_nil (i : Nat) : cov [] i = 0 := rfl
theorem cov_cons (x : Nat × Nat) (own : List (Nat × Nat)) (i : Nat) : cov (x :: own) i = (if x.1 ≤ i ∧ i < x.1 + x.2 then 1 else 0) + cov own i := by
  unfold cov
  rw [List.filter_cons]
  by_cases h : x.1 ≤ i ∧ i < x.1 + x.2
  · rw [if_pos (inX_iff.2 h), if_pos h, List.length_cons]; omega
  · rw [if_neg (fun e => h (inX_iff.1 e)), if_neg h]; omega
theorem cov_append (a b : List (Nat × Nat)) (i : Nat) : cov (a ++ b) i = cov a i + cov b i := by unfold cov; rw [List.filter_append, List.length_append]
theorem cov_mem {own : List (Nat × Nat)} {x : Nat × Nat} {i : Nat} (h : x ∈ own) (h1 : x.1 ≤ i) (h2 : i < x.1 + x.2) : 1 ≤ cov own i := by
  unfold cov
  exact List.length_pos_of_mem (List.mem_filter.2 ⟨h, inX_iff.2 ⟨h1, h2⟩⟩)
theorem cov_split {own : List (Nat × Nat)} {k : Nat} (hk : k < own.length) (i : Nat) : cov own i = cov (own.take k ++ own.drop (k + 1)) i + (if (own.getD k (0, 0)).1 ≤ i ∧ i < (own.getD k (0, 0)).1 + (own.getD k (0, 0)).2 then 1 else 0) := by
  have e : own = own.take k ++ own.getD k (0, 0) :: own.drop (k + 1) := by
    have h1 := List.take_append_drop k own
    rw [List.drop_eq_getElem_cons hk] at h1
    simp only [List.getD, List.getElem?_eq_getElem hk, Option.getD_some]
    exact h1.symm
  have : cov own i = cov (own.take k ++ own.getD k (0, 0) :: own.drop (k + 1)) i := by rw [← e]
  rw [this, cov_append, cov_append, cov_cons]; omega

/-- what is owned of a map is what is taken of it -/
structure Cov (s : St) (own : List (Nat × Nat)) : Prop where
  ok : s.Ok
  op : s.op = false
  st : ∀ i, i < s.l.length → s.l.getD i 0 = cov own i
  one : ∀ i, cov own i ≤ 1
  ext : ∀ x ∈ own, 1 ≤ x.2 ∧ s.f ≤ x.1 ∧ x.1 + x.2 ≤ s.l.length
theorem Cov.new {f n : Nat} (h1 : f ≤ n) (h2 : n ≤ 4096) : Cov (newSt f n) [] := ⟨newSt_ok h1 h2, rfl, fun i hi => by
  show (List.replicate n 0).getD i 0 = 0
  rw [List.getD, List.getElem?_replicate]; split <;> rfl, fun i => by rw [cov_nil]; omega, fun x hx => by cases hx⟩
theorem Cov.alloc {s : St} {own : List (Nat × Nat)} (c : Cov s own) {n : Nat} {x : Nat × Nat} (hn : 1 ≤ n) (ha : alc s.l s.f n = some x) : Cov (s.put x.1 n 1) (own ++ [(x.1, n)]) := by
  obtain ⟨hm, hnx⟩ := alc_fits ha
  obtain ⟨h1, h2, h3, h4⟩ := spc_in hm
  have hz : ∀ i, x.1 ≤ i → i < x.1 + n → cov own i = 0 := fun i hi1 hi2 => by
    rw [← c.st i (by omega)]
    have := fr_zero (l := s.l) (n := x.1) (j := i - x.1) (by omega)
    rwa [show x.1 + (i - x.1) = i by omega] at this
  refine ⟨c.ok.put _ _ (by decide), c.op, fun i hi => ?_, fun i => ?_, fun y hy => ?_⟩
  · have hi' : i < s.l.length := by have : (setR s.l x.1 n 1).length = s.l.length := length_setR _ _ _ _; show i < s.l.length; rw [← this]; exact hi
    show (setR s.l x.1 n 1).getD i 0 = _
    rw [getD_setR, cov_append, cov_cons, cov_nil, c.st i hi']
    by_cases h : x.1 ≤ i ∧ i < x.1 + n
    · rw [if_pos ⟨hi', h⟩, if_pos h, hz i h.1 h.2]
    · rw [if_neg (fun e => h e.2), if_neg h]; omega
  · rw [cov_append, cov_cons, cov_nil]
    have := c.one i
    by_cases h : x.1 ≤ i ∧ i < x.1 + n
    · rw [hz i h.1 h.2, if_pos h]; omega
    · rw [if_neg h]; omega
  · show 1 ≤ y.2 ∧ s.f ≤ y.1 ∧ y.1 + y.2 ≤ (setR s.l x.1 n 1).length
    rw [length_setR]
    rcases List.mem_append.1 hy with hy | hy
    · exact c.ext y hy
    · simp at hy; subst hy; exact ⟨hn, h1, by show x.1 + n ≤ _; omega⟩
theorem Cov.owned {s : St} {own : List (Nat × Nat)} (c : Cov s own) {x : Nat × Nat} (hx : x ∈ own) : OwnP s x.1 x.2 ∧ AllP s.l x.1 x.2 1 := by
  obtain ⟨h1, h2, h3⟩ := c.ext x hx
  refine ⟨⟨by omega, by omega, by omega, by omega⟩, fun j hj => ?_⟩
  rw [c.st _ (by omega)]
  have := cov_mem hx (i := x.1 + j) (by omega) (by omega)
  have := c.one (x.1 + j)
  omega
theorem Cov.free {s : St} {own : List (Nat × Nat)} (c : Cov s own) {k : Nat} (hk : k < own.length) :
    Cov (s.put (own.getD k (0, 0)).1 (own.getD k (0, 0)).2 0) (own.take k ++ own.drop (k + 1)) := by
  have hx : own.getD k (0, 0) ∈ own := by rw [List.getD, List.getElem?_eq_getElem hk]; exact List.getElem_mem hk
  obtain ⟨h1, h2, h3⟩ := c.ext _ hx
  obtain ⟨x, hxe⟩ : ∃ x, x = own.getD k (0, 0) := ⟨_, rfl⟩
  have hsp := fun i => cov_split hk i
  rw [← hxe] at hx h1 h2 h3 ⊢
  simp only [← hxe] at hsp
  refine ⟨c.ok.put _ _ (by decide), c.op, fun i hi => ?_, fun i => ?_, fun y hy => ?_⟩
  · have hi' : i < s.l.length := by have : (setR s.l x.1 x.2 0).length = s.l.length := length_setR _ _ _ _; show i < s.l.length; rw [← this]; exact hi
    show (setR s.l x.1 x.2 0).getD i 0 = _
    have e1 := hsp i
    have e2 := c.one i
    rw [getD_setR, c.st i hi']
    by_cases h : x.1 ≤ i ∧ i < x.1 + x.2
    · rw [if_pos ⟨hi', h⟩]; rw [if_pos h] at e1; omega
    · rw [if_neg (fun e => h e.2)]; rw [if_neg h] at e1; omega
  · have e1 := hsp i
    have e2 := c.one i
    omega
  · show 1 ≤ y.2 ∧ s.f ≤ y.1 ∧ y.1 + y.2 ≤ (setR s.l x.1 x.2 0).length
    rw [length_setR]
    rcases List.mem_append.1 hy with hy | hy
    · exact c.ext y (List.mem_of_mem_take hy)
    · exact c.ext y (List.mem_of_mem_drop hy)
/-- what was given back is nobody's -/
theorem Cov.gone {s : St} {own : List (Nat × Nat)} (c : Cov s own) {x : Nat × Nat} (hx : x ∈ own) : ¬ AllP (s.put x.1 x.2 0).l x.1 x.2 1 := by
  obtain ⟨h1, h2, h3⟩ := c.ext x hx
  intro h
  have h0 := h 0 (by omega)
  have : (setR s.l x.1 x.2 0).getD (x.1 + 0) 0 = 1 := h0
  rw [getD_setR, if_pos ⟨by omega, by omega, by omega⟩] at this
  cases this
theorem St.put_length (s : St) (a b v : Nat) : (s.put a b v).l.length = s.l.length := length_setR _ _ _ _
theorem OwnP.put {s : St} {a b : Int} (h : OwnP s a b) (x y v : Nat) : OwnP (s.put x y v) a b := by
  obtain ⟨h1, h2, h3, h4⟩ := h
  exact ⟨h1, h2, by rw [St.put_length]; exact h3, by rw [St.put_length]; exact h4⟩
/-- nothing owned: nothing taken -/
theorem Cov.empty {s : St} (c : Cov s []) : s.l = List.replicate s.l.length 0 := ext_getDN (by simp) fun i hi => by
  rw [c.st i hi, cov_nil, List.getD, List.getElem?_replicate]
  split <;> rfl
theorem room_zeros (n : Nat) : ∀ d f, n - f ≤ d → f ≤ n → room (List.replicate n 0) f = n - f
  | 0, f, h, hf => by rw [room_end (by simp; omega)]; omega
  | d + 1, f, h, hf => by
    rcases Nat.lt_or_ge f n with h2 | h2
    · rw [room_step (by simpa using h2), room_zeros n d (f + 1) (by omega) (by omega), if_pos (by rw [List.getD, List.getElem?_replicate]; split <;> rfl)]; omega
    · rw [room_end (by simp; omega)]; omega
theorem Cov.room {s : St} (c : Cov s []) : room s.l s.f = s.l.length - s.f := by
  rw [c.empty]
  have := room_zeros s.l.length _ s.f (Nat.le_refl _) c.ok.fl
  simpa using this
end Go.Proofs.Ytinjkjgahipimaa
