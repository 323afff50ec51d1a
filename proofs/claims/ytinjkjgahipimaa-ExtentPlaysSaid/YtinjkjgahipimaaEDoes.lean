/-
  A call on both maps: what each answers, and what becomes of them.
-/
import Derived.Test.YtinjkjgahipimaaERAlloc2
set_option linter.unusedVariables false
namespace Go.Proofs.Ytinjkjgahipimaa
open Go.RowKit

/-- a call on the program's map: what it hands back, what becomes of the map -/
def MTo (h : Nat) (S : Nat → Prop) (w : World) (v : Value) (s' : St) (e : Ending) (w' : World) : Prop :=
  e = .returned v ∧ ∃ S' : Nat → Prop, Mp w' h S' s' ∧ (∀ k, S' k → S k ∨ w.heap.size ≤ k) ∧ Only S w w'
def RTo (h : Nat) (S : Nat → Prop) (w : World) (v : Value) (s' : St) (e : Ending) (w' : World) : Prop :=
  e = .returned v ∧ ∃ S' : Nat → Prop, Rm w' h S' s' ∧ (∀ k, S' k → S k ∨ w.heap.size ≤ k) ∧ Only S w w'
/-- both maps in the midst of a call: Z: blocks that stay as they are -/
def Mid (w : World) (h hr : Nat) (S R Z : Nat → Prop) (s1 s2 : St) (u : World) : Prop :=
  ∃ S1 R1 : Nat → Prop, Mp u h S1 s1 ∧ Rm u hr R1 s2 ∧ (∀ k, S1 k → S k ∨ w.heap.size ≤ k) ∧ (∀ k, R1 k → R k ∨ w.heap.size ≤ k) ∧ (∀ k, S1 k → ¬ R1 k) ∧
    Only (fun k => S k ∨ R k) w u ∧ ∀ k, Z k → k < u.heap.size ∧ ¬ S1 k ∧ ¬ R1 k
section
variable {w u u' : World} {h hr : Nat} {S R Z : Nat → Prop} {s s1 s2 s' : St} {v : Value} {f : FuncId} {args : Array Value}
theorem Mid.start (m : Mp w h S s) (r : Rm w hr R s) (hd : ∀ k, S k → ¬ R k) : Mid w h hr S R (fun _ => False) s s w :=
  ⟨S, R, m, r, (fun k hk => .inl hk), (fun k hk => .inl hk), hd, Only.refl _ _, fun k hk => absurd hk id⟩
theorem Mid.below (M : Mid w h hr S R Z s1 s2 u) (hb : Below u.heap.size u u') : Mid w h hr S R Z s1 s2 u' := by
  obtain ⟨S1, R1, h1, h2, h3, h4, h5, h6, h7⟩ := M
  exact ⟨S1, R1, h1.below hb, h2.below hb, h3, h4, h5, h6.trans (Only.of_below (F := fun _ => False) hb) (fun i _ e => absurd e id), fun k hk => ⟨Nat.lt_of_lt_of_le (h7 k hk).1 hb.size, (h7 k hk).2⟩⟩
theorem Mid.new (M : Mid w h hr S R Z s1 s2 u) (o : Obj) : Mid w h hr S R (fun k => Z k ∨ k = u.heap.size) s1 s2 (u.alloc o) := by
  obtain ⟨S1, R1, h1, h2, h3, h4, h5, h6, h7⟩ := M
  have hb : Below u.heap.size u (u.alloc o) := (Below.refl _ u).alloc (Nat.le_refl _) o
  refine ⟨S1, R1, h1.below hb, h2.below hb, h3, h4, h5, h6.trans (Only.of_below (F := fun _ => False) hb) (fun i _ e => absurd e id), fun k hk => ?_⟩
  rcases hk with hk | rfl
  · exact ⟨Nat.lt_of_lt_of_le (h7 k hk).1 hb.size, (h7 k hk).2⟩
  · exact ⟨by simp, (fun e => absurd (h1.lt _ e) (Nat.lt_irrefl _)), fun e => absurd (h2.lt _ e) (Nat.lt_irrefl _)⟩
theorem Mid.call1 (M : Mid w h hr S R Z s1 s2 u) (C : ∀ S1, Mp u h S1 s1 → Calls Try.prog f args u (MTo h S1 u v s')) :
    Calls Try.prog f args u fun e w' => e = .returned v ∧ Mid w h hr S R Z s' s2 w' ∧ Only (fun k => ¬ Z k) u w' := by
  obtain ⟨S1, R1, h1, h2, h3, h4, h5, h6, h7⟩ := M
  refine (C S1 h1).mono ?_
  rintro e w' ⟨rfl, S2, m2, hS2, ho⟩
  refine ⟨rfl, ⟨S2, R1, m2, h2.keep ho (fun k hk e => h5 k e hk), fun k hk => ?_, h4, fun k hk hr => ?_, ?_, fun k hk => ⟨Nat.lt_of_lt_of_le (h7 k hk).1 ho.size, fun e => ?_, (h7 k hk).2.2⟩⟩, ho.mono (fun i _ e z => (h7 i z).2.1 e)⟩
  · rcases hS2 k hk with e | e
    · exact h3 k e
    · right; have := h6.size; omega
  · rcases hS2 k hk with e | e
    · exact h5 k e hr
    · have := h2.lt k hr; omega
  · refine h6.trans ho (fun i hi e => ?_)
    rcases h3 i e with e2 | e2
    · exact .inl e2
    · omega
  · rcases hS2 k e with e2 | e2
    · exact (h7 k hk).2.1 e2
    · have := (h7 k hk).1; omega
theorem Mid.call2 (M : Mid w h hr S R Z s1 s2 u) (C : ∀ R1, Rm u hr R1 s2 → Calls Try.prog f args u (RTo hr R1 u v s')) :
    Calls Try.prog f args u fun e w' => e = .returned v ∧ Mid w h hr S R Z s1 s' w' ∧ Only (fun k => ¬ Z k) u w' := by
  obtain ⟨S1, R1, h1, h2, h3, h4, h5, h6, h7⟩ := M
  refine (C R1 h2).mono ?_
  rintro e w' ⟨rfl, R2, m2, hR2, ho⟩
  refine ⟨rfl, ⟨S1, R2, h1.keep ho (fun k hk e => h5 k hk e), m2, h3, fun k hk => ?_, fun k hk hr => ?_, ?_, fun k hk => ⟨Nat.lt_of_lt_of_le (h7 k hk).1 ho.size, (h7 k hk).2.1, fun e => ?_⟩⟩, ho.mono (fun i _ e z => (h7 i z).2.2 e)⟩
  · rcases hR2 k hk with e | e
    · exact h4 k e
    · right; have := h6.size; omega
  · rcases hR2 k hr with e | e
    · exact h5 k hk e
    · have := h1.lt k hk; omega
  · refine h6.trans ho (fun i hi e => ?_)
    rcases h4 i e with e2 | e2
    · exact .inr e2
    · omega
  · rcases hR2 k e with e2 | e2
    · exact (h7 k hk).2.2 e2
    · have := (h7 k hk).1; omega
theorem mto_below (m : Mp u h S s) (C : Calls Try.prog f args u fun e w' => e = .returned v ∧ Below u.heap.size u w') : Calls Try.prog f args u (MTo h S u v s) :=
  C.mono fun e w' hp => ⟨hp.1, S, m.below hp.2, fun k hk => .inl hk, Only.of_below hp.2⟩
theorem rto_below (m : Rm u h S s) (C : Calls Try.prog f args u fun e w' => e = .returned v ∧ Below u.heap.size u w') : Calls Try.prog f args u (RTo h S u v s) :=
  C.mono fun e w' hp => ⟨hp.1, S, m.below hp.2, fun k hk => .inl hk, Only.of_below hp.2⟩
theorem mto_same (m : Mp u h S s) (C : Calls Try.prog f args u fun e w' => e = .returned v ∧ u = w') : Calls Try.prog f args u (MTo h S u v s) :=
  C.mono fun e w' hp => by obtain ⟨rfl, rfl⟩ := hp; exact ⟨rfl, S, m, (fun k hk => .inl hk), Only.refl _ _⟩
theorem rto_same (m : Rm u h S s) (C : Calls Try.prog f args u fun e w' => e = .returned v ∧ u = w') : Calls Try.prog f args u (RTo h S u v s) :=
  C.mono fun e w' hp => by obtain ⟨rfl, rfl⟩ := hp; exact ⟨rfl, S, m, (fun k hk => .inl hk), Only.refl _ _⟩
theorem mto_only (C : Calls Try.prog f args u fun e w' => e = .returned v ∧ Mp w' h S s' ∧ Only S u w') : Calls Try.prog f args u (MTo h S u v s') :=
  C.mono fun e w' hp => ⟨hp.1, S, hp.2.1, fun k hk => .inl hk, hp.2.2⟩
theorem rto_only (C : Calls Try.prog f args u fun e w' => e = .returned v ∧ Rm w' h S s' ∧ Only S u w') : Calls Try.prog f args u (RTo h S u v s') :=
  C.mono fun e w' hp => ⟨hp.1, S, hp.2.1, fun k hk => .inl hk, hp.2.2⟩
end
/-- both answer alike -/
def Both (h hr : Nat) (s : St) (f g : FuncId) (xs : List Value) (v : Value) (s' : St) : Prop :=
  s'.Ok ∧ (∀ u S, Mp u h S s → Calls Try.prog f (#[.pointer (some ⟨h, 0, none⟩)] ++ xs.toArray) u (MTo h S u v s')) ∧ ∀ u R, Rm u hr R s → Calls Try.prog g (#[.pointer (some ⟨hr, 0, none⟩)] ++ xs.toArray) u (RTo hr R u v s')
theorem free_both (h hr : Nat) (s : St) (ok : s.Ok) (a b : Int) : ∃ (v : Int) (s' : St), Both h hr s 18 45 [.agg #[.int .i64 a, .int .i64 b]] (.int .i64 v) s' := by
  by_cases hp : OwnP s a b
  · obtain ⟨x, y, rfl, rfl, hy, hxy⟩ := hp.nat
    by_cases ha : AllP s.l x y 1
    · exact ⟨0, s.put x y (if s.op = true then 2 else 0), ok.put x y (by split <;> decide), (fun u S m => mto_only (free_ok h S s x y u m ok hp ha)), fun u R m => rto_only (rfree_ok hr R s x y u m ok hp ha)⟩
    · exact ⟨1, s, ok, (fun u S m => mto_below m (free_not h S s x y u m ok hp ha)), fun u R m => rto_below m (rfree_not hr R s x y u m ok hp ha)⟩
  · exact ⟨1, s, ok, (fun u S m => mto_below m (free_arg h S s a b u m ok hp)), fun u R m => rto_below m (rfree_arg hr R s a b u m ok hp)⟩
theorem take_both (h hr : Nat) (s : St) (ok : s.Ok) (a b : Int) : ∃ (v : Int) (s' : St), Both h hr s 22 46 [.agg #[.int .i64 a, .int .i64 b]] (.int .i64 v) s' := by
  by_cases hp : OwnP s a b
  · obtain ⟨x, y, rfl, rfl, hy, hxy⟩ := hp.nat
    by_cases ha : AllP s.l x y 0
    · exact ⟨0, s.put x y 1, ok.put x y (by decide), (fun u S m => mto_only (take_ok h S s x y u m ok hp ha)), fun u R m => rto_only (rtake_ok hr R s x y u m ok hp ha)⟩
    · exact ⟨7, s, ok, (fun u S m => mto_below m (take_there h S s x y u m ok hp ha)), fun u R m => rto_below m (rtake_there hr R s x y u m ok hp ha)⟩
  · exact ⟨1, s, ok, (fun u S m => mto_below m (take_arg h S s a b u m ok hp)), fun u R m => rto_below m (rtake_arg hr R s a b u m ok hp)⟩
theorem alloc_both (h hr : Nat) (s : St) (ok : s.Ok) (n : Int) (hn : n ≤ 9223372036854775807) : ∃ (x y e : Int) (s' : St), Both h hr s 17 44 [.int .i64 n] (.tuple #[.agg #[.int .i64 x, .int .i64 y], .int .i64 e]) s' := by
  by_cases h1 : n < 1
  · exact ⟨0, 0, 1, s, ok, (fun u S m => mto_below m (alloc_arg h n u h1)), fun u R m => rto_below m (ralloc_arg hr n u h1)⟩
  · obtain ⟨k, rfl⟩ : ∃ k : Nat, n = (k : Int) := ⟨n.toNat, by omega⟩
    cases ha : alc s.l s.f k with
    | none => exact ⟨0, 0, 3, s, ok, (fun u S m => mto_below m (alloc_no u m ok (by omega) (by omega) ha)), fun u R m => rto_below m (ralloc_no hr R s k u m ok (by omega) (by omega) ha)⟩
    | some x => exact ⟨x.1, k, 0, s.put x.1 k 1, ok.put _ _ (by decide), (fun u S m => mto_only (alloc_yes u m ok (by omega) (by omega) ha)), fun u R m => rto_only (ralloc_yes hr R s k x u m ok (by omega) ha)⟩
theorem begin_both (h hr : Nat) (s : St) (ok : s.Ok) : ∃ (v : Int) (s' : St), Both h hr s 24 47 [] (.int .i64 v) s' := by
  cases ho : s.op with
  | true => exact ⟨16, s, ok, (fun u S m => mto_same m (begin_no h S s u m ho)), fun u R m => rto_same m (rbegin_no hr R s u m ho)⟩
  | false =>
    refine ⟨0, ⟨s.f, s.l, true, s.l⟩, ⟨ok.fl, ok.le, ok.st, (fun _ => rfl), fun _ => ok.st⟩, fun u S m => (begin_yes h S s u m ok ho).mono ?_, fun u R m => (rbegin_yes hr R s u m ok ho).mono ?_⟩
    · rintro e w' ⟨rfl, S', q1, q2, q3⟩
      exact ⟨rfl, S', q1.mp ok.le, q2, q3⟩
    · rintro e w' ⟨rfl, S', q1, q2, q3⟩
      exact ⟨rfl, S', q1, q2, q3⟩
theorem clr_ok {s : St} (ok : s.Ok) : St.Ok ⟨s.f, clr s.l s.l.length, false, []⟩ := ⟨by show s.f ≤ (clr s.l s.l.length).length; rw [length_clr]; exact ok.fl, by show (clr s.l s.l.length).length ≤ 4096; rw [length_clr]; exact ok.le, (fun i => by
  show (clr s.l s.l.length).getD i 0 ≤ 2
  rw [getD_clr]
  have := ok.st i
  split <;> omega), (fun e => by cases e), fun e => by cases e⟩
theorem commit_both (h hr : Nat) (s : St) (ok : s.Ok) : ∃ (v : Int) (s' : St), Both h hr s 27 48 [] (.int .i64 v) s' := by
  cases ho : s.op with
  | true => exact ⟨0, ⟨s.f, clr s.l s.l.length, false, []⟩, clr_ok ok, (fun u S m => mto_only (commit_yes h S s u (m.mp2 ho) ok ho)), fun u R m => rto_only (rcommit_yes hr R s u m ok ho)⟩
  | false => exact ⟨16, s, ok, (fun u S m => mto_same m (commit_no h S s u m ho)), fun u R m => rto_same m (rcommit_no hr R s u m ho)⟩
theorem abort_both (h hr : Nat) (s : St) (ok : s.Ok) : ∃ (v : Int) (s' : St), Both h hr s 26 49 [] (.int .i64 v) s' := by
  cases ho : s.op with
  | true =>
    have hwn := ok.wn ho
    have hfl := ok.fl
    have hle := ok.le
    refine ⟨0, ⟨s.f, s.wl, false, []⟩, ⟨by show s.f ≤ s.wl.length; omega, by show s.wl.length ≤ 4096; omega, ok.ws ho, (fun e => by cases e), fun e => by cases e⟩, fun u S m => (abort_yes h S s u (m.mp2 ho) ho).mono ?_, fun u R m => (rabort_yes hr R s u m ok ho).mono ?_⟩
    · rintro e w' ⟨rfl, S', q1, q2, q3⟩
      exact ⟨rfl, S', q1, (fun k hk => .inl (q2 k hk)), q3⟩
    · rintro e w' ⟨rfl, S', q1, q2, q3⟩
      exact ⟨rfl, S', q1, (fun k hk => .inl (q2 k hk)), q3⟩
  | false => exact ⟨16, s, ok, (fun u S m => mto_same m (abort_no h S s u m ho)), fun u R m => rto_same m (rabort_no hr R s u m ho)⟩
theorem taken_both (h hr : Nat) (s : St) (ok : s.Ok) (n : Int) : Both h hr s 32 50 [.int .i64 n] (.bool (TakP s n)) s :=
  ⟨ok, (fun u S m => mto_same m (taken_any h S s n u m ok.le)), fun u R m => rto_same m (rtaken_any hr R s n u m ok.le)⟩
end Go.Proofs.Ytinjkjgahipimaa
