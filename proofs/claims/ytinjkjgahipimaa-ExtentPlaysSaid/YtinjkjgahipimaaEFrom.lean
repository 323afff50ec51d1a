/-
  A map of its bits.
-/
import Derived.Test.YtinjkjgahipimaaETold
set_option linter.unusedVariables false
namespace Go.Proofs.Ytinjkjgahipimaa
open Go.RowKit

section
variable {w : World} {h : Nat} {S : Nat → Prop} {s : St}
/-- a block of a map turned -/
theorem Mp.set_ (m : Mp w h S s) {k : Nat} (hk : k < s.l.length) : ∃ (go c : Nat) (V : Value), Blk w h 68 #[.int .i64 s.f, .slice (some ⟨go, 0, none⟩) s.l.length c, V, .bool s.op] ∧
    w.cell? ⟨go, k, none⟩ = some (.int .u8 (s.l.getD k 0 : Nat)) ∧ w.frozen? ⟨go, k, none⟩ = false ∧ S go ∧ (∀ y : Nat, Mp (w.setCell ⟨go, k, none⟩ (.int .u8 y)) h S { s with l := s.l.set k y }) ∧ s.l.length ≤ c := by
  obtain ⟨A, A', c, c', wl, hb, h1, h2, h3, h4, hS⟩ := m
  obtain ⟨go, cap, e, _, _⟩ := World.ownsRow.form h1 (by omega)
  injection e with e1 _ e3
  subst e1 e3
  have hne : h ≠ go := fun e => own_blk_ne h1 hb (by decide) go rfl e.symm
  have hcl : s.l.length ≤ c := by
    rcases h1.2 with ⟨e, h0⟩ | ⟨g, cap, cur, e, _, _, h5, _⟩
    · cases e
    · cases e; exact h5
  refine ⟨go, c, _, hb, (h1.cellAt k (by omega)).trans (u8s_get hk), h1.frozenAt k, (hS go).2 (.inr (.inl rfl)), fun y => ?_, hcl⟩
  have hst := (h1.stored k (.int .u8 y)).1
  rw [u8s_set] at hst
  refine ⟨some ⟨go, 0, none⟩, A', c, c', wl, ?_, by simpa using hst, own_only h2 ((Only.refl (fun k => k = go) w).setCell (p := ⟨go, k, none⟩) (.inl rfl) _) (fun g hg e => h4 go rfl (e ▸ hg)), h3, fun g hg => h4 g hg, fun g => hS g⟩
  have := hb.far (p := ⟨go, k, none⟩) (by exact hne) (.int .u8 y)
  simpa using this
theorem Rm.set_ (m : Rm w h S s) {k : Nat} (hk : k < s.l.length) : ∃ (go c : Nat) (V : Value), Blk w h 63 #[.int .i64 s.f, .int .i64 s.l.length, .slice (some ⟨go, 0, none⟩) s.l.length c, V, .bool s.op] ∧
    w.cell? ⟨go, k, none⟩ = some (.int .i64 (s.l.getD k 0 : Nat)) ∧ w.frozen? ⟨go, k, none⟩ = false ∧ S go ∧ (∀ y : Nat, Rm (w.setCell ⟨go, k, none⟩ (.int .i64 y)) h S { s with l := s.l.set k y }) ∧ s.l.length ≤ c := by
  obtain ⟨A, A', c, c', wl, hb, h1, h2, h3, h4, hS⟩ := m
  obtain ⟨go, cap, e, _, _⟩ := World.ownsRow.form h1 (by omega)
  injection e with e1 _ e3
  subst e1 e3
  have hne : h ≠ go := fun e => own_blk_ne h1 hb (by decide) go rfl e.symm
  have hcl : s.l.length ≤ c := by
    rcases h1.2 with ⟨e, h0⟩ | ⟨g, cap, cur, e, _, _, h5, _⟩
    · cases e
    · cases e; exact h5
  refine ⟨go, c, _, hb, (h1.cellAt k (by omega)).trans (i64s_get hk), h1.frozenAt k, (hS go).2 (.inr (.inl rfl)), fun y => ?_, hcl⟩
  have hst := (h1.stored k (.int .i64 y)).1
  rw [i64s_set] at hst
  have hbk : Blk (w.setCell ⟨go, k, none⟩ (.int .i64 y)) h 63 #[.int .i64 s.f, .int .i64 (s.l.set k y).length, .slice (some ⟨go, 0, none⟩) (s.l.set k y).length c, .slice A' wl.length c', .bool s.op] := by
    have := hb.far (p := ⟨go, k, none⟩) (by exact hne) (.int .i64 y)
    simpa using this
  rcases h4 with h4 | ⟨h4, rfl, rfl, rfl⟩
  · exact ⟨some ⟨go, 0, none⟩, A', c, c', wl, hbk, by simpa using hst, own_only h2 ((Only.refl (fun k => k = go) w).setCell (p := ⟨go, k, none⟩) (.inl rfl) _) (fun g hg e => h4 go rfl (e ▸ hg)), h3, .inl (fun g hg => h4 g hg), fun g => hS g⟩
  · refine ⟨some ⟨go, 0, none⟩, some ⟨go, 0, none⟩, c', c', s.l.set k y, ?_, by simpa using hst, by simpa using hst, ⟨(fun e => by rw [h4] at e; cases e), by have := h3.2; simpa using this⟩, .inr ⟨h4, rfl, rfl, rfl⟩, fun g => by simpa using hS g⟩
    simpa using hbk
end

/-- a block's bit in a text -/
def bitAt (s : ByteArray) (i : Nat) : Nat := (s.data.toList.getD (i / 8) 0).toNat / 2 ^ (7 - i % 8) % 2
/-- what the bits up to k make of a map -/
def fb (s : ByteArray) (f n k : Nat) : List Nat := (List.range n).map fun i => if f ≤ i ∧ i < k then bitAt s i else 0
theorem length_fb (s : ByteArray) (f n k : Nat) : (fb s f n k).length = n := by simp [fb]
theorem getD_fb (s : ByteArray) (f n k i : Nat) : (fb s f n k).getD i 0 = if i < n ∧ f ≤ i ∧ i < k then bitAt s i else 0 := by
  unfold fb
  rcases Nat.lt_or_ge i n with h | h
  · simp [List.getD, h]
  · rw [if_neg (by omega), List.getD, List.getElem?_eq_none (by simpa using h)]; rfl
theorem fb_zero (s : ByteArray) (f n : Nat) : fb s f n f = List.replicate n 0 := by
  refine List.ext_getElem (by simp [fb]) fun i h1 h2 => ?_
  simp [fb]
  intro h3 h4; omega
theorem fb_set {s : ByteArray} {f n k : Nat} (h1 : f ≤ k) (h2 : k < n) : (fb s f n k).set k (bitAt s k) = fb s f n (k + 1) := by
  refine List.ext_getElem (by simp [fb]) fun i h3 h4 => ?_
  rw [List.getElem_set]
  by_cases e : k = i
  · subst e
    rw [if_pos rfl]
    simp [fb, h1]
  · rw [if_neg e]
    simp only [fb, List.getElem_map, List.getElem_range]
    have : (f ≤ i ∧ i < k) = (f ≤ i ∧ i < k + 1) := by apply propext; omega
    simp only [this]
theorem fb_skip {s : ByteArray} {f n k : Nat} (h0 : bitAt s k = 0) : fb s f n k = fb s f n (k + 1) := by
  unfold fb
  refine List.map_congr_left fun i _ => ?_
  by_cases e : i = k
  · subst e
    by_cases h : f ≤ i
    · rw [if_neg (by omega), if_pos ⟨h, by omega⟩, h0]
    · rw [if_neg (by omega), if_neg (by omega)]
  · have : (f ≤ i ∧ i < k) = (f ≤ i ∧ i < k + 1) := by apply propext; omega
    simp only [this]
theorem bitAt_lt (s : ByteArray) (i : Nat) : bitAt s i < 2 := Nat.mod_lt _ (by decide)
theorem bitAt_and (s : ByteArray) (i : Nat) : (s.data.toList.getD (i / 8) 0).toNat &&& bm i = if bitAt s i = 1 then bm i else 0 := by
  unfold bitAt bm
  generalize (s.data.toList.getD (i / 8) 0).toNat = x
  generalize 7 - i % 8 = t
  have hb := Nat.testBit_eq_decide_div_mod_eq (x := x) (i := t)
  by_cases h : x / 2 ^ t % 2 = 1
  · rw [if_pos h]
    have : x.testBit t = true := by rw [hb]; exact decide_eq_true h
    apply Nat.eq_of_testBit_eq
    intro j
    rw [Nat.testBit_and, Nat.testBit_two_pow]
    by_cases e : t = j
    · subst e; simp [this]
    · simp [e]
  · rw [if_neg h]
    have : x.testBit t = false := by rw [hb]; exact decide_eq_false h
    apply Nat.eq_of_testBit_eq
    intro j
    rw [Nat.testBit_and, Nat.testBit_two_pow]
    by_cases e : t = j
    · subst e; simp [this]
    · simp [e]
def fbSt (s : ByteArray) (f n k : Nat) : St := ⟨f, fb s f n k, false, []⟩
theorem fbSt_ok {s : ByteArray} {f n k : Nat} (h1 : f ≤ n) (h2 : n ≤ 4096) : (fbSt s f n k).Ok := ⟨by simp [fbSt, length_fb]; exact h1, by simp [fbSt, length_fb]; exact h2, (fun i => by
  show (fb s f n k).getD i 0 ≤ 2
  rw [getD_fb]
  have := bitAt_lt s i
  split <;> omega), (fun h => by cases h), (fun h => by cases h)⟩
theorem newSt_fb (s : ByteArray) (f n : Nat) : newSt f n = fbSt s f n f := by unfold newSt fbSt; rw [fb_zero]
theorem byte_getD (s : ByteArray) (q : Nat) (h : q < s.size) : s.data.toList.getD q 0 = s[q] := by
  have h2 : q < s.data.toList.length := by rw [Array.length_toList]; exact h
  rw [List.getD, List.getElem?_eq_getElem h2]
  rfl
end Go.Proofs.Ytinjkjgahipimaa
