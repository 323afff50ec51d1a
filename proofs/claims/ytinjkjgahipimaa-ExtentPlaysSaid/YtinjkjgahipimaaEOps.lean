/-
  An extent of a map: is it its own, is all of it so, let it be so.
-/
import Derived.Test.YtinjkjgahipimaaEFrom2
set_option linter.unusedVariables false
namespace Go.Proofs.Ytinjkjgahipimaa
open Go.RowKit

/-- it is an extent of the map -/
def OwnP (s : St) (a b : Int) : Prop := 1 ≤ b ∧ s.f ≤ a ∧ a < s.l.length ∧ b ≤ s.l.length - a
instance (s : St) (a b : Int) : Decidable (OwnP s a b) := by unfold OwnP; infer_instance
/-- all of it is so -/
def AllP (l : List Nat) (a b v : Nat) : Prop := ∀ j, j < b → l.getD (a + j) 0 = v
/-- all of it made so -/
def setR (l : List Nat) (a b v : Nat) : List Nat := (List.range l.length).map fun i => if a ≤ i ∧ i < a + b then v else l.getD i 0
theorem length_setR (l : List Nat) (a b v : Nat) : (setR l a b v).length = l.length := by simp [setR]
theorem getD_setR (l : List Nat) (a b v i : Nat) : (setR l a b v).getD i 0 = if i < l.length ∧ a ≤ i ∧ i < a + b then v else l.getD i 0 := by
  unfold setR
  rcases Nat.lt_or_ge i l.length with h | h
  · by_cases h2 : a ≤ i ∧ i < a + b
    · rw [if_pos ⟨h, h2⟩]; simp [List.getD, h, h2]
    · rw [if_neg (fun x => h2 x.2)]; simp [List.getD, h, h2]
  · rw [if_neg (by omega), List.getD, List.getElem?_eq_none (by simpa using h), List.getD, List.getElem?_eq_none h]
theorem ext_getDN {l m : List Nat} (hl : l.length = m.length) (h : ∀ i, i < l.length → l.getD i 0 = m.getD i 0) : l = m := by
  refine List.ext_getElem hl fun i h1 h2 => ?_
  have := h i h1
  simpa [List.getD, h1, h2] using this
theorem setR_zero (l : List Nat) (a v : Nat) : setR l a 0 v = l := by
  refine ext_getDN (length_setR _ _ _ _) fun i _ => ?_
  rw [getD_setR, if_neg (by omega)]
theorem getD_setN (l : List Nat) (i v k : Nat) : (l.set i v).getD k 0 = if i = k ∧ i < l.length then v else l.getD k 0 := by
  rw [List.getD, List.getElem?_set]
  by_cases h : i = k
  · subst h
    by_cases h2 : i < l.length
    · rw [if_pos rfl, if_pos h2, if_pos ⟨rfl, h2⟩]; rfl
    · rw [if_pos rfl, if_neg h2, if_neg (fun x => h2 x.2), List.getD, List.getElem?_eq_none (by omega)]
  · rw [if_neg h, if_neg (fun x => h x.1)]; rfl
theorem setR_step {l : List Nat} {a k v : Nat} (h : a + k < l.length) : (setR l a k v).set (a + k) v = setR l a (k + 1) v := by
  refine ext_getDN (by simp [length_setR]) fun i hi => ?_
  rw [List.length_set, length_setR] at hi
  rw [getD_setN, getD_setR, getD_setR, length_setR]
  by_cases e : a + k = i
  · subst e
    rw [if_pos ⟨rfl, hi⟩, if_pos ⟨hi, by omega, by omega⟩]
  · rw [if_neg (by omega)]
    by_cases h2 : a ≤ i ∧ i < a + k
    · rw [if_pos ⟨hi, h2⟩, if_pos ⟨hi, h2.1, by omega⟩]
    · rw [if_neg (fun x => h2 x.2), if_neg (by omega)]
/-- the map with an extent made so -/
def St.put (s : St) (a b v : Nat) : St := { s with l := setR s.l a b v }
theorem St.Ok.put {s : St} (ok : s.Ok) (a b : Nat) {v : Nat} (hv : v ≤ 2) : (s.put a b v).Ok := ⟨by show s.f ≤ (setR s.l a b v).length; rw [length_setR]; exact ok.fl, by show (setR s.l a b v).length ≤ 4096; rw [length_setR]; exact ok.le, (fun i => by
  show (setR s.l a b v).getD i 0 ≤ 2
  rw [getD_setR]
  have := ok.st i
  split <;> omega), (fun h => by show s.wl.length = (setR s.l a b v).length; rw [length_setR]; exact ok.wn h), ok.ws⟩

theorem MpTo.only {w w' : World} {h : Nat} {S : Nat → Prop} {s : St} (m : Mp w' h S s) (ho : Only S w w') : MpTo w h S s w' := ⟨S, m, ho, fun k hk => .inl hk⟩

set_option maxRecDepth 100000 in
set_option maxHeartbeats 2000000 in
theorem set_any (h : Nat) (S : Nat → Prop) (s : St) (a b v : Nat) (w : World) (m : Mp w h S s) (hab : a + b ≤ s.l.length) (hle : s.l.length ≤ 4096) :
    Calls Try.prog 39 #[.pointer (some ⟨h, 0, none⟩), .agg #[.int .i64 a, .int .i64 b], .int .u8 v] w fun e w' => e = .returned (.tuple #[]) ∧ Mp w' h S (s.put a b v) ∧ Only S w w' := by
  have hbx := Blk.new w 39 #[.int .i64 a, .int .i64 b]
  have hS := m.lt
  have hm1 : Mp (w.alloc (.cells #[.int .i64 a, .int .i64 b] 39)) h S (s.put a 0 v) := by
    have e : s.put a 0 v = s := by unfold St.put; rw [setR_zero]
    rw [e]
    exact m.below ((Below.refl _ w).alloc (Nat.le_refl _) _)
  have ho1 : Only S w (w.alloc (.cells #[.int .i64 a, .int .i64 b] 39)) := (Only.refl S w).alloc _
  have H0 := Lib.hid (And.intro hbx (And.intro hm1 (And.intro ho1 hS)))
  obtain ⟨N, hN⟩ : ∃ N, N = s.l.length := ⟨_, rfl⟩
  rw [← hN] at hab hle
  have HN := Lib.hid hN
  clear hbx hm1 ho1 m hS hN
  go_enter Try.func39, Try.ntmps39
  go_upto_region 1 with fail
  obtain ⟨w1, hw1⟩ : ∃ w1, w1 = w.alloc (.cells #[.int .i64 a, .int .i64 b] 39) := ⟨_, rfl⟩
  obtain ⟨bx, hbx⟩ : ∃ bx, bx = w.heap.size := ⟨_, rfl⟩
  rw [← hw1, ← hbx] at H0
  rw [← hw1, ← hbx]
  have HBS : Hid (¬ S bx) := fun hs => by have := H0.out.2.2.2 bx hs; omega
  clear hw1 hbx
  have x1 := H0.out.1.cell 1
  simp at x1
  go_wp2_with fail
  clear x1
  go_loopg [9] b (fun g i wr => ∃ k : Nat, k + g = b ∧ i = .int .i64 k ∧ Mp wr h S (s.put a k v) ∧ Only S w wr ∧ Blk wr bx 39 #[.int .i64 a, .int .i64 b])
  case atStart => exact ⟨0, by omega, rfl, H0.out.2.1, H0.out.2.2.1, H0.out.1⟩
  case round =>
    obtain ⟨k, hk, rfl, hm, ho, hb⟩ := hrel
    by_cases hlt : k < b
    · have hpl : (s.put a k v).l.length = N := by show (setR s.l a k v).length = N; rw [length_setR]; exact HN.out.symm
      obtain ⟨go, c, V, hbk, hcell, hfz, hSg, hset, hcl⟩ := hm.set_ (k := a + k) (by rw [hpl]; omega)
      rw [hpl] at hbk hcl
      have c1 := hbk.cell 1
      have x0 := hb.cell 0
      simp at c1 x0
      have hst := hset v
      have hsk : ({ s.put a k v with l := (s.put a k v).l.set (a + k) v } : St) = s.put a (k + 1) v := by
        show (⟨s.f, (setR s.l a k v).set (a + k) v, s.op, s.wl⟩ : St) = _
        rw [setR_step (by rw [← HN.out]; omega)]; rfl
      rw [hsk] at hst
      obtain ⟨q, hq⟩ : ∃ q, q = a + k := ⟨_, rfl⟩
      rw [← hq] at hst hcell hfz
      have hqi : (a : Int) + (k : Int) = (q : Int) := by omega
      have hqw : IntKind.i64.wrap ((a : Int) + (k : Int)) = (q : Int) := by rw [hqi]; exact IntWalk.i64_in _ (by omega)
      have hqN : q < N := by omega
      have hqN2 : (q : Int) < (N : Int) := by omega
      obtain ⟨u, hu⟩ : ∃ u, u = (s.put a k v).l.getD q 0 := ⟨_, rfl⟩
      have hcell2 : wr.cell? ⟨go, q, none⟩ = some (.int .u8 (u : Nat)) := by rw [hu, hq]; rw [hq] at hcell; exact hcell
      have hbx2 : Blk (wr.setCell ⟨go, q, none⟩ (.int .u8 v)) bx 39 #[.int .i64 a, .int .i64 b] := hb.far (p := ⟨go, q, none⟩) (fun e => HBS.out (by have e2 : bx = go := e; rw [e2]; exact hSg)) _
      have HX := Lib.hid (And.intro hst (And.intro (ho.setCell (p := ⟨go, q, none⟩) (.inl hSg) (.int .u8 v)) hbx2))
      clear hst hsk hset hm ho hb hbk hu hcell hq hbx2 hpl
      go_wp2_with fail
      go_region
      all_goals go_wp2_with fail
      all_goals go_roundg (gk - 1)
      all_goals first | omega | exact ⟨k + 1, by omega, by go_num, HX.out.1.drewN 1, HX.out.2.1.drew, HX.out.2.2.drew⟩
    · obtain rfl : k = b := by omega
      have HX := Lib.hid (And.intro hm ho)
      clear hm ho hb
      go_wp2_with fail
      go_end0
      exact ⟨rfl, HX.out.1, HX.out.2⟩

set_option maxRecDepth 100000 in
set_option maxHeartbeats 2000000 in
theorem own_yes (h : Nat) (S : Nat → Prop) (s : St) (a b : Int) (w : World) (m : Mp w h S s) (hle : s.l.length ≤ 4096) (hp : OwnP s a b) :
    Calls Try.prog 40 #[.pointer (some ⟨h, 0, none⟩), .agg #[.int .i64 a, .int .i64 b]] w fun e w' => e = .returned (.bool true) ∧ Below w.heap.size w w' := by
  obtain ⟨A, c, V, hbk, _⟩ := m.own
  have hlt := hbk.lt
  have hbx := Blk.new w 39 #[.int .i64 a, .int .i64 b]
  have hk1 := hbk.alloc (.cells #[.int .i64 a, .int .i64 b] 39)
  have hB0 : Below w.heap.size w (w.alloc (.cells #[.int .i64 a, .int .i64 b] 39)) := (Below.refl _ w).alloc (Nat.le_refl _) _
  obtain ⟨f, l, op, wl⟩ := s
  obtain ⟨p1, p2, p3, p4⟩ := hp
  dsimp only at hk1 hle p2 p3 p4
  obtain ⟨N, hN⟩ : ∃ N, N = l.length := ⟨_, rfl⟩
  rw [← hN] at hk1 hle p3 p4
  have HX := Lib.hid (And.intro hbx (And.intro hk1 hB0))
  clear hbx hk1 hB0 hbk m hlt hN
  have s1 : IntKind.i64.wrap ((N : Int) - a) = (N : Int) - a := IntWalk.i64_in _ (by omega)
  go_enter Try.func40, Try.ntmps40
  go_upto_region 1 with fail
  obtain ⟨w1, hw1⟩ : ∃ w1, w1 = w.alloc (.cells #[.int .i64 a, .int .i64 b] 39) := ⟨_, rfl⟩
  obtain ⟨bx, hbx⟩ : ∃ bx, bx = w.heap.size := ⟨_, rfl⟩
  rw [← hw1, ← hbx] at HX
  rw [← hw1, ← hbx]
  have HB : Hid (Below w.heap.size w w1) := by rw [← hbx]; exact HX.out.2.2
  clear hw1 hbx
  have x0 := HX.out.1.cell 0
  have x1 := HX.out.1.cell 1
  have c0 := HX.out.2.1.cell 0
  have c1 := HX.out.2.1.cell 1
  simp at x0 x1 c0 c1
  go_quiet (fail)
  go_wp2_with fail
  go_ret
  exact ⟨rfl, below_drewN HB.out _⟩
end Go.Proofs.Ytinjkjgahipimaa
