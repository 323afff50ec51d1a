/-
  The reference's Taken, Begin, Commit, Abort; the program's where they are refused.
-/
import Derived.Test.YtinjkjgahipimaaERTake
import Derived.Test.YtinjkjgahipimaaECommit
set_option linter.unusedVariables false
namespace Go.Proofs.Ytinjkjgahipimaa
open Go.RowKit

set_option maxRecDepth 100000 in
set_option maxHeartbeats 1000000 in
theorem rtaken_any (h : Nat) (S : Nat → Prop) (s : St) (n : Int) (w : World) (m : Rm w h S s) (hle : s.l.length ≤ 4096) : Calls Try.prog 50 #[.pointer (some ⟨h, 0, none⟩), .int .i64 n] w fun e w' => e = .returned (.bool (TakP s n)) ∧ w = w' := by
  obtain ⟨f, l, op, wl⟩ := s
  obtain ⟨A, c, V, hb, ho⟩ := m.own
  dsimp only at hb ho hle
  have c0 := hb.cell 0
  have c1 := hb.cell 1
  have c2 := hb.cell 2
  simp at c0 c1 c2
  obtain ⟨N, hN⟩ : ∃ N, N = l.length := ⟨_, rfl⟩
  have hrow := fun k (hk : k < l.length) => row_i64 ho hk
  rw [← hN] at hle c1 c2 hrow
  have HR := Lib.hid (And.intro hrow hN)
  clear hb ho m hrow
  by_cases h1 : (f : Int) ≤ n
  · by_cases h2 : n < (N : Int)
    · obtain ⟨k, rfl⟩ : ∃ k : Nat, n = (k : Int) := ⟨n.toNat, by omega⟩
      obtain ⟨a, rfl, hc⟩ := HR.out.1 k (by omega)
      have hT : TakP ⟨f, l, op, wl⟩ (k : Int) = ((l.getD k 0 : Int) != 0) := by
        unfold TakP
        rw [decide_eq_true h1, decide_eq_true (show (k : Int) < (l.length : Int) by omega)]; simp
      obtain ⟨v, hv⟩ : ∃ v, v = l.getD k 0 := ⟨_, rfl⟩
      rw [← hv] at hc hT
      have HT := Lib.hid hT
      have hk : k < N := by omega
      clear hT hv hN
      go_enter Try.func50, Try.ntmps50
      go_wp2_with fail
      go_ret
      rw [HT.out]
      exact ⟨rfl, rfl⟩
    · have hd : decide (n < (N : Int)) = false := decide_eq_false h2
      have hT : Hid (TakP ⟨f, l, op, wl⟩ n = false) := by
        show TakP ⟨f, l, op, wl⟩ n = false
        unfold TakP
        rw [decide_eq_false (show ¬ n < (l.length : Int) by omega)]; simp
      clear h2 hN
      go_enter Try.func50, Try.ntmps50
      go_wp2_with fail
      go_ret
      rw [hT.out]
      exact ⟨rfl, rfl⟩
  · have hd : decide ((f : Int) ≤ n) = false := decide_eq_false h1
    have hT : Hid (TakP ⟨f, l, op, wl⟩ n = false) := by
      show TakP ⟨f, l, op, wl⟩ n = false
      unfold TakP
      rw [decide_eq_false h1]; simp
    clear h1 hN
    go_enter Try.func50, Try.ntmps50
    go_wp2_with fail
    go_ret
    rw [hT.out]
    exact ⟨rfl, rfl⟩


/-! the program's, refused -/
set_option maxRecDepth 100000 in
theorem begin_no (h : Nat) (S : Nat → Prop) (s : St) (w : World) (m : Mp w h S s) (ho : s.op = true) : Calls Try.prog 24 #[.pointer (some ⟨h, 0, none⟩)] w fun e w' => e = .returned (.int .i64 16) ∧ w = w' := by
  obtain ⟨A, c, V, h1, _⟩ := m.own
  have c3 := h1.cell 3
  simp [ho] at c3
  clear h1 m ho
  go_enter Try.func24, Try.ntmps24
  go_wp2_with fail
  go_ret
  exact ⟨rfl, rfl⟩
set_option maxRecDepth 100000 in
theorem ends_no (h : Nat) (S : Nat → Prop) (s : St) (w : World) (m : Mp w h S s) (ho : s.op = false) : Calls Try.prog 43 #[.pointer (some ⟨h, 0, none⟩)] w fun e w' => e = .returned (.int .i64 16) ∧ w = w' := by
  obtain ⟨A, c, V, h1, _⟩ := m.own
  have c3 := h1.cell 3
  simp [ho] at c3
  clear h1 m ho
  go_enter Try.func43, Try.ntmps43
  go_wp2_with fail
  go_ret
  exact ⟨rfl, rfl⟩
set_option maxRecDepth 100000 in
theorem commit_no (h : Nat) (S : Nat → Prop) (s : St) (w : World) (m : Mp w h S s) (ho : s.op = false) : Calls Try.prog 27 #[.pointer (some ⟨h, 0, none⟩)] w fun e w' => e = .returned (.int .i64 16) ∧ w = w' := by
  have HE := Lib.hid (ends_no h S s w m ho)
  clear m ho
  go_enter Try.func27, Try.ntmps27
  go_wp2_with fail
  refine HE.out.mono ?_
  rintro e w1 ⟨rfl, rfl⟩
  go_wp2_with fail
  go_ret
  exact ⟨rfl, rfl⟩
set_option maxRecDepth 100000 in
theorem abort_no (h : Nat) (S : Nat → Prop) (s : St) (w : World) (m : Mp w h S s) (ho : s.op = false) : Calls Try.prog 26 #[.pointer (some ⟨h, 0, none⟩)] w fun e w' => e = .returned (.int .i64 16) ∧ w = w' := by
  have HE := Lib.hid (ends_no h S s w m ho)
  clear m ho
  go_enter Try.func26, Try.ntmps26
  go_wp2_with fail
  refine HE.out.mono ?_
  rintro e w1 ⟨rfl, rfl⟩
  go_wp2_with fail
  go_ret
  exact ⟨rfl, rfl⟩
/-! the reference's -/
set_option maxRecDepth 100000 in
theorem rbegin_no (h : Nat) (S : Nat → Prop) (s : St) (w : World) (m : Rm w h S s) (ho : s.op = true) : Calls Try.prog 47 #[.pointer (some ⟨h, 0, none⟩)] w fun e w' => e = .returned (.int .i64 16) ∧ w = w' := by
  obtain ⟨A, c, V, h1, _⟩ := m.own
  have c4 := h1.cell 4
  simp [ho] at c4
  clear h1 m ho
  go_enter Try.func47, Try.ntmps47
  go_wp2_with fail
  go_ret
  exact ⟨rfl, rfl⟩
set_option maxRecDepth 100000 in
theorem rcommit_no (h : Nat) (S : Nat → Prop) (s : St) (w : World) (m : Rm w h S s) (ho : s.op = false) : Calls Try.prog 48 #[.pointer (some ⟨h, 0, none⟩)] w fun e w' => e = .returned (.int .i64 16) ∧ w = w' := by
  obtain ⟨A, c, V, h1, _⟩ := m.own
  have c4 := h1.cell 4
  simp [ho] at c4
  clear h1 m ho
  go_enter Try.func48, Try.ntmps48
  go_wp2_with fail
  go_ret
  exact ⟨rfl, rfl⟩
set_option maxRecDepth 100000 in
theorem rabort_no (h : Nat) (S : Nat → Prop) (s : St) (w : World) (m : Rm w h S s) (ho : s.op = false) : Calls Try.prog 49 #[.pointer (some ⟨h, 0, none⟩)] w fun e w' => e = .returned (.int .i64 16) ∧ w = w' := by
  obtain ⟨A, c, V, h1, _⟩ := m.own
  have c4 := h1.cell 4
  simp [ho] at c4
  clear h1 m ho
  go_enter Try.func49, Try.ntmps49
  go_wp2_with fail
  go_ret
  exact ⟨rfl, rfl⟩

set_option maxRecDepth 100000 in
theorem rbegin_yes (h : Nat) (S : Nat → Prop) (s : St) (w : World) (m : Rm w h S s) (ok : s.Ok) (ho : s.op = false) : Calls Try.prog 47 #[.pointer (some ⟨h, 0, none⟩)] w fun e w' => e = .returned (.int .i64 0) ∧
    ∃ S' : Nat → Prop, Rm w' h S' ⟨s.f, s.l, true, s.l⟩ ∧ (∀ k, S' k → S k ∨ w.heap.size ≤ k) ∧ Only S w w' := by
  obtain ⟨i0, hi, hz0, hz1, hz2⟩ := info_parts info3
  obtain ⟨f, l, op, wl⟩ := s
  obtain ⟨A, A', c, c', wl', h1, h2, h3, _, _, h5⟩ := m
  have hle := ok.le
  dsimp only at h1 h2 h5 hle ho
  subst ho
  have hS : S h := (h5 h).2 (.inl rfl)
  have hSA : ∀ k, Value.ownBlock (.slice A l.length c) = some k → S k := fun k e => (h5 k).2 (.inr (.inl e))
  have hb4 := h1.set_ 4 (.bool true)
  have n1 : ∀ g, Value.ownBlock (.slice A l.length c) = some g → ¬ g = h := fun g hg e => own_blk_ne h2 h1 (by decide) g hg e
  have ho1 : Only (fun k => k = h) w (w.setCell ⟨h, 4, none⟩ (.bool true)) := (Only.refl (fun k => k = h) w).setCell (p := ⟨h, 4, none⟩) (.inl rfl) _
  have h2b := own_only h2 ho1 n1
  have x4 : w.cell? ⟨h, 4, none⟩ = some (.bool false) := h1.cell 4
  have f4 := h1.frozen 4
  have hlt := h1.lt
  obtain ⟨w1, hw1⟩ : ∃ w1, w1 = w.setCell ⟨h, 4, none⟩ (.bool true) := ⟨_, rfl⟩
  have hz : w1.heap.size = w.heap.size := by rw [hw1]; simp [World.setCell]
  rw [← hw1] at hb4 ho1 h2b
  obtain ⟨N, hN⟩ : ∃ N, N = l.length := ⟨_, rfl⟩
  have y2 : w1.cell? ⟨h, 2, none⟩ = some (.slice A l.length c) := by have := hb4.cell 2; simpa using this
  have hlN : (i64s l).length = N * 1 := by rw [length_i64s, hN, Nat.mul_one]
  rw [← hN] at y2 hle h2b hb4
  have y2' := ((Below.refl w1.heap.size w1).alloc (Nat.le_refl _) (.cells #[] 3)).cell (p := ⟨h, 2, none⟩) hb4.lt
  have yy := y2'.trans y2
  have hnew : (w1.alloc (.cells #[] 3)).ownsRow 0 3 1 (.slice (some ⟨w1.heap.size, 0, none⟩) 0 0) 0 [] := ⟨rfl, .inr ⟨w1.heap.size, 0, #[], rfl, Nat.zero_le _, Blk.new w1 3 #[], Nat.le_refl _, Nat.zero_le _, rfl, rfl⟩⟩
  have HM := Lib.hid (And.intro hS (And.intro hSA (And.intro n1 (And.intro ho1 (And.intro h2b (And.intro hb4 (And.intro hz (And.intro h5 hN))))))))
  have HN := Lib.hid (And.intro hnew hlN)
  have HW := Lib.hid hw1
  clear hS hSA n1 ho1 h2b hb4 h5 h2 h3 ok hz hN h1 hw1 y2' hnew hlN
  go_enter Try.func47, Try.ntmps47
  go_upto_region 4 with fail
  rw [← HW.out]
  clear x4 f4
  go_wp2_with (refine wpList_append_sz _ rfl (.tmp 11) (.tmp 15) 55 rfl 0 3 i0 (.int .i64 0) 1 8 Try.underlying55 hi hz0 hz1 hz2 rfl (by decide) _ 0 [] rfl HN.out.1 A N c (i64s l) rfl HN.out.2 (Src.own (HM.out.2.2.2.2.1.alloc _)) (i64s_one l) (by unfold maxLen; omega) (by omega) (Nat.zero_le _) ?_)
  intro B d w2 hown hg hat
  have hb : Below w1.heap.size w1 w2 := ((Below.refl _ w1).alloc (Nat.le_refl _) (.cells #[] 3)).grown hg (by simp) (fun k hk => by simp [Value.ownBlock] at hk; omega)
  have hBge : ∀ g, Value.ownBlock (.slice B N d) = some g → w1.heap.size ≤ g := fun g hg' => by
    rcases hat with e | e
    · rw [e] at hg'; simp [Value.ownBlock] at hg'; omega
    · rw [e] at hg'; simp at hg'; omega
  have hown' : w2.ownsRow 0 3 1 (.slice B N d) N (i64s l) := hown
  have hbk := HM.out.2.2.2.2.2.1.below hb (HM.out.2.2.2.2.2.1.lt)
  have f3 := hbk.frozen 3
  have x3 := hbk.cell 3
  simp at x3
  have H2 := Lib.hid (And.intro hown' (And.intro hb (And.intro hbk hBge)))
  clear hown hown' hb hbk hBge hat hg y2 yy
  go_wp2_with fail
  go_ret
  obtain ⟨hS, hSA, n1, ho1, h2b, hb4, hz, h5, hN⟩ := HM.out
  obtain ⟨hown, hb, hbk, hBlt⟩ := H2.out
  subst hN
  have ho3 : Only (fun k => k = h) w2 (w2.setCell ⟨h, 3, none⟩ (.slice B l.length d)) := (Only.refl (fun k => k = h) w2).setCell (p := ⟨h, 3, none⟩) (.inl rfl) _
  have hbf := hbk.set_ 3 (.slice B l.length d)
  refine ⟨rfl, fun k => k = h ∨ Value.ownBlock (.slice A l.length c) = some k ∨ Value.ownBlock (.slice B l.length d) = some k, ⟨A, B, c, d, l, hbf, ?_, ?_, ⟨(fun _ => rfl), hle⟩, .inl ?_, fun k => Iff.rfl⟩, ?_, ?_⟩
  · exact own_only (own_only h2b (F := fun _ => False) (Only.of_below hb) (fun _ _ => id)) ho3 n1
  · exact own_only hown ho3 (fun g hg e => by
      have := hBlt g hg
      have e2 : g = h := e
      omega)
  · intro k h1 h2
    have := hBlt k h2
    have := (h2b.lt k h1).2
    omega
  · rintro k (rfl | e | e)
    · exact .inl hS
    · exact .inl (hSA k e)
    · have := hBlt k e
      exact .inr (by omega)
  · exact ((ho1.mono (fun i _ e => by have e2 : i = h := e; rw [e2]; exact hS)).trans (G := fun k => k = h) ((Only.of_below hb).trans ho3 (fun i _ e => e)) (fun i _ e => by have e2 : i = h := e; rw [e2]; exact hS))

set_option maxRecDepth 100000 in
theorem rabort_yes (h : Nat) (S : Nat → Prop) (s : St) (w : World) (m : Rm w h S s) (ok : s.Ok) (ho : s.op = true) : Calls Try.prog 49 #[.pointer (some ⟨h, 0, none⟩)] w fun e w' => e = .returned (.int .i64 0) ∧
    ∃ S' : Nat → Prop, Rm w' h S' ⟨s.f, s.wl, false, []⟩ ∧ (∀ k, S' k → S k) ∧ Only S w w' := by
  have hwn := ok.wn ho
  obtain ⟨A, A', c, c', wl, h1, h2, h3, h4, _, h5⟩ := m
  obtain rfl := h4.1 ho
  have hin : S h := (h5 h).2 (.inl rfl)
  have n2 : ∀ g, Value.ownBlock (.slice A' s.wl.length c') = some g → ¬ g = h := fun g hg e => own_blk_ne h3 h1 (by decide) g hg e
  have hfin : Rm ((w.setCell ⟨h, 4, none⟩ (.bool false)).setCell ⟨h, 2, none⟩ (.slice A' s.wl.length c')) h (fun k => k = h ∨ Value.ownBlock (.slice A' s.wl.length c') = some k) ⟨s.f, s.wl, false, []⟩ := by
    have ho2 : Only (fun k => k = h) w ((w.setCell ⟨h, 4, none⟩ (.bool false)).setCell ⟨h, 2, none⟩ (.slice A' s.wl.length c')) :=
      ((Only.refl (fun k => k = h) w).setCell (p := ⟨h, 4, none⟩) (.inl rfl) _).setCell (p := ⟨h, 2, none⟩) (.inl rfl) _
    have hb := (h1.set_ 4 (.bool false)).set_ 2 (.slice A' s.wl.length c')
    rw [← hwn] at hb
    exact ⟨A', A', c', c', s.wl, hb, own_only h3 ho2 n2, own_only h3 ho2 n2, ⟨(fun e => by cases e), (by have := ok.le; show s.wl.length ≤ 4096; omega)⟩, .inr ⟨rfl, rfl, rfl, rfl⟩, fun k => by simp⟩
  have hsub : ∀ k, (k = h ∨ Value.ownBlock (.slice A' s.wl.length c') = some k) → S k := by
    rintro k (rfl | e)
    · exact hin
    · exact (h5 k).2 (.inr (.inr e))
  have c4 := h1.cell 4
  have f4 := h1.frozen 4
  have f2 := h1.frozen 2
  have x3 := h1.cell 3
  simp [ho] at c4 x3
  have c2 := h1.cell 2
  have y2 : (w.setCell ⟨h, 4, none⟩ (.bool false)).cell? ⟨h, 2, none⟩ = some (.slice A s.l.length c) := by have := (h1.set_ 4 (.bool false)).cell 2; simpa using this
  simp at c2
  have HF := Lib.hid (And.intro hfin (And.intro hsub hin))
  clear hfin hsub hin h1 h2 h3 h4 h5 ok ho n2 hwn
  go_enter Try.func49, Try.ntmps49
  go_wp2_with fail
  go_ret
  exact ⟨rfl, _, HF.out.1, HF.out.2.1, ((Only.refl S w).setCell (p := ⟨h, 4, none⟩) (.inl HF.out.2.2) _).setCell (p := ⟨h, 2, none⟩) (.inl HF.out.2.2) _⟩

/-- the reference's map behind k blocks -/
def CrI (w : World) (h : Nat) (S : Nat → Prop) (f N : Nat) (A A' : Option Addr) (c c' : Nat) (l wl : List Nat) (wr : World) (k : Nat) : Prop :=
  Blk wr h 63 #[.int .i64 f, .int .i64 N, .slice A N c, .slice A' wl.length c', .bool false] ∧
    wr.ownsRow 0 3 1 (.slice A N c) N (i64s (clr l k)) ∧ wr.ownsRow 0 3 1 (.slice A' wl.length c') wl.length (i64s wl) ∧ Only S w wr
theorem CrI.drewN {w : World} {h : Nat} {S : Nat → Prop} {f N : Nat} {A A' : Option Addr} {c c' : Nat} {l wl : List Nat} {wr : World} {k : Nat} (m : CrI w h S f N A A' c c' l wl wr k) (n : Nat) : CrI w h S f N A A' c c' l wl (wr.drewN n) k := ⟨m.1.drewN n, m.2.1, m.2.2.1, m.2.2.2.drewN n⟩
set_option maxRecDepth 100000 in
set_option maxHeartbeats 2000000 in
theorem rcommit_yes (h : Nat) (S : Nat → Prop) (s : St) (w : World) (m : Rm w h S s) (ok : s.Ok) (ho : s.op = true) : Calls Try.prog 48 #[.pointer (some ⟨h, 0, none⟩)] w fun e w' => e = .returned (.int .i64 0) ∧
    Rm w' h S ⟨s.f, clr s.l s.l.length, false, []⟩ ∧ Only S w w' := by
  have hle := ok.le
  obtain ⟨f, l, op, wl0⟩ := s
  obtain ⟨A, A', c, c', wl, h1, h2, h3, h6, h4o, h5⟩ := m
  have h4 : ∀ k, Value.ownBlock (.slice A l.length c) = some k → Value.ownBlock (.slice A' wl.length c') ≠ some k := by
    rcases h4o with e | e
    · exact e
    · have := e.1; rw [ho] at this; cases this
  clear h4o
  have HWL := Lib.hid h6.2
  dsimp only at h1 h2 h3 h4 h5 hle ho
  subst ho
  obtain ⟨N, hN⟩ : ∃ N, N = l.length := ⟨_, rfl⟩
  rw [← hN] at h1 h2 h4 h5 hle
  have hcl : N ≤ c := by
    rcases h2.2 with ⟨e, h0⟩ | ⟨g, cap, cur, e, _, _, h5, _⟩
    · omega
    · cases e; exact h5
  have hin : S h := (h5 h).2 (.inl rfl)
  have n1 : ∀ g, Value.ownBlock (.slice A N c) = some g → ¬ g = h := fun g hg e => own_blk_ne h2 h1 (by decide) g hg e
  have n2 : ∀ g, Value.ownBlock (.slice A' wl.length c') = some g → ¬ g = h := fun g hg e => own_blk_ne h3 h1 (by decide) g hg e
  have ho1 : Only (fun k => k = h) w (w.setCell ⟨h, 4, none⟩ (.bool false)) := (Only.refl (fun k => k = h) w).setCell (p := ⟨h, 4, none⟩) (.inl rfl) _
  have c4 := h1.cell 4
  have f4 := h1.frozen 4
  simp at c4
  have H0 : Hid (CrI w h S f N A A' c c' l wl (w.setCell ⟨h, 4, none⟩ (.bool false)) 0) := by
    refine ⟨h1.set_ 4 _, ?_, own_only h3 ho1 n2, (Only.refl S w).setCell (p := ⟨h, 4, none⟩) (.inl hin) _⟩
    rw [clr_zero]
    exact own_only h2 ho1 n1
  have HM := Lib.hid (And.intro hN (And.intro h4 h5))
  clear h1 h2 h3 h4 h5 h6 hN hin n1 n2 ho1 ok
  go_enter Try.func48, Try.ntmps48
  go_wp2_with fail
  go_loopg [3] N (fun g i wr => ∃ k : Nat, k + g = N ∧ i = .int .i64 k ∧ CrI w h S f N A A' c c' l wl wr k)
  case atStart => exact ⟨0, by omega, rfl, H0.out⟩
  case round =>
    obtain ⟨k, hk, rfl, hc⟩ := hrel
    by_cases hlt : k < N
    · obtain ⟨hb, hr, hr2, ho⟩ := hc
      obtain ⟨go, cap, e, _, _⟩ := World.ownsRow.form hr (by omega)
      injection e with e1 _ e3
      subst e1 e3
      have hne : h ≠ go := fun e => own_blk_ne hr hb (by decide) go rfl e.symm
      have hgS : S go := (HM.out.2.2 go).2 (.inr (.inl rfl))
      have x1 := hb.cell 1
      have x2 := hb.cell 2
      simp at x1 x2
      have hkl : k < (clr l k).length := by rw [length_clr, ← HM.out.1]; exact hlt
      have hcell := (hr.cellAt k (by omega)).trans (i64s_get hkl)
      have hfz := hr.frozenAt k
      rw [getD_clr, if_neg (by omega)] at hcell
      obtain ⟨u, hu⟩ : ∃ u, u = l.getD k 0 := ⟨_, rfl⟩
      rw [← hu] at hcell
      by_cases hu2 : u = 2
      · subst hu2
        have hst := (hr.stored k (.int .i64 0)).1
        have e0 : (i64s (clr l k)).set k (.int .i64 0) = i64s (clr l (k + 1)) := by
          have := i64s_set (clr l k) k 0
          rw [clr_step (by rw [← HM.out.1]; exact hlt) hu.symm] at this
          exact this
        rw [e0] at hst
        have hX : CrI w h S f N (some ⟨go, 0, none⟩) A' c c' l wl (wr.setCell ⟨go, k, none⟩ (.int .i64 0)) (k + 1) :=
          ⟨hb.far (p := ⟨go, k, none⟩) hne _, hst, own_only hr2 ((Only.refl (fun k => k = go) wr).setCell (p := ⟨go, k, none⟩) (.inl rfl) _) (fun g hg e => HM.out.2.1 go rfl (e ▸ hg)), ho.setCell (p := ⟨go, k, none⟩) (.inl hgS) _⟩
        have HX := Lib.hid hX
        clear hst e0 hX hb hr hr2 ho hgS hne hu hkl
        go_wp2_with fail
        all_goals go_roundg (gk - 1)
        all_goals first | omega | exact ⟨k + 1, by omega, by go_num, HX.out.drewN 0⟩ | exact ⟨k + 1, by omega, by go_num, HX.out.drewN 1⟩
      · have hX : CrI w h S f N (some ⟨go, 0, none⟩) A' c c' l wl wr (k + 1) := ⟨hb, by rw [clr_keep (by rw [← hu]; exact hu2)]; exact hr, hr2, ho⟩
        have HX := Lib.hid hX
        have hu3 : ¬ ((u : Int) = 2) := by omega
        clear hX hb hr hr2 ho hgS hne hu hkl
        go_wp2_with fail
        all_goals go_roundg (gk - 1)
        all_goals first | omega | exact ⟨k + 1, by omega, by go_num, HX.out⟩
    · obtain rfl : k = N := by omega
      have HX := Lib.hid hc
      have x1 := hc.1.cell 1
      simp at x1
      clear hc
      go_wp2_with fail
      go_ret
      obtain ⟨hb, hr, hr2, ho⟩ := HX.out
      obtain ⟨rfl, h4, h5⟩ := HM.out
      refine ⟨rfl, ⟨A, A', c, c', wl, ?_, ?_, hr2, ⟨(fun e => by cases e), HWL.out⟩, .inl ?_, ?_⟩, ho⟩
      · dsimp only; rw [length_clr]; exact hb
      · dsimp only; rw [length_clr]; exact hr
      · dsimp only; rw [length_clr]; exact h4
      · dsimp only; rw [length_clr]; exact h5
end Go.Proofs.Ytinjkjgahipimaa
