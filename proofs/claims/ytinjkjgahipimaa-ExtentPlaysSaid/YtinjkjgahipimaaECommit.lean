/-
  The program's Commit: what leaves is free.
-/
import Derived.Test.YtinjkjgahipimaaEBegin2
set_option linter.unusedVariables false
namespace Go.Proofs.Ytinjkjgahipimaa
open Go.RowKit

/-- what leaves is free, in the first k blocks -/
def clr (l : List Nat) (k : Nat) : List Nat := (List.range l.length).map fun i => if i < k ∧ l.getD i 0 = 2 then 0 else l.getD i 0
theorem length_clr (l : List Nat) (k : Nat) : (clr l k).length = l.length := by simp [clr]
theorem getD_clr (l : List Nat) (k i : Nat) : (clr l k).getD i 0 = if i < k ∧ l.getD i 0 = 2 then 0 else l.getD i 0 := by
  unfold clr
  rcases Nat.lt_or_ge i l.length with h | h
  · simp [List.getD, h]
  · have e : l.getD i 0 = 0 := by rw [List.getD, List.getElem?_eq_none h]; rfl
    rw [e, List.getD, List.getElem?_eq_none (by simpa using h)]
    simp
theorem clr_zero (l : List Nat) : clr l 0 = l := by
  refine ext_getDN (length_clr _ _) fun i _ => ?_
  rw [getD_clr, if_neg (by omega)]
theorem clr_keep {l : List Nat} {k : Nat} (h : l.getD k 0 ≠ 2) : clr l (k + 1) = clr l k := by
  refine ext_getDN (by simp [length_clr]) fun i _ => ?_
  rw [getD_clr, getD_clr]
  by_cases e : i = k
  · subst e; rw [if_neg (fun x => h x.2), if_neg (fun x => h x.2)]
  · by_cases h2 : i < k ∧ l.getD i 0 = 2
    · rw [if_pos h2, if_pos ⟨by omega, h2.2⟩]
    · rw [if_neg h2, if_neg (fun x => h2 ⟨by omega, x.2⟩)]
theorem clr_step {l : List Nat} {k : Nat} (hk : k < l.length) (h : l.getD k 0 = 2) : (clr l k).set k 0 = clr l (k + 1) := by
  refine ext_getDN (by simp [length_clr]) fun i _ => ?_
  rw [getD_setN, getD_clr, getD_clr, length_clr]
  by_cases e : k = i
  · subst e; rw [if_pos ⟨rfl, hk⟩, if_pos ⟨by omega, h⟩]
  · rw [if_neg (fun x => e x.1)]
    by_cases h2 : i < k ∧ l.getD i 0 = 2
    · rw [if_pos h2, if_pos ⟨by omega, h2.2⟩]
    · rw [if_neg h2, if_neg (fun x => h2 ⟨by omega, x.2⟩)]

/-- the map behind k blocks -/
def CmI (w : World) (h : Nat) (S : Nat → Prop) (f N : Nat) (A A' : Option Addr) (c c' : Nat) (l wl : List Nat) (wr : World) (k : Nat) : Prop :=
  Blk wr h 68 #[.int .i64 f, .slice A N c, .slice A' wl.length c', .bool false] ∧
    wr.ownsRow 0 65 1 (.slice A N c) N (u8s (clr l k)) ∧ wr.ownsRow 0 65 1 (.slice A' wl.length c') wl.length (u8s wl) ∧ Only S w wr
theorem CmI.drewN {w : World} {h : Nat} {S : Nat → Prop} {f N : Nat} {A A' : Option Addr} {c c' : Nat} {l wl : List Nat} {wr : World} {k : Nat} (m : CmI w h S f N A A' c c' l wl wr k) (n : Nat) : CmI w h S f N A A' c c' l wl (wr.drewN n) k := ⟨m.1.drewN n, m.2.1, m.2.2.1, m.2.2.2.drewN n⟩

set_option maxRecDepth 100000 in
set_option maxHeartbeats 2000000 in
theorem commit_yes (h : Nat) (S : Nat → Prop) (s : St) (w : World) (m : Mp2 w h S s) (ok : s.Ok) (ho : s.op = true) : Calls Try.prog 27 #[.pointer (some ⟨h, 0, none⟩)] w fun e w' => e = .returned (.int .i64 0) ∧
    Mp w' h S ⟨s.f, clr s.l s.l.length, false, []⟩ ∧ Only S w w' := by
  have HE := Lib.hid (ends_yes h S s w m ho)
  have hle := ok.le
  have HWL : Hid (s.wl.length ≤ 4096) := by have h1 := ok.wn ho; show s.wl.length ≤ 4096; omega
  clear m ho ok
  obtain ⟨f, l, op, wl⟩ := s
  go_enter Try.func27, Try.ntmps27
  go_wp2_with fail
  refine HE.out.mono ?_
  rintro e w1 ⟨rfl, hm, ho⟩
  obtain ⟨A, A', c, c', h1, h2, h3, h4, h5⟩ := hm
  dsimp only at h1 h2 h3 h4 h5 hle
  obtain ⟨N, hN⟩ : ∃ N, N = l.length := ⟨_, rfl⟩
  rw [← hN] at h1 h2 h4 h5 hle
  have hcl : N ≤ c := by
    rcases h2.2 with ⟨e, h0⟩ | ⟨g, cap, cur, e, _, _, h5, _⟩
    · omega
    · cases e; exact h5
  have x1 := h1.cell 1
  simp at x1
  have H0 : Hid (CmI w h S f N A A' c c' l wl w1 0) := ⟨h1, by rw [clr_zero]; exact h2, h3, ho⟩
  have HM := Lib.hid (And.intro hN (And.intro h4 h5))
  clear h1 h2 h3 h4 h5 ho hN
  go_wp2_with fail
  clear x1
  go_loopg [16] N (fun g i wr => ∃ k : Nat, k + g = N ∧ i = .int .i64 k ∧ CmI w h S f N A A' c c' l wl wr k)
  case atStart => exact ⟨0, by omega, rfl, H0.out⟩
  case round =>
    obtain ⟨k, hk, rfl, hc⟩ := hrel
    by_cases hlt : k < N
    · obtain ⟨hb, hr, hr2, ho⟩ := hc
      obtain ⟨go, cap, e, _, _⟩ := World.ownsRow.form hr (by omega)
      injection e with e1 _ e3
      subst e1 e3
      have hne : h ≠ go := fun e => own_blk_ne hr hb (by decide) go rfl e.symm
      have hgS : S go := (HM.out.2.2 go).2 (.inr (.inl rfl))
      have x1 := hb.cell 1
      simp at x1
      have hkl : k < (clr l k).length := by rw [length_clr, ← HM.out.1]; exact hlt
      have hcell := (hr.cellAt k (by omega)).trans (u8s_get hkl)
      have hfz := hr.frozenAt k
      rw [getD_clr, if_neg (by omega)] at hcell
      obtain ⟨u, hu⟩ : ∃ u, u = l.getD k 0 := ⟨_, rfl⟩
      rw [← hu] at hcell
      by_cases hu2 : u = 2
      · subst hu2
        have hst := (hr.stored k (.int .u8 0)).1
        have e0 : (u8s (clr l k)).set k (.int .u8 0) = u8s (clr l (k + 1)) := by
          have := u8s_set (clr l k) k 0
          rw [clr_step (by rw [← HM.out.1]; exact hlt) hu.symm] at this
          exact this
        rw [e0] at hst
        have hX : CmI w h S f N (some ⟨go, 0, none⟩) A' c c' l wl (wr.setCell ⟨go, k, none⟩ (.int .u8 0)) (k + 1) :=
          ⟨hb.far (p := ⟨go, k, none⟩) hne _, hst, own_only hr2 ((Only.refl (fun k => k = go) wr).setCell (p := ⟨go, k, none⟩) (.inl rfl) _) (fun g hg e => HM.out.2.1 go rfl (e ▸ hg)), ho.setCell (p := ⟨go, k, none⟩) (.inl hgS) _⟩
        have HX := Lib.hid hX
        clear hst e0 hX hb hr hr2 ho hgS hne hu hkl
        go_wp2_with fail
        all_goals go_roundg (gk - 1)
        all_goals first | omega | exact ⟨k + 1, by omega, by go_num, HX.out.drewN 0⟩ | exact ⟨k + 1, by omega, by go_num, HX.out.drewN 1⟩
      · have hX : CmI w h S f N (some ⟨go, 0, none⟩) A' c c' l wl wr (k + 1) := ⟨hb, by rw [clr_keep (by rw [← hu]; exact hu2)]; exact hr, hr2, ho⟩
        have HX := Lib.hid hX
        clear hX hb hr hr2 ho hgS hne hu hkl
        go_wp2_with fail
        all_goals go_roundg (gk - 1)
        all_goals first | omega | exact ⟨k + 1, by omega, by go_num, HX.out⟩
    · obtain rfl : k = N := by omega
      have HX := Lib.hid hc
      clear hc
      go_wp2_with fail
      go_ret
      obtain ⟨hb, hr, hr2, ho⟩ := HX.out
      obtain ⟨rfl, h4, h5⟩ := HM.out
      refine ⟨rfl, ⟨A, A', c, c', wl, ?_, ?_, hr2, ⟨(fun e => by cases e), HWL.out⟩, ?_, ?_⟩, ho⟩
      · dsimp only; rw [length_clr]; exact hb
      · dsimp only; rw [length_clr]; exact hr
      · dsimp only; rw [length_clr]; exact h4
      · dsimp only; rw [length_clr]; exact h5
end Go.Proofs.Ytinjkjgahipimaa
