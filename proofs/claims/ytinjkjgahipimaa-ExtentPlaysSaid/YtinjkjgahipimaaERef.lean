/-
  The reference's Room, Spaces, Same; Open.
-/
import Derived.Test.YtinjkjgahipimaaECollect
import Derived.Test.YtinjkjgahipimaaEBits2
set_option linter.unusedVariables false
namespace Go.Proofs.Ytinjkjgahipimaa
open Go.RowKit

theorem open_nil (w : World) : Calls Try.prog 25 #[.pointer none] w fun e w' => e = .returned (.bool false) ∧ w = w' := by
  go_enter Try.func25, Try.ntmps25
  go_wp2_with fail
  go_ret
  exact ⟨rfl, rfl⟩
theorem open_any (h : Nat) (S : Nat → Prop) (s : St) (w : World) (m : Mp w h S s) : Calls Try.prog 25 #[.pointer (some ⟨h, 0, none⟩)] w fun e w' => e = .returned (.bool s.op) ∧ w = w' := by
  obtain ⟨A, c, V, hb, _⟩ := m.own
  have c3 := hb.cell 3
  simp at c3
  clear hb m
  obtain ⟨f, l, op, wl⟩ := s
  dsimp only at c3 ⊢
  go_enter Try.func25, Try.ntmps25
  go_wp2_with fail
  go_ret
  exact ⟨rfl, rfl⟩

set_option maxRecDepth 100000 in
set_option maxHeartbeats 2000000 in
theorem rroom_any (h : Nat) (S : Nat → Prop) (s : St) (w : World) (m : Rm w h S s) (ok : s.Ok) :
    Calls Try.prog 36 #[.pointer (some ⟨h, 0, none⟩)] w fun e w' => e = .returned (.int .i64 (room s.l s.f : Nat)) ∧ w = w' := by
  obtain ⟨f, l, op, wl⟩ := s
  have hle := ok.le
  have hfl := ok.fl
  dsimp only at hle hfl ⊢
  obtain ⟨A, c, V, hb, ho⟩ := m.own
  dsimp only at hb ho
  have c0 := hb.cell 0
  have c1 := hb.cell 1
  have c2 := hb.cell 2
  simp at c0 c1 c2
  have HM := Lib.hid ho
  clear hb ho m ok
  go_enter Try.func36, Try.ntmps36
  go_wp2_with fail
  go_loopg [3, 4] (l.length - f) (fun g n i wr => ∃ (k cnt : Nat), k + g = l.length ∧ i = .int .i64 k ∧ n = .int .i64 cnt ∧ cnt + room l k = room l f ∧ wr = w)
  case atStart => exact ⟨f, 0, by omega, rfl, rfl, by omega, rfl⟩
  case round =>
    obtain ⟨k, cnt, hk, rfl, rfl, hc, rfl⟩ := hrel
    have hrl := room_le l f
    by_cases hlt : k < l.length
    · obtain ⟨a, rfl, hcr⟩ := row_i64 HM.out hlt
      have hst := room_step hlt
      obtain ⟨v, hv⟩ : ∃ v, v = l.getD k 0 := ⟨_, rfl⟩
      rw [← hv] at hcr hst
      have HV := Lib.hid (And.intro hst hc)
      have hcb : cnt ≤ 4096 := by omega
      clear hv hst hc hrl
      by_cases h0 : v = 0
      · have he : ((v : Int) == 0) = true := by simp; omega
        have HE := Lib.hid (show cnt + 1 + room l (k + 1) = room l f by have := HV.out; rw [if_pos h0] at this; omega)
        clear h0
        go_wp2_with fail
        go_roundg (gk - 1)
        case measure => omega
        case rel => exact ⟨k + 1, cnt + 1, by omega, by go_num, by go_num, HE.out, rfl⟩
      · have he : ((v : Int) == 0) = false := by simp; omega
        have HE := Lib.hid (show cnt + room l (k + 1) = room l f by have := HV.out; rw [if_neg h0] at this; omega)
        clear h0
        go_wp2_with fail
        go_roundg (gk - 1)
        case measure => omega
        case rel => exact ⟨k + 1, cnt, by omega, by go_num, rfl, HE.out, rfl⟩
    · have he : cnt = room l f := by rw [room_end (by omega)] at hc; omega
      have HE := Lib.hid he
      clear he hc
      go_wp2_with fail
      go_ret
      rw [← HE.out]
      exact ⟨rfl, rfl⟩

theorem exs_get0 {xs : List (Nat × Nat)} {i : Nat} (h : i < xs.length) : (exs xs)[i * 2]? = some (.int .i64 (xs.getD i (0, 0)).1) ∧ (exs xs)[i * 2 + 1]? = some (.int .i64 (xs.getD i (0, 0)).2) := by
  induction xs generalizing i with
  | nil => simp at h
  | cons x xs ih =>
    have e : exs (x :: xs) = .int .i64 x.1 :: .int .i64 x.2 :: exs xs := by simp [exs]
    rw [e]
    cases i with
    | zero => exact ⟨rfl, rfl⟩
    | succ i =>
      obtain ⟨h1, h2⟩ := ih (i := i) (by simpa using h)
      rw [show (i + 1) * 2 = i * 2 + 1 + 1 by omega]
      exact ⟨by simpa using h1, by simpa using h2⟩
/-- a slice of extents that reads as a list -/
def ExR (w : World) (A : Option Addr) (xs : List (Nat × Nat)) : Prop :=
  ∀ i, i < xs.length → ∃ g, A = some ⟨g, 0, none⟩ ∧ w.cell? ⟨g, i * 2, none⟩ = some (.int .i64 (xs.getD i (0, 0)).1) ∧ w.cell? ⟨g, i * 2 + 1, none⟩ = some (.int .i64 (xs.getD i (0, 0)).2)
theorem ExR.own {w : World} {base n c : Nat} {A : Option Addr} {xs : List (Nat × Nat)} (h : w.ownsRow base 39 2 (.slice A n c) n (exs xs)) : ExR w A xs := by
  intro i hi
  have hn : xs.length = n := by have := h.1; rw [length_exs] at this; omega
  rcases h.2 with ⟨e, h0⟩ | ⟨g, cap, cur, e, _⟩
  · omega
  · cases e
    obtain ⟨h1, h2⟩ := exs_get0 hi
    exact ⟨g, rfl, (h.cellAt (i * 2) (by omega)).trans h1, (h.cellAt (i * 2 + 1) (by omega)).trans h2⟩

set_option maxRecDepth 100000 in
set_option maxHeartbeats 2000000 in
theorem same_yes (A B : Option Addr) (ca cb : Nat) (xs : List (Nat × Nat)) (w : World) (hl : xs.length ≤ 9223372036854775807) (ha : ExR w A xs) (hb : ExR w B xs) :
    Calls Try.prog 21 #[.slice A xs.length ca, .slice B xs.length cb] w fun e w' => e = .returned (.bool true) ∧ ∃ n, w' = w.drewN n := by
  have HH := Lib.hid (And.intro ha hb)
  clear ha hb
  obtain ⟨N, hN⟩ : ∃ N, N = xs.length := ⟨_, rfl⟩
  rw [← hN] at hl ⊢
  have HN := Lib.hid hN
  clear hN
  go_enter Try.func21, Try.ntmps21
  go_wp2_with fail
  go_loopg [5] N (fun g i wr => ∃ k : Nat, k + g = N ∧ i = .int .i64 k ∧ ∃ n, wr = w.drewN n)
  case atStart => exact ⟨0, by omega, rfl, 0, rfl⟩
  case round =>
    obtain ⟨k, hk, rfl, nd, rfl⟩ := hrel
    by_cases hlt : k < N
    · obtain ⟨ga, rfl, a0, a1⟩ := HH.out.1 k (by rw [← HN.out]; exact hlt)
      obtain ⟨gb, rfl, b0, b1⟩ := HH.out.2 k (by rw [← HN.out]; exact hlt)
      obtain ⟨p, hp⟩ : ∃ p, p = (xs.getD k (0, 0)).1 := ⟨_, rfl⟩
      obtain ⟨q, hq⟩ : ∃ q, q = (xs.getD k (0, 0)).2 := ⟨_, rfl⟩
      rw [← hp] at a0 b0
      rw [← hq] at a1 b1
      clear hp hq
      go_upto_region 6 with fail
      go_quiet (fail)
      go_wp2_with fail
      go_roundg (gk - 1)
      case measure => omega
      case rel => exact ⟨k + 1, by omega, by go_num, _, rfl⟩
    · go_wp2_with fail
      go_ret
      exact ⟨rfl, nd, rfl⟩

theorem below_drewN {B : Nat} {a w : World} (h : Below B a w) (n : Nat) : Below B a (w.drewN n) := ⟨h.os, h.tape, h.output, h.size, h.block⟩
theorem exs_set {xs : List (Nat × Nat)} {x : Nat × Nat} (n : Nat) : (exs (xs ++ [x])).set (xs.length * 2 + 1) (.int .i64 n) = exs (xs ++ [(x.1, n)]) := by
  rw [exs_append, exs_append, ← length_exs, List.set_append_right _ _ (by omega)]
  rw [show (exs xs).length + 1 - (exs xs).length = 1 by omega]
  rfl
theorem rsp_more {l : List Nat} {i : Nat} {out : List (Nat × Nat)} {x : Nat × Nat} (h0 : l.getD i 0 = 0) (hx : x.1 + x.2 = i) : rspS l (out ++ [x]) i = out ++ [(x.1, x.2 + 1)] := by
  unfold rspS
  rw [if_neg (fun h => h h0)]
  simp [hx]
theorem rsp_new {l : List Nat} {i : Nat} {out : List (Nat × Nat)} (h0 : l.getD i 0 = 0) (hx : ∀ x, out.getLast? = some x → x.1 + x.2 ≠ i) : rspS l out i = out ++ [(i, 1)] := by
  unfold rspS
  rw [if_neg (fun h => h h0)]
  cases hg : out.getLast? with
  | none => rfl
  | some x => simp only; rw [if_neg (hx x hg)]
theorem rsp_skip {l : List Nat} {i : Nat} {out : List (Nat × Nat)} (h0 : l.getD i 0 ≠ 0) : rspS l out i = out := by
  unfold rspS
  rw [if_pos h0]

set_option maxRecDepth 100000 in
set_option maxHeartbeats 2000000 in
theorem rspaces_any (h : Nat) (S : Nat → Prop) (s : St) (w : World) (m : Rm w h S s) (ok : s.Ok) :
    Calls Try.prog 35 #[.pointer (some ⟨h, 0, none⟩)] w fun e w' => ∃ v, e = .returned v ∧ w'.ownsRow w.heap.size 39 2 v (spc s.l s.f).length (exs (spc s.l s.f)) ∧ Below w.heap.size w w' := by
  obtain ⟨i0, hi, hz0, hz1, hz2⟩ := info_parts info39
  obtain ⟨f, l, op, wl⟩ := s
  have hle := ok.le
  have hfl := ok.fl
  dsimp only at hle hfl ⊢
  obtain ⟨A, c, V, hb, ho⟩ := m.own
  dsimp only at hb ho
  have c0 := hb.cell 0
  have c1 := hb.cell 1
  have c2 := hb.cell 2
  simp at c0 c1 c2
  have HM := Lib.hid (And.intro ho (And.intro hb.lt (And.intro c1 (And.intro c2 (rsp_spaces hfl)))))
  clear hb ho m ok c1 c2
  go_enter Try.func35, Try.ntmps35
  go_wp2_with fail
  clear c0
  go_loopg [3, 4] (l.length - f) (fun g v i wr => ∃ (k N cap : Nat) (A : Option Addr) (out : List (Nat × Nat)), k + g = l.length ∧ i = .int .i64 k ∧ v = .slice A N cap ∧ out.length = N ∧ N ≤ k ∧ wr.ownsRow w.heap.size 39 2 (.slice A N cap) N (exs out) ∧ rspK l g k out = spc l f ∧ (∀ x ∈ out, x.1 + x.2 ≤ k) ∧ Below w.heap.size w wr)
  case atStart => exact ⟨f, 0, 0, none, [], by omega, rfl, rfl, rfl, by omega, World.ownsRow_nil _ _ _ _, HM.out.2.2.2.2, (fun x hx => by cases hx), Below.refl _ _⟩
  case round =>
    obtain ⟨k, N, cap, B, out, hk, rfl, rfl, hN, hNk, hown, hr, hall, hbel⟩ := hrel
    have c1 := (hbel.cell (p := ⟨h, 1, none⟩) HM.out.2.1).trans HM.out.2.2.1
    have c2 := (hbel.cell (p := ⟨h, 2, none⟩) HM.out.2.1).trans HM.out.2.2.2.1
    by_cases hlt : k < l.length
    · obtain ⟨gg, rfl⟩ : ∃ gg, gk = gg + 1 := ⟨gk - 1, by omega⟩
      obtain ⟨a, rfl, hc⟩ := row_i64 HM.out.1 hlt
      have hcr : wr.cell? (a.add k) = some (.int .i64 (l.getD k 0 : Nat)) := (hbel.cell (World.block_lt_of_cell? w _ hc)).trans hc
      have hr2 : rspK l gg (k + 1) (rspS l out k) = spc l f := hr
      obtain ⟨v, hv⟩ : ∃ v, v = l.getD k 0 := ⟨_, rfl⟩
      rw [← hv] at hcr
      have HR := Lib.hid (And.intro hv (And.intro hr2 (And.intro hall (And.intro hbel (And.intro hN hown)))))
      clear hv hr hr2 hall hbel hN hc
      by_cases h0 : v = 0
      · have he : ((v : Int) != 0) = false := by simp; omega
        rcases List.eq_nil_or_concat out with hout | ⟨out', x, hout⟩
        · have hN0 : decide ((0 : Int) < (N : Int)) = false := decide_eq_false (by have := HR.out.2.2.2.2.1; rw [hout] at this; simp at this; omega)
          have hN1 : decide (0 < N) = false := decide_eq_false (by have := HR.out.2.2.2.2.1; rw [hout] at this; simp at this; omega)
          have HS := Lib.hid (rsp_new (l := l) (i := k) (out := out) (by rw [← HR.out.1]; exact h0) (fun x hx => by rw [hout] at hx; cases hx))
          clear h0 hown hout
          go_upto_region 6 with fail
          go_quiet (fail)
          obtain ⟨wd, hwd⟩ : ∃ wd, wd = wr.drewN nq := ⟨_, rfl⟩
          have HD : Hid (wd.ownsRow w.heap.size 39 2 (.slice B N cap) N (exs out) ∧ Below w.heap.size w wd) := by rw [hwd]; exact ⟨HR.out.2.2.2.2.2, below_drewN HR.out.2.2.2.1 nq⟩
          rw [← hwd]
          clear hwd c1 c2 hcr
          go_upto_region 8 with fail
          go_wp2_with (at_builtin; refine wpList_append_own _ rfl _ _ 37 rfl w.heap.size 39 i0 (.agg #[.int .i64 0, .int .i64 0]) 2 16 Try.underlying37 hi hz0 hz1 hz2 rfl (by decide) (.slice B N cap) N (exs out) rfl (HD.out.1.alloc _) ⟨wd.heap.size, 0, none⟩ 1 1 [.int .i64 k, .int .i64 1] rfl rfl (cell_two_new _ _ _ _) (by simp [Value.oneCell']) (by unfold maxLen; omega) (by omega) (by have := HD.out.2.size; simp; omega) ?_; intro v' w1 hown' hgrow _)
          obtain ⟨g', cap', rfl⟩ := ownsRow_succ hown'
          have HA := Lib.hid (And.intro hown' ((HD.out.2.alloc HD.out.2.size (.cells #[.int .i64 k, .int .i64 1] 39)).grown hgrow (by have := HD.out.2.size; simp; omega) (fun k hk => (HD.out.1.lt k hk).1)))
          clear hown' hgrow
          go_wp2_with fail
          go_roundg gg
          case measure => omega
          case rel =>
            refine ⟨k + 1, N + 1, cap', some ⟨g', 0, none⟩, out ++ [(k, 1)], by omega, by go_num, rfl, by rw [List.length_append, HR.out.2.2.2.2.1]; rfl, by omega, ?_, by have := HR.out.2.1; rw [HS.out] at this; exact this, ?_, HA.out.2⟩
            · rw [exs_append]; exact HA.out.1
            · intro x hx
              rcases List.mem_append.1 hx with hx | hx
              · have := HR.out.2.2.1 x hx; omega
              · simp at hx; subst hx; exact Nat.le_refl _
        · rw [List.concat_eq_append] at hout
          have hN0 : decide ((0 : Int) < (N : Int)) = true := decide_eq_true (by have := HR.out.2.2.2.2.1; rw [hout] at this; simp at this; omega)
          have hN1 : decide (0 < N) = true := decide_eq_true (by have := HR.out.2.2.2.2.1; rw [hout] at this; simp at this; omega)
          obtain ⟨n', hn'⟩ : ∃ n', n' = out'.length := ⟨_, rfl⟩
          have hNn : N = n' + 1 := by have := HR.out.2.2.2.2.1; rw [hout] at this; simp at this; omega
          have hx1 : (N : Int) - 1 = (n' : Int) := by omega
          have hx2 : IntKind.i64.wrap ((N : Int) - 1) = (n' : Int) := by rw [hx1]; exact IntWalk.i64_in _ (by omega)
          have hx3 : n' < N := by omega
          have hx4 : (n' : Int) < (N : Int) := by omega
          have hx5 : (0 : Int) ≤ (n' : Int) := by omega
          have hR := ExR.own hown
          obtain ⟨g, rfl, y0, y1⟩ := hR n' (by rw [HR.out.2.2.2.2.1]; exact hx3)
          have hxl : out.getD n' (0, 0) = x := by rw [hout, hn']; simp [List.getD]
          rw [hxl] at y0 y1
          have hxle := HR.out.2.2.1 x (by rw [hout]; simp)
          obtain ⟨p, q⟩ := x
          dsimp only at y0 y1 hxle
          obtain ⟨r, hr⟩ : ∃ r, r = p + q := ⟨_, rfl⟩
          have hpq : (p : Int) + (q : Int) = (r : Int) := by omega
          have hpw : IntKind.i64.wrap ((p : Int) + (q : Int)) = (r : Int) := by rw [hpq]; exact IntWalk.i64_in _ (by omega)
          have hrw : IntKind.i64.wrap (r : Int) = (r : Int) := IntWalk.i64_in _ (by omega)
          have hnw : IntKind.i64.wrap (n' : Int) = (n' : Int) := IntWalk.i64_in _ (by omega)
          by_cases hrk : r = k
          · have het : ((r : Int) == (k : Int)) = true := by simp; omega
            have HS := Lib.hid (rsp_more (l := l) (i := k) (out := out') (x := (p, q)) (by rw [← HR.out.1]; exact h0) (by show p + q = k; omega))
            have HO := Lib.hid (And.intro hout (And.intro hn' hNn))
            have hfz := hown.frozenAt (n' * 2 + 1)
            have hst := (hown.stored (n' * 2 + 1) (.int .i64 (q + 1 : Nat))).1
            rw [hout, hn', exs_set, ← hn'] at hst
            have hq1 : (q : Int) + 1 ≤ 5000 := by omega
            have HT := Lib.hid hst
            have Hlt := Lib.hid (hown.lt g rfl).1
            clear h0 hown hout hR hn' hNn hxl hst hr hrk
            go_upto_region 6 with fail
            go_quiet (fail)
            clear hx2 hpw hrw hnw
            go_wp2_with fail
            go_roundg gg
            case measure => omega
            case rel =>
              refine ⟨k + 1, N, cap, some ⟨g, 0, none⟩, out' ++ [(p, q + 1)], by omega, by go_num, rfl, by rw [HO.out.2.2, List.length_append, HO.out.2.1]; rfl, by omega, ?_, by have := HR.out.2.1; rw [HO.out.1, HS.out] at this; exact this, ?_, ?_⟩
              · exact HT.out
              · intro y hy
                rcases List.mem_append.1 hy with hy | hy
                · have := HR.out.2.2.1 y (by rw [HO.out.1]; exact List.mem_append.2 (.inl hy)); omega
                · simp at hy; subst hy; show p + (q + 1) ≤ k + 1; omega
              · exact (below_drewN HR.out.2.2.2.1 nq).setCell (p := ⟨g, n' * 2 + 1, none⟩) Hlt.out _
          · have het : ((r : Int) == (k : Int)) = false := by simp; omega
            have HS := Lib.hid (rsp_new (l := l) (i := k) (out := out) (by rw [← HR.out.1]; exact h0) (fun x hx => by rw [hout] at hx; simp at hx; subst hx; show p + q ≠ k; omega))
            clear h0 hown hout hR hn' hNn hxl hr hrk
            go_upto_region 6 with fail
            go_quiet (fail)
            clear hx2 hpw hrw hnw
            obtain ⟨wd, hwd⟩ : ∃ wd, wd = wr.drewN nq := ⟨_, rfl⟩
            have HD : Hid (wd.ownsRow w.heap.size 39 2 (.slice (some ⟨g, 0, none⟩) N cap) N (exs out) ∧ Below w.heap.size w wd) := by rw [hwd]; exact ⟨HR.out.2.2.2.2.2, below_drewN HR.out.2.2.2.1 nq⟩
            rw [← hwd]
            clear hwd c1 c2 hcr y0 y1
            go_upto_region 8 with fail
            go_wp2_with (at_builtin; refine wpList_append_own _ rfl _ _ 37 rfl w.heap.size 39 i0 (.agg #[.int .i64 0, .int .i64 0]) 2 16 Try.underlying37 hi hz0 hz1 hz2 rfl (by decide) (.slice (some ⟨g, 0, none⟩) N cap) N (exs out) rfl (HD.out.1.alloc _) ⟨wd.heap.size, 0, none⟩ 1 1 [.int .i64 k, .int .i64 1] rfl rfl (cell_two_new _ _ _ _) (by simp [Value.oneCell']) (by unfold maxLen; omega) (by omega) (by have := HD.out.2.size; simp; omega) ?_; intro v' w1 hown' hgrow _)
            obtain ⟨g', cap', rfl⟩ := ownsRow_succ hown'
            have HA := Lib.hid (And.intro hown' ((HD.out.2.alloc HD.out.2.size (.cells #[.int .i64 k, .int .i64 1] 39)).grown hgrow (by have := HD.out.2.size; simp; omega) (fun k hk => (HD.out.1.lt k hk).1)))
            clear hown' hgrow
            go_wp2_with fail
            go_roundg gg
            case measure => omega
            case rel =>
              refine ⟨k + 1, N + 1, cap', some ⟨g', 0, none⟩, out ++ [(k, 1)], by omega, by go_num, rfl, by rw [List.length_append, HR.out.2.2.2.2.1]; rfl, by omega, ?_, by have := HR.out.2.1; rw [HS.out] at this; exact this, ?_, HA.out.2⟩
              · rw [exs_append]; exact HA.out.1
              · intro x hx
                rcases List.mem_append.1 hx with hx | hx
                · have := HR.out.2.2.1 x hx; omega
                · simp at hx; subst hx; exact Nat.le_refl _
      · have he : ((v : Int) != 0) = true := by simp; omega
        have HS := Lib.hid (rsp_skip (l := l) (i := k) (out := out) (by rw [← HR.out.1]; exact h0))
        clear h0 hown
        go_wp2_with fail
        go_roundg gg
        case measure => omega
        case rel => exact ⟨k + 1, N, cap, B, out, by omega, by go_num, rfl, HR.out.2.2.2.2.1, by omega, HR.out.2.2.2.2.2, by have := HR.out.2.1; rw [HS.out] at this; exact this, (fun x hx => by have := HR.out.2.2.1 x hx; omega), HR.out.2.2.2.1⟩
    · obtain rfl : gk = 0 := by omega
      have hsp : out = spc l f := hr
      rw [← hN, hsp] at hown
      have HF := Lib.hid (And.intro hown (And.intro hbel (hsp ▸ hN)))
      clear hown hbel hall hr hsp hN
      go_wp2_with fail
      go_ret
      refine ⟨_, rfl, ?_, HF.out.2.1⟩
      rw [← HF.out.2.2]
      exact HF.out.1
end Go.Proofs.Ytinjkjgahipimaa
