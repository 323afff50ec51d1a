/-
  A map's bits: the walks.
-/
import Derived.Test.YtinjkjgahipimaaEBits
import Derived.Test.YtinjkjgahipimaaESp
import Derived.IntWalk
set_option linter.unusedVariables false
namespace Go.Proofs.Ytinjkjgahipimaa
open Go.RowKit

theorem bits_nil (w : World) : Calls Try.prog 12 #[.pointer none] w fun e w' => e = .returned (.string ⟨#[]⟩) ∧ w = w' := by
  go_enter Try.func12, Try.ntmps12
  go_wp2_with fail
  go_ret
  exact ⟨rfl, rfl⟩
theorem Mp.own {w : World} {h : Nat} {S : Nat → Prop} {s : St} (m : Mp w h S s) : ∃ (A : Option Addr) (c : Nat) (V : Value), Blk w h 68 #[.int .i64 s.f, .slice A s.l.length c, V, .bool s.op] ∧
    w.ownsRow 0 65 1 (.slice A s.l.length c) s.l.length (u8s s.l) := by
  obtain ⟨A, A', c, c', wl, hb, h1, h2, h3, h4, hS⟩ := m
  exact ⟨A, c, _, hb, h1⟩
theorem Rm.own {w : World} {h : Nat} {S : Nat → Prop} {s : St} (m : Rm w h S s) : ∃ (A : Option Addr) (c : Nat) (V : Value), Blk w h 63 #[.int .i64 s.f, .int .i64 s.l.length, .slice A s.l.length c, V, .bool s.op] ∧
    w.ownsRow 0 3 1 (.slice A s.l.length c) s.l.length (i64s s.l) := by
  obtain ⟨A, A', c, c', wl, hb, h1, h2, h3, h4, hS⟩ := m
  exact ⟨A, c, _, hb, h1⟩
/-- a cell of an owned row, wherever nothing old has turned -/
theorem row_u8 {w : World} {base : Nat} {e : TypeId} {A : Option Addr} {c n : Nat} {l : List Nat} (h : w.ownsRow base e 1 (.slice A n c) n (u8s l)) {k : Nat} (hk : k < l.length) : ∃ a, A = some a ∧ w.cell? (a.add k) = some (.int .u8 (l.getD k 0 : Nat)) := Src.own h k _ (u8s_get hk)
theorem row_i64 {w : World} {base : Nat} {e : TypeId} {A : Option Addr} {c n : Nat} {l : List Nat} (h : w.ownsRow base e 1 (.slice A n c) n (i64s l)) {k : Nat} (hk : k < l.length) : ∃ a, A = some a ∧ w.cell? (a.add k) = some (.int .i64 (l.getD k 0 : Nat)) := Src.own h k _ (i64s_get hk)
theorem btK_no {f : Nat} {l : List Nat} {k : Nat} (h : ¬ (k < f ∨ l.getD k 0 = 1)) : btK f l (k + 1) = btK f l k := if_neg h
theorem btK_yes {f : Nat} {l : List Nat} {k : Nat} (h : k < f ∨ l.getD k 0 = 1) : btK f l (k + 1) = btS (btK f l k) k := if_pos h

set_option maxRecDepth 100000 in
set_option maxHeartbeats 2000000 in
theorem bits_any (h : Nat) (S : Nat → Prop) (s : St) (w : World) (m : Mp w h S s) (ok : s.Ok) :
    Calls Try.prog 12 #[.pointer (some ⟨h, 0, none⟩)] w fun e w' => e = .returned (.string (bitsT s.f s.l)) ∧ Below w.heap.size w w' := by
  obtain ⟨i0, hi, hz0, hz1, hz2⟩ := info_parts info5
  obtain ⟨f, l, op, wl⟩ := s
  have hle := ok.le
  have hst := ok.st
  dsimp only at hle hst ⊢
  obtain ⟨A, c, V, hb, ho⟩ := m.own
  dsimp only at hb ho
  have c0 := hb.cell 0
  have c1 := hb.cell 1
  simp at c0 c1
  have hlt := hb.lt
  obtain ⟨M, hM⟩ : ∃ M, M = (l.length + 7) / 8 := ⟨_, rfl⟩
  have hML : ((l.length : Int) + 7) / 8 = (M : Int) := by omega
  have hM2 : M ≤ 513 := by omega
  have HM := Lib.hid (And.intro hM (And.intro ho (And.intro hlt hst)))
  clear hM ho hlt ok m hst hb
  go_enter Try.func12, Try.ntmps12
  go_wp2_with (refine wpList_make_full _ rfl (.tmp 14) (.tmp 14) 69 rfl w.heap.size 5 i0 (.int .u8 0) 1 Try.underlying69 hi hz0 hz1 .i64 .i64 _ _ M rfl rfl hML hML ?m1 ?m2 ?m3 ?_)
  case m1 => rw [hz2]; omega
  case m2 => unfold maxLen; omega
  case m3 => exact Nat.le_refl _
  intro w1 hown1 hgrow1
  have hbel1 : Below w.heap.size w w1 := (Below.refl _ w).grown hgrow1 (Nat.le_refl _) (by simp)
  rw [toList_madeCells_one, u8s_replicate] at hown1
  have hb0 : btK f l 0 = List.replicate M 0 := by rw [HM.out.1]; rfl
  rw [← hb0] at hown1
  have c0' := (hbel1.cell (p := ⟨h, 0, none⟩) HM.out.2.2.1).trans c0
  have c1' := (hbel1.cell (p := ⟨h, 1, none⟩) HM.out.2.2.1).trans c1
  have HW := Lib.hid (And.intro hown1 (And.intro hbel1 (And.intro c0 c1)))
  clear hown1 hbel1 hgrow1 hb0 c0 c1
  go_wp2_with fail
  clear c0' c1'
  go_loopg [21] l.length (fun g i wr => ∃ k : Nat, k + g = l.length ∧ i = .int .i64 k ∧ wr.ownsRow w.heap.size 5 1 (.slice (some ⟨w.heap.size, 0, none⟩) M M) M (u8s (btK f l k)) ∧ Below w.heap.size w wr)
  case atStart => exact ⟨0, by omega, rfl, HW.out.1, HW.out.2.1⟩
  case round =>
    obtain ⟨k, hk, rfl, hown, hbel⟩ := hrel
    have c0 := (hbel.cell (p := ⟨h, 0, none⟩) HM.out.2.2.1).trans HW.out.2.2.1
    by_cases hlt : k < l.length
    · obtain ⟨a, rfl, hc⟩ := row_u8 HM.out.2.1 hlt
      have hcr : wr.cell? (a.add k) = some (.int .u8 (l.getD k 0 : Nat)) := (hbel.cell (World.block_lt_of_cell? w _ hc)).trans hc
      obtain ⟨v, hv⟩ : ∃ v, v = l.getD k 0 := ⟨_, rfl⟩
      have hv2 : v ≤ 2 := by rw [hv]; exact HM.out.2.2.2 k
      rw [← hv] at hcr
      obtain ⟨q, hqq⟩ : ∃ q, q = k / 8 := ⟨_, rfl⟩
      have hq : (k : Int) / 8 = (q : Int) := by omega
      have hqt : Int.tdiv (k : Int) 8 = (q : Int) := by rw [Int.tdiv_eq_ediv_of_nonneg (by omega)]; exact hq
      have hq0 : (0 : Int) ≤ (q : Int) := by omega
      have hqM : (q : Int) < (M : Int) := by omega
      have hqw : IntKind.i64.wrap (q : Int) = (q : Int) := IntWalk.i64_in _ (by omega)
      have hq2 : q < M := by have := HM.out.1; omega
      have hx := hown.cellAt q (by omega)
      rw [u8s_get (by rw [length_btK]; have := HM.out.1; omega)] at hx
      have hfx := hown.frozenAt q
      have hx256 := btK_lt f l k q
      obtain ⟨x, hxx⟩ : ∃ x, x = (btK f l k).getD q 0 := ⟨_, rfl⟩
      rw [← hxx] at hx hx256
      obtain ⟨b, hb⟩ : ∃ b, b = bm k := ⟨_, rfl⟩
      have hb256 : b < 256 := by rw [hb]; exact bm_lt k
      have hor := u8_or_nat x b hx256 hb256
      obtain ⟨y, hy⟩ : ∃ y, y = x ||| b := ⟨_, rfl⟩
      rw [← hy] at hor
      have hmask := fun w => mask_any k w (by omega)
      rw [← hb] at hmask
      have hset : k < f ∨ v = 1 → ((wr.setCell ⟨w.heap.size, q, none⟩ (.int .u8 y)).ownsRow w.heap.size 5 1 (.slice (some ⟨w.heap.size, 0, none⟩) M M) M (u8s (btK f l (k + 1))) ∧ Below w.heap.size w (wr.setCell ⟨w.heap.size, q, none⟩ (.int .u8 y))) := by
        intro hyes
        have hst := (hown.stored q (.int .u8 y)).1
        rw [u8s_set, hy, hxx, hb, hqq] at hst
        rw [hv] at hyes
        rw [btK_yes hyes, hy, hxx, hb, hqq]
        exact ⟨hst, hbel.setCell (p := ⟨w.heap.size, k / 8, none⟩) (Nat.le_refl _) _⟩
      have hno : ¬ (k < f ∨ v = 1) → btK f l (k + 1) = btK f l k := fun h => btK_no (by rw [← hv]; exact h)
      have HX := Lib.hid (And.intro hset (And.intro hno (And.intro hown (And.intro hbel hmask))))
      clear hset hno hown hbel hmask hv hqq hxx hb hy hc
      by_cases hkf : k < f
      · have HY := Lib.hid (HX.out.1 (.inl hkf))
        have hd : decide ((k : Int) < (f : Int)) = true := decide_eq_true (by omega)
        go_wp2_with fail
        go_region_with ((go_at_call 34; refine (HX.out.2.2.2.2 _).mono ?_; rintro e w' ⟨rfl, rfl⟩))
        all_goals go_wp2_with fail
        all_goals go_roundg (gk - 1)
        all_goals first | omega | exact ⟨k + 1, by omega, by go_num, HY.out.1, HY.out.2.drew⟩
      · have hd : decide ((k : Int) < (f : Int)) = false := decide_eq_false (by omega)
        by_cases hv1 : v = 1
        · have HY := Lib.hid (HX.out.1 (.inr hv1))
          have he : ((v : Int) == 1) = true := by simp; omega
          clear hv1
          go_wp2_with fail
          go_region_with ((go_at_call 34; refine (HX.out.2.2.2.2 _).mono ?_; rintro e w' ⟨rfl, rfl⟩))
          all_goals go_wp2_with fail
          all_goals go_roundg (gk - 1)
          all_goals first | omega | exact ⟨k + 1, by omega, by go_num, HY.out.1, HY.out.2.drew⟩
        · have HY := Lib.hid (HX.out.2.1 (by omega))
          have he : ((v : Int) == 1) = false := by simp; omega
          clear hv1
          go_wp2_with fail
          go_roundg (gk - 1)
          case measure => omega
          case rel => exact ⟨k + 1, by omega, by go_num, by rw [HY.out]; exact HX.out.2.2.1, HX.out.2.2.2.1⟩
    · obtain rfl : k = l.length := by omega
      have hcv := run_text (w := wr) (v := .slice (some ⟨w.heap.size, 0, none⟩) M M) (b := btK f l l.length) (by rw [length_btK]; exact HM.out.1) (own_base hown) (btK_lt f l l.length)
      have HB := Lib.hid hbel
      clear hbel hown
      go_wp2_with fail
      go_ret
      exact ⟨rfl, HB.out⟩
theorem bm_shift (k : Nat) : (128 : Int) / 2 ^ (k % 8) = ((bm k : Nat) : Int) := by
  unfold bm
  have h : k % 8 < 8 := Nat.mod_lt _ (by decide)
  generalize k % 8 = r at *
  match r, h with
  | 0, _ => decide
  | 1, _ => decide
  | 2, _ => decide
  | 3, _ => decide
  | 4, _ => decide
  | 5, _ => decide
  | 6, _ => decide
  | 7, _ => decide
set_option maxRecDepth 100000 in
set_option maxHeartbeats 2000000 in
theorem rbits_any (h : Nat) (S : Nat → Prop) (s : St) (w : World) (m : Rm w h S s) (ok : s.Ok) :
    Calls Try.prog 33 #[.pointer (some ⟨h, 0, none⟩)] w fun e w' => e = .returned (.string (bitsT s.f s.l)) ∧ Below w.heap.size w w' := by
  obtain ⟨i0, hi, hz0, hz1, hz2⟩ := info_parts info5
  obtain ⟨f, l, op, wl⟩ := s
  have hle := ok.le
  have hst := ok.st
  dsimp only at hle hst ⊢
  obtain ⟨A, c, V, hb, ho⟩ := m.own
  dsimp only at hb ho
  have c0 := hb.cell 0
  have c1 := hb.cell 1
  have c2 := hb.cell 2
  simp at c0 c1 c2
  have hlt := hb.lt
  obtain ⟨M, hM⟩ : ∃ M, M = (l.length + 7) / 8 := ⟨_, rfl⟩
  have hML : ((l.length : Int) + 7) / 8 = (M : Int) := by omega
  have hM2 : M ≤ 513 := by omega
  have HM := Lib.hid (And.intro hM (And.intro ho (And.intro hlt hst)))
  clear hM ho hlt ok m hst hb
  go_enter Try.func33, Try.ntmps33
  go_wp2_with (refine wpList_make_full _ rfl (.tmp 10) (.tmp 10) 69 rfl w.heap.size 5 i0 (.int .u8 0) 1 Try.underlying69 hi hz0 hz1 .i64 .i64 _ _ M rfl rfl hML hML ?m1 ?m2 ?m3 ?_)
  case m1 => rw [hz2]; omega
  case m2 => unfold maxLen; omega
  case m3 => exact Nat.le_refl _
  intro w1 hown1 hgrow1
  have hbel1 : Below w.heap.size w w1 := (Below.refl _ w).grown hgrow1 (Nat.le_refl _) (by simp)
  rw [toList_madeCells_one, u8s_replicate] at hown1
  have hb0 : btK f l 0 = List.replicate M 0 := by rw [HM.out.1]; rfl
  rw [← hb0] at hown1
  have HW := Lib.hid (And.intro hown1 (And.intro hbel1 (And.intro c0 (And.intro c1 c2))))
  clear hown1 hbel1 hgrow1 hb0 c0 c1 c2
  go_wp2_with fail
  go_loopg [4] l.length (fun g i wr => ∃ k : Nat, k + g = l.length ∧ i = .int .i64 k ∧ wr.ownsRow w.heap.size 5 1 (.slice (some ⟨w.heap.size, 0, none⟩) M M) M (u8s (btK f l k)) ∧ Below w.heap.size w wr)
  case atStart => exact ⟨0, by omega, rfl, HW.out.1, HW.out.2.1⟩
  case round =>
    obtain ⟨k, hk, rfl, hown, hbel⟩ := hrel
    have c0 := (hbel.cell (p := ⟨h, 0, none⟩) HM.out.2.2.1).trans HW.out.2.2.1
    have c1 := (hbel.cell (p := ⟨h, 1, none⟩) HM.out.2.2.1).trans HW.out.2.2.2.1
    have c2 := (hbel.cell (p := ⟨h, 2, none⟩) HM.out.2.2.1).trans HW.out.2.2.2.2
    by_cases hlt : k < l.length
    · obtain ⟨a, rfl, hc⟩ := row_i64 HM.out.2.1 hlt
      have hcr : wr.cell? (a.add k) = some (.int .i64 (l.getD k 0 : Nat)) := (hbel.cell (World.block_lt_of_cell? w _ hc)).trans hc
      obtain ⟨v, hv⟩ : ∃ v, v = l.getD k 0 := ⟨_, rfl⟩
      have hv2 : v ≤ 2 := by rw [hv]; exact HM.out.2.2.2 k
      rw [← hv] at hcr
      obtain ⟨q, hqq⟩ : ∃ q, q = k / 8 := ⟨_, rfl⟩
      have hq : (k : Int) / 8 = (q : Int) := by omega
      have hq2 : q < M := by have := HM.out.1; omega
      have hx := hown.cellAt q (by omega)
      rw [u8s_get (by rw [length_btK]; have := HM.out.1; omega)] at hx
      have hfx := hown.frozenAt q
      have hx256 := btK_lt f l k q
      obtain ⟨x, hxx⟩ : ∃ x, x = (btK f l k).getD q 0 := ⟨_, rfl⟩
      rw [← hxx] at hx hx256
      obtain ⟨b, hb⟩ : ∃ b, b = bm k := ⟨_, rfl⟩
      have hb256 : b < 256 := by rw [hb]; exact bm_lt k
      have hor := u8_or_nat x b hx256 hb256
      obtain ⟨y, hy⟩ : ∃ y, y = x ||| b := ⟨_, rfl⟩
      rw [← hy] at hor
      obtain ⟨r, hrr⟩ : ∃ r, r = k % 8 := ⟨_, rfl⟩
      have hr : (k : Int) % 8 = (r : Int) := by omega
      have hmask : (128 : Int) / 2 ^ r = (b : Int) := by rw [hb, hrr]; exact bm_shift k
      clear hrr
      have hset : k < f ∨ v = 1 → ((wr.setCell ⟨w.heap.size, q, none⟩ (.int .u8 y)).ownsRow w.heap.size 5 1 (.slice (some ⟨w.heap.size, 0, none⟩) M M) M (u8s (btK f l (k + 1))) ∧ Below w.heap.size w (wr.setCell ⟨w.heap.size, q, none⟩ (.int .u8 y))) := by
        intro hyes
        have hst := (hown.stored q (.int .u8 y)).1
        rw [u8s_set, hy, hxx, hb, hqq] at hst
        rw [hv] at hyes
        rw [btK_yes hyes, hy, hxx, hb, hqq]
        exact ⟨hst, hbel.setCell (p := ⟨w.heap.size, k / 8, none⟩) (Nat.le_refl _) _⟩
      have hno : ¬ (k < f ∨ v = 1) → btK f l (k + 1) = btK f l k := fun h => btK_no (by rw [← hv]; exact h)
      have HX := Lib.hid (And.intro hset (And.intro hno (And.intro hown (And.intro hbel trivial))))
      clear hset hno hown hbel hv hqq hxx hb hy hc
      by_cases hkf : k < f
      · have HY := Lib.hid (HX.out.1 (.inl hkf))
        have hd : decide ((k : Int) < (f : Int)) = true := decide_eq_true (by omega)
        go_wp2_with fail
        go_region
        all_goals go_wp2_with fail
        all_goals go_roundg (gk - 1)
        all_goals first | omega | exact ⟨k + 1, by omega, by go_num, HY.out.1, HY.out.2.drew⟩
      · have hd : decide ((k : Int) < (f : Int)) = false := decide_eq_false (by omega)
        by_cases hv1 : v = 1
        · have HY := Lib.hid (HX.out.1 (.inr hv1))
          have he : ((v : Int) == 1) = true := by simp; omega
          clear hv1
          go_wp2_with fail
          go_region
          all_goals go_wp2_with fail
          all_goals go_roundg (gk - 1)
          all_goals first | omega | exact ⟨k + 1, by omega, by go_num, HY.out.1, HY.out.2.drew⟩
        · have HY := Lib.hid (HX.out.2.1 (by omega))
          have he : ((v : Int) == 1) = false := by simp; omega
          clear hv1
          go_wp2_with fail
          go_roundg (gk - 1)
          case measure => omega
          case rel => exact ⟨k + 1, by omega, by go_num, by rw [HY.out]; exact HX.out.2.2.1, HX.out.2.2.2.1⟩
    · obtain rfl : k = l.length := by omega
      have hcv := run_text (w := wr) (v := .slice (some ⟨w.heap.size, 0, none⟩) M M) (b := btK f l l.length) (by rw [length_btK]; exact HM.out.1) (own_base hown) (btK_lt f l l.length)
      have HB := Lib.hid hbel
      clear hbel hown
      go_wp2_with fail
      go_ret
      exact ⟨rfl, HB.out⟩
end Go.Proofs.Ytinjkjgahipimaa
