/-
  The reference's Alloc: the first place at which so many blocks in a row are free.
-/
import Derived.Test.YtinjkjgahipimaaERRest
import Derived.Test.YtinjkjgahipimaaLNames
set_option linter.unusedVariables false
namespace Go.Proofs.Ytinjkjgahipimaa
open Go.RowKit

theorem alc_end {l : List Nat} {f n : Nat} (h : l.length ≤ f) : alc l f n = none := by unfold alc; rw [spc_end h]; rfl
theorem alc_zero {l : List Nat} {f n : Nat} (h : f < l.length) (h0 : fr l f = 0) : alc l f n = alc l (f + 1) n := by unfold alc; rw [spc_zero h h0]
theorem alc_here {l : List Nat} {f n : Nat} (h : f < l.length) (h0 : 0 < fr l f) (hn : n ≤ fr l f) : alc l f n = some (f, fr l f) := by
  unfold alc; rw [spc_pos h h0, List.find?_cons]; simp [hn]
theorem alc_next {l : List Nat} {f n : Nat} (h : f < l.length) (h0 : 0 < fr l f) (hn : ¬ n ≤ fr l f) : alc l f n = alc l (f + fr l f + 1) n := by
  unfold alc; rw [spc_pos h h0, List.find?_cons]; simp [hn]
theorem allP_head {l : List Nat} {i n : Nat} (hn : 1 ≤ n) (h : AllP l i n 0) : l.getD i 0 = 0 := by have := h 0 (by omega); rwa [Nat.add_zero] at this
theorem fr_pos {l : List Nat} {f : Nat} (h : f < l.length) (h0 : l.getD f 0 = 0) : 0 < fr l f := by
  rcases Nat.eq_zero_or_pos (fr l f) with e | e
  · have := fr_stop (l := l) (n := f) (by omega)
    rw [e, Nat.add_zero] at this
    exact absurd h0 this
  · exact e
/-- no such place -/
theorem alc_none_all (l : List Nat) (n : Nat) (hn : 1 ≤ n) : ∀ d f, l.length - f ≤ d → alc l f n = none → ∀ i, f ≤ i → i + n ≤ l.length → ¬ AllP l i n 0
  | 0, f, h, ha, i, h1, h2, hA => by omega
  | d + 1, f, h, ha, i, h1, h2, hA => by
    have hf : f < l.length := by omega
    rcases Nat.eq_zero_or_pos (fr l f) with h0 | h0
    · rcases Nat.eq_or_lt_of_le h1 with e | e
      · subst e
        have := fr_pos hf (allP_head hn hA)
        omega
      · rw [alc_zero hf h0] at ha
        exact alc_none_all l n hn d (f + 1) (by omega) ha i e h2 hA
    · by_cases hle : n ≤ fr l f
      · rw [alc_here hf h0 hle] at ha; cases ha
      · rw [alc_next hf h0 hle] at ha
        rcases Nat.lt_or_ge i (f + fr l f + 1) with e | e
        · have h3 := hA (f + fr l f - i) (by omega)
          rw [show i + (f + fr l f - i) = f + fr l f by omega] at h3
          exact fr_stop (l := l) (n := f) (by omega) h3
        · exact alc_none_all l n hn d _ (by omega) ha i e h2 hA
/-- the first such place -/
theorem alc_first (l : List Nat) (n : Nat) (hn : 1 ≤ n) : ∀ d f, l.length - f ≤ d → ∀ x, alc l f n = some x → ∀ i, f ≤ i → i < x.1 → ¬ AllP l i n 0
  | 0, f, h, x, ha, i, h1, h2, hA => by rw [alc_end (by omega)] at ha; cases ha
  | d + 1, f, h, x, ha, i, h1, h2, hA => by
    rcases Nat.lt_or_ge f l.length with hf | hf
    · rcases Nat.eq_zero_or_pos (fr l f) with h0 | h0
      · rw [alc_zero hf h0] at ha
        rcases Nat.eq_or_lt_of_le h1 with e | e
        · subst e
          have := fr_pos hf (allP_head hn hA)
          omega
        · exact alc_first l n hn d (f + 1) (by omega) x ha i e h2 hA
      · by_cases hle : n ≤ fr l f
        · rw [alc_here hf h0 hle] at ha
          cases ha
          exact absurd h1 (by simp at h2; omega)
        · rw [alc_next hf h0 hle] at ha
          rcases Nat.lt_or_ge i (f + fr l f + 1) with e | e
          · have h3 := hA (f + fr l f - i) (by omega)
            rw [show i + (f + fr l f - i) = f + fr l f by omega] at h3
            obtain ⟨q1, q2, q3, _⟩ := spc_in (alc_fits ha).1
            exact fr_stop (l := l) (n := f) (by omega) h3
          · exact alc_first l n hn d _ (by omega) x ha i e h2 hA
    · rw [alc_end hf] at ha; cases ha
theorem alc_all {l : List Nat} {f n : Nat} {x : Nat × Nat} (ha : alc l f n = some x) : AllP l x.1 n 0 ∧ f ≤ x.1 ∧ x.1 + n ≤ l.length := by
  obtain ⟨hm, hn⟩ := alc_fits ha
  obtain ⟨q1, q2, q3, q4⟩ := spc_in hm
  exact ⟨fun j hj => fr_zero (by omega), q1, by omega⟩

set_option maxRecDepth 100000 in
theorem ralloc_arg (h : Nat) (n : Int) (w : World) (hn : n < 1) : Calls Try.prog 44 #[.pointer (some ⟨h, 0, none⟩), .int .i64 n] w fun e w' => e = .returned (.tuple #[.agg #[.int .i64 0, .int .i64 0], .int .i64 1]) ∧ Below w.heap.size w w' := by
  have hbx := Blk.new w 39 #[.int .i64 0, .int .i64 0]
  have hB : Hid (Below w.heap.size w (((w.alloc (.cells #[.int .i64 0, .int .i64 0] 39)).setCell ⟨w.heap.size, 0, none⟩ (.int .i64 0)).setCell ⟨w.heap.size, 1, none⟩ (.int .i64 0))) :=
    (((Below.refl _ w).alloc (Nat.le_refl _) _).setCell (Nat.le_refl _) _).setCell (Nat.le_refl _) _
  have x0 := hbx.cell 0
  have x1 := hbx.cell 1
  have f0 := hbx.frozen 0
  have f1 := hbx.frozen 1
  simp at x0 x1
  clear hbx
  go_enter Try.func44, Try.ntmps44
  go_wp2_with fail
  first
    | exact bodyPost_ret (v := .tuple #[.agg #[.int .i64 0, .int .i64 0], .int .i64 1]) (by simp [results, Try.results44, go_sem]) rfl ⟨rfl, hB.out⟩
    | exact bodyPost_ret (v := .tuple #[.agg #[.int .i64 0, .int .i64 0], .int .i64 1]) (by simp [results, Try.results44, go_sem]) rfl ⟨rfl, (Below.refl _ w).alloc (Nat.le_refl _) _⟩

set_option maxRecDepth 100000 in
set_option maxHeartbeats 2000000 in
theorem ralloc_no (h : Nat) (S : Nat → Prop) (s : St) (n : Nat) (w : World) (m : Rm w h S s) (ok : s.Ok) (hn : 1 ≤ n) (hn2 : n ≤ 9223372036854775807) (ha : alc s.l s.f n = none) :
    Calls Try.prog 44 #[.pointer (some ⟨h, 0, none⟩), .int .i64 n] w fun e w' => e = .returned (.tuple #[.agg #[.int .i64 0, .int .i64 0], .int .i64 3]) ∧ Below w.heap.size w w' := by
  have hall := alc_none_all s.l n hn s.l.length s.f (by omega) ha
  have hbx := Blk.new w 39 #[.int .i64 0, .int .i64 0]
  have hbel : Below w.heap.size w (w.alloc (.cells #[.int .i64 0, .int .i64 0] 39)) := (Below.refl _ w).alloc (Nat.le_refl _) _
  have hle := ok.le
  have hfl := ok.fl
  obtain ⟨N, hN⟩ : ∃ N, N = s.l.length := ⟨_, rfl⟩
  obtain ⟨f, hf⟩ : ∃ f, f = s.f := ⟨_, rfl⟩
  have hc : ∀ w', Below w.heap.size w w' → w'.cell? ⟨h, 0, none⟩ = some (.int .i64 f) ∧ w'.cell? ⟨h, 1, none⟩ = some (.int .i64 N) := fun w' hb => by
    obtain ⟨A, c, V, hbk, _⟩ := (m.below hb).own
    exact ⟨by rw [hf, hbk.cell 0]; rfl, by rw [hN, hbk.cell 1]; rfl⟩
  rw [← hN] at hle hfl
  rw [← hf] at hfl
  have hal : ∀ w' (i : Nat), Below w.heap.size w w' → f ≤ i → i + n ≤ N → Calls Try.prog 55 #[.pointer (some ⟨h, 0, none⟩), .agg #[.int .i64 i, .int .i64 n], .int .i64 0] w' fun e w'' => e = .returned (.bool false) ∧ Below w'.heap.size w' w'' := fun w' i hb h1 h2 => by
    have := hall i (by omega) (by omega)
    exact rall_any h S s i n 0 false w' (m.below hb) (by omega) ok.le (by simp [this])
  have HX := Lib.hid (And.intro hc (And.intro hal (And.intro hbel hbx)))
  clear hc hal hbel hbx hall m ok ha hN hf
  obtain ⟨w1, hw1⟩ : ∃ w1, w1 = w.alloc (.cells #[.int .i64 0, .int .i64 0] 39) := ⟨_, rfl⟩
  obtain ⟨b4, hb4⟩ : ∃ b4, b4 = w.heap.size := ⟨_, rfl⟩
  have HW := Lib.hid (And.intro hw1 hb4)
  go_enter Try.func44, Try.ntmps44
  go_upto_region 1 with fail
  rw [← hw1, ← hb4]
  rw [← hw1] at HX
  have HB4 : Hid (Blk w1 b4 39 #[.int .i64 0, .int .i64 0] ∧ w.heap.size ≤ b4) := ⟨by rw [hb4]; exact HX.out.2.2.2, by omega⟩
  clear hw1 hb4
  obtain ⟨c0, c1⟩ := HX.out.1 _ HX.out.2.2.1
  go_wp2_with fail
  clear c0 c1
  go_loopg [6] (N - f) (fun g v wr => ∃ i : Nat, i + g = N ∧ f ≤ i ∧ v = .int .i64 i ∧ Below w.heap.size w wr ∧ Blk wr b4 39 #[.int .i64 0, .int .i64 0])
  case atStart => exact ⟨f, by omega, Nat.le_refl _, rfl, HX.out.2.2.1, HB4.out.1⟩
  case round =>
    obtain ⟨i, hg, hfi, rfl, hbel, hb⟩ := hrel
    obtain ⟨c0, c1⟩ := HX.out.1 _ hbel
    have hN63 : N ≤ 4096 := hle
    by_cases hiN : i < N
    · by_cases hin : n ≤ N - i
      · have hd : decide ((n : Int) ≤ (N : Int) - (i : Int)) = true := decide_eq_true (by omega)
        have HI := Lib.hid (And.intro hbel hb)
        have HC := Lib.hid (HX.out.2.1 (wr.alloc (.cells #[.int .i64 i, .int .i64 n] 39)) i (hbel.alloc hbel.size _) hfi (by omega))
        have hbx := Blk.new wr 39 #[.int .i64 i, .int .i64 n]
        have x0 := hbx.cell 0
        have x1 := hbx.cell 1
        simp at x0 x1
        clear hbel hb hbx c0 hin
        go_wp2_with fail
        refine HC.out.mono ?_
        rintro e w2 ⟨rfl, hb2⟩
        have h3 := (HI.out.1.alloc HI.out.1.size (.cells #[.int .i64 i, .int .i64 n] 39))
        have HJ := Lib.hid (And.intro (below_step h3 hb2) ((HI.out.2.alloc (.cells #[.int .i64 i, .int .i64 n] 39)).below hb2 (HI.out.2.alloc (.cells #[.int .i64 i, .int .i64 n] 39)).lt))
        clear hb2 h3 x0 x1 c1
        go_wp2_with fail
        go_roundg (gk - 1)
        case measure => omega
        case rel => exact ⟨i + 1, by omega, by omega, by go_num, HJ.out.1, HJ.out.2⟩
      · have hd : decide ((n : Int) ≤ (N : Int) - (i : Int)) = false := decide_eq_false (by omega)
        have HI := Lib.hid (And.intro hbel hb)
        have x0 := hb.cell 0
        have x1 := hb.cell 1
        have f0 := hb.frozen 0
        have f1 := hb.frozen 1
        simp at x0 x1
        have hz := (hb.set_ 0 (.int .i64 0)).set_ 1 (.int .i64 0)
        clear hbel hb c0 hin
        go_wp2_with fail
        have HB := HB4.out.2
        first
          | exact bodyPost_ret (v := .tuple #[.agg #[.int .i64 0, .int .i64 0], .int .i64 3]) (by simp [results, Try.results44, go_sem, x0, x1]) rfl ⟨rfl, HI.out.1⟩
          | exact bodyPost_ret (v := .tuple #[.agg #[.int .i64 0, .int .i64 0], .int .i64 3]) (by simp [results, Try.results44, go_sem, x0, x1]) rfl ⟨rfl, (HI.out.1.setCell HB _).setCell HB _⟩
    · have hd : decide ((i : Int) < (N : Int)) = false := decide_eq_false (by omega)
      have hd2 : decide (i < N) = false := decide_eq_false (by omega)
      have HI := Lib.hid (And.intro hbel hb)
      have x0 := hb.cell 0
      have x1 := hb.cell 1
      have f0 := hb.frozen 0
      have f1 := hb.frozen 1
      simp at x0 x1
      clear hbel hb c0 hiN
      go_wp2_with fail
      have HB := HB4.out.2
      first
        | exact bodyPost_ret (v := .tuple #[.agg #[.int .i64 0, .int .i64 0], .int .i64 3]) (by simp [results, Try.results44, go_sem, x0, x1]) rfl ⟨rfl, HI.out.1⟩
        | exact bodyPost_ret (v := .tuple #[.agg #[.int .i64 0, .int .i64 0], .int .i64 3]) (by simp [results, Try.results44, go_sem, x0, x1]) rfl ⟨rfl, (HI.out.1.setCell HB _).setCell HB _⟩
end Go.Proofs.Ytinjkjgahipimaa
