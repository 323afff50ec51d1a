/-
  The reference's Alloc where it finds a place.
-/
import Derived.Test.YtinjkjgahipimaaERAlloc
set_option linter.unusedVariables false
namespace Go.Proofs.Ytinjkjgahipimaa
open Go.RowKit

set_option maxRecDepth 100000 in
set_option maxHeartbeats 2000000 in
theorem ralloc_yes (h : Nat) (S : Nat → Prop) (s : St) (n : Nat) (x : Nat × Nat) (w : World) (m : Rm w h S s) (ok : s.Ok) (hn : 1 ≤ n) (ha : alc s.l s.f n = some x) :
    Calls Try.prog 44 #[.pointer (some ⟨h, 0, none⟩), .int .i64 n] w fun e w' => e = .returned (.tuple #[.agg #[.int .i64 x.1, .int .i64 n], .int .i64 0]) ∧ Rm w' h S (s.put x.1 n 1) ∧ Only S w w' := by
  have hall := alc_first s.l n hn s.l.length s.f (by omega) x ha
  obtain ⟨hyes, hfx, hxn⟩ := alc_all ha
  obtain ⟨X, y⟩ := x
  simp only at hall hyes hfx hxn
  show Calls Try.prog 44 #[.pointer (some ⟨h, 0, none⟩), .int .i64 n] w fun e w' => e = .returned (.tuple #[.agg #[.int .i64 X, .int .i64 n], .int .i64 0]) ∧ Rm w' h S (s.put X n 1) ∧ Only S w w'
  have hbx := Blk.new w 39 #[.int .i64 0, .int .i64 0]
  have hbel : Below w.heap.size w (w.alloc (.cells #[.int .i64 0, .int .i64 0] 39)) := (Below.refl _ w).alloc (Nat.le_refl _) _
  have hle := ok.le
  have hfl := ok.fl
  have hSlt := m.lt
  obtain ⟨N, hN⟩ : ∃ N, N = s.l.length := ⟨_, rfl⟩
  obtain ⟨f, hf⟩ : ∃ f, f = s.f := ⟨_, rfl⟩
  have hc : ∀ w', Below w.heap.size w w' → w'.cell? ⟨h, 0, none⟩ = some (.int .i64 f) ∧ w'.cell? ⟨h, 1, none⟩ = some (.int .i64 N) := fun w' hb => by
    obtain ⟨A, c, V, hbk, _⟩ := (m.below hb).own
    exact ⟨by rw [hf, hbk.cell 0]; rfl, by rw [hN, hbk.cell 1]; rfl⟩
  rw [← hN] at hle hfl hxn
  rw [← hf] at hfl hfx
  have hal : ∀ w' (i : Nat), Below w.heap.size w w' → f ≤ i → i < X → Calls Try.prog 55 #[.pointer (some ⟨h, 0, none⟩), .agg #[.int .i64 i, .int .i64 n], .int .i64 0] w' fun e w'' => e = .returned (.bool false) ∧ Below w'.heap.size w' w'' := fun w' i hb h1 h2 => by
    have := hall i (by omega) h2
    exact rall_any h S s i n 0 false w' (m.below hb) (by omega) ok.le (by simp [this])
  have hay : ∀ w', Below w.heap.size w w' → Calls Try.prog 55 #[.pointer (some ⟨h, 0, none⟩), .agg #[.int .i64 X, .int .i64 n], .int .i64 0] w' fun e w'' => e = .returned (.bool true) ∧ Below w'.heap.size w' w'' := fun w' hb =>
    rall_any h S s X n 0 true w' (m.below hb) (by omega) ok.le (by simp [hyes])
  have hst : ∀ w', Below w.heap.size w w' → Calls Try.prog 56 #[.pointer (some ⟨h, 0, none⟩), .agg #[.int .i64 X, .int .i64 n], .int .i64 1] w' fun e w'' => e = .returned (.tuple #[]) ∧ Rm w'' h S (s.put X n 1) ∧ Only S w' w'' := fun w' hb =>
    rset_any h S s X n 1 w' (m.below hb) (by omega) ok.le
  have HX := Lib.hid (And.intro hc (And.intro hal (And.intro hay (And.intro hst (And.intro hbel (And.intro hbx hSlt))))))
  clear hc hal hay hst hbel hbx hall hyes m ok ha hN hf hSlt
  obtain ⟨w1, hw1⟩ : ∃ w1, w1 = w.alloc (.cells #[.int .i64 0, .int .i64 0] 39) := ⟨_, rfl⟩
  obtain ⟨b4, hb4⟩ : ∃ b4, b4 = w.heap.size := ⟨_, rfl⟩
  go_enter Try.func44, Try.ntmps44
  go_upto_region 1 with fail
  rw [← hw1, ← hb4]
  rw [← hw1] at HX
  have HB4 : Hid (Blk w1 b4 39 #[.int .i64 0, .int .i64 0] ∧ w.heap.size ≤ b4 ∧ ¬ S b4) := ⟨by rw [hb4]; exact HX.out.2.2.2.2.2.1, by omega, fun e => by have := HX.out.2.2.2.2.2.2 b4 e; omega⟩
  clear hw1 hb4
  obtain ⟨c0, c1⟩ := HX.out.1 _ HX.out.2.2.2.2.1
  go_wp2_with fail
  clear c0 c1
  go_loopg [6] (X - f) (fun g v wr => ∃ i : Nat, i + g = X ∧ f ≤ i ∧ v = .int .i64 i ∧ Below w.heap.size w wr ∧ Blk wr b4 39 #[.int .i64 0, .int .i64 0])
  case atStart => exact ⟨f, by omega, Nat.le_refl _, rfl, HX.out.2.2.2.2.1, HB4.out.1⟩
  case round =>
    obtain ⟨i, hg, hfi, rfl, hbel, hb⟩ := hrel
    obtain ⟨c0, c1⟩ := HX.out.1 _ hbel
    have hN63 : N ≤ 4096 := hle
    have hiN : i < N := by omega
    have hd : decide ((n : Int) ≤ (N : Int) - (i : Int)) = true := decide_eq_true (by omega)
    have HI := Lib.hid (And.intro hbel hb)
    have hbx := Blk.new wr 39 #[.int .i64 i, .int .i64 n]
    have x0 := hbx.cell 0
    have x1 := hbx.cell 1
    simp at x0 x1
    have h3 := (HI.out.1.alloc HI.out.1.size (.cells #[.int .i64 i, .int .i64 n] 39))
    have H3 := Lib.hid (And.intro h3 (And.intro (HI.out.2.alloc (.cells #[.int .i64 i, .int .i64 n] 39)) hbx))
    clear hbel hb hbx c0 h3
    by_cases hiX : i < X
    · have HC := Lib.hid (HX.out.2.1 (wr.alloc (.cells #[.int .i64 i, .int .i64 n] 39)) i H3.out.1 hfi hiX)
      go_wp2_with fail
      refine HC.out.mono ?_
      rintro e w2 ⟨rfl, hb2⟩
      have HJ := Lib.hid (And.intro (below_step H3.out.1 hb2) (H3.out.2.1.below hb2 H3.out.2.1.lt))
      clear hb2 x0 x1 c1
      go_wp2_with fail
      go_roundg (gk - 1)
      case measure => omega
      case rel => exact ⟨i + 1, by omega, by omega, by go_num, HJ.out.1, HJ.out.2⟩
    · have hiX2 : i = X := by omega
      subst hiX2
      have HC := Lib.hid (HX.out.2.2.1 (wr.alloc (.cells #[.int .i64 i, .int .i64 n] 39)) H3.out.1)
      go_wp2_with fail
      refine HC.out.mono ?_
      rintro e w2 ⟨rfl, hb2⟩
      have hbx2 := H3.out.2.2.below hb2 H3.out.2.2.lt
      have hb42 := H3.out.2.1.below hb2 H3.out.2.1.lt
      have hne : b4 ≠ wr.heap.size := by have := HI.out.2.lt; omega
      obtain ⟨gx, hgx⟩ : ∃ gx, gx = wr.heap.size := ⟨_, rfl⟩
      have hgxS : ¬ S gx := fun e => by have := HX.out.2.2.2.2.2.2 gx e; have := HI.out.1.size; omega
      rw [← hgx] at hbx2 hne
      rw [← hgx]
      have y0 := hbx2.cell 0
      have y1 := hbx2.cell 1
      simp at y0 y1
      have HD := Lib.hid (HX.out.2.2.2.1 w2 (below_step H3.out.1 hb2))
      have HJ := Lib.hid (And.intro (below_step H3.out.1 hb2) (And.intro hbx2 (And.intro hb42 hgxS)))
      clear hb2 x0 x1 c1 hbx2 hb42 hgx hgxS
      go_wp2_with fail
      refine HD.out.mono ?_
      rintro e w3 ⟨rfl, hm3, ho3⟩
      have hbx3 := HJ.out.2.1.only ho3 HJ.out.2.2.2
      have hb43 := HJ.out.2.2.1.only ho3 HB4.out.2.2
      have z0 := hbx3.cell 0
      have z1 := hbx3.cell 1
      have u0 := hb43.cell 0
      have u1 := hb43.cell 1
      have f0 := hb43.frozen 0
      have f1 := hb43.frozen 1
      simp at z0 z1 u0 u1
      have hs4 := (hb43.set_ 0 (.int .i64 i)).set_ 1 (.int .i64 n)
      have v0 : ((w3.setCell ⟨b4, 0, none⟩ (.int .i64 i)).setCell ⟨b4, 1, none⟩ (.int .i64 n)).cell? ⟨b4, 0, none⟩ = some (.int .i64 i) := by rw [hs4.cell 0]; rfl
      have v1 : ((w3.setCell ⟨b4, 0, none⟩ (.int .i64 i)).setCell ⟨b4, 1, none⟩ (.int .i64 n)).cell? ⟨b4, 1, none⟩ = some (.int .i64 n) := by rw [hs4.cell 1]; rfl
      have hb4' : w.heap.size ≤ b4 := HB4.out.2.1
      have ho5 : Only (fun k => k = b4) w3 ((w3.setCell ⟨b4, 0, none⟩ (.int .i64 i)).setCell ⟨b4, 1, none⟩ (.int .i64 n)) := ((Only.refl (fun k => k = b4) w3).setCell (p := ⟨b4, 0, none⟩) (.inl rfl) _).setCell (p := ⟨b4, 1, none⟩) (.inl rfl) _
      have hm5 := hm3.keep ho5 (fun k hk e => HB4.out.2.2 (by have e2 : k = b4 := e; rw [← e2]; exact hk))
      have ho6 := Only.of_steps HJ.out.1 ho3
      have ho7 := (ho6.setCell (p := ⟨b4, 0, none⟩) (.inr hb4') (.int .i64 i)).setCell (p := ⟨b4, 1, none⟩) (.inr hb4') (.int .i64 n)
      have HF := Lib.hid (And.intro hm5 ho7)
      clear hm3 ho3 hbx3 hb43 hs4 hb4' ho5 hm5 ho6 ho7 y0 y1
      go_wp2_with fail
      exact bodyPost_ret (v := .tuple #[.agg #[.int .i64 i, .int .i64 n], .int .i64 0]) (by simp [results, Try.results44, go_sem, v0, v1]) rfl ⟨rfl, HF.out.1, HF.out.2⟩
end Go.Proofs.Ytinjkjgahipimaa
