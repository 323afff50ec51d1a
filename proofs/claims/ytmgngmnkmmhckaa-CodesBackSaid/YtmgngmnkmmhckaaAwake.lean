/-
  What the laws of chapter 1 end with: a bit and a number, there and back.
-/
import Derived.Test.YtmgngmnkmmhckaaRefR
set_option linter.unusedVariables false
namespace Go.Proofs.Ytmgngmnkmmhckaa
open Go.RowKit Plain

theorem Fresh.ge {w : World} {o o' : Option Nat} {B : Nat} (h : Fresh w o o') (ho : ∀ k, o = some k → B ≤ k) (hs : B ≤ w.heap.size) : ∀ k, o' = some k → B ≤ k := by
  rintro k rfl
  rcases h with h | ⟨g, hg, hl⟩
  · exact ho k h.symm
  · injection hg with hg; omega
theorem below_only {B : Nat} {F : Nat → Prop} {a b c : World} (h : Below B a b) (k : Only F b c) (hB : B ≤ b.heap.size) (hF : ∀ i, F i → B ≤ i) : Below B a c :=
  h.trans ⟨k.os, k.tape, k.output, k.size, fun i hi => k.block i (by omega) (fun hf => by have := hF i hf; omega)⟩

theorem aw_bit {h : Nat} {w : World} (hw : WrAt w h none []) :
    Calls Try.prog 27 #[.pointer (some ⟨h, 0, none⟩), .bool true] w fun e w' => e = .returned (.int .i64 0) ∧ WrTo w h none [true] w' :=
  (wbit_any h none [] true w hw (by decide)).mono fun e w' ⟨h1, h2⟩ => ⟨h1, h2⟩
theorem aw_put {h : Nat} {o : Option Nat} {w : World} (hw : WrAt w h o [true]) :
    Calls Try.prog 26 #[.pointer (some ⟨h, 0, none⟩), .int .u64 5, .int .i64 4] w fun e w' => e = .returned (.int .i64 0) ∧ WrTo w h o [true, false, true, false, true] w' := by
  have hb : putBits [true] 5 4 = [true, false, true, false, true] := by decide
  have hc : putCode [true].length 5 4 = 0 := by decide
  have := wput_any h o [true] 5 4 w (by decide) hw (by decide)
  rw [hb, hc] at this
  exact this
theorem aw_text {h : Nat} {o : Option Nat} {w : World} (hw : WrAt w h o [true, false, true, false, true]) :
    Calls Try.prog 28 #[.pointer (some ⟨h, 0, none⟩)] w fun e w' => e = .returned (.tuple #[.string ⟨#[168]⟩, .int .i64 0]) ∧ w = w' := by
  have hb : strOf (pk [true, false, true, false, true]) = ⟨#[168]⟩ := by decide
  have := wtext_any h o [true, false, true, false, true] w hw
  rw [hb] at this
  exact this
theorem aw_take {h : Nat} {w : World} (hw : RdAt w h ⟨#[168]⟩ 0) :
    Calls Try.prog 17 #[.pointer (some ⟨h, 0, none⟩), .int .i64 5] w fun e w' => e = .returned (.tuple #[.int .u64 21, .int .i64 0]) ∧ RdTo w h ⟨#[168]⟩ 5 w' := by
  have hv : takeVal (bitsS ⟨#[168]⟩) 0 5 = 21 := by decide
  have hc : takeCode (8 * (⟨#[168]⟩ : ByteArray).size) 0 5 = 0 := by decide
  have ha : takeAt (8 * (⟨#[168]⟩ : ByteArray).size) 0 5 = 5 := by decide
  have := take_any h ⟨#[168]⟩ 0 5 w hw (by decide)
  rw [hv, hc, ha] at this
  exact this

set_option maxRecDepth 100000 in
set_option maxHeartbeats 1000000 in
theorem awake_any (w : World) : Calls Try.prog 23 #[] w fun e w' => e = .returned (.bool true) ∧ Below w.heap.size w w' := by
  go_enter Try.func23, Try.ntmps23
  go_wp2_with fail
  refine (new_any _).mono ?_
  rintro e w1 ⟨rfl, rfl⟩
  have hw1 := WrAt.new w
  have hb1 : Below w.heap.size w (w.alloc (.cells #[.slice none 0 0, .int .i64 0] 93)) := (Below.refl _ _).alloc (Nat.le_refl _) _
  obtain ⟨w1, hw1e⟩ : ∃ w1, w1 = w.alloc (.cells #[.slice none 0 0, .int .i64 0] 93) := ⟨_, rfl⟩
  rw [← hw1e] at hw1 hb1 ⊢
  clear hw1e
  have H1 := Lib.hid hb1
  clear hb1
  go_wp2_with fail
  refine (aw_bit hw1).mono ?_
  rintro e w2 ⟨rfl, o2, hw2, ho2, hf2⟩
  have H2 : Hid (Below w.heap.size w w2) := below_only H1.out ho2 H1.out.size (by rintro i (rfl | h); exact Nat.le_refl _; cases h)
  have hg2 := hf2.ge (B := w.heap.size) (by rintro k h; cases h) H1.out.size
  have G2 := Lib.hid hg2
  clear ho2 hf2 hg2
  go_wp2_with fail
  refine (aw_put hw2).mono ?_
  rintro e w3 ⟨rfl, o3, hw3, ho3, hf3⟩
  have H3 : Hid (Below w.heap.size w w3) := below_only H2.out ho3 H2.out.size (by rintro i (rfl | h); exact Nat.le_refl _; exact G2.out i h)
  clear ho3 hf3
  go_wp2_with fail
  refine (aw_text hw3).mono ?_
  rintro e w' ⟨rfl, rfl⟩
  go_wp2_with fail
  refine (open_any _ _).mono ?_
  rintro e w4 ⟨rfl, rfl⟩
  have hr4 := RdAt.new w3 ⟨#[168]⟩
  have hsz : w.heap.size ≤ w3.heap.size := H3.out.size
  have H4 : Hid (Below w.heap.size w (w3.alloc (.cells #[.string ⟨#[168]⟩, .int .i64 0] 88))) := H3.out.alloc hsz _
  obtain ⟨w4, hw4e⟩ : ∃ w4, w4 = w3.alloc (.cells #[.string ⟨#[168]⟩, .int .i64 0] 88) := ⟨_, rfl⟩
  rw [← hw4e] at hr4 H4 ⊢
  clear hw4e
  go_wp2_with fail
  refine (aw_take hr4).mono ?_
  rintro e w5 ⟨rfl, hr5, ho5⟩
  have H5 : Hid (Below w.heap.size w w5) := below_only H4.out ho5 H4.out.size (by rintro i rfl; exact hsz)
  clear ho5
  go_wp2_with fail
  go_ret
  exact ⟨rfl, H5.out⟩
end Go.Proofs.Ytmgngmnkmmhckaa
