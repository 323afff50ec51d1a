/-
  codes: a number being read.
-/
import Derived.Test.YtmgngmnkmmhckaaCPut
set_option linter.unusedVariables false
namespace Go.Proofs.Ytmgngmnkmmhckaa
open Go.RowKit Plain

/-- a number being read: the reader, and whether it was bad -/
def RgAt (w : World) (g h : Nat) (s : ByteArray) (a : Nat) (bad : Bool) : Prop := Blk w g 98 #[.pointer (some ⟨h, 0, none⟩), .bool bad] ∧ RdAt w h s a
def RgTo (w : World) (g h : Nat) (s : ByteArray) (a : Nat) (bad : Bool) (w' : World) : Prop := RgAt w' g h s a bad ∧ Only (fun k => k = h ∨ k = g) w w'
theorem RgAt.ne {w : World} {g h a : Nat} {s : ByteArray} {bad : Bool} (x : RgAt w g h s a bad) : g ≠ h := x.1.ne_ x.2.1 (by decide)
theorem RgTo.trans {w w1 w2 : World} {g h a a' : Nat} {s : ByteArray} {bad bad' : Bool} (x : RgTo w g h s a bad w1) (y : RgTo w1 g h s a' bad' w2) : RgTo w g h s a' bad' w2 := ⟨y.1, x.2.trans y.2 (fun _ _ e => e)⟩
theorem RgTo.refl {w : World} {g h a : Nat} {s : ByteArray} {bad : Bool} (x : RgAt w g h s a bad) : RgTo w g h s a bad w := ⟨x, Only.refl _ _⟩

set_option maxRecDepth 100000 in
set_option maxHeartbeats 4000000 in
theorem gtake_any (g h : Nat) (s : ByteArray) (a : Nat) (bad : Bool) (n : Int) (w : World) (hw : RgAt w g h s a bad) (hs : s.size ≤ 140737488355328) :
    Calls Try.prog 67 #[.pointer (some ⟨g, 0, none⟩), .int .i64 n] w fun e w' => e = .returned (.int .u64 (takeVal (bitsS s) a n : Nat)) ∧ RgTo w g h s (takeAt (8 * s.size) a n) (bad || takeCode (8 * s.size) a n != 0) w' := by
  have c0 := hw.1.cell 0
  simp at c0
  have H0 := Lib.hid (And.intro hw hw.ne)
  have Hs := Lib.hid hs
  clear hw hs
  go_enter Try.func67, Try.ntmps67
  go_wp2_with fail
  refine (take_any h s a n w H0.out.1.2 Hs.out).mono ?_
  rintro e w1 ⟨rfl, hp⟩
  obtain ⟨C, hC⟩ : ∃ C, C = takeCode (8 * s.size) a n := ⟨_, rfl⟩
  obtain ⟨V, hV⟩ : ∃ V, V = takeVal (bitsS s) a n := ⟨_, rfl⟩
  obtain ⟨T, hT⟩ : ∃ T, T = takeAt (8 * s.size) a n := ⟨_, rfl⟩
  rw [← hT] at hp
  rw [← hC, ← hV]
  have HE := Lib.hid (And.intro hC (And.intro hV hT))
  clear hC hV hT c0
  have hb1 : Blk w1 g 98 #[.pointer (some ⟨h, 0, none⟩), .bool bad] := H0.out.1.1.only hp.2 H0.out.2
  have d0 := hb1.cell 0
  have d1 := hb1.cell 1
  have f1 := hb1.frozen 1
  simp at d0 d1
  have H1 := Lib.hid (And.intro hb1 hp)
  clear hb1 hp
  cases bad
  · go_wp2_with fail
    go_ret
    rw [← HE.out.1, ← HE.out.2.1, ← HE.out.2.2]
    refine ⟨rfl, ⟨⟨?_, ?_⟩, ?_⟩⟩
    · exact blk_set1 (z := .bool (C != 0)) H1.out.1
    · exact ⟨H1.out.2.1.1.far (fun e => H0.out.2 e.symm) _, H1.out.2.1.2⟩
    · exact (H1.out.2.2.mono (fun _ _ e => .inl e)).setCell (p := ⟨g, 1, none⟩) (.inl (.inr rfl)) _
  · go_wp2_with fail
    go_ret
    rw [← HE.out.1, ← HE.out.2.1, ← HE.out.2.2]
    refine ⟨rfl, ⟨⟨?_, ?_⟩, ?_⟩⟩
    · exact blk_set1 (z := .bool true) H1.out.1
    · exact ⟨H1.out.2.1.1.far (fun e => H0.out.2 e.symm) _, H1.out.2.1.2⟩
    · exact (H1.out.2.2.mono (fun _ _ e => .inl e)).setCell (p := ⟨g, 1, none⟩) (.inl (.inr rfl)) _
end Go.Proofs.Ytmgngmnkmmhckaa
