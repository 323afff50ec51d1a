/-
  ExtentNames: the law's walk; a map that was seen at work.
-/
import Derived.Test.YtinjkjgahipimaaENil
set_option linter.unusedVariables false
namespace Go.Proofs.Ytinjkjgahipimaa
open Go.RowKit

/-- the free extents, by a count -/
def spcF (l : List Nat) : Nat → Nat → List (Nat × Nat)
  | 0, _ => []
  | d + 1, n => if n < l.length then (if 0 < fr l n then [(n, fr l n)] else []) ++ spcF l d (n + fr l n + 1) else []
theorem spc_fuel (l : List Nat) : ∀ d n, l.length - n ≤ d → spc l n = spcF l d n
  | 0, n, h => by rw [spc_end (by omega)]; rfl
  | d + 1, n, h => by
    unfold spcF
    rcases Nat.lt_or_ge n l.length with hn | hn
    · rw [if_pos hn, ← spc_fuel l d _ (by omega)]
      rw [spc, dif_pos hn]
    · rw [if_neg (by omega), spc_end hn]
theorem alc_fuel (l : List Nat) (f n : Nat) : alc l f n = (spcF l l.length f).find? fun x => decide (n ≤ x.2) := by
  unfold alc
  rw [spc_fuel l l.length f (Nat.sub_le _ _)]

def sA : St := newSt 2 10
def sB : St := sA.put 2 3 1
def sC : St := sB.put 5 4 1
def sD : St := sC.put 2 3 0
theorem sA_ok : sA.Ok := newSt_ok (by decide) (by decide)
theorem sB_ok : sB.Ok := sA_ok.put 2 3 (by decide)
theorem sC_ok : sC.Ok := sB_ok.put 5 4 (by decide)
theorem sD_ok : sD.Ok := sC_ok.put 2 3 (by decide)
theorem aA : alc sA.l sA.f 3 = some (2, 8) := by rw [alc_fuel]; decide +kernel
theorem aB : alc sB.l sB.f 4 = some (5, 5) := by rw [alc_fuel]; decide +kernel
theorem aC : alc sC.l sC.f 2 = none := by rw [alc_fuel]; decide +kernel
theorem bC : bitsT sC.f sC.l = ⟨#[255, 128]⟩ := by decide +kernel
theorem no_bits : ¬ fbOk 2 10 ⟨#[63, 0]⟩ := fun h => absurd h.2 (by decide +kernel)
theorem alloc_yes {h n : Nat} {S : Nat → Prop} {s : St} {x : Nat × Nat} (w : World) (m : Mp w h S s) (ok : s.Ok) (hn : 1 ≤ n) (hn2 : n ≤ 9223372036854775807) (ha : alc s.l s.f n = some x) :
    Calls Try.prog 17 #[.pointer (some ⟨h, 0, none⟩), .int .i64 n] w fun e w' => e = .returned (.tuple #[.agg #[.int .i64 x.1, .int .i64 n], .int .i64 0]) ∧ Mp w' h S (s.put x.1 n 1) ∧ Only S w w' :=
  (alloc_any h S s n w m ok hn hn2).mono fun e w' hp => hp.2 x ha
theorem alloc_no {h n : Nat} {S : Nat → Prop} {s : St} (w : World) (m : Mp w h S s) (ok : s.Ok) (hn : 1 ≤ n) (hn2 : n ≤ 9223372036854775807) (ha : alc s.l s.f n = none) :
    Calls Try.prog 17 #[.pointer (some ⟨h, 0, none⟩), .int .i64 n] w fun e w' => e = .returned (.tuple #[.agg #[.int .i64 0, .int .i64 0], .int .i64 3]) ∧ Below w.heap.size w w' :=
  (alloc_any h S s n w m ok hn hn2).mono fun e w' hp => hp.1 ha
theorem below_of_only {S : Nat → Prop} {a b c : World} (h : Below a.heap.size a b) (k : Only S b c) (hS : ∀ i, S i → a.heap.size ≤ i) : Below a.heap.size a c :=
  h.trans (k.below (fun i hi hs => by have := hS i hs; omega) h.size)

set_option maxRecDepth 100000 in
set_option maxHeartbeats 2000000 in
theorem names_any (w : World) : Calls Try.prog 8 #[] w fun e w' => e = .returned (.bool true) ∧ Below w.heap.size w w' := by
  have n1 := fun w => alloc_nil 1 w
  have n2 := fun w => take_nil 0 1 w
  have n3 := fun w => free_nil 0 0 w
  have n4 := fun w => new_no 0 4097 w (by omega)
  have n5 := fun w => (from_any 2 10 ⟨#[63, 0]⟩ w (by decide) (by decide) (by decide)).mono fun e w' hp => hp.2 no_bits
  have n6 := fun w => new_yes 2 10 w (by decide) (by decide)
  have HN := Lib.hid (And.intro n1 (And.intro n2 (And.intro n3 (And.intro n4 (And.intro n5 n6)))))
  clear n1 n2 n3 n4 n5 n6
  go_enter Try.func8, Try.ntmps8
  go_wp2_with fail
  refine (HN.out.1 _).mono ?_
  rintro e w1 ⟨rfl, hb⟩
  have H1 := Lib.hid hb
  clear hb
  have HB1 : Hid (Below w.heap.size w (w1.alloc (.cells #[.int .i64 0, .int .i64 0] 39))) := H1.out.alloc H1.out.size _
  go_wp2_with fail
  obtain ⟨w2, hw2⟩ : ∃ w2, w2 = w1.alloc (.cells #[.int .i64 0, .int .i64 0] 39) := ⟨_, rfl⟩
  rw [← hw2] at HB1
  rw [← hw2]
  clear hw2 H1
  refine (HN.out.2.1 _).mono ?_
  rintro e w3 ⟨rfl, hb⟩
  have H3 := Lib.hid (below_step HB1.out hb)
  clear hb
  go_wp2_with fail
  refine (HN.out.2.2.1 _).mono ?_
  rintro e w4 ⟨rfl, hb⟩
  have H4 := Lib.hid (below_step H3.out hb)
  clear hb
  go_wp2_with fail
  refine (begin_nil _).mono ?_
  rintro e w' ⟨rfl, rfl⟩
  go_wp2_with fail
  refine (commit_nil _).mono ?_
  rintro e w' ⟨rfl, rfl⟩
  go_wp2_with fail
  refine (abort_nil _).mono ?_
  rintro e w' ⟨rfl, rfl⟩
  go_wp2_with fail
  refine (open_nil _).mono ?_
  rintro e w' ⟨rfl, rfl⟩
  go_wp2_with fail
  refine (spaces_nil _).mono ?_
  rintro e w' ⟨rfl, rfl⟩
  go_wp2_with fail
  refine (room_nil _).mono ?_
  rintro e w5 ⟨rfl, hb⟩
  have H5 := Lib.hid (below_step H4.out hb)
  clear hb
  go_wp2_with fail
  refine (taken_nil 0 _).mono ?_
  rintro e w' ⟨rfl, rfl⟩
  go_wp2_with fail
  refine (bits_nil _).mono ?_
  rintro e w' ⟨rfl, rfl⟩
  go_wp2_with fail
  refine (twin_nil _).mono ?_
  rintro e w' ⟨rfl, rfl⟩
  go_wp2_with fail
  refine (HN.out.2.2.2.2.2 _).mono ?_
  rintro e w6 ⟨h, S, rfl, hm, hb, hS⟩
  have hS2 : ∀ k, S k → w.heap.size ≤ k := fun k hk => Nat.le_trans H5.out.size (hS k hk)
  have H6 := Lib.hid (And.intro hm (And.intro (below_step H5.out hb) hS2))
  clear hm hb hS hS2
  go_wp2_with fail
  refine (HN.out.2.2.2.1 _).mono ?_
  rintro e w' ⟨rfl, rfl⟩
  go_wp2_with fail
  refine (HN.out.2.2.2.2.1 _).mono ?_
  rintro e w7 ⟨rfl, hb⟩
  have H7 := Lib.hid (And.intro (H6.out.1.below hb) (below_step H6.out.2.1 hb))
  clear hb
  go_wp2_with fail
  refine (alloc_yes w7 H7.out.1 sA_ok (n := 3) (by decide) (by decide) aA).mono ?_
  rintro e w8 ⟨rfl, hm, ho⟩
  have H8 := Lib.hid (And.intro hm (below_of_only H7.out.2 ho H6.out.2.2))
  clear hm ho
  go_wp2_with fail
  have hb8 := Blk.new w8 39 #[.int .i64 2, .int .i64 3]
  have hm8 := H8.out.1.below ((Below.refl _ w8).alloc (Nat.le_refl _) (.cells #[.int .i64 2, .int .i64 3] 39))
  obtain ⟨w9, hw9⟩ : ∃ w9, w9 = w8.alloc (.cells #[.int .i64 2, .int .i64 3] 39) := ⟨_, rfl⟩
  obtain ⟨g1, hg1⟩ : ∃ g, g = w8.heap.size := ⟨_, rfl⟩
  have hS1 : ¬ S g1 := fun hs => by have := H8.out.1.lt _ hs; omega
  have H9 : Hid (Mp w9 h S sB ∧ Below w.heap.size w w9 ∧ Blk w9 g1 39 #[.int .i64 2, .int .i64 3] ∧ ¬ S g1) := by
    rw [hw9, hg1]; exact ⟨hm8, H8.out.2.alloc H8.out.2.size _, hb8, by rw [← hg1]; exact hS1⟩
  rw [← hw9, ← hg1]
  clear hw9 hg1 hb8 hm8 hS1
  go_wp2_with fail
  refine (alloc_yes w9 H9.out.1 sB_ok (n := 4) (by decide) (by decide) aB).mono ?_
  rintro e w10 ⟨rfl, hm, ho⟩
  have H10 := Lib.hid (And.intro hm (And.intro (below_of_only H9.out.2.1 ho H6.out.2.2) (H9.out.2.2.1.only ho H9.out.2.2.2)))
  clear hm ho
  go_wp2_with fail
  have hb8 := Blk.new w10 39 #[.int .i64 5, .int .i64 4]
  have hm8 := H10.out.1.below ((Below.refl _ w10).alloc (Nat.le_refl _) (.cells #[.int .i64 5, .int .i64 4] 39))
  obtain ⟨w11, hw9⟩ : ∃ w9, w9 = w10.alloc (.cells #[.int .i64 5, .int .i64 4] 39) := ⟨_, rfl⟩
  obtain ⟨g2, hg1⟩ : ∃ g, g = w10.heap.size := ⟨_, rfl⟩
  have H11 : Hid (Mp w11 h S sC ∧ Below w.heap.size w w11 ∧ Blk w11 g1 39 #[.int .i64 2, .int .i64 3] ∧ Blk w11 g2 39 #[.int .i64 5, .int .i64 4]) := by
    rw [hw9, hg1]; exact ⟨hm8, H10.out.2.1.alloc H10.out.2.1.size _, H10.out.2.2.alloc _, hb8⟩
  rw [← hw9, ← hg1]
  clear hw9 hg1 hb8 hm8
  go_wp2_with fail
  refine (alloc_no w11 H11.out.1 sC_ok (n := 2) (by decide) (by decide) aC).mono ?_
  rintro e w12 ⟨rfl, hb⟩
  have hm12 := H11.out.1.below hb
  have hb1 := H11.out.2.2.1.below hb H11.out.2.2.1.lt
  have hb2 := H11.out.2.2.2.below hb H11.out.2.2.2.lt
  have hbl := below_step H11.out.2.1 hb
  have H12 : Hid (Mp (w12.alloc (.cells #[.int .i64 0, .int .i64 0] 39)) h S sC ∧ Below w.heap.size w (w12.alloc (.cells #[.int .i64 0, .int .i64 0] 39)) ∧ Blk (w12.alloc (.cells #[.int .i64 0, .int .i64 0] 39)) g1 39 #[.int .i64 2, .int .i64 3] ∧ Blk (w12.alloc (.cells #[.int .i64 0, .int .i64 0] 39)) g2 39 #[.int .i64 5, .int .i64 4]) :=
    ⟨hm12.below ((Below.refl _ w12).alloc (Nat.le_refl _) _), hbl.alloc hbl.size _, hb1.alloc _, hb2.alloc _⟩
  clear hb hm12 hb1 hb2 hbl
  go_upto_region 13 with fail
  obtain ⟨w13, hw13⟩ : ∃ w13, w13 = w12.alloc (.cells #[.int .i64 0, .int .i64 0] 39) := ⟨_, rfl⟩
  rw [← hw13] at H12
  rw [← hw13]
  clear hw13
  have x0 := H12.out.2.2.1.cell 0
  have x1 := H12.out.2.2.1.cell 1
  have y0 := H12.out.2.2.2.cell 0
  have y1 := H12.out.2.2.2.cell 1
  simp at x0 x1 y0 y1
  go_wp2_with fail
  refine (bits_any h S sC w13 H12.out.1 sC_ok).mono ?_
  rintro e w14 ⟨rfl, hb⟩
  rw [bC]
  have H14 := Lib.hid (below_step H12.out.2.1 hb)
  clear hb
  go_wp2_with fail
  go_ret
  exact ⟨rfl, H14.out⟩
end Go.Proofs.Ytinjkjgahipimaa
