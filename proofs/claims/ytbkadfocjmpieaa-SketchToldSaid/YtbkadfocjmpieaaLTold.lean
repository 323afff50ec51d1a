/-
  SketchTold: the law's walk.
-/
import Derived.Test.YtbkadfocjmpieaaREst
import Derived.Test.YtbkadfocjmpieaaRAdd
import Derived.Test.YtbkadfocjmpieaaSAwake
import Derived.Test.YtbkadfocjmpieaaSHashI
import Derived.Deep.RegionHeld3
set_option linter.unusedVariables false
namespace Go.Proofs.Ytbkadfocjmpieaa
open Go.RowKit

/-- two functions that answer alike -/
def Alike2 (f g : Nat) (args : Array Value) (v : Value) : Prop :=
  (∀ w : World, Calls Try.prog f args w fun e w' => e = .returned v ∧ Below w.heap.size w w') ∧ ∀ w : World, Calls Try.prog g args w fun e w' => e = .returned v ∧ Below w.heap.size w w'
theorem below_same {f : Nat} {args : Array Value} {w : World} {v : Value} (h : Calls Try.prog f args w fun e w' => e = .returned v ∧ w = w') : Calls Try.prog f args w fun e w' => e = .returned v ∧ Below w.heap.size w w' :=
  h.mono fun _ _ ⟨he, hw⟩ => ⟨he, hw ▸ Below.refl _ _⟩
theorem add_both (s : ByteArray) (h : Nat) (hs : s.size ≤ 140737488355328) (hh : h < 18446744073709551616) : ∃ (t : ByteArray) (c : Int), Alike2 9 13 #[.string s, .int .u64 h] (.tuple #[.string t, .int .i64 c]) :=
  ⟨_, _, fun w => add_any s h w hs hh, fun w => radd_any s h w hs hh⟩
theorem union_both (a b : ByteArray) (ha : a.size ≤ 140737488355328) (hb : b.size ≤ 140737488355328) : ∃ (t : ByteArray) (c : Int), Alike2 14 15 #[.string a, .string b] (.tuple #[.string t, .int .i64 c]) :=
  ⟨_, _, fun w => union_any a b w ha hb, fun w => runion_any a b w ha hb⟩
theorem est_both (s : ByteArray) (hs : s.size ≤ 140737488355328) : ∃ (v : Nat) (c : Int), Alike2 8 16 #[.string s] (.tuple #[.int .u64 v, .int .i64 c]) := by
  by_cases h : exOk s
  · exact ⟨_, _, fun w => est_yes s w h, fun w => below_same (rest_yes s w h)⟩
  · exact ⟨0, 4, fun w => below_same (est_no s w hs h), fun w => below_same (rest_no s w hs h)⟩
theorem exp_both (s : ByteArray) (hs : s.size ≤ 140737488355328) : ∃ (v : Nat) (c : Int), Alike2 12 17 #[.string s] (.tuple #[.int .i64 v, .int .i64 c]) :=
  ⟨_, _, fun w => below_same (exp_any s w hs), fun w => below_same (rexp_any s w hs)⟩
theorem new_both (P : Int) : ∃ (t : ByteArray) (c : Int), Alike2 7 18 #[.int .i64 P] (.tuple #[.string t, .int .i64 c]) := by
  by_cases h : P < 4 ∨ 16 < P
  · exact ⟨_, _, fun w => below_same (new_no P w h), fun w => below_same (rnew_no P w h)⟩
  · obtain ⟨p, rfl⟩ : ∃ p : Nat, P = (p : Int) := ⟨P.toNat, by omega⟩
    exact ⟨_, _, fun w => new_yes p w (by omega) (by omega), fun w => rnew_yes p w (by omega) (by omega)⟩
theorem hash_both (seed x : Nat) (hs : seed < 18446744073709551616) (hx : x < 18446744073709551616) : ∃ v : Nat, (∀ w : World, Calls Try.prog 10 #[.int .u64 seed, .int .u64 x] w fun e w' => e = .returned (.int .u64 v) ∧ w = w') ∧ ∀ w : World, Calls Try.prog 19 #[.int .u64 seed, .int .u64 x] w fun e w' => e = .returned (.int .u64 v) ∧ w = w' :=
  ⟨_, fun w => hash_any seed x w hs hx, fun w => rhash_any seed x w hs hx⟩

set_option maxRecDepth 100000 in
set_option maxHeartbeats 2000000 in
theorem told_any (a b : ByteArray) (seed x : Nat) (P : Int) (w : World) (ha : a.size ≤ 140737488355328) (hb : b.size ≤ 140737488355328) (hsd : seed < 18446744073709551616) (hx : x < 18446744073709551616) :
    Calls Try.prog 4 #[.string a, .string b, .agg #[.int .u64 seed, .int .u64 x, .int .i64 P]] w fun e w' => e = .returned (.bool true) ∧ Below w.heap.size w w' := by
  have hB := Blk.new w 24 #[.int .u64 seed, .int .u64 x, .int .i64 P]
  have hB0 : Hid (Below w.heap.size w (w.alloc (.cells #[.int .u64 seed, .int .u64 x, .int .i64 P] 24))) := (Below.refl _ _).alloc (Nat.le_refl _) _
  obtain ⟨t1, c1, h1⟩ := add_both a x ha hx
  obtain ⟨t2, c2, h2⟩ := union_both a b ha hb
  obtain ⟨t3, c3, h3⟩ := est_both a ha
  obtain ⟨t4, c4, h4⟩ := exp_both b hb
  obtain ⟨t5, c5, h5⟩ := new_both P
  obtain ⟨t6, h6⟩ := hash_both seed x hsd hx
  have HS := Lib.hid (And.intro hB (And.intro h1 (And.intro h2 (And.intro h3 (And.intro h4 (And.intro h5 h6))))))
  clear hB h1 h2 h3 h4 h5 h6
  go_enter Try.func4, Try.ntmps4
  go_upto_region 1 with fail
  obtain ⟨w1, hw1⟩ : ∃ w1, w1 = w.alloc (.cells #[.int .u64 seed, .int .u64 x, .int .i64 P] 24) := ⟨_, rfl⟩
  obtain ⟨g, hg⟩ : ∃ g, g = w.heap.size := ⟨_, rfl⟩
  have H1 : Hid (Below w.heap.size w w1 ∧ Blk w1 g 24 #[.int .u64 seed, .int .u64 x, .int .i64 P] ∧ g < w1.heap.size) := by
    rw [hw1, hg]; exact ⟨hB0.out, HS.out.1, HS.out.1.lt⟩
  rw [← hw1, ← hg]
  clear hw1 hg hB0
  have hcell : Hid (∀ w', Below w1.heap.size w1 w' → w'.cell? ⟨g, 0, none⟩ = some (.int .u64 seed) ∧ w'.cell? ⟨g, 1, none⟩ = some (.int .u64 x) ∧ w'.cell? ⟨g, 2, none⟩ = some (.int .i64 P)) := by
    intro w' hb
    have := H1.out.2.1.below hb H1.out.2.2
    exact ⟨by rw [this.cell 0]; rfl, by rw [this.cell 1]; rfl, by rw [this.cell 2]; rfl⟩
  have H2 : Hid (Below w1.heap.size w1 w1) := Below.refl _ _
  obtain ⟨x0, x1, x2⟩ := hcell.out _ H2.out
  go_wp2_with fail
  refine (HS.out.2.1.1 _).mono ?_
  rintro e w2 ⟨rfl, hb⟩
  have H3 := Lib.hid hb
  clear hb x0 x1 x2
  obtain ⟨x0, x1, x2⟩ := hcell.out _ H3.out
  go_wp2_with fail
  refine (HS.out.2.1.2 _).mono ?_
  rintro e w3 ⟨rfl, hb⟩
  have H4 := Lib.hid (below_step H3.out hb)
  clear hb x0 x1 x2
  go_wp2_with fail
  refine (HS.out.2.2.1.1 _).mono ?_
  rintro e w4 ⟨rfl, hb⟩
  have H5 := Lib.hid (below_step H4.out hb)
  clear hb
  go_wp2_with fail
  refine (HS.out.2.2.1.2 _).mono ?_
  rintro e w5 ⟨rfl, hb⟩
  have H6 := Lib.hid (below_step H5.out hb)
  clear hb
  go_wp2_with fail
  refine (HS.out.2.2.2.1.1 _).mono ?_
  rintro e w6 ⟨rfl, hb⟩
  have H7 := Lib.hid (below_step H6.out hb)
  clear hb
  go_wp2_with fail
  refine (HS.out.2.2.2.1.2 _).mono ?_
  rintro e w7 ⟨rfl, hb⟩
  have H8 := Lib.hid (below_step H7.out hb)
  clear hb
  go_wp2_with fail
  refine (HS.out.2.2.2.2.1.1 _).mono ?_
  rintro e w8 ⟨rfl, hb⟩
  have H9 := Lib.hid (below_step H8.out hb)
  clear hb
  go_wp2_with fail
  refine (HS.out.2.2.2.2.1.2 _).mono ?_
  rintro e w9 ⟨rfl, hb⟩
  have H10 := Lib.hid (below_step H9.out hb)
  clear hb
  obtain ⟨x0, x1, x2⟩ := hcell.out _ H10.out
  go_wp2_with fail
  refine (HS.out.2.2.2.2.2.1.1 _).mono ?_
  rintro e w10 ⟨rfl, hb⟩
  have H11 := Lib.hid (below_step H10.out hb)
  clear hb x0 x1 x2
  obtain ⟨x0, x1, x2⟩ := hcell.out _ H11.out
  go_wp2_with fail
  refine (HS.out.2.2.2.2.2.1.2 _).mono ?_
  rintro e w11 ⟨rfl, hb⟩
  have H12 := Lib.hid (below_step H11.out hb)
  clear hb x0 x1 x2
  obtain ⟨x0, x1, x2⟩ := hcell.out _ H12.out
  go_upto_region 11 with fail
  simp only [List.append_eq, List.cons_append, List.nil_append]
  go_region_held3 (fun w' => w'.cell? ⟨g, 0, none⟩ = some (.int .u64 seed) ∧ w'.cell? ⟨g, 1, none⟩ = some (.int .u64 x)) (first | exact ⟨x0, x1⟩ | exact K1.out)
    (first
      | (go_at_call 10; refine (HS.out.2.2.2.2.2.2.1 _).mono ?_; rintro e w' ⟨rfl, rfl⟩)
      | (go_at_call 19; refine (HS.out.2.2.2.2.2.2.2 _).mono ?_; rintro e w' ⟨rfl, rfl⟩)
      | (go_at_call 11; refine (awake_any _).mono ?_; rintro e wx ⟨rfl, hb⟩; have K0 : Hid (Below w1.heap.size w1 wx) := (by first | exact below_step H12.out.drew hb | exact below_step H12.out hb); have K1 : Hid (wx.cell? ⟨g, 0, none⟩ = some (.int .u64 seed) ∧ wx.cell? ⟨g, 1, none⟩ = some (.int .u64 x)) := ⟨(hcell.out _ K0.out).1, (hcell.out _ K0.out).2.1⟩; clear hb))
  all_goals
    go_wp2_with fail
    go_ret
    exact ⟨rfl, by first | exact H1.out.1.trans (K0.out.mono H1.out.1.size) | exact H1.out.1.trans (K0.out.drew.mono H1.out.1.size)⟩
end Go.Proofs.Ytbkadfocjmpieaa
