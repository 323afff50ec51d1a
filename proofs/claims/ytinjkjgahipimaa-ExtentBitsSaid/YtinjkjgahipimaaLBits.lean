/-
  ExtentBits: the law's walk.
-/
import Derived.Test.YtinjkjgahipimaaEFrom2
set_option linter.unusedVariables false
namespace Go.Proofs.Ytinjkjgahipimaa
open Go.RowKit

theorem Mp.belowAll {w w' : World} {h : Nat} {S : Nat → Prop} {s : St} (m : Mp w h S s) (hb : Below w.heap.size w w') : Mp w' h S s := m.below hb

set_option maxRecDepth 100000 in
set_option maxHeartbeats 2000000 in
/-- both refuse -/
theorem lbits_no (f n : Int) (s : ByteArray) (c : Int) (w : World)
    (h1 : ∀ w : World, Calls Try.prog 9 #[.int .i64 f, .int .i64 n, .string s] w fun e w' => e = .returned (.tuple #[.pointer none, .int .i64 c]) ∧ Below w.heap.size w w')
    (h2 : ∀ w : World, Calls Try.prog 10 #[.int .i64 f, .int .i64 n, .string s] w fun e w' => e = .returned (.tuple #[.pointer none, .int .i64 c]) ∧ Below w.heap.size w w') :
    Calls Try.prog 3 #[.int .i64 f, .int .i64 n, .string s] w fun e w' => e = .returned (.bool true) ∧ Below w.heap.size w w' := by
  have HC := Lib.hid (And.intro h1 h2)
  clear h1 h2
  go_enter Try.func3, Try.ntmps3
  go_wp2_with fail
  refine (HC.out.1 _).mono ?_
  rintro e w1 ⟨rfl, hb⟩
  have H1 := Lib.hid hb
  clear hb
  go_wp2_with fail
  refine (HC.out.2 _).mono ?_
  rintro e w2 ⟨rfl, hb⟩
  have H2 := Lib.hid (below_step H1.out hb)
  clear hb
  go_wp2_with fail
  go_ret
  exact ⟨rfl, H2.out⟩

set_option maxRecDepth 100000 in
set_option maxHeartbeats 2000000 in
theorem lbits_yes (f n : Nat) (s : ByteArray) (w : World) (h1 : f ≤ n) (h2 : n ≤ 4096) (ok : fbOk f n s) :
    Calls Try.prog 3 #[.int .i64 f, .int .i64 n, .string s] w fun e w' => e = .returned (.bool true) ∧ Below w.heap.size w w' := by
  have HC := Lib.hid (And.intro (fun w => rfrom_any f n s w h1 h2 ok.1) (And.intro (fun w => from_any f n s w h1 h2 ok.1) ok))
  clear ok
  go_enter Try.func3, Try.ntmps3
  go_wp2_with fail
  refine (HC.out.1 _).mono ?_
  rintro e w1 hp
  obtain ⟨hr, Sr, rfl, hm, hb, _⟩ := hp.1 HC.out.2.2
  have H1 := Lib.hid (And.intro hm hb)
  clear hb hm hp
  go_wp2_with fail
  refine (HC.out.2.1 _).mono ?_
  rintro e w2 hp
  obtain ⟨hm, Sm, rfl, hmm, hb, _⟩ := hp.1 HC.out.2.2
  have H2 := Lib.hid (And.intro hmm (And.intro (H1.out.1.below hb) (below_step H1.out.2 hb)))
  clear hb hmm hp
  go_wp2_with fail
  refine (told_any hm hr Sm Sr (fbSt s f n n) w2 H2.out.1 H2.out.2.1 (fbSt_ok h1 h2)).mono ?_
  rintro e w3 ⟨rfl, hb⟩
  have H3 := Lib.hid (And.intro (H2.out.1.below hb) (below_step H2.out.2.2 hb))
  clear hb
  go_wp2_with fail
  refine (bits_any hm Sm (fbSt s f n n) w3 H3.out.1 (fbSt_ok h1 h2)).mono ?_
  rintro e w4 ⟨rfl, hb⟩
  have hbt : bitsT (fbSt s f n n).f (fbSt s f n n).l = s := HC.out.2.2.2
  rw [hbt]
  have H4 := Lib.hid (below_step H3.out.2 hb)
  clear hb hbt
  go_wp2_with fail
  go_ret
  exact ⟨rfl, H4.out⟩

theorem lbits_any (f n : Int) (s : ByteArray) (w : World) (hs : s.size ≤ 140737488355328) :
    Calls Try.prog 3 #[.int .i64 f, .int .i64 n, .string s] w fun e w' => e = .returned (.bool true) ∧ Below w.heap.size w w' := by
  by_cases h : f < 0 ∨ n < f ∨ 4096 < n
  · exact lbits_no f n s 1 w (fun w => (rfrom_no f n s w h).mono fun e w' ⟨he, hw⟩ => ⟨he, by rw [← hw]; exact Below.refl _ _⟩) (fun w => (from_no f n s w h).mono fun e w' ⟨he, hw⟩ => ⟨he, by rw [← hw]; exact Below.refl _ _⟩)
  · obtain ⟨F, rfl⟩ : ∃ F : Nat, f = (F : Int) := ⟨f.toNat, by omega⟩
    obtain ⟨N, rfl⟩ : ∃ N : Nat, n = (N : Int) := ⟨n.toNat, by omega⟩
    have h1 : F ≤ N := by omega
    have h2 : N ≤ 4096 := by omega
    by_cases hz : s.size = (N + 7) / 8
    · by_cases ok : fbOk F N s
      · exact lbits_yes F N s w h1 h2 ok
      · exact lbits_no F N s 4 w (fun w => (rfrom_any F N s w h1 h2 hz).mono fun e w' hp => hp.2 ok) (fun w => (from_any F N s w h1 h2 hz).mono fun e w' hp => hp.2 ok)
    · exact lbits_no F N s 4 w (fun w => rfrom_size F N s w h1 h2 hs hz) (fun w => from_size F N s w h1 h2 hs hz)
end Go.Proofs.Ytinjkjgahipimaa
