/-
  The laws' same; awake.
-/
import Derived.Test.YtpggicaphejjfaaPSame
import Derived.Test.YtpggicaphejjfaaPEncode
set_option linter.unusedVariables false
namespace Go.Proofs.Ytpggicaphejjfaa
open Go.RowKit

set_option maxRecDepth 100000 in
set_option maxHeartbeats 1000000 in
theorem same_any (a b : Nd) (A1 A2 A3 B1 B2 B3 : Option Addr) (c1 c2 c3 d1 d2 d3 : Nat) (r : Bool) (w : World) (ha : NdR w a A1 A2 A3) (hb : NdR w b B1 B2 B3) (hr : r = true ↔ a = b) :
    Calls Try.prog 25 #[.agg (ndC a A1 A2 A3 c1 c2 c3), .agg (ndC b B1 B2 B3 d1 d2 d3)] w fun e w' => e = .returned (.bool r) ∧ Below w.heap.size w w' := by
  obtain ⟨w2, hw2⟩ : ∃ w2, w2 = (w.alloc (.cells (ndC a A1 A2 A3 c1 c2 c3) 26)).alloc (.cells (ndC b B1 B2 B3 d1 d2 d3) 25) := ⟨_, rfl⟩
  obtain ⟨bx, hbx⟩ : ∃ bx, bx = w.heap.size := ⟨_, rfl⟩
  obtain ⟨ay, hay⟩ : ∃ ay, ay = w.heap.size + 1 := ⟨_, rfl⟩
  have hsz : (w.alloc (.cells (ndC a A1 A2 A3 c1 c2 c3) 26)).heap.size = w.heap.size + 1 := by simp
  have hB2 : Below w.heap.size w w2 := by rw [hw2]; exact ((Below.refl _ w).alloc (Nat.le_refl _) _).alloc (by simp) _
  have hk1 : Blk w2 bx 26 (ndC a A1 A2 A3 c1 c2 c3) := by rw [hw2, hbx]; exact (Blk.new w 26 _).alloc _
  have hk2 : Blk w2 ay 25 (ndC b B1 B2 B3 d1 d2 d3) := by rw [hw2, hay, ← hsz]; exact Blk.new _ 25 _
  have hc := rsame_any a b A1 A2 A3 B1 B2 B3 c1 c2 c3 d1 d2 d3 r w2 (ha.below hB2) (hb.below hB2) hr
  clear ha hb hr hsz
  unfold ndC at *
  obtain ⟨N1, hN1⟩ : ∃ N, N = a.keys.length := ⟨_, rfl⟩
  obtain ⟨N2, hN2⟩ : ∃ N, N = a.vals.length := ⟨_, rfl⟩
  obtain ⟨N3, hN3⟩ : ∃ N, N = a.kids.length := ⟨_, rfl⟩
  obtain ⟨lf, hlf⟩ : ∃ b, b = a.leaf := ⟨_, rfl⟩
  obtain ⟨M1, hM1⟩ : ∃ N, N = b.keys.length := ⟨_, rfl⟩
  obtain ⟨M2, hM2⟩ : ∃ N, N = b.vals.length := ⟨_, rfl⟩
  obtain ⟨M3, hM3⟩ : ∃ N, N = b.kids.length := ⟨_, rfl⟩
  obtain ⟨lg, hlg⟩ : ∃ q, q = b.leaf := ⟨_, rfl⟩
  rw [← hN1, ← hN2, ← hN3, ← hlf, ← hM1, ← hM2, ← hM3, ← hlg] at hw2 hc ⊢
  rw [← hN1, ← hN2, ← hN3, ← hlf] at hk1
  rw [← hM1, ← hM2, ← hM3, ← hlg] at hk2
  have HW := Lib.hid (And.intro hw2 (And.intro hbx hay))
  have HC := Lib.hid (And.intro hc hB2)
  have x0 := hk1.cell 0
  have x1 := hk1.cell 1
  have x2 := hk1.cell 2
  have x3 := hk1.cell 3
  have y0 := hk2.cell 0
  have y1 := hk2.cell 1
  have y2 := hk2.cell 2
  have y3 := hk2.cell 3
  simp at x0 x1 x2 x3 y0 y1 y2 y3
  clear hw2 hbx hay hN1 hN2 hN3 hlf hM1 hM2 hM3 hlg hk1 hk2 hc hB2
  go_enter Try.func25, Try.ntmps25
  go_upto_region 1 with fail
  rw [← HW.out.1, ← HW.out.2.2, ← HW.out.2.1]
  go_wp2_with fail
  refine HC.out.1.mono ?_
  rintro e w3 ⟨rfl, hb⟩
  have H3 := Lib.hid (below_step HC.out.2 hb)
  clear hb
  go_wp2_with fail
  go_ret
  exact ⟨rfl, H3.out⟩

def n0 : Nd := ⟨true, [⟨#[97]⟩], [⟨#[120]⟩], []⟩
theorem strR_one {w : World} {b : Nat} {t : TypeId} {s : ByteArray} (h : Blk w b t #[.string s]) : StrR w (some ⟨b, 0, none⟩) [s] := by
  intro _
  refine ⟨b, 0, rfl, h.lt, fun i hi => ?_⟩
  have : i = 0 := by simpa using hi
  subst this
  exact h.cell 0
theorem szd_one {s : ByteArray} (h : s.size ≤ 140737488355328) : Szd [s] := fun i => by
  rcases i with _ | i
  · exact h
  · show ByteArray.size ⟨#[]⟩ ≤ _
    decide
theorem ndR_n0 {w : World} {b1 b2 : Nat} {t1 t2 : TypeId} (h1 : Blk w b1 t1 #[.string ⟨#[97]⟩]) (h2 : Blk w b2 t2 #[.string ⟨#[120]⟩]) : NdR w n0 (some ⟨b1, 0, none⟩) (some ⟨b2, 0, none⟩) none :=
  { k := strR_one h1, v := strR_one h2, i := fun h => absurd h (by decide), l1 := by decide, l2 := by decide, l3 := by decide
    a1 := fun _ p hp => by cases hp; exact h1.lt
    a2 := fun _ p hp => by cases hp; exact h2.lt
    b := szd_one (by decide), z := szd_one (by decide), u := fun i => by show ([] : List Nat).getD i 0 < _; simp }
theorem enc_n0 : EncP n0 512 := by
  refine ⟨by decide, ⟨⟨?_, by decide⟩, fun _ => ⟨rfl, rfl, ?_⟩, fun h => by cases h⟩⟩
  · intro i hi
    have : i = 0 := by simpa [n0] using hi
    subst this
    exact ⟨by decide +kernel, by decide, fun h => absurd h (by decide)⟩
  · intro i hi
    have : i = 0 := by simpa [n0] using hi
    subst this
    exact ⟨by decide, by decide⟩
theorem n0_size : (encS n0 512).size = 512 := by decide +kernel
theorem n0_front : ((encS n0 512).extract 0 9).toList = [1, 0, 1, 1, 0, 1, 97, 120, 0] := by
  rw [toList_data]
  decide +kernel

set_option maxRecDepth 100000 in
set_option maxHeartbeats 1000000 in
theorem awake_any (w : World) : Calls Try.prog 22 #[] w fun e w' => e = .returned (.bool true) ∧ Below w.heap.size w w' := by
  obtain ⟨w2, hw2⟩ : ∃ w2, w2 = (w.alloc (.cells #[.string ⟨#[97]⟩] 9)).alloc (.cells #[.string ⟨#[120]⟩] 9) := ⟨_, rfl⟩
  obtain ⟨bx, hbx⟩ : ∃ bx, bx = w.heap.size := ⟨_, rfl⟩
  obtain ⟨ay, hay⟩ : ∃ ay, ay = w.heap.size + 1 := ⟨_, rfl⟩
  have hsz : (w.alloc (.cells #[.string ⟨#[97]⟩] 9)).heap.size = w.heap.size + 1 := by simp
  have hB2 : Below w.heap.size w w2 := by rw [hw2]; exact ((Below.refl _ w).alloc (Nat.le_refl _) _).alloc (by simp) _
  have hk1 : Blk w2 bx 9 #[.string ⟨#[97]⟩] := by rw [hw2, hbx]; exact (Blk.new w 9 _).alloc _
  have hk2 : Blk w2 ay 9 #[.string ⟨#[120]⟩] := by rw [hw2, hay, ← hsz]; exact Blk.new _ 9 _
  have hc := encode_yes n0 _ _ none 1 1 0 512 w2 (ndR_n0 hk1 hk2) enc_n0
  rw [show (512 : Int).toNat = 512 from rfl] at hc
  have h1 := n0_size
  have h2 := n0_front
  obtain ⟨s, hs⟩ : ∃ s, s = encS n0 512 := ⟨_, rfl⟩
  rw [← hs] at hc h1 h2
  have HW := Lib.hid (And.intro hw2 (And.intro hbx hay))
  have HC : Hid (Calls Try.prog 9 #[.agg #[.bool true, .slice (some ⟨bx, 0, none⟩) 1 1, .slice (some ⟨ay, 0, none⟩) 1 1, .slice none 0 0], .int .i64 512] w2 (fun e w' => e = .returned (.tuple #[.string s, .int .i64 0]) ∧ Below w2.heap.size w2 w') ∧ Below w.heap.size w w2) := ⟨hc, hB2⟩
  clear hw2 hbx hay hsz hB2 hk1 hk2 hc hs
  go_enter Try.func22, Try.ntmps22
  go_wp2_with fail
  rw [← HW.out.1, ← HW.out.2.2, ← HW.out.2.1]
  refine HC.out.1.mono ?_
  rintro e w3 ⟨rfl, hb⟩
  have H3 := Lib.hid (below_step HC.out.2 hb)
  clear hb
  go_wp2_with fail
  go_ret
  exact ⟨rfl, H3.out⟩
end Go.Proofs.Ytpggicaphejjfaa
