/-
  The reference's number; a row of bytes as a text.
-/
import Derived.Test.YtpggicaphejjfaaPEnc
import Derived.Laws.IdiomStrings
import Derived.Laws.BytesString
import Derived.IntWalk
import Derived.StillTailTactics
set_option linter.unusedVariables false
set_option linter.unusedSimpArgs false
namespace Go.Proofs.Ytpggicaphejjfaa
open Go.RowKit

theorem run_textB {w : World} {v : Value} {l : List UInt8} {n B : Nat} (hn : n = l.length) (h : w.ownsRow B 5 1 v n (Lib.byteCells l)) :
    (convert 43 9 v).run Try.prog w = .ok (.string ⟨l.toArray⟩) w := by
  subst hn
  rcases Nat.eq_zero_or_pos l.length with h0 | h0
  · have hbn : l = [] := List.eq_nil_of_length_eq_zero h0
    subst hbn
    rcases h.2 with ⟨rfl, _⟩ | ⟨g, cap, cur, rfl, _⟩
    · rw [run_convert_bytes_string w 43 9 5 none 0 0 Try.underlying43 Try.underlying5 Try.underlying9]
      simp [Conv.bytesToString]
      rfl
    · exact run_convert_bytes_back w 43 9 5 ⟨g, 0, none⟩ cap [] Try.underlying43 Try.underlying5 Try.underlying9 (fun j hj => by simp at hj)
  · obtain ⟨g, cap, rfl, _, _⟩ := World.ownsRow.form h h0
    exact run_convert_bytes_back (P := Try.prog) w 43 9 5 ⟨g, 0, none⟩ cap l Try.underlying43 Try.underlying5 Try.underlying9 (fun j hj => by
      have hc := World.ownsRow.cellAt h j (by omega)
      rw [show (Lib.byteCells l)[j]? = some (Value.int .u8 (l[j].toNat : Nat)) by simp [Lib.byteCells, hj]] at hc
      have ha : (⟨g, 0, none⟩ : Addr).add j = ⟨g, j, none⟩ := by unfold Addr.add; split <;> simp_all
      rw [ha, hc])

set_option maxRecDepth 100000 in
set_option maxHeartbeats 2000000 in
theorem number1_any (v : Nat) (w : World) (hv : v < 4294967296) : Calls Try.prog 33 #[.int .u32 v, .int .i64 1] w fun e w' => e = .returned (.string ⟨(be 1 v).toArray⟩) ∧ Below w.heap.size w w' := by
  obtain ⟨i0, hi, hq⟩ := Option.map_eq_some_iff.1 info5'
  have hz0 : i0.zero = some (.int .u8 0) := (Prod.mk.inj hq).1
  have hz1 : i0.size = 1 := (Prod.mk.inj (Prod.mk.inj hq).2).1
  have hz2 : i0.bytes = 1 := (Prod.mk.inj (Prod.mk.inj hq).2).2
  clear hq
  go_enter Try.func33, Try.ntmps33
  go_wp2_with (refine wpList_make_full _ rfl (.tmp 7) (.tmp 7) 43 rfl w.heap.size 5 i0 (.int .u8 0) 1 Try.underlying43 hi hz0 hz1 .i64 .i64 _ _ 1 rfl rfl rfl rfl ?m1 ?m2 ?m3 ?_)
  case m1 => rw [hz2]; omega
  case m2 => unfold maxLen; omega
  case m3 => exact Nat.le_refl _
  intro w1 hown1 hgrow1
  have hbel1 : Below w.heap.size w w1 := (Below.refl _ w).grown hgrow1 (Nat.le_refl _) (by simp)
  rw [toList_madeCells_one] at hown1
  have HW := Lib.hid (And.intro hown1 hbel1)
  clear hown1 hbel1 hgrow1
  go_wp2_with fail
  go_loopg [6] 1 (fun g i wr => ∃ k : Nat, k + g = 1 ∧ i = .int .i64 k ∧ wr.ownsRow w.heap.size 5 1 (.slice (some ⟨w.heap.size, 0, none⟩) 1 1) 1 (((be4 v).drop 3).take k ++ List.replicate (1 - k) (.int .u8 0)) ∧ Below w.heap.size w wr)
  case atStart => exact ⟨0, by omega, rfl, HW.out.1, HW.out.2⟩
  case round =>
    obtain ⟨k, hk, rfl, hown, hbel⟩ := hrel
    have HO := Lib.hid (And.intro hown hbel)
    by_cases hlt : k < 1
    · rcases (show k = 0 by omega) with rfl
      all_goals simp only [be4, List.drop, List.take, List.nil_append, List.replicate, List.cons_append, Nat.reduceSub] at hown
      · have hx := hown.cellAt 0 (by decide)
        have hfx := hown.frozenAt 0
        have hset := (HO.out.1.stored 0 (.int .u8 ((v : Int) % 256))).1
        have hbel2 := HO.out.2.setCell (p := ⟨w.heap.size, 0, none⟩) (Nat.le_refl _) (.int .u8 ((v : Int) % 256))
        have HS := Lib.hid (And.intro hset hbel2)
        simp at hx
        clear hset hbel2 hown hbel
        go_wp2_with fail
        go_roundg (gk - 1)
        case measure => omega
        case rel => exact ⟨0 + 1, by omega, by go_num, HS.out.1, HS.out.2⟩
    · obtain rfl : k = 1 := by omega
      have hown2 : wr.ownsRow w.heap.size 5 1 (.slice (some ⟨w.heap.size, 0, none⟩) 1 1) 1 (Lib.byteCells (be 1 v)) := by
        rw [← be_cells1 hv]; exact hown
      have hcv := run_textB (w := wr) (by rw [length_be]) hown2
      clear hown hbel hown2
      go_wp2_with fail
      go_ret
      exact ⟨rfl, HO.out.2⟩

set_option maxRecDepth 100000 in
set_option maxHeartbeats 2000000 in
theorem number2_any (v : Nat) (w : World) (hv : v < 4294967296) : Calls Try.prog 33 #[.int .u32 v, .int .i64 2] w fun e w' => e = .returned (.string ⟨(be 2 v).toArray⟩) ∧ Below w.heap.size w w' := by
  obtain ⟨i0, hi, hq⟩ := Option.map_eq_some_iff.1 info5'
  have hz0 : i0.zero = some (.int .u8 0) := (Prod.mk.inj hq).1
  have hz1 : i0.size = 1 := (Prod.mk.inj (Prod.mk.inj hq).2).1
  have hz2 : i0.bytes = 1 := (Prod.mk.inj (Prod.mk.inj hq).2).2
  clear hq
  go_enter Try.func33, Try.ntmps33
  go_wp2_with (refine wpList_make_full _ rfl (.tmp 7) (.tmp 7) 43 rfl w.heap.size 5 i0 (.int .u8 0) 1 Try.underlying43 hi hz0 hz1 .i64 .i64 _ _ 2 rfl rfl rfl rfl ?m1 ?m2 ?m3 ?_)
  case m1 => rw [hz2]; omega
  case m2 => unfold maxLen; omega
  case m3 => exact Nat.le_refl _
  intro w1 hown1 hgrow1
  have hbel1 : Below w.heap.size w w1 := (Below.refl _ w).grown hgrow1 (Nat.le_refl _) (by simp)
  rw [toList_madeCells_one] at hown1
  have HW := Lib.hid (And.intro hown1 hbel1)
  clear hown1 hbel1 hgrow1
  go_wp2_with fail
  go_loopg [6] 2 (fun g i wr => ∃ k : Nat, k + g = 2 ∧ i = .int .i64 k ∧ wr.ownsRow w.heap.size 5 1 (.slice (some ⟨w.heap.size, 0, none⟩) 2 2) 2 (((be4 v).drop 2).take k ++ List.replicate (2 - k) (.int .u8 0)) ∧ Below w.heap.size w wr)
  case atStart => exact ⟨0, by omega, rfl, HW.out.1, HW.out.2⟩
  case round =>
    obtain ⟨k, hk, rfl, hown, hbel⟩ := hrel
    have HO := Lib.hid (And.intro hown hbel)
    by_cases hlt : k < 2
    · rcases (show k = 0 ∨ k = 1 by omega) with rfl | rfl
      all_goals simp only [be4, List.drop, List.take, List.nil_append, List.replicate, List.cons_append, Nat.reduceSub] at hown
      · have hx := hown.cellAt 0 (by decide)
        have hfx := hown.frozenAt 0
        have hset := (HO.out.1.stored 0 (.int .u8 ((v : Int) / 256 % 256))).1
        have hbel2 := HO.out.2.setCell (p := ⟨w.heap.size, 0, none⟩) (Nat.le_refl _) (.int .u8 ((v : Int) / 256 % 256))
        have HS := Lib.hid (And.intro hset hbel2)
        simp at hx
        clear hset hbel2 hown hbel
        go_wp2_with fail
        go_roundg (gk - 1)
        case measure => omega
        case rel => exact ⟨0 + 1, by omega, by go_num, HS.out.1, HS.out.2⟩
      · have hx := hown.cellAt 1 (by decide)
        have hfx := hown.frozenAt 1
        have hset := (HO.out.1.stored 1 (.int .u8 ((v : Int) % 256))).1
        have hbel2 := HO.out.2.setCell (p := ⟨w.heap.size, 1, none⟩) (Nat.le_refl _) (.int .u8 ((v : Int) % 256))
        have HS := Lib.hid (And.intro hset hbel2)
        simp at hx
        clear hset hbel2 hown hbel
        go_wp2_with fail
        go_roundg (gk - 1)
        case measure => omega
        case rel => exact ⟨1 + 1, by omega, by go_num, HS.out.1, HS.out.2⟩
    · obtain rfl : k = 2 := by omega
      have hown2 : wr.ownsRow w.heap.size 5 1 (.slice (some ⟨w.heap.size, 0, none⟩) 2 2) 2 (Lib.byteCells (be 2 v)) := by
        rw [← be_cells2 hv]; exact hown
      have hcv := run_textB (w := wr) (by rw [length_be]) hown2
      clear hown hbel hown2
      go_wp2_with fail
      go_ret
      exact ⟨rfl, HO.out.2⟩

set_option maxRecDepth 100000 in
set_option maxHeartbeats 2000000 in
theorem number4_any (v : Nat) (w : World) (hv : v < 4294967296) : Calls Try.prog 33 #[.int .u32 v, .int .i64 4] w fun e w' => e = .returned (.string ⟨(be 4 v).toArray⟩) ∧ Below w.heap.size w w' := by
  obtain ⟨i0, hi, hq⟩ := Option.map_eq_some_iff.1 info5'
  have hz0 : i0.zero = some (.int .u8 0) := (Prod.mk.inj hq).1
  have hz1 : i0.size = 1 := (Prod.mk.inj (Prod.mk.inj hq).2).1
  have hz2 : i0.bytes = 1 := (Prod.mk.inj (Prod.mk.inj hq).2).2
  clear hq
  go_enter Try.func33, Try.ntmps33
  go_wp2_with (refine wpList_make_full _ rfl (.tmp 7) (.tmp 7) 43 rfl w.heap.size 5 i0 (.int .u8 0) 1 Try.underlying43 hi hz0 hz1 .i64 .i64 _ _ 4 rfl rfl rfl rfl ?m1 ?m2 ?m3 ?_)
  case m1 => rw [hz2]; omega
  case m2 => unfold maxLen; omega
  case m3 => exact Nat.le_refl _
  intro w1 hown1 hgrow1
  have hbel1 : Below w.heap.size w w1 := (Below.refl _ w).grown hgrow1 (Nat.le_refl _) (by simp)
  rw [toList_madeCells_one] at hown1
  have HW := Lib.hid (And.intro hown1 hbel1)
  clear hown1 hbel1 hgrow1
  go_wp2_with fail
  go_loopg [6] 4 (fun g i wr => ∃ k : Nat, k + g = 4 ∧ i = .int .i64 k ∧ wr.ownsRow w.heap.size 5 1 (.slice (some ⟨w.heap.size, 0, none⟩) 4 4) 4 (((be4 v).drop 0).take k ++ List.replicate (4 - k) (.int .u8 0)) ∧ Below w.heap.size w wr)
  case atStart => exact ⟨0, by omega, rfl, HW.out.1, HW.out.2⟩
  case round =>
    obtain ⟨k, hk, rfl, hown, hbel⟩ := hrel
    have HO := Lib.hid (And.intro hown hbel)
    by_cases hlt : k < 4
    · rcases (show k = 0 ∨ k = 1 ∨ k = 2 ∨ k = 3 by omega) with rfl | rfl | rfl | rfl
      all_goals simp only [be4, List.drop, List.take, List.nil_append, List.replicate, List.cons_append, Nat.reduceSub] at hown
      · have hx := hown.cellAt 0 (by decide)
        have hfx := hown.frozenAt 0
        have hset := (HO.out.1.stored 0 (.int .u8 ((v : Int) / 16777216))).1
        have hbel2 := HO.out.2.setCell (p := ⟨w.heap.size, 0, none⟩) (Nat.le_refl _) (.int .u8 ((v : Int) / 16777216))
        have HS := Lib.hid (And.intro hset hbel2)
        simp at hx
        clear hset hbel2 hown hbel
        go_wp2_with fail
        go_roundg (gk - 1)
        case measure => omega
        case rel => exact ⟨0 + 1, by omega, by go_num, HS.out.1, HS.out.2⟩
      · have hx := hown.cellAt 1 (by decide)
        have hfx := hown.frozenAt 1
        have hset := (HO.out.1.stored 1 (.int .u8 ((v : Int) / 65536 % 256))).1
        have hbel2 := HO.out.2.setCell (p := ⟨w.heap.size, 1, none⟩) (Nat.le_refl _) (.int .u8 ((v : Int) / 65536 % 256))
        have HS := Lib.hid (And.intro hset hbel2)
        simp at hx
        clear hset hbel2 hown hbel
        go_wp2_with fail
        go_roundg (gk - 1)
        case measure => omega
        case rel => exact ⟨1 + 1, by omega, by go_num, HS.out.1, HS.out.2⟩
      · have hx := hown.cellAt 2 (by decide)
        have hfx := hown.frozenAt 2
        have hset := (HO.out.1.stored 2 (.int .u8 ((v : Int) / 256 % 256))).1
        have hbel2 := HO.out.2.setCell (p := ⟨w.heap.size, 2, none⟩) (Nat.le_refl _) (.int .u8 ((v : Int) / 256 % 256))
        have HS := Lib.hid (And.intro hset hbel2)
        simp at hx
        clear hset hbel2 hown hbel
        go_wp2_with fail
        go_roundg (gk - 1)
        case measure => omega
        case rel => exact ⟨2 + 1, by omega, by go_num, HS.out.1, HS.out.2⟩
      · have hx := hown.cellAt 3 (by decide)
        have hfx := hown.frozenAt 3
        have hset := (HO.out.1.stored 3 (.int .u8 ((v : Int) % 256))).1
        have hbel2 := HO.out.2.setCell (p := ⟨w.heap.size, 3, none⟩) (Nat.le_refl _) (.int .u8 ((v : Int) % 256))
        have HS := Lib.hid (And.intro hset hbel2)
        simp at hx
        clear hset hbel2 hown hbel
        go_wp2_with fail
        go_roundg (gk - 1)
        case measure => omega
        case rel => exact ⟨3 + 1, by omega, by go_num, HS.out.1, HS.out.2⟩
    · obtain rfl : k = 4 := by omega
      have hown2 : wr.ownsRow w.heap.size 5 1 (.slice (some ⟨w.heap.size, 0, none⟩) 4 4) 4 (Lib.byteCells (be 4 v)) := by
        rw [← be_cells4 hv]; exact hown
      have hcv := run_textB (w := wr) (by rw [length_be]) hown2
      clear hown hbel hown2
      go_wp2_with fail
      go_ret
      exact ⟨rfl, HO.out.2⟩
end Go.Proofs.Ytpggicaphejjfaa
