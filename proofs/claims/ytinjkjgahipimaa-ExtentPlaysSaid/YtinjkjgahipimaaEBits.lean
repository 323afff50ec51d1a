/-
  A map's bits; a new map.
-/
import Derived.Test.YtinjkjgahipimaaEBase
import Derived.Laws.BitsAllLaws
import Derived.Deep.RegionHeld3
set_option linter.unusedVariables false
namespace Go.Proofs.Ytinjkjgahipimaa
open Go.RowKit

/-- bytes as a string -/
def strOf (b : List Nat) : ByteArray := ⟨(b.map UInt8.ofNat).toArray⟩
theorem run_text {w : World} {v : Value} {b : List Nat} {n : Nat} (hn : n = b.length) (h : w.ownsRow 0 5 1 v n (u8s b)) (hb : ∀ k, b.getD k 0 < 256) :
    (convert 69 9 v).run Try.prog w = .ok (.string (strOf b)) w := by
  subst hn
  rcases Nat.eq_zero_or_pos b.length with h0 | h0
  · have hbn : b = [] := List.eq_nil_of_length_eq_zero h0
    subst hbn
    rcases h.2 with ⟨rfl, _⟩ | ⟨g, cap, cur, rfl, _⟩
    · rw [run_convert_bytes_string w 69 9 5 none 0 0 Try.underlying69 Try.underlying5 Try.underlying9]
      simp [Conv.bytesToString]
      rfl
    · exact run_convert_bytes_back w 69 9 5 ⟨g, 0, none⟩ cap [] Try.underlying69 Try.underlying5 Try.underlying9 (fun j hj => by simp at hj)
  · obtain ⟨g, cap, rfl, _, _⟩ := World.ownsRow.form h h0
    have hr := run_convert_bytes_back (P := Try.prog) w 69 9 5 ⟨g, 0, none⟩ cap (b.map UInt8.ofNat) Try.underlying69 Try.underlying5 Try.underlying9 (fun j hj => by
      have hj2 : j < b.length := by simpa using hj
      have hc := World.ownsRow.cellAt h j (by omega)
      rw [u8s_get hj2] at hc
      have ha : (⟨g, 0, none⟩ : Addr).add j = ⟨g, j, none⟩ := by unfold Addr.add; split <;> simp_all
      rw [ha, hc]
      have hk := hb j
      have e : b.getD j 0 = b[j] := by simp [List.getD, List.getElem?_eq_getElem hj2]
      rw [e] at hk ⊢
      simp only [List.getElem_map]
      congr 2
      rw [UInt8.toNat_ofNat']
      have : b[j] % 2 ^ 8 = b[j] := Nat.mod_eq_of_lt (by simpa using hk)
      rw [this])
    rw [List.length_map] at hr
    exact hr

/-- a block's bit in its byte -/
def bm (n : Nat) : Nat := 2 ^ (7 - n % 8)
theorem bm_lt (n : Nat) : bm n < 256 := by
  unfold bm
  have h : 2 ^ (7 - n % 8) ≤ 2 ^ 7 := Nat.pow_le_pow_right (by decide) (by omega)
  have e : (2 : Nat) ^ 7 = 128 := by decide
  omega
def btS (b : List Nat) (i : Nat) : List Nat := b.set (i / 8) (b.getD (i / 8) 0 ||| bm i)
/-- the bytes behind k blocks -/
def btK (f : Nat) (l : List Nat) : Nat → List Nat
  | 0 => List.replicate ((l.length + 7) / 8) 0
  | k + 1 => if k < f ∨ l.getD k 0 = 1 then btS (btK f l k) k else btK f l k
theorem length_btS (b : List Nat) (i : Nat) : (btS b i).length = b.length := by unfold btS; simp
theorem length_btK (f : Nat) (l : List Nat) : ∀ k, (btK f l k).length = (l.length + 7) / 8
  | 0 => by unfold btK; simp
  | k + 1 => by unfold btK; split <;> simp [length_btS, length_btK f l k]
theorem or_lt (a b : Nat) (ha : a < 256) (hb : b < 256) : a ||| b < 256 := Nat.or_lt_two_pow (n := 8) ha hb
theorem btK_lt (f : Nat) (l : List Nat) : ∀ k i, (btK f l k).getD i 0 < 256
  | 0, i => by
    unfold btK
    rw [List.getD, List.getElem?_replicate]
    split <;> simp
  | k + 1, i => by
    have ih := btK_lt f l k
    unfold btK
    split
    · unfold btS
      rw [List.getD, List.getElem?_set]
      split
      · split
        · exact or_lt _ _ (ih _) (bm_lt _)
        · decide
      · exact ih i
    · exact ih i
def bitsT (f : Nat) (l : List Nat) : ByteArray := strOf (btK f l l.length)

theorem wrap8 (t : Nat) (ht : t ≤ 7) : (2 : Int) ^ t % 256 = ((2 ^ t : Nat) : Int) := by
  have h : 2 ^ t ≤ 2 ^ 7 := Nat.pow_le_pow_right (by decide) ht
  have e : (2 : Nat) ^ 7 = 128 := by decide
  have h2 : (2 : Int) ^ t = ((2 ^ t : Nat) : Int) := by rw [Int.natCast_pow]; rfl
  rw [h2]
  generalize 2 ^ t = y at *
  omega
theorem mask_any (n : Nat) (w : World) (hn : n ≤ 9223372036854775807) : Calls Try.prog 34 #[.int .i64 n] w fun e w' => e = .returned (.int .u8 (bm n : Nat)) ∧ w = w' := by
  obtain ⟨r, hr⟩ : ∃ r, r = n % 8 := ⟨_, rfl⟩
  have h1 : (n : Int) % 8 = (r : Int) := by omega
  obtain ⟨t, ht⟩ : ∃ t, t = 7 - r := ⟨_, rfl⟩
  have h2 : (7 : Int) - (r : Int) = (t : Int) := by omega
  have h3 := wrap8 t (by omega)
  have hb : bm n = 2 ^ t := by unfold bm; rw [ht, hr]
  have HB := Lib.hid hb
  have ht7 : t ≤ 7 := by omega
  clear hb hr ht
  obtain ⟨P, hP⟩ : ∃ P, P = 2 ^ t := ⟨_, rfl⟩
  rw [← hP] at h3 HB
  clear hP
  go_enter Try.func34, Try.ntmps34
  go_wp2_with fail
  go_ret
  refine ⟨?_, rfl⟩
  rw [HB.out, ← h3]
  rfl

set_option maxRecDepth 100000 in
set_option maxHeartbeats 1000000 in
theorem new_no (f n : Int) (w : World) (h : f < 0 ∨ n < f ∨ 4096 < n) : Calls Try.prog 14 #[.int .i64 f, .int .i64 n] w fun e w' => e = .returned (.tuple #[.pointer none, .int .i64 1]) ∧ w = w' := by
  by_cases h1 : f < 0
  · clear h
    go_enter Try.func14, Try.ntmps14
    go_wp2_with fail
    go_ret2
    exact ⟨rfl, rfl⟩
  · by_cases h2 : n < f
    · clear h
      go_enter Try.func14, Try.ntmps14
      go_wp2_with fail
      go_ret2
      exact ⟨rfl, rfl⟩
    · have h3 : 4096 < n := by omega
      clear h
      go_enter Try.func14, Try.ntmps14
      go_wp2_with fail
      go_ret2
      exact ⟨rfl, rfl⟩
set_option maxRecDepth 100000 in
set_option maxHeartbeats 1000000 in
theorem rnew_no (f n : Int) (w : World) (h : f < 0 ∨ n < f ∨ 4096 < n) : Calls Try.prog 28 #[.int .i64 f, .int .i64 n] w fun e w' => e = .returned (.tuple #[.pointer none, .int .i64 1]) ∧ w = w' := by
  by_cases h1 : f < 0
  · clear h
    go_enter Try.func28, Try.ntmps28
    go_wp2_with fail
    go_ret2
    exact ⟨rfl, rfl⟩
  · by_cases h2 : n < f
    · clear h
      go_enter Try.func28, Try.ntmps28
      go_wp2_with fail
      go_ret2
      exact ⟨rfl, rfl⟩
    · have h3 : 4096 < n := by omega
      clear h
      go_enter Try.func28, Try.ntmps28
      go_wp2_with fail
      go_ret2
      exact ⟨rfl, rfl⟩

/-- all of it free -/
def newSt (f n : Nat) : St := ⟨f, List.replicate n 0, false, []⟩
theorem newSt_ok {f n : Nat} (h1 : f ≤ n) (h2 : n ≤ 4096) : (newSt f n).Ok := ⟨by simp [newSt]; exact h1, by simp [newSt]; exact h2, fun i => by
  simp only [newSt, List.getD, List.getElem?_replicate]
  split <;> simp, (fun h => by cases h), (fun h => by cases h)⟩

set_option maxRecDepth 100000 in
set_option maxHeartbeats 1000000 in
theorem new_yes (f n : Nat) (w : World) (h1 : f ≤ n) (h2 : n ≤ 4096) : Calls Try.prog 14 #[.int .i64 f, .int .i64 n] w fun e w' =>
    ∃ (h : Nat) (S : Nat → Prop), e = .returned (.tuple #[.pointer (some ⟨h, 0, none⟩), .int .i64 0]) ∧ Mp w' h S (newSt f n) ∧ Below w.heap.size w w' ∧ ∀ k, S k → w.heap.size ≤ k := by
  obtain ⟨i0, hi, hz0, hz1, hz2⟩ := info_parts info65
  go_enter Try.func14, Try.ntmps14
  go_wp2_with (refine wpList_make_full _ rfl (.tmp 18) (.tmp 18) 66 rfl w.heap.size 65 i0 (.int .u8 0) 1 Try.underlying66 hi hz0 hz1 .i64 .i64 _ _ n rfl rfl rfl rfl ?m1 ?m2 ?m3 ?_)
  case m1 => rw [hz2]; omega
  case m2 => unfold maxLen; omega
  case m3 => exact Nat.le_refl _
  intro w1 hown1 hgrow1
  have hbel1 : Below w.heap.size w w1 := (Below.refl _ w).grown hgrow1 (Nat.le_refl _) (by simp)
  rw [toList_madeCells_one, u8s_replicate] at hown1
  have hlt := own_lt hown1 w.heap.size rfl
  have H1 := Lib.hid (And.intro hown1 (And.intro hbel1 hlt))
  clear hown1 hbel1 hgrow1 hlt
  go_wp2_with fail
  go_ret2
  refine ⟨w1.heap.size, fun k => k = w1.heap.size ∨ k = w.heap.size, rfl, ?_, H1.out.2.1.alloc H1.out.2.1.size _, ?_⟩
  · refine ⟨some ⟨w.heap.size, 0, none⟩, none, n, 0, [], ?_, ?_, World.ownsRow_nil _ _ _ _, ⟨(fun h => by cases h), Nat.zero_le _⟩, (fun k _ => by simp [Value.ownBlock]), fun k => ?_⟩
    · have := Blk.new w1 68 #[.int .i64 f, .slice (some ⟨w.heap.size, 0, none⟩) n n, .slice none 0 0, .bool false]
      simpa [newSt] using this
    · have := own_base (H1.out.1.alloc (.cells #[.int .i64 f, .slice (some ⟨w.heap.size, 0, none⟩) n n, .slice none 0 0, .bool false] 68))
      simpa [newSt] using this
    · simp [Value.ownBlock, eq_comm]
  · rintro k (rfl | rfl)
    · exact H1.out.2.1.size
    · exact Nat.le_refl _
set_option maxRecDepth 100000 in
set_option maxHeartbeats 1000000 in
theorem rnew_yes (f n : Nat) (w : World) (h1 : f ≤ n) (h2 : n ≤ 4096) : Calls Try.prog 28 #[.int .i64 f, .int .i64 n] w fun e w' =>
    ∃ (h : Nat) (S : Nat → Prop), e = .returned (.tuple #[.pointer (some ⟨h, 0, none⟩), .int .i64 0]) ∧ Rm w' h S (newSt f n) ∧ Below w.heap.size w w' ∧ ∀ k, S k → w.heap.size ≤ k := by
  obtain ⟨i0, hi, hz0, hz1, hz2⟩ := info_parts info3
  go_enter Try.func28, Try.ntmps28
  go_wp2_with (refine wpList_make_full _ rfl (.tmp 19) (.tmp 19) 55 rfl w.heap.size 3 i0 (.int .i64 0) 1 Try.underlying55 hi hz0 hz1 .i64 .i64 _ _ n rfl rfl rfl rfl ?m1 ?m2 ?m3 ?_)
  case m1 => rw [hz2]; omega
  case m2 => unfold maxLen; omega
  case m3 => exact Nat.le_refl _
  intro w1 hown1 hgrow1
  have hbel1 : Below w.heap.size w w1 := (Below.refl _ w).grown hgrow1 (Nat.le_refl _) (by simp)
  rw [toList_madeCells_one, i64s_replicate] at hown1
  have hlt := own_lt hown1 w.heap.size rfl
  have H1 := Lib.hid (And.intro hown1 (And.intro hbel1 hlt))
  clear hown1 hbel1 hgrow1 hlt
  go_wp2_with fail
  go_ret2
  refine ⟨w1.heap.size, fun k => k = w1.heap.size ∨ k = w.heap.size, rfl, ?_, H1.out.2.1.alloc H1.out.2.1.size _, ?_⟩
  · refine ⟨some ⟨w.heap.size, 0, none⟩, none, n, 0, [], ?_, ?_, World.ownsRow_nil _ _ _ _, ⟨(fun h => by cases h), Nat.zero_le _⟩, .inl (fun k _ => by simp [Value.ownBlock]), fun k => ?_⟩
    · have := Blk.new w1 63 #[.int .i64 f, .int .i64 n, .slice (some ⟨w.heap.size, 0, none⟩) n n, .slice none 0 0, .bool false]
      simpa [newSt] using this
    · have := own_base (H1.out.1.alloc (.cells #[.int .i64 f, .int .i64 n, .slice (some ⟨w.heap.size, 0, none⟩) n n, .slice none 0 0, .bool false] 63))
      simpa [newSt] using this
    · simp [Value.ownBlock, eq_comm]
  · rintro k (rfl | rfl)
    · exact H1.out.2.1.size
    · exact Nat.le_refl _
end Go.Proofs.Ytinjkjgahipimaa
