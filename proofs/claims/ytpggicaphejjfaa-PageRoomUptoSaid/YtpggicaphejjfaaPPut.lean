/-
  Encode's put: a number's last bytes into the builder.
-/
import Derived.Test.YtpggicaphejjfaaPWriteS
set_option linter.unusedVariables false
namespace Go.Proofs.Ytpggicaphejjfaa
open Go.RowKit

/-- a number's four bytes, the greatest first -/
def be4 (v : Nat) : List Value := [.int .u8 ((v : Int) / 16777216), .int .u8 ((v : Int) / 65536 % 256), .int .u8 ((v : Int) / 256 % 256), .int .u8 ((v : Int) % 256)]
theorem isBuilder_alloc {B b : Nat} {bs : List Value} {w : World} (h : Lib.IsBuilder 56 5 B b bs w) (o : Obj) : Lib.IsBuilder 56 5 B b bs (w.alloc o) ∧ b < w.heap.size := by
  rcases h with ⟨h1, v, hb, ho, hn⟩ | ⟨h1, v, hb, ho, hn⟩
  · have hbk : Blk w b 56 #[.pointer none, v] := hb
    exact ⟨.inl ⟨h1, v, hbk.alloc o, ho.alloc o, hn⟩, hbk.lt⟩
  · have hbk : Blk w b 56 #[.pointer (some ⟨b, 0, none⟩), v] := hb
    exact ⟨.inr ⟨h1, v, hbk.alloc o, ho.alloc o, hn⟩, hbk.lt⟩

set_option maxRecDepth 100000 in
set_option maxHeartbeats 1000000 in
theorem put4_any (B b : Nat) (bs : List Value) (v : Nat) (w : World) (h : Lib.IsBuilder 56 5 B b bs w) (hv : v < 4294967296) (hB : B ≤ w.heap.size) (hT : bs.length + 4 ≤ 1000000) :
    Calls Try.prog 27 #[.int .i64 v, .int .i64 4, .pointer (some ⟨b, 0, none⟩)] w fun e w' => e = .returned (.tuple #[]) ∧ Lib.IsBuilder 56 5 B b (bs ++ (be4 v).drop 0) w' ∧ Below B w w' := by
  have hbx := Blk.new w 58 (be4 v).toArray
  obtain ⟨hB1, hlt⟩ := isBuilder_alloc h (.cells (be4 v).toArray 58)
  have hbel : Below B w (w.alloc (.cells (be4 v).toArray 58)) := (Below.refl B w).alloc hB _
  have hsrc : Src (w.alloc (.cells (be4 v).toArray 58)) (some ⟨w.heap.size, 0, none⟩) ((be4 v).drop 0) := fun j u hu => by
    refine ⟨_, rfl, ?_⟩
    rw [List.getElem?_drop] at hu
    rw [Addr.add_lit, hbx.cell]
    simpa using hu
  have hwr := write_any B b bs ((be4 v).drop 0) (some ⟨w.heap.size, 0, none⟩) 4 4 (w.alloc (.cells (be4 v).toArray 58)) hB1 (by rfl) hsrc (by intro u hu; simp [be4] at hu; rcases hu with rfl | rfl | rfl | rfl <;> rfl) (fun p hp => by cases hp; show w.heap.size ≠ b; omega) (Nat.le_trans hB (by simp)) (by omega)
  have HW := Lib.hid (And.intro hwr hbel)
  clear h hbx hB1 hlt hbel hsrc hwr
  unfold be4 at HW
  unfold be4
  go_enter Try.func27, Try.ntmps27
  go_wp2_with fail
  refine HW.out.1.mono ?_
  rintro e w2 ⟨⟨r, rfl⟩, hb2, hbel2⟩
  have H2 := Lib.hid (And.intro hb2 (HW.out.2.trans hbel2))
  clear hb2 hbel2
  go_wp2_with fail
  go_end0
  exact ⟨rfl, H2.out.1, H2.out.2⟩

set_option maxRecDepth 100000 in
set_option maxHeartbeats 1000000 in
theorem put2_any (B b : Nat) (bs : List Value) (v : Nat) (w : World) (h : Lib.IsBuilder 56 5 B b bs w) (hv : v < 4294967296) (hB : B ≤ w.heap.size) (hT : bs.length + 4 ≤ 1000000) :
    Calls Try.prog 27 #[.int .i64 v, .int .i64 2, .pointer (some ⟨b, 0, none⟩)] w fun e w' => e = .returned (.tuple #[]) ∧ Lib.IsBuilder 56 5 B b (bs ++ (be4 v).drop 2) w' ∧ Below B w w' := by
  have hbx := Blk.new w 58 (be4 v).toArray
  obtain ⟨hB1, hlt⟩ := isBuilder_alloc h (.cells (be4 v).toArray 58)
  have hbel : Below B w (w.alloc (.cells (be4 v).toArray 58)) := (Below.refl B w).alloc hB _
  have hsrc : Src (w.alloc (.cells (be4 v).toArray 58)) (some ⟨w.heap.size, 2, none⟩) ((be4 v).drop 2) := fun j u hu => by
    refine ⟨_, rfl, ?_⟩
    rw [List.getElem?_drop] at hu
    rw [Addr.add_lit, hbx.cell]
    simpa using hu
  have hwr := write_any B b bs ((be4 v).drop 2) (some ⟨w.heap.size, 2, none⟩) 2 2 (w.alloc (.cells (be4 v).toArray 58)) hB1 (by rfl) hsrc (by intro u hu; simp [be4] at hu; rcases hu with rfl | rfl <;> rfl) (fun p hp => by cases hp; show w.heap.size ≠ b; omega) (Nat.le_trans hB (by simp)) (by omega)
  have HW := Lib.hid (And.intro hwr hbel)
  clear h hbx hB1 hlt hbel hsrc hwr
  unfold be4 at HW
  unfold be4
  go_enter Try.func27, Try.ntmps27
  go_wp2_with fail
  refine HW.out.1.mono ?_
  rintro e w2 ⟨⟨r, rfl⟩, hb2, hbel2⟩
  have H2 := Lib.hid (And.intro hb2 (HW.out.2.trans hbel2))
  clear hb2 hbel2
  go_wp2_with fail
  go_end0
  exact ⟨rfl, H2.out.1, H2.out.2⟩

set_option maxRecDepth 100000 in
set_option maxHeartbeats 1000000 in
theorem put1_any (B b : Nat) (bs : List Value) (v : Nat) (w : World) (h : Lib.IsBuilder 56 5 B b bs w) (hv : v < 4294967296) (hB : B ≤ w.heap.size) (hT : bs.length + 4 ≤ 1000000) :
    Calls Try.prog 27 #[.int .i64 v, .int .i64 1, .pointer (some ⟨b, 0, none⟩)] w fun e w' => e = .returned (.tuple #[]) ∧ Lib.IsBuilder 56 5 B b (bs ++ (be4 v).drop 3) w' ∧ Below B w w' := by
  have hbx := Blk.new w 58 (be4 v).toArray
  obtain ⟨hB1, hlt⟩ := isBuilder_alloc h (.cells (be4 v).toArray 58)
  have hbel : Below B w (w.alloc (.cells (be4 v).toArray 58)) := (Below.refl B w).alloc hB _
  have hsrc : Src (w.alloc (.cells (be4 v).toArray 58)) (some ⟨w.heap.size, 3, none⟩) ((be4 v).drop 3) := fun j u hu => by
    refine ⟨_, rfl, ?_⟩
    rw [List.getElem?_drop] at hu
    rw [Addr.add_lit, hbx.cell]
    simpa using hu
  have hwr := write_any B b bs ((be4 v).drop 3) (some ⟨w.heap.size, 3, none⟩) 1 1 (w.alloc (.cells (be4 v).toArray 58)) hB1 (by rfl) hsrc (by intro u hu; simp [be4] at hu; subst hu; rfl) (fun p hp => by cases hp; show w.heap.size ≠ b; omega) (Nat.le_trans hB (by simp)) (by omega)
  have HW := Lib.hid (And.intro hwr hbel)
  clear h hbx hB1 hlt hbel hsrc hwr
  unfold be4 at HW
  unfold be4
  go_enter Try.func27, Try.ntmps27
  go_wp2_with fail
  refine HW.out.1.mono ?_
  rintro e w2 ⟨⟨r, rfl⟩, hb2, hbel2⟩
  have H2 := Lib.hid (And.intro hb2 (HW.out.2.trans hbel2))
  clear hb2 hbel2
  go_wp2_with fail
  go_end0
  exact ⟨rfl, H2.out.1, H2.out.2⟩
end Go.Proofs.Ytpggicaphejjfaa
