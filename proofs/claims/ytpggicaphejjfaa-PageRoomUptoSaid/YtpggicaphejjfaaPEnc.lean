/-
  A node's bytes, plain.
-/
import Derived.Test.YtpggicaphejjfaaPPut
import Derived.Test.YtpggicaphejjfaaPCheck
import Derived.Lib.UnsafeStr
import Derived.Lib.Repeat
set_option linter.unusedVariables false
namespace Go.Proofs.Ytpggicaphejjfaa
open Go.RowKit

/-- a number in so many bytes -/
def be : Nat → Nat → List UInt8
  | 0, _ => []
  | k + 1, v => UInt8.ofNat (v / 256 ^ k) :: be k v
theorem length_be (v : Nat) : ∀ k, (be k v).length = k
  | 0 => rfl
  | k + 1 => by simp [be, length_be v k]
def headN (n : Nd) : List UInt8 := (if n.leaf = true then 1 else 2) :: (be 2 n.keys.length ++ if n.leaf = true then [] else be 4 (n.kids.getD 0 0))
def entN (n : Nd) (i : Nat) : List UInt8 :=
  be 1 (n.keys.getD i ⟨#[]⟩).size ++ (if n.leaf = true then be 2 (n.vals.getD i ⟨#[]⟩).size ++ ((n.keys.getD i ⟨#[]⟩).data.toList ++ (n.vals.getD i ⟨#[]⟩).data.toList) else (n.keys.getD i ⟨#[]⟩).data.toList ++ be 4 (n.kids.getD (i + 1) 0))
def entsN (n : Nd) : Nat → List UInt8
  | 0 => []
  | k + 1 => entsN n k ++ entN n k
def bodyN (n : Nd) : List UInt8 := headN n ++ entsN n n.keys.length
/-- the block of a node -/
def encN (n : Nd) (m : Nat) : List UInt8 := bodyN n ++ List.replicate (m - (bodyN n).length) 0
def encS (n : Nd) (m : Nat) : ByteArray := ⟨(encN n m).toArray⟩
theorem length_data (s : ByteArray) : s.data.toList.length = s.size := Array.length_toList

theorem length_headN (n : Nd) : (headN n).length = if n.leaf = true then 3 else 7 := by
  unfold headN
  split <;> simp [length_be]
theorem length_entsN_leaf {n : Nd} (h : n.leaf = true) : ∀ k, (entsN n k).length = szs n.keys 3 k + szs n.vals 0 k
  | 0 => rfl
  | k + 1 => by
    show (entsN n k ++ entN n k).length = (szs n.keys 3 k + ((n.keys.getD k ⟨#[]⟩).size + 3)) + (szs n.vals 0 k + ((n.vals.getD k ⟨#[]⟩).size + 0))
    unfold entN
    simp only [h, if_true, List.length_append, length_be, length_data, length_entsN_leaf h k]
    omega
theorem length_entsN_branch {n : Nd} (h : n.leaf = false) : ∀ k, (entsN n k).length = szs n.keys 1 k + 4 * k
  | 0 => rfl
  | k + 1 => by
    show (entsN n k ++ entN n k).length = (szs n.keys 1 k + ((n.keys.getD k ⟨#[]⟩).size + 1)) + 4 * (k + 1)
    unfold entN
    simp only [h, Bool.false_eq_true, if_false, List.length_append, length_be, length_data, length_entsN_branch h k]
    omega
theorem length_bodyN {n : Nd} {m : Nat} (h : CheckN n m) : (bodyN n).length = bytesN n := by
  unfold bodyN bytesN
  rw [List.length_append, length_headN]
  cases hl : n.leaf with
  | true =>
    have := (h.2.1 hl).1
    simp only [if_true, length_entsN_leaf hl]
    rw [this]
    omega
  | false =>
    have := (h.2.2 hl).2.1
    simp only [Bool.false_eq_true, if_false, length_entsN_branch hl]
    rw [this]
    omega
theorem entsN_le (n : Nd) : ∀ {j k : Nat}, j ≤ k → (entsN n j).length ≤ (entsN n k).length
  | j, 0, h => by have : j = 0 := by omega
                  subst this; exact Nat.le_refl _
  | j, k + 1, h => by
    rcases Nat.eq_or_lt_of_le h with e | e
    · subst e; exact Nat.le_refl _
    · have := entsN_le n (j := j) (k := k) (by omega)
      show _ ≤ (entsN n k ++ entN n k).length
      rw [List.length_append]
      omega
theorem length_encN {n : Nd} {m : Nat} (h : CheckN n m) : (encN n m).length = m := by
  have h1 := length_bodyN h
  have h2 := h.1.2
  unfold encN
  rw [List.length_append, List.length_replicate]
  omega
theorem size_encS {n : Nd} {m : Nat} (h : CheckN n m) : (encS n m).size = m := by
  unfold encS
  simp [ByteArray.size, length_encN h]

/-! the program's numbers -/
theorem be_cells4 {v : Nat} (hv : v < 4294967296) : (be4 v).drop 0 = Lib.byteCells (be 4 v) := by
  simp only [be4, Lib.byteCells, be, List.drop, List.map, UInt8.toNat_ofNat', List.cons.injEq, Value.int.injEq, true_and, and_true, Nat.reducePow, Nat.pow_zero, Nat.div_one]
  omega
theorem be_cells2 {v : Nat} (hv : v < 4294967296) : (be4 v).drop 2 = Lib.byteCells (be 2 v) := by
  simp only [be4, Lib.byteCells, be, List.drop, List.map, UInt8.toNat_ofNat', List.cons.injEq, Value.int.injEq, true_and, and_true, Nat.reducePow, Nat.pow_zero, Nat.div_one]
  omega
theorem be_cells1 {v : Nat} (hv : v < 4294967296) : (be4 v).drop 3 = Lib.byteCells (be 1 v) := by
  simp only [be4, Lib.byteCells, be, List.drop, List.map, UInt8.toNat_ofNat', List.cons.injEq, Value.int.injEq, true_and, and_true, Nat.reducePow, Nat.pow_zero, Nat.div_one]
  omega
theorem put4_b {B b : Nat} (l : List UInt8) (v : Nat) (w : World) (h : Lib.IsBuilder 56 5 B b (Lib.byteCells l) w) (hv : v < 4294967296) (hB : B ≤ w.heap.size) (hT : l.length + 4 ≤ 1000000) :
    Calls Try.prog 27 #[.int .i64 v, .int .i64 4, .pointer (some ⟨b, 0, none⟩)] w fun e w' => e = .returned (.tuple #[]) ∧ Lib.IsBuilder 56 5 B b (Lib.byteCells (l ++ be 4 v)) w' ∧ Below B w w' := by
  have := put4_any B b (Lib.byteCells l) v w h hv hB (by rw [Lib.byteCells_length]; exact hT)
  rw [be_cells4 hv, ← Lib.byteCells_append] at this
  exact this
theorem put2_b {B b : Nat} (l : List UInt8) (v : Nat) (w : World) (h : Lib.IsBuilder 56 5 B b (Lib.byteCells l) w) (hv : v < 4294967296) (hB : B ≤ w.heap.size) (hT : l.length + 4 ≤ 1000000) :
    Calls Try.prog 27 #[.int .i64 v, .int .i64 2, .pointer (some ⟨b, 0, none⟩)] w fun e w' => e = .returned (.tuple #[]) ∧ Lib.IsBuilder 56 5 B b (Lib.byteCells (l ++ be 2 v)) w' ∧ Below B w w' := by
  have := put2_any B b (Lib.byteCells l) v w h hv hB (by rw [Lib.byteCells_length]; exact hT)
  rw [be_cells2 hv, ← Lib.byteCells_append] at this
  exact this
theorem put1_b {B b : Nat} (l : List UInt8) (v : Nat) (w : World) (h : Lib.IsBuilder 56 5 B b (Lib.byteCells l) w) (hv : v < 4294967296) (hB : B ≤ w.heap.size) (hT : l.length + 4 ≤ 1000000) :
    Calls Try.prog 27 #[.int .i64 v, .int .i64 1, .pointer (some ⟨b, 0, none⟩)] w fun e w' => e = .returned (.tuple #[]) ∧ Lib.IsBuilder 56 5 B b (Lib.byteCells (l ++ be 1 v)) w' ∧ Below B w w' := by
  have := put1_any B b (Lib.byteCells l) v w h hv hB (by rw [Lib.byteCells_length]; exact hT)
  rw [be_cells1 hv, ← Lib.byteCells_append] at this
  exact this
theorem writeS_b {B b : Nat} (l : List UInt8) (s : ByteArray) (w : World) (h : Lib.IsBuilder 56 5 B b (Lib.byteCells l) w) (hB : B ≤ w.heap.size) (hT : l.length + s.size ≤ 1000000) :
    Calls Try.prog 29 #[.pointer (some ⟨b, 0, none⟩), .string s] w fun e w' => (∃ v, e = .returned v) ∧ Lib.IsBuilder 56 5 B b (Lib.byteCells (l ++ s.data.toList)) w' ∧ Below B w w' := by
  have := writeS_any B b (Lib.byteCells l) s w h hB (by rw [Lib.byteCells_length]; exact hT)
  rw [Lib.strCells_eq, ← Lib.byteCells_append] at this
  exact this
end Go.Proofs.Ytpggicaphejjfaa
