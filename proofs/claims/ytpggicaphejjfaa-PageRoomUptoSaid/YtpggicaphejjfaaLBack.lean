/-
  The law PageBack: its walk.
-/
import Derived.Test.YtpggicaphejjfaaPDecode2
import Derived.Test.YtpggicaphejjfaaPKept
set_option linter.unusedVariables false
namespace Go.Proofs.Ytpggicaphejjfaa
open Go.RowKit

def RoomB (n : Nd) : Prop := (n.keys.length + 1) * 16 ≤ 140737488355328 ∧ (n.vals.length + 1) * 16 ≤ 140737488355328 ∧ (n.kids.length + 1) * 4 ≤ 140737488355328
theorem enc_one (n : Nd) (m : Nat) : ∃ (s : ByteArray) (v : Int),
    (∀ (A1 A2 A3 : Option Addr) (c1 c2 c3 : Nat) (w : World), NdR w n A1 A2 A3 → Calls Try.prog 9 #[.agg (ndC n A1 A2 A3 c1 c2 c3), .int .i64 m] w fun e w' => e = .returned (.tuple #[.string s, .int .i64 v]) ∧ Below w.heap.size w w') ∧
    ((v = 0 ∧ EncP n m ∧ s = encS n m) ∨ (v = 1 ∧ ¬ EncP n m)) := by
  by_cases h : EncP n m
  · exact ⟨encS n m, 0, fun A1 A2 A3 c1 c2 c3 w hn => encode_yes n A1 A2 A3 c1 c2 c3 m w hn h, .inl ⟨rfl, h, rfl⟩⟩
  · exact ⟨⟨#[]⟩, 1, fun A1 A2 A3 c1 c2 c3 w hn => encode_no n A1 A2 A3 c1 c2 c3 m w hn h, .inr ⟨rfl, h⟩⟩
theorem encS_tail {n : Nd} {m : Nat} (h : CheckN n m) (i : Nat) (h1 : bytesN n ≤ i) (hi : i < (encS n m).size) : (encS n m)[i]'hi = 0 := by
  have hb := length_bodyN h
  have e : (encS n m)[i]'hi = (encN n m)[i]'(by have := hi; simpa [encS, ByteArray.size] using this) := by
    show (encS n m).data[i]'_ = _
    simp [encS]
  rw [e]
  unfold encN
  rw [List.getElem_append_right (by omega)]
  simp
theorem bytes_ge (n : Nd) : 3 ≤ bytesN n := by unfold bytesN; split <;> omega
theorem encP_check {n : Nd} {m : Nat} (h : EncP n m) : CheckN n m ∧ m ≤ 4096 := by
  have := h.2
  rw [encP_toNat] at this
  have h3 := h.1.2.1
  exact ⟨this, by omega⟩
theorem valid_of {n : Nd} {m : Nat} (hu : ∀ i, n.kids.getD i 0 < 4294967296) (h : EncP n m) : ValidN (encS n m) n := by
  have hs := size_encS (encP_check h).1
  exact ⟨hu, by rw [hs]; exact h, by rw [hs]⟩
/-- the size that the laws make of a number -/
theorem size_law (X : Int) (h1 : -9223372036854775808 ≤ X) (h2 : X ≤ 9223372036854775807) : ∃ (a b c d z : Int) (zn : Nat), Int.tmod X 8 = a ∧ a + 8 = b ∧ Int.tmod b 8 = c ∧ b % 8 = c ∧ 1 + c = d ∧ 512 * d = z ∧ -7 ≤ a ∧ a ≤ 7 ∧ 1 ≤ b ∧ b ≤ 15 ∧ 0 ≤ c ∧ c ≤ 7 ∧ 1 ≤ d ∧ d ≤ 8 ∧ z = (zn : Int) ∧ 512 ≤ zn ∧ zn ≤ 4096 ∧ zn % 512 = 0 := by
  have ha : -7 ≤ Int.tmod X 8 ∧ Int.tmod X 8 ≤ 7 := by
    rcases Int.lt_or_le X 0 with h | h
    · have e : Int.tmod X 8 = -(Int.tmod (-X) 8) := by rw [Int.neg_tmod]; omega
      rw [e, Int.tmod_eq_emod_of_nonneg (by omega)]
      omega
    · rw [Int.tmod_eq_emod_of_nonneg h]
      omega
  have hb : Int.tmod (Int.tmod X 8 + 8) 8 = (Int.tmod X 8 + 8) % 8 := Int.tmod_eq_emod_of_nonneg (by omega)
  refine ⟨Int.tmod X 8, Int.tmod X 8 + 8, (Int.tmod X 8 + 8) % 8, 1 + (Int.tmod X 8 + 8) % 8, 512 * (1 + (Int.tmod X 8 + 8) % 8), (512 * (1 + (Int.tmod X 8 + 8) % 8)).toNat, rfl, rfl, hb, rfl, rfl, rfl, ?_⟩
  omega
end Go.Proofs.Ytpggicaphejjfaa
