/-
  Bytes and texts.
-/
import Derived.Test.YtbkadfocjmpieaaSBits
import Derived.Laws.IdiomStrings
import Derived.Laws.BytesString
import Derived.OwnWalk
import Derived.Deep.LoopGhost
import Derived.Deep.CutBlock
import Derived.StillTailTactics
set_option linter.unusedVariables false
namespace Go.Proofs.Ytbkadfocjmpieaa
open Go.RowKit

def u8s (xs : List Nat) : List Value := xs.map fun (x : Nat) => .int .u8 x
theorem length_u8s (xs : List Nat) : (u8s xs).length = xs.length := by simp [u8s]
theorem u8s_append (xs ys : List Nat) : u8s (xs ++ ys) = u8s xs ++ u8s ys := by simp [u8s]
theorem u8s_get {xs : List Nat} {k : Nat} (hk : k < xs.length) : (u8s xs)[k]? = some (.int .u8 (xs.getD k 0 : Nat)) := by
  simp [u8s, List.getD, List.getElem?_eq_getElem hk]
theorem u8s_set (xs : List Nat) (k y : Nat) : (u8s xs).set k (.int .u8 y) = u8s (xs.set k y) := by
  simp [u8s, List.map_set]

def sN (s : ByteArray) : List Nat := s.data.toList.map (·.toNat)
theorem length_sN (s : ByteArray) : (sN s).length = s.size := by simp [sN]
theorem sN_lt (s : ByteArray) (k : Nat) : (sN s).getD k 0 < 256 := by
  unfold sN
  simp only [List.getD, List.getElem?_map]
  cases s.data.toList[k]? with
  | none => simp
  | some v => simpa using v.toNat_lt
theorem sN_get (s : ByteArray) (i : Nat) (h : i < s.size) : (sN s)[i]'(by rw [length_sN]; exact h) = s[i].toNat := by
  simp [sN]; rfl
/-- bytes as a string -/
def strOf (b : List Nat) : ByteArray := ⟨(b.map UInt8.ofNat).toArray⟩
theorem run_text {w : World} {v : Value} {b : List Nat} {n : Nat} (hn : n = b.length) (h : w.ownsRow 0 5 1 v n (u8s b)) (hb : ∀ k, b.getD k 0 < 256) :
    (convert 42 9 v).run Try.prog w = .ok (.string (strOf b)) w := by
  subst hn
  rcases Nat.eq_zero_or_pos b.length with h0 | h0
  · have hbn : b = [] := List.eq_nil_of_length_eq_zero h0
    subst hbn
    rcases h.2 with ⟨rfl, _⟩ | ⟨g, cap, cur, rfl, _⟩
    · rw [run_convert_bytes_string w 42 9 5 none 0 0 Try.underlying42 Try.underlying5 Try.underlying9]
      simp [Conv.bytesToString]
      rfl
    · exact run_convert_bytes_back w 42 9 5 ⟨g, 0, none⟩ cap [] Try.underlying42 Try.underlying5 Try.underlying9 (fun j hj => by simp at hj)
  · obtain ⟨g, cap, rfl, _, _⟩ := World.ownsRow.form h h0
    have hr := run_convert_bytes_back (P := Try.prog) w 42 9 5 ⟨g, 0, none⟩ cap (b.map UInt8.ofNat) Try.underlying42 Try.underlying5 Try.underlying9 (fun j hj => by
      have hj2 : j < b.length := by simpa using hj
      have hc := World.ownsRow.cellAt h j (by omega)
      rw [u8s_get hj2] at hc
      have ha : (⟨g, 0, none⟩ : Addr).add j = ⟨g, j, none⟩ := by unfold Addr.add; split <;> simp_all
      rw [ha, hc]
      have hk := hb j
      have e : b.getD j 0 = b[j] := by simp [List.getD, List.getElem?_eq_getElem hj2]
      rw [e] at hk ⊢
      simp only [List.getElem_map]
      congr 2
      rw [UInt8.toNat_ofNat']
      have : b[j] % 2 ^ 8 = b[j] := Nat.mod_eq_of_lt (by simpa using hk)
      rw [this])
    rw [List.length_map] at hr
    exact hr

set_option maxHeartbeats 400000 in
theorem sN_strOf (b : List Nat) (hb : ∀ k, b.getD k 0 < 256) : sN (strOf b) = b := by
  unfold sN strOf
  simp only [List.map_map]
  refine List.ext_getElem (by simp) fun k h1 h2 => ?_
  simp only [List.getElem_map, Function.comp]
  have hk := hb k
  rw [List.getD, List.getElem?_eq_getElem h2] at hk
  simp only [Option.getD_some] at hk
  rw [UInt8.toNat_ofNat']
  exact Nat.mod_eq_of_lt (by simpa using hk)
theorem size_strOf (b : List Nat) : (strOf b).size = b.length := by simp [strOf, ByteArray.size]
theorem strOf_sN (s : ByteArray) : strOf (sN s) = s := by
  obtain ⟨⟨l⟩⟩ := s
  unfold strOf sN
  simp
  have : (UInt8.ofNat ∘ fun (x : UInt8) => x.toNat) = id := by funext x; simp
  rw [this, List.map_id]
theorem sN_inj {s t : ByteArray} (h : sN s = sN t) : s = t := by rw [← strOf_sN s, h, strOf_sN]
end Go.Proofs.Ytbkadfocjmpieaa
