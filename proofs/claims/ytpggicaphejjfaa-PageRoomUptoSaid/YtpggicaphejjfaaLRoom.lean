/-
  The law PageRoom: plain parts.
-/
import Derived.Test.YtpggicaphejjfaaPRm
import Derived.Test.YtpggicaphejjfaaPRCheck
set_option linter.unusedVariables false
namespace Go.Proofs.Ytpggicaphejjfaa
open Go.RowKit

theorem getD_snoc_lt' {l : List ByteArray} {x : ByteArray} {i : Nat} (h : i < l.length) : (l ++ [x]).getD i ⟨#[]⟩ = l.getD i ⟨#[]⟩ := by
  simp [List.getD, List.getElem?_append_left h]
theorem getD_snoc_eq {l : List ByteArray} {x : ByteArray} : (l ++ [x]).getD l.length ⟨#[]⟩ = x := by
  simp [List.getD]
theorem keysP_snoc {l : List ByteArray} {x : ByteArray} (h : KeysP l) (h1 : 1 ≤ x.size) (h2 : x.size ≤ 64) (h3 : 0 < l.length → Op.bytesLess (l.getD (l.length - 1) ⟨#[]⟩).toList x.toList = true) : KeysP (l ++ [x]) := by
  intro i hi
  rw [List.length_append] at hi
  simp at hi
  unfold kOk
  rcases Nat.lt_or_ge i l.length with q | q
  · rw [getD_snoc_lt' q]
    obtain ⟨a, b, c⟩ := h i q
    refine ⟨a, b, fun h0 => ?_⟩
    rw [getD_snoc_lt' (by omega)]
    exact c h0
  · have : i = l.length := by omega
    subst this
    rw [getD_snoc_eq]
    refine ⟨fun e => ?_, h2, fun h0 => ?_⟩
    · rw [toList_data_nil] at e; omega
    · rw [getD_snoc_lt' (by omega)]
      exact h3 h0
where
  toList_data_nil {x : ByteArray} : x.toList = [] ↔ x.size = 0 := toList_nil
theorem room_check {n : Nd} {z : Nat} (hz : 512 ≤ z) (hl : n.leaf = false) (hk : KeysP n.keys) (hv : n.vals.length = 0) (hu : n.kids.length = n.keys.length + 1) (ho : n.kids.length ≤ orderN z) (h0 : ∀ j, j < n.kids.length → n.kids.getD j 0 ≠ 0) : CheckN n z := by
  refine ⟨⟨hk, ?_⟩, fun h => (by rw [hl] at h; cases h), fun _ => ⟨hv, hu, ho, fun ⟨j, hj, e⟩ => h0 j hj e⟩⟩
  have h1 := szs_bound n.keys 1 64 (k := n.keys.length) (fun i hi => (hk i hi).2.1)
  unfold bytesN
  rw [hl]
  simp only [Bool.false_eq_true, if_false]
  unfold orderN at ho
  omega
def nl3 (t1 t2 t3 : ByteArray) : Nd := ⟨true, [⟨#[97]⟩, ⟨#[98]⟩, ⟨#[99]⟩], [t1, t2, t3], []⟩
theorem keys_abc : KeysP [⟨#[97]⟩, ⟨#[98]⟩, ⟨#[99]⟩] := by
  intro i hi
  simp at hi
  rcases (show i = 0 ∨ i = 1 ∨ i = 2 by omega) with rfl | rfl | rfl
  · exact ⟨by decide +kernel, by decide, fun h => absurd h (by decide)⟩
  · exact ⟨by decide +kernel, by decide, fun _ => by decide +kernel⟩
  · exact ⟨by decide +kernel, by decide, fun _ => by decide +kernel⟩
theorem leaf_check {t1 t2 t3 : ByteArray} {z q : Nat} (hz : 512 ≤ z) (hz2 : z ≤ 4096) (h1 : t1.size = q) (h2 : t2.size = q) (h3 : t3.size = q) (hq : q + 4 ≤ mostN z) : CheckN (nl3 t1 t2 t3) z := by
  unfold mostN at hq
  refine ⟨⟨keys_abc, ?_⟩, fun _ => ⟨rfl, rfl, fun i hi => ?_⟩, fun h => by cases h⟩
  · show 3 + (0 + (1 + 3) + (1 + 3) + (1 + 3)) + (0 + (t1.size + 0) + (t2.size + 0) + (t3.size + 0)) ≤ z
    omega
  · have : i < 3 := hi
    unfold eOk mostN
    rcases (show i = 0 ∨ i = 1 ∨ i = 2 by omega) with rfl | rfl | rfl
    · show t1.size ≤ 4095 ∧ 3 + 1 + t1.size ≤ _; omega
    · show t2.size ≤ 4095 ∧ 3 + 1 + t2.size ≤ _; omega
    · show t3.size ≤ 4095 ∧ 3 + 1 + t3.size ≤ _; omega
theorem big_check {t : ByteArray} {z : Nat} (h : t.size = mostN z - 3) (hz : 512 ≤ z) : ¬ CheckN ⟨true, [⟨#[97]⟩], [t], []⟩ z := fun hc => by
  have h1 := ((hc.2.1 rfl).2.2 0 (by simp)).2
  have h2 : 3 + 1 + t.size ≤ mostN z := h1
  unfold mostN at h h2
  omega
end Go.Proofs.Ytpggicaphejjfaa
