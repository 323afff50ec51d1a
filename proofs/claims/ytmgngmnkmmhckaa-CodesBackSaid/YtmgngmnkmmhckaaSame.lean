/-
  Two lists that are the same; what was packed is unpacked.
-/
import Derived.Test.YtmgngmnkmmhckaaRefUnpack
set_option linter.unusedVariables false
namespace Go.Proofs.Ytmgngmnkmmhckaa
open Go.RowKit Plain

theorem SlU.own {w : World} {b : Nat} {A : Option Addr} {c n : Nat} {l : List Nat} (h : w.ownsRow b 35 1 (.slice A n c) n (u64s l)) : SlU w A l := by
  intro i hi
  exact Src.own h i _ (by unfold u64s; rw [List.getElem?_map, List.getElem?_eq_getElem hi]; simp [List.getD, List.getElem?_eq_getElem hi])
theorem SlU.src {w : World} {A : Option Addr} {l : List Nat} (h : SlU w A l) : Src w A (u64s l) := by
  intro j u hu
  have hj : j < l.length := by have := (List.getElem?_eq_some_iff.1 hu).1; rw [length_u64s] at this; exact this
  obtain ⟨a, ha, hc⟩ := h j hj
  refine ⟨a, ha, ?_⟩
  rw [hc]
  unfold u64s at hu
  rw [List.getElem?_map, List.getElem?_eq_getElem hj] at hu
  simp at hu
  rw [← hu]
  simp [List.getD, List.getElem?_eq_getElem hj]
theorem SlU.append {w : World} {A : Option Addr} {l m : List Nat} (h : SlU w A (l ++ m)) : SlU w A l := by
  intro i hi
  obtain ⟨a, ha, hc⟩ := h i (by rw [List.length_append]; omega)
  refine ⟨a, ha, ?_⟩
  rw [hc]
  simp [List.getD, List.getElem?_append_left hi]
theorem SlU.drewN {w : World} {A : Option Addr} {l : List Nat} (h : SlU w A l) (k : Nat) : SlU (w.drewN k) A l := h

set_option maxRecDepth 100000 in
theorem same_any (A B : Option Addr) (c d n m : Nat) (l : List Nat) (w : World) (hn : n = l.length) (hm : m = l.length) (hl : l.length ≤ 9223372036854775807) (hA : SlU w A l) (hB : SlU w B l) :
    Calls Try.prog 35 #[.slice A n c, .slice B m d] w fun e w' => e = .returned (.bool true) ∧ ∃ k, w.drewN k = w' := by
  subst hn
  subst hm
  have HA := Lib.hid (And.intro hA hB)
  clear hA hB
  go_enter Try.func35, Try.ntmps35
  go_wp2_with fail
  go_loopg [5] l.length (fun g i wr => ∃ k r : Nat, k + g = l.length ∧ i = .int .i64 k ∧ wr = w.drewN r)
  case atStart => exact ⟨0, 0, by omega, rfl, rfl⟩
  case round =>
    obtain ⟨k, r, hk, rfl, rfl⟩ := hrel
    by_cases hlt : k < l.length
    · obtain ⟨a, rfl, ca⟩ := HA.out.1 k hlt
      obtain ⟨b, rfl, cb⟩ := HA.out.2 k hlt
      have ca' : (w.drewN r).cell? (a.add k) = some (.int .u64 (l.getD k 0 : Nat)) := ca
      have cb' : (w.drewN r).cell? (b.add k) = some (.int .u64 (l.getD k 0 : Nat)) := cb
      clear ca cb
      obtain ⟨v, hv⟩ : ∃ v, v = l.getD k 0 := ⟨_, rfl⟩
      rw [← hv] at ca' cb'
      clear hv
      obtain ⟨wx, hwx⟩ : ∃ wx, wx = w.drewN r := ⟨_, rfl⟩
      rw [← hwx] at ca' cb' ⊢
      have Hwx := Lib.hid hwx
      clear hwx
      go_wp2_with fail
      go_quiet (fail)
      go_wp2_with fail
      go_roundg (gk - 1)
      case measure => omega
      case rel => exact ⟨k + 1, _, by omega, by go_num, by rw [Hwx.out, World.drewN_drewN]⟩
    · go_wp2_with fail
      go_ret
      exact ⟨rfl, _, rfl⟩

theorem unL_get (B : List Bool) (n k i : Nat) (h : i < (unL B n k).length) : (unL B n k)[i] = num ((B.drop (i * n)).take n) := by simp [unL]
/-! what was packed is unpacked -/
theorem packBits_split (l : List Nat) (m i : Nat) (h : i < l.length) : packBits l m = packBits (l.take i) m ++ (bitsOf (l.getD i 0) m ++ packBits (l.drop (i + 1)) m) := by
  have e : l = l.take i ++ (l.getD i 0 :: l.drop (i + 1)) := by
    rw [List.getD, List.getElem?_eq_getElem h]
    simp
  conv => lhs; rw [e]
  simp [packBits]
theorem size_packS (l : List Nat) (n : Int) : (packS l n).size ≤ 16777216 := by
  unfold packS
  by_cases h : packOk l n = true
  · rw [if_pos h]
    unfold packOk at h
    simp at h
    obtain ⟨⟨⟨h1, h2⟩, h3⟩, _⟩ := h
    rw [size_text, length_packBits]
    have := (Nat.le_div_iff_mul_le (by omega : 0 < n.toNat)).1 h3
    omega
  · rw [if_neg h]; decide
theorem pack_back {l : List Nat} {n : Int} (h : packOk l n = true) : unC (packS l n) n l.length = 0 ∧ unOut (packS l n) n l.length = l := by
  have hS := (pack_yes h).1
  unfold packOk at h
  simp at h
  obtain ⟨⟨⟨h1, h2⟩, h3⟩, h4⟩ := h
  have hlen := length_packBits l n.toNat
  have hz : num ((bitsS (packS l n)).drop (n.toNat * ((l.length : Int)).toNat)) = 0 := by
    rw [hS, bitsS_strOf, Int.toNat_natCast, Nat.mul_comm, ← hlen, List.drop_left' rfl, num_zeros]
  have hsz : (packS l n).size = (n.toNat * ((l.length : Int)).toNat + 7) / 8 := by rw [hS, size_text, hlen, Int.toNat_natCast, Nat.mul_comm]
  obtain ⟨q1, q2⟩ := un_ok (s := packS l n) (n := n) (c := l.length) (by omega) ⟨by rw [Int.toNat_natCast]; exact h3, hsz⟩ hz
  refine ⟨q1, ?_⟩
  rw [q2, Int.toNat_natCast]
  apply List.ext_getElem
  · exact length_unL _ _ _
  · intro i hi hi2
    rw [unL_get, hS, bitsS_strOf, packBits_split l n.toNat i hi2, List.append_assoc, List.append_assoc]
    rw [take_mid (packBits (l.take i) n.toNat) (bitsOf (l.getD i 0) n.toNat) _ n.toNat (i * n.toNat) (by rw [length_packBits, List.length_take]; congr 1; omega) (by rw [length_bitsOf]), num_bitsOf]
    have := h4 (l[i]) (List.getElem_mem hi2)
    rw [List.getD, List.getElem?_eq_getElem hi2]
    exact Nat.mod_eq_of_lt this
end Go.Proofs.Ytmgngmnkmmhckaa
