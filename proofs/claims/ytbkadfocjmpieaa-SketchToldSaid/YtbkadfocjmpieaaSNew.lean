/-
  A sketch of nothing.
-/
import Derived.Test.YtbkadfocjmpieaaSAdd
set_option linter.unusedVariables false
namespace Go.Proofs.Ytbkadfocjmpieaa
open Go.RowKit

def nwL (p : Nat) : List Nat := List.replicate (2 ^ p) 0
theorem nw_text (c : Nat) : (⟨(Lib.repeatL (⟨#[0]⟩ : ByteArray).data.toList c).toArray⟩ : ByteArray) = strOf (List.replicate c 0) := by
  have h : ∀ c, Lib.repeatL [(0 : UInt8)] c = List.replicate c 0 := by
    intro c
    induction c with
    | zero => rfl
    | succ c ih => unfold Lib.repeatL; rw [ih]; rfl
  unfold strOf
  rw [show (⟨#[0]⟩ : ByteArray).data.toList = [(0 : UInt8)] from rfl, h, List.map_replicate]
  rfl
set_option maxRecDepth 100000 in
set_option maxHeartbeats 4000000 in
theorem new_no (p : Int) (w : World) (h : p < 4 ∨ 16 < p) : Calls Try.prog 7 #[.int .i64 p] w fun e w' => e = .returned (.tuple #[.string ⟨#[]⟩, .int .i64 1]) ∧ w = w' := by
  rcases h with h | h
  · go_enter Try.func7, Try.ntmps7
    go_wp2_with fail
    go_ret2
    exact ⟨rfl, rfl⟩
  · have h2 : ¬ p < 4 := by omega
    go_enter Try.func7, Try.ntmps7
    go_wp2_with fail
    go_ret2
    exact ⟨rfl, rfl⟩
set_option maxRecDepth 100000 in
set_option maxHeartbeats 4000000 in
theorem new_yes (p : Nat) (w : World) (h4 : 4 ≤ p) (h16 : p ≤ 16) : Calls Try.prog 7 #[.int .i64 p] w fun e w' => e = .returned (.tuple #[.string (strOf (nwL p)), .int .i64 0]) ∧ Below w.heap.size w w' := by
  have h216 : 2 ^ p ≤ 2 ^ 16 := Nat.pow_le_pow_right (by decide) h16
  have h24 : 2 ^ 4 ≤ 2 ^ p := Nat.pow_le_pow_right (by decide) h4
  have e16 : (2 : Nat) ^ 16 = 65536 := by decide
  have e4 : (2 : Nat) ^ 4 = 16 := by decide
  obtain ⟨P, hP⟩ : ∃ P, P = 2 ^ p := ⟨_, rfl⟩
  have hw : wrap64 (2 ^ p) = (P : Int) := by
    have e : ((2 : Int) ^ p) = (P : Int) := by rw [hP, Int.natCast_pow]; rfl
    rw [e]; unfold wrap64; omega
  rw [← hP] at h216 h24
  have hr := strings_Repeat_main ⟨#[0]⟩ P w (by omega) (by omega) (by rw [show (⟨#[0]⟩ : ByteArray).size = 1 from rfl]; omega) (by decide)
  rw [nw_text] at hr
  unfold nwL
  rw [← hP]
  have HR := Lib.hid hr
  clear hr hP h216 h24 e16 e4
  go_enter Try.func7, Try.ntmps7
  go_wp2_with fail
  refine HR.out.mono ?_
  rintro e w' ⟨rfl, hb⟩
  have HB := Lib.hid hb
  clear hb HR
  go_wp2_with fail
  go_ret2
  exact ⟨rfl, HB.out⟩
/-- a sketch, in plain lists -/
structure Sk (p : Nat) (l : List Nat) : Prop where
  h4 : 4 ≤ p
  h16 : p ≤ 16
  len : l.length = 2 ^ p
  le : ∀ i, l.getD i 0 ≤ 65 - p
theorem Sk.lt {p : Nat} {l : List Nat} (h : Sk p l) (k : Nat) : l.getD k 0 < 256 := by have := h.le k; omega
theorem Sk.sN {p : Nat} {l : List Nat} (h : Sk p l) : sN (strOf l) = l := sN_strOf l h.lt
theorem Sk.exP {p : Nat} {l : List Nat} (h : Sk p l) : exP (strOf l) = p := exP_of (by have := h.h16; omega) (by rw [size_strOf, h.len])
theorem Sk.ok {p : Nat} {l : List Nat} (h : Sk p l) : exOk (strOf l) := by
  refine ⟨?_, fun i _ => ?_⟩
  · unfold exSz; rw [h.exP]; exact ⟨h.h4, h.h16, by rw [size_strOf, h.len]⟩
  · rw [h.sN, h.exP]; exact h.le i
theorem Sk.of {s : ByteArray} (h : exOk s) : Sk (Ytbkadfocjmpieaa.exP s) (Ytbkadfocjmpieaa.sN s) :=
  ⟨h.1.1, h.1.2.1, by rw [length_sN]; exact h.1.2.2, fun i => by
    rcases Nat.lt_or_ge i s.size with hi | hi
    · exact h.2 i hi
    · rw [List.getD, List.getElem?_eq_none (by rw [length_sN]; exact hi)]; exact Nat.zero_le _⟩
theorem Sk.nw {p : Nat} (h4 : 4 ≤ p) (h16 : p ≤ 16) : Sk p (nwL p) := ⟨h4, h16, by unfold nwL; simp, fun i => by
  unfold nwL
  rw [List.getD, List.getElem?_replicate]
  split <;> simp⟩
theorem rk_le {p : Nat} (h : Nat) (h16 : p ≤ 64) : rk p h ≤ 65 - p := by have := lzc_le h (64 - p); unfold rk; omega
theorem getD_adL (l : List Nat) (i r k : Nat) : (adL l i r).getD k 0 = if k = i ∧ i < l.length then max (l.getD i 0) r else l.getD k 0 := by
  unfold adL
  rw [List.getD, List.getElem?_set]
  by_cases h : i = k
  · subst h
    by_cases h2 : i < l.length
    · rw [if_pos rfl, if_pos h2, if_pos ⟨rfl, h2⟩]; rfl
    · rw [if_pos rfl, if_neg h2, if_neg (fun x => h2 x.2), List.getD, List.getElem?_eq_none (by omega)]
  · rw [if_neg h, if_neg (fun x => h x.1.symm)]; rfl
theorem Sk.ad {p : Nat} {l : List Nat} (h : Sk p l) (i x : Nat) : Sk p (adL l i (rk p x)) := ⟨h.h4, h.h16, by unfold adL; rw [List.length_set]; exact h.len, fun k => by
  rw [getD_adL]
  have := rk_le x (show p ≤ 64 by have := h.h16; omega)
  split
  · have := h.le i; omega
  · exact h.le k⟩
theorem addL_any {p : Nat} {l : List Nat} (x : Nat) (w : World) (h : Sk p l) (hx : x < 18446744073709551616) : Calls Try.prog 9 #[.string (strOf l), .int .u64 x] w fun e w' => e = .returned (.tuple #[.string (strOf (adL l (adAt p x) (rk p x))), .int .i64 0]) ∧ Below w.heap.size w w' := by
  have := add_yes (strOf l) x w hx h.ok
  rw [h.exP, h.sN] at this
  exact this
end Go.Proofs.Ytbkadfocjmpieaa
