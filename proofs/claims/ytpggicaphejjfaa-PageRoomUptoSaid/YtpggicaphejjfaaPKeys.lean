/-
  A node's keys: may they be, and do they rise.
-/
import Derived.Test.YtpggicaphejjfaaPSize
import Derived.Deep.LoopGhost
import Derived.Deep.QuietTactic
import Derived.Deep.DeepCutAuto
set_option linter.unusedVariables false
namespace Go.Proofs.Ytpggicaphejjfaa
open Go.RowKit

def strs (l : List ByteArray) : List Value := l.map .string
/-- a slice of texts that reads as a list -/
def StrR (w : World) (A : Option Addr) (l : List ByteArray) : Prop :=
  0 < l.length → ∃ b off, A = some ⟨b, off, none⟩ ∧ b < w.heap.size ∧ ∀ i, i < l.length → w.cell? ⟨b, off + i, none⟩ = some (.string (l.getD i ⟨#[]⟩))
theorem StrR.below {w w' : World} {A : Option Addr} {l : List ByteArray} (h : StrR w A l) (hb : Below w.heap.size w w') : StrR w' A l := by
  intro hn
  obtain ⟨b, off, rfl, hlt, hc⟩ := h hn
  exact ⟨b, off, rfl, Nat.lt_of_lt_of_le hlt hb.size, fun i hi => (hb.cell (p := ⟨b, off + i, none⟩) hlt).trans (hc i hi)⟩
theorem length_strs (l : List ByteArray) : (strs l).length = l.length := by simp [strs]
theorem strs_get {l : List ByteArray} {k : Nat} (hk : k < l.length) : (strs l)[k]? = some (.string (l.getD k ⟨#[]⟩)) := by
  simp [strs, List.getD, List.getElem?_eq_getElem hk]

/-- a key may be, and is greater than the one ahead of it -/
def kOk (l : List ByteArray) (i : Nat) : Prop := (l.getD i ⟨#[]⟩).toList ≠ [] ∧ (l.getD i ⟨#[]⟩).size ≤ 64 ∧ (0 < i → Op.bytesLess (l.getD (i - 1) ⟨#[]⟩).toList (l.getD i ⟨#[]⟩).toList = true)
def KeysP (l : List ByteArray) : Prop := ∀ i, i < l.length → kOk l i

set_option maxRecDepth 100000 in
set_option maxHeartbeats 2000000 in
theorem keys_any (A : Option Addr) (c : Nat) (l : List ByteArray) (r : Bool) (w : World) (hl : l.length ≤ 9223372036854775807) (hs : StrR w A l) (hr : r = true ↔ KeysP l) :
    Calls Try.prog 34 #[.slice A l.length c] w fun e w' => e = .returned (.bool r) ∧ w = w' := by
  obtain ⟨N, hN⟩ : ∃ N, N = l.length := ⟨_, rfl⟩
  rw [← hN] at hl ⊢
  have HS := Lib.hid (And.intro hs (And.intro hN hr))
  clear hs hN hr
  go_enter Try.func34, Try.ntmps34
  go_wp2_with fail
  go_loopg [7] N (fun g i wr => ∃ k : Nat, k + g = N ∧ i = .int .i64 k ∧ (∀ j, j < k → kOk l j) ∧ wr = w)
  case atStart => exact ⟨0, by omega, rfl, (fun j hj => absurd hj (by omega)), rfl⟩
  case round =>
    obtain ⟨k, hk, rfl, hall, rfl⟩ := hrel
    by_cases hlt : k < N
    · have hno : Hid (¬ kOk l k → r = false) := fun hn => by
        rw [Bool.eq_false_iff]
        intro e
        exact hn (HS.out.2.2.1 e k (by rw [← HS.out.2.1]; exact hlt))
      have hyes : Hid (kOk l k → ∀ j, j < k + 1 → kOk l j) := fun hk j hj => by
        rcases Nat.lt_succ_iff_lt_or_eq.1 hj with h | h
        · exact hall j h
        · rw [h]; exact hk
      clear hall
      obtain ⟨b, off, rfl, _, hcl⟩ := HS.out.1 (by rw [← HS.out.2.1]; omega)
      have hcell := hcl k (by rw [← HS.out.2.1]; exact hlt)
      have hdef : kOk l k ↔ ((l.getD k ⟨#[]⟩).toList ≠ [] ∧ (l.getD k ⟨#[]⟩).size ≤ 64 ∧ (0 < k → Op.bytesLess (l.getD (k - 1) ⟨#[]⟩).toList (l.getD k ⟨#[]⟩).toList = true)) := Iff.rfl
      have hcell2 : 0 < k → wr.cell? ⟨b, off + (k - 1), none⟩ = some (.string (l.getD (k - 1) ⟨#[]⟩)) := fun h => hcl (k - 1) (by rw [← HS.out.2.1]; omega)
      obtain ⟨x, hx⟩ : ∃ x, x = l.getD k ⟨#[]⟩ := ⟨_, rfl⟩
      obtain ⟨y, hy⟩ : ∃ y, y = l.getD (k - 1) ⟨#[]⟩ := ⟨_, rfl⟩
      rw [← hx] at hcell hdef
      rw [← hy] at hdef hcell2
      obtain ⟨p, hp⟩ : ∃ p, p = x.size := ⟨_, rfl⟩
      have hp' : x.size = p := hp.symm
      rw [hp'] at hdef
      have HD := Lib.hid hdef
      clear hx hy hcl hdef hp
      by_cases h0 : x.toList = []
      · have hrf := hno.out (fun h => (HD.out.1 h).1 h0)
        subst hrf
        have d0 : x.toList.isEmpty = true := by rw [h0]; rfl
        clear hcell2
        go_wp2_with fail
        all_goals first | (go_ret; exact ⟨rfl, rfl⟩) | exact ⟨rfl, .bool false, by simp [results, Try.results34, go_sem], rfl, rfl⟩
      · have d0 : x.toList.isEmpty = false := by rw [Bool.eq_false_iff]; intro e; exact h0 (List.isEmpty_iff.1 e)
        by_cases h1 : p ≤ 64
        · rcases Nat.eq_zero_or_pos k with hk0 | hk0
          · have hok := hyes.out (HD.out.2 ⟨h0, h1, fun e => by omega⟩)
            have HY := Lib.hid hok
            subst hk0
            rw [Nat.add_zero] at hcell
            clear hcell2 hok
            go_wp2_with fail
            all_goals go_roundg (gk - 1)
            all_goals first | omega | exact ⟨1, by omega, by go_num, HY.out, rfl⟩
          · obtain ⟨j, rfl⟩ : ∃ j, k = j + 1 := ⟨k - 1, by omega⟩
            have hj : ((j + 1 : Nat) : Int) - 1 = (j : Int) := by omega
            have hcell3 : wr.cell? ⟨b, off + j, none⟩ = some (.string y) := hcell2 hk0
            clear hcell2
            cases hbl : Op.bytesLess y.toList x.toList with
            | true =>
              have hok := hyes.out (HD.out.2 ⟨h0, h1, fun _ => hbl⟩)
              have HY := Lib.hid hok
              clear hok
              go_wp2_with fail
              all_goals go_roundg (gk - 1)
              all_goals first | omega | exact ⟨j + 2, by omega, by go_num, HY.out, rfl⟩
            | false =>
              have hrf := hno.out (fun h => by have := (HD.out.1 h).2.2 hk0; rw [hbl] at this; cases this)
              subst hrf
              go_wp2_with fail
              all_goals first | (go_ret; exact ⟨rfl, rfl⟩) | exact ⟨rfl, .bool false, by simp [results, Try.results34, go_sem], rfl, rfl⟩
        · have hrf := hno.out (fun h => h1 (HD.out.1 h).2.1)
          subst hrf
          clear hcell2
          go_wp2_with fail
          all_goals first | (go_ret; exact ⟨rfl, rfl⟩) | exact ⟨rfl, .bool false, by simp [results, Try.results34, go_sem], rfl, rfl⟩
    · have hk2 : k = N := by omega
      have hrt : r = true := HS.out.2.2.2 (fun j hj => hall j (by have := HS.out.2.1; omega))
      subst hrt hk2
      clear hall
      go_wp2_with fail
      go_ret
      exact ⟨rfl, rfl⟩
end Go.Proofs.Ytpggicaphejjfaa
