/-
  A sketch's exponent: the loops; the reference.
-/
import Derived.Test.YtbkadfocjmpieaaSExp
set_option linter.unusedVariables false
namespace Go.Proofs.Ytbkadfocjmpieaa
open Go.RowKit

theorem sN_getD (s : ByteArray) (k : Nat) (h : k < s.size) : (sN s).getD k 0 = s[k].toNat := by
  rw [List.getD, List.getElem?_eq_getElem (by rw [length_sN]; exact h), Option.getD_some, sN_get s k h]

set_option maxRecDepth 100000 in
set_option maxHeartbeats 4000000 in
theorem exp_sz (s : ByteArray) (w : World) (h : exSz s) : Calls Try.prog 12 #[.string s] w fun e w' => e = .returned (.tuple #[.int .i64 (exV s : Nat), .int .i64 (exE s)]) ∧ w = w' := by
  obtain ⟨h4, h16, hsz⟩ := id h
  have h216 : 2 ^ exP s ≤ 2 ^ 16 := Nat.pow_le_pow_right (by decide) h16
  have e16 : (2 : Nat) ^ 16 = 65536 := by decide
  have hs : s.size ≤ 65536 := by omega
  have hlen := len_any s.size w (by omega)
  have hL0 : Lib.bitLen s.size = exP s + 1 := by unfold exP at h4 ⊢; omega
  rw [hL0] at hlen
  have hyes := fun h => ex_yes (s := s) h
  have hno := fun h => ex_no (s := s) h
  have hall : exOk s ↔ ∀ i, i < s.size → (sN s).getD i 0 ≤ 65 - exP s := ⟨fun x => x.2, fun x => ⟨h, x⟩⟩
  obtain ⟨p, hp⟩ : ∃ p, p = exP s := ⟨_, rfl⟩
  rw [← hp] at hlen h4 h16 hsz hyes hall
  have hpp : ((p : Int) + 1 - 1) = (p : Int) := by omega
  have hw : wrap64 (2 ^ p) = (s.size : Int) := by
    have e : ((2 : Int) ^ p) = (s.size : Int) := by rw [hsz, Int.natCast_pow]; rfl
    rw [e]; unfold wrap64; omega
  have HH := Lib.hid (And.intro hlen (And.intro hyes (And.intro hno hall)))
  clear hlen hyes hno hall hsz h hL0 hp h216 e16
  go_enter Try.func12, Try.ntmps12
  go_wp2_with fail
  refine HH.out.1.mono ?_
  rintro e w' ⟨rfl, rfl⟩
  go_wp2_with fail
  go_loopg [26] s.size (fun g i wr => ∃ k : Nat, k + g = s.size ∧ i = .int .i64 k ∧ (∀ j, j < k → (sN s).getD j 0 ≤ 65 - p) ∧ wr = w)
  case atStart => exact ⟨0, by omega, rfl, fun j hj => absurd hj (by omega), rfl⟩
  case round =>
    obtain ⟨k, hk, rfl, hb, rfl⟩ := hrel
    have HB := Lib.hid hb
    clear hb
    by_cases hlt : k < s.size
    · have hgd := sN_getD s k hlt
      have hx : s[k].toNat ≤ 255 := by have := s[k].toNat_lt; omega
      by_cases hc : s[k].toNat ≤ 65 - p
      · have hd : decide ((65 : Int) - (p : Int) < (s[k].toNat : Int)) = false := decide_eq_false (by omega)
        have HC := Lib.hid (And.intro hgd hc)
        clear hgd hc
        go_wp2_with fail
        go_roundg (gk - 1)
        case measure => omega
        case rel =>
          refine ⟨k + 1, by omega, by go_num, fun j hj => ?_, rfl⟩
          rcases Nat.lt_succ_iff_lt_or_eq.1 hj with h | h
          · exact HB.out j h
          · subst h; rw [HC.out.1]; exact HC.out.2
      · have hd : decide ((65 : Int) - (p : Int) < (s[k].toNat : Int)) = true := decide_eq_true (by omega)
        have hn : ¬ exOk s := fun h => hc (by have := HH.out.2.2.2.1 h k hlt; rw [hgd] at this; exact this)
        have HN := Lib.hid (HH.out.2.2.1 hn)
        clear hgd hc hn
        go_wp2_with fail
        go_ret2
        rw [HN.out.1, HN.out.2]
        exact ⟨rfl, rfl⟩
    · have hy : exOk s := HH.out.2.2.2.2 (fun i hi => HB.out i (by omega))
      have HY := Lib.hid (HH.out.2.1 hy)
      clear hy
      go_wp2_with fail
      go_ret2
      rw [HY.out.1, HY.out.2]
      exact ⟨rfl, rfl⟩
theorem exp_any (s : ByteArray) (w : World) (hs : s.size ≤ 140737488355328) : Calls Try.prog 12 #[.string s] w fun e w' => e = .returned (.tuple #[.int .i64 (exV s : Nat), .int .i64 (exE s)]) ∧ w = w' := by
  by_cases h : exSz s
  · exact exp_sz s w h
  · have := exp_no s w hs h
    rw [(ex_no (fun x => h x.1)).1, (ex_no (fun x => h x.1)).2]
    exact this

set_option maxRecDepth 100000 in
set_option maxHeartbeats 4000000 in
theorem rexp_any (s : ByteArray) (w : World) (hs : s.size ≤ 140737488355328) : Calls Try.prog 17 #[.string s] w fun e w' => e = .returned (.tuple #[.int .i64 (exV s : Nat), .int .i64 (exE s)]) ∧ w = w' := by
  have hyes := fun h => ex_yes (s := s) h
  have hno := fun h => ex_no (s := s) h
  have HH := Lib.hid (And.intro hyes hno)
  clear hyes hno
  go_enter Try.func17, Try.ntmps17
  go_wp2_with fail
  go_loopg [4] 17 (fun g i wr => ∃ p : Nat, p + g = 21 ∧ 4 ≤ p ∧ i = .int .i64 p ∧ (∀ q, 4 ≤ q → q < p → s.size ≠ 2 ^ q) ∧ wr = w)
  case atStart => exact ⟨4, by omega, by omega, rfl, fun q h1 h2 => by omega, rfl⟩
  case round =>
    obtain ⟨p, hp, hp4, rfl, hb, rfl⟩ := hrel
    have HB := Lib.hid hb
    clear hb
    by_cases hlt : p ≤ 16
    · have h216 : 2 ^ p ≤ 2 ^ 16 := Nat.pow_le_pow_right (by decide) hlt
      have e16 : (2 : Nat) ^ 16 = 65536 := by decide
      obtain ⟨P, hP⟩ : ∃ P, P = 2 ^ p := ⟨_, rfl⟩
      rw [← hP] at h216
      have hw : wrap64 (2 ^ p) = (P : Int) := by
        have e : ((2 : Int) ^ p) = (P : Int) := by rw [hP, Int.natCast_pow]; rfl
        rw [e]; unfold wrap64; omega
      by_cases hne : s.size = P
      · have hsz : exSz s := by
          have : exP s = p := exP_of (by omega) (by rw [hne, hP])
          unfold exSz; rw [this]; exact ⟨hp4, hlt, by rw [hne, hP]⟩
        have hep : exP s = p := exP_of (by omega) (by rw [hne, hP])
        have hs16 : s.size ≤ 65536 := by omega
        rw [← hne] at hw
        have HS := Lib.hid (And.intro hsz hep)
        clear hsz hep h216 e16 hne hP
        go_wp2_with fail
        go_loopg [5] s.size (fun g i wx => ∃ k : Nat, k + g = s.size ∧ i = .int .i64 k ∧ (∀ j, j < k → (sN s).getD j 0 ≤ 65 - p) ∧ wx = wr)
        case atStart => exact ⟨0, by omega, rfl, fun j hj => absurd hj (by omega), rfl⟩
        case round =>
          obtain ⟨k, hk, rfl, hb2, rfl⟩ := hrel
          have HB2 := Lib.hid hb2
          clear hb2
          by_cases hkl : k < s.size
          · have hgd := sN_getD s k hkl
            have hx : s[k].toNat ≤ 255 := by have := s[k].toNat_lt; omega
            by_cases hc : s[k].toNat ≤ 65 - p
            · have hd : decide ((65 : Int) - (p : Int) < (s[k].toNat : Int)) = false := decide_eq_false (by omega)
              have HC := Lib.hid (And.intro hgd hc)
              clear hgd hc
              go_wp2_with fail
              go_roundg (gk - 1)
              case measure => omega
              case rel =>
                refine ⟨k + 1, by omega, by go_num, fun j hj => ?_, rfl⟩
                rcases Nat.lt_succ_iff_lt_or_eq.1 hj with h | h
                · exact HB2.out j h
                · subst h; rw [HC.out.1]; exact HC.out.2
            · have hd : decide ((65 : Int) - (p : Int) < (s[k].toNat : Int)) = true := decide_eq_true (by omega)
              have hn : ¬ exOk s := fun h => hc (by have := h.2 k hkl; rw [hgd, HS.out.2] at this; exact this)
              have HN := Lib.hid (HH.out.2 hn)
              clear hgd hc hn
              go_wp2_with fail
              go_ret2
              rw [HN.out.1, HN.out.2]
              exact ⟨rfl, rfl⟩
          · have hy : exOk s := ⟨HS.out.1, fun i hi => by rw [HS.out.2]; exact HB2.out i (by omega)⟩
            have HY := Lib.hid (HH.out.1 hy)
            clear hy
            go_wp2_with fail
            go_ret2
            rw [HY.out.1, HY.out.2, HS.out.2]
            exact ⟨rfl, rfl⟩
      · have hnb : ((s.size : Int) != (P : Int)) = true := by simp; omega
        have HP := Lib.hid (And.intro hP hne)
        clear hP hne h216 e16
        go_wp2_with fail
        go_roundg (gk - 1)
        case measure => omega
        case rel =>
          refine ⟨p + 1, by omega, by omega, by go_num, fun q h1 h2 => ?_, rfl⟩
          rcases Nat.lt_succ_iff_lt_or_eq.1 h2 with h | h
          · exact HB.out q h1 h
          · subst h; rw [← HP.out.1]; exact HP.out.2
    · have hn : ¬ exOk s := fun h => HB.out (exP s) h.1.1 (by have := h.1.2.1; omega) h.1.2.2
      have HN := Lib.hid (HH.out.2 hn)
      clear hn
      go_wp2_with fail
      go_ret2
      rw [HN.out.1, HN.out.2]
      exact ⟨rfl, rfl⟩
end Go.Proofs.Ytbkadfocjmpieaa
