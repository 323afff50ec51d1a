/-
  codes: which code may be, and the greatest number that it codes.
-/
import Derived.Test.YtmgngmnkmmhckaaLen64
set_option linter.unusedVariables false
namespace Go.Proofs.Ytmgngmnkmmhckaa
open Go.RowKit Plain

def cOk (kd K : Nat) : Bool := (decide (kd ≤ 2) && decide (K = 0)) || (decide (kd = 3) && (decide (1 ≤ K) && decide (K ≤ 16))) || (decide (kd = 4) && (decide (1 ≤ K) && decide (K ≤ 281474976710655)))
def cChk (kd K : Nat) : Int := if cOk kd K = true then 0 else 1
def cMost (kd K : Nat) : Nat := if cOk kd K = true then (if kd = 0 then 65535 else if kd = 4 then K - 1 else 281474976710654) else 0
def cArg (kd K : Nat) : Value := .agg #[.int .u8 kd, .int .u64 K]
theorem cChk_yes {kd K : Nat} (h : cOk kd K = true) : cChk kd K = 0 := by unfold cChk; rw [if_pos h]
theorem cChk_no {kd K : Nat} (h : cOk kd K = false) : cChk kd K = 1 := by unfold cChk; rw [h]; rfl

theorem cOk_low {kd K : Nat} (h : kd ≤ 2) : cOk kd K = decide (K = 0) := by
  unfold cOk
  have h3 : decide (kd = 3) = false := decide_eq_false (by omega)
  have h4 : decide (kd = 4) = false := decide_eq_false (by omega)
  rw [h3, h4, decide_eq_true h]; simp
theorem cOk_3 (K : Nat) : cOk 3 K = (decide (1 ≤ K) && decide (K ≤ 16)) := by unfold cOk; simp
theorem cOk_4 (K : Nat) : cOk 4 K = (decide (1 ≤ K) && decide (K ≤ 281474976710655)) := by unfold cOk; simp
theorem cOk_high {kd K : Nat} (h : 5 ≤ kd) : cOk kd K = false := by
  unfold cOk
  have h2 : decide (kd ≤ 2) = false := decide_eq_false (by omega)
  have h3 : decide (kd = 3) = false := decide_eq_false (by omega)
  have h4 : decide (kd = 4) = false := decide_eq_false (by omega)
  rw [h2, h3, h4]; simp

set_option maxRecDepth 100000 in
set_option maxHeartbeats 4000000 in
theorem check_any (kd K : Nat) (w : World) : Calls Try.prog 43 #[.agg #[.int .u8 kd, .int .u64 K]] w fun e w' => e = .returned (.int .i64 (cChk kd K)) ∧ Below w.heap.size w w' := by
  have hB : Hid (∀ o, Below w.heap.size w (w.alloc o)) := fun o => (Below.refl _ w).alloc (Nat.le_refl _) o
  by_cases k2 : kd ≤ 2
  · obtain ⟨b, hb⟩ : (∃ b : Bool, b = decide (K = 0)) := ⟨_, rfl⟩
    have HO := Lib.hid (show cChk kd K = if b = true then 0 else 1 by unfold cChk; rw [cOk_low k2, hb])
    have hbi : ((K : Int) == 0) = b := by rw [hb]; by_cases h : K = 0 <;> simp [h]
    clear hb
    have k3 : kd = 0 ∨ kd = 1 ∨ kd = 2 := by omega
    clear k2
    rcases k3 with rfl | rfl | rfl
    · cases b <;> (go_enter Try.func43, Try.ntmps43; go_wp2_with fail; go_ret; rw [HO.out]; exact ⟨rfl, hB.out _⟩)
    · cases b <;> (go_enter Try.func43, Try.ntmps43; go_wp2_with fail; go_ret; rw [HO.out]; exact ⟨rfl, hB.out _⟩)
    · cases b <;> (go_enter Try.func43, Try.ntmps43; go_wp2_with fail; go_ret; rw [HO.out]; exact ⟨rfl, hB.out _⟩)
  by_cases k3 : kd = 3
  · subst k3
    by_cases h1 : 1 ≤ K
    · by_cases h2 : K ≤ 16
      · have HO := Lib.hid (show cChk 3 K = 0 by unfold cChk; rw [cOk_3, decide_eq_true h1, decide_eq_true h2]; rfl)
        have hd : decide ((K : Int) ≤ 16) = true := decide_eq_true (by omega)
        clear h2
        go_enter Try.func43, Try.ntmps43; go_wp2_with fail; go_ret; rw [HO.out]; exact ⟨rfl, hB.out _⟩
      · have HO := Lib.hid (show cChk 3 K = 1 by unfold cChk; rw [cOk_3, decide_eq_true h1, decide_eq_false h2]; rfl)
        have hd : decide ((K : Int) ≤ 16) = false := decide_eq_false (by omega)
        clear h2
        go_enter Try.func43, Try.ntmps43; go_wp2_with fail; go_ret; rw [HO.out]; exact ⟨rfl, hB.out _⟩
    · have HO := Lib.hid (show cChk 3 K = 1 by unfold cChk; rw [cOk_3, decide_eq_false h1]; rfl)
      go_enter Try.func43, Try.ntmps43; go_wp2_with fail; go_ret; rw [HO.out]; exact ⟨rfl, hB.out _⟩
  by_cases k4 : kd = 4
  · subst k4
    by_cases h1 : 1 ≤ K
    · by_cases h2 : K ≤ 281474976710655
      · have HO := Lib.hid (show cChk 4 K = 0 by unfold cChk; rw [cOk_4, decide_eq_true h1, decide_eq_true h2]; rfl)
        have hd : decide ((K : Int) ≤ 281474976710655) = true := decide_eq_true (by omega)
        clear h2
        go_enter Try.func43, Try.ntmps43; go_wp2_with fail; go_ret; rw [HO.out]; exact ⟨rfl, hB.out _⟩
      · have HO := Lib.hid (show cChk 4 K = 1 by unfold cChk; rw [cOk_4, decide_eq_true h1, decide_eq_false h2]; rfl)
        have hd : decide ((K : Int) ≤ 281474976710655) = false := decide_eq_false (by omega)
        clear h2
        go_enter Try.func43, Try.ntmps43; go_wp2_with fail; go_ret; rw [HO.out]; exact ⟨rfl, hB.out _⟩
    · have HO := Lib.hid (show cChk 4 K = 1 by unfold cChk; rw [cOk_4, decide_eq_false h1]; rfl)
      go_enter Try.func43, Try.ntmps43; go_wp2_with fail; go_ret; rw [HO.out]; exact ⟨rfl, hB.out _⟩
  · have k5 : 5 ≤ kd := by omega
    have HO := Lib.hid (cChk_no (cOk_high (K := K) k5))
    have e0 : ((kd : Int) == 0) = false := by simp; omega
    have e1 : ((kd : Int) == 1) = false := by simp; omega
    have e2 : ((kd : Int) == 2) = false := by simp; omega
    have e3 : ((kd : Int) == 3) = false := by simp; omega
    have e4 : ((kd : Int) == 4) = false := by simp; omega
    clear k2 k3 k4 k5
    go_enter Try.func43, Try.ntmps43; go_wp2_with fail; go_ret; rw [HO.out]; exact ⟨rfl, hB.out _⟩

set_option maxRecDepth 100000 in
set_option maxHeartbeats 4000000 in
theorem most_any (kd K : Nat) (w : World) (hK : K < 18446744073709551616) : Calls Try.prog 57 #[.agg #[.int .u8 kd, .int .u64 K]] w fun e w' => e = .returned (.int .u64 (cMost kd K : Nat)) ∧ Below w.heap.size w w' := by
  have hB : Hid (∀ o, Below w.heap.size w (w.alloc o)) := fun o => (Below.refl _ w).alloc (Nat.le_refl _) o
  obtain ⟨cc, hcc⟩ : ∃ cc, cc = cChk kd K := ⟨_, rfl⟩
  cases hok : cOk kd K with
  | false =>
    have h1 : cc = 1 := by rw [hcc]; exact cChk_no hok
    have HM := Lib.hid (show cMost kd K = 0 by unfold cMost; rw [hok]; rfl)
    have HC := Lib.hid (hcc.symm.trans h1)
    clear hok hK hcc h1
    go_enter Try.func57, Try.ntmps57
    go_wp2_with fail
    refine (check_any kd K _).mono ?_
    rintro e w' ⟨rfl, hb⟩
    rw [HC.out]
    have H1 := Lib.hid (below_step (hB.out _) hb)
    clear hb
    go_wp2_with fail
    go_ret
    rw [HM.out]
    exact ⟨rfl, H1.out⟩
  | true =>
    have h1 : cc = 0 := by rw [hcc]; exact cChk_yes hok
    have HC := Lib.hid (hcc.symm.trans h1)
    have HM := Lib.hid (show cMost kd K = if kd = 0 then 65535 else if kd = 4 then K - 1 else 281474976710654 by unfold cMost; rw [if_pos hok])
    have hk1 : kd = 4 → 1 ≤ K := by
      rintro rfl; rw [cOk_4] at hok; simp at hok; exact hok.1
    have HK := Lib.hid (And.intro hk1 hK)
    have hb0 := Blk.new w 71 #[.int .u8 kd, .int .u64 K]
    clear hcc h1 hok hk1 hK
    go_enter Try.func57, Try.ntmps57
    go_wp2_with fail
    obtain ⟨g, hg⟩ : ∃ g, g = w.heap.size := ⟨_, rfl⟩
    obtain ⟨w1, hw1⟩ : ∃ w1, w1 = w.alloc (.cells #[.int .u8 kd, .int .u64 K] 71) := ⟨_, rfl⟩
    have hbw : Below w.heap.size w w1 := by rw [hw1]; exact hB.out _
    rw [← hw1, ← hg] at hb0
    rw [← hw1, ← hg]
    have Hg := Lib.hid (And.intro hg hbw)
    clear hw1 hg hbw
    refine (check_any kd K _).mono ?_
    rintro e w' ⟨rfl, hb⟩
    rw [HC.out]
    have hb1 := hb0.only (Only.of_below (F := fun _ => False) hb) (fun e => e)
    have c0 := hb1.cell 0
    have c1 := hb1.cell 1
    simp at c0 c1
    have H1 := Lib.hid (below_step Hg.out.2 hb)
    clear hb hb0 hb1
    by_cases k0 : kd = 0
    · subst k0
      go_wp2_with fail
      go_ret
      rw [HM.out]
      exact ⟨rfl, H1.out⟩
    by_cases k4 : kd = 4
    · subst k4
      obtain ⟨K', rfl⟩ : ∃ K', K = K' + 1 := ⟨K - 1, by have := HK.out.1 rfl; omega⟩
      have e : IntKind.u64.wrap (K' : Int) = (K' : Int) := wrap_nat64 _ (by have := HK.out.2; omega)
      have e2 : (((K' + 1 : Nat) : Int) - 1) = (K' : Int) := by omega
      go_wp2_with fail
      go_ret
      rw [HM.out]
      exact ⟨rfl, H1.out⟩
    · have e0 : ((kd : Int) == 0) = false := by simp; omega
      have e4 : ((kd : Int) == 4) = false := by simp; omega
      have HM2 := Lib.hid (show cMost kd K = 281474976710654 by rw [HM.out, if_neg k0, if_neg k4])
      clear k0 k4
      go_wp2_with fail
      go_ret
      rw [HM2.out]
      exact ⟨rfl, H1.out⟩

def cMay (kd K v : Nat) : Bool := cOk kd K && decide (v ≤ cMost kd K)
set_option maxRecDepth 100000 in
set_option maxHeartbeats 4000000 in
theorem may_any (kd K v : Nat) (w : World) (hK : K < 18446744073709551616) : Calls Try.prog 62 #[.agg #[.int .u8 kd, .int .u64 K], .int .u64 v] w fun e w' => e = .returned (.bool (cMay kd K v)) ∧ Below w.heap.size w w' := by
  have hB : Hid (∀ o, Below w.heap.size w (w.alloc o)) := fun o => (Below.refl _ w).alloc (Nat.le_refl _) o
  have HK := Lib.hid hK
  clear hK
  obtain ⟨cc, hcc⟩ : ∃ cc, cc = cChk kd K := ⟨_, rfl⟩
  have hb0 := Blk.new w 71 #[.int .u8 kd, .int .u64 K]
  have HM := Lib.hid (show cMay kd K v = (cOk kd K && decide (v ≤ cMost kd K)) from rfl)
  cases hok : cOk kd K with
  | false =>
    have h1 : cc = 1 := by rw [hcc]; exact cChk_no hok
    have HC := Lib.hid (hcc.symm.trans h1)
    have HO := Lib.hid hok
    clear hok hcc h1 hb0
    go_enter Try.func62, Try.ntmps62
    go_wp2_with fail
    refine (check_any kd K _).mono ?_
    rintro e w' ⟨rfl, hb⟩
    rw [HC.out]
    have H1 := Lib.hid (below_step (hB.out _) hb)
    clear hb
    go_wp2_with fail
    go_ret
    rw [HM.out, HO.out]
    exact ⟨rfl, H1.out⟩
  | true =>
    have h1 : cc = 0 := by rw [hcc]; exact cChk_yes hok
    have HC := Lib.hid (hcc.symm.trans h1)
    have HO := Lib.hid hok
    clear hok hcc h1
    go_enter Try.func62, Try.ntmps62
    go_wp2_with fail
    obtain ⟨g, hg⟩ : ∃ g, g = w.heap.size := ⟨_, rfl⟩
    obtain ⟨w1, hw1⟩ : ∃ w1, w1 = w.alloc (.cells #[.int .u8 kd, .int .u64 K] 71) := ⟨_, rfl⟩
    have hbw : Below w.heap.size w w1 := by rw [hw1]; exact hB.out _
    rw [← hw1, ← hg] at hb0
    rw [← hw1, ← hg]
    have Hg := Lib.hid (And.intro hg hbw)
    clear hw1 hg hbw
    refine (check_any kd K _).mono ?_
    rintro e w' ⟨rfl, hb⟩
    rw [HC.out]
    have hb1 := hb0.only (Only.of_below (F := fun _ => False) hb) (fun e => e)
    have c0 := hb1.cell 0
    have c1 := hb1.cell 1
    simp at c0 c1
    have H1 := Lib.hid (below_step Hg.out.2 hb)
    clear hb hb0 hb1
    go_wp2_with fail
    refine (most_any kd K _ HK.out).mono ?_
    rintro e w2 ⟨rfl, hb⟩
    have H2 := Lib.hid (below_step H1.out hb)
    clear hb
    obtain ⟨M, hM⟩ : ∃ M, M = cMost kd K := ⟨_, rfl⟩
    rw [← hM] at HM
    rw [← hM]
    clear hM c0 c1
    go_wp2_with fail
    go_ret
    rw [HM.out, HO.out]
    exact ⟨by simp, H2.out⟩
end Go.Proofs.Ytmgngmnkmmhckaa
