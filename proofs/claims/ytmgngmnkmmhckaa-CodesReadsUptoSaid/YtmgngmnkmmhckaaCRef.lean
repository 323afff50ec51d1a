/-
  codes, the reference: what may be, the greatest number, zeros, Minimal.
  codes, the reference: a number is read in Minimal.
  codes, the reference: a number is read at each kind.
  codes, the reference: a number is read in Delta, in Zeta, at any kind.
  codes, the reference: Read.
-/
import Derived.Test.YtmgngmnkmmhckaaCNum2
import Derived.Test.YtmgngmnkmmhckaaLReads
import Derived.Test.YtmgngmnkmmhckaaCAny
set_option linter.unusedVariables false
namespace Go.Proofs.Ytmgngmnkmmhckaa
open Go.RowKit Plain

set_option maxRecDepth 100000 in
set_option maxHeartbeats 4000000 in
theorem rcheck_any (kd K : Nat) (w : World) : Calls Try.prog 58 #[.agg #[.int .u8 kd, .int .u64 K]] w fun e w' => e = .returned (.int .i64 (cChk kd K)) ∧ Below w.heap.size w w' := by
  have hB : Hid (∀ o, Below w.heap.size w (w.alloc o)) := fun o => (Below.refl _ w).alloc (Nat.le_refl _) o
  by_cases k2 : kd ≤ 2
  · obtain ⟨b, hb⟩ : (∃ b : Bool, b = decide (K = 0)) := ⟨_, rfl⟩
    have HO := Lib.hid (show cChk kd K = if b = true then 0 else 1 by unfold cChk; rw [cOk_low k2, hb])
    have hbi : ((K : Int) == 0) = b := by rw [hb]; by_cases h : K = 0 <;> simp [h]
    have hbn : ((K : Int) != 0) = !b := by rw [bne, hbi]
    clear hb
    have k3 : kd = 0 ∨ kd = 1 ∨ kd = 2 := by omega
    clear k2
    rcases k3 with rfl | rfl | rfl
    · cases b <;> (go_enter Try.func58, Try.ntmps58; go_wp2_with fail; go_ret; rw [HO.out]; exact ⟨rfl, hB.out _⟩)
    · cases b <;> (go_enter Try.func58, Try.ntmps58; go_wp2_with fail; go_ret; rw [HO.out]; exact ⟨rfl, hB.out _⟩)
    · cases b <;> (go_enter Try.func58, Try.ntmps58; go_wp2_with fail; go_ret; rw [HO.out]; exact ⟨rfl, hB.out _⟩)
  by_cases k3 : kd = 3
  · subst k3
    by_cases h1 : 1 ≤ K
    · have h1d : decide ((K : Int) < 1) = false := decide_eq_false (by omega)
      by_cases h2 : K ≤ 16
      · have HO := Lib.hid (show cChk 3 K = 0 by unfold cChk; rw [cOk_3, decide_eq_true h1, decide_eq_true h2]; rfl)
        have hd : decide ((16 : Int) < (K : Int)) = false := decide_eq_false (by omega)
        clear h2
        go_enter Try.func58, Try.ntmps58; go_wp2_with fail; go_ret; rw [HO.out]; exact ⟨rfl, hB.out _⟩
      · have HO := Lib.hid (show cChk 3 K = 1 by unfold cChk; rw [cOk_3, decide_eq_true h1, decide_eq_false h2]; rfl)
        have hd : decide ((16 : Int) < (K : Int)) = true := decide_eq_true (by omega)
        clear h2
        go_enter Try.func58, Try.ntmps58; go_wp2_with fail; go_ret; rw [HO.out]; exact ⟨rfl, hB.out _⟩
    · obtain rfl : K = 0 := by omega
      have HO := Lib.hid (show cChk 3 0 = 1 by decide +kernel)
      clear h1
      go_enter Try.func58, Try.ntmps58; go_wp2_with fail; go_ret; rw [HO.out]; exact ⟨rfl, hB.out _⟩
  by_cases k4 : kd = 4
  · subst k4
    by_cases h1 : 1 ≤ K
    · have h1d : decide ((K : Int) < 1) = false := decide_eq_false (by omega)
      by_cases h2 : K ≤ 281474976710655
      · have HO := Lib.hid (show cChk 4 K = 0 by unfold cChk; rw [cOk_4, decide_eq_true h1, decide_eq_true h2]; rfl)
        have hd : decide ((281474976710655 : Int) < (K : Int)) = false := decide_eq_false (by omega)
        clear h2
        go_enter Try.func58, Try.ntmps58; go_wp2_with fail; go_ret; rw [HO.out]; exact ⟨rfl, hB.out _⟩
      · have HO := Lib.hid (show cChk 4 K = 1 by unfold cChk; rw [cOk_4, decide_eq_true h1, decide_eq_false h2]; rfl)
        have hd : decide ((281474976710655 : Int) < (K : Int)) = true := decide_eq_true (by omega)
        clear h2
        go_enter Try.func58, Try.ntmps58; go_wp2_with fail; go_ret; rw [HO.out]; exact ⟨rfl, hB.out _⟩
    · obtain rfl : K = 0 := by omega
      have HO := Lib.hid (show cChk 4 0 = 1 by decide +kernel)
      clear h1
      go_enter Try.func58, Try.ntmps58; go_wp2_with fail; go_ret; rw [HO.out]; exact ⟨rfl, hB.out _⟩
  · have k5 : 5 ≤ kd := by omega
    have HO := Lib.hid (cChk_no (cOk_high (K := K) k5))
    have e0 : ((kd : Int) == 0) = false := by simp; omega
    have e1 : ((kd : Int) == 1) = false := by simp; omega
    have e2 : ((kd : Int) == 2) = false := by simp; omega
    have e3 : ((kd : Int) == 3) = false := by simp; omega
    have e4 : ((kd : Int) == 4) = false := by simp; omega
    clear k2 k3 k4 k5
    go_enter Try.func58, Try.ntmps58; go_wp2_with fail; go_ret; rw [HO.out]; exact ⟨rfl, hB.out _⟩

set_option maxRecDepth 100000 in
set_option maxHeartbeats 4000000 in
theorem rmost_any (kd K : Nat) (w : World) (hK : K < 18446744073709551616) : Calls Try.prog 60 #[.agg #[.int .u8 kd, .int .u64 K]] w fun e w' => e = .returned (.int .u64 (cMost kd K : Nat)) ∧ Below w.heap.size w w' := by
  have hB : Hid (∀ o, Below w.heap.size w (w.alloc o)) := fun o => (Below.refl _ w).alloc (Nat.le_refl _) o
  obtain ⟨cc, hcc⟩ : ∃ cc, cc = cChk kd K := ⟨_, rfl⟩
  cases hok : cOk kd K with
  | false =>
    have h1 : cc = 1 := by rw [hcc]; exact cChk_no hok
    have HM := Lib.hid (show cMost kd K = 0 by unfold cMost; rw [hok]; rfl)
    have HC := Lib.hid (hcc.symm.trans h1)
    clear hok hK hcc h1
    go_enter Try.func60, Try.ntmps60
    go_wp2_with fail
    refine (rcheck_any kd K _).mono ?_
    rintro e w' ⟨rfl, hb⟩
    rw [HC.out]
    have H1 := Lib.hid (below_step (hB.out _) hb)
    clear hb
    go_wp2_with fail
    go_ret
    rw [HM.out]
    exact ⟨rfl, H1.out⟩
  | true =>
    have h1 : cc = 0 := by rw [hcc]; exact cChk_yes hok
    have HC := Lib.hid (hcc.symm.trans h1)
    have HM := Lib.hid (show cMost kd K = if kd = 0 then 65535 else if kd = 4 then K - 1 else 281474976710654 by unfold cMost; rw [if_pos hok])
    have hk1 : kd = 4 → 1 ≤ K := by
      rintro rfl; rw [cOk_4] at hok; simp at hok; exact hok.1
    have HK := Lib.hid (And.intro hk1 hK)
    have hb0 := Blk.new w 73 #[.int .u8 kd, .int .u64 K]
    clear hcc h1 hok hk1 hK
    go_enter Try.func60, Try.ntmps60
    go_wp2_with fail
    obtain ⟨g, hg⟩ : ∃ g, g = w.heap.size := ⟨_, rfl⟩
    obtain ⟨w1, hw1⟩ : ∃ w1, w1 = w.alloc (.cells #[.int .u8 kd, .int .u64 K] 73) := ⟨_, rfl⟩
    have hbw : Below w.heap.size w w1 := by rw [hw1]; exact hB.out _
    rw [← hw1, ← hg] at hb0
    rw [← hw1, ← hg]
    have Hg := Lib.hid (And.intro hg hbw)
    clear hw1 hg hbw
    refine (rcheck_any kd K _).mono ?_
    rintro e w' ⟨rfl, hb⟩
    rw [HC.out]
    have hb1 := hb0.only (Only.of_below (F := fun _ => False) hb) (fun e => e)
    have c0 := hb1.cell 0
    have c1 := hb1.cell 1
    simp at c0 c1
    have H1 := Lib.hid (below_step Hg.out.2 hb)
    clear hb hb0 hb1
    by_cases k0 : kd = 0
    · subst k0
      go_wp2_with fail
      go_ret
      rw [HM.out]
      exact ⟨rfl, H1.out⟩
    by_cases k4 : kd = 4
    · subst k4
      obtain ⟨K', rfl⟩ : ∃ K', K = K' + 1 := ⟨K - 1, by have := HK.out.1 rfl; omega⟩
      have e : IntKind.u64.wrap (K' : Int) = (K' : Int) := wrap_nat64 _ (by have := HK.out.2; omega)
      have e2 : (((K' + 1 : Nat) : Int) - 1) = (K' : Int) := by omega
      go_wp2_with fail
      go_ret
      rw [HM.out]
      exact ⟨rfl, H1.out⟩
    · have e0 : ((kd : Int) == 0) = false := by simp; omega
      have e4 : ((kd : Int) == 4) = false := by simp; omega
      have HM2 := Lib.hid (show cMost kd K = 281474976710654 by rw [HM.out, if_neg k0, if_neg k4])
      clear k0 k4
      go_wp2_with fail
      go_ret
      rw [HM2.out]
      exact ⟨rfl, H1.out⟩


theorem RrTo.refl {w : World} {h a : Nat} {l : List Bool} (x : RrAt w h l a) : RrTo w h l a w := ⟨x, Only.refl _ _⟩
theorem RrTo.trans {w w1 w2 : World} {h a a' : Nat} {l : List Bool} (x : RrTo w h l a w1) (y : RrTo w1 h l a' w2) : RrTo w h l a' w2 := ⟨y.1, x.2.trans y.2 (fun _ _ e => e)⟩
theorem rrbit_yes {h a : Nat} {l : List Bool} {w : World} (hw : RrAt w h l a) (hl : l.length ≤ 134217728) (ha : a < l.length) :
    Calls Try.prog 16 #[.pointer (some ⟨h, 0, none⟩)] w fun e w' => e = .returned (.tuple #[.bool (l.getD a false), .int .i64 0]) ∧ RrTo w h l (a + 1) w' := by
  have hp := getD_one ha
  rw [← bits_one] at hp
  obtain ⟨t1, t2, t3⟩ := tk_fwd (n := 1) (by decide) (by cases (l.getD a false) <;> decide) hp
  rw [show ((1 : Nat) : Int) = 1 from rfl] at t1 t2 t3
  have := rrbit_any h l a w hw hl
  rw [t1, t2, show takeCode l.length a 1 = 0 by simpa using t3] at this
  rw [show ((((l.getD a false).toNat : Nat) : Int) == 1) = l.getD a false by cases (l.getD a false) <;> rfl] at this
  exact this
theorem rrbit_no {h a : Nat} {l : List Bool} {w : World} (hw : RrAt w h l a) (hl : l.length ≤ 134217728) (ha : ¬ a < l.length) :
    Calls Try.prog 16 #[.pointer (some ⟨h, 0, none⟩)] w fun e w' => e = .returned (.tuple #[.bool false, .int .i64 4]) ∧ RrTo w h l a w' := by
  have hc : takeCode l.length a 1 = 4 := by unfold takeCode; rw [if_neg (by omega), if_pos (by omega)]
  have := rrbit_any h l a w hw hl
  rw [hc, show takeVal l a 1 = 0 by unfold takeVal; rw [hc]; rfl, show takeAt l.length a 1 = a by unfold takeAt; rw [hc]; rfl] at this
  exact this

set_option maxRecDepth 100000 in
set_option maxHeartbeats 4000000 in
theorem rzeros_any (h : Nat) (l : List Bool) (a most : Nat) (w : World) (hw : RrAt w h l a) (hl : l.length ≤ 134217728) (hm : most ≤ 65535) :
    Calls Try.prog 69 #[.pointer (some ⟨h, 0, none⟩), .int .i64 most] w fun e w' => e = .returned (.tuple #[.int .i64 (zr l a 0 (most + 1)).1, .bool (!(zr l a 0 (most + 1)).2.2)]) ∧ RrTo w h l (zr l a 0 (most + 1)).2.1 w' := by
  obtain ⟨Z, hZ⟩ : ∃ Z, Z = zr l a 0 (most + 1) := ⟨_, rfl⟩
  rw [← hZ]
  have Hs := Lib.hid (And.intro hl (And.intro hw hZ))
  clear hl hw hZ
  go_enter Try.func69, Try.ntmps69
  go_wp2_with fail
  go_loopg [6] (most + 2) (fun f i wr => ∃ n a', i = .int .i64 (n : Nat) ∧ n ≤ most + 1 ∧ n + f = most + 2 ∧ RrTo w h l a' wr ∧ zr l a' n (most + 1 - n) = Z)
  case atStart => exact ⟨0, a, rfl, by omega, by omega, RrTo.refl Hs.out.2.1, Hs.out.2.2.symm⟩
  case round =>
    obtain ⟨n, a', rfl, hn1, hn2, hp, hz⟩ := hrel
    have HP := Lib.hid hp
    have HZ := Lib.hid hz
    clear hp hz
    by_cases hlt : n ≤ most
    · by_cases ha : a' < l.length
      · obtain ⟨b, hb⟩ : ∃ b, b = l.getD a' false := ⟨_, rfl⟩
        have HA := Lib.hid (And.intro ha hb)
        clear ha
        go_wp2_with fail
        refine (rrbit_yes HP.out.1 Hs.out.1 HA.out.1).mono ?_
        rintro e w2 ⟨rfl, hp⟩
        rw [← hb]
        have H2 := Lib.hid (HP.out.trans hp)
        clear hp hb
        have hstep : zr l a' n (most + 1 - n) = if b = true then (n, a' + 1, false) else zr l (a' + 1) (n + 1) (most + 1 - (n + 1)) := by
          rw [show most + 1 - n = (most + 1 - (n + 1)) + 1 by omega, zr, if_neg (by have := HA.out.1; omega), ← HA.out.2]
        have HS := Lib.hid (HZ.out.symm.trans hstep)
        clear hstep
        cases b with
        | true =>
          go_wp2_with fail
          go_ret2
          rw [HS.out]
          exact ⟨rfl, H2.out⟩
        | false =>
          go_wp2_with fail
          go_roundg (gk - 1)
          case measure => omega
          case rel => exact ⟨n + 1, a' + 1, by go_num, by omega, by omega, H2.out, by rw [HS.out]; rfl⟩
      · have HA := Lib.hid ha
        clear ha
        go_wp2_with fail
        refine (rrbit_no HP.out.1 Hs.out.1 HA.out).mono ?_
        rintro e w2 ⟨rfl, hp⟩
        have H2 := Lib.hid (HP.out.trans hp)
        clear hp
        have hstep : zr l a' n (most + 1 - n) = (0, a', true) := by
          rw [show most + 1 - n = (most + 1 - (n + 1)) + 1 by omega, zr, if_pos (by have := HA.out; omega)]
        have HS := Lib.hid (HZ.out.symm.trans hstep)
        clear hstep
        go_wp2_with fail
        go_ret2
        rw [HS.out]
        exact ⟨rfl, H2.out⟩
    · have hstep : zr l a' n (most + 1 - n) = (0, a', true) := by rw [show most + 1 - n = 0 by omega, zr]
      have HS := Lib.hid (HZ.out.symm.trans hstep)
      clear hstep
      go_wp2_with fail
      go_ret2
      rw [HS.out]
      exact ⟨rfl, HP.out⟩

/-- the answer of a reading that may fail: the number and the place where it does not -/
def Got (V a' : Nat) (bad : Bool) (h : Nat) (l : List Bool) (w : World) (e : Ending) (w' : World) : Prop :=
  ∃ v b, e = .returned (.tuple #[.int .u64 (v : Nat), .bool (!bad)]) ∧ RrTo w h l b w' ∧ (bad = false → v = V ∧ b = a')

theorem rs_step {k s : Nat} (h1 : 1 ≤ k) (h2 : k ≤ 2 ^ 63) (hs : s ≤ shS k) : (s < 63 ∧ 2 ^ s < k) ↔ s < shS k := by
  obtain ⟨q1, q2⟩ := shS_spec h1 h2
  constructor
  · rintro ⟨a, b⟩
    rcases Nat.lt_or_ge s (shS k) with h | h
    · exact h
    · have : s = shS k := by omega
      subst this; omega
  · intro h
    obtain ⟨p1, p2, p3, p4⟩ := shM_lt h1 h2 (by omega)
    have : 2 ^ s ≤ 2 ^ (shS k - 1) := Nat.pow_le_pow_right (by decide) (by omega)
    omega

theorem got_eq {x y : Int} {b c : Bool} (h : x = y) (h2 : b = c) : Ending.returned (.tuple #[.int .u64 x, .bool b]) = .returned (.tuple #[.int .u64 y, .bool c]) := by rw [h, h2]
theorem bad_eq (C : Int) : (C == 0) = !((0 : Int) != 0 || C != 0) := by cases h : (C == 0) <;> simp [bne, h]
theorem pow63 : (2 : Nat) ^ 63 = 9223372036854775808 := by decide
set_option maxRecDepth 100000 in
set_option maxHeartbeats 4000000 in
theorem rshort_any (h : Nat) (l : List Bool) (a k : Nat) (w : World) (hw : RrAt w h l a) (hl : l.length ≤ 134217728) (h1 : 1 ≤ k) (h2 : k ≤ 2 ^ 63) :
    Calls Try.prog 70 #[.pointer (some ⟨h, 0, none⟩), .int .u64 k] w (Got (rSh l a k).1 (rSh l a k).2.1 (rSh l a k).2.2 h l w) := by
  obtain ⟨q1, q2⟩ := shS_spec h1 h2
  obtain ⟨G, hG⟩ : ∃ G, G = rSh l a k := ⟨_, rfl⟩
  rw [← hG]
  unfold rSh at hG
  have e63 := pow63
  have hstep := fun s (hs : s ≤ shS k) => rs_step h1 h2 hs
  obtain ⟨S, hS⟩ : ∃ S, S = shS k := ⟨_, rfl⟩
  have hm := fun h => shM_lt h1 h2 (by rw [← hS]; exact h)
  obtain ⟨m, hmm⟩ : ∃ m, m = shM k := ⟨_, rfl⟩
  have hmk : 2 ^ S - k = m := by rw [hmm, hS]; rfl
  rw [← hS] at hG hm hstep q1 q2
  rw [← hmm] at hG hm
  have HH := Lib.hid (And.intro hw (And.intro hl (And.intro hG (And.intro hstep (And.intro hm (And.intro q2 hmk))))))
  have hk63 : k ≤ 9223372036854775808 := by omega
  clear hw hl hG hstep hm q2 hmk hmm hS e63 h1 h2
  go_enter Try.func70, Try.ntmps70
  go_wp2_with fail
  go_loopg [6] S (fun f i wr => ∃ n, i = .int .i64 (n : Nat) ∧ n + f = S ∧ wr = w)
  case atStart => exact ⟨0, rfl, by omega, rfl⟩
  case round =>
    obtain ⟨n, rfl, hn, rfl⟩ := hrel
    have hst := HH.out.2.2.2.1 n (by omega)
    obtain ⟨P, hP⟩ : ∃ P, P = 2 ^ n := ⟨_, rfl⟩
    have hwr := shl64 hP (by omega)
    rw [← hP] at hst
    by_cases hlt : n < S
    · have hst2 := hst.2 hlt
      have hn63 : n < 63 := hst2.1
      have hPk : decide ((P : Int) < (k : Int)) = true := decide_eq_true (by omega)
      have hPk2 : decide (P < k) = true := decide_eq_true (by omega)
      have HP := Lib.hid (And.intro hst hP)
      clear hst hst2 hP
      go_wp2_with fail
      go_roundg (gk - 1)
      case measure => omega
      case rel => exact ⟨n + 1, by go_num, by omega, rfl⟩
    · have hnS : n = S := by omega
      have hno : ¬ (n < 63 ∧ P < k) := fun hh => hlt (hst.1 hh)
      have hPk : k ≤ P := by have := HH.out.2.2.2.2.2.1; rw [hP, hnS]; exact this
      have hPm : (P : Int) - (k : Int) = (m : Int) := by have := HH.out.2.2.2.2.2.2; rw [← hnS, ← hP] at this; omega
      have hP63 : P ≤ 9223372036854775808 := by
        rw [hP]; have h3 : 2 ^ n ≤ 2 ^ 63 := Nat.pow_le_pow_right (by decide) (by omega)
        rw [pow63] at h3; exact h3
      have hsub : IntKind.u64.wrap ((P : Int) - (k : Int)) = (m : Int) := by
        rw [hPm]; exact wrap_nat64 _ (by omega)
      have hG := HH.out.2.2.1
      have hmS := HH.out.2.2.2.2.1
      rw [← hnS] at hG hmS
      have hPl : decide ((P : Int) < (k : Int)) = false := decide_eq_false (by omega)
      have hPl2 : decide (P < k) = false := decide_eq_false (by omega)
      have hn63 : n ≤ 63 := by omega
      have HP := Lib.hid (And.intro hP (And.intro hnS (And.intro hP63 hPm)))
      clear hst hlt hn hno hPk hPm hP63 hP hnS
      by_cases h63 : n < 63
      all_goals
        by_cases h0 : n = 0
        · rw [if_pos h0] at hG
          have hn0 : ((n : Int) == 0) = true := by rw [h0]; rfl
          have HG := Lib.hid hG
          clear hG hmS h0
          go_wp2_with fail
          go_ret2
          rw [HG.out]
          exact ⟨0, a, rfl, RrTo.refl HH.out.1, fun _ => ⟨rfl, rfl⟩⟩
        · rw [if_neg h0] at hG
          obtain ⟨p1, p2, p3, p4⟩ := hmS (by have := HP.out.2.1; omega)
          have hlt1 := takeVal_lt l a (n - 1)
          have hlt2 := takeVal_lt l (takeAt l.length a (n - 1 : Nat)) 1
          obtain ⟨V, hV⟩ : ∃ V, V = takeVal l a (n - 1 : Nat) := ⟨_, rfl⟩
          obtain ⟨A1, hA1⟩ : ∃ A1, A1 = takeAt l.length a (n - 1 : Nat) := ⟨_, rfl⟩
          obtain ⟨C, hC⟩ : ∃ C, C = takeCode l.length a (n - 1 : Nat) := ⟨_, rfl⟩
          have HT : Hid (∀ w, RrAt w h l a → Calls Try.prog 18 #[.pointer (some ⟨h, 0, none⟩), .int .i64 ((n : Int) - 1)] w fun e w' => e = .returned (.tuple #[.int .u64 (V : Nat), .int .i64 C]) ∧ RrTo w h l A1 w') := by
            intro w hw
            have := rtake_any h l a (n - 1 : Nat) w hw HH.out.2.1
            rw [← hV, ← hA1, ← hC] at this
            rw [show ((n : Int) - 1) = ((n - 1 : Nat) : Int) by omega]
            exact this
          rw [← hA1] at hlt2
          rw [← hV] at hlt1
          rw [← hV, ← hA1, ← hC] at hG
          obtain ⟨V1, hV1⟩ : ∃ V1, V1 = takeVal l A1 1 := ⟨_, rfl⟩
          obtain ⟨C1, hC1⟩ : ∃ C1, C1 = takeCode l.length A1 1 := ⟨_, rfl⟩
          rw [← hV1, ← hC1] at hG
          rw [show takeVal l A1 ((1 : Nat) : Int) = takeVal l A1 1 from rfl, ← hV1] at hlt2
          have HT1 : Hid (∀ w, RrAt w h l A1 → Calls Try.prog 16 #[.pointer (some ⟨h, 0, none⟩)] w fun e w' => e = .returned (.tuple #[.bool ((V1 : Int) == 1), .int .i64 C1]) ∧ RrTo w h l (takeAt l.length A1 1) w') := by
            intro w hw
            have := rrbit_any h l A1 w hw HH.out.2.1
            rw [← hV1, ← hC1] at this
            exact this
          have hV62 : 2 * V + 1 < 9223372036854775808 := by
            have e2 : 2 * 2 ^ (n - 1) ≤ 2 ^ 63 := by
              rw [Nat.mul_comm, ← Nat.pow_succ]; exact Nat.pow_le_pow_right (by decide) (by omega)
            rw [pow63] at e2
            omega
          have hdbl : IntKind.u64.wrap (2 * (V : Int)) = (2 * (V : Int)) := by
            rw [show (2 * (V : Int)) = ((2 * V : Nat) : Int) by omega]; exact wrap_nat64 _ (by omega)
          have hadd : IntKind.u64.wrap (2 * (V : Int) + 1) = (2 * (V : Int) + 1) := by
            rw [show (2 * (V : Int) + 1) = ((2 * V + 1 : Nat) : Int) by omega]; exact wrap_nat64 _ (by omega)
          have hn0 : ((n : Int) == 0) = false := by simpa using h0
          have HX := Lib.hid (And.intro hlt2 hV62)
          clear p1 p2 p3 p4 hlt1 hlt2 hV hA1 hC hV1 hC1 hV62 h0 hmS
          by_cases hC0 : C = 0
          · subst hC0
            by_cases hmv : m ≤ V
            · have hs1 : IntKind.u64.wrap (2 * (V : Int) - (m : Int)) = ((2 * V + 0 - m : Nat) : Int) := by
                rw [show (2 * (V : Int) - (m : Int)) = ((2 * V + 0 - m : Nat) : Int) by omega]; exact wrap_nat64 _ (by have := HX.out.2; omega)
              have hs2 : IntKind.u64.wrap (2 * (V : Int) + 1 - (m : Int)) = ((2 * V + 1 - m : Nat) : Int) := by
                rw [show (2 * (V : Int) + 1 - (m : Int)) = ((2 * V + 1 - m : Nat) : Int) by omega]; exact wrap_nat64 _ (by have := HX.out.2; omega)
              rw [if_pos hmv] at hG
              have HG := Lib.hid hG
              clear hG
              go_wp2_with fail
              refine (HT.out _ HH.out.1).mono ?_
              rintro e w1 ⟨rfl, hp⟩
              have H1 := Lib.hid hp
              clear hp
              go_wp2_with fail
              refine (HT1.out _ H1.out.1).mono ?_
              rintro e w2 ⟨rfl, hp⟩
              have H2 := Lib.hid (H1.out.trans hp)
              clear hp
              rcases (show V1 = 0 ∨ V1 = 1 by have := HX.out.1; omega) with rfl | rfl
              · go_wp2_with fail
                go_ret2
                rw [HG.out]
                refine ⟨2 * V + 0 - m, _, ?_, H2.out, fun _ => ⟨rfl, rfl⟩⟩
                exact got_eq rfl (bad_eq _)
              · go_wp2_with fail
                go_ret2
                rw [HG.out]
                refine ⟨2 * V + 1 - m, _, ?_, H2.out, fun _ => ⟨rfl, rfl⟩⟩
                exact got_eq rfl (bad_eq _)
            · rw [if_neg hmv] at hG
              have HG := Lib.hid hG
              clear hG
              go_wp2_with fail
              refine (HT.out _ HH.out.1).mono ?_
              rintro e w1 ⟨rfl, hp⟩
              have H1 := Lib.hid hp
              clear hp
              go_wp2_with fail
              go_ret2
              rw [HG.out]
              exact ⟨V, A1, rfl, H1.out, fun _ => ⟨rfl, rfl⟩⟩
          · have hCn : (C != 0) = true := by simpa using hC0
            have hbad : G.2.2 = true := by
              rw [hG]
              split
              · show (C != 0 || C1 != 0) = true
                rw [hCn]; rfl
              · exact hCn
            have HG := Lib.hid hbad
            clear hG hbad hC0
            go_wp2_with fail
            refine (HT.out _ HH.out.1).mono ?_
            rintro e w1 ⟨rfl, hp⟩
            have H1 := Lib.hid hp
            clear hp
            go_wp2_with fail
            go_ret2
            rw [HG.out]
            exact ⟨0, A1, rfl, H1.out, fun h => by cases h⟩

theorem zr_bad {B : List Bool} {a f g : Nat} (hfg : f ≤ g) (h : (zr B a 0 g).2.2 = true) : (zr B a 0 f).2.2 = true := by
  cases h2 : (zr B a 0 f).2.2 with
  | true => rfl
  | false =>
    obtain ⟨m, q1, q2, q3⟩ := zr_bwd B f a 0 h2
    rw [zr_fwd B m g a 0 (by omega) q3] at h
    cases h
theorem zr_less {B : List Bool} {a f g m a' : Nat} (h : zr B a 0 g = (m, a', false)) (hm : m < f) : zr B a 0 f = (m, a', false) := by
  obtain ⟨m', q1, q2, q3⟩ := zr_bwd B g a 0 (by rw [h])
  rw [Nat.zero_add] at q2
  rw [h] at q2
  obtain ⟨rfl, rfl⟩ : m = m' ∧ a' = a + m' + 1 := by simpa using q2
  rw [zr_fwd B m f a 0 hm q3, Nat.zero_add]
theorem zr_great {B : List Bool} {a f g m a' : Nat} (hfg : f ≤ g) (h : zr B a 0 g = (m, a', false)) (hm : ¬ m < f) : (zr B a 0 f).2.2 = true := by
  cases h2 : (zr B a 0 f).2.2 with
  | true => rfl
  | false =>
    obtain ⟨m', q1, q2, q3⟩ := zr_bwd B f a 0 h2
    rw [zr_fwd B m' g a 0 (by omega) q3, Nat.zero_add] at h
    have : m' = m := by simpa using congrArg Prod.fst h
    omega
/-- 'read' of the reference at one code, text and place -/
def Rd (kd K : Nat) (l : List Bool) (a V a' : Nat) (bad : Bool) : Prop := ∀ h w, RrAt w h l a → Calls Try.prog 59 #[.pointer (some ⟨h, 0, none⟩), .agg #[.int .u8 kd, .int .u64 K]] w (Got V a' bad h l w)
theorem Got.from {V a' : Nat} {bad : Bool} {h : Nat} {l : List Bool} {w w1 w' : World} {a : Nat} {e : Ending} (x : RrTo w h l a w1) (g : Got V a' bad h l w1 e w') : Got V a' bad h l w e w' := by
  obtain ⟨v, b, q1, q2, q3⟩ := g
  exact ⟨v, b, q1, x.trans q2, q3⟩
theorem RrAt.alloc_ {w : World} {h a : Nat} {l : List Bool} (hw : RrAt w h l a) (o : Obj) : RrTo w h l a (w.alloc o) := ⟨hw.only ((Only.refl (fun _ => False) w).alloc o), (Only.refl _ w).alloc o⟩

set_option maxRecDepth 100000 in
set_option maxHeartbeats 4000000 in
theorem rd_unary (K : Nat) (l : List Bool) (a : Nat) (hl : l.length ≤ 134217728) : Rd 0 K l a (zr l a 0 65536).1 (zr l a 0 65536).2.1 (zr l a 0 65536).2.2 := by
  intro h w hw
  have H0 := Lib.hid (hw.alloc_ (.cells #[.int .u8 0, .int .u64 K] 73))
  have hle := zr_le l 65535 65536 a 0 (by decide)
  have HT : Hid (∀ w, RrAt w h l a → Calls Try.prog 69 #[.pointer (some ⟨h, 0, none⟩), .int .i64 65535] w fun e w' => e = .returned (.tuple #[.int .i64 (zr l a 0 65536).1, .bool (!(zr l a 0 65536).2.2)]) ∧ RrTo w h l (zr l a 0 65536).2.1 w') := fun w hw => rzeros_any h l a 65535 w hw hl (by decide)
  obtain ⟨Z, hZ⟩ : ∃ Z, Z = zr l a 0 65536 := ⟨_, rfl⟩
  rw [← hZ] at HT hle
  rw [← hZ]
  clear hZ hw
  obtain ⟨z, a1, b⟩ := Z
  simp only at hle HT ⊢
  go_enter Try.func59, Try.ntmps59
  go_wp2_with fail
  refine (HT.out _ H0.out.1).mono ?_
  rintro e w1 ⟨rfl, hp⟩
  have H1 := Lib.hid (H0.out.trans hp)
  clear hp
  go_wp2_with fail
  go_ret2
  exact ⟨z, a1, rfl, H1.out, fun _ => ⟨rfl, rfl⟩⟩

set_option maxRecDepth 100000 in
set_option maxHeartbeats 4000000 in
theorem rd_min (K : Nat) (l : List Bool) (a : Nat) (hl : l.length ≤ 134217728) (h1 : 1 ≤ K) (h2 : K ≤ 281474976710655) : Rd 4 K l a (rSh l a K).1 (rSh l a K).2.1 (rSh l a K).2.2 := by
  intro h w hw
  have H0 := Lib.hid (hw.alloc_ (.cells #[.int .u8 4, .int .u64 K] 73))
  have HT : Hid (∀ w, RrAt w h l a → Calls Try.prog 70 #[.pointer (some ⟨h, 0, none⟩), .int .u64 K] w (Got (rSh l a K).1 (rSh l a K).2.1 (rSh l a K).2.2 h l w)) := fun w hw => rshort_any h l a K w hw hl h1 (by rw [pow63]; omega)
  clear hw h1 h2
  go_enter Try.func59, Try.ntmps59
  go_wp2_with fail
  refine (HT.out _ H0.out.1).mono ?_
  rintro e w1 ⟨v, b, rfl, hp, hq⟩
  have H1 := Lib.hid (And.intro (H0.out.trans hp) hq)
  clear hp hq
  go_wp2_with fail
  go_ret2
  exact ⟨v, b, rfl, H1.out.1, H1.out.2⟩

set_option maxRecDepth 100000 in
set_option maxHeartbeats 4000000 in
theorem rd_gamma (K : Nat) (l : List Bool) (a : Nat) (hl : l.length ≤ 134217728) : Rd 1 K l a (gm l a 47).1 (gm l a 47).2.1 (gm l a 47).2.2 := by
  intro h w hw
  have H0 := Lib.hid (hw.alloc_ (.cells #[.int .u8 1, .int .u64 K] 73))
  have hB := (Blk.new w 73 #[.int .u8 (1 : Nat), .int .u64 K])
  have hle := zr_le l 47 48 a 0 (by decide)
  have HT : Hid (∀ w, RrAt w h l a → Calls Try.prog 69 #[.pointer (some ⟨h, 0, none⟩), .int .i64 47] w fun e w' => e = .returned (.tuple #[.int .i64 (zr l a 0 48).1, .bool (!(zr l a 0 48).2.2)]) ∧ RrTo w h l (zr l a 0 48).2.1 w') := fun w hw => rzeros_any h l a 47 w hw hl (by decide)
  obtain ⟨G, hG⟩ : ∃ G, G = gm l a 47 := ⟨_, rfl⟩
  rw [← hG]
  unfold gm at hG
  rw [show 47 + 1 = 48 from rfl] at hG
  obtain ⟨Z, hZ⟩ : ∃ Z, Z = zr l a 0 48 := ⟨_, rfl⟩
  rw [← hZ] at HT hle hG
  obtain ⟨b, a1, bad⟩ := Z
  simp only at hle HT hG
  have hlt := takeVal_lt l a1 b
  obtain ⟨X, hX⟩ : ∃ X, X = takeVal l a1 (b : Nat) := ⟨_, rfl⟩
  obtain ⟨C, hC⟩ : ∃ C, C = takeCode l.length a1 (b : Nat) := ⟨_, rfl⟩
  have HU : Hid (∀ w, RrAt w h l a1 → Calls Try.prog 18 #[.pointer (some ⟨h, 0, none⟩), .int .i64 b] w fun e w' => e = .returned (.tuple #[.int .u64 (X : Nat), .int .i64 C]) ∧ RrTo w h l (takeAt l.length a1 b) w') := by
    intro w hw
    have := rtake_any h l a1 b w hw hl
    rw [← hX, ← hC] at this
    exact this
  rw [← hX] at hlt hG
  rw [← hC] at hG
  obtain ⟨P, hP⟩ : ∃ P, P = 2 ^ b := ⟨_, rfl⟩
  have hwr := shl64 hP (by omega)
  have hP1 : 1 ≤ P := by rw [hP]; exact Nat.one_le_two_pow
  have hP48 : P ≤ 140737488355328 := by
    rw [hP]; have h2 : 2 ^ b ≤ 2 ^ 47 := Nat.pow_le_pow_right (by decide) (by omega)
    have e : (2 : Nat) ^ 47 = 140737488355328 := by decide
    omega
  rw [← hP] at hlt hG
  have hadd : IntKind.u64.wrap ((X : Int) + (P : Int)) = ((X : Int) + (P : Int)) := by
    rw [show ((X : Int) + (P : Int)) = ((X + P : Nat) : Int) by omega]; exact wrap_nat64 _ (by omega)
  have hsub : IntKind.u64.wrap ((X : Int) + (P : Int) - 1) = ((X + P - 1 : Nat) : Int) := by
    rw [show ((X : Int) + (P : Int) - 1) = ((X + P - 1 : Nat) : Int) by omega]; exact wrap_nat64 _ (by omega)
  have HG := Lib.hid hG
  have hB2 := Lib.hid (And.intro hB (Blk.lt hB))
  clear hG hX hC hP hlt hP1 hP48 hZ hw hl hB
  go_enter Try.func59, Try.ntmps59
  go_wp2_with fail
  obtain ⟨w1, hw1⟩ : ∃ w1, w1 = w.alloc (.cells #[.int .u8 1, .int .u64 K] 73) := ⟨_, rfl⟩
  obtain ⟨g, hg⟩ : ∃ g, g = w.heap.size := ⟨_, rfl⟩
  have H0 : Hid (RrTo w h l a w1) := by rw [hw1]; exact H0.out
  have hB3 : Blk w1 g 73 #[.int .u8 (1 : Nat), .int .u64 K] := by rw [hw1, hg]; exact hB2.out.1
  have hgl : w.heap.size ≤ g := by omega
  rw [← hw1, ← hg]
  have HB3 := Lib.hid (And.intro hB3 hgl)
  clear hw1 hg hB3 hgl
  refine (HT.out _ H0.out.1).mono ?_
  rintro e w2 ⟨rfl, hp⟩
  have hB4 : Blk w2 g 73 #[.int .u8 (1 : Nat), .int .u64 K] := HB3.out.1.only hp.2 (fun e => by
    obtain ⟨A, c, hbb, _⟩ := H0.out.1
    exact hbb.ne_ HB3.out.1 (by decide) e.symm)
  have c0 : w2.cell? ⟨g, 0, none⟩ = some (.int .u8 1) := by rw [hB4.cell 0]; rfl
  have H1 := Lib.hid (H0.out.trans hp)
  clear hp hB4
  cases bad with
  | true =>
    go_wp2_with fail
    go_ret2
    rw [HG.out]
    exact ⟨0, a1, rfl, H1.out, fun h => by cases h⟩
  | false =>
    go_wp2_with fail
    refine (HU.out _ H1.out.1).mono ?_
    rintro e w3 ⟨rfl, hp⟩
    have H2 := Lib.hid (H1.out.trans hp)
    clear hp
    go_wp2_with fail
    go_ret2
    rw [HG.out]
    exact ⟨X + P - 1, _, got_eq rfl (by cases h : (C == 0) <;> simp [bne, h]), H2.out, fun _ => ⟨rfl, rfl⟩⟩

theorem blk_rr {w w2 : World} {h g a a2 : Nat} {l : List Bool} {cs : Array Value} (hr : RrAt w h l a) (hb : Blk w g 73 cs) (p : RrTo w h l a2 w2) : Blk w2 g 73 cs := hb.only p.2 (fun e => by
    obtain ⟨A, c, hbb, _⟩ := hr
    exact hbb.ne_ hb (by decide) e.symm)
theorem p48 {P b : Nat} (hP : P = 2 ^ b) (hb : b ≤ 47) : 1 ≤ P ∧ P ≤ 140737488355328 := by
  refine ⟨by rw [hP]; exact Nat.one_le_two_pow, ?_⟩
  rw [hP]; have h2 : 2 ^ b ≤ 2 ^ 47 := Nat.pow_le_pow_right (by decide) (by omega)
  have e : (2 : Nat) ^ 47 = 140737488355328 := by decide
  omega
theorem wadd {X P : Nat} (h : X + P < 18446744073709551616) : IntKind.u64.wrap ((X : Int) + (P : Int)) = ((X : Int) + (P : Int)) := by
  rw [show ((X : Int) + (P : Int)) = ((X + P : Nat) : Int) by omega]; exact wrap_nat64 _ h
theorem wadd1 {X P : Nat} (h : X + P < 18446744073709551616) (h1 : 1 ≤ P) : IntKind.u64.wrap ((X : Int) + (P : Int) - 1) = ((X + P - 1 : Nat) : Int) := by
  rw [show ((X : Int) + (P : Int) - 1) = ((X + P - 1 : Nat) : Int) by omega]; exact wrap_nat64 _ (by omega)

set_option maxRecDepth 100000 in
set_option maxHeartbeats 8000000 in
theorem rd_delta (K : Nat) (l : List Bool) (a : Nat) (hl : l.length ≤ 134217728) : Rd 2 K l a (rDel l (gm l a 5)).1 (rDel l (gm l a 5)).2.1 (rDel l (gm l a 5)).2.2 := by
  intro h w hw
  have H0 := Lib.hid (hw.alloc_ (.cells #[.int .u8 2, .int .u64 K] 73))
  have hB := (Blk.new w 73 #[.int .u8 (2 : Nat), .int .u64 K])
  have hB2 := Lib.hid (And.intro hB (Blk.lt hB))
  have hle := zr_le l 47 48 a 0 (by decide)
  have HT : Hid (∀ w, RrAt w h l a → Calls Try.prog 69 #[.pointer (some ⟨h, 0, none⟩), .int .i64 47] w fun e w' => e = .returned (.tuple #[.int .i64 (zr l a 0 48).1, .bool (!(zr l a 0 48).2.2)]) ∧ RrTo w h l (zr l a 0 48).2.1 w') := fun w hw => rzeros_any h l a 47 w hw hl (by decide)
  have hbad : (zr l a 0 48).2.2 = true → (zr l a 0 6).2.2 = true := zr_bad (by decide)
  have hgood : ∀ m a', zr l a 0 48 = (m, a', false) → (m < 6 → zr l a 0 6 = (m, a', false)) ∧ (¬ m < 6 → (zr l a 0 6).2.2 = true) := fun m a' e => ⟨zr_less e, zr_great (by decide) e⟩
  obtain ⟨D, hD⟩ : ∃ D, D = rDel l (gm l a 5) := ⟨_, rfl⟩
  rw [← hD]
  have hgz : (zr l a 0 6).2.2 = true → D.2.2 = true := by
    intro hh
    have hg2 : (gm l a 5).2.2 = true := by unfold gm; simp only [show 5 + 1 = 6 from rfl, hh, Bool.true_or]
    rw [hD]; unfold rDel
    split
    · rfl
    · simp only [hg2, Bool.true_or]
  obtain ⟨Z, hZ⟩ : ∃ Z, Z = zr l a 0 48 := ⟨_, rfl⟩
  rw [← hZ] at HT hle hbad hgood
  obtain ⟨b, a1, bad⟩ := Z
  simp only at hle HT hbad
  have hlt := takeVal_lt l a1 b
  obtain ⟨X, hX⟩ : ∃ X, X = takeVal l a1 (b : Nat) := ⟨_, rfl⟩
  obtain ⟨C, hC⟩ : ∃ C, C = takeCode l.length a1 (b : Nat) := ⟨_, rfl⟩
  obtain ⟨a2, ha2⟩ : ∃ a2, a2 = takeAt l.length a1 (b : Nat) := ⟨_, rfl⟩
  have HU : Hid (∀ w, RrAt w h l a1 → Calls Try.prog 18 #[.pointer (some ⟨h, 0, none⟩), .int .i64 b] w fun e w' => e = .returned (.tuple #[.int .u64 (X : Nat), .int .i64 C]) ∧ RrTo w h l a2 w') := by
    intro w hw
    have := rtake_any h l a1 b w hw hl
    rw [← hX, ← hC, ← ha2] at this
    exact this
  rw [← hX] at hlt
  obtain ⟨P, hP⟩ : ∃ P, P = 2 ^ b := ⟨_, rfl⟩
  have hwr := shl64 hP (by omega)
  obtain ⟨hP1, hP48⟩ := p48 hP hle
  rw [← hP] at hlt
  have hadd := wadd (X := X) (P := P) (by omega)
  have hsub := wadd1 (X := X) (P := P) (by omega) hP1
  have hgm : bad = false → b < 6 → gm l a 5 = (X + P - 1, a2, C != 0) := by
    intro hb0 hb6
    subst hb0
    have := (hgood b a1 rfl).1 hb6
    unfold gm
    rw [show 5 + 1 = 6 from rfl, this]
    simp only [Bool.false_or, ← hX, ← hC, ← ha2, ← hP]
  have hgr : bad = false → ¬ b < 6 → D.2.2 = true := by
    intro hb0 hb6
    subst hb0
    exact hgz ((hgood b a1 rfl).2 hb6)
  obtain ⟨N, hN⟩ : ∃ N, N = X + P - 1 := ⟨_, rfl⟩
  rw [← hN] at hsub hgm
  have hN48 : N ≤ 281474976710656 := by omega
  have hbd : bad = true → D.2.2 = true := fun hh => hgz (hbad hh)
  have HG := Lib.hid (And.intro hD (And.intro hgm (And.intro hgr hbd)))
  have HL := Lib.hid hl
  clear hD hgm hgr hbd hbad hgood hgz hX hC ha2 hP hlt hP1 hP48 hZ hw hl hB hN
  go_enter Try.func59, Try.ntmps59
  go_wp2_with fail
  obtain ⟨w1, hw1⟩ : ∃ w1, w1 = w.alloc (.cells #[.int .u8 2, .int .u64 K] 73) := ⟨_, rfl⟩
  obtain ⟨g, hg⟩ : ∃ g, g = w.heap.size := ⟨_, rfl⟩
  have H0 : Hid (RrTo w h l a w1) := by rw [hw1]; exact H0.out
  have hB3 : Blk w1 g 73 #[.int .u8 (2 : Nat), .int .u64 K] := by rw [hw1, hg]; exact hB2.out.1
  rw [← hw1, ← hg]
  have HB3 := Lib.hid hB3
  clear hw1 hg hB3
  refine (HT.out _ H0.out.1).mono ?_
  rintro e w2 ⟨rfl, hp⟩
  have hB4 := blk_rr H0.out.1 HB3.out hp
  have c0 : w2.cell? ⟨g, 0, none⟩ = some (.int .u8 2) := by rw [hB4.cell 0]; rfl
  have H1 := Lib.hid (And.intro (H0.out.trans hp) hB4)
  clear hp hB4
  cases bad with
  | true =>
    go_wp2_with fail
    go_ret2
    rw [HG.out.2.2.2 (by trivial)]
    exact ⟨0, a1, rfl, H1.out.1, fun h => by cases h⟩
  | false =>
    go_wp2_with fail
    refine (HU.out _ H1.out.1.1).mono ?_
    rintro e w3 ⟨rfl, hp⟩
    have H2 := Lib.hid (H1.out.1.trans hp)
    clear hp
    by_cases hC0 : C = 0
    · subst hC0
      by_cases hN47 : N ≤ 47
      · by_cases hb6 : b < 6
        · have hd1 : decide ((47 : Int) < (N : Int)) = false := decide_eq_false (by omega)
          have hd2 : decide ((5 : Int) < (b : Int)) = false := decide_eq_false (by omega)
          have hgm2 := HG.out.2.1 (by trivial) hb6
          have hD := HG.out.1
          rw [hgm2] at hD
          unfold rDel at hD
          simp only at hD
          rw [if_neg (by omega)] at hD
          have hlt := takeVal_lt l a2 N
          obtain ⟨Y, hY⟩ : ∃ Y, Y = takeVal l a2 (N : Nat) := ⟨_, rfl⟩
          obtain ⟨C2, hC2⟩ : ∃ C2, C2 = takeCode l.length a2 (N : Nat) := ⟨_, rfl⟩
          have HU2 : Hid (∀ w, RrAt w h l a2 → Calls Try.prog 18 #[.pointer (some ⟨h, 0, none⟩), .int .i64 N] w fun e w' => e = .returned (.tuple #[.int .u64 (Y : Nat), .int .i64 C2]) ∧ RrTo w h l (takeAt l.length a2 N) w') := by
            intro w hw
            have := rtake_any h l a2 N w hw HL.out
            rw [← hY, ← hC2] at this
            exact this
          rw [← hY] at hlt hD
          rw [← hC2] at hD
          obtain ⟨Q, hQ⟩ : ∃ Q, Q = 2 ^ N := ⟨_, rfl⟩
          have hwr2 := shl64 hQ (by omega)
          obtain ⟨hQ1, hQ48⟩ := p48 hQ hN47
          rw [← hQ] at hlt hD
          have hadd2 := wadd (X := Y) (P := Q) (by omega)
          have hsub2 := wadd1 (X := Y) (P := Q) (by omega) hQ1
          have HD := Lib.hid hD
          clear hD hgm2 hY hC2 hQ hlt hQ1 hQ48
          go_wp2_with fail
          refine (HU2.out _ H2.out.1).mono ?_
          rintro e w4 ⟨rfl, hp⟩
          have H3 := Lib.hid (H2.out.trans hp)
          clear hp
          go_wp2_with fail
          go_ret2
          rw [HD.out]
          exact ⟨Y + Q - 1, _, got_eq rfl (bad_eq _), H3.out, fun _ => ⟨rfl, rfl⟩⟩
        · have hd1 : decide ((47 : Int) < (N : Int)) = false := decide_eq_false (by omega)
          have hd2 : decide ((5 : Int) < (b : Int)) = true := decide_eq_true (by omega)
          have HD := Lib.hid (HG.out.2.2.1 (by trivial) hb6)
          clear hb6
          go_wp2_with fail
          go_ret2
          rw [HD.out]
          exact ⟨0, _, rfl, H2.out, fun h => by cases h⟩
      · have hd1 : decide ((47 : Int) < (N : Int)) = true := decide_eq_true (by omega)
        have hDb : D.2.2 = true := by
          by_cases hb6 : b < 6
          · have hgm2 := HG.out.2.1 (by trivial) hb6
            rw [HG.out.1, hgm2]
            unfold rDel
            simp only
            rw [if_pos (by omega)]
          · exact HG.out.2.2.1 (by trivial) hb6
        have HD := Lib.hid hDb
        clear hDb hN47
        go_wp2_with fail
        go_ret2
        rw [HD.out]
        exact ⟨0, _, rfl, H2.out, fun h => by cases h⟩
    · have hCn : (C != 0) = true := by simpa using hC0
      have hDb : D.2.2 = true := by
        by_cases hb6 : b < 6
        · have hgm2 := HG.out.2.1 (by trivial) hb6
          rw [HG.out.1, hgm2]
          unfold rDel
          simp only
          split
          · rfl
          · rw [hCn]; rfl
        · exact HG.out.2.2.1 (by trivial) hb6
      have HD := Lib.hid hDb
      clear hDb hC0
      go_wp2_with fail
      go_ret2
      rw [HD.out]
      exact ⟨0, _, rfl, H2.out, fun h => by cases h⟩

set_option maxRecDepth 100000 in
set_option maxHeartbeats 8000000 in
theorem rd_zeta (K : Nat) (l : List Bool) (a : Nat) (hl : l.length ≤ 134217728) (h1 : 1 ≤ K) (h2 : K ≤ 16) :
    Rd 3 K l a (rZet l K (zr l a 0 (47 / K + 1))).1 (rZet l K (zr l a 0 (47 / K + 1))).2.1 (rZet l K (zr l a 0 (47 / K + 1))).2.2 := by
  intro h w hw
  have H0 := Lib.hid (hw.alloc_ (.cells #[.int .u8 3, .int .u64 K] 73))
  have hB := (Blk.new w 73 #[.int .u8 (3 : Nat), .int .u64 K])
  have hB2 := Lib.hid (And.intro hB (Blk.lt hB))
  have hq : 47 / K ≤ 47 := Nat.div_le_self _ _
  have hle := zr_le l (47 / K) (47 / K + 1) a 0 (by omega)
  obtain ⟨q, hqq⟩ : ∃ q, q = 47 / K := ⟨_, rfl⟩
  have hqK : (47 : Int) / (K : Int) = (q : Int) := by rw [hqq]; rfl
  rw [← hqq] at hq hle
  obtain ⟨Z, hZ⟩ : ∃ Z, Z = zr l a 0 (q + 1) := ⟨_, rfl⟩
  have HT : Hid (∀ w, RrAt w h l a → Calls Try.prog 69 #[.pointer (some ⟨h, 0, none⟩), .int .i64 q] w fun e w' => e = .returned (.tuple #[.int .i64 (Z.1 : Nat), .bool (!Z.2.2)]) ∧ RrTo w h l Z.2.1 w') := by
    intro w hw
    have := rzeros_any h l a q w hw hl (by omega)
    rw [← hZ] at this
    exact this
  rw [← hqq, ← hZ]
  rw [← hZ] at hle
  obtain ⟨z, a1, bad⟩ := Z
  simp only at hle HT
  obtain ⟨b1, b2, b3, b4⟩ := z_bound h1 h2 (show z ≤ 47 / K by omega)
  obtain ⟨F, hF⟩ : ∃ F, F = zFr K z := ⟨_, rfl⟩
  have hF1 : 1 ≤ F := by rw [hF]; exact zFr_pos K z
  obtain ⟨D, hD⟩ : ∃ D, D = rZet l K (z, a1, bad) := ⟨_, rfl⟩
  rw [← hD]
  unfold rZet at hD
  simp only at hD
  rw [← hF] at hD b1 b2 b3 b4
  obtain ⟨T, hT⟩ : ∃ T, T = F * 2 ^ K := ⟨_, rfl⟩
  rw [← hT] at hD b2 b3 b4
  obtain ⟨zk, hzk⟩ : ∃ zk, zk = z * K := ⟨_, rfl⟩
  obtain ⟨zk1, hzk1⟩ : ∃ zk1, zk1 = (z + 1) * K := ⟨_, rfl⟩
  have hzk47 : zk ≤ 47 := by
    have := Nat.div_mul_le_self 47 K
    have := Nat.mul_le_mul_right K (show z ≤ 47 / K by omega)
    rw [hzk]; omega
  have hzk63 : zk1 ≤ 63 := by rw [hzk1, Nat.add_mul, ← hzk]; omega
  have hF2 : F = 2 ^ zk := by rw [hF, hzk]; rfl
  have hT2 : T = 2 ^ zk1 := by rw [b2, hzk1]; rfl
  have e47 : (2 : Nat) ^ 47 = 140737488355328 := by decide
  have e63 : (2 : Nat) ^ 63 = 9223372036854775808 := by decide
  have q2 : (z : Int) * (K : Int) = (zk : Int) := by rw [hzk]; rfl
  have q2' : ((z : Int) + 1) * (K : Int) = (zk1 : Int) := by rw [hzk1]; rfl
  have q3 := shl64 hF2 (by omega)
  have q3' := shl64 hT2 (by omega)
  have q6 : IntKind.u64.wrap ((T : Int) - (F : Int)) = ((T - F : Nat) : Int) := by
    rw [show ((T : Int) - (F : Int)) = ((T - F : Nat) : Int) by omega]; exact wrap_nat64 _ (by omega)
  have hxb := rSh_bd l a1 (T - F) b3 b4
  obtain ⟨X, hX⟩ : ∃ X, X = rSh l a1 (T - F) := ⟨_, rfl⟩
  have HS : Hid (∀ w, RrAt w h l a1 → Calls Try.prog 70 #[.pointer (some ⟨h, 0, none⟩), .int .u64 (T - F : Nat)] w (Got X.1 X.2.1 X.2.2 h l w)) := by
    rw [hX]; exact fun w hw => rshort_any h l a1 (T - F) w hw hl b3 b4
  rw [← hX] at hD hxb
  obtain ⟨x, a2, bad2⟩ := X
  simp only at hD hxb HS
  have q7 := wadd (X := x) (P := F) (by omega)
  have q8 := wadd1 (X := x) (P := F) (by omega) hF1
  have q9 : ∀ v : Nat, ∃ u : Nat, IntKind.u64.wrap (IntKind.u64.wrap ((v : Int) + (F : Int)) - 1) = (u : Int) := fun v => ⟨(IntKind.u64.wrap (IntKind.u64.wrap ((v : Int) + (F : Int)) - 1)).toNat, by
    have : 0 ≤ IntKind.u64.wrap (IntKind.u64.wrap ((v : Int) + (F : Int)) - 1) := by
      unfold IntKind.wrap
      simp [IntKind.signed, IntKind.bits]
      omega
    omega⟩
  have HD := Lib.hid hD
  have HQ := Lib.hid q9
  have hz47 : z ≤ 47 := by omega
  clear hX hD hxb hF hF2 hT hT2 hzk hzk1 b1 b2 b3 b4 e47 e63 hqq hF1 hZ hw hB q9
  go_enter Try.func59, Try.ntmps59
  go_wp2_with fail
  obtain ⟨w1, hw1⟩ : ∃ w1, w1 = w.alloc (.cells #[.int .u8 3, .int .u64 K] 73) := ⟨_, rfl⟩
  obtain ⟨g, hg⟩ : ∃ g, g = w.heap.size := ⟨_, rfl⟩
  have H0 : Hid (RrTo w h l a w1) := by rw [hw1]; exact H0.out
  have hB3 : Blk w1 g 73 #[.int .u8 (3 : Nat), .int .u64 K] := by rw [hw1, hg]; exact hB2.out.1
  rw [← hw1, ← hg]
  have HB3 := Lib.hid hB3
  clear hw1 hg hB3
  refine (HT.out _ H0.out.1).mono ?_
  rintro e w2 ⟨rfl, hp⟩
  have hB4 := blk_rr H0.out.1 HB3.out hp
  have c0 : w2.cell? ⟨g, 0, none⟩ = some (.int .u8 3) := by rw [hB4.cell 0]; rfl
  have c1 : w2.cell? ⟨g, 1, none⟩ = some (.int .u64 K) := by rw [hB4.cell 1]; rfl
  have H1 := Lib.hid (H0.out.trans hp)
  clear hp hB4
  cases bad with
  | true =>
    go_wp2_with fail
    go_ret2
    rw [HD.out]
    exact ⟨0, a1, rfl, H1.out, fun h => by cases h⟩
  | false =>
    go_wp2_with fail
    refine (HS.out _ H1.out.1).mono ?_
    rintro e w3 ⟨v, b, rfl, hp, hv⟩
    have H2 := Lib.hid (H1.out.trans hp)
    have HV := Lib.hid hv
    clear hp hv
    cases bad2 with
    | true =>
      go_wp2_with fail
      go_ret2
      rw [HD.out]
      obtain ⟨u, hu⟩ := HQ.out v
      exact ⟨u, b, got_eq hu rfl, H2.out, fun h => by cases h⟩
    | false =>
      obtain ⟨rfl, rfl⟩ := HV.out rfl
      go_wp2_with fail
      go_ret2
      rw [HD.out]
      exact ⟨v + F - 1, b, rfl, H2.out, fun _ => ⟨rfl, rfl⟩⟩
theorem rd_any (kd K : Nat) (l : List Bool) (a : Nat) (hl : l.length ≤ 134217728) (hok : cOk kd K = true) : Rd kd K l a (rd l a kd K).1 (rd l a kd K).2.1 (rd l a kd K).2.2 := by
  unfold cOk at hok
  simp only [Bool.or_eq_true, Bool.and_eq_true, decide_eq_true_eq] at hok
  unfold rd
  rcases hok with (⟨x, y⟩ | ⟨x, y, z⟩) | ⟨x, y, z⟩
  · rcases (show kd = 0 ∨ kd = 1 ∨ kd = 2 by omega) with rfl | rfl | rfl
    · exact rd_unary K l a hl
    · exact rd_gamma K l a hl
    · exact rd_delta K l a hl
  · subst x; exact rd_zeta K l a hl y z
  · subst x; exact rd_min K l a hl y z

theorem RrAt.below_ {w w' : World} {h a : Nat} {l : List Bool} (hw : RrAt w h l a) (k : Below w.heap.size w w') : RrTo w h l a w' :=
  ⟨hw.only (Only.of_below (F := fun _ => False) k), (Only.of_below (F := fun k => k = h) k)⟩
theorem RrAt.at_set {w : World} {h a a' : Nat} {l : List Bool} (hw : RrAt w h l a) (ha : a' ≤ l.length) : RrTo w h l a' (w.setCell ⟨h, 1, none⟩ (.int .i64 (a' : Nat))) := by
  obtain ⟨A, c, hb, _, hown⟩ := hw
  have ho := (Only.refl (fun k => k = h) w).setCell (p := ⟨h, 1, none⟩) (.inl rfl) (.int .i64 (a' : Nat))
  exact ⟨⟨A, c, blk_set1 hb, ha, own_only hown ho (fun k hk => own_blk_ne hown hb (by decide) k hk)⟩, ho⟩
theorem RrAt.cell1 {w : World} {h a : Nat} {l : List Bool} (hw : RrAt w h l a) : w.cell? ⟨h, 1, none⟩ = some (.int .i64 (a : Nat)) ∧ w.frozen? ⟨h, 1, none⟩ = false ∧ a ≤ l.length := by
  obtain ⟨A, c, hb, ha, hown⟩ := hw
  exact ⟨by rw [hb.cell 1]; rfl, hb.frozen 1, ha⟩

set_option maxRecDepth 100000 in
set_option maxHeartbeats 8000000 in
theorem rread_any (h : Nat) (l : List Bool) (a kd K : Nat) (w : World) (hw : RrAt w h l a) (hl : l.length ≤ 134217728) (hK : K < 18446744073709551616) :
    Calls Try.prog 39 #[.pointer (some ⟨h, 0, none⟩), .agg #[.int .u8 kd, .int .u64 K]] w fun e w' => e = .returned (.tuple #[.int .u64 (rV l a kd K : Nat), .int .i64 (rE l a kd K)]) ∧ RrTo w h l (rA l a kd K) w' := by
  have H0 := Lib.hid (hw.alloc_ (.cells #[.int .u8 kd, .int .u64 K] 73))
  have hB := (Blk.new w 73 #[.int .u8 kd, .int .u64 K])
  have hB2 := Lib.hid hB
  obtain ⟨_, _, hal⟩ := hw.cell1
  have HS := Lib.hid (And.intro hl (And.intro hK hal))
  obtain ⟨E, hE⟩ : ∃ E, E = rE l a kd K := ⟨_, rfl⟩
  obtain ⟨V, hV⟩ : ∃ V, V = rV l a kd K := ⟨_, rfl⟩
  obtain ⟨a', ha'⟩ : ∃ a', a' = rA l a kd K := ⟨_, rfl⟩
  rw [← hE, ← hV, ← ha']
  cases hok : cOk kd K with
  | false =>
    have HX : Hid (E = 1 ∧ V = 0 ∧ a' = a) := by
      unfold rE at hE; unfold rV at hV; unfold rA at ha'
      rw [hok] at hE hV ha'
      exact ⟨hE, hV, ha'⟩
    have HC := Lib.hid (cChk_no hok)
    clear hw hB hl hK hal hE hV ha' hok
    go_enter Try.func39, Try.ntmps39
    go_wp2_with fail
    obtain ⟨w1, hw1⟩ : ∃ w1, w1 = w.alloc (.cells #[.int .u8 kd, .int .u64 K] 73) := ⟨_, rfl⟩
    have H0 : Hid (RrTo w h l a w1) := by rw [hw1]; exact H0.out
    rw [← hw1]
    clear hw1
    refine (rcheck_any kd K _).mono ?_
    rintro e w2 ⟨rfl, hb⟩
    rw [HC.out]
    have H1 := Lib.hid (H0.out.trans (H0.out.1.below_ hb))
    clear hb
    go_wp2_with fail
    go_ret2
    rw [HX.out.1, HX.out.2.1, HX.out.2.2]
    exact ⟨rfl, H1.out⟩
  | true =>
    have HC := Lib.hid (cChk_yes hok)
    have HR := Lib.hid (rd_any kd K l a hl hok)
    have hX : E = (if rdBad kd K (rd l a kd K).1 (rd l a kd K).2.2 = true then 4 else 0) ∧ V = (if rdBad kd K (rd l a kd K).1 (rd l a kd K).2.2 = true then 0 else (rd l a kd K).1) ∧ a' = (if rdBad kd K (rd l a kd K).1 (rd l a kd K).2.2 = true then a else (rd l a kd K).2.1) := by
      unfold rE at hE; unfold rV at hV; unfold rA at ha'
      rw [hok] at hE hV ha'
      exact ⟨hE, hV, ha'⟩
    obtain ⟨G, hG⟩ : ∃ G, G = rd l a kd K := ⟨_, rfl⟩
    rw [← hG] at HR hX
    obtain ⟨U, b0, bad⟩ := G
    simp only at HR hX
    have HX := Lib.hid hX
    obtain ⟨M, hM⟩ : ∃ M, M = cMost kd K := ⟨_, rfl⟩
    have HM := Lib.hid hM
    clear hw hB hl hK hal hE hV ha' hok hG hX hM
    go_enter Try.func39, Try.ntmps39
    go_wp2_with fail
    obtain ⟨w1, hw1⟩ : ∃ w1, w1 = w.alloc (.cells #[.int .u8 kd, .int .u64 K] 73) := ⟨_, rfl⟩
    obtain ⟨g, hg⟩ : ∃ g, g = w.heap.size := ⟨_, rfl⟩
    have H0 : Hid (RrTo w h l a w1) := by rw [hw1]; exact H0.out
    have hB3 : Blk w1 g 73 #[.int .u8 kd, .int .u64 K] := by rw [hw1, hg]; exact hB2.out
    rw [← hw1, ← hg]
    have HB3 := Lib.hid hB3
    clear hw1 hg hB3
    refine (rcheck_any kd K _).mono ?_
    rintro e w2 ⟨rfl, hb⟩
    rw [HC.out]
    have p := H0.out.1.below_ hb
    have hB4 := blk_rr H0.out.1 HB3.out p
    have c0 : w2.cell? ⟨g, 0, none⟩ = some (.int .u8 kd) := by rw [hB4.cell 0]; rfl
    have c1 : w2.cell? ⟨g, 1, none⟩ = some (.int .u64 K) := by rw [hB4.cell 1]; rfl
    have H1 := Lib.hid (And.intro (H0.out.trans p) hB4)
    clear hb p hB4
    obtain ⟨d0, d1, _⟩ := H1.out.1.1.cell1
    go_wp2_with fail
    refine (HR.out h _ H1.out.1.1).mono ?_
    rintro e w3 ⟨v, b, rfl, hp, hv⟩
    have hB5 := blk_rr H1.out.1.1 H1.out.2 hp
    have e0 : w3.cell? ⟨g, 0, none⟩ = some (.int .u8 kd) := by rw [hB5.cell 0]; rfl
    have e1 : w3.cell? ⟨g, 1, none⟩ = some (.int .u64 K) := by rw [hB5.cell 1]; rfl
    have H2 := Lib.hid (H1.out.1.trans hp)
    have HV := Lib.hid hv
    obtain ⟨_, f1, _⟩ := hp.1.cell1
    clear hp hv hB5 c0 c1 d0 d1
    cases bad with
    | true =>
      have HX2 : Hid (E = 4 ∧ V = 0 ∧ a' = a) := HX.out
      go_wp2_with fail
      go_ret2
      rw [HX2.out.1, HX2.out.2.1, HX2.out.2.2]
      exact ⟨rfl, H2.out.trans (H2.out.1.at_set HS.out.2.2)⟩
    | false =>
      obtain ⟨rfl, rfl⟩ := HV.out rfl
      have hX2 : E = (if M < v then 4 else 0) ∧ V = (if M < v then 0 else v) ∧ a' = (if M < v then a else b) := by
        have := HX.out
        unfold rdBad at this
        rw [← HM.out] at this
        simpa using this
      have HX2 := Lib.hid hX2
      clear hX2 HX HV
      go_wp2_with fail
      refine (rmost_any kd K _ HS.out.2.1).mono ?_
      rintro e w4 ⟨rfl, hb⟩
      rw [← HM.out]
      have H3 := Lib.hid (H2.out.trans (H2.out.1.below_ hb))
      clear hb e0 e1 f1
      obtain ⟨_, f1, _⟩ := H3.out.1.cell1
      by_cases hlm : M < v
      · have HX3 : Hid (E = 4 ∧ V = 0 ∧ a' = a) := by have := HX2.out; rw [if_pos hlm, if_pos hlm, if_pos hlm] at this; exact this
        go_wp2_with fail
        go_ret2
        rw [HX3.out.1, HX3.out.2.1, HX3.out.2.2]
        exact ⟨rfl, H3.out.trans (H3.out.1.at_set HS.out.2.2)⟩
      · have HX3 : Hid (E = 0 ∧ V = v ∧ a' = b) := by have := HX2.out; rw [if_neg hlm, if_neg hlm, if_neg hlm] at this; exact this
        go_wp2_with fail
        go_ret2
        rw [HX3.out.1, HX3.out.2.1, HX3.out.2.2]
        exact ⟨rfl, H3.out⟩
end Go.Proofs.Ytmgngmnkmmhckaa
