/-
  SketchGrows: the law's walk.
-/
import Derived.Test.YtbkadfocjmpieaaGF
import Derived.Test.YtbkadfocjmpieaaSHashI
set_option linter.unusedVariables false
namespace Go.Proofs.Ytbkadfocjmpieaa
open Go.RowKit

theorem quiet_left1 {P : Program} {f : FuncId} {args : Array Value} {w : World} {n : Nat} {v : Value}
    (h : Calls P f args (w.drewN n) fun e w' => e = .returned v ∧ w.drewN n = w') : Calls P f args (w.drewN n) fun e w'' => e = .returned v ∧ ∃ m, w'' = w.drewN m :=
  h.mono fun _ _ ⟨he, hm⟩ => ⟨he, n, hm.symm⟩
theorem tmod13 (N : Int) : -13 < Int.tmod N 13 ∧ Int.tmod N 13 < 13 := by
  rcases Int.le_total 0 N with h | h
  · rw [Int.tmod_eq_emod_of_nonneg h]; omega
  · have h2 : N = -(-N) := by omega
    rw [h2, Int.neg_tmod, Int.tmod_eq_emod_of_nonneg (by omega : 0 ≤ -N)]; omega
def pOf (P : Int) : Nat := ((Int.tmod P 13 + 13) % 13).toNat
/-- what the loop has counted: one at the register that grew -/
def lessK (l : List Nat) (i r k : Nat) : Nat := if i < k ∧ l.getD i 0 < r then 1 else 0

theorem lessK_le (l : List Nat) (i r k : Nat) : lessK l i r k ≤ 1 := by unfold lessK; split <;> omega
theorem less_step {s T : ByteArray} {ia ra k : Nat} (hlt : k < s.size) (hkT : k < T.size) (hT : T[k].toNat = (adL (sN s) ia ra).getD k 0) (hia : ia < s.size) :
    s[k].toNat ≤ T[k].toNat ∧ (s[k].toNat < T[k].toNat → lessK (sN s) ia ra k + 1 = lessK (sN s) ia ra (k + 1)) ∧ (¬ s[k].toNat < T[k].toNat → lessK (sN s) ia ra (k + 1) = lessK (sN s) ia ra k) := by
  have hl : (sN s).length = s.size := by simp [sN]
  rw [hT, ← sN_getD s k hlt, getD_adL]
  unfold lessK
  by_cases h : k = ia
  · subst h
    rw [if_pos ⟨rfl, by omega⟩]
    refine ⟨by omega, fun h => ?_, fun h => ?_⟩
    · rw [if_neg (by omega), if_pos ⟨by omega, by omega⟩]
    · rw [if_neg (by omega), if_neg (by omega)]
  · rw [if_neg (by omega)]
    refine ⟨by omega, fun h => by omega, fun _ => ?_⟩
    by_cases h2 : ia < k ∧ (sN s).getD ia 0 < ra
    · rw [if_pos h2, if_pos ⟨by omega, h2.2⟩]
    · rw [if_neg h2, if_neg (by omega)]

set_option maxRecDepth 100000 in
set_option maxHeartbeats 1500000 in
theorem grows_any (s : ByteArray) (seed x y : Nat) (P : Int) (w : World) (hs : s.size ≤ 140737488355328) (hsd : seed < 18446744073709551616) (hx : x < 18446744073709551616) (hy : y < 18446744073709551616) :
    Calls Try.prog 3 #[.string s, .agg #[.int .u64 seed, .int .u64 x, .int .i64 P], .int .u64 y] w fun e w' => e = .returned (.bool true) ∧ Below w.heap.size w w' := by
  have hB := Blk.new w 24 #[.int .u64 seed, .int .u64 x, .int .i64 P]
  obtain ⟨tb1, tb2⟩ := tmod13 P
  obtain ⟨q, hq⟩ : ∃ q, q = pOf P := ⟨_, rfl⟩
  have hq1 : Int.tmod P 13 % 13 = (q : Int) := by rw [hq]; unfold pOf; omega
  have hq2 : (Int.tmod P 13 + 13) % 13 = (q : Int) := by rw [hq]; unfold pOf; omega
  have hq3 : q < 13 := by rw [hq]; unfold pOf; omega
  have h4 : 4 ≤ 4 + q := by omega
  have h16 : 4 + q ≤ 16 := by omega
  have hnw := Sk.nw h4 h16
  have g1 := fun w => new_yes (4 + q) w h4 h16
  have g2 := fun w => estL_any w hnw
  have g3 := fun w => addL_any x w hnw hx
  have g4 := fun w => estL_any w (hnw.ad (adAt (4 + q) x) x)
  rw [est_nw h4 h16] at g2
  rw [est_ad h4 h16 hx] at g4
  obtain ⟨S0, hS0⟩ : ∃ S0, S0 = strOf (nwL (4 + q)) := ⟨_, rfl⟩
  obtain ⟨S1, hS1⟩ : ∃ S1, S1 = strOf (adL (nwL (4 + q)) (adAt (4 + q) x) (rk (4 + q) x)) := ⟨_, rfl⟩
  have G1 : Hid (∀ w, Calls Try.prog 7 #[.int .i64 (4 + (q : Int))] w fun e w' => e = .returned (.tuple #[.string S0, .int .i64 0]) ∧ Below w.heap.size w w') := by
    intro w; have := g1 w; rw [← hS0] at this; rw [show (4 + (q : Int)) = ((4 + q : Nat) : Int) by omega]; exact this
  have G2 : Hid (∀ w, Calls Try.prog 8 #[.string S0] w fun e w' => e = .returned (.tuple #[.int .u64 0, .int .i64 0]) ∧ Below w.heap.size w w') := by rw [hS0]; exact g2
  have G3 : Hid (∀ w, Calls Try.prog 9 #[.string S0, .int .u64 x] w fun e w' => e = .returned (.tuple #[.string S1, .int .i64 0]) ∧ Below w.heap.size w w') := by rw [hS0, hS1]; exact g3
  have G4 : Hid (∀ w, Calls Try.prog 8 #[.string S1] w fun e w' => e = .returned (.tuple #[.int .u64 1, .int .i64 0]) ∧ Below w.heap.size w w') := by rw [hS1]; exact g4
  obtain ⟨hA, hhA⟩ : ∃ h, h = hsN seed x := ⟨_, rfl⟩
  obtain ⟨hC, hhC⟩ : ∃ h, h = hsN seed y := ⟨_, rfl⟩
  have K1 : Hid (∀ (w : World) (n : Nat), Calls Try.prog 10 #[.int .u64 seed, .int .u64 x] (w.drewN n) fun e w'' => e = .returned (.int .u64 (hA : Nat)) ∧ ∃ m, w'' = w.drewN m) := by rw [hhA]; exact fun w n => quiet_left1 (hash_any seed x (w.drewN n) hsd hx)
  have K2 : Hid (∀ (w : World) (n : Nat), Calls Try.prog 10 #[.int .u64 seed, .int .u64 y] (w.drewN n) fun e w'' => e = .returned (.int .u64 (hC : Nat)) ∧ ∃ m, w'' = w.drewN m) := by rw [hhC]; exact fun w n => quiet_left1 (hash_any seed y (w.drewN n) hsd hy)
  obtain ⟨bb, hbb⟩ : ∃ bb, bb = ((x : Int) == (y : Int)) := ⟨_, rfl⟩
  have hbe : ((hA : Int) == (hC : Int)) = bb := by
    rw [hbb, hhA, hhC]
    by_cases h : x = y
    · subst h; simp
    · have : hsN seed x ≠ hsN seed y := fun e => h (hsN_inj hx hy e)
      have e1 : ((hsN seed x : Int) == (hsN seed y : Int)) = false := by simp; omega
      have e2 : ((x : Int) == (y : Int)) = false := by simp; omega
      rw [e1, e2]
  have hbx : ((x : Int) == (y : Int)) = bb := hbb.symm
  have HS := Lib.hid (And.intro hs (And.intro hy hB))
  clear hq hnw g1 g2 g3 g4 hS0 hS1 hhA hhC hbb hs hsd hx hy hB h4 h16
  have hB0 : Hid (Below w.heap.size w (w.alloc (.cells #[.int .u64 seed, .int .u64 x, .int .i64 P] 24))) := (Below.refl _ _).alloc (Nat.le_refl _) _
  go_enter Try.func3, Try.ntmps3
  go_upto_region 2 with fail
  obtain ⟨w1, hw1⟩ : ∃ w1, w1 = w.alloc (.cells #[.int .u64 seed, .int .u64 x, .int .i64 P] 24) := ⟨_, rfl⟩
  obtain ⟨g, hg⟩ : ∃ g, g = w.heap.size := ⟨_, rfl⟩
  have H1 : Hid (Below w.heap.size w w1 ∧ Blk w1 g 24 #[.int .u64 seed, .int .u64 x, .int .i64 P] ∧ g < w1.heap.size) := by
    rw [hw1, hg]; exact ⟨hB0.out, HS.out.2.2, HS.out.2.2.lt⟩
  rw [← hw1, ← hg]
  clear hw1 hg hB0
  have hcell : Hid (∀ w', Below w1.heap.size w1 w' → w'.cell? ⟨g, 0, none⟩ = some (.int .u64 seed) ∧ w'.cell? ⟨g, 1, none⟩ = some (.int .u64 x)) := by
    intro w' hb
    have := H1.out.2.1.below hb H1.out.2.2
    exact ⟨by rw [this.cell 0]; rfl, by rw [this.cell 1]; rfl⟩
  go_wp2_with fail
  refine (G1.out _).mono ?_
  rintro e w2 ⟨rfl, hb⟩
  have H2 := Lib.hid hb
  clear hb
  go_wp2_with fail
  refine (G2.out _).mono ?_
  rintro e w3 ⟨rfl, hb⟩
  have H3 := Lib.hid (below_step H2.out hb)
  obtain ⟨c0, c1⟩ := hcell.out _ H3.out
  clear hb
  go_wp2_with fail
  refine (G3.out _).mono ?_
  rintro e w4 ⟨rfl, hb⟩
  have H4 := Lib.hid (below_step H3.out hb)
  clear hb c0 c1
  go_wp2_with fail
  refine (G4.out _).mono ?_
  rintro e w5 ⟨rfl, hb⟩
  have H5 := Lib.hid (below_step H4.out hb)
  obtain ⟨c0, c1⟩ := hcell.out _ H5.out
  clear hb
  go_upto_region 6 with fail
  go_quiet (first | (go_at_call_of 10 x; exact K1.out _ _) | (go_at_call_of 10 y; exact K2.out _ _))
  have H6 : Hid (Below w.heap.size w (w5.drewN nq)) := ((Only.of_below (F := fun _ => False) (H1.out.1.trans (H5.out.mono H1.out.1.size))).drewN nq).below (fun _ _ e => e) (Nat.le_refl _)
  obtain ⟨w6, hw6⟩ : ∃ w6, w6 = w5.drewN nq := ⟨_, rfl⟩
  rw [← hw6] at H6
  rw [← hw6]
  clear hw6 c0 c1
  go_wp2_with fail
  by_cases hy : exOk s
  · obtain ⟨T, ia, ra, p, hA, hTs, hs16, hTg, hw, h16, hia, hEx⟩ := ad_facts s y HS.out.1 HS.out.2.1 hy
    clear hy
    have HW := Lib.hid (And.intro hw (And.intro hTg (And.intro h16 (And.intro hia hEx))))
    clear hw hTg h16 hia hEx
    have hA := hA w6
    refine hA.mono ?_
    rintro e w7 ⟨rfl, hb⟩
    have H7 := Lib.hid (H6.out.trans (hb.mono H6.out.size))
    clear hb hA
    go_wp2_with fail
    go_loopg [18, 19] s.size (fun gg s18 i wr => ∃ k : Nat, k + gg = s.size ∧ i = .int .i64 k ∧ s18 = .int .i64 (lessK (sN s) ia ra k : Nat) ∧ ∃ nd, wr = w7.drewN nd)
    case atStart => exact ⟨0, by omega, rfl, rfl, 0, rfl⟩
    case round =>
      obtain ⟨k, hk, rfl, rfl, nd, rfl⟩ := hrel
      obtain ⟨L, hL⟩ : ∃ L, L = lessK (sN s) ia ra k := ⟨_, rfl⟩
      have hL1 : L ≤ 1 := by rw [hL]; exact lessK_le ..
      rw [← hL]
      by_cases hlt : k < s.size
      · have hkT : k < T.size := by omega
        obtain ⟨st1, st2, st3⟩ := less_step hlt hkT (HW.out.2.1 k hkT) HW.out.2.2.2.1
        rw [← hL] at st2 st3
        have HL := Lib.hid (And.intro hL (And.intro st2 st3))
        clear hL st2 st3
        have hd1 : decide ((T[k]'hkT).toNat < (s[k]'hlt).toNat) = false := decide_eq_false (by omega)
        by_cases hg : (s[k]'hlt).toNat < (T[k]'hkT).toNat
        · have hd2 : decide ((s[k]'hlt).toNat < (T[k]'hkT).toNat) = true := decide_eq_true (by omega)
          have HG := Lib.hid (HL.out.2.1 hg)
          clear hg st1
          go_upto_region 15 with fail
          go_quiet (fail)
          go_upto_region 17 with fail
          go_quiet (fail)
          go_wp2_with fail
          go_roundg (gk - 1)
          case measure => omega
          case rel => exact ⟨k + 1, by omega, by go_num, by rw [← HG.out]; go_num, _, rfl⟩
        · have hd2 : decide ((s[k]'hlt).toNat < (T[k]'hkT).toNat) = false := decide_eq_false (by omega)
          have HG := Lib.hid (HL.out.2.2 hg)
          clear hg st1
          go_upto_region 15 with fail
          go_quiet (fail)
          go_upto_region 17 with fail
          go_quiet (fail)
          go_wp2_with fail
          go_roundg (gk - 1)
          case measure => omega
          case rel => exact ⟨k + 1, by omega, by go_num, by rw [HG.out], _, rfl⟩
      · have hb2 := Lib.hid (((Only.of_below (F := fun _ => False) H7.out).drewN nd).below (fun _ _ e => e) (Nat.le_refl _))
        clear hL
        have hw := HW.out.1
        have hp := HW.out.2.2.1
        go_wp2_with fail
        refine (HW.out.2.2.2.2 _).mono ?_
        rintro e w8 ⟨rfl, rfl⟩
        go_wp2_with fail
        refine (awake_any _).mono ?_
        rintro e w9 ⟨rfl, hb⟩
        have H9 := Lib.hid (hb2.out.trans (hb.mono hb2.out.size))
        clear hb
        go_wp2_with fail
        go_ret
        exact ⟨rfl, H9.out⟩
  · have hA := add_no s y w6 HS.out.1 hy
    clear hy
    refine hA.mono ?_
    rintro e w' ⟨rfl, rfl⟩
    clear hA
    go_wp2_with fail
    refine (awake_any _).mono ?_
    rintro e w9 ⟨rfl, hb⟩
    have H9 := Lib.hid (H6.out.trans (hb.mono H6.out.size))
    clear hb
    go_wp2_with fail
    go_ret
    exact ⟨rfl, H9.out⟩
end Go.Proofs.Ytbkadfocjmpieaa
