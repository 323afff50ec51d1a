/-
  The reference's take and value.
-/
import Derived.Test.YtpggicaphejjfaaPText
set_option linter.unusedVariables false
namespace Go.Proofs.Ytpggicaphejjfaa
open Go.RowKit

set_option maxRecDepth 100000 in
set_option maxHeartbeats 1000000 in
theorem value_any (l : List UInt8) (w : World) (hl : l.length ≤ 4) : Calls Try.prog 41 #[.string (mkB l)] w fun e w' => e = .returned (.int .i64 (val l : Nat)) ∧ w = w' := by
  obtain ⟨s, hs⟩ : ∃ s, s = mkB l := ⟨_, rfl⟩
  obtain ⟨N, hN⟩ : ∃ N, N = l.length := ⟨_, rfl⟩
  have hsz : s.size = N := by rw [hs, mkB_size, hN]
  rw [← hN] at hl
  have hg : ∀ k (h : k < s.size), s[k]'h = l.getD k 0 := fun k hk => by
    subst hs
    have hk' : k < l.length := by rw [mkB_size] at hk; exact hk
    show (mkB l).data[k]'_ = _
    simp [mkB, List.getD, hk']
  have HG := Lib.hid hg
  clear hg
  have HN := Lib.hid (And.intro hN hs)
  rw [← hs]
  clear hs hN
  go_enter Try.func41, Try.ntmps41
  go_wp2_with fail
  go_loopg [3, 4] N (fun g v i wr => ∃ k : Nat, k + g = N ∧ i = .int .i64 k ∧ v = .int .i64 (valL (l.take k) 0 : Nat) ∧ wr = w)
  case atStart => exact ⟨0, by omega, rfl, rfl, rfl⟩
  case round =>
    obtain ⟨k, hk, rfl, rfl, rfl⟩ := hrel
    by_cases hlt : k < N
    · have hv := valL_take l k (by rw [← HN.out.1]; exact hlt)
      have hm := val_lt (l.take k)
      have hpw : 256 ^ (l.take k).length ≤ 16777216 := by
        have h1 : (l.take k).length ≤ 3 := by rw [List.length_take]; omega
        exact Nat.le_trans (Nat.pow_le_pow_right (by decide) h1) (by decide)
      unfold val at hm
      obtain ⟨m, hme⟩ : ∃ m, m = valL (l.take k) 0 := ⟨_, rfl⟩
      obtain ⟨c, hce⟩ : ∃ c, c = (l.getD k 0).toNat := ⟨_, rfl⟩
      have hc256 : c < 256 := by rw [hce]; exact (l.getD k 0).toNat_lt
      have hx := HG.out k (by rw [hsz]; exact hlt)
      obtain ⟨y, hy⟩ : ∃ y, y = l.getD k 0 := ⟨_, rfl⟩
      rw [← hy] at hx hce
      have hyc : y.toNat = c := hce.symm
      rw [← hme, ← hy, hyc] at hv
      rw [← hme] at hm ⊢
      have hm2 : m < 16777216 := by omega
      obtain ⟨mk, hmk⟩ : ∃ q, q = m * 256 := ⟨_, rfl⟩
      rw [← hmk] at hv
      have hmk1 : (256 : Int) * (m : Int) = (mk : Int) := by omega
      have hmk2 : mk ≤ 4294967296 := by omega
      have hkI0 : (0 : Int) ≤ (k : Int) := by omega
      have hkI1 : (k : Int) < (N : Int) := by omega
      have HV := Lib.hid hv
      clear hv hm hpw hme hce hmk hy
      go_wp2_with fail
      go_roundg (gk - 1)
      case measure => omega
      case rel => exact ⟨k + 1, by omega, by go_num, by rw [HV.out]; simp, rfl⟩
    · have hk2 : k = N := by omega
      have hfin : l.take k = l := List.take_of_length_le (by rw [← HN.out.1]; omega)
      have HF := Lib.hid hfin
      rw [hfin]
      clear hfin
      obtain ⟨m, hm⟩ : ∃ m, m = valL l 0 := ⟨_, rfl⟩
      rw [← hm]
      have HM := Lib.hid hm
      clear hm
      go_wp2_with fail
      go_ret
      exact ⟨by rw [HM.out]; rfl, rfl⟩
set_option maxRecDepth 100000 in
set_option maxHeartbeats 1000000 in
theorem take_any (n : Nat) (r : List UInt8) (w : World) (hr : r.length ≤ 4096) (hn : n ≤ 4294967296) :
    Calls Try.prog 42 #[.string (mkB r), .int .i64 n] w fun e w' => e = .returned (.tuple #[.string (mkB (tT n false r)), .string (if tB n false r = true then ⟨#[]⟩ else mkB (tR n false r)), .bool (!tB n false r)]) ∧ ∃ nd, w' = w.drewN nd := by
  obtain ⟨s, hs⟩ : ∃ s, s = mkB r := ⟨_, rfl⟩
  obtain ⟨L, hL⟩ : ∃ L, L = r.length := ⟨_, rfl⟩
  have hsz : s.size = L := by rw [hs, mkB_size, hL]
  have e1 : n ≤ r.length → s.extract 0 n = mkB (r.take n) := fun h => by rw [hs]; exact extract_take h
  have e2 : s.extract n L = mkB (r.drop n) := by rw [hs]; exact extract_drop hL
  rw [← hL] at hr e1
  rw [← hs]
  by_cases hlt : L < n
  · have q1 : tB n false r = true := by unfold tB; rw [← hL]; simp [hlt]
    have q2 : tT n false r = [] := by unfold tT; rw [q1]; rfl
    rw [q1, q2]
    have d : decide ((L : Int) < (n : Int)) = true := decide_eq_true (by omega)
    clear q1 q2 e1 e2 hs hL
    go_enter Try.func42, Try.ntmps42
    go_wp2_with fail
    refine bodyPost_ret (v := .tuple #[.string ⟨#[]⟩, .string ⟨#[]⟩, .bool false]) (by simp [results, Try.results42, go_sem]) rfl ⟨rfl, 0, rfl⟩
  · have q1 : tB n false r = false := by unfold tB; rw [← hL]; simp; omega
    have q2 : tT n false r = r.take n := by unfold tT; rw [q1]; rfl
    have q3 : tR n false r = r.drop n := by unfold tR; rw [q1]; rfl
    rw [q1, q2, q3]
    have d : decide ((L : Int) < (n : Int)) = false := decide_eq_false (by omega)
    have hnL : n ≤ L := by omega
    have hnI : (n : Int) ≤ (L : Int) := by omega
    have hn0 : (0 : Int) ≤ (n : Int) := by omega
    have hnw : IntKind.i64.wrap (n : Int) = (n : Int) := IntWalk.i64_in _ (by omega)
    have e3 := e1 hnL
    obtain ⟨t1, ht1⟩ : ∃ t, t = mkB (r.take n) := ⟨_, rfl⟩
    obtain ⟨t2, ht2⟩ : ∃ t, t = mkB (r.drop n) := ⟨_, rfl⟩
    rw [← ht1] at e3 ⊢
    rw [← ht2] at e2 ⊢
    clear q1 q2 q3 e1 ht1 ht2 hlt hs hL
    go_enter Try.func42, Try.ntmps42
    go_wp2_with fail
    go_quiet (fail)
    go_wp2_with fail
    refine bodyPost_ret (v := .tuple #[.string t1, .string t2, .bool true]) (by simp [results, Try.results42, go_sem]) rfl ⟨rfl, _, rfl⟩
end Go.Proofs.Ytpggicaphejjfaa
