/-
  The union of two sketches: the call.
-/
import Derived.Test.YtbkadfocjmpieaaSUnion
set_option linter.unusedVariables false
namespace Go.Proofs.Ytbkadfocjmpieaa
open Go.RowKit

open Classical in
noncomputable def unE (a b : ByteArray) : Int := if exOk a ∧ exOk b then (if exP a = exP b then 0 else 1) else 4
open Classical in
noncomputable def unV (a b : ByteArray) : ByteArray := if exOk a ∧ exOk b then (if exP a = exP b then strOf (unL (sN a) (sN b)) else ⟨#[]⟩) else ⟨#[]⟩
theorem exV_le (s : ByteArray) : exV s ≤ 16 := by
  by_cases h : exOk s
  · rw [(ex_yes h).2]; exact h.1.2.1
  · rw [(ex_no h).2]; omega

set_option maxRecDepth 100000 in
set_option maxHeartbeats 4000000 in
theorem union_no (a b : ByteArray) (w : World) (ha : a.size ≤ 140737488355328) (hb : b.size ≤ 140737488355328) (h : ¬ (exOk a ∧ exOk b)) : Calls Try.prog 14 #[.string a, .string b] w fun e w' => e = .returned (.tuple #[.string ⟨#[]⟩, .int .i64 4]) ∧ w = w' := by
  have h1 := exp_any a w ha
  have h2 := exp_any b w hb
  obtain ⟨ea, hea⟩ : ∃ x, x = exE a := ⟨_, rfl⟩
  obtain ⟨eb, heb⟩ : ∃ x, x = exE b := ⟨_, rfl⟩
  have hor : ea = 4 ∨ (ea = 0 ∧ eb = 4) := by
    by_cases hA : exOk a
    · right; exact ⟨by rw [hea]; exact (ex_yes hA).1, by rw [heb]; exact (ex_no (fun x => h ⟨hA, x⟩)).1⟩
    · left; rw [hea]; exact (ex_no hA).1
  rw [← hea] at h1
  rw [← heb] at h2
  have HH := Lib.hid (And.intro h1 h2)
  clear h1 h2 hea heb h
  rcases hor with rfl | ⟨rfl, rfl⟩
  · go_enter Try.func14, Try.ntmps14
    go_wp2_with fail
    refine HH.out.1.mono ?_
    rintro e w' ⟨rfl, rfl⟩
    go_wp2_with fail
    refine HH.out.2.mono ?_
    rintro e w' ⟨rfl, rfl⟩
    go_wp2_with fail
    go_ret2
    exact ⟨rfl, rfl⟩
  · go_enter Try.func14, Try.ntmps14
    go_wp2_with fail
    refine HH.out.1.mono ?_
    rintro e w' ⟨rfl, rfl⟩
    go_wp2_with fail
    refine HH.out.2.mono ?_
    rintro e w' ⟨rfl, rfl⟩
    go_wp2_with fail
    go_ret2
    exact ⟨rfl, rfl⟩

set_option maxRecDepth 100000 in
set_option maxHeartbeats 4000000 in
theorem union_arg (a b : ByteArray) (w : World) (ha : exOk a) (hb : exOk b) (h : exP a ≠ exP b) : Calls Try.prog 14 #[.string a, .string b] w fun e w' => e = .returned (.tuple #[.string ⟨#[]⟩, .int .i64 1]) ∧ w = w' := by
  have h1 := exp_sz a w ha.1
  have h2 := exp_sz b w hb.1
  rw [(ex_yes ha).1, (ex_yes ha).2] at h1
  rw [(ex_yes hb).1, (ex_yes hb).2] at h2
  obtain ⟨p, hp⟩ : ∃ p, p = exP a := ⟨_, rfl⟩
  obtain ⟨q, hq⟩ : ∃ q, q = exP b := ⟨_, rfl⟩
  rw [← hp] at h1 h
  rw [← hq] at h2 h
  have hne : ((p : Int) != (q : Int)) = true := by simp; omega
  have HH := Lib.hid (And.intro h1 h2)
  clear h1 h2 hp hq h
  go_enter Try.func14, Try.ntmps14
  go_wp2_with fail
  refine HH.out.1.mono ?_
  rintro e w' ⟨rfl, rfl⟩
  go_wp2_with fail
  refine HH.out.2.mono ?_
  rintro e w' ⟨rfl, rfl⟩
  go_wp2_with fail
  go_ret2
  exact ⟨rfl, rfl⟩

theorem unL_lt (a b : ByteArray) (h : a.size = b.size) (k : Nat) : (unL (sN a) (sN b)).getD k 0 < 256 := by
  rw [getD_unL (by rw [length_sN, length_sN, h])]
  have := sN_lt a k
  have := sN_lt b k
  omega
theorem unK_zero (l m : List Nat) : unK l m 0 = List.replicate l.length 0 := by unfold unK; rw [List.take_zero, List.nil_append, Nat.sub_zero]
theorem u8s_replicate (n : Nat) : List.replicate n (Value.int .u8 0) = u8s (List.replicate n 0) := by simp [u8s]
theorem own_base {w : World} {base : Nat} {e : TypeId} {size n : Nat} {v : Value} {xs : List Value} (h : w.ownsRow base e size v n xs) : w.ownsRow 0 e size v n xs := by
  rcases h.2 with ⟨rfl, h0⟩ | ⟨g, cap, cur, q1, q2, q3⟩
  · exact ⟨h.1, .inl ⟨rfl, h0⟩⟩
  · exact ⟨h.1, .inr ⟨g, cap, cur, q1, Nat.zero_le _, q3⟩⟩

set_option maxRecDepth 100000 in
set_option maxHeartbeats 4000000 in
theorem union_yes (a b : ByteArray) (w : World) (ha : exOk a) (hb : exOk b) (h : exP a = exP b) : Calls Try.prog 14 #[.string a, .string b] w fun e w' => e = .returned (.tuple #[.string (strOf (unL (sN a) (sN b))), .int .i64 0]) ∧ Below w.heap.size w w' := by
  obtain ⟨i0, hi, hz0, hz1, hz2⟩ := info_parts info5
  have hmf : ∀ (fn : Fn) (first cap : Array Value) (w : World), (Instr.makeFunc fn first cap).run Try.prog w = .ok (.func fn first cap) w := fun _ _ _ _ => rfl
  have h1 := exp_sz a w ha.1
  have h2 := exp_sz b w hb.1
  rw [(ex_yes ha).1, (ex_yes ha).2] at h1
  rw [(ex_yes hb).1, (ex_yes hb).2, ← h] at h2
  have hab : a.size = b.size := by rw [ha.1.2.2, hb.1.2.2, h]
  have hs : a.size ≤ 65536 := by
    have h216 : 2 ^ exP a ≤ 2 ^ 16 := Nat.pow_le_pow_right (by decide) ha.1.2.1
    have e16 : (2 : Nat) ^ 16 = 65536 := by decide
    have := ha.1.2.2
    omega
  obtain ⟨p, hp⟩ : ∃ p, p = exP a := ⟨_, rfl⟩
  rw [← hp] at h1 h2
  obtain ⟨n, hn⟩ : ∃ n, n = a.size := ⟨_, rfl⟩
  have HH := Lib.hid (And.intro h1 (And.intro h2 (And.intro hab hn)))
  have hani : (a.size : Int) = (n : Int) := by omega
  have hanN : a.size = n := hn.symm
  rw [← hn] at hs
  clear h1 h2 hp ha hb h hab hn
  go_enter Try.func14, Try.ntmps14
  go_wp2_with fail
  refine HH.out.1.mono ?_
  rintro e w' ⟨rfl, rfl⟩
  go_wp2_with fail
  refine HH.out.2.1.mono ?_
  rintro e w' ⟨rfl, rfl⟩
  go_wp2_with (refine wpList_make_full _ rfl (.tmp 33) (.tmp 33) 42 rfl w.heap.size 5 i0 (.int .u8 0) 1 Try.underlying42 hi hz0 hz1 .i64 .i64 _ _ n rfl rfl rfl rfl ?m1 ?m2 ?m3 ?_)
  case m1 => rw [hz2]; omega
  case m2 => unfold maxLen; omega
  case m3 => exact Nat.le_refl _
  intro w1 hown1 hgrow1
  have hbel1 : Below w.heap.size w w1 := (Below.refl _ w).grown hgrow1 (Nat.le_refl _) (by simp)
  rw [toList_madeCells_one, u8s_replicate] at hown1
  have hsz1 : w.heap.size < w1.heap.size := own_lt hown1 w.heap.size rfl
  obtain ⟨go, hgo⟩ : ∃ go, go = w.heap.size := ⟨_, rfl⟩
  have HW := Lib.hid (And.intro hown1 (And.intro hbel1 (And.intro hsz1 hgo)))
  have hbx := Blk.new w1 42 #[.slice (some ⟨go, 0, none⟩) n n]
  rw [← hgo]
  clear hown1 hbel1 hgrow1 hsz1 hgo
  go_wp2_with fail
  obtain ⟨gx, hgx⟩ : ∃ gx, gx = w1.heap.size := ⟨_, rfl⟩
  obtain ⟨w2, hw2⟩ : ∃ w2, w2 = w1.alloc (.cells #[.slice (some ⟨go, 0, none⟩) n n] 42) := ⟨_, rfl⟩
  have hla : (sN a).length = n := by rw [length_sN]; exact HH.out.2.2.2.symm
  have hown2 : w2.ownsRow go 5 1 (.slice (some ⟨go, 0, none⟩) n n) n (u8s (unK (sN a) (sN b) 0)) := by
    rw [unK_zero, hla, hw2, HW.out.2.2.2]
    have := HW.out.1
    rw [← HW.out.2.2.2] at this ⊢
    exact this.alloc _
  rw [← hw2, ← hgx] at hbx
  have hbel2 : Below w.heap.size w w2 := by rw [hw2]; exact HW.out.2.1.alloc (by have := HW.out.2.2.1; omega) _
  have hne : gx ≠ go := by have := HW.out.2.2.1; have := HW.out.2.2.2; omega
  rw [← hw2, ← hgx]
  have hgge : w.heap.size ≤ go := by have := HW.out.2.2.2; omega
  have H2 := Lib.hid (And.intro hown2 (And.intro hbx (And.intro hbel2 (And.intro hne hgge))))
  clear hw2 hgx hown2 hbx hbel2 hne hla hgge
  refine (both_any a b n go gx go _ HH.out.2.2.2.symm (by rw [← HH.out.2.2.1]; exact HH.out.2.2.2.symm) hs (Nat.le_refl _) H2.out.2.2.2.1 H2.out.1 H2.out.2.1).mono ?_
  rintro e w3 ⟨rfl, hown3, ho3, hb3⟩
  have c0 : w3.cell? ⟨gx, 0, none⟩ = some (.slice (some ⟨go, 0, none⟩) n n) := by rw [hb3.cell 0]; rfl
  have hlu : (unL (sN a) (sN b)).length = n := by rw [length_unL (by rw [length_sN, length_sN]; exact HH.out.2.2.1), length_sN]; exact HH.out.2.2.2.symm
  have hcv := run_text hlu.symm (own_base hown3) (unL_lt a b HH.out.2.2.1)
  have H3 : Hid (Below w.heap.size w w3) := H2.out.2.2.1.trans ⟨ho3.os, ho3.tape, ho3.output, ho3.size, fun i hi => ho3.block i (Nat.lt_of_lt_of_le hi H2.out.2.2.1.size) (fun e => by have := H2.out.2.2.2.2; omega)⟩
  clear hown3 ho3 hb3 hlu
  go_wp2_with fail
  go_ret2
  exact ⟨rfl, H3.out⟩
theorem union_any (a b : ByteArray) (w : World) (ha : a.size ≤ 140737488355328) (hb : b.size ≤ 140737488355328) : Calls Try.prog 14 #[.string a, .string b] w fun e w' => e = .returned (.tuple #[.string (unV a b), .int .i64 (unE a b)]) ∧ Below w.heap.size w w' := by
  unfold unV unE
  by_cases h : exOk a ∧ exOk b
  · rw [if_pos h, if_pos h]
    by_cases h2 : exP a = exP b
    · rw [if_pos h2, if_pos h2]; exact union_yes a b w h.1 h.2 h2
    · rw [if_neg h2, if_neg h2]
      exact (union_arg a b w h.1 h.2 h2).mono fun e w' ⟨he, hw⟩ => ⟨he, by rw [← hw]; exact Below.refl _ _⟩
  · rw [if_neg h, if_neg h]
    exact (union_no a b w ha hb h).mono fun e w' ⟨he, hw⟩ => ⟨he, by rw [← hw]; exact Below.refl _ _⟩
end Go.Proofs.Ytbkadfocjmpieaa
