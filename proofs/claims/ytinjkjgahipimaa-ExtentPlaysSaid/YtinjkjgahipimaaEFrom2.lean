/-
  A map of its bits: the walks.
-/
import Derived.Test.YtinjkjgahipimaaEFrom
set_option linter.unusedVariables false
namespace Go.Proofs.Ytinjkjgahipimaa
open Go.RowKit

theorem toList_loop (bs : ByteArray) : ∀ d i r, bs.size - i = d → ByteArray.toList.loop bs i r = r.reverse ++ bs.data.toList.drop i := by
  intro d
  induction d with
  | zero =>
    intro i r h
    rw [ByteArray.toList.loop, if_neg (by omega), List.drop_of_length_le (by rw [Array.length_toList]; show bs.size ≤ i; omega), List.append_nil]
  | succ d ih =>
    intro i r h
    have hi : i < bs.size := by omega
    rw [ByteArray.toList.loop, if_pos hi, ih (i + 1) _ (by omega), List.reverse_cons, List.append_assoc]
    have h2 : i < bs.data.toList.length := by rw [Array.length_toList]; exact hi
    rw [List.drop_eq_getElem_cons h2]
    have e : bs.get! i = bs.data.toList[i] := by
      show bs.data[i]! = _
      rw [getElem!_pos bs.data i hi]
      rfl
    rw [e]
    rfl
theorem toList_data (bs : ByteArray) : bs.toList = bs.data.toList := by
  unfold ByteArray.toList
  rw [toList_loop bs _ 0 [] rfl]
  rfl
theorem toList_ne {s t : ByteArray} (h : s ≠ t) : (s.toList == t.toList) = false := by
  rw [beq_eq_false_iff_ne, toList_data, toList_data]
  intro e
  apply h
  obtain ⟨⟨a⟩⟩ := s
  obtain ⟨⟨b⟩⟩ := t
  simp at e
  rw [e]
theorem quiet_left1 {P : Program} {f : FuncId} {args : Array Value} {w : World} {n : Nat} {v : Value}
    (h : Calls P f args (w.drewN n) fun e w' => e = .returned v ∧ w.drewN n = w') : Calls P f args (w.drewN n) fun e w'' => e = .returned v ∧ ∃ m, w'' = w.drewN m :=
  h.mono fun _ _ ⟨he, hm⟩ => ⟨he, n, hm.symm⟩
theorem Mp.drewN {w : World} {h : Nat} {S : Nat → Prop} {s : St} (m : Mp w h S s) (n : Nat) : Mp (w.drewN n) h S s := m.keep (F := fun _ => False) ((Only.refl _ w).drewN n) (fun _ _ => id)
theorem Rm.drewN {w : World} {h : Nat} {S : Nat → Prop} {s : St} (m : Rm w h S s) (n : Nat) : Rm (w.drewN n) h S s := m.keep (F := fun _ => False) ((Only.refl _ w).drewN n) (fun _ _ => id)
/-- what a text of bits makes -/
def fbOk (f n : Nat) (s : ByteArray) : Prop := s.size = (n + 7) / 8 ∧ bitsT f (fb s f n n) = s

set_option maxRecDepth 100000 in
set_option maxHeartbeats 1000000 in
theorem from_no (f n : Int) (s : ByteArray) (w : World) (h : f < 0 ∨ n < f ∨ 4096 < n) : Calls Try.prog 10 #[.int .i64 f, .int .i64 n, .string s] w fun e w' => e = .returned (.tuple #[.pointer none, .int .i64 1]) ∧ w = w' := by
  have HC := Lib.hid (new_no f n w h)
  clear h
  go_enter Try.func10, Try.ntmps10
  go_wp2_with fail
  refine HC.out.mono ?_
  rintro e w' ⟨rfl, rfl⟩
  go_wp2_with fail
  go_ret2
  exact ⟨rfl, rfl⟩
set_option maxRecDepth 100000 in
set_option maxHeartbeats 1000000 in
theorem rfrom_no (f n : Int) (s : ByteArray) (w : World) (h : f < 0 ∨ n < f ∨ 4096 < n) : Calls Try.prog 9 #[.int .i64 f, .int .i64 n, .string s] w fun e w' => e = .returned (.tuple #[.pointer none, .int .i64 1]) ∧ w = w' := by
  have HC := Lib.hid (rnew_no f n w h)
  clear h
  go_enter Try.func9, Try.ntmps9
  go_wp2_with fail
  refine HC.out.mono ?_
  rintro e w' ⟨rfl, rfl⟩
  go_wp2_with fail
  go_ret2
  exact ⟨rfl, rfl⟩
set_option maxRecDepth 100000 in
set_option maxHeartbeats 1000000 in
theorem from_size (f n : Nat) (s : ByteArray) (w : World) (h1 : f ≤ n) (h2 : n ≤ 4096) (hs : s.size ≤ 140737488355328) (hne : s.size ≠ (n + 7) / 8) : Calls Try.prog 10 #[.int .i64 f, .int .i64 n, .string s] w fun e w' => e = .returned (.tuple #[.pointer none, .int .i64 4]) ∧ Below w.heap.size w w' := by
  have HC := Lib.hid (new_yes f n w h1 h2)
  obtain ⟨M, hM⟩ : ∃ M, M = (n + 7) / 8 := ⟨_, rfl⟩
  have hMi : ((n : Int) + 7) / 8 = (M : Int) := by omega
  have hb : ((s.size : Int) != (M : Int)) = true := by simp; omega
  clear hM hne
  go_enter Try.func10, Try.ntmps10
  go_wp2_with fail
  refine HC.out.mono ?_
  rintro e w1 ⟨h, S, rfl, hm, hb1, hS⟩
  have H1 := Lib.hid hb1
  clear hm hb1 hS
  go_wp2_with fail
  go_ret2
  exact ⟨rfl, H1.out⟩
set_option maxRecDepth 100000 in
set_option maxHeartbeats 1000000 in
theorem rfrom_size (f n : Nat) (s : ByteArray) (w : World) (h1 : f ≤ n) (h2 : n ≤ 4096) (hs : s.size ≤ 140737488355328) (hne : s.size ≠ (n + 7) / 8) : Calls Try.prog 9 #[.int .i64 f, .int .i64 n, .string s] w fun e w' => e = .returned (.tuple #[.pointer none, .int .i64 4]) ∧ Below w.heap.size w w' := by
  have HC := Lib.hid (rnew_yes f n w h1 h2)
  obtain ⟨M, hM⟩ : ∃ M, M = (n + 7) / 8 := ⟨_, rfl⟩
  have hMi : ((n : Int) + 7) / 8 = (M : Int) := by omega
  have hb : ((s.size : Int) != (M : Int)) = true := by simp; omega
  clear hM hne
  go_enter Try.func9, Try.ntmps9
  go_wp2_with fail
  refine HC.out.mono ?_
  rintro e w1 ⟨h, S, rfl, hm, hb1, hS⟩
  have H1 := Lib.hid hb1
  clear hm hb1 hS
  go_wp2_with fail
  go_ret2
  exact ⟨rfl, H1.out⟩

/-- what reading bits leaves -/
def FromP (M : World → Nat → (Nat → Prop) → St → Prop) (f n : Nat) (s : ByteArray) (w : World) (e : Ending) (w' : World) : Prop :=
  (fbOk f n s → ∃ (h : Nat) (S : Nat → Prop), e = .returned (.tuple #[.pointer (some ⟨h, 0, none⟩), .int .i64 0]) ∧ M w' h S (fbSt s f n n) ∧ Below w.heap.size w w' ∧ ∀ k, S k → w.heap.size ≤ k) ∧
  (¬ fbOk f n s → e = .returned (.tuple #[.pointer none, .int .i64 4]) ∧ Below w.heap.size w w')

set_option maxRecDepth 100000 in
set_option maxHeartbeats 2000000 in
theorem from_any (f n : Nat) (s : ByteArray) (w : World) (h1 : f ≤ n) (h2 : n ≤ 4096) (hs : s.size = (n + 7) / 8) : Calls Try.prog 10 #[.int .i64 f, .int .i64 n, .string s] w (FromP Mp f n s w) := by
  have HC := Lib.hid (new_yes f n w h1 h2)
  obtain ⟨M, hM⟩ : ∃ M, M = (n + 7) / 8 := ⟨_, rfl⟩
  have hMi : ((n : Int) + 7) / 8 = (M : Int) := by omega
  have hsM : s.size = M := by omega
  have hbM : ((s.size : Int) != (M : Int)) = false := by simp; omega
  have HS := Lib.hid (And.intro hM hs)
  have hM4 : M ≤ 600 := by omega
  have hs4 : s.size ≤ 600 := by omega
  clear hM hs hsM
  go_enter Try.func10, Try.ntmps10
  go_wp2_with fail
  refine HC.out.mono ?_
  rintro e w1 ⟨h, S, rfl, hm, hb1, hS⟩
  rw [newSt_fb s f n] at hm
  have H1 := Lib.hid (And.intro hm (And.intro hb1 hS))
  clear hm hb1 hS
  go_wp2_with fail
  go_loopg [10] (n - f) (fun g i wr => ∃ k : Nat, k + g = n ∧ f ≤ k ∧ i = .int .i64 k ∧ Mp wr h S (fbSt s f n k) ∧ Below w.heap.size w wr)
  case atStart => exact ⟨f, by omega, Nat.le_refl _, rfl, H1.out.1, H1.out.2.1⟩
  case round =>
    obtain ⟨k, hk, hfk, rfl, hm, hbel⟩ := hrel
    by_cases hlt : k < n
    · obtain ⟨q, hqq⟩ : ∃ q, q = k / 8 := ⟨_, rfl⟩
      have hq : (k : Int) / 8 = (q : Int) := by omega
      have hqt : Int.tdiv (k : Int) 8 = (q : Int) := by rw [Int.tdiv_eq_ediv_of_nonneg (by omega)]; exact hq
      have hqs : q < s.size := by have := HS.out; omega
      have hq0 : (0 : Int) ≤ (q : Int) := by omega
      have hqM : (q : Int) < (s.size : Int) := by omega
      have hqw : IntKind.i64.wrap (q : Int) = (q : Int) := IntWalk.i64_in _ (by omega)
      have hbyte := byte_getD s q hqs
      have hand := bitAt_and s k
      rw [← hqq, hbyte] at hand
      obtain ⟨b, hb⟩ : ∃ b, b = bm k := ⟨_, rfl⟩
      have hb256 : b < 256 := by rw [hb]; exact bm_lt k
      have hb0 : b ≠ 0 := by rw [hb]; unfold bm; exact Nat.ne_of_gt (Nat.two_pow_pos _)
      have hx256 : s[q].toNat < 256 := s[q].toNat_lt
      have hanI := u8_and_nat s[q].toNat b hx256 hb256
      have hmask : Hid (∀ (w : World) (n : Nat), Calls Try.prog 34 #[.int .i64 k] (w.drewN n) fun e w'' => e = .returned (.int .u8 (b : Nat)) ∧ ∃ m, w'' = w.drewN m) := fun w n => by rw [hb]; exact quiet_left1 (mask_any k _ (by omega))
      rw [← hb] at hand
      rw [hand] at hanI
      have hlen : (fbSt s f n k).l.length = n := length_fb s f n k
      obtain ⟨go, c, V, hbk, hcell, hfz, hSg, hset, hcl⟩ := hm.set_ (k := k) (by rw [hlen]; exact hlt)
      rw [hlen] at hbk hcl
      have c1 := hbk.cell 1
      simp at c1
      have hv : (fbSt s f n k).l.getD k 0 = 0 := by show (fb s f n k).getD k 0 = 0; rw [getD_fb, if_neg (by omega)]
      rw [hv] at hcell
      rcases Nat.lt_or_ge (bitAt s k) 1 with hbit | hbit
      · have hz : bitAt s k = 0 := by omega
        rw [if_neg (by omega)] at hanI
        have hsk : fbSt s f n k = fbSt s f n (k + 1) := by unfold fbSt; rw [fb_skip hz]
        have HX := Lib.hid (And.intro hsk (And.intro hm hbel))
        clear hsk hm hbel hset hbk hcell hfz hand hbyte hz hv hqq hb hb0 c1
        rw [show ((0 : Nat) : Int) = 0 from rfl] at hanI
        go_upto_region 9 with fail
        go_quiet ((go_at_call 34; exact hmask.out _ _))
        go_wp2_with fail
        go_roundg (gk - 1)
        case measure => omega
        case rel => exact ⟨k + 1, by omega, by omega, by go_num, by rw [← HX.out.1]; exact HX.out.2.1.drewN _, below_drewN HX.out.2.2 _⟩
      · have hz : bitAt s k = 1 := by have := bitAt_lt s k; omega
        rw [if_pos hz] at hanI
        have hbI : ((b : Int) != 0) = true := by simp; omega
        have hst := hset (bitAt s k)
        have hsk : ({ fbSt s f n k with l := (fbSt s f n k).l.set k (bitAt s k) } : St) = fbSt s f n (k + 1) := by
          show (⟨f, (fb s f n k).set k (bitAt s k), false, []⟩ : St) = _
          rw [fb_set hfk hlt]; rfl
        rw [hsk, hz] at hst
        have hgo := H1.out.2.2
        have HX := Lib.hid (And.intro hst (And.intro (hbel.setCell (p := ⟨go, k, none⟩) (H1.out.2.2 go hSg) (.int .u8 ((1 : Nat) : Int))) trivial))
        clear hsk hst hm hbel hset hbk hand hbyte hz hv hqq hb hb0 hgo
        go_upto_region 9 with fail
        go_quiet ((go_at_call 34; exact hmask.out _ _))
        go_wp2_with fail
        go_roundg (gk - 1)
        case measure => omega
        case rel => exact ⟨k + 1, by omega, by omega, by go_num, HX.out.1.drewN _, below_drewN HX.out.2.1 _⟩
    · obtain rfl : k = n := by omega
      have hcb := bits_any h S (fbSt s f k k) wr hm (fbSt_ok h1 h2)
      have hbt : bitsT (fbSt s f k k).f (fbSt s f k k).l = bitsT f (fb s f k k) := rfl
      rw [hbt] at hcb
      obtain ⟨T, hT⟩ : ∃ T, T = bitsT f (fb s f k k) := ⟨_, rfl⟩
      rw [← hT] at hcb
      have HX := Lib.hid (And.intro hcb (And.intro hm (And.intro hbel hT)))
      clear hcb hm hbel hT hbt
      go_wp2_with fail
      refine HX.out.1.mono ?_
      rintro e w5 ⟨rfl, hb⟩
      have HB := Lib.hid (And.intro (HX.out.2.1.below hb) (below_step HX.out.2.2.1 hb))
      clear hb
      by_cases hTs : T = s
      · have hok : Hid (fbOk f k s) := ⟨HS.out.2, by rw [← HX.out.2.2.2]; exact hTs⟩
        subst hTs
        go_wp2_with fail
        go_ret2
        exact ⟨fun _ => ⟨h, S, rfl, HB.out.1, HB.out.2, H1.out.2.2⟩, fun hn => absurd hok.out hn⟩
      · have hok : Hid (¬ fbOk f k s) := fun hh => hTs (by rw [HX.out.2.2.2]; exact hh.2)
        have hd := toList_ne hTs
        clear hTs
        go_wp2_with fail
        go_ret2
        exact ⟨fun hh => absurd hh hok.out, fun _ => ⟨rfl, HB.out.2⟩⟩
set_option maxRecDepth 100000 in
set_option maxHeartbeats 2000000 in
theorem rfrom_any (f n : Nat) (s : ByteArray) (w : World) (h1 : f ≤ n) (h2 : n ≤ 4096) (hs : s.size = (n + 7) / 8) : Calls Try.prog 9 #[.int .i64 f, .int .i64 n, .string s] w (FromP Rm f n s w) := by
  have HC := Lib.hid (rnew_yes f n w h1 h2)
  obtain ⟨M, hM⟩ : ∃ M, M = (n + 7) / 8 := ⟨_, rfl⟩
  have hMi : ((n : Int) + 7) / 8 = (M : Int) := by omega
  have hsM : s.size = M := by omega
  have hbM : ((s.size : Int) != (M : Int)) = false := by simp; omega
  have HS := Lib.hid (And.intro hM hs)
  have hM4 : M ≤ 600 := by omega
  have hs4 : s.size ≤ 600 := by omega
  clear hM hs hsM
  go_enter Try.func9, Try.ntmps9
  go_wp2_with fail
  refine HC.out.mono ?_
  rintro e w1 ⟨h, S, rfl, hm, hb1, hS⟩
  rw [newSt_fb s f n] at hm
  have H1 := Lib.hid (And.intro hm (And.intro hb1 hS))
  clear hm hb1 hS
  go_wp2_with fail
  go_loopg [10] (n - f) (fun g i wr => ∃ k : Nat, k + g = n ∧ f ≤ k ∧ i = .int .i64 k ∧ Rm wr h S (fbSt s f n k) ∧ Below w.heap.size w wr)
  case atStart => exact ⟨f, by omega, Nat.le_refl _, rfl, H1.out.1, H1.out.2.1⟩
  case round =>
    obtain ⟨k, hk, hfk, rfl, hm, hbel⟩ := hrel
    by_cases hlt : k < n
    · obtain ⟨q, hqq⟩ : ∃ q, q = k / 8 := ⟨_, rfl⟩
      have hq : (k : Int) / 8 = (q : Int) := by omega
      have hqt : Int.tdiv (k : Int) 8 = (q : Int) := by rw [Int.tdiv_eq_ediv_of_nonneg (by omega)]; exact hq
      have hqs : q < s.size := by have := HS.out; omega
      have hq0 : (0 : Int) ≤ (q : Int) := by omega
      have hqM : (q : Int) < (s.size : Int) := by omega
      have hqw : IntKind.i64.wrap (q : Int) = (q : Int) := IntWalk.i64_in _ (by omega)
      have hbyte := byte_getD s q hqs
      obtain ⟨r, hrr⟩ : ∃ r, r = k % 8 := ⟨_, rfl⟩
      obtain ⟨t, ht⟩ : ∃ t, t = 7 - r := ⟨_, rfl⟩
      have hr : (k : Int) % 8 = (r : Int) := by omega
      have hrt : Int.tmod (k : Int) 8 = (r : Int) := by rw [Int.tmod_eq_emod_of_nonneg (by omega)]; exact hr
      have hti : (7 : Int) - (r : Int) = (t : Int) := by omega
      have hrw : IntKind.i64.wrap (r : Int) = (r : Int) := IntWalk.i64_in _ (by omega)
      have htw : IntKind.i64.wrap (t : Int) = (t : Int) := IntWalk.i64_in _ (by omega)
      have htw2 : IntKind.i64.wrap ((7 : Int) - (r : Int)) = (t : Int) := by rw [hti]; exact htw
      have ht0 : (0 : Int) ≤ (t : Int) := by omega
      have ht7 : t ≤ 7 := by omega
      obtain ⟨y, hy⟩ : ∃ y, y = s[q].toNat / 2 ^ t := ⟨_, rfl⟩
      have hy256 : y < 256 := by rw [hy]; exact Nat.lt_of_le_of_lt (Nat.div_le_self _ _) s[q].toNat_lt
      have hyi : (s[q].toNat : Int) / 2 ^ t = (y : Int) := by rw [hy, Int.natCast_ediv, Int.natCast_pow]; rfl
      obtain ⟨z, hz⟩ : ∃ z, z = y % 2 := ⟨_, rfl⟩
      have hzi : (y : Int) % 2 = (z : Int) := by omega
      have hzt : Int.tmod (y : Int) 2 = (z : Int) := by rw [Int.tmod_eq_emod_of_nonneg (by omega)]; exact hzi
      have hz2 : z < 2 := by omega
      have hzb : z = bitAt s k := by unfold bitAt; rw [← hqq, hbyte, ← hrr, ← ht, ← hy, hz]
      have hzw : IntKind.u8.wrap (z : Int) = (z : Int) := IntWalk.u8_in _ (by omega)
      have hyw : IntKind.u8.wrap (y : Int) = (y : Int) := IntWalk.u8_in _ (by omega)
      have hzw2 : IntKind.i64.wrap (z : Int) = (z : Int) := IntWalk.i64_in _ (by omega)
      have hlen : (fbSt s f n k).l.length = n := length_fb s f n k
      obtain ⟨go, c, V, hbk, hcell, hfz, hSg, hset, hcl⟩ := hm.set_ (k := k) (by rw [hlen]; exact hlt)
      rw [hlen] at hbk hcl
      have c1 := hbk.cell 2
      simp at c1
      have hst := hset (bitAt s k)
      have hsk : ({ fbSt s f n k with l := (fbSt s f n k).l.set k (bitAt s k) } : St) = fbSt s f n (k + 1) := by
        show (⟨f, (fb s f n k).set k (bitAt s k), false, []⟩ : St) = _
        rw [fb_set hfk hlt]; rfl
      rw [hsk, ← hzb] at hst
      obtain ⟨v0, hv0⟩ : ∃ v, v = (fbSt s f n k).l.getD k 0 := ⟨_, rfl⟩
      rw [← hv0] at hcell
      have HX := Lib.hid (And.intro hst (And.intro (hbel.setCell (p := ⟨go, k, none⟩) (H1.out.2.2 go hSg) (.int .i64 (z : Int))) trivial))
      clear hsk hst hm hbel hset hbk hbyte hqq hrr ht hy hz hzb hv0
      go_wp2_with fail
      go_region
      all_goals go_wp2_with fail
      all_goals go_roundg (gk - 1)
      all_goals first | omega | exact ⟨k + 1, by omega, by omega, by go_num, HX.out.1.drewN 1, HX.out.2.1.drew⟩
    · obtain rfl : k = n := by omega
      have hcb := rbits_any h S (fbSt s f k k) wr hm (fbSt_ok h1 h2)
      have hbt : bitsT (fbSt s f k k).f (fbSt s f k k).l = bitsT f (fb s f k k) := rfl
      rw [hbt] at hcb
      obtain ⟨T, hT⟩ : ∃ T, T = bitsT f (fb s f k k) := ⟨_, rfl⟩
      rw [← hT] at hcb
      have HX := Lib.hid (And.intro hcb (And.intro hm (And.intro hbel hT)))
      clear hcb hm hbel hT hbt
      go_wp2_with fail
      refine HX.out.1.mono ?_
      rintro e w5 ⟨rfl, hb⟩
      have HB := Lib.hid (And.intro (HX.out.2.1.below hb) (below_step HX.out.2.2.1 hb))
      clear hb
      by_cases hTs : T = s
      · have hok : Hid (fbOk f k s) := ⟨HS.out.2, by rw [← HX.out.2.2.2]; exact hTs⟩
        subst hTs
        go_wp2_with fail
        go_ret2
        exact ⟨fun _ => ⟨h, S, rfl, HB.out.1, HB.out.2, H1.out.2.2⟩, fun hn => absurd hok.out hn⟩
      · have hok : Hid (¬ fbOk f k s) := fun hh => hTs (by rw [HX.out.2.2.2]; exact hh.2)
        have hd := toList_ne hTs
        clear hTs
        go_wp2_with fail
        go_ret2
        exact ⟨fun hh => absurd hh hok.out, fun _ => ⟨rfl, HB.out.2⟩⟩
end Go.Proofs.Ytinjkjgahipimaa
