/-
  The reference's Unpack.
-/
import Derived.Test.YtmgngmnkmmhckaaUnpack
import Derived.Deep.RegionHeld3
set_option linter.unusedVariables false
namespace Go.Proofs.Ytmgngmnkmmhckaa
open Go.RowKit Plain

/-- the reader and the row beside it -/
structure RUn (w0 w : World) (h : Nat) (s : ByteArray) (a : Nat) (v : Value) (xs : List Nat) : Prop where
  at_ : RrAt w h (bitsS s) a
  row : w.ownsRow (h + 1) 35 1 v xs.length (u64s xs)
  below : Below w0.heap.size w0 w
  ge : w0.heap.size ≤ h
theorem RUn.took {w0 w w1 : World} {h a a' : Nat} {s : ByteArray} {v : Value} {xs : List Nat} (t : RUn w0 w h s a v xs) (p : RrTo w h (bitsS s) a' w1) : RUn w0 w1 h s a' v xs :=
  ⟨p.1, own_only t.row p.2 (fun g hg e => by have := (t.row.lt g hg).1; omega), below_only t.below p.2 t.below.size (by rintro i rfl; exact t.ge), t.ge⟩
theorem RUn.place {w0 w w1 : World} {h a x : Nat} {s : ByteArray} {v v' : Value} {xs : List Nat} {o : Obj} (t : RUn w0 w h s a v xs)
    (hown : w1.ownsRow (h + 1) 35 1 v' (xs.length + 1) (u64s xs ++ [.int .u64 x])) (hg : (w.alloc o).grownBy w1 v.ownBlock) :
    RUn w0 w1 h s a v' (xs ++ [x]) := by
  have ho : Only (fun k => v.ownBlock = some k) w w1 := ((Only.refl _ _).alloc o).grown hg (fun g hg => .inl hg)
  obtain ⟨A, c, hb, ha, hr⟩ := t.at_
  refine ⟨⟨A, c, hb.only ho (fun e => by have := (t.row.lt h e).1; omega), ha, own_only hr ho (fun k hk e => own_own_ne hr t.row (by decide) k hk e)⟩, by rw [List.length_append, u64s_append]; exact hown, below_only t.below ho t.below.size (fun k e => by have := (t.row.lt k e).1; have := t.ge; omega), t.ge⟩
theorem rtake_yes {h a n : Nat} {s : ByteArray} {w : World} (hw : RrAt w h (bitsS s) a) (hs : s.size ≤ 16777216) (hn : n ≤ 64) (hl : a + n ≤ 8 * s.size) :
    Calls Try.prog 18 #[.pointer (some ⟨h, 0, none⟩), .int .i64 n] w fun e w' => e = .returned (.tuple #[.int .u64 (num (((bitsS s).drop a).take n) : Nat), .int .i64 0]) ∧ RrTo w h (bitsS s) (a + n) w' := by
  have hlen := length_bitsS s
  have hc : takeCode (bitsS s).length a n = 0 := by unfold takeCode; rw [if_neg (by omega), if_neg (by omega)]
  have := rtake_any h (bitsS s) a n w hw (by omega)
  rw [show takeVal (bitsS s) a n = num (((bitsS s).drop a).take n) from by unfold takeVal; rw [hc]; rfl, hc,
    show takeAt (bitsS s).length a n = a + n from by unfold takeAt; rw [hc]; rfl] at this
  exact this

set_option maxRecDepth 100000 in
set_option maxHeartbeats 4000000 in
theorem runpack_any (s : ByteArray) (n c : Int) (w : World) (hs : s.size ≤ 16777216) :
    Calls Try.prog 34 #[.string s, .int .i64 n, .int .i64 c] w fun e w' => ∃ v, e = .returned (.tuple #[v, .int .i64 (unC s n c)]) ∧ w'.ownsRow w.heap.size 35 1 v (unOut s n c).length (u64s (unOut s n c)) ∧ Below w.heap.size w w' := by
  by_cases h0 : n < 1 ∨ 64 < n ∨ c < 0
  · have HN := Lib.hid (un_arg (s := s) h0)
    by_cases h1 : n < 1
    · clear h0
      go_enter Try.func34, Try.ntmps34
      go_wp2_with fail
      go_ret2
      rw [HN.out.1, HN.out.2]
      exact ⟨_, rfl, World.ownsRow_nil _ _ _ _, Below.refl _ _⟩
    by_cases h2 : 64 < n
    · clear h0
      go_enter Try.func34, Try.ntmps34
      go_wp2_with fail
      go_ret2
      rw [HN.out.1, HN.out.2]
      exact ⟨_, rfl, World.ownsRow_nil _ _ _ _, Below.refl _ _⟩
    have h3 : c < 0 := by omega
    clear h0
    go_enter Try.func34, Try.ntmps34
    go_wp2_with fail
    go_ret2
    rw [HN.out.1, HN.out.2]
    exact ⟨_, rfl, World.ownsRow_nil _ _ _ _, Below.refl _ _⟩
  have H0 := Lib.hid h0
  obtain ⟨m, rfl⟩ := Int.eq_ofNat_of_zero_le (show 0 ≤ n by omega)
  obtain ⟨k, rfl⟩ := Int.eq_ofNat_of_zero_le (show 0 ≤ c by omega)
  have hm1 : 1 ≤ m := by omega
  have hm64 : m ≤ 64 := by omega
  clear h0
  obtain ⟨q, hq⟩ : ∃ q, q = 134217728 / m := ⟨_, rfl⟩
  have hqi : (134217728 : Int) / (m : Int) = (q : Int) := by rw [hq]; rfl
  have hqm : q * m ≤ 134217728 := by rw [hq]; exact Nat.div_mul_le_self _ _
  have hqle : q ≤ 134217728 := by rw [hq]; exact Nat.div_le_self _ _
  have Hq := Lib.hid (And.intro hq hqm)
  clear hq hqm
  by_cases h3 : q < k
  · have HN := Lib.hid (un_form (s := s) H0.out (by rw [Hq.out.1] at h3; simp only [Int.toNat_natCast]; omega))
    go_enter Try.func34, Try.ntmps34
    go_wp2_with fail
    go_ret2
    rw [HN.out.1, HN.out.2]
    exact ⟨_, rfl, World.ownsRow_nil _ _ _ _, Below.refl _ _⟩
  have hkq : k ≤ q := by omega
  clear h3
  obtain ⟨mk, hmk⟩ : ∃ mk, mk = m * k := ⟨_, rfl⟩
  have hmki : (m : Int) * (k : Int) = (mk : Int) := by rw [hmk]; rfl
  have hmkl : mk ≤ 134217728 := by
    have h1 : k * m ≤ q * m := Nat.mul_le_mul_right _ hkq
    have h2 := Hq.out.2
    rw [hmk, Nat.mul_comm m k]; omega
  obtain ⟨z, hz⟩ : ∃ z, z = (mk + 7) / 8 := ⟨_, rfl⟩
  have hzi : ((mk : Int) + 7) / 8 = (z : Int) := by rw [hz]; rfl
  have Hz := Lib.hid (And.intro hmk hz)
  clear hz hmk
  by_cases h4 : s.size = z
  case neg =>
    have HN := Lib.hid (un_form (s := s) H0.out (by simp only [Int.toNat_natCast]; rintro ⟨_, h⟩; rw [← Hz.out.1, ← Hz.out.2] at h; exact h4 h))
    have h5 : ((s.size : Int) != (z : Int)) = true := bne_iff_ne.2 (by omega)
    clear h4
    go_enter Try.func34, Try.ntmps34
    go_wp2_with fail
    go_ret2
    rw [HN.out.1, HN.out.2]
    exact ⟨_, rfl, World.ownsRow_nil _ _ _ _, Below.refl _ _⟩
  have hfit : k ≤ 134217728 / m ∧ s.size = (m * k + 7) / 8 := ⟨by rw [← Hq.out.1]; exact hkq, by rw [← Hz.out.1, ← Hz.out.2]; exact h4⟩
  have h5 : ((s.size : Int) != (z : Int)) = false := by simp; exact_mod_cast h4
  have h8 : mk ≤ 8 * s.size ∧ 8 * s.size < mk + 8 := by rw [h4, Hz.out.2]; omega
  have HF := Lib.hid (And.intro hfit h8)
  clear hfit h4 h8
  obtain ⟨i0, hi, hz0, hz1, hz2⟩ := info_parts info35
  go_enter Try.func34, Try.ntmps34
  go_wp2_with fail
  refine (bits_any s _ hs).mono ?_
  rintro e w2 ⟨r, rfl, hbr⟩
  obtain ⟨A1, c1, rfl⟩ := hbr.shape
  have HU : Hid (RUn w ((w2).alloc (.cells #[.slice A1 (bitsS s).length c1, .int .i64 0] 29)) w2.heap.size s 0 (.slice none 0 0) []) := by
    obtain ⟨q1, q2⟩ := hbr
    have o1 : Only (fun _ => False) w (w2.alloc (.cells #[.slice A1 (bitsS s).length c1, .int .i64 0] 29)) := (Only.of_below q2).alloc _
    exact ⟨⟨A1, c1, Blk.new _ _ _, Nat.zero_le _, own_only (own_base q1) ((Only.refl (fun _ => False) _).alloc _) (fun _ _ e => e)⟩, World.ownsRow_nil _ _ _ _, below_only (Below.refl _ w) o1 (Nat.le_refl _) (by rintro i e; cases e), q2.size⟩
  clear hbr
  go_wp2_with fail
  obtain ⟨h1, hh1⟩ : ∃ h1, h1 = w2.heap.size := ⟨_, rfl⟩
  obtain ⟨wx, hwx⟩ : ∃ wx, wx = w2.alloc (.cells #[.slice A1 (bitsS s).length c1, .int .i64 0] 29) := ⟨_, rfl⟩
  rw [← hwx, ← hh1] at HU
  rw [← hwx, ← hh1]
  clear hwx hh1
  go_wp2_with fail
  go_loopg [9, 10] k (fun g v i wr => ∃ j : Nat, j + g = k ∧ i = .int .i64 j ∧ RUn w wr h1 s (j * m) v (unL (bitsS s) m j))
  case atStart => exact ⟨0, by omega, rfl, by rw [Nat.zero_mul]; exact HU.out⟩
  case round =>
    obtain ⟨j, hj, rfl, ht⟩ := hrel
    clear HU
    by_cases hlt : j < k
    · have hat := ht.at_
      have hfit : j * m + m ≤ 8 * s.size := by
        have h1 : (j + 1) * m ≤ k * m := Nat.mul_le_mul_right _ (by omega)
        have h2 := HF.out.2.1
        rw [Hz.out.1, Nat.mul_comm m k] at h2
        rw [Nat.add_mul] at h1; omega
      have HT := Lib.hid ht
      clear ht
      obtain ⟨a, ha⟩ : ∃ a, a = j * m := ⟨_, rfl⟩
      rw [← ha] at hat hfit
      have Ha := Lib.hid ha
      clear ha
      obtain ⟨L, hL⟩ : ∃ L, L = unL (bitsS s) m j := ⟨_, rfl⟩
      have hlL : L.length = j := by rw [hL]; exact length_unL _ _ _
      have HL := Lib.hid (And.intro hL hlL)
      clear hL hlL
      go_wp2_with fail
      refine (rtake_yes hat hs hm64 hfit).mono ?_
      rintro e w2 ⟨rfl, hp⟩
      have hU2 := HT.out.took hp
      rw [← HL.out.1] at hU2
      have hown := hU2.row
      rw [HL.out.2] at hown
      have HU2 := Lib.hid hU2
      clear hp hU2 hat
      obtain ⟨x, hx⟩ : ∃ x, x = num (((bitsS s).drop a).take m) := ⟨_, rfl⟩
      rw [← hx]
      have Hx := Lib.hid hx
      clear hx
      go_wp2_with (at_builtin; refine wpList_append_own_at _ rfl (.tmp 52) (.tmp 54) _ rfl (h1 + 1) 35 i0 (.int .u64 0) 1 8 Try.underlying58 hi hz0 hz1 hz2 rfl (by decide) u9 j (u64s L) rfl (hown.alloc _) ⟨w2.heap.size, 0, none⟩ 1 1 [.int .u64 x] rfl rfl ?c1 ?c2 ?c3 ?c4 ?c5 ?_)
      case c1 => exact cell_one_new _ _ _
      case c2 => simp [Value.oneCell']
      case c3 => unfold maxLen; omega
      case c4 => omega
      case c5 => have := RrAt.lt HU2.out.at_; rw [World.size_alloc]; omega
      intro v' w3 hown1 hgrow _ hat
      have hU3 := HU2.out.place (by rw [HL.out.2]; exact hown1) hgrow
      have HU3 := Lib.hid hU3
      clear hown hown1 hgrow hat hU3
      go_wp2_with fail
      go_roundg (gk - 1)
      case measure => omega
      case rel =>
        refine ⟨j + 1, by omega, by go_num, ?_⟩
        have := HU3.out
        rw [HL.out.1, Hx.out, Ha.out, ← unL_succ] at this
        rw [Nat.add_mul, Nat.one_mul]
        exact this
    · have hjk : j = k := by omega
      subst hjk
      have hat := ht.at_
      have HT := Lib.hid ht
      clear ht
      have hjm : j * m = mk := by rw [Hz.out.1, Nat.mul_comm]
      rw [hjm] at hat
      have HAt := Lib.hid hat
      obtain ⟨A, c, hb, ha, hown⟩ := hat
      have hcap : (bitsS s).length ≤ c := by
        rcases hown.2 with ⟨e, h0⟩ | ⟨g, cap, cur, e, _, _, hc, _⟩
        · injection e with _ e1 e2; omega
        · injection e with _ _ e2; subst e2; omega
      have c0 := hb.cell 0
      have cc1 := hb.cell 1
      simp at c0 cc1
      have hl64 := HF.out.2
      have hlb := length_bitsS s
      obtain ⟨lb, hlbe⟩ : ∃ lb, lb = (bitsS s).length := ⟨_, rfl⟩
      have hsl := SlB.own hown
      rw [← hlbe] at c0 hcap ha hlb
      have hl4 : lb - mk ≤ 64 := by omega
      have hdl : lb - mk = (((bitsS s).drop mk).take (lb - mk)).length := by rw [List.length_take, List.length_drop, ← hlbe]; omega
      have hrest : ((bitsS s).drop mk).take (lb - mk) = (bitsS s).drop mk := List.take_of_length_le (by rw [List.length_drop, ← hlbe]; omega)
      have hcut := hsl.cut mk (lb - mk) (by rw [← hlbe]; omega) c (by rw [← hlbe]; exact hcap)
      have HH := Lib.hid (And.intro hlbe (And.intro hlb (And.intro hdl (And.intro hrest hcut))))
      clear hlbe hlb hdl hrest hsl hcut hb hown hl64
      go_wp2_with fail
      obtain ⟨x, hx⟩ : ∃ x, x = num (((bitsS s).drop mk).take (lb - mk)) := ⟨_, rfl⟩
      have hcall : ∀ nn, Calls Try.prog 49 #[.slice (if c = mk then A else A.map (·.add mk)) (lb - mk) (c - mk)] (wr.drewN nn) fun e w'' => e = .returned (.int .u64 (x : Nat)) ∧ ∃ m, w'' = wr.drewN m := by
        intro nn
        rw [hx]
        exact quiet_left1 (number_len HH.out.2.2.1 (by rw [← HH.out.2.2.1]; exact hl4) HH.out.2.2.2.2)
      have Hx := Lib.hid (And.intro hx hcall)
      clear hx hcall
      by_cases hx0 : x = 0
      · have HN := Lib.hid (un_ok (s := s) H0.out (by simpa using HF.out.1) (by simp only [Int.toNat_natCast]; rw [← Hz.out.1, ← HH.out.2.2.2.1, ← Hx.out.1]; exact hx0))
        go_quiet ((go_at_call 49; exact Hx.out.2 _))
        go_wp2_with fail
        all_goals go_ret2
        all_goals rw [HN.out.1, HN.out.2]
        all_goals exact ⟨_, rfl, by simpa using own_drewN (own_low HT.out.row (Nat.le_succ_of_le HT.out.ge)) _, below_drewN HT.out.below _⟩
      · have HN := Lib.hid (un_rest (s := s) H0.out (by simpa using HF.out.1) (by simp only [Int.toNat_natCast]; rw [← Hz.out.1, ← HH.out.2.2.2.1, ← Hx.out.1]; exact hx0))
        go_quiet ((go_at_call 49; exact Hx.out.2 _))
        go_wp2_with fail
        all_goals go_ret2
        all_goals rw [HN.out.1, HN.out.2]
        all_goals exact ⟨_, rfl, World.ownsRow_nil _ _ _ _, below_drewN HT.out.below _⟩
end Go.Proofs.Ytmgngmnkmmhckaa
