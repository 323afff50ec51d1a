/-
  The program's Unpack.
-/
import Derived.Test.YtmgngmnkmmhckaaRefPack
import Derived.Test.YtmgngmnkmmhckaaLReads
set_option linter.unusedVariables false
namespace Go.Proofs.Ytmgngmnkmmhckaa
open Go.RowKit Plain

def u64s (l : List Nat) : List Value := l.map fun (x : Nat) => .int .u64 x
theorem length_u64s (l : List Nat) : (u64s l).length = l.length := by simp [u64s]
theorem u64s_append (l m : List Nat) : u64s (l ++ m) = u64s l ++ u64s m := by simp [u64s]
def unL (B : List Bool) (n k : Nat) : List Nat := (List.range k).map fun i => num ((B.drop (i * n)).take n)
theorem length_unL (B : List Bool) (n k : Nat) : (unL B n k).length = k := by simp [unL]
theorem unL_succ (B : List Bool) (n k : Nat) : unL B n (k + 1) = unL B n k ++ [num ((B.drop (k * n)).take n)] := by unfold unL; rw [List.range_succ, List.map_append]; rfl
def unC (s : ByteArray) (n c : Int) : Int :=
  if n < 1 ∨ 64 < n ∨ c < 0 then 1 else if ¬ (c.toNat ≤ 134217728 / n.toNat ∧ s.size = (n.toNat * c.toNat + 7) / 8) then 4 else if num ((bitsS s).drop (n.toNat * c.toNat)) = 0 then 0 else 4
def unOut (s : ByteArray) (n c : Int) : List Nat := if unC s n c = 0 then unL (bitsS s) n.toNat c.toNat else []
theorem un_arg {s : ByteArray} {n c : Int} (h : n < 1 ∨ 64 < n ∨ c < 0) : unC s n c = 1 ∧ unOut s n c = [] := by
  have : unC s n c = 1 := by unfold unC; rw [if_pos h]
  exact ⟨this, by unfold unOut; rw [this]; rfl⟩
theorem un_form {s : ByteArray} {n c : Int} (h : ¬ (n < 1 ∨ 64 < n ∨ c < 0)) (h2 : ¬ (c.toNat ≤ 134217728 / n.toNat ∧ s.size = (n.toNat * c.toNat + 7) / 8)) : unC s n c = 4 ∧ unOut s n c = [] := by
  have : unC s n c = 4 := by unfold unC; rw [if_neg h, if_pos h2]
  exact ⟨this, by unfold unOut; rw [this]; rfl⟩
theorem un_rest {s : ByteArray} {n c : Int} (h : ¬ (n < 1 ∨ 64 < n ∨ c < 0)) (h2 : c.toNat ≤ 134217728 / n.toNat ∧ s.size = (n.toNat * c.toNat + 7) / 8) (h3 : num ((bitsS s).drop (n.toNat * c.toNat)) ≠ 0) : unC s n c = 4 ∧ unOut s n c = [] := by
  have : unC s n c = 4 := by unfold unC; rw [if_neg h, if_neg (fun h => h h2), if_neg h3]
  exact ⟨this, by unfold unOut; rw [this]; rfl⟩
theorem un_ok {s : ByteArray} {n c : Int} (h : ¬ (n < 1 ∨ 64 < n ∨ c < 0)) (h2 : c.toNat ≤ 134217728 / n.toNat ∧ s.size = (n.toNat * c.toNat + 7) / 8) (h3 : num ((bitsS s).drop (n.toNat * c.toNat)) = 0) : unC s n c = 0 ∧ unOut s n c = unL (bitsS s) n.toNat c.toNat := by
  have : unC s n c = 0 := by unfold unC; rw [if_neg h, if_neg (fun h => h h2), if_pos h3]
  exact ⟨this, by unfold unOut; rw [this]; rfl⟩

theorem info35 : (Try.prog.info? 35).map (fun i => (i.zero, i.size, i.bytes)) = some (some (.int .u64 0), 1, 8) := by kernel_rfl

theorem own_low {w : World} {b b' : Nat} {e : TypeId} {size n : Nat} {v : Value} {xs : List Value} (h : w.ownsRow b e size v n xs) (hb : b' ≤ b) : w.ownsRow b' e size v n xs := by
  refine ⟨h.1, ?_⟩
  rcases h.2 with h2 | ⟨g, cap, cur, hv, hg, rest⟩
  · exact .inl h2
  · exact .inr ⟨g, cap, cur, hv, Nat.le_trans hb hg, rest⟩
theorem take_yes {h a n : Nat} {s : ByteArray} {w : World} (hw : RdAt w h s a) (hs : s.size ≤ 16777216) (hn : n ≤ 64) (hl : a + n ≤ 8 * s.size) :
    Calls Try.prog 17 #[.pointer (some ⟨h, 0, none⟩), .int .i64 n] w fun e w' => e = .returned (.tuple #[.int .u64 (num (((bitsS s).drop a).take n) : Nat), .int .i64 0]) ∧ RdTo w h s (a + n) w' := by
  have hc : takeCode (8 * s.size) a n = 0 := by unfold takeCode; rw [if_neg (by omega), if_neg (by omega)]
  have := take_any h s a n w hw (by omega)
  rw [show takeVal (bitsS s) a n = num (((bitsS s).drop a).take n) from by unfold takeVal; rw [length_bitsS, hc]; rfl, hc,
    show takeAt (8 * s.size) a n = a + n from by unfold takeAt; rw [hc]; rfl] at this
  exact this

/-- the reader and the row beside it -/
structure Un (w0 w : World) (h : Nat) (s : ByteArray) (a : Nat) (v : Value) (xs : List Nat) : Prop where
  at_ : RdAt w h s a
  row : w.ownsRow (h + 1) 35 1 v xs.length (u64s xs)
  below : Below h w0 w
theorem Un.took {w0 w w1 : World} {h a a' : Nat} {s : ByteArray} {v : Value} {xs : List Nat} (t : Un w0 w h s a v xs) (p : RdTo w h s a' w1) : Un w0 w1 h s a' v xs :=
  ⟨p.1, own_only t.row p.2 (fun g hg e => by have := (t.row.lt g hg).1; omega), by
    have := p.2.below (B := h) (fun k hk e => by omega) (Nat.le_of_lt (RdAt.lt t.at_))
    exact t.below.trans this⟩
theorem Un.place {w0 w w1 : World} {h a x : Nat} {s : ByteArray} {v v' : Value} {xs : List Nat} {o : Obj} (t : Un w0 w h s a v xs)
    (hown : w1.ownsRow (h + 1) 35 1 v' (xs.length + 1) (u64s xs ++ [.int .u64 x])) (hg : (w.alloc o).grownBy w1 v.ownBlock) :
    Un w0 w1 h s a v' (xs ++ [x]) := by
  have ho : Only (fun k => v.ownBlock = some k) w w1 := ((Only.refl _ _).alloc o).grown hg (fun g hg => .inl hg)
  refine ⟨⟨t.at_.1.only ho (fun e => by have := (t.row.lt h e).1; omega), t.at_.2⟩, by rw [List.length_append, u64s_append]; exact hown, t.below.trans (ho.below (fun k hk e => by have := (t.row.lt k e).1; omega) (Nat.le_of_lt (RdAt.lt t.at_)))⟩

set_option maxRecDepth 100000 in
set_option maxHeartbeats 4000000 in
theorem unpack_any (s : ByteArray) (n c : Int) (w : World) (hs : s.size ≤ 16777216) :
    Calls Try.prog 33 #[.string s, .int .i64 n, .int .i64 c] w fun e w' => ∃ v, e = .returned (.tuple #[v, .int .i64 (unC s n c)]) ∧ w'.ownsRow w.heap.size 35 1 v (unOut s n c).length (u64s (unOut s n c)) ∧ Below w.heap.size w w' := by
  by_cases h0 : n < 1 ∨ 64 < n ∨ c < 0
  · have HN := Lib.hid (un_arg (s := s) h0)
    by_cases h1 : n < 1
    · clear h0
      go_enter Try.func33, Try.ntmps33
      go_wp2_with fail
      go_ret2
      rw [HN.out.1, HN.out.2]
      exact ⟨_, rfl, World.ownsRow_nil _ _ _ _, Below.refl _ _⟩
    by_cases h2 : 64 < n
    · clear h0
      go_enter Try.func33, Try.ntmps33
      go_wp2_with fail
      go_ret2
      rw [HN.out.1, HN.out.2]
      exact ⟨_, rfl, World.ownsRow_nil _ _ _ _, Below.refl _ _⟩
    have h3 : c < 0 := by omega
    clear h0
    go_enter Try.func33, Try.ntmps33
    go_wp2_with fail
    go_ret2
    rw [HN.out.1, HN.out.2]
    exact ⟨_, rfl, World.ownsRow_nil _ _ _ _, Below.refl _ _⟩
  have H0 := Lib.hid h0
  obtain ⟨m, rfl⟩ := Int.eq_ofNat_of_zero_le (show 0 ≤ n by omega)
  obtain ⟨k, rfl⟩ := Int.eq_ofNat_of_zero_le (show 0 ≤ c by omega)
  have hm1 : 1 ≤ m := by omega
  have hm64 : m ≤ 64 := by omega
  clear h0
  obtain ⟨q, hq⟩ : ∃ q, q = 134217728 / m := ⟨_, rfl⟩
  have hqi : (134217728 : Int) / (m : Int) = (q : Int) := by rw [hq]; rfl
  have hqm : q * m ≤ 134217728 := by rw [hq]; exact Nat.div_mul_le_self _ _
  have hqle : q ≤ 134217728 := by rw [hq]; exact Nat.div_le_self _ _
  have Hq := Lib.hid (And.intro hq hqm)
  clear hq hqm
  by_cases h3 : q < k
  · have HN := Lib.hid (un_form (s := s) H0.out (by rw [Hq.out.1] at h3; simp only [Int.toNat_natCast]; omega))
    go_enter Try.func33, Try.ntmps33
    go_wp2_with fail
    go_ret2
    rw [HN.out.1, HN.out.2]
    exact ⟨_, rfl, World.ownsRow_nil _ _ _ _, Below.refl _ _⟩
  have hkq : k ≤ q := by omega
  clear h3
  obtain ⟨mk, hmk⟩ : ∃ mk, mk = m * k := ⟨_, rfl⟩
  have hmki : (m : Int) * (k : Int) = (mk : Int) := by rw [hmk]; rfl
  have hmkl : mk ≤ 134217728 := by
    have h1 : k * m ≤ q * m := Nat.mul_le_mul_right _ hkq
    have h2 := Hq.out.2
    rw [hmk, Nat.mul_comm m k]; omega
  obtain ⟨z, hz⟩ : ∃ z, z = (mk + 7) / 8 := ⟨_, rfl⟩
  have hzi : ((mk : Int) + 7) / 8 = (z : Int) := by rw [hz]; rfl
  have Hz := Lib.hid (And.intro hmk hz)
  clear hz hmk
  by_cases h4 : s.size = z
  case neg =>
    have HN := Lib.hid (un_form (s := s) H0.out (by simp only [Int.toNat_natCast]; rintro ⟨_, h⟩; rw [← Hz.out.1, ← Hz.out.2] at h; exact h4 h))
    have h5 : ((s.size : Int) != (z : Int)) = true := bne_iff_ne.2 (by omega)
    clear h4
    go_enter Try.func33, Try.ntmps33
    go_wp2_with fail
    go_ret2
    rw [HN.out.1, HN.out.2]
    exact ⟨_, rfl, World.ownsRow_nil _ _ _ _, Below.refl _ _⟩
  have hfit : k ≤ 134217728 / m ∧ s.size = (m * k + 7) / 8 := ⟨by rw [← Hq.out.1]; exact hkq, by rw [← Hz.out.1, ← Hz.out.2]; exact h4⟩
  have h5 : ((s.size : Int) != (z : Int)) = false := by simp; exact_mod_cast h4
  have h8 : mk ≤ 8 * s.size ∧ 8 * s.size < mk + 8 := by rw [h4, Hz.out.2]; omega
  have HF := Lib.hid (And.intro hfit h8)
  clear hfit h4 h8
  obtain ⟨i0, hi, hz0, hz1, hz2⟩ := info_parts info35
  go_enter Try.func33, Try.ntmps33
  go_wp2_with fail
  refine (open_any s _).mono ?_
  rintro e w1 ⟨rfl, rfl⟩
  have hU : Un w (w.alloc (.cells #[.string s, .int .i64 0] 88)) w.heap.size s 0 (.slice none 0 0) [] := ⟨RdAt.new w s, World.ownsRow_nil _ _ _ _, (Below.refl _ w).alloc (Nat.le_refl _) _⟩
  obtain ⟨h1, hh1⟩ : ∃ h1, h1 = w.heap.size := ⟨_, rfl⟩
  obtain ⟨wx, hwx⟩ : ∃ wx, wx = w.alloc (.cells #[.string s, .int .i64 0] 88) := ⟨_, rfl⟩
  rw [← hwx, ← hh1] at hU
  rw [← hwx, ← hh1]
  have G1 : Hid (w.heap.size = h1) := hh1.symm
  have HU := Lib.hid hU
  clear hwx hh1 hU
  go_wp2_with fail
  go_loopg [9, 43] k (fun g v i wr => ∃ j : Nat, j + g = k ∧ i = .int .i64 j ∧ Un w wr h1 s (j * m) v (unL (bitsS s) m j))
  case atStart => exact ⟨0, by omega, rfl, by rw [Nat.zero_mul]; exact HU.out⟩
  case round =>
    obtain ⟨j, hj, rfl, ht⟩ := hrel
    clear HU
    by_cases hlt : j < k
    · have hat := ht.at_
      have hfit : j * m + m ≤ 8 * s.size := by
        have h1 : (j + 1) * m ≤ k * m := Nat.mul_le_mul_right _ (by omega)
        have h2 := HF.out.2.1
        rw [Hz.out.1, Nat.mul_comm m k] at h2
        rw [Nat.add_mul] at h1; omega
      have HT := Lib.hid ht
      clear ht
      obtain ⟨a, ha⟩ : ∃ a, a = j * m := ⟨_, rfl⟩
      rw [← ha] at hat hfit
      have Ha := Lib.hid ha
      clear ha
      obtain ⟨L, hL⟩ : ∃ L, L = unL (bitsS s) m j := ⟨_, rfl⟩
      have hlL : L.length = j := by rw [hL]; exact length_unL _ _ _
      have HL := Lib.hid (And.intro hL hlL)
      clear hL hlL
      go_wp2_with fail
      refine (take_yes hat hs hm64 hfit).mono ?_
      rintro e w2 ⟨rfl, hp⟩
      have hU2 := HT.out.took hp
      rw [← HL.out.1] at hU2
      have hown := hU2.row
      rw [HL.out.2] at hown
      have HU2 := Lib.hid hU2
      clear hp hU2 hat
      obtain ⟨x, hx⟩ : ∃ x, x = num (((bitsS s).drop a).take m) := ⟨_, rfl⟩
      rw [← hx]
      have Hx := Lib.hid hx
      clear hx
      go_wp2_with (at_builtin; refine wpList_append_own_at _ rfl (.tmp 51) (.tmp 53) _ rfl (h1 + 1) 35 i0 (.int .u64 0) 1 8 Try.underlying58 hi hz0 hz1 hz2 rfl (by decide) u9 j (u64s L) rfl (hown.alloc _) ⟨w2.heap.size, 0, none⟩ 1 1 [.int .u64 x] rfl rfl ?c1 ?c2 ?c3 ?c4 ?c5 ?_)
      case c1 => exact cell_one_new _ _ _
      case c2 => simp [Value.oneCell']
      case c3 => unfold maxLen; omega
      case c4 => omega
      case c5 => have := RdAt.lt HU2.out.at_; rw [World.size_alloc]; omega
      intro v' w3 hown1 hgrow _ hat
      have hU3 := HU2.out.place (by rw [HL.out.2]; exact hown1) hgrow
      have HU3 := Lib.hid hU3
      clear hown hown1 hgrow hat hU3
      go_wp2_with fail
      go_roundg (gk - 1)
      case measure => omega
      case rel =>
        refine ⟨j + 1, by omega, by go_num, ?_⟩
        have := HU3.out
        rw [HL.out.1, Hx.out, Ha.out, ← unL_succ] at this
        rw [Nat.add_mul, Nat.one_mul]
        exact this
    · have hjk : j = k := by omega
      subst hjk
      have hat := ht.at_
      have HT := Lib.hid ht
      clear ht
      have hjm : j * m = mk := by rw [Hz.out.1, Nat.mul_comm]
      rw [hjm] at hat
      have HJ := Lib.hid hjm
      clear hjm
      go_wp2_with fail
      refine (left_any h1 s mk _ hat (by omega)).mono ?_
      rintro e w2 ⟨rfl, kk, rfl⟩
      have hat2 := hat.drewN kk
      obtain ⟨y, hy⟩ : ∃ y, y = 8 * s.size - mk := ⟨_, rfl⟩
      have h8 := HF.out.2
      have hyi : 8 * (s.size : Int) - (mk : Int) = (y : Int) := by omega
      have hy2 : mk + y = 8 * s.size := by omega
      have hy64 : y ≤ 64 := by omega
      have Hy := Lib.hid hy
      clear hy h8
      go_wp2_with fail
      refine (take_yes hat2 hs hy64 (by omega)).mono ?_
      rintro e w3 ⟨rfl, hp⟩
      have hU2 : Un w w3 h1 s (mk + y) u9 (unL (bitsS s) m j) := by
        have t := HT.out
        refine (Un.took (a' := mk + y) (w := wr.drewN kk) ⟨hat2, own_drewN t.row kk, below_drewN t.below kk⟩ hp)
      have HU2 := Lib.hid hU2
      clear hp hU2 hat hat2
      have hrest : ((bitsS s).drop mk).take y = (bitsS s).drop mk := List.take_of_length_le (by rw [List.length_drop, length_bitsS]; omega)
      rw [hrest]
      clear hrest
      obtain ⟨x, hx⟩ : ∃ x, x = num ((bitsS s).drop mk) := ⟨_, rfl⟩
      rw [← hx]
      have hbase : w3.ownsRow w.heap.size 35 1 u9 (unL (bitsS s) m j).length (u64s (unL (bitsS s) m j)) := by
        have := HU2.out.row
        rw [G1.out]
        exact own_low this (Nat.le_succ _)
      have hbel : Below w.heap.size w w3 := by rw [G1.out]; exact HU2.out.below
      have HB := Lib.hid (And.intro hbase hbel)
      clear hbase hbel
      by_cases hx0 : x = 0
      · have HN := Lib.hid (un_ok (s := s) H0.out (by simpa using HF.out.1) (by simp only [Int.toNat_natCast]; rw [← Hz.out.1, ← hx]; exact hx0))
        clear hx
        go_wp2_with fail
        go_ret2
        rw [HN.out.1, HN.out.2]
        exact ⟨_, rfl, by simpa using HB.out.1, HB.out.2⟩
      · have HN := Lib.hid (un_rest (s := s) H0.out (by simpa using HF.out.1) (by simp only [Int.toNat_natCast]; rw [← Hz.out.1, ← hx]; exact hx0))
        clear hx
        go_wp2_with fail
        go_ret2
        rw [HN.out.1, HN.out.2]
        exact ⟨_, rfl, World.ownsRow_nil _ _ _ _, HB.out.2⟩
end Go.Proofs.Ytmgngmnkmmhckaa
