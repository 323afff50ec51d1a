/-
  Numbers, bits of numbers, texts: walks.
-/
import Derived.Test.YtmgngmnkmmhckaaRefBits
import Derived.Laws.IdiomStrings
import Derived.Laws.BytesString
import Derived.OwnWalk
set_option linter.unusedVariables false
namespace Go.Proofs.Ytmgngmnkmmhckaa
open Go.RowKit Plain

/-- a slice of booleans that reads as a list -/
def SlB (w : World) (A : Option Addr) (l : List Bool) : Prop := ∀ i, i < l.length → ∃ a, A = some a ∧ w.cell? (a.add i) = some (.bool (l.getD i false))

theorem num_take_succ (l : List Bool) (i : Nat) (h : i < l.length) : num (l.take (i + 1)) = 2 * num (l.take i) + (l.getD i false).toNat := by
  rw [List.take_succ_eq_append_getElem h, num_snoc]
  simp [List.getD, List.getElem?_eq_getElem h]

set_option maxRecDepth 100000 in
set_option maxHeartbeats 1000000 in
theorem number_any (A : Option Addr) (c : Nat) (l : List Bool) (w : World) (hl : l.length ≤ 64) (hA : SlB w A l) :
    Calls Try.prog 49 #[.slice A l.length c] w fun e w' => e = .returned (.int .u64 (num l : Nat)) ∧ w = w' := by
  go_enter Try.func49, Try.ntmps49
  go_wp2
  go_loopg [3, 4] l.length (fun g v i wr => ∃ k : Nat, k + g = l.length ∧ i = .int .i64 k ∧ v = .int .u64 (num (l.take k) : Nat) ∧ w = wr)
  case atStart => exact ⟨0, by omega, rfl, rfl, rfl⟩
  case round =>
    obtain ⟨k, hk, rfl, rfl, rfl⟩ := hrel
    by_cases hlt : k < l.length
    · obtain ⟨a, rfl, hc⟩ := hA k hlt
      have hns := num_take_succ l k hlt
      have hnl := num_lt (l.take k)
      have hkl : (l.take k).length = k := by rw [List.length_take]; omega
      rw [hkl] at hnl
      have hp : 2 ^ k ≤ 2 ^ 63 := Nat.pow_le_pow_right (by decide) (by omega)
      have hp3 : (2 : Nat) ^ 63 = 9223372036854775808 := by decide
      obtain ⟨x, hx⟩ : ∃ x, x = num (l.take k) := ⟨_, rfl⟩
      rw [← hx] at hns hnl ⊢
      have hx2 : x < 9223372036854775808 := by omega
      obtain ⟨b, hb⟩ : ∃ b, b = l.getD k false := ⟨_, rfl⟩
      rw [← hb] at hc hns
      have Hns := Lib.hid hns
      have Hx := Lib.hid hx
      clear hns hnl hkl hp hp3 hx hb
      cases b
      · go_wp2
        go_roundg (gk - 1)
        case measure => omega
        case rel => exact ⟨k + 1, by omega, by go_num, by rw [Hns.out]; simp, rfl⟩
      · go_wp2
        go_roundg (gk - 1)
        case measure => omega
        case rel => exact ⟨k + 1, by omega, by go_num, by rw [Hns.out]; simp, rfl⟩
    · go_wp2
      go_ret
      have e : l.take k = l := List.take_of_length_le (by omega)
      exact ⟨by rw [e]; rfl, rfl⟩

theorem and1_u64 (x g : Nat) (hx : x < 18446744073709551616) : bits BinOp.and IntKind.u64 ((x : Int) / 2 ^ g) 1 = ((x / 2 ^ g % 2 : Nat) : Int) := by
  have h1 : ((x : Int) / 2 ^ g) = ((x / 2 ^ g : Nat) : Int) := by simp
  have h2 : x / 2 ^ g < 18446744073709551616 := Nat.lt_of_le_of_lt (Nat.div_le_self _ _) hx
  rw [h1]
  have := u64_and_nat (x / 2 ^ g) 1 h2 (by decide)
  rw [show ((1 : Int)) = ((1 : Nat) : Int) from rfl, this, Nat.and_one_is_mod]
theorem bit_u64 (x g : Nat) (hx : x < 18446744073709551616) : (bits BinOp.and IntKind.u64 ((x : Int) / 2 ^ g) 1 == 1) = x.testBit g := by
  rw [and1_u64 x g hx, Nat.testBit_eq_decide_div_mod_eq]
  by_cases h : x / 2 ^ g % 2 = 1
  · simp [h]
  · have h0 : x / 2 ^ g % 2 = 0 := by omega
    simp [h0]
theorem take_bitsN (x n g : Nat) (hg : g < n) : (bitsOf x n).take (n - g) = (bitsOf x n).take (n - (g + 1)) ++ [x.testBit g] := by
  have h1 : n - g = n - (g + 1) + 1 := by omega
  rw [h1]
  have h2 : n - (g + 1) < (bitsOf x n).length := by rw [length_bitsOf]; omega
  rw [List.take_succ_eq_append_getElem h2]
  congr 2
  have h3 : (bitsOf x n)[n - (g + 1)] = (bitsOf x n).getD (n - (g + 1)) false := by rw [List.getD, List.getElem?_eq_getElem h2]; rfl
  have h4 : n - (g + 1) < n := by omega
  have h5 : n - 1 - (n - (g + 1)) = g := by omega
  rw [h3, getD_bitsOf, h5, decide_eq_true h4, Bool.true_and]

set_option maxRecDepth 100000 in
set_option maxHeartbeats 1000000 in
theorem of_any (v n : Nat) (w : World) (hv : v < 18446744073709551616) (hn : n ≤ 64) :
    Calls Try.prog 64 #[.int .u64 v, .int .i64 n] w fun e w' => ∃ r, e = .returned r ∧ BRow w w' r (bitsOf v n) := by
  obtain ⟨i0, hi, hz0, hz1, hz2⟩ := info_parts info4
  go_enter Try.func64, Try.ntmps64
  go_wp2
  go_loopg [5, 6] n (fun g r j wr => j = .int .i64 ((g : Int) - 1) ∧ g ≤ n ∧ BRow w wr r ((bitsOf v n).take (n - g)))
  case atStart => exact ⟨rfl, Nat.le_refl _, by rw [Nat.sub_self]; exact ⟨World.ownsRow_nil _ _ _ _, Below.refl _ _⟩⟩
  case round =>
    obtain ⟨rfl, hgn, hbr⟩ := hrel
    by_cases hg0 : gk = 0
    · subst hg0
      go_wp2
      go_ret
      have e8 : (bitsOf v n).take (n - 0) = bitsOf v n := List.take_of_length_le (by rw [length_bitsOf]; omega)
      exact ⟨_, rfl, by rw [e8] at hbr; exact hbr⟩
    · obtain ⟨g, rfl⟩ : ∃ g, gk = g + 1 := ⟨gk - 1, by omega⟩
      have e : (((g + 1 : Nat) : Int) - 1) = (g : Int) := by omega
      rw [e]
      have hbit := bit_u64 v g hv
      obtain ⟨b, hb⟩ : ∃ b, b = v.testBit g := ⟨_, rfl⟩
      rw [← hb] at hbit
      obtain ⟨L, hL⟩ : ∃ L, L = (bitsOf v n).take (n - (g + 1)) := ⟨_, rfl⟩
      rw [← hL] at hbr
      have hlen : L.length ≤ 64 := by
        rw [hL, List.length_take, length_bitsOf]; omega
      have HL := Lib.hid hL
      have Hb := Lib.hid hb
      clear hL hb
      obtain ⟨hown, hbel⟩ := hbr
      go_wp2_with (at_builtin; refine wpList_append_own_at _ rfl (.tmp 13) (.tmp 19) _ rfl w.heap.size 4 i0 (.bool false) 1 1 Try.underlying26 hi hz0 hz1 hz2 rfl (by decide) u5 L.length (bs L) rfl (hown.alloc _) ⟨wr.heap.size, 0, none⟩ 1 1 [.bool b] rfl rfl ?c1 ?c2 ?c3 ?c4 ?c5 ?_)
      case c1 => exact cell_one_new _ _ _
      case c2 => simp [Value.oneCell']
      case c3 => unfold maxLen; omega
      case c4 => omega
      case c5 => have := hbel.size; simp; omega
      intro v' w1 hown1 hgrow _ hat
      have HC := Lib.hid (And.intro hown1 hgrow)
      clear hown1 hgrow hat
      go_wp2_with fail
      go_roundg g
      case measure => omega
      case rel =>
        refine ⟨rfl, by omega, ?_⟩
        obtain ⟨hown1, hgrow⟩ := HC.out
        rw [take_bitsN _ _ _ (by omega), ← HL.out, ← Hb.out]
        exact BRow.snoc hown hbel hown1 hgrow

/-- bytes as a string -/
def strOf (b : List Nat) : ByteArray := ⟨(b.map UInt8.ofNat).toArray⟩
theorem run_text {w : World} {v : Value} {b : List Nat} {n : Nat} (hn : n = b.length) (h : w.ownsRow 0 5 1 v n (u8s b)) (hb : ∀ k, b.getD k 0 < 256) :
    (convert 91 9 v).run Try.prog w = .ok (.string (strOf b)) w := by
  subst hn
  rcases Nat.eq_zero_or_pos b.length with h0 | h0
  · have hbn : b = [] := List.eq_nil_of_length_eq_zero h0
    subst hbn
    rcases h.2 with ⟨rfl, _⟩ | ⟨g, cap, cur, rfl, _⟩
    · rw [run_convert_bytes_string w 91 9 5 none 0 0 Try.underlying91 Try.underlying5 Try.underlying9]
      simp [Conv.bytesToString]
      rfl
    · exact run_convert_bytes_back w 91 9 5 ⟨g, 0, none⟩ cap [] Try.underlying91 Try.underlying5 Try.underlying9 (fun j hj => by simp at hj)
  · obtain ⟨g, cap, rfl, _, _⟩ := World.ownsRow.form h h0
    have hr := run_convert_bytes_back (P := Try.prog) w 91 9 5 ⟨g, 0, none⟩ cap (b.map UInt8.ofNat) Try.underlying91 Try.underlying5 Try.underlying9 (fun j hj => by
      have hj2 : j < b.length := by simpa using hj
      have hc := World.ownsRow.cellAt h j (by omega)
      rw [u8s_get hj2] at hc
      have ha : (⟨g, 0, none⟩ : Addr).add j = ⟨g, j, none⟩ := by unfold Addr.add; split <;> simp_all
      rw [ha, hc]
      have hk := hb j
      have e : b.getD j 0 = b[j] := by simp [List.getD, List.getElem?_eq_getElem hj2]
      rw [e] at hk ⊢
      simp only [List.getElem_map]
      congr 2
      rw [UInt8.toNat_ofNat']
      have : b[j] % 2 ^ 8 = b[j] := Nat.mod_eq_of_lt (by simpa using hk)
      rw [this])
    rw [List.length_map] at hr
    exact hr

set_option maxHeartbeats 400000 in
theorem wlen_any (h : Nat) (o : Option Nat) (l : List Bool) (w : World) (hw : WrAt w h o l) :
    Calls Try.prog 25 #[.pointer (some ⟨h, 0, none⟩)] w fun e w' => e = .returned (.int .i64 (l.length : Nat)) ∧ w = w' := by
  obtain ⟨v, hb, _, _⟩ := hw
  have hc1 := hb.cell 1
  simp at hc1
  go_enter Try.func25, Try.ntmps25
  go_wp2
  go_ret
  exact ⟨rfl, rfl⟩

set_option maxHeartbeats 400000 in
theorem wtext_any (h : Nat) (o : Option Nat) (l : List Bool) (w : World) (hw : WrAt w h o l) :
    Calls Try.prog 28 #[.pointer (some ⟨h, 0, none⟩)] w fun e w' => e = .returned (.tuple #[.string (strOf (pk l)), .int .i64 0]) ∧ w = w' := by
  obtain ⟨v, hb, ho, _⟩ := hw
  have hc0 := hb.cell 0
  simp at hc0
  have hcv := run_text rfl ho (pk_lt l)
  go_enter Try.func28, Try.ntmps28
  go_wp2
  go_ret2
  exact ⟨rfl, rfl⟩
end Go.Proofs.Ytmgngmnkmmhckaa
