/-
  The reference's Text.
-/
import Derived.Test.YtmgngmnkmmhckaaRefW
set_option linter.unusedVariables false
namespace Go.Proofs.Ytmgngmnkmmhckaa
open Go.RowKit Plain

namespace Plain
def pad (l : List Bool) (i : Nat) : List Nat := pk (l.take i ++ List.replicate (l.length - i) false)
theorem length_padb (l : List Bool) (i : Nat) (hi : i ≤ l.length) : (l.take i ++ List.replicate (l.length - i) false).length = l.length := by
  rw [List.length_append, List.length_take, List.length_replicate]; omega
theorem length_pad (l : List Bool) (i : Nat) (hi : i ≤ l.length) : (pad l i).length = (l.length + 7) / 8 := by rw [pad, length_pk, length_padb l i hi]
theorem getD_replicate (n j : Nat) : (List.replicate n false).getD j false = false := by
  simp only [List.getD, List.getElem?_replicate]; split <;> rfl
theorem getD_padb (l : List Bool) (i j : Nat) (hi : i ≤ l.length) : (l.take i ++ List.replicate (l.length - i) false).getD j false = (decide (j < i) && l.getD j false) := by
  rw [getD_append, List.length_take]
  by_cases h : j < i
  · rw [if_pos (by omega)]
    simp [h, List.getD]
  · rw [if_neg (by omega), getD_replicate]
    simp [h]
theorem pad_zero (l : List Bool) : pad l 0 = List.replicate ((l.length + 7) / 8) 0 := by
  symm
  refine eq_pk (by rw [List.length_replicate, length_padb l 0 (Nat.zero_le _)]) ?_ ?_
  · intro k hk; simp only [List.getD, List.getElem?_replicate]; split <;> simp
  · intro k j hk hj
    rw [getD_padb l 0 _ (Nat.zero_le _)]
    have e : (List.replicate ((l.length + 7) / 8) 0).getD k 0 = 0 := by simp only [List.getD, List.getElem?_replicate]; split <;> rfl
    rw [e]; simp
theorem pad_full (l : List Bool) : pad l l.length = pk l := by
  unfold pad
  rw [Nat.sub_self, List.take_length]
  simp
theorem pad_no (l : List Bool) (i : Nat) (hi : i < l.length) (h : l.getD i false = false) : pad l i = pad l (i + 1) := by
  refine eq_pk (by rw [length_pad l i (by omega), length_padb l (i + 1) hi]) (fun k _ => pk_lt _ k) ?_
  intro k j hk hj
  rw [length_pad l i (by omega)] at hk
  rw [pad, testBit_pk _ k j (by rw [length_padb l i (by omega)]; exact hk) hj, getD_padb l i _ (by omega), getD_padb l (i + 1) _ hi]
  by_cases h1 : 8 * k + (7 - j) = i
  · rw [h1, h]; simp
  · have : (8 * k + (7 - j) < i + 1) = (8 * k + (7 - j) < i) := by apply propext; omega
    simp only [this]
theorem pad_yes (l : List Bool) (i : Nat) (hi : i < l.length) (h : l.getD i false = true) : (pad l i).set (i / 8) ((pad l i).getD (i / 8) 0 ||| 2 ^ (7 - i % 8)) = pad l (i + 1) := by
  have hl1 := length_pad l i (by omega)
  have hm : i / 8 < (pad l i).length := by omega
  have hgm : ((pad l i).set (i / 8) ((pad l i).getD (i / 8) 0 ||| 2 ^ (7 - i % 8))).getD (i / 8) 0 = ((pad l i).getD (i / 8) 0 ||| 2 ^ (7 - i % 8)) := by simp [List.getD, hm]
  have hgo : ∀ k, k ≠ i / 8 → ((pad l i).set (i / 8) ((pad l i).getD (i / 8) 0 ||| 2 ^ (7 - i % 8))).getD k 0 = (pad l i).getD k 0 := by
    intro k hk; simp [List.getD, Ne.symm hk]
  have h256 : 2 ^ (7 - i % 8) < 2 ^ 8 := Nat.pow_lt_pow_right (by decide) (by omega)
  refine eq_pk (by rw [List.length_set, hl1, length_padb l (i + 1) hi]) ?_ ?_
  · intro k _
    by_cases hk : k = i / 8
    · rw [hk, hgm]
      exact Nat.or_lt_two_pow (n := 8) (pk_lt _ _) h256
    · rw [hgo k hk]; exact pk_lt _ _
  · intro k j hk hj
    rw [List.length_set, hl1] at hk
    have hkp : k < ((l.take i ++ List.replicate (l.length - i) false).length + 7) / 8 := by rw [length_padb l i (by omega)]; exact hk
    by_cases hkm : k = i / 8
    · subst hkm
      rw [hgm, Nat.testBit_or, pad, testBit_pk _ _ j hkp hj, getD_padb l i _ (by omega), getD_padb l (i + 1) _ hi, Nat.testBit_two_pow]
      by_cases h1 : 7 - i % 8 = j
      · have e : 8 * (i / 8) + (7 - j) = i := by omega
        simp [h1, e]
        simpa [List.getD] using h
      · have : (8 * (i / 8) + (7 - j) < i + 1) = (8 * (i / 8) + (7 - j) < i) := by apply propext; omega
        simp [h1, this]
    · rw [hgo k hkm, pad, testBit_pk _ k j hkp hj, getD_padb l i _ (by omega), getD_padb l (i + 1) _ hi]
      have : (8 * k + (7 - j) < i + 1) = (8 * k + (7 - j) < i) := by apply propext; omega
      simp only [this]
end Plain

theorem own_base {w : World} {base : Nat} {e : TypeId} {size n : Nat} {v : Value} {xs : List Value} (h : w.ownsRow base e size v n xs) : w.ownsRow 0 e size v n xs := by
  refine ⟨h.1, ?_⟩
  rcases h.2 with h2 | ⟨g, cap, cur, hv, _, rest⟩
  · exact .inl h2
  · exact .inr ⟨g, cap, cur, hv, Nat.zero_le _, rest⟩
theorem u8s_replicate (n : Nat) : List.replicate n (Value.int .u8 0) = u8s (List.replicate n 0) := by simp [u8s]

theorem text_byte (x r : Nat) (hx : x < 256) : bits BinOp.or IntKind.u8 (x : Int) (2 ^ (7 - r) % 256) = ((x ||| 2 ^ (7 - r) : Nat) : Int) := by
  have h256 : 2 ^ (7 - r) < 2 ^ 8 := Nat.pow_lt_pow_right (by decide) (by omega)
  have e8 : (2 : Nat) ^ 8 = 256 := by decide
  have h1 : ((2 : Int) ^ (7 - r) % 256) = ((2 ^ (7 - r) : Nat) : Int) := by
    have h2 : (2 : Int) ^ (7 - r) = ((2 ^ (7 - r) : Nat) : Int) := by rw [Int.natCast_pow]; rfl
    rw [h2]
    generalize 2 ^ (7 - r) = y at *
    omega
  rw [h1, u8_or_nat _ _ hx (by omega)]

set_option maxRecDepth 100000 in
set_option maxHeartbeats 2000000 in
theorem text_any (A : Option Addr) (c : Nat) (l : List Bool) (w : World) (hl : l.length ≤ 134217728) (hA : SlB w A l) :
    Calls Try.prog 30 #[.slice A l.length c] w fun e w' => e = .returned (.string (strOf (pk l))) ∧ Below w.heap.size w w' := by
  obtain ⟨i0, hi, hz0, hz1, hz2⟩ := info_parts info5
  obtain ⟨M, hM⟩ : ∃ M, M = (l.length + 7) / 8 := ⟨_, rfl⟩
  have hML : ((l.length : Int) + 7) / 8 = (M : Int) := by omega
  have hM2 : M ≤ 16777217 := by omega
  have HM := Lib.hid hM
  clear hM
  go_enter Try.func30, Try.ntmps30
  go_wp2_with (refine wpList_make_full _ rfl (.tmp 8) (.tmp 8) 91 rfl w.heap.size 5 i0 (.int .u8 0) 1 Try.underlying91 hi hz0 hz1 .i64 .i64 _ _ M rfl rfl hML hML ?m1 ?m2 ?m3 ?_)
  case m1 => rw [hz2]; omega
  case m2 => unfold maxLen; omega
  case m3 => exact Nat.le_refl _
  intro w1 hown1 hgrow1
  have hbel1 : Below w.heap.size w w1 := (Below.refl _ w).grown hgrow1 (Nat.le_refl _) (by simp)
  rw [toList_madeCells_one, u8s_replicate, HM.out, ← pad_zero] at hown1
  rw [← HM.out] at hown1
  have HW := Lib.hid (And.intro hown1 hbel1)
  clear hown1 hbel1 hgrow1
  go_wp2_with fail
  go_loopg [4] l.length (fun g i wr => ∃ k : Nat, k + g = l.length ∧ i = .int .i64 k ∧ wr.ownsRow w.heap.size 5 1 (.slice (some ⟨w.heap.size, 0, none⟩) M M) M (u8s (pad l k)) ∧ Below w.heap.size w wr)
  case atStart => exact ⟨0, by omega, rfl, HW.out.1, HW.out.2⟩
  case round =>
    obtain ⟨k, hk, rfl, hown, hbel⟩ := hrel
    clear HW
    by_cases hlt : k < l.length
    · obtain ⟨a, rfl, hc⟩ := hA k hlt
      have hblk : a.block < w.heap.size := by
        have := World.block_lt_of_cell? w _ hc
        rwa [addr_block] at this
      have hcr : wr.cell? (a.add k) = some (.bool (l.getD k false)) := (hbel.cell (by rw [addr_block]; exact hblk)).trans hc
      obtain ⟨b, hb⟩ : ∃ b, b = l.getD k false := ⟨_, rfl⟩
      rw [← hb] at hcr hc
      have Hb := Lib.hid hb
      clear hb
      obtain ⟨q, hqq⟩ : ∃ q, q = k / 8 := ⟨_, rfl⟩
      obtain ⟨r, hrr⟩ : ∃ r, r = k % 8 := ⟨_, rfl⟩
      have hq : (k : Int) / 8 = (q : Int) := by omega
      have hr : (k : Int) % 8 = (r : Int) := by omega
      have hq2 : q < M := by have := HM.out; omega
      have hx := hown.cellAt q (by omega)
      rw [u8s_get (by rw [length_pad l k (by omega)]; have := HM.out; omega)] at hx
      have hfx := hown.frozenAt q
      have hr8 : r < 8 := by omega
      have Hq := Lib.hid (And.intro hqq hrr)
      clear hqq hrr
      cases b
      · go_wp2_with fail
        go_roundg (gk - 1)
        case measure => omega
        case rel => exact ⟨k + 1, by omega, by go_num, by rw [← pad_no l k hlt Hb.out.symm]; exact hown, hbel⟩
      · go_wp2_with fail
        go_region
        go_wp2_with fail
        go_roundg (gk - 1)
        case measure => omega
        case rel =>
          obtain ⟨rfl, rfl⟩ := Hq.out
          have hby := text_byte ((pad l k).getD (k / 8) 0) (k % 8) (pk_lt _ _)
          have hst := (hown.stored (k / 8) (.int .u8 ((pad l k).getD (k / 8) 0 ||| 2 ^ (7 - k % 8) : Nat))).1
          rw [u8s_set, pad_yes l k hlt Hb.out.symm, ← hby] at hst
          exact ⟨k + 1, by omega, by go_num, hst, (hbel.setCell (p := ⟨w.heap.size, k / 8, none⟩) (Nat.le_refl _) _).drew⟩
    · have hkl : k = l.length := by omega
      subst hkl
      rw [pad_full] at hown
      have hpl : (pk l).length = M := by rw [length_pk]; exact HM.out.symm
      have hcv := run_text (w := wr) (v := .slice (some ⟨w.heap.size, 0, none⟩) M M) (b := pk l) hpl.symm (own_base hown) (pk_lt l)
      go_wp2_with fail
      go_ret
      exact ⟨rfl, hbel⟩
end Go.Proofs.Ytmgngmnkmmhckaa
