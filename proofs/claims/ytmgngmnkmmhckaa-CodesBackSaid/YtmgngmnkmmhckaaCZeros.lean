/-
  codes: bits 0 up to a 1.
-/
import Derived.Test.YtmgngmnkmmhckaaCTake
set_option linter.unusedVariables false
namespace Go.Proofs.Ytmgngmnkmmhckaa
open Go.RowKit Plain

/-- the number of bits 0 up to a 1, where it ends, whether it is bad -/
def zr (B : List Bool) : Nat → Nat → Nat → Nat × Nat × Bool
  | a, _, 0 => (0, a, true)
  | a, n, f + 1 => if B.length ≤ a then (0, a, true) else if B.getD a false = true then (n, a + 1, false) else zr B (a + 1) (n + 1) f
theorem take1 (B : List Bool) (a : Nat) (h : a < B.length) : num ((B.drop a).take 1) = (B.getD a false).toNat := by
  rw [List.drop_eq_getElem_cons h, show List.take 1 (B[a] :: List.drop (a + 1) B) = [B[a]] from rfl]
  simp [num, List.getD, List.getElem?_eq_getElem h]
theorem gtake1_yes {g h a : Nat} {s : ByteArray} {w : World} (hw : RgAt w g h s a false) (hs : s.size ≤ 140737488355328) (ha : a < (bitsS s).length) :
    Calls Try.prog 67 #[.pointer (some ⟨g, 0, none⟩), .int .i64 1] w fun e w' => e = .returned (.int .u64 ((bitsS s).getD a false).toNat) ∧ RgTo w g h s (a + 1) false w' := by
  have hl := length_bitsS s
  have hc : takeCode (8 * s.size) a 1 = 0 := by unfold takeCode; rw [if_neg (by decide), if_neg (by omega)]
  have := gtake_any g h s a false 1 w hw hs
  rw [show takeVal (bitsS s) a 1 = ((bitsS s).getD a false).toNat from by unfold takeVal; rw [hl, hc, if_pos rfl]; exact take1 _ _ ha,
    show takeAt (8 * s.size) a 1 = a + 1 from by unfold takeAt; rw [hc]; rfl, hc] at this
  exact this
theorem gtake1_no {g h a : Nat} {s : ByteArray} {w : World} (hw : RgAt w g h s a false) (hs : s.size ≤ 140737488355328) (ha : ¬ a < (bitsS s).length) :
    Calls Try.prog 67 #[.pointer (some ⟨g, 0, none⟩), .int .i64 1] w fun e w' => e = .returned (.int .u64 0) ∧ RgTo w g h s a true w' := by
  have hl := length_bitsS s
  have hc : takeCode (8 * s.size) a 1 = 4 := by unfold takeCode; rw [if_neg (by decide), if_pos (by omega)]
  have := gtake_any g h s a false 1 w hw hs
  rw [show takeVal (bitsS s) a 1 = 0 from by unfold takeVal; rw [hl, hc, if_neg (by decide)],
    show takeAt (8 * s.size) a 1 = a from by unfold takeAt; rw [hc]; rfl, hc] at this
  exact this
theorem RgTo.spoil {w wr : World} {g h a : Nat} {s : ByteArray} {b : Bool} (p : RgTo w g h s a b wr) : RgTo w g h s a true (wr.setCell ⟨g, 1, none⟩ (.bool true)) :=
  ⟨⟨blk_set1 p.1.1, p.1.2.1.far (fun e => p.1.ne e.symm) _, p.1.2.2⟩, p.2.setCell (p := ⟨g, 1, none⟩) (.inl (.inr rfl)) _⟩

set_option maxRecDepth 100000 in
set_option maxHeartbeats 4000000 in
theorem zeros_any (g h : Nat) (s : ByteArray) (a most : Nat) (w : World) (hw : RgAt w g h s a false) (hs : s.size ≤ 140737488355328) (hm : most ≤ 65535) :
    Calls Try.prog 65 #[.pointer (some ⟨g, 0, none⟩), .int .i64 most] w fun e w' => e = .returned (.int .i64 (zr (bitsS s) a 0 (most + 1)).1) ∧ RgTo w g h s (zr (bitsS s) a 0 (most + 1)).2.1 (zr (bitsS s) a 0 (most + 1)).2.2 w' := by
  obtain ⟨Z, hZ⟩ : ∃ Z, Z = zr (bitsS s) a 0 (most + 1) := ⟨_, rfl⟩
  rw [← hZ]
  have Hs := Lib.hid (And.intro hs (And.intro hw hZ))
  clear hs hw hZ
  go_enter Try.func65, Try.ntmps65
  go_wp2_with fail
  go_loopg [5] (most + 2) (fun f i wr => ∃ n a' bad, i = .int .i64 (n : Nat) ∧ n ≤ most + 1 ∧ n + f = most + 2 ∧ RgTo w g h s a' bad wr ∧ ((bad = false ∧ zr (bitsS s) a' n (most + 1 - n) = Z) ∨ (bad = true ∧ Z = (0, a', true))))
  case atStart => exact ⟨0, a, false, rfl, by omega, by omega, RgTo.refl Hs.out.2.1, .inl ⟨rfl, Hs.out.2.2.symm⟩⟩
  case round =>
    obtain ⟨n, a', bad, rfl, hn1, hn2, hp, hz⟩ := hrel
    have hc1 := hp.1.1.cell 1
    have hf1 := hp.1.1.frozen 1
    simp at hc1
    have HP := Lib.hid hp
    clear hp
    cases bad with
    | true =>
      have hZ2 : Z = (0, a', true) := by
        rcases hz with ⟨h, _⟩ | ⟨_, h⟩
        · cases h
        · exact h
      have HZ := Lib.hid hZ2
      clear hz hZ2
      by_cases hlt : n ≤ most
      · go_wp2_with fail
        go_ret
        rw [HZ.out]
        exact ⟨rfl, HP.out.spoil⟩
      · go_wp2_with fail
        go_ret
        rw [HZ.out]
        exact ⟨rfl, HP.out.spoil⟩
    | false =>
      have hZ2 : zr (bitsS s) a' n (most + 1 - n) = Z := by
        rcases hz with ⟨_, h⟩ | ⟨h, _⟩
        · exact h
        · cases h
      have HZ := Lib.hid hZ2
      clear hz hZ2
      by_cases hlt : n ≤ most
      · by_cases ha : a' < (bitsS s).length
        · obtain ⟨b, hb⟩ : ∃ b, b = (bitsS s).getD a' false := ⟨_, rfl⟩
          have HA := Lib.hid (And.intro ha hb)
          clear ha
          go_wp2_with fail
          refine (gtake1_yes HP.out.1 Hs.out.1 HA.out.1).mono ?_
          rintro e w2 ⟨rfl, hp⟩
          rw [← hb]
          have H2 := Lib.hid (HP.out.trans hp)
          clear hp hb hc1 hf1
          have hstep : zr (bitsS s) a' n (most + 1 - n) = if b = true then (n, a' + 1, false) else zr (bitsS s) (a' + 1) (n + 1) (most + 1 - (n + 1)) := by
            rw [show most + 1 - n = (most + 1 - (n + 1)) + 1 by omega, zr, if_neg (by have := HA.out.1; omega), ← HA.out.2]
          have HS := Lib.hid (HZ.out.symm.trans hstep)
          clear hstep
          cases b with
          | true =>
            go_wp2_with fail
            go_ret
            rw [HS.out]
            exact ⟨rfl, H2.out⟩
          | false =>
            go_wp2_with fail
            go_roundg (gk - 1)
            case measure => omega
            case rel => exact ⟨n + 1, a' + 1, false, by go_num, by omega, by omega, H2.out, .inl ⟨rfl, by rw [HS.out]; rfl⟩⟩
        · have HA := Lib.hid ha
          clear ha
          go_wp2_with fail
          refine (gtake1_no HP.out.1 Hs.out.1 HA.out).mono ?_
          rintro e w2 ⟨rfl, hp⟩
          have H2 := Lib.hid (HP.out.trans hp)
          clear hp hc1 hf1
          have hstep : zr (bitsS s) a' n (most + 1 - n) = (0, a', true) := by
            rw [show most + 1 - n = (most + 1 - (n + 1)) + 1 by omega, zr, if_pos (by have := HA.out; omega)]
          have HS := Lib.hid (HZ.out.symm.trans hstep)
          clear hstep
          go_wp2_with fail
          go_roundg (gk - 1)
          case measure => omega
          case rel => exact ⟨n + 1, a', true, by go_num, by omega, by omega, H2.out, .inr ⟨rfl, HS.out⟩⟩
      · have hstep : zr (bitsS s) a' n (most + 1 - n) = (0, a', true) := by rw [show most + 1 - n = 0 by omega, zr]
        have HS := Lib.hid (HZ.out.symm.trans hstep)
        clear hstep
        go_wp2_with fail
        go_ret
        rw [HS.out]
        exact ⟨rfl, HP.out.spoil⟩
end Go.Proofs.Ytmgngmnkmmhckaa
