/-
  BitioNone: calls on nothing; the closed law's walk.
-/
import Derived.Test.YtmgngmnkmmhckaaLPacks
set_option linter.unusedVariables false
namespace Go.Proofs.Ytmgngmnkmmhckaa
open Go.RowKit Plain

theorem nil_put (v n : Int) (w : World) : Calls Try.prog 26 #[.pointer none, .int .u64 v, .int .i64 n] w fun e w' => e = .returned (.int .i64 2) ∧ w = w' := by
  go_enter Try.func26, Try.ntmps26
  go_wp2_with fail
  go_ret
  exact ⟨rfl, rfl⟩
theorem nil_bit (w : World) : Calls Try.prog 27 #[.pointer none, .bool true] w fun e w' => e = .returned (.int .i64 2) ∧ w = w' := by
  go_enter Try.func27, Try.ntmps27
  go_wp2_with fail
  refine (nil_put _ _ _).mono ?_
  rintro e w' ⟨rfl, rfl⟩
  go_wp2_with fail
  go_ret
  exact ⟨rfl, rfl⟩
theorem nil_add (s : ByteArray) (n : Int) (w : World) : Calls Try.prog 36 #[.pointer none, .string s, .int .i64 n] w fun e w' => e = .returned (.int .i64 2) ∧ w = w' := by
  go_enter Try.func36, Try.ntmps36
  go_wp2_with fail
  go_ret
  exact ⟨rfl, rfl⟩
theorem nil_text (w : World) : Calls Try.prog 28 #[.pointer none] w fun e w' => e = .returned (.tuple #[.string ⟨#[]⟩, .int .i64 2]) ∧ w = w' := by
  go_enter Try.func28, Try.ntmps28
  go_wp2_with fail
  go_ret2
  exact ⟨rfl, rfl⟩
theorem nil_take (n : Int) (w : World) : Calls Try.prog 17 #[.pointer none, .int .i64 n] w fun e w' => e = .returned (.tuple #[.int .u64 0, .int .i64 2]) ∧ Below w.heap.size w w' := by
  go_enter Try.func17, Try.ntmps17
  go_wp2_with fail
  go_ret2
  exact ⟨rfl, (Below.refl _ _).alloc (Nat.le_refl _) _⟩
theorem nil_rbit (w : World) : Calls Try.prog 15 #[.pointer none] w fun e w' => (∃ b, e = .returned (.tuple #[.bool b, .int .i64 2])) ∧ Below w.heap.size w w' := by
  go_enter Try.func15, Try.ntmps15
  go_wp2_with fail
  refine (nil_take _ _).mono ?_
  rintro e w' ⟨rfl, hb⟩
  have H := Lib.hid hb
  clear hb
  go_wp2_with fail
  go_ret2
  exact ⟨⟨_, rfl⟩, H.out⟩
theorem nil_seek (n : Int) (w : World) : Calls Try.prog 19 #[.pointer none, .int .i64 n] w fun e w' => e = .returned (.int .i64 2) ∧ w = w' := by
  go_enter Try.func19, Try.ntmps19
  go_wp2_with fail
  go_ret
  exact ⟨rfl, rfl⟩
theorem nil_len (w : World) : Calls Try.prog 25 #[.pointer none] w fun e w' => e = .returned (.int .i64 0) ∧ w = w' := by
  go_enter Try.func25, Try.ntmps25
  go_wp2_with fail
  go_ret
  exact ⟨rfl, rfl⟩
theorem nil_at (w : World) : Calls Try.prog 21 #[.pointer none] w fun e w' => e = .returned (.int .i64 0) ∧ w = w' := by
  go_enter Try.func21, Try.ntmps21
  go_wp2_with fail
  go_ret
  exact ⟨rfl, rfl⟩
theorem nil_left (w : World) : Calls Try.prog 22 #[.pointer none] w fun e w' => e = .returned (.int .i64 0) ∧ w = w' := by
  go_enter Try.func22, Try.ntmps22
  go_wp2_with fail
  go_ret
  exact ⟨rfl, rfl⟩

/-! what the closed calls answer -/
theorem none_put64 {h : Nat} {w : World} (hw : WrAt w h none []) : Calls Try.prog 26 #[.pointer (some ⟨h, 0, none⟩), .int .u64 18446744073709551615, .int .i64 64] w fun e w' => e = .returned (.int .i64 0) ∧ ∃ L, L.length = 64 ∧ WrTo w h none L w' := by
  have hc : putCode ([] : List Bool).length 18446744073709551615 64 = 0 := by decide +kernel
  have hb : (putBits [] 18446744073709551615 64).length = 64 := by decide +kernel
  have := wput_any h none [] 18446744073709551615 64 w (by decide) hw (by decide)
  refine this.mono ?_
  rintro e w' ⟨he, p⟩
  rw [hc] at he
  exact ⟨he, _, hb, p⟩
/-- where the closed law stands: the writer, and nothing old has turned -/
def NnS (w0 w : World) (h : Nat) (L : List Bool) : Prop := ∃ o, WrAt w h o L ∧ Below w0.heap.size w0 w ∧ w0.heap.size ≤ h ∧ Ge w0.heap.size o
theorem NnS.wrote {w0 w w' : World} {h : Nat} {o : Option Nat} {L L' : List Bool} (ha : WrAt w h o L) (hb : Below w0.heap.size w0 w) (hg : w0.heap.size ≤ h) (he : Ge w0.heap.size o) (p : WrTo w h o L' w') : NnS w0 w' h L' := by
  have hbel := below_wr hb p hg he
  obtain ⟨o', p1, p2, p3⟩ := p
  exact ⟨o', p1, hbel, hg, p3.geq he hb.size⟩
theorem NnS.more {w0 w w' : World} {h : Nat} {L : List Bool} (s : NnS w0 w h L) (k : Below w.heap.size w w') : NnS w0 w' h L := by
  obtain ⟨o, ha, hb, hg, he⟩ := s
  exact ⟨o, ha.only (Only.of_below (F := fun _ => False) k) (fun _ _ e => e), below_step hb k, hg, he⟩
theorem none_put63 {h : Nat} {o : Option Nat} {L : List Bool} {w : World} (hL : L.length = 64) (hw : WrAt w h o L) : Calls Try.prog 26 #[.pointer (some ⟨h, 0, none⟩), .int .u64 9223372036854775808, .int .i64 63] w fun e w' => e = .returned (.int .i64 1) ∧ WrTo w h o L w' := by
  have hc : putCode L.length 9223372036854775808 63 = 1 := by rw [hL]; decide +kernel
  have hb : putBits L 9223372036854775808 63 = L := by unfold putBits; rw [hc]; rfl
  have := wput_any h o L 9223372036854775808 63 w (by decide) hw (by omega)
  rw [hb, hc] at this
  exact this
theorem none_put1 {h : Nat} {o : Option Nat} {L : List Bool} {w : World} (hL : L.length = 64) (hw : WrAt w h o L) : Calls Try.prog 26 #[.pointer (some ⟨h, 0, none⟩), .int .u64 1, .int .i64 0] w fun e w' => e = .returned (.int .i64 1) ∧ WrTo w h o L w' := by
  have hc : putCode L.length 1 0 = 1 := by rw [hL]; decide +kernel
  have hb : putBits L 1 0 = L := by unfold putBits; rw [hc]; rfl
  have := wput_any h o L 1 0 w (by decide) hw (by omega)
  rw [hb, hc] at this
  exact this
theorem none_add {h : Nat} {o : Option Nat} {L : List Bool} {w : World} (hL : L.length = 64) (hw : WrAt w h o L) : Calls Try.prog 36 #[.pointer (some ⟨h, 0, none⟩), .string ⟨#[97]⟩, .int .i64 9] w fun e w' => e = .returned (.int .i64 1) ∧ WrTo w h o L w' := by
  have hc : addCode L.length (⟨#[97]⟩ : ByteArray).size 9 = 1 := by rw [hL]; decide +kernel
  have hb : addBits L ⟨#[97]⟩ 9 = L := by unfold addBits; rw [hc]; rfl
  have := wadd_any h o L ⟨#[97]⟩ 9 w (by decide) hw (by omega)
  rw [hb, hc] at this
  exact this
theorem none_pack0 (w : World) : Calls Try.prog 31 #[.slice none 0 0, .int .i64 0] w fun e w' => e = .returned (.tuple #[.string ⟨#[]⟩, .int .i64 1]) ∧ Below w.heap.size w w' := by
  have := pack_any none 0 [] 0 w (by decide) (fun i h => absurd h (by simp)) (fun i => by simp)
  rw [(pack_no (l := []) (n := 0) (by decide +kernel)).1, (pack_no (l := []) (n := 0) (by decide +kernel)).2] at this
  exact this
theorem none_pack1 (w : World) : Calls Try.prog 31 #[.slice none 0 0, .int .i64 1] w fun e w' => e = .returned (.tuple #[.string ⟨#[]⟩, .int .i64 0]) ∧ Below w.heap.size w w' := by
  have := pack_any none 0 [] 1 w (by decide) (fun i h => absurd h (by simp)) (fun i => by simp)
  rw [(pack_yes (l := []) (n := 1) (by decide +kernel)).1, (pack_yes (l := []) (n := 1) (by decide +kernel)).2] at this
  exact this
theorem none_un {s : ByteArray} {n c k : Int} (w : World) (hs : s.size ≤ 16777216) (hk : unC s n c = k) (hout : unOut s n c = []) : Calls Try.prog 33 #[.string s, .int .i64 n, .int .i64 c] w fun e w' => (∃ A cc, e = .returned (.tuple #[.slice A 0 cc, .int .i64 k])) ∧ Below w.heap.size w w' := by
  refine (unpack_any s n c w hs).mono ?_
  rintro e w' ⟨v, rfl, ho, hb⟩
  rw [hout] at ho
  obtain ⟨A, cc, rfl⟩ := own_shape ho
  rw [hk]
  exact ⟨⟨A, cc, rfl⟩, hb⟩
theorem none_un1 (w : World) : Calls Try.prog 33 #[.string ⟨#[]⟩, .int .i64 1, .int .i64 (-1)] w fun e w' => (∃ A cc, e = .returned (.tuple #[.slice A 0 cc, .int .i64 1])) ∧ Below w.heap.size w w' :=
  none_un w (by decide) (by decide +kernel) (by decide +kernel)
theorem none_un2 (w : World) : Calls Try.prog 33 #[.string ⟨#[]⟩, .int .i64 64, .int .i64 0] w fun e w' => (∃ A cc, e = .returned (.tuple #[.slice A 0 cc, .int .i64 0])) ∧ Below w.heap.size w w' :=
  none_un w (by decide) (by decide +kernel) (by decide +kernel)
theorem none_un3 (w : World) : Calls Try.prog 33 #[.string ⟨#[1]⟩, .int .i64 7, .int .i64 1] w fun e w' => (∃ A cc, e = .returned (.tuple #[.slice A 0 cc, .int .i64 4])) ∧ Below w.heap.size w w' :=
  none_un w (by decide) (by decide +kernel) (by decide +kernel)
theorem none_un4 (w : World) : Calls Try.prog 33 #[.string ⟨#[]⟩, .int .i64 1, .int .i64 4611686018427387904] w fun e w' => (∃ A cc, e = .returned (.tuple #[.slice A 0 cc, .int .i64 4])) ∧ Below w.heap.size w w' :=
  none_un w (by decide) (by decide +kernel) (by decide +kernel)

set_option maxRecDepth 100000 in
set_option maxHeartbeats 4000000 in
theorem none_any (w : World) : Calls Try.prog 7 #[] w fun e w' => e = .returned (.bool true) ∧ Below w.heap.size w w' := by
  go_enter Try.func7, Try.ntmps7
  go_wp2_with fail
  refine (nil_bit _).mono ?_
  rintro e w1 ⟨rfl, rfl⟩
  go_wp2_with fail
  refine (nil_put _ _ _).mono ?_
  rintro e w1 ⟨rfl, rfl⟩
  go_wp2_with fail
  refine (nil_add _ _ _).mono ?_
  rintro e w1 ⟨rfl, rfl⟩
  go_wp2_with fail
  refine (nil_text _).mono ?_
  rintro e w1 ⟨rfl, rfl⟩
  go_wp2_with fail
  refine (nil_rbit _).mono ?_
  rintro e w1 ⟨⟨bb, rfl⟩, hb⟩
  have H1 := Lib.hid hb
  clear hb
  go_wp2_with fail
  refine (nil_take _ _).mono ?_
  rintro e w2 ⟨rfl, hb⟩
  have H2 := Lib.hid (below_step H1.out hb)
  clear hb H1
  go_wp2_with fail
  refine (nil_seek _ _).mono ?_
  rintro e w3 ⟨rfl, rfl⟩
  go_wp2_with fail
  have hcells : ∀ k, k < 7 → (w2.alloc (.cells #[.int .i64 2, .int .i64 2, .int .i64 2, .int .i64 2, .int .i64 2, .int .i64 2, .int .i64 2] 32)).cell? ⟨w2.heap.size, k, none⟩ = some (.int .i64 2) := by
    intro k hk
    have hb := Blk.new w2 32 #[.int .i64 2, .int .i64 2, .int .i64 2, .int .i64 2, .int .i64 2, .int .i64 2, .int .i64 2]
    rw [hb.cell k]
    match k, hk with
    | 0, _ => rfl
    | 1, _ => rfl
    | 2, _ => rfl
    | 3, _ => rfl
    | 4, _ => rfl
    | 5, _ => rfl
    | 6, _ => rfl
  have H3 := Lib.hid (H2.out.alloc H2.out.size (.cells #[.int .i64 2, .int .i64 2, .int .i64 2, .int .i64 2, .int .i64 2, .int .i64 2, .int .i64 2] 32))
  obtain ⟨g, hg⟩ : ∃ g, g = w2.heap.size := ⟨_, rfl⟩
  obtain ⟨wx, hwx⟩ : ∃ wx, wx = w2.alloc (.cells #[.int .i64 2, .int .i64 2, .int .i64 2, .int .i64 2, .int .i64 2, .int .i64 2, .int .i64 2] 32) := ⟨_, rfl⟩
  rw [← hwx] at H3
  rw [← hwx, ← hg] at hcells
  rw [← hwx, ← hg]
  clear hwx hg H2
  have HC := Lib.hid hcells
  clear hcells
  go_loopg [64] 7 (fun g i wr => ∃ k : Nat, k + g = 7 ∧ i = .int .i64 k ∧ wr = wx)
  case atStart => exact ⟨0, by omega, rfl, rfl⟩
  case round =>
    obtain ⟨k, hk, rfl, rfl⟩ := hrel
    by_cases hlt : k < 7
    · have hc := HC.out k hlt
      go_wp2_with fail
      go_roundg (gk - 1)
      case measure => omega
      case rel => exact ⟨k + 1, by omega, by go_num, rfl⟩
    · go_wp2_with fail
      refine (new_any _).mono ?_
      rintro e w4 ⟨rfl, rfl⟩
      have hw4 := WrAt.new wr
      have H4 := Lib.hid (And.intro (H3.out.alloc H3.out.size (.cells #[.slice none 0 0, .int .i64 0] 93)) H3.out.size)
      obtain ⟨h, hh⟩ : ∃ h, h = wr.heap.size := ⟨_, rfl⟩
      obtain ⟨w5, hw5⟩ : ∃ w5, w5 = wr.alloc (.cells #[.slice none 0 0, .int .i64 0] 93) := ⟨_, rfl⟩
      rw [← hw5, ← hh] at H4 hw4
      rw [← hw5, ← hh]
      clear hw5 hh H3 HC
      go_wp2_with fail
      refine (none_put64 hw4).mono ?_
      rintro e w6 ⟨rfl, L, hL, p⟩
      have H6 := Lib.hid (NnS.wrote hw4 H4.out.1 H4.out.2 (Ge.none_) p)
      clear p hw4 H4
      have HL := Lib.hid hL
      clear hL
      obtain ⟨o6, a6, b6, g6, e6⟩ := H6.out
      have HH := Lib.hid (And.intro a6 (And.intro b6 (And.intro g6 e6)))
      clear a6 b6 g6 e6 H6
      go_wp2_with fail
      refine (none_put63 HL.out HH.out.1).mono ?_
      rintro e w7 ⟨rfl, p⟩
      have H6 := Lib.hid (NnS.wrote HH.out.1 HH.out.2.1 HH.out.2.2.1 HH.out.2.2.2 p)
      clear p HH
      obtain ⟨o7, a6, b6, g6, e6⟩ := H6.out
      have HH := Lib.hid (And.intro a6 (And.intro b6 (And.intro g6 e6)))
      clear a6 b6 g6 e6 H6
      go_wp2_with fail
      refine (none_put1 HL.out HH.out.1).mono ?_
      rintro e w8 ⟨rfl, p⟩
      have H6 := Lib.hid (NnS.wrote HH.out.1 HH.out.2.1 HH.out.2.2.1 HH.out.2.2.2 p)
      clear p HH
      obtain ⟨o8, a6, b6, g6, e6⟩ := H6.out
      have HH := Lib.hid (And.intro a6 (And.intro b6 (And.intro g6 e6)))
      clear a6 b6 g6 e6 H6
      go_wp2_with fail
      refine (none_add HL.out HH.out.1).mono ?_
      rintro e w9 ⟨rfl, p⟩
      have H9 := Lib.hid (NnS.wrote HH.out.1 HH.out.2.1 HH.out.2.2.1 HH.out.2.2.2 p)
      clear p HH
      go_wp2_with fail
      refine (none_pack0 _).mono ?_
      rintro e w10 ⟨rfl, hb⟩
      have H10 := Lib.hid (H9.out.more hb)
      clear hb H9
      go_wp2_with fail
      refine (none_pack1 _).mono ?_
      rintro e w11 ⟨rfl, hb⟩
      have H11 := Lib.hid (H10.out.more hb)
      clear hb H10
      go_wp2_with fail
      refine (none_un1 _).mono ?_
      rintro e w12 ⟨⟨A12, c12, rfl⟩, hb⟩
      have H12 := Lib.hid (H11.out.more hb)
      clear hb H11
      go_wp2_with fail
      refine (none_un2 _).mono ?_
      rintro e w13 ⟨⟨A13, c13, rfl⟩, hb⟩
      have H13 := Lib.hid (H12.out.more hb)
      clear hb H12
      go_wp2_with fail
      refine (none_un3 _).mono ?_
      rintro e w14 ⟨⟨A14, c14, rfl⟩, hb⟩
      have H14 := Lib.hid (H13.out.more hb)
      clear hb H13
      go_wp2_with fail
      refine (none_un4 _).mono ?_
      rintro e w15 ⟨⟨A15, c15, rfl⟩, hb⟩
      have H15 := Lib.hid (H14.out.more hb)
      clear hb H14
      go_wp2_with fail
      refine (nil_len _).mono ?_
      rintro e w16 ⟨rfl, rfl⟩
      go_wp2_with fail
      refine (nil_at _).mono ?_
      rintro e w16 ⟨rfl, rfl⟩
      go_wp2_with fail
      refine (nil_left _).mono ?_
      rintro e w16 ⟨rfl, rfl⟩
      go_wp2_with fail
      obtain ⟨o15, a15, b15, _⟩ := H15.out
      refine (wlen_any h o15 L _ a15).mono ?_
      rintro e w16 ⟨rfl, rfl⟩
      rw [HL.out]
      clear a15 b15
      go_wp2_with fail
      refine (awake_any _).mono ?_
      rintro e w17 ⟨rfl, hb⟩
      have H17 := Lib.hid (H15.out.more hb)
      clear hb H15
      go_wp2_with fail
      go_ret
      obtain ⟨_, _, b17, _⟩ := H17.out
      exact ⟨rfl, b17⟩
end Go.Proofs.Ytmgngmnkmmhckaa
