/-
  ExtentPlays: the law's walk.
-/
import Derived.Test.YtinjkjgahipimaaEPlays
import Derived.Deep.DeepCutAuto
set_option linter.unusedVariables false
namespace Go.Proofs.Ytinjkjgahipimaa
open Go.RowKit

theorem PlI.told {W0 w u : World} {gm gw : Nat} {cs : Nat → Option Sc} (B : PlI W0 gm gw cs w) {j : Nat} (hj : j < 2) {c : Sc} (hc : cs j = some c) (hb : Below w.heap.size w u) :
    Calls Try.prog 11 #[.pointer (some ⟨c.h, 0, none⟩), .pointer (some ⟨c.hr, 0, none⟩)] u fun e w' => e = .returned (.bool true) ∧ Below w.heap.size w w' := by
  have h := (PlB.below B hb).ok j hj
  rw [hc] at h
  exact (told_any c.h c.hr c.S c.R c.s u h.1 h.2.1 h.2.2.1).mono fun e w' hp => ⟨hp.1, below_step hb hp.2⟩
theorem PlI.call {W0 w u : World} {gm gw : Nat} {cs : Nat → Option Sc} (B : PlI W0 gm gw cs w) {j : Nat} (hj : j < 2) {c : Sc} (hc : cs j = some c) (hb : Below w.heap.size w u) (kd who n a b : Int) (hn : n ≤ 9223372036854775807) :
    Calls Try.prog 31 #[.pointer (some ⟨c.h, 0, none⟩), .pointer (some ⟨c.hr, 0, none⟩), .agg #[.int .i64 kd, .int .i64 who, .int .i64 n, .int .i64 a, .int .i64 b]] u fun e w' => e = .returned (.bool true) ∧
      (∃ (cs' : Nat → Option Sc), PlI W0 gm gw cs' w' ∧ ∃ c', cs' j = some c') ∧ w'.cell? ⟨gm, j, none⟩ = some (.pointer (some ⟨c.h, 0, none⟩)) ∧ w'.cell? ⟨gw, j, none⟩ = some (.pointer (some ⟨c.hr, 0, none⟩)) ∧ Below W0.heap.size W0 w' := by
  have B1 : PlI W0 gm gw cs u := PlB.below B hb
  have h := B1.ok j hj
  rw [hc] at h
  refine (does_any c.h c.hr c.S c.R c.s kd who n a b u h.1 h.2.1 h.2.2.1 h.2.2.2 hn).mono ?_
  rintro e w' ⟨rfl, s', ok', Z, M⟩
  obtain ⟨c', e1, e2, B2⟩ := B1.does hj hc ok' M
  refine ⟨rfl, ⟨_, B2, c', upd_same _ _ _⟩, ?_, ?_, B2.be⟩
  · have := arr_cell (p := fun i => pmOf (upd cs j (some c') i)) B2.bm hj
    rw [this]
    show some (pmOf (upd cs j (some c') j)) = _
    rw [upd_same, ← e1]; rfl
  · have := arr_cell (p := fun i => prOf (upd cs j (some c') i)) B2.bw hj
    rw [this]
    show some (prOf (upd cs j (some c') j)) = _
    rw [upd_same, ← e2]; rfl
theorem PlI.cells {W0 w : World} {gm gw : Nat} {cs : Nat → Option Sc} (B : PlI W0 gm gw cs w) {j : Nat} (hj : j < 2) : w.cell? ⟨gm, j, none⟩ = some (pmOf (cs j)) ∧ w.cell? ⟨gw, j, none⟩ = some (prOf (cs j)) :=
  ⟨arr_cell (p := fun i => pmOf (cs i)) B.bm hj, arr_cell (p := fun i => prOf (cs i)) B.bw hj⟩
/-- a new pair at both arrays -/
theorem PlB.both {W0 w : World} {gm gw : Nat} {cs : Nat → Option Sc} (B : PlI W0 gm gw cs w) {j : Nat} (hj : j < 2) {c : Option Sc} (hok : SlotOk w c) {n : Nat} (hn : ∀ k, Bl c k → n ≤ k) (h0 : W0.heap.size ≤ n) (h1 : gm < n) (h2 : gw < n) (h3 : ∀ k, Bl (cs (1 - j)) k → k < n) :
    PlI W0 gm gw (upd cs j c) ((w.setCell ⟨gm, j, none⟩ (pmOf c)).setCell ⟨gw, j, none⟩ (prOf c)) :=
  (((PlB.lay B hj hok hn h0 h1 h2 h3).setm hj (pmOf c)).setw hj (prOf c)).fin

set_option maxRecDepth 100000 in
set_option maxHeartbeats 4000000 in
theorem plays_any (f0 n0 f1 n1 : Int) (L : Option Addr) (len cap : Nat) (v : Nat → OpV) (w : World) (hl : len ≤ 9223372036854775807) (hL : OpR w L len v) (hn : ∀ i, i < len → (v i).n ≤ 9223372036854775807) :
    Calls Try.prog 7 #[.int .i64 f0, .int .i64 n0, .int .i64 f1, .int .i64 n1, .slice L len cap] w fun e w' => e = .returned (.bool true) ∧ Below w.heap.size w w' := by
  have HL := Lib.hid (And.intro hL hn)
  have hm0 := Blk.new w 53 #[.pointer none, .pointer none]
  have hw0 := Blk.new (w.alloc (.cells #[.pointer none, .pointer none] 53)) 54 #[.pointer none, .pointer none]
  have hm1 := hm0.alloc (.cells #[.pointer none, .pointer none] 54)
  have hb0 : Below w.heap.size w ((w.alloc (.cells #[.pointer none, .pointer none] 53)).alloc (.cells #[.pointer none, .pointer none] 54)) := ((Below.refl _ w).alloc (Nat.le_refl _) _).alloc (by simp) _
  have hsz : (w.alloc (.cells #[.pointer none, .pointer none] 53)).heap.size = w.heap.size + 1 := by simp
  rw [hsz] at hw0
  have H0 : Hid (PlI w w.heap.size (w.heap.size + 1) (fun _ => none) ((w.alloc (.cells #[.pointer none, .pointer none] 53)).alloc (.cells #[.pointer none, .pointer none] 54))) :=
    ⟨hm1, hw0, (fun i hi => trivial), (fun k h => absurd h id), (fun i hi k h => absurd h id), ⟨Nat.le_refl _, Nat.le_succ _, by omega⟩, hb0⟩
  clear hL hn hm0 hw0 hm1 hb0 hsz
  obtain ⟨w2, hw2⟩ : ∃ w2, w2 = (w.alloc (.cells #[.pointer none, .pointer none] 53)).alloc (.cells #[.pointer none, .pointer none] 54) := ⟨_, rfl⟩
  go_enter Try.func7, Try.ntmps7
  go_upto_block 0 with fail
  rw [← hw2] at H0 ⊢
  clear hw2
  obtain ⟨gm, hgm⟩ : ∃ gm, gm = w.heap.size := ⟨_, rfl⟩
  obtain ⟨gw, hgw⟩ : ∃ gw, gw = w.heap.size + 1 := ⟨_, rfl⟩
  have H1 : Hid (PlI w gm gw (fun _ => none) w2) := by rw [hgm, hgw]; exact H0.out
  rw [← hgw, ← hgm]
  clear hgm hgw H0
  go_wp2_with fail
  go_loopg [13] 2 (fun g v13 wr => ∃ i : Nat, i + g = 2 ∧ v13 = .int .i64 i ∧ ∃ cs, PlI w gm gw cs wr)
  case atStart => exact ⟨0, by omega, rfl, _, H1.out⟩
  case round =>
    obtain ⟨i, hi, rfl, cs, hB⟩ := hrel
    have HB := Lib.hid hB
    clear hB
    by_cases hi2 : i < 2
    · go_upto_region 6 with fail
      go_cut [14] (fun v14 wx => (∃ F : Int, v14 = .int .i64 F) ∧ PlI w gm gw cs wx)
      case first =>
        rcases Nat.lt_or_ge 0 i with h | h
        · obtain rfl : i = 1 := by omega
          have H6 := Lib.hid (PlB.below HB.out ((Below.refl _ wr).alloc (Nat.le_refl _) (.cells #[.int .i64 f0, .int .i64 f1] 3)))
          have hbx := Blk.new wr 3 #[.int .i64 f0, .int .i64 f1]
          have x1 := hbx.cell 1
          simp at x1
          clear hbx
          go_wp2_with fail
          go_meet
          exact ⟨⟨_, rfl⟩, H6.out⟩
        · obtain rfl : i = 0 := by omega
          have H6 := Lib.hid (PlB.below HB.out ((Below.refl _ wr).alloc (Nat.le_refl _) (.cells #[.int .i64 f0, .int .i64 f1] 3)))
          have hbx := Blk.new wr 3 #[.int .i64 f0, .int .i64 f1]
          have x1 := hbx.cell 0
          simp at x1
          clear hbx
          go_wp2_with fail
          go_meet
          exact ⟨⟨_, rfl⟩, H6.out⟩
      case rest =>
        obtain ⟨⟨F, rfl⟩, hB6⟩ := hcut
        have HB6 := Lib.hid hB6
        clear hB6
        go_upto_region 7 with fail
        go_cut [15] (fun v15 wx => (∃ F : Int, v15 = .int .i64 F) ∧ PlI w gm gw cs wx)
        case first =>
          rcases Nat.lt_or_ge 0 i with h | h
          · obtain rfl : i = 1 := by omega
            have H6 := Lib.hid (PlB.below HB6.out ((Below.refl _ wc).alloc (Nat.le_refl _) (.cells #[.int .i64 n0, .int .i64 n1] 3)))
            have hbx := Blk.new wc 3 #[.int .i64 n0, .int .i64 n1]
            have x1 := hbx.cell 1
            simp at x1
            clear hbx
            go_wp2_with fail
            go_meet
            exact ⟨⟨_, rfl⟩, H6.out⟩
          · obtain rfl : i = 0 := by omega
            have H6 := Lib.hid (PlB.below HB6.out ((Below.refl _ wc).alloc (Nat.le_refl _) (.cells #[.int .i64 n0, .int .i64 n1] 3)))
            have hbx := Blk.new wc 3 #[.int .i64 n0, .int .i64 n1]
            have x1 := hbx.cell 0
            simp at x1
            clear hbx
            go_wp2_with fail
            go_meet
            exact ⟨⟨_, rfl⟩, H6.out⟩
        case rest =>
          obtain ⟨⟨Nn, rfl⟩, hB7⟩ := hcut
          have HB7 := Lib.hid hB7
          clear hB7
          by_cases hv : 0 ≤ F ∧ F ≤ Nn ∧ Nn ≤ 4096
          · obtain ⟨hv1, hv2, hv3⟩ := hv
            obtain ⟨f, rfl⟩ : ∃ f : Nat, F = (f : Int) := ⟨F.toNat, by omega⟩
            obtain ⟨n, rfl⟩ : ∃ n : Nat, Nn = (n : Int) := ⟨Nn.toNat, by omega⟩
            have hfn : f ≤ n := by omega
            have hn4 : n ≤ 4096 := by omega
            clear hv1 hv2 hv3
            go_wp2_with fail
            refine (new_yes f n _ hfn hn4).mono ?_
            rintro e w3 ⟨h, S, rfl, hm, hb, hS⟩
            have K1 := Lib.hid (And.intro hm (And.intro hb hS))
            clear hm hb hS
            go_wp2_with fail
            refine (rnew_yes f n w3 hfn hn4).mono ?_
            rintro e w4 ⟨hr, R, rfl, hm, hb, hR⟩
            have K2 := Lib.hid (And.intro hm (And.intro hb hR))
            clear hm hb hR
            have B4 : Hid (PlI w gm gw cs w4) := PlB.below (PlB.below HB7.out K1.out.2.1) K2.out.2.1
            have g1 := (B4.out.cells hi2).1
            have g2 := B4.out.bm.frozen i
            have B5 := (PlB.setm B4.out hi2 (.pointer (some ⟨h, 0, none⟩)))
            have g3 := arr_cell (p := fun i => prOf (cs i)) B5.bw hi2
            have g4 := B5.bw.frozen i
            have BF := Lib.hid (PlB.both B4.out hi2 (c := some ⟨h, hr, S, R, newSt f n⟩) ⟨K1.out.1.below K2.out.2.1, K2.out.1, newSt_ok hfn hn4, fun k h1 h2 => by have := K1.out.1.lt k h1; have := K2.out.2.2 k h2; omega⟩ (n := wc.heap.size)
              (fun k hk => by rcases hk with hk | hk; exact K1.out.2.2 k hk; have := K2.out.2.2 k hk; have := K1.out.2.1.size; omega) HB7.out.be.size HB7.out.bm.lt HB7.out.bw.lt (fun k hk => (HB7.out.ok (1 - i) (by omega)).lt k hk))
            clear B5
            go_wp2_with fail
            go_roundg (gk - 1)
            case measure => omega
            case rel => exact ⟨i + 1, by omega, by go_num, _, BF.out⟩
          · have hno : F < 0 ∨ Nn < F ∨ 4096 < Nn := by omega
            clear hv
            go_wp2_with fail
            refine (new_no F Nn _ hno).mono ?_
            rintro e w3 ⟨rfl, rfl⟩
            go_wp2_with fail
            refine (rnew_no F Nn _ hno).mono ?_
            rintro e w3 ⟨rfl, rfl⟩
            have g1 := (HB7.out.cells hi2).1
            have g2 := HB7.out.bm.frozen i
            have B5 := (PlB.setm HB7.out hi2 (.pointer none))
            have g3 := arr_cell (p := fun i => prOf (cs i)) B5.bw hi2
            have g4 := B5.bw.frozen i
            have BF := Lib.hid (PlB.both HB7.out hi2 (c := none) trivial (n := wc.heap.size) (fun k hk => absurd hk id) HB7.out.be.size HB7.out.bm.lt HB7.out.bw.lt (fun k hk => (HB7.out.ok (1 - i) (by omega)).lt k hk))
            clear B5
            go_wp2_with fail
            go_roundg (gk - 1)
            case measure => omega
            case rel => exact ⟨i + 1, by omega, by go_num, _, BF.out⟩
    · obtain rfl : i = 2 := by omega
      go_wp2_with fail
      obtain ⟨K, hK⟩ : ∃ K, K = min len 150 := ⟨_, rfl⟩
      have hK60 : K ≤ 150 := by omega
      have hKl : K ≤ len := by omega
      have HK := Lib.hid hK
      clear hK
      go_loopg [20] K (fun gg v20 wr => ∃ i : Nat, i + gg = K ∧ v20 = .int .i64 i ∧ ∃ cs, PlI w gm gw cs wr)
      case atStart => exact ⟨0, by omega, rfl, _, HB.out⟩
      case round =>
        clear HB
        obtain ⟨i, hi, rfl, cs, hB⟩ := hrel
        have HB := Lib.hid hB
        clear hB
        by_cases hlt : i < K
        · have hkl : i < len := by omega
          have hk60 : i < 150 := by omega
          obtain ⟨bl, off, rfl, hbl, hcl⟩ := HL.out.1 (by omega)
          obtain ⟨x0, x1, x2, x3, x4⟩ := hcl i hkl
          have hnn := HL.out.2 i hkl
          obtain ⟨kd, hkd⟩ : ∃ kd, kd = (v i).kd := ⟨_, rfl⟩
          obtain ⟨who, hwho⟩ : ∃ who, who = (v i).wh := ⟨_, rfl⟩
          obtain ⟨n, hn⟩ : ∃ n, n = (v i).n := ⟨_, rfl⟩
          obtain ⟨xa, hxa⟩ : ∃ xa, xa = (v i).a := ⟨_, rfl⟩
          obtain ⟨xb, hxb⟩ : ∃ xb, xb = (v i).b := ⟨_, rfl⟩
          rw [← hkd] at x0
          rw [← hwho] at x1
          rw [← hn] at x2 hnn
          rw [← hxa] at x3
          rw [← hxb] at x4
          have HX : Hid (∀ w', Below w.heap.size w w' → w'.cell? ⟨bl, off + i * 5, none⟩ = some (.int .i64 kd) ∧ w'.cell? ⟨bl, off + i * 5 + 1, none⟩ = some (.int .i64 who) ∧ w'.cell? ⟨bl, off + i * 5 + 2, none⟩ = some (.int .i64 n) ∧ w'.cell? ⟨bl, off + i * 5 + 3, none⟩ = some (.int .i64 xa) ∧ w'.cell? ⟨bl, off + i * 5 + 4, none⟩ = some (.int .i64 xb)) := fun w' hb =>
            ⟨(hb.cell (p := ⟨bl, off + i * 5, none⟩) hbl).trans x0, (hb.cell (p := ⟨bl, off + i * 5 + 1, none⟩) hbl).trans x1, (hb.cell (p := ⟨bl, off + i * 5 + 2, none⟩) hbl).trans x2, (hb.cell (p := ⟨bl, off + i * 5 + 3, none⟩) hbl).trans x3, (hb.cell (p := ⟨bl, off + i * 5 + 4, none⟩) hbl).trans x4⟩
          obtain ⟨y0, y1, y2, y3, y4⟩ := HX.out _ HB.out.be
          have HN := Lib.hid hnn
          clear x0 x1 x2 x3 x4 hcl hkd hwho hn hxa hxb hnn
          go_upto_if 81 with fail
          go_cut [21] (fun v21 wx => ∃ k : Nat, k < 2 ∧ v21 = .int .i64 k ∧ wx = wr)
          case first =>
            by_cases hw0 : who = 0
            · subst hw0
              clear y0 y1 y2 y3 y4
              go_wp2_with fail
              go_meet
              exact ⟨0, by decide, rfl, rfl⟩
            · have hwb : (who != 0) = true := by rw [bne_iff_ne]; exact hw0
              clear y0 y1 y2 y3 y4
              go_wp2_with fail
              go_meet
              exact ⟨1, by decide, rfl, rfl⟩
          case rest =>
            obtain ⟨k, hk2, rfl, rfl⟩ := hcut
            obtain ⟨j, hj⟩ : ∃ j, j = 1 - k := ⟨_, rfl⟩
            have hji : (1 : Int) - (k : Int) = (j : Int) := by omega
            have hj2 : j < 2 := by omega
            have Hj : Hid (j = 1 - k ∧ j ≠ k ∧ k = 1 - j) := ⟨hj, by omega, by omega⟩
            clear hj
            have hjw2 : IntKind.i64.wrap (j : Int) = (j : Int) := IntWalk.i64_in _ (by omega)
            have hkI0 : (0 : Int) ≤ (k : Int) := by omega
            have hkI2 : (k : Int) < 2 := by omega
            have hjI0 : (0 : Int) ≤ (j : Int) := by omega
            have hjI2 : (j : Int) < 2 := by omega
            have hiI0 : (0 : Int) ≤ (i : Int) := by omega
            have hiIl : (i : Int) < (len : Int) := by omega
            have hjw : IntKind.i64.wrap ((1 : Int) - (k : Int)) = (j : Int) := by rw [hji]; exact IntWalk.i64_in _ (by omega)
            obtain ⟨m1, r1⟩ := HB.out.cells hk2
            cases hck : cs k with
            | none =>
              rw [hck] at m1 r1
              simp only [pmOf, prOf] at m1 r1
              clear hck y0 y1 y2 y3 y4
              go_wp2_with fail
              go_roundg (gk - 1)
              case measure => omega
              case rel => exact ⟨i + 1, by omega, by go_num, cs, HB.out⟩
            | some c =>
              rw [hck] at m1 r1
              simp only [pmOf, prOf] at m1 r1
              have HT := Lib.hid (fun u hb => HB.out.told hk2 hck (u := u) hb)
              have HC := Lib.hid (fun u hb => HB.out.call hk2 hck (u := u) hb kd who n xa xb HN.out)
              have hO := HB.out.ok k hk2
              rw [hck] at hO
              have HO := Lib.hid hO
              clear hO
              have HCK := Lib.hid hck
              obtain ⟨h, hr, S, R, s⟩ := c
              simp only at m1 r1 HT HC HO
              clear hck
              go_upto_if 91 with fail
              go_cut [] (fun wx => ∃ cs', PlI w gm gw cs' wx ∧ ∃ c', cs' k = some c')
              case first =>
                by_cases hk6 : kd = 6
                · subst hk6
                  clear y0 y1 y2 y3 y4
                  go_wp2_with fail
                  refine (twin_any h S s _ HO.out.1 HO.out.2.2.1).mono ?_
                  rintro e w3 ⟨h2, S2, rfl, hm, hb, hS⟩
                  have K1 := Lib.hid (And.intro hm (And.intro hb hS))
                  have B3 : Hid (PlI w gm gw cs w3) := PlB.below HB.out hb
                  clear hm hb hS m1 r1
                  have g1 := (B3.out.cells hj2).1
                  have g2 := B3.out.bm.frozen j
                  go_upto_region 23 with fail
                  obtain ⟨w4, hw4⟩ : ∃ w4, w4 = w3.setCell ⟨gm, j, none⟩ (.pointer (some ⟨h2, 0, none⟩)) := ⟨_, rfl⟩
                  have B4 : Hid (PlB w gm gw (upd (fun i => pmOf (cs i)) j (.pointer (some ⟨h2, 0, none⟩))) (fun i => prOf (cs i)) cs w4 ∧ Mp w4 h2 S2 s ∧ w3.heap.size ≤ w4.heap.size) := by
                    rw [hw4]
                    have ho : Only (fun k => k = gm) w3 (w3.setCell ⟨gm, j, none⟩ (.pointer (some ⟨h2, 0, none⟩))) := (Only.refl (fun k => k = gm) w3).setCell (p := ⟨gm, j, none⟩) (.inl rfl) _
                    refine ⟨PlB.setm B3.out hj2 _, K1.out.1.keep ho (fun k hk e => ?_), ho.size⟩
                    have e2 : k = gm := e
                    have := K1.out.2.2 k hk
                    have := HB.out.bm.lt
                    omega
                  rw [← hw4]
                  clear hw4 g1 g2
                  have HR4 : Hid (Rm w4 hr R s) := by have := B4.out.1.ok k hk2; rw [HCK.out] at this; exact this.2.1
                  have r2 : w4.cell? ⟨gw, k, none⟩ = some (.pointer (some ⟨hr, 0, none⟩)) := by have := arr_cell (p := fun i => prOf (cs i)) B4.out.1.bw hk2; rw [HCK.out] at this; exact this
                  go_wp2_with fail
                  refine (rtwin_any hr R s w4 HR4.out HO.out.2.2.1).mono ?_
                  rintro e w5 ⟨hr2, R2, rfl, hm, hb, hR⟩
                  have B5 := Lib.hid (PlB.below B4.out.1 hb)
                  have K2 := Lib.hid (And.intro hm (And.intro hb hR))
                  clear hm hb hR r2
                  have g1 := arr_cell (p := fun i => prOf (cs i)) B5.out.bw hj2
                  have g2 := B5.out.bw.frozen j
                  go_upto_region 24 with fail
                  obtain ⟨w6, hw6⟩ : ∃ w6, w6 = w5.setCell ⟨gw, j, none⟩ (.pointer (some ⟨hr2, 0, none⟩)) := ⟨_, rfl⟩
                  have B6 : Hid (PlI w gm gw (upd cs j (some ⟨h2, hr2, S2, R2, s⟩)) w6) := by
                    rw [hw6]
                    have hz1 := K1.out.2.1.size
                    have hz2 := B4.out.2.2
                    have hz3 := K2.out.2.1.size
                    have q := PlB.lay B5.out hj2 (c := some ⟨h2, hr2, S2, R2, s⟩) ⟨B4.out.2.1.below K2.out.2.1, K2.out.1, HO.out.2.2.1, fun k h1 h2 => by have := B4.out.2.1.lt k h1; have := K2.out.2.2 k h2; omega⟩ 
                      (fun k hk => by
                        rcases hk with hk | hk
                        · exact K1.out.2.2 k hk
                        · have := K2.out.2.2 k hk; omega) HB.out.be.size HB.out.bm.lt HB.out.bw.lt (fun k hk => (HB.out.ok (1 - j) (by omega)).lt k hk)
                    exact (q.setw hj2 (.pointer (some ⟨hr2, 0, none⟩))).fin
                  rw [← hw6]
                  clear hw6 g1 g2
                  have g1 : w6.cell? ⟨gm, j, none⟩ = some (.pointer (some ⟨h2, 0, none⟩)) := by
                    have := (B6.out.cells hj2).1
                    rw [upd_same] at this
                    exact this
                  go_wp2_with fail
                  go_meet
                  exact ⟨_, B6.out, ⟨h, hr, S, R, s⟩, by rw [upd_other _ _ _ (fun e => Hj.out.2.1 e.symm)]; exact HCK.out⟩
                · have hkb : (kd == 6) = false := by simpa using hk6
                  go_upto_region 26 with fail
                  go_region_held3 (fun w' => w'.cell? ⟨gm, k, none⟩ = some (.pointer (some ⟨h, 0, none⟩)) ∧ w'.cell? ⟨gw, k, none⟩ = some (.pointer (some ⟨hr, 0, none⟩)) ∧ w'.cell? ⟨bl, off + i * 5, none⟩ = some (.int .i64 kd) ∧ w'.cell? ⟨bl, off + i * 5 + 1, none⟩ = some (.int .i64 who) ∧ w'.cell? ⟨bl, off + i * 5 + 2, none⟩ = some (.int .i64 n) ∧ w'.cell? ⟨bl, off + i * 5 + 3, none⟩ = some (.int .i64 xa) ∧ w'.cell? ⟨bl, off + i * 5 + 4, none⟩ = some (.int .i64 xb))
                    (first | exact ⟨m1, r1, y0, y1, y2, y3, y4⟩ | exact ⟨K1.out.2.1, K1.out.2.2.1, HX.out _ K1.out.2.2.2⟩)
                    (first
                      | (go_at_call 31; refine (HC.out _ (by repeat (first | exact Below.refl _ _ | refine Below.drew ?_ | refine below_drewN ?_ _))).mono ?_; rintro e z1 ⟨rfl, hx⟩; have K1 := Lib.hid hx; clear hx))
                  all_goals
                    go_wp2_with fail
                    go_meet
                    obtain ⟨cs', q1, q2⟩ := K1.out.1
                    exact ⟨cs', PlB.below q1 (by repeat (first | exact Below.refl _ _ | refine Below.drew ?_ | refine below_drewN ?_ _)), q2⟩
              case rest =>
                clear HT HC HO HCK m1 r1 y0 y1 y2 y3 y4 HB
                obtain ⟨cs', hB, c', hck⟩ := hcut
                have HB := Lib.hid hB
                clear hB
                obtain ⟨m1, r1⟩ := HB.out.cells hk2
                obtain ⟨m2, r2⟩ := HB.out.cells hj2
                rw [hck] at m1 r1
                simp only [pmOf, prOf] at m1 r1
                have HT := Lib.hid (fun u hb => HB.out.told hk2 hck (u := u) hb)
                have HP : Hid (∀ u, Below wc.heap.size wc u → PlI w gm gw cs' u) := fun u hb => PlB.below HB.out hb
                obtain ⟨h', hr', S', R', s'⟩ := c'
                simp only at m1 r1 HT
                clear hck
                go_upto_region 28 with fail
                go_cut [154] (fun v154 wx => v154 = .bool false ∧ Below wc.heap.size wc wx)
                case first =>
                  cases hcj : cs' j with
                  | none =>
                    rw [hcj] at m2 r2
                    simp only [pmOf, prOf] at m2 r2
                    have HCJ : Hid (∀ u, Below wc.heap.size wc u → u.cell? ⟨gm, k, none⟩ = some (.pointer (some ⟨h', 0, none⟩)) ∧ u.cell? ⟨gw, k, none⟩ = some (.pointer (some ⟨hr', 0, none⟩)) ∧ u.cell? ⟨gm, j, none⟩ = some (.pointer none) ∧ u.cell? ⟨gw, j, none⟩ = some (.pointer none)) := fun u hb =>
                      ⟨(hb.cell (p := ⟨gm, k, none⟩) HB.out.bm.lt).trans m1, (hb.cell (p := ⟨gw, k, none⟩) HB.out.bw.lt).trans r1, (hb.cell (p := ⟨gm, j, none⟩) HB.out.bm.lt).trans m2, (hb.cell (p := ⟨gw, j, none⟩) HB.out.bw.lt).trans r2⟩
                    clear hcj
                    refine wp_region_held_drew (S := fun w' => w'.cell? ⟨gm, k, none⟩ = some (.pointer (some ⟨h', 0, none⟩)) ∧ w'.cell? ⟨gw, k, none⟩ = some (.pointer (some ⟨hr', 0, none⟩)) ∧ w'.cell? ⟨gm, j, none⟩ = some (.pointer none) ∧ w'.cell? ⟨gw, j, none⟩ = some (.pointer none)) (by kernel_rfl) ?_ (fun hHeld => ?_)
                    · exact ⟨m1, r1, m2, r2⟩
                    refine wpAnyH_take (i := 0) (v := .int .i64 k) rfl (by kernel_rfl) (by kernel_rfl) (by kernel_rfl) (fun _ _ _ h => h) (Or.inl ⟨by kernel_rfl, ?_⟩) (by assumption) ?_
                    · intro w hSw; (try dsimp only at hSw); obtain ⟨s1, s2, s3, s4⟩ := hSw; first | (go_simp; done) | (go_simp; rfl)
                    try simp only [Act.put, List.getElem_toArray, List.getElem_cons_zero, List.setIfInBounds_toArray, List.set_cons_zero, List.set_cons_succ]
                    refine wpAnyH_take (i := 1) (v := .pointer (some ⟨gm, k, none⟩)) rfl (by kernel_rfl) (by kernel_rfl) (by kernel_rfl) (fun _ _ _ h => h) (Or.inl ⟨by kernel_rfl, ?_⟩) (by assumption) ?_
                    · intro w hSw; (try dsimp only at hSw); obtain ⟨s1, s2, s3, s4⟩ := hSw; first | (go_simp; done) | (go_simp; rfl)
                    try simp only [Act.put, List.getElem_toArray, List.getElem_cons_succ, List.getElem_cons_zero, List.setIfInBounds_toArray, List.set_cons_zero, List.set_cons_succ]
                    refine wpAnyH_take (i := 2) (v := .pointer (some ⟨h', 0, none⟩)) rfl (by kernel_rfl) (by kernel_rfl) (by kernel_rfl) (fun _ _ _ h => h) (Or.inl ⟨by kernel_rfl, ?_⟩) (by assumption) ?_
                    · intro w hSw; (try dsimp only at hSw); obtain ⟨s1, s2, s3, s4⟩ := hSw; first | (go_simp; done) | (go_simp; rfl)
                    try simp only [Act.put, List.getElem_toArray, List.getElem_cons_succ, List.getElem_cons_zero, List.setIfInBounds_toArray, List.set_cons_zero, List.set_cons_succ]
                    refine wpAnyH_take (i := 3) (v := .int .i64 k) rfl (by kernel_rfl) (by kernel_rfl) (by kernel_rfl) (fun _ _ _ h => h) (Or.inl ⟨by kernel_rfl, ?_⟩) (by assumption) ?_
                    · intro w hSw; (try dsimp only at hSw); obtain ⟨s1, s2, s3, s4⟩ := hSw; first | (go_simp; done) | (go_simp; rfl)
                    try simp only [Act.put, List.getElem_toArray, List.getElem_cons_succ, List.getElem_cons_zero, List.setIfInBounds_toArray, List.set_cons_zero, List.set_cons_succ]
                    refine wpAnyH_take (i := 4) (v := .pointer (some ⟨gw, k, none⟩)) rfl (by kernel_rfl) (by kernel_rfl) (by kernel_rfl) (fun _ _ _ h => h) (Or.inl ⟨by kernel_rfl, ?_⟩) (by assumption) ?_
                    · intro w hSw; (try dsimp only at hSw); obtain ⟨s1, s2, s3, s4⟩ := hSw; first | (go_simp; done) | (go_simp; rfl)
                    try simp only [Act.put, List.getElem_toArray, List.getElem_cons_succ, List.getElem_cons_zero, List.setIfInBounds_toArray, List.set_cons_zero, List.set_cons_succ]
                    refine wpAnyH_take (i := 5) (v := .pointer (some ⟨hr', 0, none⟩)) rfl (by kernel_rfl) (by kernel_rfl) (by kernel_rfl) (fun _ _ _ h => h) (Or.inl ⟨by kernel_rfl, ?_⟩) (by assumption) ?_
                    · intro w hSw; (try dsimp only at hSw); obtain ⟨s1, s2, s3, s4⟩ := hSw; first | (go_simp; done) | (go_simp; rfl)
                    try simp only [Act.put, List.getElem_toArray, List.getElem_cons_succ, List.getElem_cons_zero, List.setIfInBounds_toArray, List.set_cons_zero, List.set_cons_succ]
                    refine wpAnyH_ready (rs := [6]) (by kernel_rfl) (by simp) ?_
                    refine AllReadyH.cons rfl (fun K hK => ?_) AllReadyH.nil
                    go_simp
                    go_at_call 11; refine (HT.out _ (Below.refl _ _).drew).mono ?_; rintro e z1 ⟨rfl, hb⟩; have K1 := Lib.hid hb; clear hb
                    refine hK.out _ _ (HCJ.out _ K1.out) (fun hHeld => ?_)
                    clear hK K
                    try simp only [Act.put, List.getElem_toArray, List.getElem_cons_succ, List.getElem_cons_zero, List.setIfInBounds_toArray, List.set_cons_zero, List.set_cons_succ]
                    refine wpAnyH_take (i := 7) (v := .bool false) rfl (by kernel_rfl) (by kernel_rfl) (by kernel_rfl) (fun _ _ _ h => h) (Or.inl ⟨by kernel_rfl, ?_⟩) (by assumption) ?_
                    · intro w hSw; (try dsimp only at hSw); obtain ⟨s1, s2, s3, s4⟩ := hSw; first | (go_simp; done) | (go_simp; rfl)
                    try simp only [Act.put, List.getElem_toArray, List.getElem_cons_succ, List.getElem_cons_zero, List.setIfInBounds_toArray, List.set_cons_zero, List.set_cons_succ]
                    refine wpAnyH_take (i := 8) (v := .bool false) rfl (by kernel_rfl) (by kernel_rfl) (by kernel_rfl) (fun _ _ _ h => h) (Or.inl ⟨by kernel_rfl, ?_⟩) (by assumption) ?_
                    · intro w hSw; (try dsimp only at hSw); obtain ⟨s1, s2, s3, s4⟩ := hSw; first | (go_simp; done) | (go_simp; rfl)
                    try simp only [Act.put, List.getElem_toArray, List.getElem_cons_succ, List.getElem_cons_zero, List.setIfInBounds_toArray, List.set_cons_zero, List.set_cons_succ]
                    refine wpAnyH_take (i := 9) (v := .int .i64 k) rfl (by kernel_rfl) (by kernel_rfl) (by kernel_rfl) (fun _ _ _ h => h) (Or.inl ⟨by kernel_rfl, ?_⟩) (by assumption) ?_
                    · intro w hSw; (try dsimp only at hSw); obtain ⟨s1, s2, s3, s4⟩ := hSw; first | (go_simp; done) | (go_simp; rfl)
                    try simp only [Act.put, List.getElem_toArray, List.getElem_cons_succ, List.getElem_cons_zero, List.setIfInBounds_toArray, List.set_cons_zero, List.set_cons_succ]
                    refine wpAnyH_take (i := 10) (v := .int .i64 j) rfl (by kernel_rfl) (by kernel_rfl) (by kernel_rfl) (fun _ _ _ h => h) (Or.inl ⟨by kernel_rfl, ?_⟩) (by assumption) ?_
                    · intro w hSw; (try dsimp only at hSw); obtain ⟨s1, s2, s3, s4⟩ := hSw; first | (go_simp; done) | (go_simp; rfl)
                    try simp only [Act.put, List.getElem_toArray, List.getElem_cons_succ, List.getElem_cons_zero, List.setIfInBounds_toArray, List.set_cons_zero, List.set_cons_succ]
                    refine wpAnyH_take (i := 11) (v := .pointer (some ⟨gw, j, none⟩)) rfl (by kernel_rfl) (by kernel_rfl) (by kernel_rfl) (fun _ _ _ h => h) (Or.inl ⟨by kernel_rfl, ?_⟩) (by assumption) ?_
                    · intro w hSw; (try dsimp only at hSw); obtain ⟨s1, s2, s3, s4⟩ := hSw; first | (go_simp; done) | (go_simp; rfl)
                    try simp only [Act.put, List.getElem_toArray, List.getElem_cons_succ, List.getElem_cons_zero, List.setIfInBounds_toArray, List.set_cons_zero, List.set_cons_succ]
                    refine wpAnyH_take (i := 12) (v := .pointer none) rfl (by kernel_rfl) (by kernel_rfl) (by kernel_rfl) (fun _ _ _ h => h) (Or.inl ⟨by kernel_rfl, ?_⟩) (by assumption) ?_
                    · intro w hSw; (try dsimp only at hSw); obtain ⟨s1, s2, s3, s4⟩ := hSw; first | (go_simp; done) | (go_simp; rfl)
                    try simp only [Act.put, List.getElem_toArray, List.getElem_cons_succ, List.getElem_cons_zero, List.setIfInBounds_toArray, List.set_cons_zero, List.set_cons_succ]
                    refine wpAnyH_take (i := 13) (v := .bool false) rfl (by kernel_rfl) (by kernel_rfl) (by kernel_rfl) (fun _ _ _ h => h) (Or.inl ⟨by kernel_rfl, ?_⟩) (by assumption) ?_
                    · intro w hSw; (try dsimp only at hSw); obtain ⟨s1, s2, s3, s4⟩ := hSw; first | (go_simp; done) | (go_simp; rfl)
                    try simp only [Act.put, List.getElem_toArray, List.getElem_cons_succ, List.getElem_cons_zero, List.setIfInBounds_toArray, List.set_cons_zero, List.set_cons_succ]
                    refine wpAnyH_take (i := 14) (v := .bool false) rfl (by kernel_rfl) (by kernel_rfl) (by kernel_rfl) (fun _ _ _ h => h) (Or.inl ⟨by kernel_rfl, ?_⟩) (by assumption) ?_
                    · intro w hSw; (try dsimp only at hSw); obtain ⟨s1, s2, s3, s4⟩ := hSw; first | (go_simp; done) | (go_simp; rfl)
                    try simp only [Act.put, List.getElem_toArray, List.getElem_cons_succ, List.getElem_cons_zero, List.setIfInBounds_toArray, List.set_cons_zero, List.set_cons_succ]
                    refine wpAnyH_take (i := 15) (v := undef) rfl (by kernel_rfl) (by kernel_rfl) (by kernel_rfl) (fun _ _ _ h => h) (Or.inr ⟨by kernel_rfl, rfl⟩) (by assumption) ?_
                    try simp only [Act.put, List.getElem_toArray, List.getElem_cons_succ, List.getElem_cons_zero, List.setIfInBounds_toArray, List.set_cons_zero, List.set_cons_succ]
                    refine wpAnyH_take (i := 16) (v := undef) rfl (by kernel_rfl) (by kernel_rfl) (by kernel_rfl) (fun _ _ _ h => h) (Or.inr ⟨by kernel_rfl, rfl⟩) (by assumption) ?_
                    try simp only [Act.put, List.getElem_toArray, List.getElem_cons_succ, List.getElem_cons_zero, List.setIfInBounds_toArray, List.set_cons_zero, List.set_cons_succ]
                    refine wpAnyH_take (i := 17) (v := undef) rfl (by kernel_rfl) (by kernel_rfl) (by kernel_rfl) (fun _ _ _ h => h) (Or.inr ⟨by kernel_rfl, rfl⟩) (by assumption) ?_
                    try simp only [Act.put, List.getElem_toArray, List.getElem_cons_succ, List.getElem_cons_zero, List.setIfInBounds_toArray, List.set_cons_zero, List.set_cons_succ]
                    refine wpAnyH_take (i := 18) (v := .bool false) rfl (by kernel_rfl) (by kernel_rfl) (by kernel_rfl) (fun _ _ _ h => h) (Or.inl ⟨by kernel_rfl, ?_⟩) (by assumption) ?_
                    · intro w hSw; (try dsimp only at hSw); obtain ⟨s1, s2, s3, s4⟩ := hSw; first | (go_simp; done) | (go_simp; rfl)
                    try simp only [Act.put, List.getElem_toArray, List.getElem_cons_succ, List.getElem_cons_zero, List.setIfInBounds_toArray, List.set_cons_zero, List.set_cons_succ]
                    refine wpAnyH_take (i := 19) (v := .bool false) rfl (by kernel_rfl) (by kernel_rfl) (by kernel_rfl) (fun _ _ _ h => h) (Or.inl ⟨by kernel_rfl, ?_⟩) (by assumption) ?_
                    · intro w hSw; (try dsimp only at hSw); obtain ⟨s1, s2, s3, s4⟩ := hSw; first | (go_simp; done) | (go_simp; rfl)
                    try simp only [Act.put, List.getElem_toArray, List.getElem_cons_succ, List.getElem_cons_zero, List.setIfInBounds_toArray, List.set_cons_zero, List.set_cons_succ]
                    refine wpAnyH_take (i := 20) (v := undef) rfl (by kernel_rfl) (by kernel_rfl) (by kernel_rfl) (fun _ _ _ h => h) (Or.inr ⟨by kernel_rfl, rfl⟩) (by assumption) ?_
                    try simp only [Act.put, List.getElem_toArray, List.getElem_cons_succ, List.getElem_cons_zero, List.setIfInBounds_toArray, List.set_cons_zero, List.set_cons_succ]
                    refine wpAnyH_take (i := 21) (v := undef) rfl (by kernel_rfl) (by kernel_rfl) (by kernel_rfl) (fun _ _ _ h => h) (Or.inr ⟨by kernel_rfl, rfl⟩) (by assumption) ?_
                    try simp only [Act.put, List.getElem_toArray, List.getElem_cons_succ, List.getElem_cons_zero, List.setIfInBounds_toArray, List.set_cons_zero, List.set_cons_succ]
                    refine wpAnyH_take (i := 22) (v := undef) rfl (by kernel_rfl) (by kernel_rfl) (by kernel_rfl) (fun _ _ _ h => h) (Or.inr ⟨by kernel_rfl, rfl⟩) (by assumption) ?_
                    try simp only [Act.put, List.getElem_toArray, List.getElem_cons_succ, List.getElem_cons_zero, List.setIfInBounds_toArray, List.set_cons_zero, List.set_cons_succ]
                    refine wpAnyH_take (i := 23) (v := undef) rfl (by kernel_rfl) (by kernel_rfl) (by kernel_rfl) (fun _ _ _ h => h) (Or.inr ⟨by kernel_rfl, rfl⟩) (by assumption) ?_
                    try simp only [Act.put, List.getElem_toArray, List.getElem_cons_succ, List.getElem_cons_zero, List.setIfInBounds_toArray, List.set_cons_zero, List.set_cons_succ]
                    refine wpAnyH_take (i := 24) (v := undef) rfl (by kernel_rfl) (by kernel_rfl) (by kernel_rfl) (fun _ _ _ h => h) (Or.inr ⟨by kernel_rfl, rfl⟩) (by assumption) ?_
                    try simp only [Act.put, List.getElem_toArray, List.getElem_cons_succ, List.getElem_cons_zero, List.setIfInBounds_toArray, List.set_cons_zero, List.set_cons_succ]
                    refine wpAnyH_take (i := 25) (v := undef) rfl (by kernel_rfl) (by kernel_rfl) (by kernel_rfl) (fun _ _ _ h => h) (Or.inr ⟨by kernel_rfl, rfl⟩) (by assumption) ?_
                    try simp only [Act.put, List.getElem_toArray, List.getElem_cons_succ, List.getElem_cons_zero, List.setIfInBounds_toArray, List.set_cons_zero, List.set_cons_succ]
                    refine wpAnyH_take (i := 26) (v := undef) rfl (by kernel_rfl) (by kernel_rfl) (by kernel_rfl) (fun _ _ _ h => h) (Or.inr ⟨by kernel_rfl, rfl⟩) (by assumption) ?_
                    try simp only [Act.put, List.getElem_toArray, List.getElem_cons_succ, List.getElem_cons_zero, List.setIfInBounds_toArray, List.set_cons_zero, List.set_cons_succ]
                    refine wpAnyH_take (i := 27) (v := undef) rfl (by kernel_rfl) (by kernel_rfl) (by kernel_rfl) (fun _ _ _ h => h) (Or.inr ⟨by kernel_rfl, rfl⟩) (by assumption) ?_
                    try simp only [Act.put, List.getElem_toArray, List.getElem_cons_succ, List.getElem_cons_zero, List.setIfInBounds_toArray, List.set_cons_zero, List.set_cons_succ]
                    refine wpAnyH_take (i := 28) (v := undef) rfl (by kernel_rfl) (by kernel_rfl) (by kernel_rfl) (fun _ _ _ h => h) (Or.inr ⟨by kernel_rfl, rfl⟩) (by assumption) ?_
                    try simp only [Act.put, List.getElem_toArray, List.getElem_cons_succ, List.getElem_cons_zero, List.setIfInBounds_toArray, List.set_cons_zero, List.set_cons_succ]
                    refine wpAnyH_take (i := 29) (v := undef) rfl (by kernel_rfl) (by kernel_rfl) (by kernel_rfl) (fun _ _ _ h => h) (Or.inr ⟨by kernel_rfl, rfl⟩) (by assumption) ?_
                    try simp only [Act.put, List.getElem_toArray, List.getElem_cons_succ, List.getElem_cons_zero, List.setIfInBounds_toArray, List.set_cons_zero, List.set_cons_succ]
                    refine wpAnyH_take (i := 30) (v := .bool false) rfl (by kernel_rfl) (by kernel_rfl) (by kernel_rfl) (fun _ _ _ h => h) (Or.inl ⟨by kernel_rfl, ?_⟩) (by assumption) ?_
                    · intro w hSw; (try dsimp only at hSw); obtain ⟨s1, s2, s3, s4⟩ := hSw; first | (go_simp; done) | (go_simp; rfl)
                    try simp only [Act.put, List.getElem_toArray, List.getElem_cons_succ, List.getElem_cons_zero, List.setIfInBounds_toArray, List.set_cons_zero, List.set_cons_succ]
                    refine wpAnyH_take (i := 31) (v := .bool false) rfl (by kernel_rfl) (by kernel_rfl) (by kernel_rfl) (fun _ _ _ h => h) (Or.inl ⟨by kernel_rfl, ?_⟩) (by assumption) ?_
                    · intro w hSw; (try dsimp only at hSw); obtain ⟨s1, s2, s3, s4⟩ := hSw; first | (go_simp; done) | (go_simp; rfl)
                    try simp only [Act.put, List.getElem_toArray, List.getElem_cons_succ, List.getElem_cons_zero, List.setIfInBounds_toArray, List.set_cons_zero, List.set_cons_succ]
                    refine wpAnyH_done (by kernel_rfl) ?_ _
                    all_goals
                      go_wp2_with fail
                      go_meet
                      exact ⟨by simp, by repeat (first | exact K1.out | refine Below.drew ?_ | refine below_drewN ?_ _)⟩
                  | some d =>
                    have HT2 := Lib.hid (fun u hb => HB.out.told hj2 hcj (u := u) hb)
                    rw [hcj] at m2 r2
                    simp only [pmOf, prOf] at m2 r2
                    obtain ⟨h2, hr2, S2, R2, s2⟩ := d
                    simp only at m2 r2 HT2
                    have HCJ : Hid (∀ u, Below wc.heap.size wc u → u.cell? ⟨gm, k, none⟩ = some (.pointer (some ⟨h', 0, none⟩)) ∧ u.cell? ⟨gw, k, none⟩ = some (.pointer (some ⟨hr', 0, none⟩)) ∧ u.cell? ⟨gm, j, none⟩ = some (.pointer (some ⟨h2, 0, none⟩)) ∧ u.cell? ⟨gw, j, none⟩ = some (.pointer (some ⟨hr2, 0, none⟩))) := fun u hb =>
                      ⟨(hb.cell (p := ⟨gm, k, none⟩) HB.out.bm.lt).trans m1, (hb.cell (p := ⟨gw, k, none⟩) HB.out.bw.lt).trans r1, (hb.cell (p := ⟨gm, j, none⟩) HB.out.bm.lt).trans m2, (hb.cell (p := ⟨gw, j, none⟩) HB.out.bw.lt).trans r2⟩
                    clear hcj
                    obtain ⟨q, hq⟩ : ∃ q, q = i % 9 := ⟨_, rfl⟩
                    have hq1 : (i : Int) % 9 = (q : Int) := by omega
                    have hq2 : Int.tmod (i : Int) 9 = (q : Int) := by rw [Int.tmod_eq_emod_of_nonneg (by omega)]; exact hq1
                    clear hq
                    rcases Nat.eq_zero_or_pos q with hq0 | hq0
                    · subst hq0
                      go_region_held3 (fun w' => w'.cell? ⟨gm, k, none⟩ = some (.pointer (some ⟨h', 0, none⟩)) ∧ w'.cell? ⟨gw, k, none⟩ = some (.pointer (some ⟨hr', 0, none⟩)) ∧ w'.cell? ⟨gm, j, none⟩ = some (.pointer (some ⟨h2, 0, none⟩)) ∧ w'.cell? ⟨gw, j, none⟩ = some (.pointer (some ⟨hr2, 0, none⟩)))
                        (first | exact ⟨m1, r1, m2, r2⟩ | exact HCJ.out _ (by repeat (first | exact K2.out | exact K1.out | exact Below.refl _ _ | refine Below.drew ?_ | refine below_drewN ?_ _)))
                        (first
                          | (go_at_call 11; with_reducible refine (HT.out _ ?_).mono ?_; (repeat (first | exact Below.refl _ _ | refine Below.drew ?_ | refine below_drewN ?_ _)); rintro e z1 ⟨rfl, hb⟩; have K1 := Lib.hid hb; clear hb)
                          | (go_at_call 11; with_reducible refine (HT2.out _ ?_).mono ?_; (repeat (first | exact K1.out | refine Below.drew ?_ | refine below_drewN ?_ _)); rintro e z2 ⟨rfl, hb⟩; have K2 := Lib.hid hb; clear hb))
                      all_goals
                        go_wp2_with fail
                        go_meet
                        exact ⟨by simp, by repeat (first | exact K2.out | refine Below.drew ?_ | refine below_drewN ?_ _)⟩
                    · have hq3 : ((q : Int) == 0) = false := by simp; omega
                      have hq4 : decide ((q : Int) = 0) = false := decide_eq_false (by omega)
                      have hq5 : ¬ q = 0 := by omega
                      refine wp_region_held_drew (S := fun w' => w'.cell? ⟨gm, k, none⟩ = some (.pointer (some ⟨h', 0, none⟩)) ∧ w'.cell? ⟨gw, k, none⟩ = some (.pointer (some ⟨hr', 0, none⟩)) ∧ w'.cell? ⟨gm, j, none⟩ = some (.pointer (some ⟨h2, 0, none⟩)) ∧ w'.cell? ⟨gw, j, none⟩ = some (.pointer (some ⟨hr2, 0, none⟩))) (by kernel_rfl) ?_ (fun hHeld => ?_)
                      · exact ⟨m1, r1, m2, r2⟩
                      refine wpAnyH_take (i := 0) (v := .int .i64 k) rfl (by kernel_rfl) (by kernel_rfl) (by kernel_rfl) (fun _ _ _ h => h) (Or.inl ⟨by kernel_rfl, ?_⟩) (by assumption) ?_
                      · intro w hSw; (try dsimp only at hSw); obtain ⟨s1, s2, s3, s4⟩ := hSw; first | (go_simp; done) | (go_simp; rfl)
                      try simp only [Act.put, List.getElem_toArray, List.getElem_cons_zero, List.setIfInBounds_toArray, List.set_cons_zero, List.set_cons_succ]
                      refine wpAnyH_take (i := 1) (v := .pointer (some ⟨gm, k, none⟩)) rfl (by kernel_rfl) (by kernel_rfl) (by kernel_rfl) (fun _ _ _ h => h) (Or.inl ⟨by kernel_rfl, ?_⟩) (by assumption) ?_
                      · intro w hSw; (try dsimp only at hSw); obtain ⟨s1, s2, s3, s4⟩ := hSw; first | (go_simp; done) | (go_simp; rfl)
                      try simp only [Act.put, List.getElem_toArray, List.getElem_cons_succ, List.getElem_cons_zero, List.setIfInBounds_toArray, List.set_cons_zero, List.set_cons_succ]
                      refine wpAnyH_take (i := 2) (v := .pointer (some ⟨h', 0, none⟩)) rfl (by kernel_rfl) (by kernel_rfl) (by kernel_rfl) (fun _ _ _ h => h) (Or.inl ⟨by kernel_rfl, ?_⟩) (by assumption) ?_
                      · intro w hSw; (try dsimp only at hSw); obtain ⟨s1, s2, s3, s4⟩ := hSw; first | (go_simp; done) | (go_simp; rfl)
                      try simp only [Act.put, List.getElem_toArray, List.getElem_cons_succ, List.getElem_cons_zero, List.setIfInBounds_toArray, List.set_cons_zero, List.set_cons_succ]
                      refine wpAnyH_take (i := 3) (v := .int .i64 k) rfl (by kernel_rfl) (by kernel_rfl) (by kernel_rfl) (fun _ _ _ h => h) (Or.inl ⟨by kernel_rfl, ?_⟩) (by assumption) ?_
                      · intro w hSw; (try dsimp only at hSw); obtain ⟨s1, s2, s3, s4⟩ := hSw; first | (go_simp; done) | (go_simp; rfl)
                      try simp only [Act.put, List.getElem_toArray, List.getElem_cons_succ, List.getElem_cons_zero, List.setIfInBounds_toArray, List.set_cons_zero, List.set_cons_succ]
                      refine wpAnyH_take (i := 4) (v := .pointer (some ⟨gw, k, none⟩)) rfl (by kernel_rfl) (by kernel_rfl) (by kernel_rfl) (fun _ _ _ h => h) (Or.inl ⟨by kernel_rfl, ?_⟩) (by assumption) ?_
                      · intro w hSw; (try dsimp only at hSw); obtain ⟨s1, s2, s3, s4⟩ := hSw; first | (go_simp; done) | (go_simp; rfl)
                      try simp only [Act.put, List.getElem_toArray, List.getElem_cons_succ, List.getElem_cons_zero, List.setIfInBounds_toArray, List.set_cons_zero, List.set_cons_succ]
                      refine wpAnyH_take (i := 5) (v := .pointer (some ⟨hr', 0, none⟩)) rfl (by kernel_rfl) (by kernel_rfl) (by kernel_rfl) (fun _ _ _ h => h) (Or.inl ⟨by kernel_rfl, ?_⟩) (by assumption) ?_
                      · intro w hSw; (try dsimp only at hSw); obtain ⟨s1, s2, s3, s4⟩ := hSw; first | (go_simp; done) | (go_simp; rfl)
                      try simp only [Act.put, List.getElem_toArray, List.getElem_cons_succ, List.getElem_cons_zero, List.setIfInBounds_toArray, List.set_cons_zero, List.set_cons_succ]
                      refine wpAnyH_ready (rs := [6]) (by kernel_rfl) (by simp) ?_
                      refine AllReadyH.cons rfl (fun K hK => ?_) AllReadyH.nil
                      go_simp
                      go_at_call 11; refine (HT.out _ (Below.refl _ _).drew).mono ?_; rintro e z1 ⟨rfl, hb⟩; have K1 := Lib.hid hb; clear hb
                      refine hK.out _ _ (HCJ.out _ K1.out) (fun hHeld => ?_)
                      clear hK K
                      try simp only [Act.put, List.getElem_toArray, List.getElem_cons_succ, List.getElem_cons_zero, List.setIfInBounds_toArray, List.set_cons_zero, List.set_cons_succ]
                      refine wpAnyH_take (i := 7) (v := .bool false) rfl (by kernel_rfl) (by kernel_rfl) (by kernel_rfl) (fun _ _ _ h => h) (Or.inl ⟨by kernel_rfl, ?_⟩) (by assumption) ?_
                      · intro w hSw; (try dsimp only at hSw); obtain ⟨s1, s2, s3, s4⟩ := hSw; first | (go_simp; done) | (go_simp; rfl)
                      try simp only [Act.put, List.getElem_toArray, List.getElem_cons_succ, List.getElem_cons_zero, List.setIfInBounds_toArray, List.set_cons_zero, List.set_cons_succ]
                      refine wpAnyH_take (i := 8) (v := .bool false) rfl (by kernel_rfl) (by kernel_rfl) (by kernel_rfl) (fun _ _ _ h => h) (Or.inl ⟨by kernel_rfl, ?_⟩) (by assumption) ?_
                      · intro w hSw; (try dsimp only at hSw); obtain ⟨s1, s2, s3, s4⟩ := hSw; first | (go_simp; done) | (go_simp; rfl)
                      try simp only [Act.put, List.getElem_toArray, List.getElem_cons_succ, List.getElem_cons_zero, List.setIfInBounds_toArray, List.set_cons_zero, List.set_cons_succ]
                      refine wpAnyH_take (i := 9) (v := .int .i64 k) rfl (by kernel_rfl) (by kernel_rfl) (by kernel_rfl) (fun _ _ _ h => h) (Or.inl ⟨by kernel_rfl, ?_⟩) (by assumption) ?_
                      · intro w hSw; (try dsimp only at hSw); obtain ⟨s1, s2, s3, s4⟩ := hSw; first | (go_simp; done) | (go_simp; rfl)
                      try simp only [Act.put, List.getElem_toArray, List.getElem_cons_succ, List.getElem_cons_zero, List.setIfInBounds_toArray, List.set_cons_zero, List.set_cons_succ]
                      refine wpAnyH_take (i := 10) (v := .int .i64 j) rfl (by kernel_rfl) (by kernel_rfl) (by kernel_rfl) (fun _ _ _ h => h) (Or.inl ⟨by kernel_rfl, ?_⟩) (by assumption) ?_
                      · intro w hSw; (try dsimp only at hSw); obtain ⟨s1, s2, s3, s4⟩ := hSw; first | (go_simp; done) | (go_simp; rfl)
                      try simp only [Act.put, List.getElem_toArray, List.getElem_cons_succ, List.getElem_cons_zero, List.setIfInBounds_toArray, List.set_cons_zero, List.set_cons_succ]
                      refine wpAnyH_take (i := 11) (v := .pointer (some ⟨gw, j, none⟩)) rfl (by kernel_rfl) (by kernel_rfl) (by kernel_rfl) (fun _ _ _ h => h) (Or.inl ⟨by kernel_rfl, ?_⟩) (by assumption) ?_
                      · intro w hSw; (try dsimp only at hSw); obtain ⟨s1, s2, s3, s4⟩ := hSw; first | (go_simp; done) | (go_simp; rfl)
                      try simp only [Act.put, List.getElem_toArray, List.getElem_cons_succ, List.getElem_cons_zero, List.setIfInBounds_toArray, List.set_cons_zero, List.set_cons_succ]
                      refine wpAnyH_take (i := 12) (v := .pointer (some ⟨hr2, 0, none⟩)) rfl (by kernel_rfl) (by kernel_rfl) (by kernel_rfl) (fun _ _ _ h => h) (Or.inl ⟨by kernel_rfl, ?_⟩) (by assumption) ?_
                      · intro w hSw; (try dsimp only at hSw); obtain ⟨s1, s2, s3, s4⟩ := hSw; first | (go_simp; done) | (go_simp; rfl)
                      try simp only [Act.put, List.getElem_toArray, List.getElem_cons_succ, List.getElem_cons_zero, List.setIfInBounds_toArray, List.set_cons_zero, List.set_cons_succ]
                      refine wpAnyH_take (i := 13) (v := .bool true) rfl (by kernel_rfl) (by kernel_rfl) (by kernel_rfl) (fun _ _ _ h => h) (Or.inl ⟨by kernel_rfl, ?_⟩) (by assumption) ?_
                      · intro w hSw; (try dsimp only at hSw); obtain ⟨s1, s2, s3, s4⟩ := hSw; first | (go_simp; done) | (go_simp; rfl)
                      try simp only [Act.put, List.getElem_toArray, List.getElem_cons_succ, List.getElem_cons_zero, List.setIfInBounds_toArray, List.set_cons_zero, List.set_cons_succ]
                      refine wpAnyH_take (i := 14) (v := .bool true) rfl (by kernel_rfl) (by kernel_rfl) (by kernel_rfl) (fun _ _ _ h => h) (Or.inl ⟨by kernel_rfl, ?_⟩) (by assumption) ?_
                      · intro w hSw; (try dsimp only at hSw); obtain ⟨s1, s2, s3, s4⟩ := hSw; first | (go_simp; done) | (go_simp; rfl)
                      try simp only [Act.put, List.getElem_toArray, List.getElem_cons_succ, List.getElem_cons_zero, List.setIfInBounds_toArray, List.set_cons_zero, List.set_cons_succ]
                      refine wpAnyH_take (i := 15) (v := .int .i64 i) rfl (by kernel_rfl) (by kernel_rfl) (by kernel_rfl) (fun _ _ _ h => h) (Or.inl ⟨by kernel_rfl, ?_⟩) (by assumption) ?_
                      · intro w hSw; (try dsimp only at hSw); obtain ⟨s1, s2, s3, s4⟩ := hSw; first | (go_simp; done) | (go_simp; rfl)
                      try simp only [Act.put, List.getElem_toArray, List.getElem_cons_succ, List.getElem_cons_zero, List.setIfInBounds_toArray, List.set_cons_zero, List.set_cons_succ]
                      refine wpAnyH_take (i := 16) (v := .int .i64 q) rfl (by kernel_rfl) (by kernel_rfl) (by kernel_rfl) (fun _ _ _ h => h) (Or.inl ⟨by kernel_rfl, ?_⟩) (by assumption) ?_
                      · intro w hSw; (try dsimp only at hSw); obtain ⟨s1, s2, s3, s4⟩ := hSw; first | (go_simp; done) | (go_simp; rfl)
                      try simp only [Act.put, List.getElem_toArray, List.getElem_cons_succ, List.getElem_cons_zero, List.setIfInBounds_toArray, List.set_cons_zero, List.set_cons_succ]
                      refine wpAnyH_take (i := 17) (v := .bool false) rfl (by kernel_rfl) (by kernel_rfl) (by kernel_rfl) (fun _ _ _ h => h) (Or.inl ⟨by kernel_rfl, ?_⟩) (by assumption) ?_
                      · intro w hSw; (try dsimp only at hSw); obtain ⟨s1, s2, s3, s4⟩ := hSw; first | (go_simp; done) | (go_simp; rfl)
                      try simp only [Act.put, List.getElem_toArray, List.getElem_cons_succ, List.getElem_cons_zero, List.setIfInBounds_toArray, List.set_cons_zero, List.set_cons_succ]
                      refine wpAnyH_take (i := 18) (v := .bool false) rfl (by kernel_rfl) (by kernel_rfl) (by kernel_rfl) (fun _ _ _ h => h) (Or.inl ⟨by kernel_rfl, ?_⟩) (by assumption) ?_
                      · intro w hSw; (try dsimp only at hSw); obtain ⟨s1, s2, s3, s4⟩ := hSw; first | (go_simp; done) | (go_simp; rfl)
                      try simp only [Act.put, List.getElem_toArray, List.getElem_cons_succ, List.getElem_cons_zero, List.setIfInBounds_toArray, List.set_cons_zero, List.set_cons_succ]
                      refine wpAnyH_take (i := 19) (v := .bool false) rfl (by kernel_rfl) (by kernel_rfl) (by kernel_rfl) (fun _ _ _ h => h) (Or.inl ⟨by kernel_rfl, ?_⟩) (by assumption) ?_
                      · intro w hSw; (try dsimp only at hSw); obtain ⟨s1, s2, s3, s4⟩ := hSw; first | (go_simp; done) | (go_simp; rfl)
                      try simp only [Act.put, List.getElem_toArray, List.getElem_cons_succ, List.getElem_cons_zero, List.setIfInBounds_toArray, List.set_cons_zero, List.set_cons_succ]
                      refine wpAnyH_take (i := 20) (v := undef) rfl (by kernel_rfl) (by kernel_rfl) (by kernel_rfl) (fun _ _ _ h => h) (Or.inr ⟨by kernel_rfl, rfl⟩) (by assumption) ?_
                      try simp only [Act.put, List.getElem_toArray, List.getElem_cons_succ, List.getElem_cons_zero, List.setIfInBounds_toArray, List.set_cons_zero, List.set_cons_succ]
                      refine wpAnyH_take (i := 21) (v := undef) rfl (by kernel_rfl) (by kernel_rfl) (by kernel_rfl) (fun _ _ _ h => h) (Or.inr ⟨by kernel_rfl, rfl⟩) (by assumption) ?_
                      try simp only [Act.put, List.getElem_toArray, List.getElem_cons_succ, List.getElem_cons_zero, List.setIfInBounds_toArray, List.set_cons_zero, List.set_cons_succ]
                      refine wpAnyH_take (i := 22) (v := undef) rfl (by kernel_rfl) (by kernel_rfl) (by kernel_rfl) (fun _ _ _ h => h) (Or.inr ⟨by kernel_rfl, rfl⟩) (by assumption) ?_
                      try simp only [Act.put, List.getElem_toArray, List.getElem_cons_succ, List.getElem_cons_zero, List.setIfInBounds_toArray, List.set_cons_zero, List.set_cons_succ]
                      refine wpAnyH_take (i := 23) (v := undef) rfl (by kernel_rfl) (by kernel_rfl) (by kernel_rfl) (fun _ _ _ h => h) (Or.inr ⟨by kernel_rfl, rfl⟩) (by assumption) ?_
                      try simp only [Act.put, List.getElem_toArray, List.getElem_cons_succ, List.getElem_cons_zero, List.setIfInBounds_toArray, List.set_cons_zero, List.set_cons_succ]
                      refine wpAnyH_take (i := 24) (v := undef) rfl (by kernel_rfl) (by kernel_rfl) (by kernel_rfl) (fun _ _ _ h => h) (Or.inr ⟨by kernel_rfl, rfl⟩) (by assumption) ?_
                      try simp only [Act.put, List.getElem_toArray, List.getElem_cons_succ, List.getElem_cons_zero, List.setIfInBounds_toArray, List.set_cons_zero, List.set_cons_succ]
                      refine wpAnyH_take (i := 25) (v := undef) rfl (by kernel_rfl) (by kernel_rfl) (by kernel_rfl) (fun _ _ _ h => h) (Or.inr ⟨by kernel_rfl, rfl⟩) (by assumption) ?_
                      try simp only [Act.put, List.getElem_toArray, List.getElem_cons_succ, List.getElem_cons_zero, List.setIfInBounds_toArray, List.set_cons_zero, List.set_cons_succ]
                      refine wpAnyH_take (i := 26) (v := undef) rfl (by kernel_rfl) (by kernel_rfl) (by kernel_rfl) (fun _ _ _ h => h) (Or.inr ⟨by kernel_rfl, rfl⟩) (by assumption) ?_
                      try simp only [Act.put, List.getElem_toArray, List.getElem_cons_succ, List.getElem_cons_zero, List.setIfInBounds_toArray, List.set_cons_zero, List.set_cons_succ]
                      refine wpAnyH_take (i := 27) (v := undef) rfl (by kernel_rfl) (by kernel_rfl) (by kernel_rfl) (fun _ _ _ h => h) (Or.inr ⟨by kernel_rfl, rfl⟩) (by assumption) ?_
                      try simp only [Act.put, List.getElem_toArray, List.getElem_cons_succ, List.getElem_cons_zero, List.setIfInBounds_toArray, List.set_cons_zero, List.set_cons_succ]
                      refine wpAnyH_take (i := 28) (v := undef) rfl (by kernel_rfl) (by kernel_rfl) (by kernel_rfl) (fun _ _ _ h => h) (Or.inr ⟨by kernel_rfl, rfl⟩) (by assumption) ?_
                      try simp only [Act.put, List.getElem_toArray, List.getElem_cons_succ, List.getElem_cons_zero, List.setIfInBounds_toArray, List.set_cons_zero, List.set_cons_succ]
                      refine wpAnyH_take (i := 29) (v := undef) rfl (by kernel_rfl) (by kernel_rfl) (by kernel_rfl) (fun _ _ _ h => h) (Or.inr ⟨by kernel_rfl, rfl⟩) (by assumption) ?_
                      try simp only [Act.put, List.getElem_toArray, List.getElem_cons_succ, List.getElem_cons_zero, List.setIfInBounds_toArray, List.set_cons_zero, List.set_cons_succ]
                      refine wpAnyH_take (i := 30) (v := .bool false) rfl (by kernel_rfl) (by kernel_rfl) (by kernel_rfl) (fun _ _ _ h => h) (Or.inl ⟨by kernel_rfl, ?_⟩) (by assumption) ?_
                      · intro w hSw; (try dsimp only at hSw); obtain ⟨s1, s2, s3, s4⟩ := hSw; first | (go_simp; done) | (go_simp; rfl)
                      try simp only [Act.put, List.getElem_toArray, List.getElem_cons_succ, List.getElem_cons_zero, List.setIfInBounds_toArray, List.set_cons_zero, List.set_cons_succ]
                      refine wpAnyH_take (i := 31) (v := .bool false) rfl (by kernel_rfl) (by kernel_rfl) (by kernel_rfl) (fun _ _ _ h => h) (Or.inl ⟨by kernel_rfl, ?_⟩) (by assumption) ?_
                      · intro w hSw; (try dsimp only at hSw); obtain ⟨s1, s2, s3, s4⟩ := hSw; first | (go_simp; done) | (go_simp; rfl)
                      try simp only [Act.put, List.getElem_toArray, List.getElem_cons_succ, List.getElem_cons_zero, List.setIfInBounds_toArray, List.set_cons_zero, List.set_cons_succ]
                      refine wpAnyH_done (by kernel_rfl) ?_ _
                      all_goals
                        go_wp2_with fail
                        go_meet
                        exact ⟨by simp, by repeat (first | exact K1.out | refine Below.drew ?_ | refine below_drewN ?_ _)⟩
                case rest =>
                  obtain ⟨rfl, hb⟩ := hcut
                  have HF := Lib.hid (HP.out _ hb)
                  clear hb m1 r1 m2 r2
                  go_wp2_with fail
                  go_roundg (gk - 1)
                  case measure => omega
                  case rel => exact ⟨i + 1, by omega, by go_num, cs', HF.out⟩
        · have hk2 : i = K := by omega
          subst hk2
          by_cases hkl : i < len
          · have hk60 : i = 150 := by have := HK.out; omega
            subst hk60
            go_wp2_with fail
            exact ⟨rfl, .bool true, by simp [results, Try.results7, go_sem], rfl, HB.out.be⟩
          · have hkl : i = len := by omega
            subst hkl
            go_wp2_with fail
            exact ⟨rfl, .bool true, by simp [results, Try.results7, go_sem], rfl, HB.out.be⟩
end Go.Proofs.Ytinjkjgahipimaa
