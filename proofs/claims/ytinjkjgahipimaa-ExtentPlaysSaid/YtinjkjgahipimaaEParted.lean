/-
  Are the blocks of a map parted: the walk.
-/
import Derived.Test.YtinjkjgahipimaaEPart2
set_option linter.unusedVariables false
namespace Go.Proofs.Ytinjkjgahipimaa
open Go.RowKit

theorem TakP_nat (s : St) (n : Nat) (h : n < s.l.length) : TakP s (n : Int) = (decide (s.f ≤ n) && (s.l.getD n 0 != 0)) := by
  unfold TakP
  have e1 : decide ((n : Int) < (s.l.length : Int)) = true := decide_eq_true (by omega)
  have e2 : decide ((s.f : Int) ≤ (n : Int)) = decide (s.f ≤ n) := by
    by_cases hh : s.f ≤ n
    · rw [decide_eq_true hh, decide_eq_true (by omega)]
    · rw [decide_eq_false hh, decide_eq_false (by omega)]
  rw [e1, e2, Int.toNat_natCast, Bool.true_and]
  by_cases hv : s.l.getD n 0 = 0
  · rw [hv]; rfl
  · have h1 : (((s.l.getD n 0 : Nat) : Int) != 0) = true := by rw [bne_iff_ne]; omega
    have h2 : (s.l.getD n 0 != 0) = true := by rw [bne_iff_ne]; exact hv
    rw [h1, h2]
/-- a list of extents read in a later world -/
theorem ExR.at_ {w : World} {A : Option Addr} {xs : List (Nat × Nat)} (h : ExR w A xs) {i : Nat} (hi : i < xs.length) :
    ∃ g, A = some ⟨g, 0, none⟩ ∧ ∀ w', Below w.heap.size w w' → w'.cell? ⟨g, i * 2, none⟩ = some (.int .i64 (xs.getD i (0, 0)).1) ∧ w'.cell? ⟨g, i * 2 + 1, none⟩ = some (.int .i64 (xs.getD i (0, 0)).2) := by
  obtain ⟨g, rfl, h1, h2⟩ := h i hi
  exact ⟨g, rfl, fun w' hb => ⟨(hb.cell (World.block_lt_of_cell? w _ h1)).trans h1, (hb.cell (World.block_lt_of_cell? w _ h2)).trans h2⟩⟩
theorem ExR.at2 {F : Nat → Prop} {w : World} {A : Option Addr} {xs : List (Nat × Nat)} (h : ExR w A xs) (hF : ∀ g, A = some ⟨g, 0, none⟩ → ¬ F g) {i : Nat} (hi : i < xs.length) :
    ∃ g, A = some ⟨g, 0, none⟩ ∧ ∀ w', Only F w w' → w'.cell? ⟨g, i * 2, none⟩ = some (.int .i64 (xs.getD i (0, 0)).1) ∧ w'.cell? ⟨g, i * 2 + 1, none⟩ = some (.int .i64 (xs.getD i (0, 0)).2) := by
  obtain ⟨g, rfl, h1, h2⟩ := h i hi
  exact ⟨g, rfl, fun w' hb => ⟨(hb.cell (World.block_lt_of_cell? w _ h1) (hF g rfl)).trans h1, (hb.cell (World.block_lt_of_cell? w _ h2) (hF g rfl)).trans h2⟩⟩

set_option maxRecDepth 100000 in
set_option maxHeartbeats 4000000 in
theorem parted_any (h : Nat) (S : Nat → Prop) (s : St) (own : List (Nat × Nat)) (M c N f : Nat) (A : Option Addr) (w : World) (m : Mp w h S s) (cv : Cov s own) (hx : ExR w A own) (hM : own.length = M) (hM4 : M ≤ 4096)
    (hf : s.f = f) (hN : s.l.length = N) :
    Calls Try.prog 19 #[.pointer (some ⟨h, 0, none⟩), .slice A M c, .int .i64 f, .int .i64 N] w fun e w' => e = .returned (.bool true) ∧ Below w.heap.size w w' := by
  obtain ⟨i0, hi, hz0, hz1, hz2⟩ := info_parts info3
  have hN4 : N ≤ 4096 := by have := cv.ok.le; omega
  have hfN : f ≤ N := by have := cv.ok.fl; omega
  obtain ⟨B, hB⟩ : ∃ B, B = w.heap.size := ⟨_, rfl⟩
  have HH := Lib.hid (And.intro m (And.intro cv (And.intro hx (And.intro hM (And.intro hf (And.intro hN hB))))))
  clear m cv hx hM hf hN hB
  go_enter Try.func19, Try.ntmps19
  go_wp2_with (refine wpList_make_full _ rfl (.tmp 19) (.tmp 19) 55 rfl w.heap.size 3 i0 (.int .i64 0) 1 Try.underlying55 hi hz0 hz1 .i64 .i64 _ _ N rfl rfl rfl rfl ?m1 ?m2 ?m3 ?_)
  case m1 => rw [hz2]; omega
  case m2 => unfold maxLen; omega
  case m3 => exact Nat.le_refl _
  intro w1 hown1 hgrow1
  have hbel1 : Below w.heap.size w w1 := (Below.refl _ w).grown hgrow1 (Nat.le_refl _) (by simp)
  rw [toList_madeCells_one, i64s_replicate, ← HH.out.2.2.2.2.2.2] at hown1
  have hmk : Mk w1 B B N (fun _ => 0) := ⟨by
    have e : List.replicate N 0 = (List.range N).map (fun _ => 0) := by rw [List.map_const', List.length_range]
    rw [← e]; exact hown1, Nat.le_refl _⟩
  rw [← HH.out.2.2.2.2.2.2]
  have H1 := Lib.hid (And.intro hmk hbel1)
  clear hown1 hgrow1 hmk hbel1
  go_wp2_with fail
  go_loopg [10] M (fun gg v10 wr => ∃ i : Nat, i + gg = M ∧ v10 = .int .i64 i ∧ ∃ φ : Nat → Nat, Mk wr B B N φ ∧ (∀ p, p < N → φ p = cov (own.take i) p) ∧ Below w.heap.size w wr)
  case atStart => exact ⟨0, by omega, rfl, _, H1.out.1, (fun p hp => by rw [List.take_zero, cov_nil]), H1.out.2⟩
  case round =>
    obtain ⟨i, hi1, rfl, φ, hmk, hφ, hbel⟩ := hrel
    have HI := Lib.hid (And.intro hmk (And.intro hφ hbel))
    clear hmk hφ hbel
    by_cases hiM : i < M
    · have hio : i < own.length := by have := HH.out.2.2.2.1; omega
      obtain ⟨g, rfl, hcells⟩ := HH.out.2.2.1.at_ hio
      have hmem : own.getD i (0, 0) ∈ own := by rw [List.getD, List.getElem?_eq_getElem hio]; exact List.getElem_mem hio
      obtain ⟨x1, x2, x3⟩ := HH.out.2.1.ext _ hmem
      have hfree := fun p => cov_le_take (p := p) hio HH.out.2.1.one
      have hsucc := fun p => cov_take_succ hio p
      have hone := fun p => cov_mem (i := p) hmem
      rw [HH.out.2.2.2.2.1] at x2
      rw [HH.out.2.2.2.2.2.1] at x3
      obtain ⟨x, hxe⟩ : ∃ x, x = own.getD i (0, 0) := ⟨_, rfl⟩
      rw [← hxe] at hcells x1 x2 x3 hfree hsucc hone
      obtain ⟨xa, xb⟩ := x
      simp only at hcells x1 x2 x3 hfree hsucc hone
      have HX := Lib.hid (And.intro hcells (And.intro hfree (And.intro hsucc hone)))
      clear hcells hfree hsucc hone hmem hxe hio
      go_wp2_with fail
      go_loopg [11] xb (fun gg v11 wk => ∃ k : Nat, k + gg = xb ∧ v11 = .int .i64 k ∧ ∃ φ : Nat → Nat, Mk wk B B N φ ∧ (∀ p, p < N → φ p = cov (own.take i) p + if xa ≤ p ∧ p < xa + k then 1 else 0) ∧ Below w.heap.size w wk)
      case atStart => exact ⟨0, by omega, rfl, _, HI.out.1, (fun p hp => by rw [HI.out.2.1 p hp, if_neg (by omega)]; rfl), HI.out.2.2⟩
      case round =>
        obtain ⟨k, hk1, rfl, ψ, hmk, hψ, hbel⟩ := hrel
        obtain ⟨c0, c1⟩ := HX.out.1 _ hbel
        have HK := Lib.hid (And.intro hmk (And.intro hψ hbel))
        clear hmk hψ hbel
        by_cases hkx : k < xb
        · obtain ⟨n, hn⟩ : ∃ n, n = xa + k := ⟨_, rfl⟩
          have hni : (xa : Int) + (k : Int) = (n : Int) := by omega
          have hnN : n < N := by omega
          have hfn : f ≤ n := by omega
          have hz : ψ n = 0 := by rw [HK.out.2.1 n hnN, if_neg (by omega), HX.out.2.1 n (by omega) (by omega)]
          have cn := HK.out.1.cell hnN
          rw [hz] at cn
          have fn := HK.out.1.frozen n
          have htk := taken_any h S s n _ (HH.out.1.below HK.out.2.2) (by have := HH.out.2.1.ok.le; omega)
          have htp : TakP s (n : Int) = true := by
            rw [TakP_nat s n (by rw [HH.out.2.2.2.2.2.1]; exact hnN), HH.out.2.1.st n (by rw [HH.out.2.2.2.2.2.1]; exact hnN), HH.out.2.2.2.2.1, decide_eq_true hfn]
            have := HX.out.2.2.2 n (by omega) (by omega)
            simp; omega
          rw [htp] at htk
          have HT := Lib.hid htk
          have HN := Lib.hid hn
          clear htk htp hz hn
          go_wp2_with fail
          refine HT.out.mono ?_
          rintro e w2 ⟨rfl, rfl⟩
          go_wp2_with fail
          go_roundg (gk - 1)
          case measure => omega
          case rel =>
            refine ⟨k + 1, by omega, by go_num, _, HK.out.1.set n 1, fun p hp => ?_, HK.out.2.2.setCell (p := ⟨B, n, none⟩) (Nat.le_of_eq HH.out.2.2.2.2.2.2.symm) _⟩
            have hnn := HN.out
            by_cases hpn : p = n
            · subst hpn
              rw [if_pos rfl, if_pos (by omega), HX.out.2.1 p (by omega) (by omega)]
            · rw [if_neg hpn, HK.out.2.1 p hp]
              by_cases h3 : xa ≤ p ∧ p < xa + k
              · rw [if_pos h3, if_pos (by omega)]
              · rw [if_neg h3, if_neg (by omega)]
        · have hkx : k = xb := by omega
          subst hkx
          go_wp2_with fail
          go_roundg (M - i - 1)
          case measure => omega
          case rel => exact ⟨i + 1, by omega, by go_num, _, HK.out.1, (fun p hp => by rw [HK.out.2.1 p hp, HX.out.2.2.1 p]), HK.out.2.2⟩
    · have hiM : i = M := by omega
      subst hiM
      have hall : own.take i = own := List.take_of_length_le (by have := HH.out.2.2.2.1; omega)
      have HI2 : Hid (∀ p, p < N → _) := fun p hp => by
        have := HI.out.2.1 p hp
        rw [hall, ← HH.out.2.1.st p (by rw [HH.out.2.2.2.2.2.1]; exact hp)] at this
        exact this
      clear hall
      go_wp2_with fail
      have hHbel := HI.out.2.2
      refine (spacesC_any h S s _ (HH.out.1.below hHbel) HH.out.2.1.ok).mono ?_
      rintro e w3 ⟨u, rfl, hown3, hb3⟩
      obtain ⟨sp, hsp⟩ : ∃ sp, sp = spc s.l s.f := ⟨_, rfl⟩
      rw [← hsp] at hown3
      obtain ⟨A3, c3, rfl, hx3, hg3⟩ := own_shapeE hown3
      obtain ⟨Q, hQ⟩ : ∃ Q, Q = sp.length := ⟨_, rfl⟩
      rw [← hQ]
      have hQN : Q ≤ N := by have := spc_length s.l s.f; have := HH.out.2.2.2.2.2.1; rw [hQ, hsp]; omega
      have HF3 : Hid ((∀ g, A3 = some ⟨g, 0, none⟩ → ¬ g = B) ∧ ∀ w', Only (fun k => k = B) w3 w' → Below w.heap.size w w') := by
        refine ⟨fun g hg e => ?_, fun w' ho => below_of_only (below_step hHbel hb3) ho (fun i e => ?_)⟩
        · have h1 := (hg3 g hg).1
          have h2 := (HI.out.1.1.lt B rfl).2
          omega
        · have := HH.out.2.2.2.2.2.2
          have e2 : i = B := e
          omega
      clear hg3
      have H3 := Lib.hid (And.intro hx3 (And.intro hsp (And.intro hQ (And.intro (HI.out.1.below hb3) (And.intro hb3 (below_step hHbel hb3))))))
      clear hx3 hsp hQ hb3 hown3 hHbel
      go_wp2_with fail
      go_loopg [14, 15] Q (fun gg v14 v15 wr => ∃ i : Nat, i + gg = Q ∧ v15 = .int .i64 i ∧ v14 = .int .i64 (lenS (sp.take i) : Nat) ∧ ∃ φ : Nat → Nat, Mk wr B B N φ ∧ (∀ p, p < N → φ p = s.l.getD p 0 + 2 * cov (sp.take i) p) ∧ Only (fun k => k = B) w3 wr)
      case atStart => exact ⟨0, by omega, rfl, rfl, _, H3.out.2.2.2.1, (fun p hp => by rw [HI2.out p hp, List.take_zero, cov_nil]; omega), Only.refl _ _⟩
      case round =>
        obtain ⟨i, hi1, rfl, rfl, φ, hmk, hφ, hbel⟩ := hrel
        have HJ := Lib.hid (And.intro hmk (And.intro hφ hbel))
        clear hmk hφ hbel
        by_cases hiQ : i < Q
        · have hio : i < sp.length := by have := H3.out.2.2.1; omega
          obtain ⟨g, rfl, hcells⟩ := H3.out.1.at2 HF3.out.1 hio
          have hmem : sp.getD i (0, 0) ∈ spc s.l s.f := by rw [← H3.out.2.1, List.getD, List.getElem?_eq_getElem hio]; exact List.getElem_mem hio
          obtain ⟨x1, x2, x3, x4⟩ := spc_in hmem
          have hfree : ∀ p, (sp.getD i (0, 0)).1 ≤ p → cov (sp.take i) p = 0 := fun p hp => by
            have hio' := hio
            rw [H3.out.2.1] at hio' hp ⊢
            exact spc_fresh hio' hp
          have hsucc := fun p => cov_take_succ hio p
          have hlen := lenS_take_succ hio
          have hlen2 : lenS (sp.take (i + 1)) ≤ N := by
            have h1 := lenS_spaces s.l s.f
            have h2 := room_le s.l s.f
            have h3 : lenS sp = lenS (sp.take (i + 1)) + lenS (sp.drop (i + 1)) := by rw [← lenS_append, List.take_append_drop]
            rw [← H3.out.2.1] at h1
            have h4 := HH.out.2.2.2.2.2.1
            omega
          have hz0 : ∀ p, (sp.getD i (0, 0)).1 ≤ p → p < (sp.getD i (0, 0)).1 + (sp.getD i (0, 0)).2 → s.l.getD p 0 = 0 := fun p h1 h2 => by
            have := fr_zero (l := s.l) (n := (sp.getD i (0, 0)).1) (j := p - (sp.getD i (0, 0)).1) (by omega)
            rwa [show (sp.getD i (0, 0)).1 + (p - (sp.getD i (0, 0)).1) = p by omega] at this
          have hgap : ∀ j, i = j + 1 → (sp.getD j (0, 0)).1 + (sp.getD j (0, 0)).2 < (sp.getD i (0, 0)).1 := fun j hj => by
            have hio' := hio
            rw [H3.out.2.1] at hio' ⊢
            exact pair_at (spc_pair s.l _ s.f (Nat.le_refl _)) (by omega) hio'
          have hprev : ∀ j, i = j + 1 → ∀ w', Only (fun k => k = B) w3 w' → w'.cell? ⟨g, j * 2, none⟩ = some (.int .i64 (sp.getD j (0, 0)).1) ∧ w'.cell? ⟨g, j * 2 + 1, none⟩ = some (.int .i64 (sp.getD j (0, 0)).2) := fun j hj => by
            obtain ⟨g', e, hc⟩ := H3.out.1.at2 HF3.out.1 (i := j) (by omega)
            obtain rfl : g = g' := by simpa using e
            exact hc
          rw [HH.out.2.2.2.2.1] at x1
          rw [HH.out.2.2.2.2.2.1] at x3
          obtain ⟨x, hxe⟩ : ∃ x, x = sp.getD i (0, 0) := ⟨_, rfl⟩
          rw [← hxe] at hcells x1 x2 x3 hfree hlen
          simp only [← hxe] at hsucc hz0 hgap
          obtain ⟨xa, xb⟩ := x
          obtain ⟨R, hR⟩ : ∃ R, R = lenS (sp.take i) := ⟨_, rfl⟩
          simp only at hcells x1 x2 x3 hfree hsucc hlen hz0 hgap
          rw [← hR] at hlen
          have hRN : R + xb ≤ N := by omega
          have HX := Lib.hid (And.intro hcells (And.intro hfree (And.intro hsucc (And.intro hlen (And.intro hz0 (And.intro hgap hprev))))))
          rw [← hR]
          have HR := Lib.hid hR
          clear hcells hfree hsucc hlen hz0 hgap hprev hmem hxe hio hlen2 x4 hR
          go_upto_region 17 with fail
          go_cut [105] (fun v105 wx => v105 = .bool false ∧ ∃ nd, wx = wr.drewN nd)
          case first =>
            obtain ⟨c0, c1⟩ := HX.out.1 _ HJ.out.2.2
            have hd1 : decide ((xb : Int) < 1) = false := decide_eq_false (by omega)
            have hd2 : decide (xb < 1) = false := decide_eq_false (by omega)
            rcases Nat.eq_zero_or_pos i with hi0 | hi0
            · have hd3 : decide ((0 : Int) < (i : Int)) = false := decide_eq_false (by omega)
              have hd4 : decide (0 < i) = false := decide_eq_false (by omega)
              clear hi0
              go_quiet (fail)
              go_wp2_with fail
              go_meet
              exact ⟨rfl, _, rfl⟩
            · obtain ⟨j, hj⟩ : ∃ j, j = i - 1 := ⟨_, rfl⟩
              have hij : (i : Int) - 1 = (j : Int) := by omega
              have hd3 : decide ((0 : Int) < (i : Int)) = true := decide_eq_true (by omega)
              have hd4 : decide (0 < i) = true := decide_eq_true (by omega)
              have hgj := HX.out.2.2.2.2.2.1 j (by omega)
              obtain ⟨d0, d1⟩ := HX.out.2.2.2.2.2.2 j (by omega) _ HJ.out.2.2
              have hjQ : j < Q := by omega
              obtain ⟨y, hye⟩ : ∃ y, y = sp.getD j (0, 0) := ⟨_, rfl⟩
              rw [← hye] at hgj d0 d1
              obtain ⟨ya, yb⟩ := y
              simp only at hgj d0 d1
              obtain ⟨z, hz⟩ : ∃ z, z = ya + yb := ⟨_, rfl⟩
              have hzi : (ya : Int) + (yb : Int) = (z : Int) := by omega
              have hd5 : decide ((xa : Int) ≤ (z : Int)) = false := decide_eq_false (by omega)
              have hd6 : decide (xa ≤ z) = false := decide_eq_false (by omega)
              have hzN : z ≤ N := by omega
              clear hye hj hgj hz hi0
              go_quiet (fail)
              go_wp2_with fail
              go_meet
              exact ⟨rfl, _, rfl⟩
          case rest =>
            obtain ⟨rfl, nd, rfl⟩ := hcut
            have HD : Hid (Mk (wr.drewN nd) B B N φ ∧ Only (fun k => k = B) w3 (wr.drewN nd)) := ⟨HJ.out.1.below (below_drewN (Below.refl _ _) nd), HJ.out.2.2.drewN nd⟩
            go_wp2_with fail
            go_loopg [14, 16] xb (fun gg v14 v16 wk => ∃ k : Nat, k + gg = xb ∧ v16 = .int .i64 k ∧ v14 = .int .i64 ((R + k : Nat) : Int) ∧ ∃ ψ : Nat → Nat, Mk wk B B N ψ ∧ (∀ p, p < N → ψ p = s.l.getD p 0 + 2 * cov (sp.take i) p + 2 * (if xa ≤ p ∧ p < xa + k then 1 else 0)) ∧ Only (fun k => k = B) w3 wk)
            case atStart => exact ⟨0, by omega, rfl, rfl, _, HD.out.1, (fun p hp => by rw [HJ.out.2.1 p hp, if_neg (by omega)]; omega), HD.out.2⟩
            case round =>
              obtain ⟨k, hk1, rfl, rfl, ψ, hmk, hψ, hbel⟩ := hrel
              obtain ⟨c0, c1⟩ := HX.out.1 _ hbel
              have HK := Lib.hid (And.intro hmk (And.intro hψ hbel))
              clear hmk hψ hbel
              obtain ⟨T, hT⟩ : ∃ T, T = R + k := ⟨_, rfl⟩
              rw [← hT]
              have hTN : T ≤ R + xb := by omega
              by_cases hkx : k < xb
              · obtain ⟨n, hn⟩ : ∃ n, n = xa + k := ⟨_, rfl⟩
                have hni : (xa : Int) + (k : Int) = (n : Int) := by omega
                have hnN : n < N := by omega
                have hfn : f ≤ n := by omega
                have hz : ψ n = 0 := by rw [HK.out.2.1 n hnN, if_neg (by omega), HX.out.2.1 n (by omega), HX.out.2.2.2.2.1 n (by omega) (by omega)]
                have cn := HK.out.1.cell hnN
                rw [hz] at cn
                have fn := HK.out.1.frozen n
                have htk := taken_any h S s n _ (HH.out.1.below (HF3.out.2 _ HK.out.2.2)) (by have := HH.out.2.1.ok.le; omega)
                have htp : TakP s (n : Int) = false := by
                  rw [TakP_nat s n (by rw [HH.out.2.2.2.2.2.1]; exact hnN), HX.out.2.2.2.2.1 n (by omega) (by omega)]
                  simp
                rw [htp] at htk
                have HT := Lib.hid htk
                have HN := Lib.hid hn
                have HTT := Lib.hid hT
                clear htk htp hz hn hT
                go_wp2_with fail
                refine HT.out.mono ?_
                rintro e w4 ⟨rfl, rfl⟩
                go_wp2_with fail
                go_roundg (xb - k - 1)
                case measure => omega
                case rel =>
                  refine ⟨k + 1, by omega, by go_num, by rw [HTT.out]; go_num, _, HK.out.1.set n 2, fun p hp => ?_, HK.out.2.2.setCell (p := ⟨B, n, none⟩) (.inl rfl) _⟩
                  have hnn := HN.out
                  by_cases hpn : p = n
                  · subst hpn
                    rw [if_pos rfl, if_pos (by omega), HX.out.2.1 p (by omega), HX.out.2.2.2.2.1 p (by omega) (by omega)]
                  · rw [if_neg hpn, HK.out.2.1 p hp]
                    by_cases h3 : xa ≤ p ∧ p < xa + k
                    · rw [if_pos h3, if_pos (by omega)]
                    · rw [if_neg h3, if_neg (by omega)]
              · have hkx : k = xb := by omega
                subst hkx
                have HTT := Lib.hid hT
                clear hT
                go_wp2_with fail
                go_roundg (Q - i - 1)
                case measure => omega
                case rel => exact ⟨i + 1, by omega, by go_num, by rw [HX.out.2.2.2.1, HTT.out], _, HK.out.1, (fun p hp => by rw [HK.out.2.1 p hp, HX.out.2.2.1 p]; omega), HK.out.2.2⟩
        · have hiQ : i = Q := by omega
          subst hiQ
          have hall : sp.take i = sp := List.take_of_length_le (by have := H3.out.2.2.1; omega)
          have hsum : lenS sp = room s.l f := by rw [H3.out.2.1, lenS_spaces, HH.out.2.2.2.2.1]
          have HF : Hid (∀ p, f ≤ p → p < N → ∃ v, 0 < v ∧ φ p = v) := fun p h1 h2 => by
            refine ⟨_, ?_, rfl⟩
            have e := HJ.out.2.1 p h2
            rw [hall] at e
            by_cases h0 : s.l.getD p 0 = 0
            · obtain ⟨x, hx, hx1, hx2⟩ := spc_cover s.l _ s.f (Nat.le_refl _) p (by rw [HH.out.2.2.2.2.1]; exact h1) (by rw [HH.out.2.2.2.2.2.1]; exact h2) h0
              rw [← H3.out.2.1] at hx
              have := cov_mem hx hx1 hx2
              omega
            · omega
          rw [hall, hsum]
          obtain ⟨R, hR⟩ : ∃ R, R = room s.l f := ⟨_, rfl⟩
          rw [← hR]
          have HR := Lib.hid hR
          clear hall hsum hR
          go_wp2_with fail
          go_loopg [18] (N - f) (fun gg v18 wk => ∃ p : Nat, p + gg = N ∧ f ≤ p ∧ v18 = .int .i64 p ∧ wk = wr)
          case atStart => exact ⟨f, by omega, Nat.le_refl _, rfl, rfl⟩
          case round =>
            obtain ⟨p, hp1, hfp, rfl, rfl⟩ := hrel
            by_cases hpN : p < N
            · obtain ⟨v, hv0, hv⟩ := HF.out p hfp hpN
              have cn := HJ.out.1.cell hpN
              rw [hv] at cn
              have hne : ((v : Int) == 0) = false := by rw [beq_eq_false_iff_ne]; omega
              clear hv
              go_wp2_with fail
              go_roundg (N - p - 1)
              case measure => omega
              case rel => exact ⟨p + 1, by omega, by omega, by go_num, rfl⟩
            · have hroom := room_any h S s _ (HH.out.1.below (HF3.out.2 _ HJ.out.2.2)) HH.out.2.1.ok
              rw [HH.out.2.2.2.2.1, ← HR.out] at hroom
              have HM := Lib.hid hroom
              clear hroom
              go_wp2_with fail
              refine HM.out.mono ?_
              rintro e w5 ⟨rfl, hb⟩
              have HB := Lib.hid (below_step (HF3.out.2 _ HJ.out.2.2) hb)
              clear hb
              go_wp2_with fail
              exact ⟨rfl, .bool true, by simp [results, Try.results19, go_sem], rfl, HB.out⟩
end Go.Proofs.Ytinjkjgahipimaa
