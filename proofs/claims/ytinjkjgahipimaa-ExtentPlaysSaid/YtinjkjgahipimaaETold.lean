/-
  told: all that a map tells, twice.
-/
import Derived.Test.YtinjkjgahipimaaERef
import Derived.Test.YtinjkjgahipimaaESrc
import Derived.Deep.DeepCutAuto
set_option linter.unusedVariables false
namespace Go.Proofs.Ytinjkjgahipimaa
open Go.RowKit

theorem ExR.only {F : Nat → Prop} {w w' : World} {A : Option Addr} {xs : List (Nat × Nat)} (h : ExR w A xs) (ho : Only F w w') (hF : ∀ g, A = some ⟨g, 0, none⟩ → ¬ F g) : ExR w' A xs := by
  intro i hi
  obtain ⟨g, rfl, h1, h2⟩ := h i hi
  have hn := hF g rfl
  exact ⟨g, rfl, (ho.cell (World.block_lt_of_cell? w _ h1) hn).trans h1, (ho.cell (World.block_lt_of_cell? w _ h2) hn).trans h2⟩
theorem ExR.below {w w' : World} {A : Option Addr} {xs : List (Nat × Nat)} (h : ExR w A xs) (hb : Below w.heap.size w w') : ExR w' A xs := h.only (F := fun _ => False) (Only.of_below hb) (fun _ _ => id)
theorem below_step {a b c : World} (h : Below a.heap.size a b) (k : Below b.heap.size b c) : Below a.heap.size a c := h.trans (k.mono h.size)
theorem own_shapeE {w : World} {base : Nat} {v : Value} {n : Nat} {xs : List (Nat × Nat)} (h : w.ownsRow base 39 2 v n (exs xs)) : ∃ A c, v = .slice A n c ∧ ExR w A xs ∧ ∀ g, A = some ⟨g, 0, none⟩ → base ≤ g ∧ g < w.heap.size := by
  obtain ⟨A, c, rfl⟩ := own_shapeZ h
  exact ⟨A, c, rfl, ExR.own h, fun g hg => h.lt g (by rw [hg]; rfl)⟩
/-- a row of extents, whatever they are -/
theorem row_two {w : World} {g c N i : Nat} {vs : List Value} (h : w.ownsRow 0 39 2 (.slice (some ⟨g, 0, none⟩) N c) N vs) (hi : i < N) :
    (∃ u, w.cell? ⟨g, i * 2, none⟩ = some u) ∧ (∃ u, w.cell? ⟨g, i * 2 + 1, none⟩ = some u) := by
  have hl := h.1
  exact ⟨⟨_, (h.cellAt (i * 2) (by omega)).trans (List.getElem?_eq_getElem (by omega))⟩, ⟨_, (h.cellAt (i * 2 + 1) (by omega)).trans (List.getElem?_eq_getElem (by omega))⟩⟩

theorem below_step' {a b c : World} (h : Below a.heap.size a b) (k : Below b.heap.size b c) : Below a.heap.size a c := below_step h k
theorem own_baseE {w w' : World} {base n : Nat} {v : Value} {xs : List Value} (h : w.ownsRow base 39 2 v n xs) (hb : Below w.heap.size w w') : w'.ownsRow 0 39 2 v n xs := own_base (own_only h (Only.of_below (F := fun _ => False) hb) (fun _ _ => id))
theorem mkK {w3 y : World} {hr : Nat} {b : Bool} {Q R : World → Prop} (hP : ∀ w', Below w3.heap.size w3 w' → Q w' ∧ R w' ∧ w'.cell? ⟨hr, 4, none⟩ = some (.bool b)) (hq : Below w3.heap.size w3 y) :
    Hid (Below w3.heap.size w3 y ∧ y.cell? ⟨hr, 4, none⟩ = some (.bool b)) := ⟨hq, (hP y hq).2.2⟩

set_option maxRecDepth 100000 in
set_option maxHeartbeats 2000000 in
theorem told_any (hm hr : Nat) (Sm Sr : Nat → Prop) (s : St) (w : World) (m : Mp w hm Sm s) (r : Rm w hr Sr s) (ok : s.Ok) :
    Calls Try.prog 11 #[.pointer (some ⟨hm, 0, none⟩), .pointer (some ⟨hr, 0, none⟩)] w fun e w' => e = .returned (.bool true) ∧ Below w.heap.size w w' := by
  obtain ⟨i0, hi, hz0, hz1, hz2⟩ := info_parts info39
  have HM := Lib.hid (And.intro m (And.intro r ok))
  clear m r ok
  have hNl := spc_length s.l s.f
  have hNle := HM.out.2.2.le
  obtain ⟨xs, hxs⟩ : ∃ xs, xs = spc s.l s.f := ⟨_, rfl⟩
  obtain ⟨N, hN⟩ : ∃ N, N = xs.length := ⟨_, rfl⟩
  have HN := Lib.hid (And.intro hN hxs)
  have hN4 : N ≤ 4096 := by rw [hN, hxs]; omega
  clear hN hxs hNl hNle
  go_enter Try.func11, Try.ntmps11
  go_wp2_with fail
  refine (rspaces_any hr Sr s w HM.out.2.1 HM.out.2.2).mono ?_
  rintro e w1 ⟨v, rfl, hown, hb1⟩
  rw [← HN.out.2, ← HN.out.1] at hown
  obtain ⟨A1, c1, rfl, hx1, hg1⟩ := own_shapeE hown
  have H1 := Lib.hid (And.intro hx1 (And.intro hg1 hb1))
  clear hown hx1 hg1 hb1
  go_wp2_with fail
  refine (spacesC_any hm Sm s w1 (HM.out.1.below H1.out.2.2) HM.out.2.2).mono ?_
  rintro e w2 ⟨v, rfl, hown, hb2⟩
  rw [← HN.out.2, ← HN.out.1] at hown
  obtain ⟨A2, c2, rfl, hx2, hg2⟩ := own_shapeE hown
  have H2 := Lib.hid (And.intro hx2 (And.intro hg2 (And.intro hb2 hown)))
  clear hown hx2 hg2 hb2
  go_wp2_with fail
  refine (spacesC_any hm Sm s w2 ((HM.out.1.below H1.out.2.2).below H2.out.2.2.1) HM.out.2.2).mono ?_
  rintro e w3 ⟨v, rfl, hown, hb3⟩
  rw [← HN.out.2, ← HN.out.1] at hown
  obtain ⟨A3, c3, rfl, hx3, hg3⟩ := own_shapeE hown
  have H3 := Lib.hid (And.intro hx3 (And.intro hg3 hb3))
  clear hown hx3 hg3 hb3
  have HB := Lib.hid (below_step (below_step H1.out.2.2 H2.out.2.2.1) H3.out.2.2)
  have HE : Hid (ExR w3 A1 xs ∧ ExR w3 A2 xs ∧ ExR w3 A3 xs) := ⟨(H1.out.1.below H2.out.2.2.1).below H3.out.2.2, H2.out.1.below H3.out.2.2, H3.out.1⟩
  have HP : Hid (∀ w', Below w3.heap.size w3 w' → Mp w' hm Sm s ∧ Rm w' hr Sr s ∧ w'.cell? ⟨hr, 4, none⟩ = some (.bool s.op)) := by
    intro w' hb
    have hb' := below_step HB.out hb
    have rr := HM.out.2.1.below hb'
    obtain ⟨A, c, V, hbk, _⟩ := rr.own
    exact ⟨HM.out.1.below hb', rr, by rw [hbk.cell 4]; rfl⟩
  have HSm : Hid (∀ w', Below w3.heap.size w3 w' → Calls Try.prog 21 #[.slice A2 N c2, .slice A1 N c1] w' fun e w'' => e = .returned (.bool true) ∧ ∃ n, w'' = w'.drewN n) := by
    intro w' hb
    rw [HN.out.1]
    exact same_yes A2 A1 c2 c1 xs w' (by rw [← HN.out.1]; omega) (HE.out.2.1.below hb) (HE.out.1.below hb)
  go_upto_region 4 with fail
  go_cut [42] (fun s42 wx => s42 = .bool false ∧ Below w3.heap.size w3 wx)
  case first =>
    have x0 := (HP.out w3 (Below.refl _ _)).2.2
    go_region_held3 (fun w' => w'.cell? ⟨hr, 4, none⟩ = some (.bool s.op)) (first | exact x0 | exact K4.out.2 | exact K3.out.2 | exact K2.out.2 | exact K1.out.2)
      (first
        | (go_at_call 21; refine (HSm.out _ (by repeat (first | exact Below.refl _ _ | refine Below.drew ?_ | refine below_drewN ?_ _))).mono ?_; rintro e w' ⟨rfl, nd, rfl⟩)
        | (go_at_call 25; refine (open_any hm Sm s _ (HP.out _ (by repeat (first | exact Below.refl _ _ | refine Below.drew ?_ | refine below_drewN ?_ _))).1).mono ?_; rintro e w' ⟨rfl, rfl⟩)
        | (go_at_call 20; refine (room_any hm Sm s _ (HP.out _ (by repeat (first | exact Below.refl _ _ | refine Below.drew ?_ | refine below_drewN ?_ _))).1 HM.out.2.2).mono ?_; rintro e y1 ⟨rfl, hb⟩; have K1 := mkK HP.out (below_step (by repeat (first | exact Below.refl _ _ | refine Below.drew ?_ | refine below_drewN ?_ _)) hb); clear hb)
        | (go_at_call 36; refine (rroom_any hr Sr s _ (HP.out _ (by repeat (first | exact K1.out.1 | refine Below.drew ?_ | refine below_drewN ?_ _))).2.1 HM.out.2.2).mono ?_; rintro e w' ⟨rfl, rfl⟩)
        | (go_at_call 12; refine (bits_any hm Sm s _ (HP.out _ (by repeat (first | exact K1.out.1 | refine Below.drew ?_ | refine below_drewN ?_ _))).1 HM.out.2.2).mono ?_; rintro e y2 ⟨rfl, hb⟩; have K2 := mkK HP.out (below_step (by repeat (first | exact K1.out.1 | refine Below.drew ?_ | refine below_drewN ?_ _)) hb); clear hb)
        | (go_at_call 33; refine (rbits_any hr Sr s _ (HP.out _ (by repeat (first | exact K2.out.1 | refine Below.drew ?_ | refine below_drewN ?_ _))).2.1 HM.out.2.2).mono ?_; rintro e y3 ⟨rfl, hb⟩; have K3 := mkK HP.out (below_step (by repeat (first | exact K2.out.1 | refine Below.drew ?_ | refine below_drewN ?_ _)) hb); clear hb))
    all_goals
      go_wp2_with fail
      go_meet
      exact ⟨rfl, by repeat (first | exact K3.out.1 | refine Below.drew ?_ | refine below_drewN ?_ _)⟩
  case rest =>
    obtain ⟨rfl, hcb⟩ := hcut
    have HC : Hid (ExR wc A1 xs ∧ ExR wc A3 xs ∧ wc.ownsRow 0 39 2 (.slice A2 N c2) N (exs xs) ∧ Below w3.heap.size w3 wc) :=
      ⟨HE.out.1.below hcb, HE.out.2.2.below hcb, (own_baseE H2.out.2.2.2 (below_step' H3.out.2.2 hcb)), hcb⟩
    -- which blocks may turn: those of a
    obtain ⟨F, hF⟩ : ∃ F : Nat → Prop, F = fun k => w1.heap.size ≤ k ∧ k < w2.heap.size := ⟨_, rfl⟩
    have HF : Hid ((∀ g, A1 = some ⟨g, 0, none⟩ → ¬ F g) ∧ (∀ g, A3 = some ⟨g, 0, none⟩ → ¬ F g) ∧ (∀ k, F k → w.heap.size ≤ k) ∧ ∀ g, Value.ownBlock (.slice A2 N c2) = some g → F g) := by
      rw [hF]
      refine ⟨fun g hg => ?_, fun g hg => ?_, fun k hk => ?_, fun g hg => ?_⟩
      · have := H1.out.2.1 g hg; omega
      · have := H3.out.2.1 g hg; omega
      · have := H1.out.2.2.size; omega
      · have := H2.out.2.2.2.lt g hg; exact this
    clear hF hcb
    go_wp2_with fail
    go_loopg [8] N (fun gg i wr => ∃ (k : Nat) (vs : List Value), k + gg = N ∧ i = .int .i64 k ∧ wr.ownsRow 0 39 2 (.slice A2 N c2) N vs ∧ Only F wc wr)
    case atStart => exact ⟨0, exs xs, by omega, rfl, HC.out.2.2.1, Only.refl _ _⟩
    case round =>
      obtain ⟨k, vs, hk, rfl, hown, ho⟩ := hrel
      by_cases hlt : k < N
      · rcases A2 with _ | a2
        · exfalso
          rcases hown.2 with ⟨_, h0⟩ | ⟨g, cap, cur, e, _⟩
          · omega
          · cases e
        · obtain ⟨g, rfl⟩ : ∃ g, a2 = ⟨g, 0, none⟩ := by
            rcases hown.2 with ⟨e, _⟩ | ⟨g, cap, cur, e, _⟩
            · cases e
            · cases e; exact ⟨g, rfl⟩
          obtain ⟨⟨u0, x0⟩, u1, x1⟩ := row_two hown hlt
          have f0 := hown.frozenAt (k * 2)
          have f1 := hown.frozenAt (k * 2 + 1)
          have hst := ((hown.stored (k * 2) (.int .i64 (-1))).1.stored (k * 2 + 1) (.int .i64 0)).1
          have HR := Lib.hid (And.intro hst ho)
          clear hst hown ho
          go_wp2_with fail
          go_roundg (gk - 1)
          case measure => omega
          case rel => exact ⟨k + 1, _, by omega, by go_num, HR.out.1, (HR.out.2.setCell (p := ⟨g, k * 2, none⟩) (.inl (HF.out.2.2.2 g rfl)) _).setCell (p := ⟨g, k * 2 + 1, none⟩) (.inl (HF.out.2.2.2 g rfl)) _⟩
      · have HR := Lib.hid (And.intro hown ho)
        clear hown ho
        go_wp2_with fail
        go_loopg [6, 9] 20 (fun gg v i wr => ∃ (k M c : Nat) (A : Option Addr) (vs : List Value), k + gg = 20 ∧ i = .int .i64 k ∧ M = N + k ∧ v = .slice A M c ∧ wr.ownsRow 0 39 2 (.slice A M c) M vs ∧ Only F wc wr ∧ ∀ g, Value.ownBlock (.slice A M c) = some g → F g ∨ wc.heap.size ≤ g)
        case atStart => exact ⟨0, N, c2, A2, vs, by omega, rfl, rfl, rfl, HR.out.1, HR.out.2, fun g hg => .inl (HF.out.2.2.2 g hg)⟩
        case round =>
          obtain ⟨j, M, c, A, ws, hj, rfl, hM, rfl, hown, ho, hblk⟩ := hrel
          have HJ := Lib.hid (And.intro hM (And.intro hown (And.intro ho hblk)))
          have hM4 : M ≤ 5000 := by omega
          clear hM hown ho hblk HR
          by_cases hj20 : j < 20
          · go_wp2_with (refine wpList_append_sz _ rfl (.tmp 57) (.tmp 59) 37 rfl 0 39 i0 (.agg #[.int .i64 0, .int .i64 0]) 2 16 Try.underlying37 hi hz0 hz1 hz2 rfl (by decide) (.slice A M c) M ws rfl (HJ.out.2.1.alloc _) (some ⟨_, 0, none⟩) 1 1 [.int .i64 (-2), .int .i64 0] rfl rfl (fun j u h => ⟨_, rfl, cell_two_new _ _ _ _ j u h⟩) (by simp [Value.oneCell']) (by unfold maxLen; omega) (by omega) (Nat.zero_le _) ?_)
            intro A' c' w' hown' hgrow hat
            have HA : Hid (w'.ownsRow 0 39 2 (.slice A' (M + 1) c') (M + 1) (ws ++ [.int .i64 (-2), .int .i64 0]) ∧ Only F wc w' ∧ ∀ g, Value.ownBlock (.slice A' (M + 1) c') = some g → F g ∨ wc.heap.size ≤ g) := by
              refine ⟨hown', ((HJ.out.2.2.1.alloc _).grown hgrow HJ.out.2.2.2), fun g hg => ?_⟩
              rcases hat with e | e
              · rw [e] at hg; exact HJ.out.2.2.2 g hg
              · rw [e] at hg
                have hs := HJ.out.2.2.1.size
                simp at hg
                right; omega
            clear hown' hgrow hat
            go_wp2_with fail
            go_roundg (gk - 1)
            case measure => omega
            case rel => exact ⟨j + 1, M + 1, c', A', _, by omega, by go_num, by rw [HJ.out.1]; omega, rfl, HA.out.1, HA.out.2.1, HA.out.2.2⟩
          · have hMN : (M : Int) = (N : Int) + 20 := by have := HJ.out.1; omega
            have hMw : IntKind.i64.wrap ((N : Int) + 20) = (M : Int) := by rw [← hMN]; exact IntWalk.i64_in _ (by omega)
            have hfin : Hid (Calls Try.prog 21 #[.slice A3 N c3, .slice A1 N c1] wr fun e w'' => e = .returned (.bool true) ∧ ∃ n, w'' = wr.drewN n) := by
              rw [HN.out.1]
              exact same_yes A3 A1 c3 c1 xs wr (by rw [← HN.out.1]; omega) (HC.out.2.1.only HJ.out.2.2.1 HF.out.2.1) (HC.out.1.only HJ.out.2.2.1 HF.out.1)
            have heq : ((M : Int) == (N : Int) + 20) = true := by simp; omega
            have HBF : Hid (Below w.heap.size w wr) := (HB.out.trans (HC.out.2.2.2.mono HB.out.size)).trans (HJ.out.2.2.1.below (fun k hk hf => by have := HF.out.2.2.1 k hf; omega) (by have := HB.out.size; have := HC.out.2.2.2.size; omega))
            clear hMw hMN
            go_wp2_with fail
            refine hfin.out.mono ?_
            rintro e w'' ⟨rfl, nd, rfl⟩
            go_wp2_with fail
            go_ret
            exact ⟨rfl, below_drewN HBF.out nd⟩
end Go.Proofs.Ytinjkjgahipimaa
