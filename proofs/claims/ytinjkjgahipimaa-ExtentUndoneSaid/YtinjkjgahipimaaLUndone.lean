/-
  ExtentUndone: the law's walk.
-/
import Derived.Test.YtinjkjgahipimaaEUnd2
import Derived.Test.YtinjkjgahipimaaLNever
set_option linter.unusedVariables false
namespace Go.Proofs.Ytinjkjgahipimaa
open Go.RowKit

/-- an open map of this law: its lists and its state -/
def UdP (s : St) (own tak giv : List (Nat × Nat)) (f N : Nat) (l0 : List Nat) : Prop := Und s own tak giv ∧ s.f = f ∧ s.l.length = N ∧ s.wl = l0
/-- what the second loop keeps -/
def UdJ (w : World) (h : Nat) (S : Nat → Prop) (AW : Option Addr) (ws : List (Nat × Nat)) (f N : Nat) (l0 : List Nat) (K : Nat) (v13 v19 v20 : Value) (wr : World) : Prop :=
  ∃ (M1 M2 M3 : Nat) (A1 A2 A3 : Option Addr) (c1 c2 c3 : Nat) (own giv tak : List (Nat × Nat)) (s : St), M1 ≤ 60 ∧ M2 ≤ K ∧ M3 ≤ K ∧ own.length = M1 ∧ giv.length = M2 ∧ tak.length = M3 ∧
    v13 = .slice A1 M1 c1 ∧ v19 = .slice A3 M3 c3 ∧ v20 = .slice A2 M2 c2 ∧ UdM w h S AW ws A1 c1 own A2 c2 giv A3 c3 tak s wr ∧ UdP s own tak giv f N l0

theorem ExR.toSrc {w : World} {A : Option Addr} {xs : List (Nat × Nat)} (h : ExR w A xs) : Src w A (exs xs) := by
  intro j u hu
  have hj : j < xs.length * 2 := by
    have := (List.getElem?_eq_some_iff.1 hu).1
    rwa [length_exs] at this
  obtain ⟨g, rfl, _, _⟩ := h (j / 2) (by omega)
  exact ⟨_, rfl, h.src _ rfl j u hu⟩
theorem exs_one (xs : List (Nat × Nat)) : ∀ u ∈ exs xs, u.oneCell' = true := by
  intro u hu
  simp only [exs, List.mem_flatMap] at hu
  obtain ⟨y, _, hy⟩ := hu
  simp at hy
  rcases hy with rfl | rfl <;> rfl
theorem own_none {w : World} (t : TypeId) : (w.alloc (.cells #[] 39)).ownsRow w.heap.size 39 2 (.slice (some ⟨w.heap.size, 0, none⟩) 0 0) 0 (exs []) :=
  ⟨rfl, .inr ⟨w.heap.size, 0, #[], rfl, Nat.le_refl _, heap_alloc_new w _, Nat.le_refl _, Nat.zero_le _, rfl, rfl⟩⟩

set_option maxRecDepth 100000 in
set_option maxHeartbeats 4000000 in
theorem undone_any (f0 n0 : Int) (L Lm : Option Addr) (len cap lenm capm : Nat) (v vm : Nat → OpV) (stays : Bool) (w : World) (hl : len ≤ 9223372036854775807) (hlm : lenm ≤ 9223372036854775807) (hL : OpR w L len v) (hLm : OpR w Lm lenm vm) :
    Calls Try.prog 6 #[.int .i64 f0, .int .i64 n0, .slice L len cap, .slice Lm lenm capm, .bool stays] w fun e w' => e = .returned (.bool true) ∧ Below w.heap.size w w' := by
  obtain ⟨i0, hi, hz0, hz1, hz2⟩ := info_parts info39
  have hsize := size_any f0 n0
  have HL := Lib.hid (And.intro hL (And.intro hLm hsize))
  clear hL hsize hLm
  go_enter Try.func6, Try.ntmps6
  go_wp2_with fail
  refine (HL.out.2.2 _).mono ?_
  rintro e w' ⟨⟨f, b, hf, hb, rfl⟩, rfl⟩
  obtain ⟨N, hN⟩ : ∃ N, N = f + b := ⟨_, rfl⟩
  rw [← hN]
  have hfN : f ≤ N := by omega
  have hN140 : N < 140 := by omega
  clear hN hb
  go_wp2_with fail
  refine (new_yes f N w hfN (by omega)).mono ?_
  rintro e w1 ⟨h, S, rfl, hm, hb, hS⟩
  have H1 := Lib.hid (And.intro hm (And.intro hb hS))
  clear hm hb hS
  go_wp2_with fail
  refine (awake_any w1).mono ?_
  rintro e w2 ⟨rfl, hb⟩
  have H2 : Hid (NvI w f N h S 0 none 0 [] (newSt f N) w2) := ⟨H1.out.1.below hb, Cov.new hfN (by omega), rfl, by simp [newSt], rfl, Lst.nil, below_step H1.out.2.1 hb⟩
  clear hb
  go_upto_block 0 with fail
  go_cut [13] (fun v13 wx => ∃ (M : Nat) (A : Option Addr) (c : Nat) (own : List (Nat × Nat)) (s : St), M ≤ 60 ∧ v13 = .slice A M c ∧ NvI w f N h S M A c own s wx ∧ ∀ g, ob A = some g → g < wx.heap.size)
  case first =>
    go_wp2_with fail
    obtain ⟨K, hK⟩ : ∃ K, K = min len 60 := ⟨_, rfl⟩
    have hK60 : K ≤ 60 := by omega
    have hKl : K ≤ len := by omega
    have HK := Lib.hid hK
    clear hK
    go_loopg [13, 14] K (fun gg v13 i wr => ∃ k : Nat, k + gg = K ∧ i = .int .i64 k ∧ ∃ (M : Nat) (A : Option Addr) (c : Nat) (own : List (Nat × Nat)) (s : St), M ≤ k ∧ v13 = .slice A M c ∧ NvI w f N h S M A c own s wr ∧ ∀ g, ob A = some g → g < wr.heap.size)
    case atStart => exact ⟨0, by omega, rfl, 0, none, 0, [], _, Nat.le_refl _, rfl, H2.out, fun g hg => by cases hg⟩
    case round =>
      obtain ⟨k, hk, rfl, M, A, c, own, s, hMk, rfl, hni, hlt1⟩ := hrel
      have hcp := hni.2.2.2.2.2.1.cap
      have hMo := hni.2.2.2.2.1
      have hMc : M ≤ c := by omega
      have HI := Lib.hid hni
      have HLt := Lib.hid hlt1
      clear hni hlt1
      by_cases hlt : k < K
      · have hc63 : c ≤ maxLen := hcp.2 (by omega)
        unfold maxLen at hc63
        clear hcp hMo
        have hkl : k < len := by omega
        have hk60 : k < 60 := by omega
        obtain ⟨bl, off, rfl, hbl, hcl⟩ := HL.out.1 (by omega)
        obtain ⟨_, _, x2, _, _⟩ := hcl k hkl
        have y2 : wr.cell? ⟨bl, off + k * 5 + 2, none⟩ = some (.int .i64 (v k).n) := (HI.out.2.2.2.2.2.2.cell (p := ⟨bl, off + k * 5 + 2, none⟩) hbl).trans x2
        obtain ⟨P, hP⟩ : ∃ P, P = (v k).n := ⟨_, rfl⟩
        rw [← hP] at y2
        clear x2 hcl hP
        obtain ⟨t1, t2⟩ := tmod9 P
        obtain ⟨q, hq⟩ : ∃ q, q = ((Int.tmod P 9 + 9) % 9).toNat := ⟨_, rfl⟩
        have q1 : (Int.tmod P 9 + 9) % 9 = (q : Int) := by omega
        have q2 : Int.tmod P 9 % 9 = (q : Int) := by omega
        have q3 : q < 9 := by omega
        obtain ⟨n, hn⟩ : ∃ n, n = 1 + q := ⟨_, rfl⟩
        have hni : (1 : Int) + (q : Int) = (n : Int) := by omega
        have hn1 : 1 ≤ n := by omega
        have hn2 : n ≤ 9 := by omega
        clear hq hn
        cases hal : alc s.l s.f n with
        | none =>
          have HC := Lib.hid (alloc_no _ HI.out.1 HI.out.2.1.ok hn1 (by omega) hal)
          clear hal
          go_wp2_with fail
          refine HC.out.mono ?_
          rintro e w4 ⟨rfl, hb⟩
          have H4 := Lib.hid (And.intro (HI.out.below (hb.alloc hb.size (.cells #[.int .i64 0, .int .i64 0] 39))) (fun g hg => Nat.lt_of_lt_of_le (HLt.out g hg) (hb.alloc hb.size (.cells #[.int .i64 0, .int .i64 0] 39)).size))
          clear hb y2
          go_wp2_with fail
          go_roundg (gk - 1)
          case measure => omega
          case rel => exact ⟨k + 1, by omega, by go_num, M, A, c, own, s, by omega, rfl, H4.out.1, H4.out.2⟩
        | some x =>
          have HC := Lib.hid (alloc_yes _ HI.out.1 HI.out.2.1.ok hn1 (by omega) hal)
          have HAL := Lib.hid hal
          clear hal
          go_wp2_with fail
          refine HC.out.mono ?_
          rintro e w4 ⟨rfl, hm4, ho⟩
          go_upto_region 10 with fail
          have hbx := Blk.new w4 39 #[.int .i64 x.1, .int .i64 n]
          have HL4 : Hid (Lst w.heap.size S (w4.alloc (.cells #[.int .i64 x.1, .int .i64 n] 39)) A c own ∧ Below w4.heap.size w4 (w4.alloc (.cells #[.int .i64 x.1, .int .i64 n] 39))) :=
            ⟨(HI.out.2.2.2.2.2.1.only ho).below ((Below.refl _ w4).alloc (Nat.le_refl _) _), (Below.refl _ w4).alloc (Nat.le_refl _) _⟩
          obtain ⟨w5, hw5⟩ : ∃ w5, w5 = w4.alloc (.cells #[.int .i64 x.1, .int .i64 n] 39) := ⟨_, rfl⟩
          obtain ⟨gx, hgx⟩ : ∃ gx, gx = w4.heap.size := ⟨_, rfl⟩
          rw [← hw5] at HL4
          rw [← hw5, ← hgx] at hbx
          rw [← hw5, ← hgx]
          have x0 := hbx.cell 0
          have x1 := hbx.cell 1
          simp at x0 x1
          have HO := Lib.hid (And.intro hm4 ho)
          clear hw5 hgx hbx hm4 ho y2
          have hMo := Lib.hid HI.out.2.2.2.2.1
          go_upto_region 11 with fail
          go_wp2_with (refine wpList_append_lst rfl (.tmp 75) (.tmp 77) rfl (HL4.out.1.below ((Below.refl _ w5).alloc (Nat.le_refl _) _)) M hMo.out (by omega) rfl w5.heap.size x.1 n rfl (cell_two_new _ _ _ _) ?q1 ?q2 ?_)
          case q1 =>
            have h1 := HI.out.2.2.2.2.2.2.size
            have h2 := HO.out.2.size
            have h3 := HL4.out.2.size
            simp; omega
          case q2 =>
            intro i hi
            have h1 := HO.out.1.lt i hi
            have h3 := HL4.out.2.size
            simp; omega
          intro A' c' w7 hL7 ho7
          have hni7 : NvI w f N h S (M + 1) A' c' (own ++ [(x.1, n)]) (s.put x.1 n 1) w7 := HI.out.added hn1 HAL.out HO.out.1 HO.out.2 (HL4.out.2.alloc HL4.out.2.size _) H1.out.2.2 hL7 ho7
          have HP := Lib.hid (And.intro hni7 (hL7.lt_of (by simp)))
          clear hL7 ho7 hni7
          go_wp2_with fail
          go_roundg (gk - 1)
          case measure => omega
          case rel => exact ⟨k + 1, by omega, by go_num, M + 1, A', c', _, _, by omega, by go_num, HP.out.1, HP.out.2⟩
      · have hk2 : k = K := by omega
        subst hk2
        clear hcp hMo
        by_cases hkl : k < len
        · have hk60 : k = 60 := by have := HK.out; omega
          subst hk60
          go_wp2_with fail
          go_meet
          exact ⟨M, A, c, own, s, hMk, rfl, HI.out, HLt.out⟩
        · have hkl : k = len := by omega
          subst hkl
          go_wp2_with fail
          go_meet
          exact ⟨M, A, c, own, s, by omega, rfl, HI.out, HLt.out⟩
  case rest =>
    obtain ⟨M, A, c, own, s, hM60, rfl, hni, hlt1⟩ := hcut
    have HI := Lib.hid (And.intro hni hlt1)
    clear hni hlt1
    go_wp2_with fail
    refine (spacesC_any h S s wc HI.out.1.1 HI.out.1.2.1.ok).mono ?_
    rintro e w3 ⟨u, rfl, hown3, hb3⟩
    rw [HI.out.1.2.2.1] at hown3
    obtain ⟨ws, hws⟩ : ∃ ws, ws = spc s.l f := ⟨_, rfl⟩
    rw [← hws] at hown3
    obtain ⟨AW, cW, rfl, hxW, _⟩ := own_shapeE hown3
    obtain ⟨QW, hQW⟩ : ∃ Q, Q = ws.length := ⟨_, rfl⟩
    rw [← hQW]
    have hWl : ∀ g, ob AW = some g → wc.heap.size ≤ g ∧ g < w3.heap.size := fun g hg => hown3.lt g (by rw [ob_eq]; exact hg)
    have H3 := Lib.hid (And.intro hxW (And.intro hWl (And.intro hb3 (And.intro hws hQW))))
    clear hxW hWl hb3 hws hown3 hQW
    go_wp2_with fail
    refine (bits_any h S s w3 (HI.out.1.1.below H3.out.2.2.1) HI.out.1.2.1.ok).mono ?_
    rintro e w4 ⟨rfl, hb4⟩
    obtain ⟨T0, hT0⟩ : ∃ T, T = bitsT s.f s.l := ⟨_, rfl⟩
    rw [← hT0]
    have H4 := Lib.hid (And.intro hb4 hT0)
    clear hb4 hT0
    go_wp2_with fail
    refine (begin_yes h S s w4 ((HI.out.1.1.below H3.out.2.2.1).below H4.out.1) HI.out.1.2.1.ok HI.out.1.2.1.op).mono ?_
    rintro e w5 ⟨rfl, S', hm5, hS5, ho5⟩
    have H5 := Lib.hid (And.intro hm5 (And.intro hS5 ho5))
    clear hm5 hS5 ho5
    go_wp2_with fail
    refine (open_any h S' _ w5 H5.out.1.mp).mono ?_
    rintro e w6 ⟨rfl, rfl⟩
    have HJ : Hid (UdJ w h S' AW ws f N s.l 0 (.slice A M c) (.slice none 0 0) (.slice none 0 0) w5) := by
      obtain ⟨⟨q1, q2, q3, q4, q5, q6, q7⟩, q8⟩ := HI.out
      obtain ⟨r1, r2, r3, r4, r5⟩ := H3.out
      obtain ⟨m1, m2, m3⟩ := H5.out
      have hz3 := r3.size
      have hz4 := H4.out.1.size
      have hz5 := m3.size
      have hS := H1.out.2.2
      refine ⟨M, 0, 0, A, none, none, c, 0, 0, own, [], [], ⟨s.f, s.l, true, s.l⟩, hM60, Nat.le_refl _, Nat.le_refl _, q5, rfl, rfl, rfl, rfl, rfl, ?_, Und.begin q2, q3, q4, rfl⟩
      have hL1 := ((q6.below r3).below H4.out.1).only m3
      have hown : ∀ g, ob A = some g → ¬ Wt S' AW g := fun g hg => by
        have hg2 := q8 g hg
        rintro (e | e)
        · rcases m2 g e with e2 | e2
          · exact (q6.2.1 g (by rw [ob_eq]; exact hg)).1 e2
          · omega
        · have := (r2 g e).1; omega
      refine ⟨m1.mp, ⟨hL1.1, fun g hg => ⟨hown g (by rw [ob_eq] at hg; exact hg), (hL1.2.1 g hg).2⟩, hL1.2.2⟩, Lst.nil, Lst.nil, (fun g hg e => by cases e), (fun g hg e => by cases e), (fun g hg => by cases hg), fun g hg => by have := q8 g hg; omega, (fun g hg => by cases hg), (fun g hg => by cases hg), fun g hg => ⟨fun e => ?_, by have := (r2 g hg).2; omega⟩, ?_, fun k hk => ?_, ?_⟩
      · rcases m2 g e with e2 | e2
        · have := q1.lt g e2
          have := (r2 g hg).1
          omega
        · have := (r2 g hg).2
          omega
      · exact (r1.below H4.out.1).only m3 (fun g hg e => by
          have := q1.lt g e
          have := (r2 g (by rw [hg]; rfl)).1
          omega)
      · rcases m2 k hk with e2 | e2
        · exact hS k e2
        · have := q7.size; omega
      · exact below_of_only (below_step (below_step q7 r3) H4.out.1) m3 hS
    have HW : Hid (ws = spc s.l f ∧ QW = ws.length ∧ T0 = bitsT f s.l) := ⟨H3.out.2.2.2.1, H3.out.2.2.2.2, by rw [H4.out.2, HI.out.1.2.2.1]⟩
    obtain ⟨l0, hl0⟩ : ∃ l0, l0 = s.l := ⟨_, rfl⟩
    rw [← hl0] at HJ HW
    clear hl0 H3 H4 H5 HI H2
    go_upto_block 2 with fail
    go_cut [13, 19, 20] (fun v13 v19 v20 wx => UdJ w h S' AW ws f N l0 60 v13 v19 v20 wx)
    case first =>
      go_wp2_with fail
      obtain ⟨K, hK⟩ : ∃ K, K = min lenm 60 := ⟨_, rfl⟩
      have hK60 : K ≤ 60 := by omega
      have hKl : K ≤ lenm := by omega
      have HK := Lib.hid hK
      clear hK
      go_loopg [13, 19, 20, 21] K (fun gg v13 v19 v20 i wr => ∃ k : Nat, k + gg = K ∧ i = .int .i64 k ∧ UdJ w h S' AW ws f N l0 k v13 v19 v20 wr)
      case atStart => exact ⟨0, by omega, rfl, HJ.out⟩
      case round =>
        obtain ⟨k, hk, rfl, M1, M2, M3, A1, A2, A3, c1, c2, c3, own, giv, tak, s, hM60, hM2, hM3, e1, e2, e3, rfl, rfl, rfl, hu, hp⟩ := hrel
        have hcp1 := hu.L1.cap
        have hcp2 := hu.L2.cap
        have hcp3 := hu.L3.cap
        have hMc1 : M1 ≤ c1 := by omega
        have hMc2 : M2 ≤ c2 := by omega
        have hMc3 : M3 ≤ c3 := by omega
        by_cases hlt : k < K
        · have hcm1 : c1 ≤ maxLen := hcp1.2 (by omega)
          have hcm2 : c2 ≤ maxLen := hcp2.2 (by omega)
          have hcm3 : c3 ≤ maxLen := hcp3.2 (by omega)
          unfold maxLen at hcm1 hcm2 hcm3
          have HE := Lib.hid (And.intro e1 (And.intro e2 e3))
          have HU := Lib.hid hu
          have HP := Lib.hid hp
          clear hcp1 hcp2 hcp3 e1 e2 e3 hu hp
          have hkl : k < lenm := by omega
          have hk60 : k < 60 := by omega
          obtain ⟨bl, off, rfl, hbl, hcl⟩ := HL.out.2.1 (by omega)
          obtain ⟨x0, _, x2, _, _⟩ := hcl k hkl
          have HX : Hid (∀ w', Below w.heap.size w w' → w'.cell? ⟨bl, off + k * 5, none⟩ = some (.int .i64 (vm k).kd) ∧ w'.cell? ⟨bl, off + k * 5 + 2, none⟩ = some (.int .i64 (vm k).n)) := fun w' hb =>
            ⟨(hb.cell (p := ⟨bl, off + k * 5, none⟩) hbl).trans x0, (hb.cell (p := ⟨bl, off + k * 5 + 2, none⟩) hbl).trans x2⟩
          obtain ⟨kd, hkd⟩ : ∃ kd, kd = (vm k).kd := ⟨_, rfl⟩
          obtain ⟨P, hP⟩ : ∃ P, P = (vm k).n := ⟨_, rfl⟩
          rw [← hkd, ← hP] at HX
          obtain ⟨y0, y2⟩ := HX.out _ HU.out.be
          clear x0 x2 hcl hkd hP
          go_upto_region 20 with fail
          go_cut [111] (fun v111 wx => v111 = .bool (decide (kd = 1) && decide (0 < M1)) ∧ wx = wr)
          case first =>
            by_cases hk1 : kd = 1
            · subst hk1
              rcases Nat.eq_zero_or_pos M1 with hM0 | hM0
              · have hd1 : decide ((0 : Int) < (M1 : Int)) = false := decide_eq_false (by omega)
                have hd2 : decide (0 < M1) = false := decide_eq_false (by omega)
                clear hM0 y2
                go_wp2_with fail
                go_meet
                exact ⟨by simp [hd2], rfl⟩
              · have hd1 : decide ((0 : Int) < (M1 : Int)) = true := decide_eq_true (by omega)
                have hd2 : decide (0 < M1) = true := decide_eq_true (by omega)
                clear hM0 y2
                go_wp2_with fail
                go_meet
                exact ⟨by simp [hd2], rfl⟩
            · have hkb : (kd == 1) = false := by simpa using hk1
              have hkc : decide (kd = 1) = false := decide_eq_false hk1
              clear y2
              go_wp2_with fail
              go_meet
              exact ⟨by simp [hkc], rfl⟩
          case rest =>
            obtain ⟨rfl, rfl⟩ := hcut
            clear y0
            by_cases hkm : kd = 1 ∧ 0 < M1
            · obtain ⟨rfl, hM0⟩ := hkm
              have hbt : (decide ((1 : Int) = 1) && decide (0 < M1)) = true := by simp [hM0]
              rw [hbt]
              have hM3' : ¬ ((M1 : Int) = 0) := by omega
              obtain ⟨q, hqM, hq, hz1, hz2⟩ := tmodM P M1 hM0
              obtain ⟨z, hz⟩ : ∃ z, z = Int.tmod P (M1 : Int) := ⟨_, rfl⟩
              rw [← hz] at hq hz1 hz2
              have hz' : Int.tmod P (M1 : Int) = z := hz.symm
              clear hz hbt
              have hqo : q < own.length := by have := HE.out.1; omega
              have hxm : own.getD q (0, 0) ∈ own := by rw [List.getD, List.getElem?_eq_getElem hqo]; exact List.getElem_mem hqo
              obtain ⟨hw1, hw2⟩ := HP.out.1.owned hxm
              have HF := (free_ok h S' s _ _ _ HU.out.mp HP.out.1.ok hw1 hw2).mono (R' := fun e w' => e = .returned (.int .i64 0) ∧ UdM w h S' AW ws A1 c1 own A2 c2 giv A3 c3 tak (s.put (own.getD q (0, 0)).1 (own.getD q (0, 0)).2 2) w')
                (fun e w' hp => ⟨hp.1, HU.out.set_ (by have := hp.2.1; rw [if_pos HP.out.1.op] at this; exact this) hp.2.2⟩)
              have HG : UdP (s.put (own.getD q (0, 0)).1 (own.getD q (0, 0)).2 2) (own.take q ++ own.drop (q + 1)) tak (giv ++ [own.getD q (0, 0)]) f N l0 := ⟨HP.out.1.give hqo, HP.out.2.1, by rw [St.put_length]; exact HP.out.2.2.1, HP.out.2.2.2⟩
              have HC := fun (w' : World) (L : Lst w.heap.size (Wt S' AW) w' A1 c1 own) => L.1 q hqo
              obtain ⟨x, hx⟩ : ∃ x, x = own.getD q (0, 0) := ⟨_, rfl⟩
              rw [← hx] at HF HG
              simp only [← hx] at HC
              obtain ⟨xa, xb⟩ := x
              simp only at HF HG HC
              obtain ⟨g, rfl, a0, a1⟩ := HC _ HU.out.L1
              have HF := Lib.hid HF
              have HG := Lib.hid HG
              have HC := Lib.hid HC
              have HM0 := Lib.hid hqo
              clear hx hqo hxm hw1 hw2
              go_wp2_with fail
              refine HF.out.mono ?_
              rintro e w4 ⟨rfl, hu4⟩
              obtain ⟨g', hgg, d0, d1⟩ := HC.out w4 hu4.L1
              obtain rfl : g = g' := by simpa using hgg
              have HU4 := Lib.hid hu4
              have HE2 := Lib.hid HE.out.2.1
              clear hu4 hgg a0 a1 y2 hz'
              go_upto_region 24 with fail
              go_wp2_with (refine wpList_append_lst rfl (.tmp 133) (.tmp 138) rfl ((HU4.out.below ((Below.refl _ w4).alloc (Nat.le_refl _) _)).p2.1) M2 HE2.out (by omega) rfl w4.heap.size xa xb rfl (cell_two_new _ _ _ _) ?q1 ?q2 ?_)
              case q1 => exact (HU4.out.below ((Below.refl _ w4).alloc (Nat.le_refl _) _)).be.size
              case q2 => exact (HU4.out.below ((Below.refl _ w4).alloc (Nat.le_refl _) _)).p2.2
              intro A' c' w5 hL5 ho5
              have hu5 := (HU4.out.below ((Below.refl _ w4).alloc (Nat.le_refl _) _)).after2 hL5 ho5 (by simp)
              have HU5 := Lib.hid hu5
              clear hL5 ho5 hu5 d0 d1
              go_upto_region 25 with fail
              have hqc : q ≤ c1 := by omega
              obtain ⟨r, hr⟩ : ∃ r, r = q + 1 := ⟨_, rfl⟩
              have hrM : r ≤ M1 := by omega
              have hwr : IntKind.i64.wrap ((q : Int) + 1) = (r : Int) := by rw [hr]; exact IntWalk.i64_in _ (by omega)
              have Hr := Lib.hid hr
              clear hr
              go_still_tail 8, (by kernel_rfl)
              change wpList _ _ _ _ _ w5.drew
              obtain ⟨w6, hw6⟩ : ∃ w6, w6 = w5.drew := ⟨_, rfl⟩
              have H6 : Hid (UdM w h S' AW ws (some ⟨g, 0, none⟩) c1 own A' c' (giv ++ [(xa, xb)]) A3 c3 tak (s.put xa xb 2) w6) := by
                rw [hw6]
                exact HU5.out.below (Below.refl _ w5).drew
              rw [← hw6]
              clear hw6 hwr
              refine wpList_append_out2 rfl (.tmp 143) (.tmp 147) rfl H6.out.p1.1 q M1 HE.out.1 hqM (by omega) g rfl rfl _ _ (by rw [← Hr.out]; rfl) (fun h => ?hB) (fun _ _ _ => trivial) H6.out.be.size H6.out.p1.2 ?hB0 ?_
              case hB => have hr2 := Hr.out; rw [← hr2]; split <;> first | rfl | (exfalso; omega)
              case hB0 => split <;> exact ⟨_, rfl⟩
              intro A1' c1' w7 hL7 ho7 hl7
              have HU7 := Lib.hid (H6.out.after1 hL7 ho7 hl7)
              clear hL7 ho7 hl7
              go_wp2_with fail
              all_goals
                go_roundg (gk - 1)
                case measure => omega
                case rel =>
                  have q1 := HE.out.1
                  have q2 := HE.out.2.1
                  have q3 := HE.out.2.2
                  exact ⟨k + 1, by omega, by go_num, M1 - 1, M2 + 1, M3, A1', A', A3, c1', c', c3, _, _, _, _, by omega, by omega, by omega, by simp; omega, by simp; omega, q3, rfl, rfl, rfl, HU7.out, HG.out⟩
            · have hbf : (decide (kd = 1) && decide (0 < M1)) = false := by
                rw [Bool.eq_false_iff]
                intro h
                rw [Bool.and_eq_true, decide_eq_true_eq, decide_eq_true_eq] at h
                exact hkm h
              rw [hbf]
              clear hbf hkm
              obtain ⟨t1, t2⟩ := tmod9 P
              obtain ⟨q, hq⟩ : ∃ q, q = ((Int.tmod P 9 + 9) % 9).toNat := ⟨_, rfl⟩
              have q1 : (Int.tmod P 9 + 9) % 9 = (q : Int) := by omega
              have q2 : Int.tmod P 9 % 9 = (q : Int) := by omega
              have q3 : q < 9 := by omega
              obtain ⟨n, hn⟩ : ∃ n, n = 1 + q := ⟨_, rfl⟩
              have hni : (1 : Int) + (q : Int) = (n : Int) := by omega
              have hn1 : 1 ≤ n := by omega
              have hn2 : n ≤ 9 := by omega
              clear hq hn
              cases hal : alc s.l s.f n with
              | none =>
                have HC := Lib.hid (alloc_no _ HU.out.mp HP.out.1.ok hn1 (by omega) hal)
                clear hal
                go_wp2_with fail
                refine HC.out.mono ?_
                rintro e w4 ⟨rfl, hb⟩
                have HU4 := Lib.hid (HU.out.below (hb.alloc hb.size (.cells #[.int .i64 0, .int .i64 0] 39)))
                clear hb y2
                go_wp2_with fail
                obtain ⟨w5, hw5⟩ : ∃ w5, w5 = w4.alloc (.cells #[.int .i64 0, .int .i64 0] 39) := ⟨_, rfl⟩
                rw [← hw5] at HU4
                rw [← hw5]
                clear hw5
                go_loopg [25] 0 (fun gg i wq => gg = 0 ∧ i = .int .i64 0 ∧ wq = w5)
                case atStart => exact ⟨rfl, rfl, rfl⟩
                case round =>
                  obtain ⟨_, rfl, rfl⟩ := hrel
                  rcases Nat.eq_zero_or_pos M2 with hM0 | hM0
                  · have hd1 : decide ((0 : Int) < (M2 : Int)) = false := decide_eq_false (by omega)
                    have hd2 : decide (0 < M2) = false := decide_eq_false (by omega)
                    go_wp2_with fail
                    go_roundg (K - k - 1)
                    case measure => omega
                    case rel => exact ⟨k + 1, by omega, by go_num, M1, M2, M3, A1, A2, A3, c1, c2, c3, own, giv, tak, s, by omega, by omega, by omega, HE.out.1, HE.out.2.1, HE.out.2.2, rfl, rfl, rfl, HU4.out, HP.out⟩
                  · have hd1 : decide ((0 : Int) < (M2 : Int)) = true := decide_eq_true (by omega)
                    have hd2 : decide (0 < M2) = true := decide_eq_true (by omega)
                    go_wp2_with fail
                    go_roundg (K - k - 1)
                    case measure => omega
                    case rel => exact ⟨k + 1, by omega, by go_num, M1, M2, M3, A1, A2, A3, c1, c2, c3, own, giv, tak, s, by omega, by omega, by omega, HE.out.1, HE.out.2.1, HE.out.2.2, rfl, rfl, rfl, HU4.out, HP.out⟩
              | some x =>
                have HC := (alloc_yes _ HU.out.mp HP.out.1.ok hn1 (by omega) hal).mono (R' := fun e w' => e = .returned (.tuple #[.agg #[.int .i64 x.1, .int .i64 n], .int .i64 0]) ∧ UdM w h S' AW ws A1 c1 own A2 c2 giv A3 c3 tak (s.put x.1 n 1) w')
                  (fun e w' hp => ⟨hp.1, HU.out.set_ hp.2.1 hp.2.2⟩)
                have HG : UdP (s.put x.1 n 1) own (tak ++ [(x.1, n)]) giv f N l0 := ⟨HP.out.1.alloc hn1 hal, HP.out.2.1, by rw [St.put_length]; exact HP.out.2.2.1, HP.out.2.2.2⟩
                have HA : ∀ y ∈ giv, ¬ (x.1 < y.1 + y.2 ∧ y.1 < x.1 + n) ∧ y.1 + y.2 ≤ N := fun y hy => ⟨HP.out.1.apart hn1 hal hy, by have := (HP.out.1.e3 y hy).2.2; rw [HP.out.2.2.1] at this; exact this⟩
                have hxN : x.1 + n ≤ N := by have := (HP.out.1.zone hal).2.1; rw [HP.out.2.2.1] at this; exact this
                obtain ⟨xa, xl⟩ := x
                simp only at HC HG HA hxN
                have HC := Lib.hid HC
                have HG := Lib.hid HG
                have HA := Lib.hid HA
                clear hal
                go_wp2_with fail
                refine HC.out.mono ?_
                rintro e w4 ⟨rfl, hu4⟩
                go_upto_region 27 with fail
                have hbx := Blk.new w4 39 #[.int .i64 xa, .int .i64 n]
                have hu5 := hu4.below (w' := w4.alloc (.cells #[.int .i64 xa, .int .i64 n] 39)) ((Below.refl _ w4).alloc (Nat.le_refl _) _)
                obtain ⟨w5, hw5⟩ : ∃ w5, w5 = w4.alloc (.cells #[.int .i64 xa, .int .i64 n] 39) := ⟨_, rfl⟩
                obtain ⟨gx, hgx⟩ : ∃ gx, gx = w4.heap.size := ⟨_, rfl⟩
                rw [← hw5] at hu5
                rw [← hw5, ← hgx] at hbx
                rw [← hw5, ← hgx]
                have HU5 := Lib.hid (And.intro hu5 hbx)
                clear hu5 hbx hu4 hw5 hgx y2
                go_wp2_with fail
                go_loopg [25] M2 (fun gg i wq => ∃ j : Nat, j + gg = M2 ∧ i = .int .i64 j ∧ UdM w h S' AW ws A1 c1 own A2 c2 giv A3 c3 tak (s.put xa n 1) wq ∧ Blk wq gx 39 #[.int .i64 xa, .int .i64 n])
                case atStart => exact ⟨0, by omega, rfl, HU5.out.1, HU5.out.2⟩
                case round =>
                  obtain ⟨j, hj, rfl, hu, hbx⟩ := hrel
                  by_cases hjM : j < M2
                  · have hjo : j < giv.length := by have := HE.out.2.1; omega
                    obtain ⟨g, rfl, a0, a1⟩ := hu.L2.1 j hjo
                    have hyA := HA.out (giv.getD j (0, 0)) (by rw [List.getD, List.getElem?_eq_getElem hjo]; exact List.getElem_mem hjo)
                    obtain ⟨y, hy⟩ : ∃ y, y = giv.getD j (0, 0) := ⟨_, rfl⟩
                    rw [← hy] at a0 a1 hyA
                    obtain ⟨ya, yb⟩ := y
                    simp only at a0 a1 hyA
                    have x0 := hbx.cell 0
                    have x1 := hbx.cell 1
                    simp at x0 x1
                    have HUx := Lib.hid (And.intro hu hbx)
                    obtain ⟨hyA1, hyA2⟩ := hyA
                    clear hy hu hbx hjo
                    have hjc : j < c2 := by omega
                    by_cases hlt1 : xa < ya + yb
                    · have hlt2 : ¬ (ya < xa + n) := fun e => hyA1 ⟨hlt1, e⟩
                      have hd1 : decide ((xa : Int) < (ya : Int) + (yb : Int)) = true := decide_eq_true (by omega)
                      have hd2 : decide ((ya : Int) < (xa : Int) + (n : Int)) = false := decide_eq_false (by omega)
                      clear hyA1
                      go_wp2_with fail
                      go_quiet (fail)
                      go_wp2_with fail
                      go_roundg (M2 - j - 1)
                      case measure => omega
                      case rel => exact ⟨j + 1, by omega, by go_num, HUx.out.1.below (below_drewN (Below.refl _ _) _), HUx.out.2.drewN _⟩
                    · have hd1 : decide ((xa : Int) < (ya : Int) + (yb : Int)) = false := decide_eq_false (by omega)
                      clear hyA1
                      go_wp2_with fail
                      go_quiet (fail)
                      go_wp2_with fail
                      go_roundg (M2 - j - 1)
                      case measure => omega
                      case rel => exact ⟨j + 1, by omega, by go_num, HUx.out.1.below (below_drewN (Below.refl _ _) _), HUx.out.2.drewN _⟩
                  · have hjM' : j = M2 := by omega
                    subst hjM'
                    have x0 := hbx.cell 0
                    have x1 := hbx.cell 1
                    simp at x0 x1
                    have HUx := Lib.hid hu
                    have HE3 := Lib.hid HE.out.2.2
                    clear hu hbx hjM
                    go_upto_region 33 with fail
                    go_wp2_with (refine wpList_append_lst rfl (.tmp 202) (.tmp 204) rfl ((HUx.out.below ((Below.refl _ _).alloc (Nat.le_refl _) _)).p3.1) M3 HE3.out (by omega) rfl _ xa n rfl (cell_two_new _ _ _ _) ?q1 ?q2 ?_)
                    case q1 => exact (HUx.out.below ((Below.refl _ _).alloc (Nat.le_refl _) _)).be.size
                    case q2 => exact (HUx.out.below ((Below.refl _ _).alloc (Nat.le_refl _) _)).p3.2
                    intro A' c' w7 hL7 ho7
                    have HU7 := Lib.hid ((HUx.out.below ((Below.refl _ _).alloc (Nat.le_refl _) _)).after3 hL7 ho7 (by simp))
                    clear hL7 ho7
                    go_wp2_with fail
                    go_roundg (K - k - 1)
                    case measure => omega
                    case rel =>
                      have q3 := HE.out.2.2
                      exact ⟨k + 1, by omega, by go_num, M1, j, M3 + 1, A1, A2, A', c1, c2, c', own, giv, tak ++ [(xa, n)], _, by omega, by omega, by omega, HE.out.1, HE.out.2.1, by simp; omega, rfl, rfl, rfl, HU7.out, HG.out⟩
        · have hk2 : k = K := by omega
          subst hk2
          have HUP := Lib.hid (And.intro hu hp)
          clear hcp1 hcp2 hcp3 hu hp
          by_cases hkl : k < lenm
          · have hk60 : k = 60 := by have := HK.out; omega
            subst hk60
            go_wp2_with fail
            go_meet
            exact ⟨M1, M2, M3, A1, A2, A3, c1, c2, c3, own, giv, tak, s, hM60, hM2, hM3, e1, e2, e3, rfl, rfl, rfl, HUP.out.1, HUP.out.2⟩
          · have hkl : k = lenm := by omega
            subst hkl
            go_wp2_with fail
            go_meet
            exact ⟨M1, M2, M3, A1, A2, A3, c1, c2, c3, own, giv, tak, s, hM60, by omega, by omega, e1, e2, e3, rfl, rfl, rfl, HUP.out.1, HUP.out.2⟩
    case rest =>
      obtain ⟨M1, M2, M3, A1, A2, A3, c1, c2, c3, own, giv, tak, s, hM60, hM2, hM3, e1, e2, e3, rfl, rfl, rfl, hu, hp⟩ := hcut
      have HE := Lib.hid (And.intro e1 (And.intro e2 e3))
      have HU := Lib.hid hu
      have HP := Lib.hid hp
      clear e1 e2 e3 hu hp HJ
      cases stays with
      | false =>
        have HA := Lib.hid (abort_yes h S' s wc (HU.out.mp.mp2 HP.out.1.op) HP.out.1.op)
        have HK : Hid (St.Ok ⟨f, l0, false, []⟩) := by
          obtain ⟨p1, p2, p3, p4⟩ := HP.out
          have q1 := p1.ok.wn p1.op
          have q2 := p1.ok.ws p1.op
          have q3 := p1.ok.fl
          have q4 := p1.ok.le
          rw [p4] at q1 q2
          exact ⟨by show f ≤ l0.length; omega, by show l0.length ≤ 4096; omega, q2, (fun e => by cases e), fun e => by cases e⟩
        go_wp2_with fail
        refine HA.out.mono ?_
        rintro e w6 ⟨rfl, S2, hm6, hS2, ho6⟩
        rw [HP.out.2.1, HP.out.2.2.2] at hm6
        have H6 : Hid (Mp w6 h S2 ⟨f, l0, false, []⟩ ∧ ExR w6 AW ws ∧ Below w.heap.size w w6) :=
          ⟨hm6, HU.out.was.only ho6 (fun g hg => (HU.out.wb g (by rw [hg]; rfl)).1), below_of_only HU.out.be ho6 HU.out.sb⟩
        clear hm6 hS2 ho6
        go_wp2_with fail
        refine (open_any h S2 _ w6 H6.out.1).mono ?_
        rintro e w7 ⟨rfl, rfl⟩
        go_wp2_with fail
        refine (spacesC_any h S2 _ w6 H6.out.1 HK.out).mono ?_
        rintro e w8 ⟨u, rfl, hown8, hb8⟩
        dsimp only at hown8
        rw [← HW.out.1] at hown8
        obtain ⟨A8, c8, rfl, hx8, _⟩ := own_shapeE hown8
        rw [← HW.out.2.1]
        have hsm := same_yes A8 AW c8 cW ws w8 (by have := spc_length l0 f; have := HK.out.le; have h4 : l0.length ≤ 4096 := this; rw [HW.out.1]; omega) hx8 (H6.out.2.1.below hb8)
        rw [← HW.out.2.1] at hsm
        have HS := Lib.hid hsm
        have H8 := Lib.hid (And.intro (H6.out.1.below hb8) (below_step H6.out.2.2 hb8))
        clear hown8 hx8 hb8 hsm
        go_wp2_with fail
        refine HS.out.mono ?_
        rintro e w9 ⟨rfl, nd, rfl⟩
        have H9 : Hid (Mp (w8.drewN nd) h S2 ⟨f, l0, false, []⟩ ∧ Below w.heap.size w (w8.drewN nd)) := ⟨H8.out.1.below (below_drewN (Below.refl _ _) nd), below_drewN H8.out.2 nd⟩
        obtain ⟨w9, hw9⟩ : ∃ w9, w9 = w8.drewN nd := ⟨_, rfl⟩
        rw [← hw9] at H9
        rw [← hw9]
        clear hw9
        have hbt := bits_any h S2 _ w9 H9.out.1 HK.out
        dsimp only at hbt
        rw [← HW.out.2.2] at hbt
        have HB := Lib.hid hbt
        clear hbt
        go_wp2_with fail
        refine HB.out.mono ?_
        rintro e w10 ⟨rfl, hb10⟩
        have H10 := Lib.hid (below_step H9.out.2 hb10)
        clear hb10
        go_wp2_with fail
        exact ⟨rfl, .bool true, by simp [results, Try.results6, go_sem], rfl, H10.out⟩
      | true =>
        go_wp2_with fail
        refine (bits_any h S' s wc HU.out.mp HP.out.1.ok).mono ?_
        rintro e w6 ⟨rfl, hb6⟩
        have HU6 := Lib.hid (HU.out.below hb6)
        have HT : Hid (bitsT s.f (clr s.l s.l.length) = bitsT s.f s.l) := bitsT_clr _ _ _
        obtain ⟨T1, hT1⟩ : ∃ T, T = bitsT s.f s.l := ⟨_, rfl⟩
        rw [← hT1] at HT
        rw [← hT1]
        clear hT1 hb6
        go_wp2_with fail
        refine (commit_yes h S' s w6 (HU6.out.mp.mp2 HP.out.1.op) HP.out.1.ok HP.out.1.op).mono ?_
        rintro e w7 ⟨rfl, hm7, ho7⟩
        have hc7 := HP.out.1.commit
        have H7 : Hid (Mp w7 h S' ⟨s.f, clr s.l s.l.length, false, []⟩ ∧ ExR w7 A1 own ∧ ExR w7 A3 tak ∧ Below w.heap.size w w7) :=
          ⟨hm7, (HU6.out.L1.keep ho7 (fun k hk e => e.2 (.inl hk))).1, (HU6.out.L3.keep ho7 (fun k hk e => e.2 (.inl hk))).1, below_of_only HU6.out.be ho7 HU6.out.sb⟩
        have HC := Lib.hid hc7
        clear hm7 ho7 hc7
        go_wp2_with fail
        refine (open_any h S' _ w7 H7.out.1).mono ?_
        rintro e w8 ⟨rfl, rfl⟩
        have hbt := bits_any h S' _ w7 H7.out.1 HC.out.ok
        dsimp only at hbt
        rw [HT.out] at hbt
        have HB := Lib.hid hbt
        clear hbt
        go_wp2_with fail
        refine HB.out.mono ?_
        rintro e w9 ⟨rfl, hb9⟩
        have H9 := Lib.hid (And.intro (H7.out.1.below hb9) (And.intro (H7.out.2.1.below hb9) (And.intro (H7.out.2.2.1.below hb9) (below_step H7.out.2.2.2 hb9))))
        clear hb9
        go_upto_region 39 with fail
        go_wp2_with (refine wpList_append_sz _ rfl (.tmp 244) (.tmp 245) 37 rfl 0 39 i0 (.agg #[.int .i64 0, .int .i64 0]) 2 16 Try.underlying37 hi hz0 hz1 hz2 rfl (by decide) _ 0 (exs []) rfl (own_base (own_none 39)) A1 M1 c1 (exs own) rfl (by rw [length_exs, HE.out.1]) (H9.out.2.1.below ((Below.refl _ w9).alloc (Nat.le_refl _) _)).toSrc (exs_one own) (by unfold maxLen; omega) (by omega) (Nat.zero_le _) ?_)
        intro A10 c10 w10 hown10 hg10 hat10
        have hA10 : ∀ k, Value.ownBlock (.slice A10 M1 c10) = some k → w9.heap.size ≤ k := fun k hk => by
          rcases hat10 with e | e
          · rw [e] at hk; simp [Value.ownBlock] at hk; omega
          · rw [e] at hk; simp at hk; omega
        have hb10 : Below w9.heap.size w9 w10 := ((Below.refl _ w9).alloc (Nat.le_refl _) _).grown hg10 (by simp) (fun k hk => by simp [Value.ownBlock] at hk; omega)
        have hown10' : w10.ownsRow 0 39 2 (.slice A10 M1 c10) M1 (exs own) := hown10
        have H10 := Lib.hid (And.intro hA10 (And.intro hb10 hown10'))
        clear hown10 hg10 hat10 hA10 hb10 hown10'
        go_wp2_with (refine wpList_append_sz _ rfl (.tmp 246) (.tmp 247) 37 rfl 0 39 i0 (.agg #[.int .i64 0, .int .i64 0]) 2 16 Try.underlying37 hi hz0 hz1 hz2 rfl (by decide) _ M1 (exs own) rfl H10.out.2.2 A3 M3 c3 (exs tak) rfl (by rw [length_exs, HE.out.2.2]) (H9.out.2.2.1.below H10.out.2.1).toSrc (exs_one tak) (by unfold maxLen; omega) (by omega) (Nat.zero_le _) ?_)
        intro A11 c11 w11 hown11 hg11 hat11
        have hb11 : Below w9.heap.size w9 w11 := H10.out.2.1.grown hg11 H10.out.2.1.size H10.out.1
        rw [← exs_append] at hown11
        have HPt := Lib.hid (parted_any h S' _ (own ++ tak) (M1 + M3) c11 N f A11 w11 (H9.out.1.below hb11) HC.out (ExR.own hown11) (by have := HE.out.1; have := HE.out.2.2; simp; omega) (by omega) HP.out.2.1 (by show (clr s.l s.l.length).length = N; rw [length_clr]; exact HP.out.2.2.1))
        have H11 := Lib.hid (below_step H9.out.2.2.2 hb11)
        clear hb11 hown11 hg11 hat11
        go_wp2_with fail
        refine HPt.out.mono ?_
        rintro e w12 ⟨rfl, hb12⟩
        have H12 := Lib.hid (below_step H11.out hb12)
        clear hb12
        go_wp2_with fail
        exact ⟨rfl, .bool true, by simp [results, Try.results6, go_sem], rfl, H12.out⟩
end Go.Proofs.Ytinjkjgahipimaa
