/-
  ExtentNever: the law's walk.
-/
import Derived.Test.YtinjkjgahipimaaELst
import Derived.Deep.DeepCutAuto
set_option linter.unusedVariables false
namespace Go.Proofs.Ytinjkjgahipimaa
open Go.RowKit

theorem alc_longest {l : List Nat} {f n : Nat} (h : alc l f n = none) : ∀ x ∈ spc l f, x.2 < n := by
  unfold alc at h
  rw [List.find?_eq_none] at h
  intro x hx
  have := h x hx
  simp at this; exact this
theorem Lst.cap {W0 : Nat} {S : Nat → Prop} {w : World} {A : Option Addr} {c : Nat} {own : List (Nat × Nat)} (L : Lst W0 S w A c own) : own.length ≤ c ∧ (own.length ≤ 1000 → c ≤ maxLen) := by
  rcases L.2.2 with h | ⟨rfl, _⟩
  · rcases h.2 with ⟨e, h0⟩ | ⟨g, cap, cur, e, _, _, h1, h2, _⟩
    · injection e with _ e2 e3; exact ⟨by omega, fun _ => by rw [e3]; exact Nat.zero_le _⟩
    · injection e with _ _ e3; subst e3; exact ⟨h1, fun _ => h2⟩
  · exact ⟨Nat.le_refl _, fun h => by unfold maxLen; omega⟩
/-- what the loop keeps -/
def NvI (w : World) (f N h : Nat) (S : Nat → Prop) (M : Nat) (A : Option Addr) (c : Nat) (own : List (Nat × Nat)) (s : St) (wr : World) : Prop :=
  Mp wr h S s ∧ Cov s own ∧ s.f = f ∧ s.l.length = N ∧ own.length = M ∧ Lst w.heap.size S wr A c own ∧ Below w.heap.size w wr
section
variable {w wr wz : World} {f N h M c : Nat} {S : Nat → Prop} {A : Option Addr} {own : List (Nat × Nat)} {s : St}
theorem NvI.below (n : NvI w f N h S M A c own s wr) (hb : Below wr.heap.size wr wz) : NvI w f N h S M A c own s wz := by
  obtain ⟨h1, h2, h3, h4, h5, h6, h7⟩ := n
  exact ⟨h1.below hb, h2, h3, h4, h5, h6.below hb, below_step h7 hb⟩
theorem NvI.parted (n : NvI w f N h S M A c own s wr) (hM : M ≤ 4096) : Calls Try.prog 19 #[.pointer (some ⟨h, 0, none⟩), .slice A M c, .int .i64 f, .int .i64 N] wr fun e w' => e = .returned (.bool true) ∧ NvI w f N h S M A c own s w' := by
  obtain ⟨h1, h2, h3, h4, h5, h6, h7⟩ := n
  refine (parted_any h S s own M c N f A wr h1 h2 h6.1 h5 hM h3 h4).mono ?_
  rintro e w' ⟨rfl, hb⟩
  exact ⟨rfl, NvI.below ⟨h1, h2, h3, h4, h5, h6, h7⟩ hb⟩
/-- an extent is added -/
theorem NvI.added {x : Nat × Nat} {n : Nat} {w4 w5 w7 : World} {A' : Option Addr} {c' : Nat} (ni : NvI w f N h S M A c own s wr) (hn : 1 ≤ n) (hal : alc s.l s.f n = some x) (hm4 : Mp w4 h S (s.put x.1 n 1)) (ho4 : Only S wr w4)
    (hb5 : Below w4.heap.size w4 w5) (hS : ∀ i, S i → w.heap.size ≤ i) (hL : Lst w.heap.size S w7 A' c' (own ++ [(x.1, n)])) (ho : Only (OutS w.heap.size S) w5 w7) : NvI w f N h S (M + 1) A' c' (own ++ [(x.1, n)]) (s.put x.1 n 1) w7 := by
  obtain ⟨h1, h2, h3, h4, h5, h6, h7⟩ := ni
  refine ⟨(hm4.below hb5).keep ho (fun k hk h => h.2 hk), h2.alloc hn hal, h3, by rw [St.put_length]; exact h4, by rw [List.length_append, h5]; rfl, hL, ?_⟩
  exact below_of_only (below_step (below_of_only h7 ho4 hS) hb5) ho (fun i hi => hi.1)
/-- one is given back -/
theorem NvI.free (ni : NvI w f N h S M A c own s wr) (hS : ∀ i, S i → w.heap.size ≤ i) {k : Nat} (hk : k < M) :
    Calls Try.prog 18 #[.pointer (some ⟨h, 0, none⟩), .agg #[.int .i64 (own.getD k (0, 0)).1, .int .i64 (own.getD k (0, 0)).2]] wr fun e w' => e = .returned (.int .i64 0) ∧
      Mp w' h S (s.put (own.getD k (0, 0)).1 (own.getD k (0, 0)).2 0) ∧ Lst w.heap.size S w' A c own ∧ Below w.heap.size w w' := by
  obtain ⟨h1, h2, h3, h4, h5, h6, h7⟩ := ni
  have hx : own.getD k (0, 0) ∈ own := by rw [List.getD, List.getElem?_eq_getElem (by omega)]; exact List.getElem_mem _
  obtain ⟨q1, q2⟩ := h2.owned hx
  refine (free_ok h S s _ _ wr h1 h2.ok q1 q2).mono ?_
  rintro e w' ⟨rfl, hm, ho⟩
  rw [h2.op] at hm
  exact ⟨rfl, hm, h6.only ho, below_of_only h7 ho hS⟩
/-- and not twice -/
theorem NvI.again (ni : NvI w f N h S M A c own s wr) {k : Nat} (hk : k < M) {w4 : World} (m : Mp w4 h S (s.put (own.getD k (0, 0)).1 (own.getD k (0, 0)).2 0)) :
    Calls Try.prog 18 #[.pointer (some ⟨h, 0, none⟩), .agg #[.int .i64 (own.getD k (0, 0)).1, .int .i64 (own.getD k (0, 0)).2]] w4 fun e w' => e = .returned (.int .i64 1) ∧ Below w4.heap.size w4 w' := by
  obtain ⟨h1, h2, h3, h4, h5, h6, h7⟩ := ni
  have hx : own.getD k (0, 0) ∈ own := by rw [List.getD, List.getElem?_eq_getElem (by omega)]; exact List.getElem_mem _
  obtain ⟨q1, q2⟩ := h2.owned hx
  exact free_not h S _ _ _ w4 m (h2.free (k := k) (by omega)).ok (q1.put _ _ _) (h2.gone hx)
theorem NvI.gone (ni : NvI w f N h S M A c own s wr) {k : Nat} (hk : k < M) {w4 w7 : World} {A' : Option Addr} {c' : Nat} (m : Mp w4 h S (s.put (own.getD k (0, 0)).1 (own.getD k (0, 0)).2 0)) (hb : Below w.heap.size w w4)
    (hL : Lst w.heap.size S w7 A' c' (own.take k ++ own.drop (k + 1))) (ho : Only (OutS w.heap.size S) w4 w7) : NvI w f N h S (M - 1) A' c' (own.take k ++ own.drop (k + 1)) (s.put (own.getD k (0, 0)).1 (own.getD k (0, 0)).2 0) w7 := by
  obtain ⟨h1, h2, h3, h4, h5, h6, h7⟩ := ni
  exact ⟨m.keep ho (fun k hk h => h.2 hk), h2.free (by omega), h3, by rw [St.put_length]; exact h4, by simp; omega, hL, below_of_only hb ho (fun i hi => hi.1)⟩
end
theorem tmodM (P : Int) (M : Nat) (hM : 0 < M) : ∃ q : Nat, q < M ∧ Int.tmod (Int.tmod P M + M) M = (q : Int) ∧ -(M : Int) < Int.tmod P M ∧ Int.tmod P M < M := by
  have hb : -(M : Int) < Int.tmod P M ∧ Int.tmod P M < M := by
    rcases Int.le_total 0 P with h | h
    · rw [Int.tmod_eq_emod_of_nonneg h]
      have := Int.emod_nonneg P (show (M : Int) ≠ 0 by omega)
      have := Int.emod_lt_of_pos P (show (0 : Int) < M by omega)
      omega
    · have h2 : P = -(-P) := by omega
      rw [h2, Int.neg_tmod, Int.tmod_eq_emod_of_nonneg (by omega : 0 ≤ -P)]
      have := Int.emod_nonneg (-P) (show (M : Int) ≠ 0 by omega)
      have := Int.emod_lt_of_pos (-P) (show (0 : Int) < M by omega)
      omega
  have e := Int.tmod_eq_emod_of_nonneg (a := Int.tmod P M + M) (b := M) (by omega)
  have h1 := Int.emod_nonneg (Int.tmod P M + M) (show (M : Int) ≠ 0 by omega)
  have h2 := Int.emod_lt_of_pos (Int.tmod P M + M) (show (0 : Int) < M by omega)
  exact ⟨((Int.tmod P M + M) % M).toNat, by omega, by rw [e]; omega, hb.1, hb.2⟩

set_option maxRecDepth 100000 in
set_option maxHeartbeats 4000000 in
theorem never_any (f0 n0 : Int) (L : Option Addr) (len cap : Nat) (v : Nat → OpV) (w : World) (hl : len ≤ 9223372036854775807) (hL : OpR w L len v) :
    Calls Try.prog 4 #[.int .i64 f0, .int .i64 n0, .slice L len cap] w fun e w' => e = .returned (.bool true) ∧ Below w.heap.size w w' := by
  have hsize := size_any f0 n0
  have HL := Lib.hid (And.intro hL hsize)
  clear hL hsize
  go_enter Try.func4, Try.ntmps4
  go_wp2_with fail
  refine (HL.out.2 _).mono ?_
  rintro e w' ⟨⟨f, b, hf, hb, rfl⟩, rfl⟩
  obtain ⟨N, hN⟩ : ∃ N, N = f + b := ⟨_, rfl⟩
  rw [← hN]
  have hfN : f ≤ N := by omega
  have hN140 : N < 140 := by omega
  clear hN hb
  go_wp2_with fail
  refine (new_yes f N w hfN (by omega)).mono ?_
  rintro e w1 ⟨h, S, rfl, hm, hb, hS⟩
  have H1 := Lib.hid (And.intro hm (And.intro hb hS))
  clear hm hb hS
  go_wp2_with fail
  refine (awake_any w1).mono ?_
  rintro e w2 ⟨rfl, hb⟩
  have H2 : Hid (NvI w f N h S 0 none 0 [] (newSt f N) w2) := ⟨H1.out.1.below hb, Cov.new hfN (by omega), rfl, by simp [newSt], rfl, Lst.nil, below_step H1.out.2.1 hb⟩
  clear hb
  go_upto_block 0 with fail
  go_cut [9] (fun v9 wx => ∃ (M : Nat) (A : Option Addr) (c : Nat) (own : List (Nat × Nat)) (s : St), M ≤ 100 ∧ v9 = .slice A M c ∧ NvI w f N h S M A c own s wx)
  case first =>
    go_wp2_with fail
    obtain ⟨K, hK⟩ : ∃ K, K = min len 100 := ⟨_, rfl⟩
    have hK60 : K ≤ 100 := by omega
    have hKl : K ≤ len := by omega
    have HK := Lib.hid hK
    clear hK
    go_loopg [9, 10] K (fun gg v9 i wr => ∃ k : Nat, k + gg = K ∧ i = .int .i64 k ∧ ∃ (M : Nat) (A : Option Addr) (c : Nat) (own : List (Nat × Nat)) (s : St), M ≤ k ∧ v9 = .slice A M c ∧ NvI w f N h S M A c own s wr)
    case atStart => exact ⟨0, by omega, rfl, 0, none, 0, [], _, Nat.le_refl _, rfl, H2.out⟩
    case round =>
      obtain ⟨k, hk, rfl, M, A, c, own, s, hMk, rfl, hni⟩ := hrel
      have hcp := hni.2.2.2.2.2.1.cap
      have hMo := hni.2.2.2.2.1
      have hMc : M ≤ c := by omega
      have HI := Lib.hid hni
      clear hni
      by_cases hlt : k < K
      · have hc63 : c ≤ maxLen := hcp.2 (by omega)
        unfold maxLen at hc63
        clear hcp hMo
        have hkl : k < len := by omega
        have hk60 : k < 100 := by omega
        obtain ⟨bl, off, rfl, hbl, hcl⟩ := HL.out.1 (by omega)
        obtain ⟨x0, _, x2, _, _⟩ := hcl k hkl
        have HX : Hid (∀ w', Below w.heap.size w w' → w'.cell? ⟨bl, off + k * 5, none⟩ = some (.int .i64 (v k).kd) ∧ w'.cell? ⟨bl, off + k * 5 + 2, none⟩ = some (.int .i64 (v k).n)) := fun w' hb =>
          ⟨(hb.cell (p := ⟨bl, off + k * 5, none⟩) hbl).trans x0, (hb.cell (p := ⟨bl, off + k * 5 + 2, none⟩) hbl).trans x2⟩
        obtain ⟨kd, hkd⟩ : ∃ kd, kd = (v k).kd := ⟨_, rfl⟩
        obtain ⟨P, hP⟩ : ∃ P, P = (v k).n := ⟨_, rfl⟩
        rw [← hkd, ← hP] at HX
        obtain ⟨y0, y2⟩ := HX.out _ HI.out.2.2.2.2.2.2
        clear x0 x2 hcl hkd hP
        by_cases hk1 : kd = 1
        · subst hk1
          rcases Nat.eq_zero_or_pos M with hM0 | hM0
          · have hM1 : decide ((0 : Int) < (M : Int)) = false := decide_eq_false (by omega)
            have hM2 : decide (0 < M) = false := decide_eq_false (by omega)
            have HP := Lib.hid (HI.out.parted (by omega))
            clear hM0 y2
            go_wp2_with fail
            refine HP.out.mono ?_
            rintro e w9 ⟨rfl, hni⟩
            have H9 := Lib.hid hni
            clear hni
            go_wp2_with fail
            go_roundg (gk - 1)
            case measure => omega
            case rel => exact ⟨k + 1, by omega, by go_num, M, A, c, own, s, by omega, rfl, H9.out⟩
          · have hM1 : decide ((0 : Int) < (M : Int)) = true := decide_eq_true (by omega)
            have hM2 : decide (0 < M) = true := decide_eq_true (by omega)
            have hM3 : ¬ ((M : Int) = 0) := by omega
            obtain ⟨q, hqM, hq, hz1, hz2⟩ := tmodM P M hM0
            obtain ⟨z, hz⟩ : ∃ z, z = Int.tmod P (M : Int) := ⟨_, rfl⟩
            rw [← hz] at hq hz1 hz2
            have hz' : Int.tmod P (M : Int) = z := hz.symm
            clear hz
            have HF := HI.out.free H1.out.2.2 hqM
            have HA := fun w4 => HI.out.again hqM (w4 := w4)
            have HG := fun (w4 w7 : World) (A' : Option Addr) (c' : Nat) => HI.out.gone hqM (w4 := w4) (w7 := w7) (A' := A') (c' := c')
            have hqo : q < own.length := by have := HI.out.2.2.2.2.1; omega
            have HC := fun (w' : World) (Lw : Lst w.heap.size S w' A c own) => Lw.1 q hqo
            obtain ⟨x, hx⟩ : ∃ x, x = own.getD q (0, 0) := ⟨_, rfl⟩
            rw [← hx] at HF
            simp only [← hx] at HA HG HC
            obtain ⟨xa, xb⟩ := x
            simp only at HF HA HG HC
            obtain ⟨g, rfl, a0, a1⟩ := HC wr HI.out.2.2.2.2.2.1
            have HF := Lib.hid HF
            have HA := Lib.hid HA
            have HG := Lib.hid HG
            have HC := Lib.hid HC
            have HM0 := Lib.hid hqo
            clear hx hqo
            go_wp2_with fail
            refine HF.out.mono ?_
            rintro e w4 ⟨rfl, hm4, hl4, hb4⟩
            obtain ⟨g', hgg, d0, d1⟩ := HC.out w4 hl4
            obtain rfl : g = g' := by simpa using hgg
            have H4 := Lib.hid (And.intro hm4 (And.intro hl4 hb4))
            clear hm4 hl4 hb4 hgg a0 a1 y2 hz'
            go_wp2_with fail
            refine (HA.out w4 H4.out.1).mono ?_
            rintro e w5 ⟨rfl, hb5⟩
            have H5 := Lib.hid (And.intro (H4.out.1.below hb5) (And.intro (H4.out.2.1.below hb5) (below_step H4.out.2.2 hb5)))
            clear hb5 d0 d1
            go_upto_region 26 with fail
            have hqc : q ≤ c := by omega
            obtain ⟨r, hr⟩ : ∃ r, r = q + 1 := ⟨_, rfl⟩
            have hrM : r ≤ M := by omega
            have hwr : IntKind.i64.wrap ((q : Int) + 1) = (r : Int) := by rw [hr]; exact IntWalk.i64_in _ (by omega)
            have Hr := Lib.hid hr
            clear hr
            go_still_tail 8, (by kernel_rfl)
            change wpList _ _ _ _ _ w5.drew
            obtain ⟨w6, hw6⟩ : ∃ w6, w6 = w5.drew := ⟨_, rfl⟩
            have H6 : Hid (Lst w.heap.size S w6 (some ⟨g, 0, none⟩) c own ∧ Mp w6 h S (s.put xa xb 0) ∧ Below w.heap.size w w6) := by
              rw [hw6]
              exact ⟨H5.out.2.1.below (Below.refl _ w5).drew, H5.out.1.below (Below.refl _ w5).drew, H5.out.2.2.drew⟩
            rw [← hw6]
            clear hw6 hwr
            refine wpList_append_out rfl (.tmp 153) (.tmp 157) rfl H6.out.1 q M HI.out.2.2.2.2.1 hqM (by omega) g rfl rfl _ _ (by rw [← Hr.out]; rfl) (fun h => ?hB) (fun _ _ _ => trivial) H6.out.2.2.size H6.out.2.1.lt ?hB0 ?_
            case hB => have hr2 := Hr.out; rw [← hr2]; split <;> first | rfl | (exfalso; omega)
            case hB0 => split <;> exact ⟨_, rfl⟩
            intro A' c' w7 hL7 ho7
            have hni7 := HG.out w6 w7 A' c' H6.out.2.1 H6.out.2.2 hL7 ho7
            have HP := Lib.hid (And.intro (hni7.parted (by omega)) hni7)
            clear hL7 ho7 hni7
            go_wp2_with fail
            all_goals
              refine HP.out.1.mono ?_
              rintro e w9 ⟨rfl, hni⟩
              have H9 := Lib.hid hni
              clear hni
              go_wp2_with fail
              go_roundg (gk - 1)
              case measure => omega
              case rel => exact ⟨k + 1, by omega, by go_num, M - 1, A', c', _, _, by omega, rfl, H9.out⟩
        · have hkb : (kd != 1) = true := by rw [bne_iff_ne]; exact hk1
          obtain ⟨t1, t2⟩ := tmod9 P
          obtain ⟨q, hq⟩ : ∃ q, q = ((Int.tmod P 9 + 9) % 9).toNat := ⟨_, rfl⟩
          have q1 : (Int.tmod P 9 + 9) % 9 = (q : Int) := by omega
          have q2 : Int.tmod P 9 % 9 = (q : Int) := by omega
          have q3 : q < 9 := by omega
          obtain ⟨n, hn⟩ : ∃ n, n = 1 + q := ⟨_, rfl⟩
          have hni : (1 : Int) + (q : Int) = (n : Int) := by omega
          have hn1 : 1 ≤ n := by omega
          have hn2 : n ≤ 9 := by omega
          clear hq hn
          go_wp2_with fail
          refine (spacesC_any h S s wr HI.out.1 HI.out.2.1.ok).mono ?_
          rintro e w3 ⟨u, rfl, hown3, hb3⟩
          obtain ⟨sp, hsp⟩ : ∃ sp, sp = spc s.l s.f := ⟨_, rfl⟩
          rw [← hsp] at hown3
          obtain ⟨A3, c3, rfl, hx3, _⟩ := own_shapeE hown3
          obtain ⟨Q, hQ⟩ : ∃ Q, Q = sp.length := ⟨_, rfl⟩
          rw [← hQ]
          have hQN : Q ≤ N := by have := spc_length s.l s.f; have := HI.out.2.2.2.1; rw [hQ, hsp]; omega
          have H3 := Lib.hid (And.intro hx3 (And.intro hsp (And.intro hQ (HI.out.below hb3))))
          clear hx3 hsp hQ hb3 hown3 y0 y2 q1 q2 hni
          go_wp2_with fail
          go_loopg [12, 14] Q (fun gg v12 v14 wq => ∃ i m : Nat, i + gg = Q ∧ v14 = .int .i64 i ∧ v12 = .int .i64 m ∧ m ≤ 4096 ∧ (∀ j, j < i → (sp.getD j (0, 0)).2 ≤ m) ∧ (m = 0 ∨ ∃ j, j < i ∧ m = (sp.getD j (0, 0)).2) ∧ wq = w3)
          case atStart => exact ⟨0, 0, by omega, rfl, rfl, by omega, (fun j h => by omega), .inl rfl, rfl⟩
          case round =>
            obtain ⟨i, m, hi1, rfl, rfl, hm4, hmax, hatt, rfl⟩ := hrel
            by_cases hiQ : i < Q
            · have hio : i < sp.length := by have := H3.out.2.2.1; omega
              obtain ⟨g, rfl, _, c1⟩ := H3.out.1 i hio
              have hx4 : (sp.getD i (0, 0)).2 ≤ 4096 := by
                have hmem : sp.getD i (0, 0) ∈ spc s.l s.f := by rw [← H3.out.2.1, List.getD, List.getElem?_eq_getElem hio]; exact List.getElem_mem hio
                have h1 := (spc_in hmem).2.2.1
                have := HI.out.2.2.2.1
                omega
              have hsucc : ∀ j, j < i + 1 → (sp.getD j (0, 0)).2 ≤ m ∨ j = i := fun j hj => by
                rcases Nat.lt_succ_iff_lt_or_eq.1 hj with h | h
                · exact .inl (hmax j h)
                · exact .inr h
              obtain ⟨x, hx⟩ : ∃ x, x = (sp.getD i (0, 0)).2 := ⟨_, rfl⟩
              rw [← hx] at c1 hx4
              have HM := Lib.hid (And.intro hsucc (And.intro hatt hx))
              clear hmax hatt hsucc hx hio
              go_wp2_with fail
              all_goals
                go_roundg (Q - i - 1)
                case measure => omega
                case rel =>
                  first
                    | refine ⟨i + 1, m, by omega, by go_num, rfl, by omega, fun j hj => ?_, ?_, rfl⟩
                      · rcases HM.out.1 j hj with h | h
                        · exact h
                        · rw [h, ← HM.out.2.2]; omega
                      · rcases HM.out.2.1 with h | ⟨j, hj, h⟩
                        · exact .inl h
                        · exact .inr ⟨j, by omega, h⟩
                    | refine ⟨i + 1, x, by omega, by go_num, rfl, by omega, fun j hj => ?_, ?_, rfl⟩
                      · rcases HM.out.1 j hj with h | h
                        · omega
                        · rw [h, ← HM.out.2.2]; omega
                      · exact .inr ⟨i, by omega, HM.out.2.2⟩
            · have hiQ : i = Q := by omega
              subst hiQ
              have hcases : (alc s.l s.f n = none ∧ m < n) ∨ ∃ x, alc s.l s.f n = some x ∧ n ≤ m := by
                cases hal : alc s.l s.f n with
                | none =>
                  refine .inl ⟨rfl, ?_⟩
                  rcases hatt with h | ⟨j, hj, h⟩
                  · omega
                  · have := alc_longest hal (sp.getD j (0, 0)) (by rw [← H3.out.2.1, List.getD, List.getElem?_eq_getElem (by have := H3.out.2.2.1; omega)]; exact List.getElem_mem _)
                    omega
                | some x =>
                  obtain ⟨h1, h2⟩ := alc_fits hal
                  rw [← H3.out.2.1] at h1
                  obtain ⟨j, hj, e⟩ := List.mem_iff_getElem.1 h1
                  have := hmax j (by have := H3.out.2.2.1; omega)
                  rw [List.getD, List.getElem?_eq_getElem hj, Option.getD_some, e] at this
                  exact .inr ⟨x, rfl, by omega⟩
              clear hmax hatt
              rcases hcases with ⟨hal, hnm⟩ | ⟨x, hal, hnm⟩
              · have HC := Lib.hid (alloc_no _ H3.out.2.2.2.1 H3.out.2.2.2.2.1.ok hn1 (by omega) hal)
                have hd1 : decide ((n : Int) ≤ (m : Int)) = false := decide_eq_false (by omega)
                have hd2 : decide (n ≤ m) = false := decide_eq_false (by omega)
                clear hal hnm
                go_wp2_with fail
                refine HC.out.mono ?_
                rintro e w4 ⟨rfl, hb⟩
                have H4 := Lib.hid (H3.out.2.2.2.below (hb.alloc hb.size (.cells #[.int .i64 0, .int .i64 0] 39)))
                have HP := Lib.hid (H4.out.parted (by omega))
                have hbx := Blk.new w4 39 #[.int .i64 0, .int .i64 0]
                have b1 := hbx.cell 1
                simp at b1
                clear hb hbx
                go_wp2_with fail
                refine HP.out.mono ?_
                rintro e w9 ⟨rfl, hni⟩
                have H9 := Lib.hid hni
                clear hni
                go_wp2_with fail
                go_roundg (K - k - 1)
                case measure => omega
                case rel => exact ⟨k + 1, by omega, by go_num, M, A, c, own, s, by omega, rfl, H9.out⟩
              · have HC := Lib.hid (alloc_yes _ H3.out.2.2.2.1 H3.out.2.2.2.2.1.ok hn1 (by omega) hal)
                have HAL := Lib.hid hal
                have hd1 : decide ((n : Int) ≤ (m : Int)) = true := decide_eq_true (by omega)
                have hd2 : decide (n ≤ m) = true := decide_eq_true (by omega)
                clear hal hnm
                go_wp2_with fail
                refine HC.out.mono ?_
                rintro e w4 ⟨rfl, hm4, ho⟩
                go_upto_region 18 with fail
                have hbx := Blk.new w4 39 #[.int .i64 x.1, .int .i64 n]
                have HL4 : Hid (Lst w.heap.size S (w4.alloc (.cells #[.int .i64 x.1, .int .i64 n] 39)) A c own ∧ Below w4.heap.size w4 (w4.alloc (.cells #[.int .i64 x.1, .int .i64 n] 39))) :=
                  ⟨(H3.out.2.2.2.2.2.2.2.2.1.only ho).below ((Below.refl _ w4).alloc (Nat.le_refl _) _), (Below.refl _ w4).alloc (Nat.le_refl _) _⟩
                obtain ⟨w5, hw5⟩ : ∃ w5, w5 = w4.alloc (.cells #[.int .i64 x.1, .int .i64 n] 39) := ⟨_, rfl⟩
                obtain ⟨gx, hgx⟩ : ∃ gx, gx = w4.heap.size := ⟨_, rfl⟩
                rw [← hw5] at HL4
                rw [← hw5, ← hgx] at hbx
                rw [← hw5, ← hgx]
                have x0 := hbx.cell 0
                have x1 := hbx.cell 1
                simp at x0 x1
                have HO := Lib.hid (And.intro hm4 ho)
                clear hw5 hgx hbx hm4 ho
                have hMo := Lib.hid HI.out.2.2.2.2.1
                go_upto_region 21 with fail
                go_wp2_with (refine wpList_append_lst rfl (.tmp 113) (.tmp 115) rfl (HL4.out.1.below ((Below.refl _ w5).alloc (Nat.le_refl _) _)) M hMo.out (by omega) rfl w5.heap.size x.1 n rfl (cell_two_new _ _ _ _) ?q1 ?q2 ?_)
                case q1 =>
                  have h1 := H3.out.2.2.2.2.2.2.2.2.2.size
                  have h2 := HO.out.2.size
                  have h3 := HL4.out.2.size
                  simp; omega
                case q2 =>
                  intro i hi
                  have h1 := HO.out.1.lt i hi
                  have h3 := HL4.out.2.size
                  simp; omega
                intro A' c' w7 hL7 ho7
                have hni7 : NvI w f N h S (M + 1) A' c' (own ++ [(x.1, n)]) (s.put x.1 n 1) w7 := H3.out.2.2.2.added hn1 HAL.out HO.out.1 HO.out.2 (HL4.out.2.alloc HL4.out.2.size _) H1.out.2.2 hL7 ho7
                have HP := Lib.hid (And.intro (hni7.parted (by omega)) hni7)
                clear hL7 ho7 hni7
                go_wp2_with fail
                refine HP.out.1.mono ?_
                rintro e w9 ⟨rfl, hni⟩
                have H9 := Lib.hid hni
                clear hni
                go_wp2_with fail
                go_roundg (K - k - 1)
                case measure => omega
                case rel => exact ⟨k + 1, by omega, by go_num, M + 1, A', c', _, _, by omega, by go_num, H9.out⟩
      · have hk2 : k = K := by omega
        subst hk2
        clear hcp hMo
        by_cases hkl : k < len
        · have hk60 : k = 100 := by have := HK.out; omega
          subst hk60
          go_wp2_with fail
          go_meet
          exact ⟨M, A, c, own, s, hMk, rfl, HI.out⟩
        · have hkl : k = len := by omega
          subst hkl
          go_wp2_with fail
          go_meet
          exact ⟨M, A, c, own, s, by omega, rfl, HI.out⟩
  case rest =>
    obtain ⟨M, A, c, own, s, hM100, rfl, hni⟩ := hcut
    have HI := Lib.hid hni
    clear hni
    have hMc := HI.out.2.2.2.2.2.1.cap.1
    rw [HI.out.2.2.2.2.1] at hMc
    go_wp2_with fail
    go_loopg [18] M (fun gg v18 wz => ∃ (j : Nat) (si : St), j + gg = M ∧ v18 = .int .i64 j ∧ Mp wz h S si ∧ Cov si (own.drop j) ∧ si.f = f ∧ si.l.length = N ∧ Lst w.heap.size S wz A c own ∧ Below w.heap.size w wz)
    case atStart => exact ⟨0, s, by omega, rfl, HI.out.1, HI.out.2.1, HI.out.2.2.1, HI.out.2.2.2.1, HI.out.2.2.2.2.2.1, HI.out.2.2.2.2.2.2⟩
    case round =>
      obtain ⟨j, si, hj, rfl, hm, hc, hsf, hsl, hL, hb⟩ := hrel
      by_cases hjM : j < M
      · have hjo : j < own.length := by have := HI.out.2.2.2.2.1; omega
        have hf1 := free_front h S si own j wr hm hc hjo
        obtain ⟨g, rfl, a0, a1⟩ := hL.1 j hjo
        obtain ⟨x, hx⟩ : ∃ x, x = own.getD j (0, 0) := ⟨_, rfl⟩
        rw [← hx] at a0 a1 hf1
        obtain ⟨xa, xb⟩ := x
        simp only at a0 a1 hf1
        have HF1 := Lib.hid hf1
        have HZ := Lib.hid (And.intro hL (And.intro hb (And.intro hsf hsl)))
        clear hx hf1 hm hc hsf hsl hL hb
        go_wp2_with fail
        refine HF1.out.mono ?_
        rintro e wf ⟨rfl, si', hmf, hcf, hff, hlf, hof⟩
        have HG := Lib.hid (And.intro hmf (And.intro hcf (And.intro (hff.trans HZ.out.2.2.1) (And.intro (hlf.trans HZ.out.2.2.2) (And.intro (HZ.out.1.only hof) (below_of_only HZ.out.2.1 hof H1.out.2.2))))))
        clear hmf hcf hff hlf hof a0 a1
        go_wp2_with fail
        go_roundg (gk - 1)
        case measure => omega
        case rel => exact ⟨j + 1, si', by omega, by go_num, HG.out.1, HG.out.2.1, HG.out.2.2.1, HG.out.2.2.2.1, HG.out.2.2.2.2.1, HG.out.2.2.2.2.2⟩
      · have hd1 : own.drop j = [] := List.drop_eq_nil_of_le (by have := HI.out.2.2.2.2.1; omega)
        rw [hd1] at hc
        have r1 := hc.room
        have hr := room_any h S si wr hm hc.ok
        rw [r1, hsf, hsl, Int.ofNat_sub hfN] at hr
        have HR := Lib.hid hr
        have HB := Lib.hid hb
        have hjM' : j = M := by omega
        subst hjM'
        clear hd1 r1 hr hm hc hsf hsl hL hb
        go_wp2_with fail
        refine HR.out.mono ?_
        rintro e w9 ⟨rfl, hb9⟩
        have H9 := Lib.hid (below_step HB.out hb9)
        clear hb9
        go_wp2_with fail
        exact ⟨rfl, .bool true, by simp [results, Try.results4, go_sem], rfl, H9.out⟩
end Go.Proofs.Ytinjkjgahipimaa
