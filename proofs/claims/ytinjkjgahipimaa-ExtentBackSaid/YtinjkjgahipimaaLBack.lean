/-
  ExtentBack: the law's walk.
-/
import Derived.Test.YtinjkjgahipimaaEBack2
set_option linter.unusedVariables false
namespace Go.Proofs.Ytinjkjgahipimaa
open Go.RowKit

/-- what an append onto what is owned leaves of a map -/
theorem app_pre {w w5 : World} {h M c : Nat} {A : Option Addr} {S : Nat → Prop} {s : St} {xs : List Value} (m : Mp w5 h S s) (hown : w5.ownsRow 0 39 2 (.slice A M c) M xs) (hb : Below w.heap.size w w5)
    (hblk : ∀ g, Value.ownBlock (.slice A M c) = some g → ¬ S g ∧ w.heap.size ≤ g) (o : Obj) {w7 : World} {A' : Option Addr} {c' M' : Nat} (hgrow : (w5.alloc o).grownBy w7 (Value.ownBlock (.slice A M c)))
    (hat : Value.ownBlock (.slice A' M' c') = Value.ownBlock (.slice A M c) ∨ Value.ownBlock (.slice A' M' c') = some (w5.heap.size + 1)) :
    Mp w7 h S s ∧ (∀ g, Value.ownBlock (.slice A' M' c') = some g → ¬ S g ∧ w.heap.size ≤ g) ∧ Below w.heap.size w w7 := by
  refine ⟨?_, fun g hg => ?_, ?_⟩
  · refine m.keep (F := fun k => Value.ownBlock (.slice A M c) = some k) (((Only.refl (fun k => Value.ownBlock (.slice A M c) = some k) w5).alloc o).grown hgrow (fun g hg => .inl hg)) fun k hk e => (hblk k e).1 hk
  · rcases hat with e | e
    · rw [e] at hg; exact hblk g hg
    · rw [e] at hg
      have hs := hb.size
      simp at hg
      exact ⟨fun hs => by have := m.lt g hs; omega, by omega⟩
  · exact (hb.alloc hb.size o).grown hgrow (by have := hb.size; simp; omega) (fun k hk => (hblk k hk).2)
/-- what the loop that takes keeps -/
def BkI (w : World) (f N h : Nat) (S : Nat → Prop) (k : Nat) (v : Value) (wr : World) : Prop :=
  ∃ (s : St) (own : List (Nat × Nat)) (M c : Nat) (A : Option Addr), Mp wr h S s ∧ Cov s own ∧ s.f = f ∧ s.l.length = N ∧ own.length = M ∧ M ≤ k ∧ v = .slice A M c ∧ wr.ownsRow 0 39 2 (.slice A M c) M (exs own) ∧
    (∀ g, Value.ownBlock (.slice A M c) = some g → ¬ S g ∧ w.heap.size ≤ g) ∧ Below w.heap.size w wr

set_option maxRecDepth 100000 in
set_option maxHeartbeats 2000000 in
theorem back_any (f0 n0 : Int) (L : Option Addr) (len cap : Nat) (v : Nat → OpV) (w : World) (hl : len ≤ 9223372036854775807) (hL : OpR w L len v) :
    Calls Try.prog 5 #[.int .i64 f0, .int .i64 n0, .slice L len cap] w fun e w' => e = .returned (.bool true) ∧ Below w.heap.size w w' := by
  obtain ⟨i0, hi, hz0, hz1, hz2⟩ := info_parts info39
  have hsize := size_any f0 n0
  have HL := Lib.hid (And.intro hL hsize)
  clear hL hsize
  go_enter Try.func5, Try.ntmps5
  go_wp2_with fail
  refine (HL.out.2 _).mono ?_
  rintro e w' ⟨⟨f, b, hf, hb, rfl⟩, rfl⟩
  obtain ⟨N, hN⟩ : ∃ N, N = f + b := ⟨_, rfl⟩
  rw [← hN]
  have hfN : f ≤ N := by omega
  have hN4 : N ≤ 4096 := by omega
  have hN140 : N < 140 := by omega
  clear hN hb
  go_wp2_with fail
  refine (new_yes f N w hfN hN4).mono ?_
  rintro e w1 ⟨h, S, rfl, hm, hb, hS⟩
  have H1 := Lib.hid (And.intro hm (And.intro hb hS))
  clear hm hb hS
  go_wp2_with fail
  refine (awake_any w1).mono ?_
  rintro e w2 ⟨rfl, hb⟩
  have H2 := Lib.hid (And.intro (H1.out.1.below hb) (below_step H1.out.2.1 hb))
  clear hb
  go_wp2_with fail
  refine (bits_any h S (newSt f N) w2 H2.out.1 (newSt_ok hfN hN4)).mono ?_
  rintro e w3 ⟨rfl, hb⟩
  have H3 := Lib.hid (And.intro (H2.out.1.below hb) (below_step H2.out.2 hb))
  clear hb
  obtain ⟨T0, hT0⟩ : ∃ T, T = bitsT (newSt f N).f (newSt f N).l := ⟨_, rfl⟩
  have HT0 := Lib.hid hT0
  rw [← hT0]
  clear hT0
  go_upto_block 0 with fail
  go_cut [10] (fun v10 wx => ∃ k, k ≤ 60 ∧ BkI w f N h S k v10 wx)
  case first =>
   go_wp2_with fail
   obtain ⟨K, hK⟩ : ∃ K, K = min len 60 := ⟨_, rfl⟩
   have hK60 : K ≤ 60 := by omega
   have hKl : K ≤ len := by omega
   have HK := Lib.hid hK
   clear hK
   go_loopg [10, 11] K (fun gg v10 i wr => ∃ k : Nat, k + gg = K ∧ i = .int .i64 k ∧ BkI w f N h S k v10 wr)
   case atStart =>
     exact ⟨0, by omega, rfl, newSt f N, [], 0, 0, none, H3.out.1, Cov.new hfN hN4, rfl, by simp [newSt], rfl, Nat.le_refl _, rfl, World.ownsRow_nil _ _ _ _, (fun g hg => by simp [Value.ownBlock] at hg), H3.out.2⟩
   case round =>
     obtain ⟨k, hk, rfl, s, own, M, c, A, hm, hcov, hsf, hsl, hM, hMk, rfl, hown, hblk, hbel⟩ := hrel
     have HI := Lib.hid (And.intro hm (And.intro hcov (And.intro hsf (And.intro hsl (And.intro hM (And.intro hown (And.intro hblk hbel)))))))
     clear hm hcov hsf hsl hM hown hblk hbel
     by_cases hlt : k < K
     · have hkl : k < len := by omega
       have hk60 : k < 60 := by omega
       obtain ⟨bl, off, rfl, hbl, hcl⟩ := HL.out.1 (by omega)
       obtain ⟨_, _, x2, _, _⟩ := hcl k hkl
       have y2 : wr.cell? ⟨bl, off + k * 5 + 2, none⟩ = some (.int .i64 (v k).n) := (HI.out.2.2.2.2.2.2.2.cell (p := ⟨bl, off + k * 5 + 2, none⟩) hbl).trans x2
       obtain ⟨P, hP⟩ : ∃ P, P = (v k).n := ⟨_, rfl⟩
       rw [← hP] at y2
       obtain ⟨t1, t2⟩ := tmod9 P
       obtain ⟨q, hq⟩ : ∃ q, q = ((Int.tmod P 9 + 9) % 9).toNat := ⟨_, rfl⟩
       have q1 : (Int.tmod P 9 + 9) % 9 = (q : Int) := by omega
       have q2 : Int.tmod P 9 % 9 = (q : Int) := by omega
       have q3 : q < 9 := by omega
       obtain ⟨n, hn⟩ : ∃ n, n = 1 + q := ⟨_, rfl⟩
       have hni : (1 : Int) + (q : Int) = (n : Int) := by omega
       have hn1 : 1 ≤ n := by omega
       have hn2 : n ≤ 9 := by omega
       clear hq hn x2 hcl hP
       go_wp2_with fail
       cases hal : alc s.l s.f n with
       | none =>
         refine (alloc_no wr HI.out.1 HI.out.2.1.ok hn1 (by omega) hal).mono ?_
         rintro e w4 ⟨rfl, hb⟩
         have hmb := HI.out.1.below hb
         have hob := own_only HI.out.2.2.2.2.2.1 (Only.of_below (F := fun _ => False) hb) (fun _ _ h => h)
         have hbl4 := below_step HI.out.2.2.2.2.2.2.2 hb
         have H4 : Hid (Mp (w4.alloc (.cells #[.int .i64 0, .int .i64 0] 39)) h S s ∧ (w4.alloc (.cells #[.int .i64 0, .int .i64 0] 39)).ownsRow 0 39 2 (.slice A M c) M (exs own) ∧ Below w.heap.size w (w4.alloc (.cells #[.int .i64 0, .int .i64 0] 39))) :=
           ⟨hmb.below ((Below.refl _ w4).alloc (Nat.le_refl _) _), hob.alloc _, hbl4.alloc hbl4.size _⟩
         clear hb hmb hob hbl4 y2
         go_wp2_with fail
         go_roundg (gk - 1)
         case measure => omega
         case rel => exact ⟨k + 1, by omega, by go_num, s, own, M, c, A, H4.out.1, HI.out.2.1, HI.out.2.2.1, HI.out.2.2.2.1, HI.out.2.2.2.2.1, by omega, rfl, H4.out.2.1, HI.out.2.2.2.2.2.2.1, H4.out.2.2⟩
       | some x =>
         refine (alloc_yes wr HI.out.1 HI.out.2.1.ok hn1 (by omega) hal).mono ?_
         rintro e w4 ⟨rfl, hm4, ho⟩
         have hob := own_only HI.out.2.2.2.2.2.1 ho (fun g hg => (HI.out.2.2.2.2.2.2.1 g hg).1)
         have hbl4 := below_of_only HI.out.2.2.2.2.2.2.2 ho H1.out.2.2
         have hlt4 := hm4.lt
         have hbx := Blk.new w4 39 #[.int .i64 x.1, .int .i64 n]
         have H5 : Hid (Mp (w4.alloc (.cells #[.int .i64 x.1, .int .i64 n] 39)) h S (s.put x.1 n 1) ∧ (w4.alloc (.cells #[.int .i64 x.1, .int .i64 n] 39)).ownsRow 0 39 2 (.slice A M c) M (exs own) ∧ Below w.heap.size w (w4.alloc (.cells #[.int .i64 x.1, .int .i64 n] 39))) :=
           ⟨hm4.below ((Below.refl _ w4).alloc (Nat.le_refl _) _), hob.alloc _, hbl4.alloc hbl4.size _⟩
         go_upto_region 11 with fail
         obtain ⟨w5, hw5⟩ : ∃ w5, w5 = w4.alloc (.cells #[.int .i64 x.1, .int .i64 n] 39) := ⟨_, rfl⟩
         obtain ⟨gx, hgx⟩ : ∃ gx, gx = w4.heap.size := ⟨_, rfl⟩
         rw [← hw5] at H5
         rw [← hw5, ← hgx] at hbx
         rw [← hw5, ← hgx]
         clear hw5 hgx hm4 ho hob hbl4 hlt4 y2
         have x0 := hbx.cell 0
         have x1 := hbx.cell 1
         simp at x0 x1
         clear hbx
         have hM60 : M ≤ 60 := by omega
         have H6 := Lib.hid (HI.out.2.1.alloc hn1 hal)
         go_wp2_with (refine wpList_append_sz _ rfl (.tmp 67) (.tmp 69) 37 rfl 0 39 i0 (.agg #[.int .i64 0, .int .i64 0]) 2 16 Try.underlying37 hi hz0 hz1 hz2 rfl (by decide) (.slice A M c) M (exs own) rfl (H5.out.2.1.alloc _) (some ⟨_, 0, none⟩) 1 1 [.int .i64 x.1, .int .i64 n] rfl rfl (fun j u h => ⟨_, rfl, cell_two_new _ _ _ _ j u h⟩) (by simp [Value.oneCell']) (by unfold maxLen; omega) (by omega) (Nat.zero_le _) ?_)
         intro A' c' w7 hown' hgrow hat
         have HA := Lib.hid (And.intro hown' (app_pre H5.out.1 H5.out.2.1 H5.out.2.2 HI.out.2.2.2.2.2.2.1 _ hgrow hat))
         clear hown' hgrow hat
         go_wp2_with fail
         go_roundg (gk - 1)
         case measure => omega
         case rel =>
           exact ⟨k + 1, by omega, by go_num, s.put x.1 n 1, own ++ [(x.1, n)], M + 1, c', A', HA.out.2.1, H6.out, HI.out.2.2.1, by rw [St.put_length]; exact HI.out.2.2.2.1, by rw [List.length_append, HI.out.2.2.2.2.1]; rfl, by omega, rfl, by rw [exs_append]; exact HA.out.1, HA.out.2.2.1, HA.out.2.2.2⟩
     · have hk2 : k = K := by omega
       subst hk2
       by_cases hkl : k < len
       · have hk60 : k = 60 := by have := HK.out; omega
         subst hk60
         go_wp2_with fail
         go_meet
         exact ⟨60, Nat.le_refl _, s, own, M, c, A, HI.out.1, HI.out.2.1, HI.out.2.2.1, HI.out.2.2.2.1, HI.out.2.2.2.2.1, hMk, rfl, HI.out.2.2.2.2.2.1, HI.out.2.2.2.2.2.2.1, HI.out.2.2.2.2.2.2.2⟩
       · have hkl : k = len := by omega
         subst hkl
         go_wp2_with fail
         go_meet
         exact ⟨k, hK60, s, own, M, c, A, HI.out.1, HI.out.2.1, HI.out.2.2.1, HI.out.2.2.2.1, HI.out.2.2.2.2.1, hMk, rfl, HI.out.2.2.2.2.2.1, HI.out.2.2.2.2.2.2.1, HI.out.2.2.2.2.2.2.2⟩
  case rest =>
    obtain ⟨k, hK60, s, own, M, c, A, hm, hcov, hsf, hsl, hM, hMk, rfl, hown, hblk, hbel⟩ := hcut
    have HI := Lib.hid (And.intro hm (And.intro hcov (And.intro hsf (And.intro hsl (And.intro hM (And.intro hown (And.intro hblk hbel)))))))
    have HS : Hid ((∀ i, S i → i < wc.heap.size) ∧ ∀ g, Value.ownBlock (.slice A M c) = some g → g < wc.heap.size) := ⟨hm.lt, fun g hg => (hown.lt g hg).2⟩
    clear hm hcov hsf hsl hM hown hblk hbel
    have e1 := HI.out.2.1.bits
    have e2 := HI.out.2.1.like
    rw [HI.out.2.2.1, HI.out.2.2.2.1] at e1 e2
    obtain ⟨T, hT⟩ : ∃ T, T = bitsT f s.l := ⟨_, rfl⟩
    rw [← hT] at e1 e2
    have HE := Lib.hid (And.intro e1.1 (And.intro e1.2 (And.intro e2 hT)))
    have hbm := bits_any h S s wc HI.out.1 HI.out.2.1.ok
    rw [HI.out.2.2.1, ← hT] at hbm
    have HBm := Lib.hid hbm
    clear e1 e2 hT hbm
    go_wp2_with fail
    refine HBm.out.mono ?_
    rintro e w5 ⟨rfl, hb⟩
    have H5 := Lib.hid hb
    clear hb
    go_wp2_with fail
    refine (from_any f N T w5 hfN hN4 HE.out.2.1.1).mono ?_
    rintro e w6 hp
    obtain ⟨hq, Sq, rfl, hmq, hb, hSq⟩ := hp.1 HE.out.2.1
    have H6 := Lib.hid (And.intro hmq (And.intro (below_step H5.out hb) (fun k hk => Nat.le_trans H5.out.size (hSq k hk))))
    clear hb hp hmq hSq
    have sbf : Hid ((fbSt T f N N).f = f ∧ (fbSt T f N N).l = s.l) := ⟨rfl, HE.out.1⟩
    have hb1 : Hid (∀ w', Below wc.heap.size wc w' → Mp w' hq Sq (fbSt T f N N) → Calls Try.prog 12 #[.pointer (some ⟨hq, 0, none⟩)] w' fun e w'' => e = .returned (.string T) ∧ Below w'.heap.size w' w'') := by
      intro w' _ hm
      have := bits_any hq Sq _ w' hm HE.out.2.2.1.ok
      rw [sbf.out.1, sbf.out.2, ← HE.out.2.2.2] at this
      exact this
    have hb2 : Hid (∀ w', Below wc.heap.size wc w' → Calls Try.prog 12 #[.pointer (some ⟨h, 0, none⟩)] w' fun e w'' => e = .returned (.string T) ∧ Below w'.heap.size w' w'') := by
      intro w' hb
      have := bits_any h S s w' (HI.out.1.below hb) HI.out.2.1.ok
      rw [HI.out.2.2.1, ← HE.out.2.2.2] at this
      exact this
    go_wp2_with fail
    refine (hb1.out _ H6.out.2.1 H6.out.1).mono ?_
    rintro e w7 ⟨rfl, hb⟩
    have H7 := Lib.hid (And.intro (H6.out.1.below hb) (below_step H6.out.2.1 hb))
    clear hb
    go_wp2_with fail
    refine (hb2.out _ H7.out.2).mono ?_
    rintro e w8 ⟨rfl, hb⟩
    have H8 := Lib.hid (And.intro (H7.out.1.below hb) (below_step H7.out.2 hb))
    clear hb
    go_wp2_with fail
    refine (spacesC_any hq Sq (fbSt T f N N) w8 H8.out.1 HE.out.2.2.1.ok).mono ?_
    rintro e w9 ⟨u, rfl, hown9, hb⟩
    rw [sbf.out.1, sbf.out.2] at hown9
    obtain ⟨A9, c9, rfl, hx9, _⟩ := own_shapeE hown9
    have H9 := Lib.hid (And.intro (H8.out.1.below hb) (And.intro (below_step H8.out.2 hb) hx9))
    clear hb hown9 hx9
    go_wp2_with fail
    refine (spacesC_any h S s w9 (HI.out.1.below H9.out.2.1) HI.out.2.1.ok).mono ?_
    rintro e w10 ⟨u, rfl, hown9, hb⟩
    rw [HI.out.2.2.1] at hown9
    obtain ⟨A10, c10, rfl, hx10, _⟩ := own_shapeE hown9
    have H10 := Lib.hid (And.intro (H9.out.1.below hb) (And.intro (below_step H9.out.2.1 hb) (And.intro (H9.out.2.2.below hb) hx10)))
    clear hb hown9 hx10
    go_wp2_with fail
    refine (same_yes A9 A10 c9 c10 (spc s.l f) w10 (by have := spc_length s.l f; have := HI.out.2.1.ok.le; omega) H10.out.2.2.1 H10.out.2.2.2).mono ?_
    rintro e w11 ⟨rfl, nd, rfl⟩
    have H11 : Hid (Mp (w10.drewN nd) hq Sq (fbSt T f N N) ∧ Below wc.heap.size wc (w10.drewN nd)) := ⟨H10.out.1.drewN nd, below_drewN H10.out.2.1 nd⟩
    obtain ⟨w11, hw11⟩ : ∃ w11, w11 = w10.drewN nd := ⟨_, rfl⟩
    rw [← hw11] at H11
    rw [← hw11]
    clear hw11
    have hM60 : M ≤ 60 := by omega
    go_wp2_with fail
    go_loopg [16] M (fun gg i wz => ∃ (j : Nat) (si ti : St), j + gg = M ∧ i = .int .i64 j ∧ Mp wz h S si ∧ Cov si (own.drop j) ∧ si.f = f ∧ si.l.length = N ∧ Mp wz hq Sq ti ∧ Cov ti (own.take (M - j)) ∧ ti.f = f ∧ ti.l.length = N ∧ ExR wz A own ∧ Below w.heap.size w wz)
    case atStart =>
      exact ⟨0, s, fbSt T f N N, by omega, rfl, HI.out.1.below H11.out.2, HI.out.2.1, HI.out.2.2.1, HI.out.2.2.2.1, H11.out.1, by rw [Nat.sub_zero, ← HI.out.2.2.2.2.1, List.take_length]; exact HE.out.2.2.1, rfl, length_fb _ _ _ _, (ExR.own HI.out.2.2.2.2.2.1).below H11.out.2, below_step HI.out.2.2.2.2.2.2.2 H11.out.2⟩
    case round =>
      obtain ⟨j, si, ti, hj, rfl, hmi, hci, hfi, hli, hmt, hct, hft, hlt2, hex, hbz⟩ := hrel
      have HZ := Lib.hid (And.intro hmi (And.intro hci (And.intro hfi (And.intro hli (And.intro hmt (And.intro hct (And.intro hft (And.intro hlt2 (And.intro hex hbz)))))))))
      clear hmi hci hfi hli hmt hct hft hlt2 hex hbz
      by_cases hjM : j < M
      · have hjo : j < own.length := by have := HI.out.2.2.2.2.1; omega
        have hjo2 : M - 1 - j < own.length := by have := HI.out.2.2.2.2.1; omega
        obtain ⟨j2, hj2⟩ : ∃ j2, j2 = M - 1 - j := ⟨_, rfl⟩
        have hj2i : (M : Int) - 1 - (j : Int) = (j2 : Int) := by omega
        have hj2M : j2 < M := by omega
        rw [← hj2] at hjo2
        obtain ⟨gA, rfl, a0, a1⟩ := HZ.out.2.2.2.2.2.2.2.2.1 j hjo
        obtain ⟨gB, hgB, b0, b1⟩ := HZ.out.2.2.2.2.2.2.2.2.1 j2 hjo2
        obtain rfl : gA = gB := by simpa using hgB
        have hgo := HI.out.2.2.2.2.2.2.1 gA rfl
        have HG := Lib.hid (And.intro (cell_lt a0) trivial)
        have hf1 := free_front h S si own j wr HZ.out.1 HZ.out.2.1 hjo
        have hf2 := fun (ti : St) (wf : World) (hm : Mp wf hq Sq ti) (hc : Cov ti (own.take (j2 + 1))) => free_last hq Sq ti own j2 wf hm hc hjo2
        obtain ⟨x, hx⟩ : ∃ x, x = own.getD j (0, 0) := ⟨_, rfl⟩
        obtain ⟨y, hy⟩ : ∃ y, y = own.getD j2 (0, 0) := ⟨_, rfl⟩
        rw [← hx] at a0 a1 hf1
        rw [← hy] at b0 b1
        simp only [← hy] at hf2
        obtain ⟨xa, xb⟩ := x
        obtain ⟨ya, yb⟩ := y
        simp only at a0 a1 b0 b1 hf1 hf2
        clear hx hy
        have HF1 := Lib.hid hf1
        have HF2' := Lib.hid hf2
        clear hf2
        have HB01 := Lib.hid (And.intro b0 b1)
        have HJ2 := Lib.hid (And.intro hj2 (And.intro hjo2 hgo))
        clear hf1 b0 b1 hj2 hgB hgo hjo2
        go_wp2_with fail
        refine HF1.out.mono ?_
        rintro e wf ⟨rfl, si', hmf, hcf, hff, hlf, hof⟩
        have G1 := Lib.hid (And.intro hmf (And.intro hcf (And.intro hff (And.intro hlf hof))))
        have G2 : Hid (Mp wf hq Sq ti) := HZ.out.2.2.2.2.1.keep hof fun k hk e => by
          have h1 := H6.out.2.2 k hk
          have h2 := HS.out.1 k e
          omega
        have G3 : Hid (ExR wf (some ⟨gA, 0, none⟩) own) := HZ.out.2.2.2.2.2.2.2.2.1.only hof (fun g hg => by
          obtain rfl : gA = g := by simpa using hg
          exact HJ2.out.2.2.1)
        have G4 : Hid (Below w.heap.size w wf) := below_of_only HZ.out.2.2.2.2.2.2.2.2.2 hof H1.out.2.2
        have b0 := (hof.cell (p := ⟨gA, j2 * 2, none⟩) HG.out.1 HJ2.out.2.2.1).trans HB01.out.1
        have b1 := (hof.cell (p := ⟨gA, j2 * 2 + 1, none⟩) HG.out.1 HJ2.out.2.2.1).trans HB01.out.2
        clear hmf hcf hff hlf hof
        have hf2 := HF2'.out ti wf G2.out (by rw [HJ2.out.1, show M - 1 - j + 1 = M - j by omega]; exact HZ.out.2.2.2.2.2.1)
        have HF2 := Lib.hid hf2
        clear hf2
        go_wp2_with fail
        refine HF2.out.mono ?_
        rintro e wl ⟨rfl, ti', hml, hcl, hfl, hll, hol⟩
        have G5 := Lib.hid (And.intro hml (And.intro hcl (And.intro hfl (And.intro hll hol))))
        have G6 : Hid (Mp wl h S si') := G1.out.1.keep hol fun k hk e => by
          have h1 := H6.out.2.2 k e
          have h2 := HS.out.1 k hk
          omega
        have G7 : Hid (ExR wl (some ⟨gA, 0, none⟩) own) := G3.out.only hol (fun g hg => by
          obtain rfl : gA = g := by simpa using hg
          intro e
          have h1 := H6.out.2.2 gA e
          have h2 := HS.out.2 gA rfl
          omega)
        have G8 : Hid (Below w.heap.size w wl) := below_of_only G4.out hol (fun i hi => by
          have h1 := H6.out.2.2 i hi
          have h2 := HI.out.2.2.2.2.2.2.2.size
          omega)
        clear hml hcl hfl hll hol b0 b1
        go_wp2_with fail
        go_roundg (gk - 1)
        case measure => omega
        case rel =>
          exact ⟨j + 1, si', ti', by omega, by go_num, G6.out, G1.out.2.1, G1.out.2.2.1.trans HZ.out.2.2.1, G1.out.2.2.2.1.trans HZ.out.2.2.2.1, G5.out.1, by rw [show M - (j + 1) = j2 by have := HJ2.out.1; omega]; exact G5.out.2.1, G5.out.2.2.1.trans HZ.out.2.2.2.2.2.2.1, G5.out.2.2.2.1.trans HZ.out.2.2.2.2.2.2.2.1, G7.out, G8.out⟩
      · have hjM : j = M := by omega
        subst hjM
        have hd1 : own.drop j = [] := List.drop_eq_nil_of_le (by have := HI.out.2.2.2.2.1; omega)
        have hd2 : own.take (j - j) = [] := by rw [Nat.sub_self, List.take_zero]
        have c1 := HZ.out.2.1
        have c2 := HZ.out.2.2.2.2.2.1
        rw [hd1] at c1
        rw [hd2] at c2
        have t1 := c1.none
        have t2 := c2.none
        rw [HZ.out.2.2.1, HZ.out.2.2.2.1] at t1
        rw [HZ.out.2.2.2.2.2.2.1, HZ.out.2.2.2.2.2.2.2.1] at t2
        have t0 : T0 = bitsT f (List.replicate N 0) := HT0.out
        rw [← t0] at t1 t2
        have r1 := c1.room
        rw [HZ.out.2.2.1, HZ.out.2.2.2.1] at r1
        have E1 : Hid (∀ w', Below wr.heap.size wr w' → Calls Try.prog 12 #[.pointer (some ⟨h, 0, none⟩)] w' fun e w'' => e = .returned (.string T0) ∧ Below w'.heap.size w' w'') := by
          intro w' hb
          have := bits_any h S si w' (HZ.out.1.below hb) c1.ok
          rw [HZ.out.2.2.1, t1] at this
          exact this
        have E2 : Hid (∀ w', Below wr.heap.size wr w' → Calls Try.prog 12 #[.pointer (some ⟨hq, 0, none⟩)] w' fun e w'' => e = .returned (.string T0) ∧ Below w'.heap.size w' w'') := by
          intro w' hb
          have := bits_any hq Sq ti w' (HZ.out.2.2.2.2.1.below hb) c2.ok
          rw [HZ.out.2.2.2.2.2.2.1, t2] at this
          exact this
        have E3 : Hid (∀ w', Below wr.heap.size wr w' → Calls Try.prog 20 #[.pointer (some ⟨h, 0, none⟩)] w' fun e w'' => e = .returned (.int .i64 ((N : Int) - f)) ∧ Below w'.heap.size w' w'') := by
          intro w' hb
          have := room_any h S si w' (HZ.out.1.below hb) c1.ok
          rw [HZ.out.2.2.1, r1, Int.ofNat_sub hfN] at this
          exact this
        have E4 : Hid (∀ w', Below wr.heap.size wr w' → Calls Try.prog 22 #[.pointer (some ⟨hq, 0, none⟩), .agg #[.int .i64 f, .int .i64 (max ((N : Int) - f) 1)]] w' fun e w'' => e = .returned (.int .i64 (if N = f then 1 else 0)) ∧ Below w.heap.size w w'') := by
          intro w' hb
          refine (take_end hq Sq ti f N w' (HZ.out.2.2.2.2.1.below hb) c2 HZ.out.2.2.2.2.2.2.1 HZ.out.2.2.2.2.2.2.2.1 hfN).mono ?_
          rintro e w'' ⟨rfl, ho⟩
          exact ⟨rfl, below_of_only (below_step HZ.out.2.2.2.2.2.2.2.2.2 hb) ho (fun i hi => by
            have h1 := H6.out.2.2 i hi
            have h2 := HI.out.2.2.2.2.2.2.2.size
            omega)⟩
        have E5 := Lib.hid (fun w' => emptyTake_any f N w' hfN hN4)
        clear hd1 hd2 c1 c2 t0 t1 t2 r1
        go_wp2_with fail
        refine (E1.out _ (Below.refl _ _)).mono ?_
        rintro e v1 ⟨rfl, hb⟩
        have B1 := Lib.hid hb
        clear hb
        go_wp2_with fail
        refine (E2.out _ B1.out).mono ?_
        rintro e v2 ⟨rfl, hb⟩
        have B2 := Lib.hid (below_step B1.out hb)
        clear hb
        go_wp2_with fail
        refine (E3.out _ B2.out).mono ?_
        rintro e v3 ⟨rfl, hb⟩
        have B3 := Lib.hid (below_step B2.out hb)
        clear hb
        obtain ⟨R, hR⟩ : ∃ R : Int, R = (if N = f then 1 else 0) := ⟨_, rfl⟩
        rw [← hR] at E4
        simp only [← hR] at E5
        have HR := Lib.hid hR
        clear hR
        have E6 : Hid (∀ Q : Int, Q = max ((N : Int) - f) 1 → Calls Try.prog 22 #[.pointer (some ⟨hq, 0, none⟩), .agg #[.int .i64 f, .int .i64 Q]] v3 fun e w'' => e = .returned (.int .i64 R) ∧ Below w.heap.size w w'') := by
          rintro Q rfl
          exact E4.out _ B3.out
        clear E4
        go_wp2_with fail
        all_goals
          refine (E6.out _ (by omega)).mono ?_
          rintro e v4 ⟨rfl, hb⟩
          have B4 := Lib.hid hb
          clear hb
          go_wp2_with fail
          refine (E5.out v4).mono ?_
          rintro e v5 ⟨rfl, rfl⟩
          go_wp2_with fail
          exact ⟨rfl, .bool true, by simp [results, Try.results5, go_sem], rfl, B4.out⟩
end Go.Proofs.Ytinjkjgahipimaa
