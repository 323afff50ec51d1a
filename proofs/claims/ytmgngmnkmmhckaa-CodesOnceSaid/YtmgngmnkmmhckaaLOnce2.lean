/-
  CodesOnce: the law's walk.
-/
import Derived.Test.YtmgngmnkmmhckaaLOnce
set_option linter.unusedVariables false
namespace Go.Proofs.Ytmgngmnkmmhckaa
open Go.RowKit Plain

set_option maxRecDepth 100000 in
set_option maxHeartbeats 8000000 in
theorem once_any (s : ByteArray) (A : Option Addr) (n c : Nat) (kd K : Nat → Nat) (hKK : ∀ i, K i < 18446744073709551616) (w : World) (hs : s.size ≤ 140737488355328) (hn : n ≤ 9223372036854775807) (hA : ScC w A n kd K) :
    Calls Try.prog 12 #[.string s, .slice A n c] w fun e w' => e = .returned (.bool true) ∧ Below w.heap.size w w' := by
  have HA := Lib.hid hA
  have HK := Lib.hid hKK
  have HS := Lib.hid (And.intro hs (length_bitsS s))
  clear hA hKK hs
  go_enter Try.func12, Try.ntmps12
  go_wp2_with fail
  refine (open_any _ _).mono ?_
  rintro e w1 ⟨rfl, rfl⟩
  have H1 : Hid (OnR w (w.alloc (.cells #[.string s, .int .i64 0] 88)) w.heap.size s 0) := ⟨RdAt.new w s, (Below.refl _ _).alloc (Nat.le_refl _) _, Nat.le_refl _⟩
  obtain ⟨r, hr⟩ : ∃ r, r = w.heap.size := ⟨_, rfl⟩
  obtain ⟨w1, hw1⟩ : ∃ w1, w1 = w.alloc (.cells #[.string s, .int .i64 0] 88) := ⟨_, rfl⟩
  rw [← hw1, ← hr] at H1
  rw [← hw1, ← hr]
  clear hw1 hr
  go_wp2_with fail
  go_loopg [6] n (fun g i wr => ∃ k a : Nat, k + g = n ∧ i = .int .i64 k ∧ OnR w wr r s a)
  case atStart => exact ⟨0, 0, by omega, rfl, H1.out⟩
  case round =>
    obtain ⟨k, a, hk, rfl, hon⟩ := hrel
    have HO := Lib.hid hon
    clear hon H1
    by_cases hlt : k < n ∧ k < 60
    · obtain ⟨hkn, hk60⟩ := hlt
      obtain ⟨b, off, rfl, m1, hcells⟩ := HA.out (by omega)
      obtain ⟨e1, e2⟩ := hcells k hkn
      have HC := Lib.hid (And.intro m1 (And.intro e1 e2))
      clear hcells m1 e1 e2
      obtain ⟨kk, hkk⟩ : ∃ kk, kk = kd k := ⟨_, rfl⟩
      obtain ⟨KK, hKK⟩ : ∃ KK, KK = K k := ⟨_, rfl⟩
      have hKl : KK < 18446744073709551616 := by rw [hKK]; exact HK.out k
      rw [← hkk, ← hKK] at HC
      have HKl := Lib.hid hKl
      clear hkk hKK hKl
      go_wp2_with fail
      refine (at_any r s a _ HO.out.1).mono ?_
      rintro e w2 ⟨rfl, rfl⟩
      have d1 := HO.out.use (A := none) (n := 0) (kd := fun _ => 0) (K := fun _ => 0) (b := b) (off := off) HC.out.1 HC.out.2.1
      have d2 := HO.out.use (A := none) (n := 0) (kd := fun _ => 0) (K := fun _ => 0) (b := b) (off := off) HC.out.1 HC.out.2.2
      go_wp2_with fail
      refine (own_any kk KK _).mono ?_
      rintro e w3 ⟨rfl, hb⟩
      have H3 := Lib.hid (HO.out.more hb)
      clear hb d1 d2
      go_wp2_with fail
      refine (cread_any r s a kk KK _ H3.out.1 HS.out.1 HKl.out).mono ?_
      rintro e w4 ⟨rfl, hp⟩
      have H4 := Lib.hid (H3.out.step hp)
      clear hp H3
      have hal : a ≤ (bitsS s).length := by rw [HS.out.2]; exact HO.out.1.2
      have hno := once_no (B := bitsS s) (a := a) (kd := kk) (K := KK)
      have hyes := once_yes (B := bitsS s) (a := a) (kd := kk) (K := KK) hal
      obtain ⟨V, hV⟩ : ∃ V, V = rV (bitsS s) a kk KK := ⟨_, rfl⟩
      obtain ⟨E, hE⟩ : ∃ E, E = rE (bitsS s) a kk KK := ⟨_, rfl⟩
      obtain ⟨a1, ha1⟩ : ∃ a1, a1 = rA (bitsS s) a kk KK := ⟨_, rfl⟩
      rw [← hV, ← hE, ← ha1] at hno hyes
      rw [← ha1] at H4
      rw [← hV, ← hE]
      clear hV hE ha1 hal
      by_cases hE0 : E = 0
      · subst hE0
        have hy := hyes rfl
        clear hno hyes
        have hcl := cb_len hy.1
        obtain ⟨L, hL⟩ : ∃ L, L = cb kk KK V := ⟨_, rfl⟩
        rw [← hL] at hy hcl
        have hcp : cpC ([] : List Bool).length kk KK V = 0 ∧ cpB [] kk KK V = L := by
          have : cpC ([] : List Bool).length kk KK V = 0 := by
            unfold cpC
            rw [if_pos hy.1, ← hL, if_neg (by simp; omega)]
          exact ⟨this, by unfold cpB; rw [this, if_pos rfl, ← hL]; rfl⟩
        have HL := Lib.hid (And.intro hcp hy)
        have ha1 : (a1 : Int) = (a : Int) + (L.length : Int) := by rw [hy.2.1]; omega
        obtain ⟨l, hl⟩ : ∃ l, l = L.length := ⟨_, rfl⟩
        rw [← hl] at ha1 hcl
        have HLl := Lib.hid hl
        clear hL hy hcp hl
        go_wp2_with fail
        refine (new_any _).mono ?_
        rintro e w5 ⟨rfl, rfl⟩
        have H5 : Hid (OnR w (w4.alloc (.cells #[.slice none 0 0, .int .i64 0] 93)) r s a1 ∧ WrAt (w4.alloc (.cells #[.slice none 0 0, .int .i64 0] 93)) w4.heap.size none []) := ⟨H4.out.more ((Below.refl _ _).alloc (Nat.le_refl _) _), WrAt.new w4⟩
        obtain ⟨h, hh⟩ : ∃ h, h = w4.heap.size := ⟨_, rfl⟩
        obtain ⟨w5, hw5⟩ : ∃ w5, w5 = w4.alloc (.cells #[.slice none 0 0, .int .i64 0] 93) := ⟨_, rfl⟩
        have hgh : Hid (w.heap.size ≤ h) := by rw [hh]; exact H4.out.2.1.size
        rw [← hw5, ← hh] at H5
        rw [← hw5, ← hh]
        clear hw5 hh H4
        have d1 := H5.out.1.use (A := none) (n := 0) (kd := fun _ => 0) (K := fun _ => 0) (b := b) (off := off) HC.out.1 HC.out.2.1
        have d2 := H5.out.1.use (A := none) (n := 0) (kd := fun _ => 0) (K := fun _ => 0) (b := b) (off := off) HC.out.1 HC.out.2.2
        go_wp2_with fail
        refine (own_any kk KK _).mono ?_
        rintro e w6 ⟨rfl, hb⟩
        have H6 : Hid (OnR w w6 r s a1 ∧ WrAt w6 h none []) := ⟨H5.out.1.more hb, H5.out.2.only (Only.of_below (F := fun _ => False) hb) (fun _ _ e => e)⟩
        clear hb d1 d2 H5
        go_wp2_with fail
        refine (cput_any h none [] kk KK V _ H6.out.2 (by decide) HKl.out).mono ?_
        rintro e w7 ⟨rfl, hp⟩
        rw [HL.out.1.1]
        rw [HL.out.1.2] at hp
        have H7 : Hid (∃ o, OnR w w7 r s a1 ∧ WrAt w7 h o L) := by
          obtain ⟨o, p1, p2, p3⟩ := hp
          refine ⟨o, ⟨⟨H6.out.1.1.1.only p2 ?_, H6.out.1.1.2⟩, below_only H6.out.1.2.1 p2 H6.out.1.2.1.size ?_, H6.out.1.2.2⟩, p1⟩
          · exact fun e => WrAt.rd_ne H6.out.2 H6.out.1.1 _ e rfl
          · rintro i (rfl | e)
            · exact hgh.out
            · cases e
        obtain ⟨o, q7⟩ := H7.out
        have Q7 := Lib.hid q7
        clear q7 hp H6 H7
        go_wp2_with fail
        refine (wlen_any h o L _ Q7.out.2).mono ?_
        rintro e w8 ⟨rfl, rfl⟩
        rw [← HLl.out]
        go_wp2_with fail
        refine (at_any r s a1 _ Q7.out.1.1).mono ?_
        rintro e w8 ⟨rfl, rfl⟩
        rw [ha1]
        go_wp2_with fail
        refine (wtext_any h o L _ Q7.out.2).mono ?_
        rintro e w8 ⟨rfl, rfl⟩
        obtain ⟨t, ht⟩ : ∃ t, t = strOf (pk L) := ⟨_, rfl⟩
        have hbt : bitsS t = L ++ List.replicate (8 * ((L.length + 7) / 8) - L.length) false := by rw [ht]; exact bitsS_strOf L
        have hst : t.size = (L.length + 7) / 8 := by rw [ht]; exact size_text L
        rw [← ht]
        have hlL := HLl.out
        have HT := Lib.hid (And.intro hbt (And.intro hst (show t.size ≤ 140737488355328 by omega)))
        clear ht hbt hst ha1 hlL
        go_wp2_with fail
        refine (open_any _ _).mono ?_
        rintro e w8 ⟨rfl, rfl⟩
        obtain ⟨x, hx⟩ : ∃ x, x = w7.heap.size := ⟨_, rfl⟩
        have H8 : Hid (OnR w (w7.alloc (.cells #[.string t, .int .i64 0] 88)) r s a1 ∧ WrAt (w7.alloc (.cells #[.string t, .int .i64 0] 88)) h o L ∧ RdAt (w7.alloc (.cells #[.string t, .int .i64 0] 88)) x t 0 ∧ w.heap.size ≤ x ∧ r < x) := by
          rw [hx]
          exact ⟨Q7.out.1.more ((Below.refl _ _).alloc (Nat.le_refl _) _), Q7.out.2.only ((Only.refl (fun _ => False) _).alloc _) (fun _ _ e => e), RdAt.new w7 t, Q7.out.1.2.1.size, Q7.out.1.1.lt⟩
        obtain ⟨w8, hw8⟩ : ∃ w8, w8 = w7.alloc (.cells #[.string t, .int .i64 0] 88) := ⟨_, rfl⟩
        rw [← hw8] at H8
        rw [← hw8, ← hx]
        clear hw8 hx Q7
        go_wp2_with fail
        refine (open_any _ _).mono ?_
        rintro e w9 ⟨rfl, rfl⟩
        obtain ⟨y, hy⟩ : ∃ y, y = w8.heap.size := ⟨_, rfl⟩
        have H9 : Hid (OnS w (w8.alloc (.cells #[.string s, .int .i64 0] 88)) r s a1 h o L x t 0 y 0) := by
          obtain ⟨x1, x2, x3, x4, x5⟩ := H8.out
          have l1 := x1.1.lt
          have l2 := x3.lt
          rw [hy]
          exact ⟨x1.1.only ((Only.refl (fun _ => False) _).alloc _), x2.only ((Only.refl (fun _ => False) _).alloc _) (fun _ _ e => e), x3.only ((Only.refl (fun _ => False) _).alloc _), RdAt.new w8 s, x1.2.1.alloc x1.2.1.size _, x1.2.2, x4, x1.2.1.size, by omega, by omega, by omega⟩
        obtain ⟨w9, hw9⟩ : ∃ w9, w9 = w8.alloc (.cells #[.string s, .int .i64 0] 88) := ⟨_, rfl⟩
        rw [← hw9] at H9
        rw [← hw9, ← hy]
        clear hw9 hy H8
        go_wp2_with fail
        refine (seek_any y s 0 a _ H9.out.yy HS.out.1).mono ?_
        rintro e w10 ⟨rfl, hp⟩
        have hsk : seekCode s.size (a : Int) = 0 ∧ seekAt s.size 0 (a : Int) = a := by
          have hal := HO.out.1.2
          have : seekCode s.size (a : Int) = 0 := by unfold seekCode; rw [if_neg (by omega)]
          exact ⟨this, by unfold seekAt; rw [this, if_pos rfl]; rfl⟩
        rw [hsk.1]
        rw [hsk.2] at hp
        have HA0 := Lib.hid (H9.out.stepY hp)
        clear hsk hp H9
        go_wp2_with fail
        go_loopg [] l (fun g wx => ∃ j : Nat, j + g = l ∧ OnS w wx r s a1 h o L x t j y (a + j))
        case atStart => exact ⟨0, by omega, HA0.out⟩
        case round =>
          obtain ⟨j, hj, q⟩ := hrel
          have Q := Lib.hid q
          clear q HA0
          by_cases hjl : j < l
          · go_wp2_with fail
            refine (at_any x t j _ Q.out.xx).mono ?_
            rintro e wq ⟨rfl, rfl⟩
            go_wp2_with fail
            refine (wlen_any h o L _ Q.out.ww).mono ?_
            rintro e wq ⟨rfl, rfl⟩
            rw [← HLl.out]
            obtain ⟨B, hB⟩ : ∃ B, B = L.getD j false := ⟨_, rfl⟩
            have hx1 : (bitsS t).getD j false = B := by rw [HT.out.1, getD_append, if_pos (by have := HLl.out; omega), hB]
            have hx2 : (bitsS s).getD (a + j) false = B := by rw [HL.out.2.2.2.getD (by have := HLl.out; omega), hB]
            have hx3 : j < 8 * t.size := by rw [HT.out.2.1]; have := HLl.out; omega
            have hx4 : a + j < 8 * s.size := by have := HL.out.2.2.2.len; rw [HS.out.2] at this; have := HLl.out; omega
            have HX := Lib.hid (And.intro hx1 (And.intro hx2 (And.intro hx3 hx4)))
            clear hB hx1 hx2 hx3 hx4
            go_wp2_with fail
            refine (bit_at Q.out.xx HT.out.2.2 HX.out.2.2.1 HX.out.1).mono ?_
            rintro e wa ⟨rfl, hp⟩
            have Q1 := Lib.hid (Q.out.stepX hp)
            clear hp
            go_wp2_with fail
            refine (bit_at Q1.out.yy HS.out.1 HX.out.2.2.2 HX.out.2.1).mono ?_
            rintro e wb ⟨rfl, hp⟩
            have Q2 := Lib.hid (Q1.out.stepY hp)
            clear hp Q1
            go_wp2_with fail
            go_roundg (gk - 1)
            case measure => omega
            case rel => exact ⟨j + 1, by omega, Q2.out⟩
          · have hjl2 : j = l := by omega
            have Hjl := Lib.hid hjl2
            clear hjl2
            go_wp2_with fail
            refine (at_any x t j _ Q.out.xx).mono ?_
            rintro e wq ⟨rfl, rfl⟩
            go_wp2_with fail
            refine (wlen_any h o L _ Q.out.ww).mono ?_
            rintro e wq ⟨rfl, rfl⟩
            rw [← HLl.out]
            go_wp2_with fail
            go_roundg (n - (k + 1))
            case measure => omega
            case rel => exact ⟨k + 1, a1, by omega, by go_num, Q.out.rr, Q.out.below, Q.out.gr⟩
      · obtain ⟨hv0, ha0⟩ := hno hE0
        subst hv0 ha0
        have hEb : (E == 0) = false := by simpa using hE0
        clear hno hyes
        go_wp2_with fail
        refine (at_any r s a1 _ H4.out.1).mono ?_
        rintro e w5 ⟨rfl, rfl⟩
        go_wp2_with fail
        go_roundg (gk - 1)
        case measure => omega
        case rel => exact ⟨k + 1, a1, by omega, by go_num, H4.out⟩
    · have hbel := Lib.hid HO.out.2.1
      by_cases hkn : k < n
      · have hk60 : ¬ k < 60 := fun h => hlt ⟨hkn, h⟩
        clear hlt
        go_wp2_with fail
        refine (caw_any _).mono ?_
        rintro e w6 ⟨rfl, hb6⟩
        have H6 := Lib.hid (below_step hbel.out hb6)
        clear hb6
        go_wp2_with fail
        go_ret
        exact ⟨rfl, H6.out⟩
      · clear hlt
        go_wp2_with fail
        refine (caw_any _).mono ?_
        rintro e w6 ⟨rfl, hb6⟩
        have H6 := Lib.hid (below_step hbel.out hb6)
        clear hb6
        go_wp2_with fail
        go_ret
        exact ⟨rfl, H6.out⟩
end Go.Proofs.Ytmgngmnkmmhckaa
