/-
  CodesBack: the law's walk.
-/
import Derived.Test.YtmgngmnkmmhckaaLCBack
import Derived.Deep.CutBlock
set_option linter.unusedVariables false
namespace Go.Proofs.Ytmgngmnkmmhckaa
open Go.RowKit Plain

theorem own_shape3 {w : World} {base : Nat} {e : TypeId} {v : Value} {n k : Nat} {xs : List Value} (h : w.ownsRow base e k v n xs) : ∃ A c, v = .slice A n c := by
  rcases h.2 with ⟨rfl, rfl⟩ | ⟨g, cap, cur, rfl, _⟩
  · exact ⟨_, _, rfl⟩
  · exact ⟨_, _, rfl⟩
def vB (kd V : Nat) : Nat := if kd = 0 then V % 2001 else V
theorem cell_three (w : World) (x y z : Value) (t : TypeId) : ∀ j u, [x, y, z][j]? = some u → (w.alloc (.cells #[x, y, z] t)).cell? ((⟨w.heap.size, 0, none⟩ : Addr).add j) = some u := by
  intro j u hj
  match j, hj with
  | 0, hj => simp at hj; subst hj; simp [Addr.add]
  | 1, hj => simp at hj; subst hj; simp [Addr.add]
  | 2, hj => simp at hj; subst hj; simp [Addr.add]

set_option maxRecDepth 100000 in
set_option maxHeartbeats 8000000 in
theorem cback_any (A : Option Addr) (n c : Nat) (kd K V : Nat → Nat) (hKK : ∀ i, K i < 18446744073709551616) (hVV : ∀ i, V i < 18446744073709551616) (w : World) (hn : n ≤ 9223372036854775807) (hA : ScN w A n kd K V) :
    Calls Try.prog 9 #[.slice A n c] w fun e w' => e = .returned (.bool true) ∧ Below w.heap.size w w' := by
  obtain ⟨i0, hi, hz0, hz1, hz2⟩ := info_parts info78
  have HA := Lib.hid hA
  have HK := Lib.hid hKK
  have HV := Lib.hid hVV
  clear hA hKK hVV
  go_enter Try.func9, Try.ntmps9
  go_wp2_with fail
  refine (new_any _).mono ?_
  rintro e w1 ⟨rfl, rfl⟩
  have H1 : Hid (Kb w (w.alloc (.cells #[.slice none 0 0, .int .i64 0] 93)) w.heap.size none [] (.slice none 0 0) []) :=
    ⟨WrAt.new w, World.ownsRow_nil _ _ _ _, Ge.none_, (Below.refl _ w).alloc (Nat.le_refl _) _, Nat.le_refl _, Ge.none_⟩
  obtain ⟨h, hh⟩ : ∃ h, h = w.heap.size := ⟨_, rfl⟩
  obtain ⟨w1, hw1⟩ : ∃ w1, w1 = w.alloc (.cells #[.slice none 0 0, .int .i64 0] 93) := ⟨_, rfl⟩
  rw [← hw1, ← hh] at H1
  go_upto_block 0 with fail
  rw [← hw1, ← hh]
  clear hw1 hh
  go_cut [4] (fun s4 wx => ∃ (o : Option Nat) (xs : List T3), xs.length ≤ 60 ∧ (∀ x ∈ xs, okT x) ∧ Kb w wx h o (CC xs) s4 xs)
  case first =>
    go_wp2_with fail
    go_loopg [4, 5] n (fun g s4 i wr => ∃ (k : Nat) (o : Option Nat) (xs : List T3), k + g = n ∧ i = .int .i64 k ∧ xs.length ≤ k ∧ xs.length ≤ 60 ∧ (∀ x ∈ xs, okT x) ∧ Kb w wr h o (CC xs) s4 xs)
    case atStart => exact ⟨0, none, [], by omega, rfl, by simp, by simp, by simp, H1.out⟩
    case round =>
      obtain ⟨k, o, xs, hk, rfl, hxk, hx60, hok, ht⟩ := hrel
      clear H1
      have HOk := Lib.hid hok
      have HT := Lib.hid ht
      clear hok ht
      by_cases hlt : k < n ∧ k < 60
      · obtain ⟨hkn, hk60⟩ := hlt
        obtain ⟨b, off, rfl, m1, hcells⟩ := HA.out (by omega)
        obtain ⟨e1, e2, e3⟩ := hcells k hkn
        have d1 := (HT.out.below.cell m1).trans e1
        have d2 := (HT.out.below.cell m1).trans e2
        have d3 := (HT.out.below.cell m1).trans e3
        clear hcells e1 e2 e3
        obtain ⟨kk, hkk⟩ : ∃ kk, kk = kd k := ⟨_, rfl⟩
        obtain ⟨KK, hKK⟩ : ∃ KK, KK = K k := ⟨_, rfl⟩
        obtain ⟨VV, hVV⟩ : ∃ VV, VV = V k := ⟨_, rfl⟩
        have hKl : KK < 18446744073709551616 := by rw [hKK]; exact HK.out k
        have hVl : VV < 18446744073709551616 := by rw [hVV]; exact HV.out k
        rw [← hkk] at d1
        rw [← hKK] at d2
        rw [← hVV] at d3
        have HKl := Lib.hid hKl
        clear hkk hKK hVV hKl
        have hbx : Hid (Below wr.heap.size wr (wr.alloc (.cells #[.int .u8 kk, .int .u64 KK, .int .u64 VV] 78)) ∧ Blk (wr.alloc (.cells #[.int .u8 kk, .int .u64 KK, .int .u64 VV] 78)) wr.heap.size 78 #[.int .u8 kk, .int .u64 KK, .int .u64 VV]) := ⟨(Below.refl _ _).alloc (Nat.le_refl _) _, Blk.new wr 78 _⟩
        go_upto_if 43 with fail
        obtain ⟨g6, hg6⟩ : ∃ g6, g6 = wr.heap.size := ⟨_, rfl⟩
        obtain ⟨w2, hw2⟩ : ∃ w2, w2 = wr.alloc (.cells #[.int .u8 kk, .int .u64 KK, .int .u64 VV] 78) := ⟨_, rfl⟩
        rw [← hw2] at hbx
        have hb2 : Blk w2 g6 78 #[.int .u8 kk, .int .u64 KK, .int .u64 VV] := by rw [hg6]; exact hbx.out.2
        have Hbx : Hid (Below wr.heap.size wr w2 ∧ wr.heap.size ≤ g6) := ⟨hbx.out.1, by omega⟩
        rw [← hw2, ← hg6]
        clear hw2 hg6 hbx d1 d2 d3
        have HB2 := Lib.hid hb2
        have c0 : w2.cell? ⟨g6, 0, none⟩ = some (.int .u8 kk) := by rw [hb2.cell 0]; rfl
        have c2 : w2.cell? ⟨g6, 2, none⟩ = some (.int .u64 VV) := by rw [hb2.cell 2]; rfl
        have f2 := hb2.frozen 2
        clear hb2
        obtain ⟨v, hv⟩ : ∃ v, v = vB kk VV := ⟨_, rfl⟩
        have hvl : v < 18446744073709551616 := by rw [hv]; unfold vB; split <;> omega
        have Hv := Lib.hid hv
        clear hv
        go_cut [] (fun wx => Below wr.heap.size wr wx ∧ Blk wx g6 78 #[.int .u8 kk, .int .u64 KK, .int .u64 v])
        case first =>
          by_cases k0 : kk = 0
          · subst k0
            have hv2 : v = VV % 2001 := by rw [Hv.out]; rfl
            have Hv2 := Lib.hid hv2
            clear hv2
            go_wp2_with fail
            go_meet
            have hs := HB2.out.set_ 2 (.int .u64 ((VV % 2001 : Nat) : Int))
            rw [Hv2.out]
            have ho : Only (fun k => k = g6) wr (w2.setCell ⟨g6, 2, none⟩ (.int .u64 ((VV % 2001 : Nat) : Int))) := Only.setCell (F := fun k => k = g6) (Only.of_below Hbx.out.1) (p := ⟨g6, 2, none⟩) (.inl rfl) _
            exact ⟨ho.below (fun k hk e => by have := Hbx.out.2; omega) (Nat.le_refl _), by simpa using hs⟩
          · have k0b : ((kk : Int) == 0) = false := by simp; omega
            have hv2 : v = VV := by rw [Hv.out]; unfold vB; rw [if_neg k0]
            have Hv2 := Lib.hid hv2
            clear hv2 k0
            go_wp2_with fail
            go_meet
            rw [Hv2.out]
            exact ⟨Hbx.out.1, HB2.out⟩
        case rest =>
          obtain ⟨p1, p2⟩ := hcut
          have H3 := Lib.hid (And.intro (HT.out.more p1) p2)
          clear p1 p2 c0 c2 f2 HB2 Hbx HT
          have c0 : wc.cell? ⟨g6, 0, none⟩ = some (.int .u8 kk) := by rw [H3.out.2.cell 0]; rfl
          have c1 : wc.cell? ⟨g6, 1, none⟩ = some (.int .u64 KK) := by rw [H3.out.2.cell 1]; rfl
          go_wp2_with fail
          refine (own_any kk KK _).mono ?_
          rintro e w3 ⟨rfl, hb⟩
          have hb7 := Blk.new w3 71 #[.int .u8 kk, .int .u64 KK]
          have H4 : Hid (Kr w (w3.alloc (.cells #[.int .u8 kk, .int .u64 KK] 71)) h o (CC xs) u4 xs g6 w3.heap.size kk KK v) := by
            have q := H3.out.1.more hb
            have q2 := H3.out.2.only (Only.of_below (F := fun _ => False) hb) (fun e => e)
            exact ⟨q.more ((Below.refl _ _).alloc (Nat.le_refl _) _), q2.alloc _, hb7⟩
          clear hb hb7 c0 c1 H3
          go_wp2_with fail
          obtain ⟨g7, hg7⟩ : ∃ g7, g7 = w3.heap.size := ⟨_, rfl⟩
          obtain ⟨w4, hw4⟩ : ∃ w4, w4 = w3.alloc (.cells #[.int .u8 kk, .int .u64 KK] 71) := ⟨_, rfl⟩
          rw [← hw4, ← hg7] at H4
          rw [← hw4, ← hg7]
          clear hw4 hg7
          obtain ⟨l, hl⟩ : ∃ l, l = (CC xs).length := ⟨_, rfl⟩
          have hlb : l ≤ 3939840 := by have := CC_len HOk.out; omega
          have Hl := Lib.hid hl
          clear hl
          refine (wlen_any h o (CC xs) _ H4.out.kb.a1).mono ?_
          rintro e w' ⟨rfl, rfl⟩
          rw [← Hl.out]
          obtain ⟨⟨c0, c1, c2⟩, b0, b1⟩ := H4.out.use
          go_wp2_with fail
          refine (cput_any h o (CC xs) kk KK v _ H4.out.kb.a1 (by have := Hl.out; omega) HKl.out).mono ?_
          rintro e w5 ⟨rfl, hp⟩
          obtain ⟨o5, q5⟩ := H4.out.wrote hp
          have H5 := Lib.hid q5
          clear hp q5 c0 c1 c2 b0 b1 H4
          obtain ⟨⟨c0, c1, c2⟩, b0, b1⟩ := H5.out.use
          have hlen := clen_any kk KK v w5 HKl.out
          cases hmay : cMay kk KK v with
          | false =>
            have HE : Hid (cpC (CC xs).length kk KK v = 1 ∧ cpB (CC xs) kk KK v = CC xs ∧ cL kk KK v = 0 ∧ cE kk KK v = 1) := by
              have q : cpC (CC xs).length kk KK v = 1 := by unfold cpC; rw [hmay]; rfl
              exact ⟨q, by unfold cpB; rw [q]; rfl, by unfold cL; rw [hmay]; rfl, by unfold cE; rw [hmay]; rfl⟩
            rw [HE.out.2.1] at H5
            rw [HE.out.1]
            rw [HE.out.2.2.1, HE.out.2.2.2] at hlen
            have HLn := Lib.hid hlen
            clear hlen hmay
            go_wp2_with fail
            refine HLn.out.mono ?_
            rintro e w6 ⟨rfl, hb⟩
            have H6 := Lib.hid (H5.out.more hb)
            clear hb c0 c1 c2 b0 b1 H5
            go_wp2_with fail
            go_roundg (gk - 1)
            case measure => omega
            case rel => exact ⟨k + 1, o5, xs, by omega, by go_num, by omega, by omega, HOk.out, H6.out.kb⟩
          | true =>
            have hcl := cb_len hmay
            obtain ⟨nn, hnn⟩ : ∃ nn, nn = (cb kk KK v).length := ⟨_, rfl⟩
            rw [← hnn] at hcl
            have HE : Hid (cpC (CC xs).length kk KK v = 0 ∧ cpB (CC xs) kk KK v = CC (xs ++ [(kk, KK, v)]) ∧ cL kk KK v = nn ∧ cE kk KK v = 0) := by
              have q : cpC (CC xs).length kk KK v = 0 := by
                unfold cpC; rw [if_pos hmay, if_neg (by rw [← hnn, ← Hl.out]; omega)]
              exact ⟨q, by unfold cpB; rw [q, if_pos rfl, CC_snoc], by unfold cL; rw [if_pos hmay, hnn], by unfold cE; rw [if_pos hmay]⟩
            rw [HE.out.2.1] at H5
            rw [HE.out.1]
            rw [HE.out.2.2.1, HE.out.2.2.2] at hlen
            have HLn := Lib.hid hlen
            have hv48 : v ≤ 281474976710655 := by
              rcases cMay_spec hmay with ⟨_, q⟩ | ⟨_, q⟩ | ⟨_, q⟩ | ⟨_, _, _, q⟩ | ⟨_, _, q1, q⟩ <;> omega
            have hwv : IntKind.u64.wrap ((v : Int) + 1) = ((v : Int) + 1) := by
              rw [show ((v : Int) + 1) = ((v + 1 : Nat) : Int) by omega]; exact wrap_nat64 _ (by omega)
            have hlen2 : Hid (∀ w, Calls Try.prog 42 #[.agg #[.int .u8 kk, .int .u64 KK], .int .u64 ((v : Int) + 1)] w fun e w' => e = .returned (.tuple #[.int .i64 (cL kk KK (v + 1) : Nat), .int .i64 (cE kk KK (v + 1))]) ∧ Below w.heap.size w w') := by
              intro w
              exact clen_any kk KK (v + 1) w HKl.out
            have hmono := fun h2 => len_mono hmay (K := KK) (v := v) h2
            have hgz : kk = 1 → cL 3 1 v = nn ∧ cE 3 1 v = 0 := by
              intro hk1
              rcases cMay_spec hmay with ⟨q, _⟩ | ⟨_, q⟩ | ⟨q, _⟩ | ⟨q, _⟩ | ⟨q, _⟩
              · omega
              · have hm3 : cMay 3 1 v = true := by
                  have e1 : cOk 3 1 = true := by decide +kernel
                  unfold cMay cMost
                  rw [e1]
                  simp; omega
                unfold cL cE
                rw [if_pos hm3, if_pos hm3, hnn, hk1]
                exact ⟨len_zeta1 KK q, rfl⟩
              · omega
              · omega
              · omega
            have hwl : (((CC (xs ++ [(kk, KK, v)])).length : Nat) : Int) = (l : Int) + (nn : Int) := by
              rw [CC_snoc, List.length_append, ← Hl.out, ← hnn]; omega
            have hokx : okT (kk, KK, v) := ⟨hmay, HKl.out⟩
            have HX := Lib.hid (And.intro hwl (And.intro hokx hgz))
            obtain ⟨E2, hE2⟩ : ∃ E2, E2 = cE kk KK (v + 1) := ⟨_, rfl⟩
            obtain ⟨M2, hM2⟩ : ∃ M2, M2 = cL kk KK (v + 1) := ⟨_, rfl⟩
            have hEM : (E2 = 0 ∧ nn ≤ M2) ∨ (E2 = 1 ∧ M2 = 0) := by
              cases hm2 : cMay kk KK (v + 1) with
              | true =>
                left
                rw [hE2, hM2]; unfold cE cL
                rw [if_pos hm2, if_pos hm2, hnn]
                exact ⟨rfl, hmono hm2⟩
              | false =>
                right
                rw [hE2, hM2]; unfold cE cL
                rw [hm2]; exact ⟨rfl, rfl⟩
            rw [← hE2, ← hM2] at hlen2
            clear hlen hmay hmono hgz hwl hokx hnn hE2 hM2 hv48 hvl
            obtain ⟨Ls, hLs⟩ : ∃ Ls, Ls = CC (xs ++ [(kk, KK, v)]) := ⟨_, rfl⟩
            rw [← hLs] at H5 HX
            have HLs := Lib.hid hLs
            clear hLs
            go_wp2_with fail
            refine HLn.out.mono ?_
            rintro e w6 ⟨rfl, hb⟩
            have H6 := Lib.hid (H5.out.more hb)
            clear hb c0 c1 c2 b0 b1 H5 HLn
            obtain ⟨⟨c0, c1, c2⟩, b0, b1⟩ := H6.out.use
            go_wp2_with fail
            refine (hlen2.out _).mono ?_
            rintro e w7 ⟨rfl, hb⟩
            have H7 := Lib.hid (H6.out.more hb)
            clear hb c0 c1 c2 b0 b1 H6
            clear hwv
            have HEM := Lib.hid hEM
            clear hEM
            go_upto_region 17 with fail
            go_cut [92] (fun s92 wx => s92 = .bool false ∧ wx = w7)
            case first =>
              rcases HEM.out with ⟨hE, hEM⟩ | ⟨hE, hEM⟩
              all_goals subst hE
              · have hd : decide (M2 < nn) = false := decide_eq_false (by omega)
                clear hEM
                go_wp2_with fail
                refine (wlen_any h o5 Ls _ H7.out.kb.a1).mono ?_
                rintro e w' ⟨rfl, rfl⟩
                rw [HX.out.1]
                go_wp2_with fail
                go_meet
                exact ⟨rfl, rfl⟩
              · clear hEM
                go_wp2_with fail
                refine (wlen_any h o5 Ls _ H7.out.kb.a1).mono ?_
                rintro e w' ⟨rfl, rfl⟩
                rw [HX.out.1]
                go_wp2_with fail
                go_meet
                exact ⟨rfl, rfl⟩
            case rest =>
              obtain ⟨rfl, rfl⟩ := hcut
              obtain ⟨⟨c0, c1, c2⟩, b0, b1⟩ := H7.out.use
              go_upto_if 95 with fail
              go_cut [] (fun wx => Kr w wx h o5 Ls u4 xs g6 g7 kk KK v)
              case first =>
                by_cases k1 : kk = 1
                · subst k1
                  obtain ⟨z1, z2⟩ := HX.out.2.2 (by trivial)
                  have HZ := Lib.hid (And.intro z1 z2)
                  clear z1 z2
                  go_wp2_with fail
                  refine (clen_any 3 1 v _ (by decide)).mono ?_
                  rintro e w8 ⟨rfl, hb⟩
                  rw [HZ.out.1, HZ.out.2]
                  have H8 := Lib.hid (H7.out.more hb)
                  clear hb
                  go_wp2_with fail
                  go_meet
                  exact H8.out
                · have k1b : ((kk : Int) == 1) = false := by simp; omega
                  clear k1
                  go_wp2_with fail
                  go_meet
                  exact H7.out
              case rest =>
                have H9 := Lib.hid hcut
                clear hcut c0 c1 c2 b0 b1 H7
                obtain ⟨⟨c0, c1, c2⟩, b0, b1⟩ := H9.out.use
                have hown := H9.out.kb.row
                go_wp2_with (at_builtin; refine wpList_append_own_at _ rfl (.tmp 110) (.tmp 112) _ rfl 0 78 i0 (.agg #[.int .u8 0, .int .u64 0, .int .u64 0]) 3 24 Try.underlying76 hi hz0 hz1 hz2 rfl (by decide) u4 xs.length (cells3 xs) rfl (hown.alloc _) ⟨wc.heap.size, 0, none⟩ 1 1 [.int .u8 kk, .int .u64 KK, .int .u64 v] rfl rfl ?c1 ?c2 ?c3 ?c4 ?c5 ?_)
                case c1 => exact cell_three _ _ _ _ _
                case c2 => simp [Value.oneCell']
                case c3 => unfold maxLen; omega
                case c4 => omega
                case c5 => exact Nat.zero_le _
                intro v' w9 hown1 hgrow _ hat
                have H10 : Hid (Kb w w9 h o5 Ls v' (xs ++ [(kk, KK, v)])) := Kb.place H9.out.kb hown1 hgrow hat
                clear hown hown1 hgrow hat c0 c1 c2 b0 b1
                go_wp2_with fail
                go_roundg (gk - 1)
                case measure => omega
                case rel =>
                  refine ⟨k + 1, o5, xs ++ [(kk, KK, v)], by omega, by go_num, by simp; omega, by simp; omega, ?_, ?_⟩
                  · intro x hx
                    rcases List.mem_append.1 hx with hx | hx
                    · exact HOk.out x hx
                    · simp at hx; subst hx; exact HX.out.2.1
                  · rw [← HLs.out]; exact H10.out
      · by_cases hkn : k < n
        · have hk60 : ¬ k < 60 := fun h => hlt ⟨hkn, h⟩
          clear hlt
          go_wp2_with fail
          go_meet
          exact ⟨o, xs, hx60, HOk.out, HT.out⟩
        · clear hlt
          go_wp2_with fail
          go_meet
          exact ⟨o, xs, hx60, HOk.out, HT.out⟩
  case rest =>
    obtain ⟨o, xs, hx60, hok, ht⟩ := hcut
    clear H1
    obtain ⟨A4, c4, rfl⟩ := own_shape3 ht.row
    have hCl := CC_len hok
    obtain ⟨B, hB⟩ : ∃ B, B = CC xs := ⟨_, rfl⟩
    rw [← hB] at ht hCl
    have HB := Lib.hid hB
    have HT := Lib.hid ht
    have HOk := Lib.hid hok
    obtain ⟨m, hm⟩ : ∃ m, m = xs.length := ⟨_, rfl⟩
    rw [← hm] at hCl hx60 HT ⊢
    have Hm := Lib.hid hm
    clear hB ht hok hm
    go_wp2_with fail
    refine (wtext_any h o B _ HT.out.a1).mono ?_
    rintro e w' ⟨rfl, rfl⟩
    obtain ⟨s, hs⟩ : ∃ s, s = strOf (pk B) := ⟨_, rfl⟩
    have hsz : s.size ≤ 140737488355328 := by rw [hs, size_text]; omega
    rw [← hs]
    have HS := Lib.hid (And.intro hs hsz)
    clear hs hsz hCl
    go_wp2_with fail
    refine (open_any s _).mono ?_
    rintro e w' ⟨rfl, rfl⟩
    obtain ⟨r, hr⟩ : ∃ r, r = wc.heap.size := ⟨_, rfl⟩
    obtain ⟨w2, hw2⟩ : ∃ w2, w2 = wc.alloc (.cells #[.string s, .int .i64 0] 88) := ⟨_, rfl⟩
    have H2 : Hid (Ka w w2 h o B (.slice A4 m c4) xs r s 0) := by
      rw [hw2, hr]
      exact ⟨HT.out.more ((Below.refl _ _).alloc (Nat.le_refl _) _), RdAt.new wc s, HT.out.below.size⟩
    rw [← hw2, ← hr]
    clear hw2 hr HT
    go_wp2_with fail
    refine (new_any _).mono ?_
    rintro e w' ⟨rfl, rfl⟩
    obtain ⟨h4, hh4⟩ : ∃ h4, h4 = w2.heap.size := ⟨_, rfl⟩
    obtain ⟨w3, hw3⟩ : ∃ w3, w3 = w2.alloc (.cells #[.slice none 0 0, .int .i64 0] 93) := ⟨_, rfl⟩
    have H3 : Hid (Ka w w3 h4 none [] (.slice A4 m c4) xs r s 0) := by
      rw [hw3, hh4]
      have q := H2.out.more ((Below.refl _ _).alloc (Nat.le_refl _) (.cells #[.slice none 0 0, .int .i64 0] 93))
      exact ⟨⟨WrAt.new w2, q.kb.row, q.kb.gv, q.kb.below, H2.out.kb.below.size, Ge.none_⟩, q.rr, q.gr⟩
    go_upto_block 2 with fail
    rw [← hw3, ← hh4]
    clear hw3 hh4 H2
    go_wp2_with fail
    go_loopg [20] m (fun g i wr => ∃ (k : Nat) (o4 : Option Nat), k + g = m ∧ i = .int .i64 k ∧ Ka w wr h4 o4 (CC (xs.take k)) (.slice A4 m c4) xs r s (CC (xs.take k)).length)
    case atStart => exact ⟨0, none, by omega, rfl, by simpa [CC] using H3.out⟩
    case round =>
      obtain ⟨k, o4, hk, rfl, ht⟩ := hrel
      clear H3
      have HT := Lib.hid ht
      clear ht
      by_cases hkm : k < m
      · obtain ⟨x, hx⟩ : ∃ x, xs[k]? = some x := ⟨_, List.getElem?_eq_getElem (by have := Hm.out; omega)⟩
        obtain ⟨R, hC1, hC2⟩ := CC_at hx
        have hokx := HOk.out x (List.mem_of_getElem? hx)
        have hbr := back_read (s := s) hx hokx (by rw [HS.out.1, HB.out])
        obtain ⟨kk, KK, v⟩ := x
        simp only at hbr hokx hC2
        obtain ⟨L, hL⟩ : ∃ L, L = CC (xs.take k) := ⟨_, rfl⟩
        obtain ⟨L', hL'⟩ : ∃ L', L' = CC (xs.take (k + 1)) := ⟨_, rfl⟩
        have hLl : L'.length ≤ 134217728 := by
          have h1 := CC_len (xs := xs.take (k + 1)) (fun y hy => HOk.out y (List.mem_of_mem_take hy))
          have h2 : (xs.take (k + 1)).length ≤ 60 := by rw [List.length_take]; have := Hm.out; omega
          rw [hL']; omega
        rw [← hL] at HT hbr hC2
        rw [← hL'] at hbr hC2
        have hcp : cpC L.length kk KK v = 0 ∧ cpB L kk KK v = L' := by
          have q : cpC L.length kk KK v = 0 := by
            unfold cpC; rw [if_pos hokx.1, if_neg (by rw [hC2, List.length_append] at hLl; omega)]
          exact ⟨q, by unfold cpB; rw [q, if_pos rfl, hC2]⟩
        have hLL : L.length ≤ 134217728 := by rw [hC2, List.length_append] at hLl; omega
        have HX := Lib.hid (And.intro hx (And.intro hbr (And.intro hcp (And.intro hokx.2 (And.intro hLL hL')))))
        clear hx hC1 hC2 hokx hbr hL hL' hLl hcp hLL
        obtain ⟨g, rfl, d1, d2, d3⟩ := row3 HT.out.kb.row (Hm.out) HX.out.1
        go_wp2_with fail
        refine (own_any kk KK _).mono ?_
        rintro e w4 ⟨rfl, hb⟩
        have H4 := Lib.hid (HT.out.more hb)
        clear hb d1 d2 d3 HT
        go_wp2_with fail
        refine (cread_any r s L.length kk KK _ H4.out.rr HS.out.2 HX.out.2.2.2.1).mono ?_
        rintro e w5 ⟨rfl, hp⟩
        rw [HX.out.2.1.1, HX.out.2.1.2.1]
        rw [HX.out.2.1.2.2] at hp
        have H5 := Lib.hid (H4.out.read hp)
        clear hp H4
        obtain ⟨g', hg', d1, d2, d3⟩ := row3 H5.out.kb.row (Hm.out) HX.out.1
        injection hg' with hg'
        injection hg' with hg'
        subst hg'
        simp only at d1 d2 d3
        go_wp2_with fail
        refine (own_any kk KK _).mono ?_
        rintro e w6 ⟨rfl, hb⟩
        have H6 := Lib.hid (H5.out.more hb)
        clear hb d1 d2 d3 H5
        go_wp2_with fail
        refine (cput_any h4 o4 L kk KK v _ H6.out.kb.a1 HX.out.2.2.2.2.1 HX.out.2.2.2.1).mono ?_
        rintro e w7 ⟨rfl, hp⟩
        rw [HX.out.2.2.1.1]
        rw [HX.out.2.2.1.2] at hp
        obtain ⟨o7, q7⟩ := H6.out.wrote hp
        have H7 := Lib.hid q7
        clear hp q7 H6
        go_wp2_with fail
        refine (wlen_any h4 o7 L' _ H7.out.kb.a1).mono ?_
        rintro e w' ⟨rfl, rfl⟩
        go_wp2_with fail
        refine (at_any r s L'.length _ H7.out.rr).mono ?_
        rintro e w' ⟨rfl, rfl⟩
        go_wp2_with fail
        go_roundg (gk - 1)
        case measure => omega
        case rel => exact ⟨k + 1, o7, by omega, by go_num, by rw [← HX.out.2.2.2.2.2]; exact H7.out⟩
      · have hkm2 : CC (xs.take k) = B := by
          rw [HB.out, List.take_of_length_le (by have := Hm.out; omega)]
        rw [hkm2] at HT
        have Hkm := Lib.hid hkm2
        clear hkm2
        go_wp2_with fail
        refine (wtext_any h4 o4 B _ HT.out.kb.a1).mono ?_
        rintro e w' ⟨rfl, rfl⟩
        rw [← HS.out.1]
        go_wp2_with fail
        refine (caw_any _).mono ?_
        rintro e w6 ⟨rfl, hb6⟩
        have H6 := Lib.hid (below_step HT.out.kb.below hb6)
        clear hb6
        go_wp2_with fail
        go_ret
        exact ⟨rfl, H6.out⟩
end Go.Proofs.Ytmgngmnkmmhckaa
