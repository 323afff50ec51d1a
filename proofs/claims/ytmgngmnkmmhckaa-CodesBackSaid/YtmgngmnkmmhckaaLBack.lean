/-
  BitioBack: the law's walk.
-/
import Derived.Test.YtmgngmnkmmhckaaBackPlain
import Derived.Deep.CutBlock
import Derived.Deep.RegionHeld3
set_option linter.unusedVariables false
namespace Go.Proofs.Ytmgngmnkmmhckaa
open Go.RowKit Plain

/-- the script in memory, its texts not asked for -/
def ScriptB (w : World) (A : Option Addr) (n : Nat) (N : Nat → Int) (V : Nat → Nat) : Prop :=
  0 < n → ∃ b off, A = some ⟨b, off, none⟩ ∧ b < w.heap.size ∧ ∀ i, i < n → (w.cell? ⟨b, off + i * 4 + 1, none⟩ = some (.int .u64 (V i)) ∧ w.cell? ⟨b, off + i * 4 + 2, none⟩ = some (.int .i64 (N i)))

theorem info3 : (Try.prog.info? 3).map (fun i => (i.zero, i.size, i.bytes)) = some (some (.int .i64 0), 1, 8) := by kernel_rfl

theorem rd_drewN {w : World} {h a : Nat} {s : ByteArray} (hw : RdAt w h s a) (n : Nat) : RdAt (w.drewN n) h s a := hw
theorem back_row {w : World} {A : Option Addr} {m c k : Nat} {N : Nat → Int} {V : Nat → Nat} (h : w.ownsRow 0 3 1 (.slice A m c) m (ints (ats N V m))) (hk : k < m) :
    ∃ g, A = some ⟨g, 0, none⟩ ∧ w.cell? ⟨g, k, none⟩ = some (.int .i64 ((BB N V k).length : Nat)) := by
  obtain ⟨g, cap, hv, _, _⟩ := World.ownsRow.form h (by omega)
  injection hv with hA _ hc
  subst hA hc
  refine ⟨g, rfl, ?_⟩
  rw [World.ownsRow.cellAt h k (by omega)]
  simp [ints, ats, hk]

theorem bput {h : Nat} {o : Option Nat} {l : List Bool} {w : World} {v n : Nat} (hw : WrAt w h o l) (hv : v < 2 ^ n) (hv64 : v < 18446744073709551616) (hn : n ≤ 64) (hl : l.length ≤ 20000) :
    Calls Try.prog 26 #[.pointer (some ⟨h, 0, none⟩), .int .u64 v, .int .i64 n] w fun e w' => e = .returned (.int .i64 0) ∧ WrTo w h o (l ++ bitsOf v n) w' := by
  have hc : putCode l.length v n = 0 := putCode_ok (by simp [hv]; omega) (by omega)
  have hb : putBits l v n = l ++ bitsOf v n := by unfold putBits; rw [hc, if_pos rfl]; rfl
  have := wput_any h o l v n w hv64 hw (by omega)
  rw [hb, hc] at this
  exact this
theorem bbit {h : Nat} {o : Option Nat} {l : List Bool} {w : World} {b : Bool} (hw : WrAt w h o l) (hl : l.length ≤ 20000) :
    Calls Try.prog 27 #[.pointer (some ⟨h, 0, none⟩), .bool b] w fun e w' => e = .returned (.int .i64 0) ∧ WrTo w h o (l ++ [b]) w' := by
  have hc : putCode l.length b.toNat 1 = 0 := putCode_ok (by cases b <;> decide) (by omega)
  have hb : putBits l b.toNat 1 = l ++ [b] := by unfold putBits; rw [hc, if_pos rfl]; cases b <;> rfl
  have := wbit_any h o l b w hw (by omega)
  rw [hb, hc] at this
  exact this

theorem Back.same {w0 w w1 : World} {h1 h4 : Nat} {o1 o4 : Option Nat} {l1 l4 : List Bool} {v : Value} {xs : List Nat} (t : Back w0 w h1 h4 o1 o4 l1 l4 v xs) (ho : Only (fun _ => False) w w1) : Back w0 w1 h1 h4 o1 o4 l1 l4 v xs :=
  ⟨t.a1.only ho (fun _ _ h => h), t.a4.only ho (fun _ _ h => h), own_only t.row ho (fun _ _ h => h), t.gv, t.ne, t.apart, below_only t.below ho t.below.size (fun _ h => h.elim), t.g1, t.g4, t.e1, t.e4⟩
theorem WrAt.rd_ne {w : World} {h h5 a : Nat} {o : Option Nat} {l : List Bool} {s : ByteArray} (x : WrAt w h o l) (r : RdAt w h5 s a) : ∀ k, WrFoot h o k → ¬ k = h5 := by
  obtain ⟨sv, b, ro, rfl⟩ := x
  rintro k (rfl | hk) e
  · exact b.ne_ r.1 (by decide) e
  · exact own_blk_ne ro r.1 (by decide) k hk e
theorem Back.reader {w0 w w1 : World} {h1 h4 h5 a : Nat} {o1 o4 : Option Nat} {l1 l4 : List Bool} {v : Value} {xs : List Nat} {s : ByteArray} (t : Back w0 w h1 h4 o1 o4 l1 l4 v xs) (r : RdAt w h5 s a) (hg : w0.heap.size ≤ h5) (ho : Only (fun k => k = h5) w w1) :
    Back w0 w1 h1 h4 o1 o4 l1 l4 v xs :=
  ⟨t.a1.only ho (WrAt.rd_ne t.a1 r), t.a4.only ho (WrAt.rd_ne t.a4 r), own_only t.row ho (fun g hg => own_blk_ne t.row r.1 (by decide) g hg), t.gv, t.ne, t.apart, below_only t.below ho t.below.size (by rintro i rfl; exact hg), t.g1, t.g4, t.e1, t.e4⟩

set_option maxRecDepth 100000 in
set_option maxHeartbeats 4000000 in
theorem back_any (A : Option Addr) (n c : Nat) (N : Nat → Int) (V : Nat → Nat) (hV : ∀ i, V i < 18446744073709551616) (w : World) (hn : n ≤ 9223372036854775807) (hA : ScriptB w A n N V) :
    Calls Try.prog 4 #[.slice A n c] w fun e w' => e = .returned (.bool true) ∧ Below w.heap.size w w' := by
  obtain ⟨i0, hi, hz0, hz1, hz2⟩ := info_parts info3
  have HA := Lib.hid hA
  have HV := Lib.hid hV
  clear hA hV
  go_enter Try.func4, Try.ntmps4
  go_wp2_with fail
  refine (new_any _).mono ?_
  rintro e w1 ⟨rfl, rfl⟩
  go_wp2_with fail
  refine (new_any _).mono ?_
  rintro e w1 ⟨rfl, rfl⟩
  have HT : Hid (Back w ((w.alloc (.cells #[.slice none 0 0, .int .i64 0] 93)).alloc (.cells #[.slice none 0 0, .int .i64 0] 93)) w.heap.size (w.heap.size + 1) none none [] [] (.slice none 0 0) []) := by
    have a1 := WrAt.new w
    have d1 : Only (fun _ => False) (w.alloc (.cells #[.slice none 0 0, .int .i64 0] 93)) ((w.alloc (.cells #[.slice none 0 0, .int .i64 0] 93)).alloc (.cells #[.slice none 0 0, .int .i64 0] 93)) := (Only.refl _ _).alloc _
    have a2 := WrAt.new (w.alloc (.cells #[.slice none 0 0, .int .i64 0] 93))
    rw [World.size_alloc] at a2
    exact ⟨a1.only d1 (fun _ _ h => h), a2, World.ownsRow_nil _ _ _ _, Ge.none_, by omega, Apart.none_, ((Below.refl _ w).alloc (Nat.le_refl _) _).alloc (by simp) _, Nat.le_refl _, by omega, Ge.none_, Ge.none_⟩
  go_upto_block 0 with fail
  obtain ⟨wx, hwx⟩ : ∃ wx, wx = ((w.alloc (.cells #[.slice none 0 0, .int .i64 0] 93)).alloc (.cells #[.slice none 0 0, .int .i64 0] 93)) := ⟨_, rfl⟩
  obtain ⟨h1, hh1⟩ : ∃ h1, h1 = w.heap.size := ⟨_, rfl⟩
  obtain ⟨h4, hh4⟩ : ∃ h4, h4 = w.heap.size + 1 := ⟨_, rfl⟩
  rw [← hwx, ← hh1] at HT
  rw [← hwx, ← hh1]
  have H0 : Hid (Back w wx h1 h4 none none [] [] (.slice none 0 0) []) := by rw [hh4, hh1]; rw [hh1] at HT; exact HT
  have e4 : (h1 + 1) = h4 := by omega
  rw [e4]
  clear hwx hh1 hh4 e4 HT
  go_cut [5] (fun s5 wx => ∃ (m : Nat) (o1 o4 : Option Nat), m ≤ 200 ∧ m ≤ n ∧ Back w wx h1 h4 o1 o4 (BB N V m) (BB N V m) s5 (ats N V m))
  case first =>
    go_wp2_with fail
    go_loopg [5, 6] n (fun g s5 i wr => ∃ (k : Nat) (o1 o4 : Option Nat), k + g = n ∧ k ≤ 200 ∧ i = .int .i64 k ∧ Back w wr h1 h4 o1 o4 (BB N V k) (BB N V k) s5 (ats N V k))
    case atStart => exact ⟨0, none, none, by omega, by omega, rfl, H0.out⟩
    case round =>
      obtain ⟨k, o1, o4, hk, hk1, rfl, ht⟩ := hrel
      clear H0
      by_cases hlt : k < n ∧ k < 200
      · obtain ⟨hkn, hk200⟩ := hlt
        obtain ⟨b, off, rfl, m1, hcells⟩ := HA.out (by omega)
        obtain ⟨c1, c2⟩ := hcells k hkn
        clear hcells
        have d1 := (ht.below.cell (p := ⟨b, off + k * 4 + 1, none⟩) m1).trans c1
        have d2 := (ht.below.cell (p := ⟨b, off + k * 4 + 2, none⟩) m1).trans c2
        clear c1 c2
        have hVk := HV.out k
        have hnn : (Int.tmod (N k) 65 % 65) = ((wN (N k) : Nat) : Int) := by unfold wN; have := tmod65 (N k); omega
        have hnn2 : ((Int.tmod (N k) 65 + 65) % 65) = ((wN (N k) : Nat) : Int) := by unfold wN; have := tmod65 (N k); omega
        obtain ⟨tb1, tb2⟩ := tmod65 (N k)
        obtain ⟨nn, hnne⟩ : ∃ nn, nn = wN (N k) := ⟨_, rfl⟩
        have hnlt := wN_lt (N k)
        rw [← hnne] at hnn hnn2 hnlt
        have HN := Lib.hid hnne
        clear hnne
        go_upto_if 51 with fail
        go_cut [8] (fun s8 wx => s8 = .int .u64 (wV (V k) nn : Nat) ∧ wx = wr)
        case first =>
          by_cases h64 : nn < 64
          · obtain ⟨P, hP⟩ : ∃ P, P = 2 ^ nn := ⟨_, rfl⟩
            have hPlt : P < 18446744073709551616 := by
              have h1 : 2 ^ nn ≤ 2 ^ 63 := Nat.pow_le_pow_right (by decide) (by omega)
              have h2 : (2 : Nat) ^ 63 = 9223372036854775808 := by decide
              omega
            have hP0 : 0 < P := by rw [hP]; exact Nat.pow_pos (by decide)
            have hwr : IntKind.u64.wrap (2 ^ nn) = (P : Int) := by
              have : ((2 : Int) ^ nn) = (P : Int) := by rw [hP, Int.natCast_pow]; rfl
              rw [this]; exact wrap_nat64 _ hPlt
            have hv : wV (V k) nn = V k % P := by unfold wV; rw [if_pos h64, hP]
            have Hv := Lib.hid hv
            clear hP hPlt hv
            go_wp2_with fail
            go_meet
            exact ⟨by rw [Hv.out]; congr 1, rfl⟩
          · have hv : wV (V k) nn = V k := by unfold wV; rw [if_neg h64]
            have Hv := Lib.hid hv
            clear hv
            go_wp2_with fail
            go_meet
            exact ⟨by rw [Hv.out], rfl⟩
        case rest =>
          obtain ⟨rfl, rfl⟩ := hcut
          have hvl := wV_lt (V k) nn hVk (by omega)
          have hvl64 := wV_lt64 (V k) nn hVk
          obtain ⟨v, hve⟩ : ∃ v, v = wV (V k) nn := ⟨_, rfl⟩
          rw [← hve] at hvl hvl64 ⊢
          have Hv := Lib.hid (And.intro hve hvl)
          clear hve hvl d1 d2
          have hBl := BB_len N V k
          have hlk := length_ats N V k
          have Hlk := Lib.hid hlk
          obtain ⟨L, hL⟩ : ∃ L, L = BB N V k := ⟨_, rfl⟩
          rw [← hL] at hBl ht
          have HL := Lib.hid hL
          clear hlk hL
          have hown := ht.row
          rw [Hlk.out] at hown
          have HT := Lib.hid ht
          clear ht
          go_wp2_with fail
          refine (wlen_any h1 o1 L _ HT.out.a1).mono ?_
          rintro e w' ⟨rfl, rfl⟩
          go_wp2_with (at_builtin; refine wpList_append_own_at _ rfl (.tmp 56) (.tmp 59) _ rfl 0 3 i0 (.int .i64 0) 1 8 Try.underlying45 hi hz0 hz1 hz2 rfl (by decide) u5 k (ints (ats N V k)) rfl (hown.alloc _) ⟨wc.heap.size, 0, none⟩ 1 1 [.int .i64 L.length] rfl rfl ?c1 ?c2 ?c3 ?c4 ?c5 ?_)
          case c1 => exact cell_one_new _ _ _
          case c2 => simp [Value.oneCell']
          case c3 => unfold maxLen; omega
          case c4 => omega
          case c5 => exact Nat.zero_le _
          intro v' w1 hown1 hgrow _ hat
          have HT2 : Hid (Back w w1 h1 h4 o1 o4 L L v' (ats N V k ++ [L.length])) := Back.place HT.out (by rw [Hlk.out]; exact hown1) hgrow hat
          clear hown hown1 hgrow hat
          go_wp2_with fail
          refine (bput HT2.out.a1 Hv.out.2 hvl64 (by omega) (by omega)).mono ?_
          rintro e w2 ⟨rfl, hp⟩
          obtain ⟨o1', ht3⟩ := Back.first HT2.out hp
          have HT3 := Lib.hid ht3
          clear hp ht3
          go_wp2_with fail
          obtain ⟨gk0, hgk0⟩ : ∃ gk0, gk0 = gk := ⟨_, rfl⟩
          go_loopg [9] nn (fun g j wr => j = .int .i64 ((g : Int) - 1) ∧ g ≤ nn ∧ ∃ o4', Back w wr h1 h4 o1' o4' (L ++ bitsOf v nn) (L ++ (bitsOf v nn).take (nn - g)) v' (ats N V k ++ [L.length]))
          case atStart => exact ⟨rfl, Nat.le_refl _, o4, by rw [Nat.sub_self, List.take_zero, List.append_nil]; exact HT3.out⟩
          case round =>
            obtain ⟨rfl, hgn, o4', htr⟩ := hrel
            clear HT HT2 HT3
            by_cases hg0 : gk = 0
            · subst hg0
              have HTr := Lib.hid htr
              clear htr
              go_wp2_with fail
              go_roundg (gk0 - 1)
              case measure => omega
              case rel =>
                refine ⟨k + 1, o1', o4', by omega, by omega, by go_num, ?_⟩
                have htr := HTr.out
                rw [Nat.sub_zero, List.take_of_length_le (by rw [length_bitsOf]; exact Nat.le_refl _)] at htr
                rw [BB_succ, ats_succ, ← HL.out, ← HN.out, ← Hv.out.1]
                exact htr
            · obtain ⟨g, rfl⟩ : ∃ g, gk = g + 1 := ⟨gk - 1, by omega⟩
              have e : (((g + 1 : Nat) : Int) - 1) = (g : Int) := by omega
              rw [e]
              have hbit := bit_u64 v g hvl64
              obtain ⟨bb, hbb⟩ : ∃ bb, bb = v.testBit g := ⟨_, rfl⟩
              rw [← hbb] at hbit
              have Hbb := Lib.hid hbb
              clear hbb e
              have hlb : (L ++ (bitsOf v nn).take (nn - (g + 1))).length ≤ 20000 := by rw [List.length_append, List.length_take, length_bitsOf]; omega
              have HTr := Lib.hid htr
              clear htr
              go_wp2_with fail
              refine (bbit HTr.out.a4 hlb).mono ?_
              rintro e w3 ⟨rfl, hp⟩
              obtain ⟨o4'', ht4⟩ := Back.second HTr.out hp
              have HT4 := Lib.hid ht4
              clear hp ht4
              go_wp2_with fail
              go_roundg g
              case measure => omega
              case rel =>
                refine ⟨rfl, by omega, o4'', ?_⟩
                rw [take_bitsN _ _ _ (by omega), ← List.append_assoc, ← Hbb.out]
                exact HT4.out
      · have HT := Lib.hid ht
        clear ht
        by_cases hkn : k < n
        · have hk200 : ¬ k < 200 := fun h => hlt ⟨hkn, h⟩
          clear hlt
          go_wp2_with fail
          go_meet
          exact ⟨k, o1, o4, by omega, by omega, HT.out⟩
        · clear hlt
          go_wp2_with fail
          go_meet
          exact ⟨k, o1, o4, by omega, by omega, HT.out⟩
  case rest =>
    obtain ⟨m, o1, o4, hm200, hmn, ht⟩ := hcut
    clear H0
    have hBl := BB_len N V m
    obtain ⟨B, hB⟩ : ∃ B, B = BB N V m := ⟨_, rfl⟩
    rw [← hB] at ht hBl
    have HB := Lib.hid hB
    obtain ⟨A5, c5, rfl⟩ := own_shape ht.row
    have hlm := length_ats N V m
    have HT := Lib.hid ht
    clear hB ht
    rw [hlm] at HT ⊢
    have Hlm := Lib.hid hlm
    clear hlm
    go_wp2_with fail
    refine (wtext_any h1 o1 B _ HT.out.a1).mono ?_
    rintro e w' ⟨rfl, rfl⟩
    go_wp2_with fail
    refine (wtext_any h4 o4 B _ HT.out.a4).mono ?_
    rintro e w' ⟨rfl, rfl⟩
    obtain ⟨S, hS⟩ : ∃ S, S = strOf (pk B) := ⟨_, rfl⟩
    have hSs : S.size = (B.length + 7) / 8 := by rw [hS]; exact size_text B
    rw [← hS]
    have HS := Lib.hid (And.intro hS hSs)
    have hS8 : S.size ≤ 16777216 := by omega
    clear hS hSs
    go_wp2_with fail
    refine (open_any S _).mono ?_
    rintro e w' ⟨rfl, rfl⟩
    have hr5 := RdAt.new wc S
    have ht5 : Back w (wc.alloc (.cells #[.string S, .int .i64 0] 88)) h1 h4 o1 o4 B B (.slice A5 m c5) (ats N V m) := HT.out.same ((Only.refl _ _).alloc _)
    obtain ⟨h5, hh5⟩ : ∃ h5, h5 = wc.heap.size := ⟨_, rfl⟩
    have g5 : w.heap.size ≤ h5 := by rw [hh5]; exact HT.out.below.size
    obtain ⟨w5, hw5⟩ : ∃ w5, w5 = wc.alloc (.cells #[.string S, .int .i64 0] 88) := ⟨_, rfl⟩
    go_upto_block 4 with fail
    rw [← hw5, ← hh5] at hr5
    rw [← hw5] at ht5
    rw [← hw5, ← hh5]
    have H5 := Lib.hid (And.intro hr5 ht5)
    clear hw5 hh5 hr5 ht5 HT
    go_wp2_with fail
    go_loopg [15] m (fun g j wr => j = .int .i64 ((g : Int) - 1) ∧ g ≤ m ∧ ∃ a, RdAt wr h5 S a ∧ Back w wr h1 h4 o1 o4 B B (.slice A5 m c5) (ats N V m))
    case atStart => exact ⟨rfl, Nat.le_refl _, 0, H5.out⟩
    case round =>
      obtain ⟨rfl, hgm, a, hrd, ht⟩ := hrel
      clear H5
      by_cases hg0 : gk = 0
      · subst hg0
        have hSB := HS.out.2
        have hb8 : B.length ≤ 8 * S.size := by omega
        have hb9 : 8 * S.size - B.length < 8 := by omega
        obtain ⟨lf, hlf⟩ : ∃ lf, lf = 8 * S.size - B.length := ⟨_, rfl⟩
        have hlf8 : lf < 8 := by omega
        have s1 : seekCode S.size (B.length : Nat) = 0 := by unfold seekCode; rw [if_neg (by omega)]
        have s2 : seekAt S.size a (B.length : Nat) = B.length := by unfold seekAt; rw [s1, if_pos rfl]; rfl
        have t1 : takeCode (8 * S.size) B.length lf = 0 := by unfold takeCode; rw [if_neg (by omega), if_neg (by omega)]
        have t2 : takeVal (bitsS S) B.length lf = 0 := by unfold takeVal; rw [length_bitsS, t1, if_pos rfl, HS.out.1]; exact back_rest B _
        have hle : 8 * (S.size : Int) - (B.length : Int) = (lf : Int) := by omega
        have HQ := Lib.hid (And.intro s1 (And.intro s2 (And.intro t1 (And.intro t2 hle))))
        have HT := Lib.hid (And.intro hrd ht)
        clear s1 s2 t1 t2 hle hSB hrd ht hlf
        go_wp2_with fail
        refine (wlen_any h1 o1 B _ HT.out.2.a1).mono ?_
        rintro e w' ⟨rfl, rfl⟩
        go_wp2_with fail
        refine (seek_any h5 S a (B.length : Nat) _ HT.out.1 (by omega)).mono ?_
        rintro e w6 ⟨rfl, hr6⟩
        rw [HQ.out.1]
        rw [HQ.out.2.1] at hr6
        have ht6 := Back.reader HT.out.2 HT.out.1 g5 hr6.2
        have hrd6 := hr6.1
        clear hr6
        go_wp2_with fail
        refine (left_any h5 S B.length _ hrd6 (by omega)).mono ?_
        rintro e w7 ⟨rfl, nk, rfl⟩
        rw [HQ.out.2.2.2.2]
        have hrd7 : RdAt (w6.drewN nk) h5 S B.length := hrd6
        have ht7 : Back w (w6.drewN nk) h1 h4 o1 o4 B B (.slice A5 m c5) (ats N V m) := ht6.same ((Only.refl _ _).drewN _)
        clear hrd6 ht6
        go_wp2_with fail
        refine (take_any h5 S B.length lf _ hrd7 (by omega)).mono ?_
        rintro e w8 ⟨rfl, hr8⟩
        rw [HQ.out.2.2.1, HQ.out.2.2.2.1]
        have HT8 := Lib.hid (Back.reader ht7 hrd7 g5 hr8.2)
        clear hr8 hrd7 ht7
        go_wp2_with fail
        refine (awake_any _).mono ?_
        rintro e w9 ⟨rfl, hb⟩
        have HF := Lib.hid (HT8.out.below.trans (hb.mono HT8.out.below.size))
        clear hb
        go_wp2_with fail
        go_ret
        exact ⟨rfl, HF.out⟩
      · obtain ⟨k, rfl⟩ : ∃ k, gk = k + 1 := ⟨gk - 1, by omega⟩
        have e : (((k + 1 : Nat) : Int) - 1) = (k : Int) := by omega
        rw [e]
        obtain ⟨b, off, rfl, m1, hcells⟩ := HA.out (by omega)
        obtain ⟨c1, c2⟩ := hcells k (by omega)
        clear hcells e
        have d1 := (ht.below.cell (p := ⟨b, off + k * 4 + 1, none⟩) m1).trans c1
        have d2 := (ht.below.cell (p := ⟨b, off + k * 4 + 2, none⟩) m1).trans c2
        clear c1 c2
        have hVk := HV.out k
        have hnn : (Int.tmod (N k) 65 % 65) = ((wN (N k) : Nat) : Int) := by unfold wN; have := tmod65 (N k); omega
        have hnn2 : ((Int.tmod (N k) 65 + 65) % 65) = ((wN (N k) : Nat) : Int) := by unfold wN; have := tmod65 (N k); omega
        obtain ⟨tb1, tb2⟩ := tmod65 (N k)
        obtain ⟨nn, hnne⟩ : ∃ nn, nn = wN (N k) := ⟨_, rfl⟩
        have hnlt := wN_lt (N k)
        rw [← hnne] at hnn hnn2 hnlt
        have HN := Lib.hid hnne
        clear hnne
        have hkn : (k : Int) < (n : Int) := by omega
        go_upto_if 112 with fail
        go_cut [17] (fun s17 wx => s17 = .int .u64 (wV (V k) nn : Nat) ∧ wx = wr)
        case first =>
          by_cases h64 : nn < 64
          · obtain ⟨P, hP⟩ : ∃ P, P = 2 ^ nn := ⟨_, rfl⟩
            have hPlt : P < 18446744073709551616 := by
              have h1 : 2 ^ nn ≤ 2 ^ 63 := Nat.pow_le_pow_right (by decide) (by omega)
              have h2 : (2 : Nat) ^ 63 = 9223372036854775808 := by decide
              omega
            have hP0 : 0 < P := by rw [hP]; exact Nat.pow_pos (by decide)
            have hwr : IntKind.u64.wrap (2 ^ nn) = (P : Int) := by
              have : ((2 : Int) ^ nn) = (P : Int) := by rw [hP, Int.natCast_pow]; rfl
              rw [this]; exact wrap_nat64 _ hPlt
            have hv : wV (V k) nn = V k % P := by unfold wV; rw [if_pos h64, hP]
            have Hv := Lib.hid hv
            clear hP hPlt hv
            go_wp2_with fail
            go_meet
            exact ⟨by rw [Hv.out]; congr 1, rfl⟩
          · have hv : wV (V k) nn = V k := by unfold wV; rw [if_neg h64]
            have Hv := Lib.hid hv
            clear hv
            go_wp2_with fail
            go_meet
            exact ⟨by rw [Hv.out], rfl⟩
        case rest =>
          obtain ⟨rfl, rfl⟩ := hcut
          have hvv := back_take N V HV.out k m (by omega)
          have hff := back_fits N V k m (by omega)
          rw [← HB.out, ← HN.out] at hvv
          rw [← HB.out, ← HN.out] at hff
          have hvl64 := wV_lt64 (V k) nn hVk
          obtain ⟨v, hve⟩ : ∃ v, v = wV (V k) nn := ⟨_, rfl⟩
          obtain ⟨p, hpe⟩ : ∃ p, p = (BB N V k).length := ⟨_, rfl⟩
          rw [← hve, ← hpe, ← HS.out.1] at hvv
          rw [← hpe] at hff
          rw [← hve] at hvl64 ⊢
          have hrow := ht.row
          rw [Hlm.out] at hrow
          obtain ⟨gr, rfl, hcr⟩ := back_row hrow (by omega : k < m)
          rw [← hpe] at hcr
          have hSB := HS.out.2
          have hp8 : p + nn ≤ 8 * S.size := by omega
          have s1 : seekCode S.size p = 0 := by unfold seekCode; rw [if_neg (by omega)]
          have s2 : seekAt S.size a p = p := by unfold seekAt; rw [s1, if_pos rfl]; rfl
          have t1 : takeCode (8 * S.size) p nn = 0 := by unfold takeCode; rw [if_neg (by omega), if_neg (by omega)]
          have t2 : takeVal (bitsS S) p nn = v := by unfold takeVal; rw [length_bitsS, t1, if_pos rfl]; exact hvv
          have t3 : takeAt (8 * S.size) p nn = p + nn := by unfold takeAt; rw [t1, if_pos rfl]; rfl
          have HQ := Lib.hid (And.intro s1 (And.intro s2 (And.intro t1 (And.intro t2 t3))))
          have HT := Lib.hid (And.intro hrd ht)
          have hpb : p ≤ 12800 := by have := BB_len N V k; omega
          have HP := Lib.hid (And.intro hve hpe)
          have hkm : (k : Int) < (m : Int) := by omega
          clear s1 s2 t1 t2 t3 hvv hSB hrow hve hpe hrd ht d1 d2
          go_wp2_with fail
          refine (seek_any h5 S a p _ HT.out.1 (by omega)).mono ?_
          rintro e w6 ⟨rfl, hr6⟩
          rw [HQ.out.1]
          rw [HQ.out.2.1] at hr6
          have ht6 := Back.reader HT.out.2 HT.out.1 g5 hr6.2
          have hrd6 := hr6.1
          clear hr6 hcr
          go_wp2_with fail
          refine (take_any h5 S p nn _ hrd6 (by omega)).mono ?_
          rintro e w7 ⟨rfl, hr7⟩
          rw [HQ.out.2.2.1, HQ.out.2.2.2.1]
          rw [HQ.out.2.2.2.2] at hr7
          have ht7 := Back.reader ht6 hrd6 g5 hr7.2
          have hrd7 := hr7.1
          have hrow := ht7.row
          rw [Hlm.out] at hrow
          obtain ⟨gr', hgr, hcr⟩ := back_row hrow (by omega : k < m)
          injection hgr with hgr
          injection hgr with hgr
          subst hgr
          rw [← HP.out.2] at hcr
          have HT7 := Lib.hid (And.intro hrd7 ht7)
          clear hr7 ht6 hrd6 ht7 hrow
          go_upto_region 30 with fail
          go_quiet ((go_at_call 21; exact quiet_left1 (at_any h5 S (p + nn) _ (rd_drewN hrd7 _))))
          have HT8 : Hid (RdAt (w7.drewN nq) h5 S (p + nn) ∧ Back w (w7.drewN nq) h1 h4 o1 o4 B B (.slice (some ⟨gr, 0, none⟩) m c5) (ats N V m)) :=
            ⟨HT7.out.1, HT7.out.2.same ((Only.refl _ _).drewN _)⟩
          clear hrd7 hcr
          go_wp2_with fail
          go_roundg k
          case measure => omega
          case rel => exact ⟨by go_num, by omega, p + nn, HT8.out⟩
end Go.Proofs.Ytmgngmnkmmhckaa
