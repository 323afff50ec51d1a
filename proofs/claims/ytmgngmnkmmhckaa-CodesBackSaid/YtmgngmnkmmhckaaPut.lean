import Derived.Test.YtmgngmnkmmhckaaWr
set_option linter.unusedVariables false
namespace Go.Proofs.Ytmgngmnkmmhckaa
open Go.RowKit Plain

theorem info5 : (Try.prog.info? 5).map (fun i => (i.zero, i.size, i.bytes)) = some (some (.int .u8 0), 1, 1) := by kernel_rfl

def PutRel (w : World) (h : Nat) (o : Option Nat) (l : List Bool) (v n0 k : Nat) (wr : World) : Prop := k ≤ n0 ∧ WrTo w h o (l ++ bitsOf (v / 2 ^ k) (n0 - k)) wr

set_option maxRecDepth 100000 in
set_option maxHeartbeats 1000000 in
theorem put_any (h : Nat) (o : Option Nat) (l : List Bool) (v n0 : Nat) (w : World) (hv : v < 18446744073709551616) (hn : n0 ≤ 64) (hw : WrAt w h o l) (hL : l.length + n0 ≤ 134217728) :
    Calls Try.prog 51 #[.pointer (some ⟨h, 0, none⟩), .int .u64 v, .int .i64 n0] w fun e w' => e = .returned (.tuple #[]) ∧ WrTo w h o (l ++ bitsOf v n0) w' := by
  go_enter Try.func51, Try.ntmps51
  go_wp2
  go_loopg [2] n0 (fun k n wr => n = .int .i64 k ∧ PutRel w h o l v n0 k wr)
  case atStart => exact ⟨rfl, Nat.le_refl _, by rw [Nat.sub_self, bitsOf_zero, List.append_nil]; exact WrTo.refl hw⟩
  case round =>
    obtain ⟨rfl, hk, o1, hw1, ho1, hf1⟩ := hrel
    obtain ⟨l1, hl1⟩ : ∃ l1, l1 = l ++ bitsOf (v / 2 ^ gk) (n0 - gk) := ⟨_, rfl⟩
    have HL1 := Lib.hid hl1
    rw [← hl1] at hw1
    have hlen : l1.length = l.length + (n0 - gk) := by rw [hl1, List.length_append, length_bitsOf]
    clear hl1
    by_cases h0 : 0 < gk
    · obtain ⟨sv, hb, hown, hsv⟩ := hw1
      obtain ⟨r, hr8, hr, hrm⟩ : ∃ r : Nat, r < 8 ∧ bits BinOp.and IntKind.i64 (l1.length : Nat) 7 = (r : Int) ∧ r = l1.length % 8 := ⟨l1.length % 8, by omega, and7 _ (by omega), rfl⟩
      have Hrm := Lib.hid hrm
      have Hlen := Lib.hid hlen
      have hlen2 : l1.length + gk ≤ 134217728 := by omega
      clear hrm hlen
      have hc0 := hb.cell 0
      have hc1 := hb.cell 1
      have hff := hb.frozen 0
      simp at hc0 hc1
      have Hsv := Lib.hid hsv
      clear hsv
      go_upto_if 16 with fail
      go_cut [] (fun wx => Mid wr h o1 l1 wx)
      case first =>
        by_cases hr0 : r = 0
        · have hr00 : ((r : Int) == 0) = true := by subst hr0; rfl
          obtain ⟨i0, hi, hz0, hz1, hz2⟩ := info_parts info5
          have hpl := length_pk l1
          have Hpl := Lib.hid hpl
          have hpl2 : (pk l1).length ≤ 20000000 := by omega
          clear hpl
          go_wp2_with (first | (at_builtin; refine wpList_append_own_at _ rfl (.tmp 21) (.tmp 22) _ rfl 0 5 i0 (.int .u8 0) 1 1 Try.underlying91 hi hz0 hz1 hz2 rfl (by decide) sv (pk l1).length (u8s (pk l1)) rfl (hown.alloc _) ⟨wr.heap.size, 0, none⟩ 1 1 [.int .u8 0] rfl rfl ?c1 ?c2 ?c3 ?c4 ?c5 ?_))
          case c1 => exact cell_one_new _ _ _
          case c2 => simp [Value.oneCell']
          case c3 => unfold maxLen; omega
          case c4 => omega
          case c5 => exact Nat.zero_le _
          intro v' w1 hown1 hgrow _ hat
          have hne := own_blk_ne hown hb (by decide)
          have hb1 : Blk w1 h 93 _ := (hb.alloc _).grown hgrow (fun e => hne h e.symm rfl)
          have ho2 : Only (WrFoot h o1) wr w1 := ((Only.refl _ _).alloc _).grown hgrow (fun g hg => .inl (.inr (Hsv.out ▸ hg)))
          obtain ⟨g, cap, rfl, _, _⟩ := hown1.form (Nat.succ_pos _)
          have d0 := hb1.cell 0
          have d1 := hb1.frozen 0
          simp at d0
          have HC := Lib.hid (And.intro hown1 (And.intro hb1 (And.intro ho2 hat)))
          clear hown1 hb1 ho2 hat hgrow hb hown hc0 hc1 hff hne
          go_wp2_with fail
          go_meet
          obtain ⟨hown1, hb1, ho2, hat⟩ := HC.out
          have hm0 : l1.length % 8 = 0 := by have := Hrm.out; omega
          have hpm : (pk l1).length = l1.length / 8 := by have := Hpl.out; omega
          refine ⟨g, l1.length / 8, cap, ?_, ?_, rfl, ?_, ?_⟩
          · rw [← hpm]
            have hh := hb1.set_ 0 (.slice (some ⟨g, 0, none⟩) ((pk l1).length + 1) cap)
            simpa using hh
          · rw [pk_false, if_pos hm0, u8s_append, ← hpm]
            exact own_only hown1 ((Only.refl (fun k => k = h) _).setCell (p := ⟨h, 0, none⟩) (.inl rfl) _) (fun k hk => own_blk_ne hown1 hb1 (by decide) k hk)
          · exact ho2.setCell (.inl (.inl rfl)) _
          · rcases hat with hat | hat
            · exact .inl ((hat.trans Hsv.out))
            · injection hat with hat
              exact .inr ⟨g, rfl, by simp at hat; omega⟩
        · have hr00 : ((r : Int) == 0) = false := by rw [beq_eq_false_iff_ne]; omega
          go_wp2_with fail
          go_meet
          have hm0 : ¬ l1.length % 8 = 0 := by have := Hrm.out; omega
          have hpm : (pk l1).length = l1.length / 8 + 1 := by have := length_pk l1; omega
          rw [hpm] at hown
          obtain ⟨g, cap, rfl, _, _⟩ := World.ownsRow.form hown (Nat.succ_pos _)
          exact ⟨g, l1.length / 8, cap, hb, by rw [pk_false, if_neg hm0]; exact hown, rfl, Only.refl _ _, .inl Hsv.out⟩
      case rest =>
        obtain ⟨g, m, cap, hb', hown', hm, ho', hf'⟩ := hcut
        clear hc0 hc1 hff hb hown Hsv
        have hml : m < (pk (l1 ++ [false])).length := by rw [length_pk, List.length_append]; simp; omega
        have hne := own_blk_ne hown' hb' (by decide)
        have hgh : g ≠ h := hne g rfl
        have hhg : h ≠ g := hgh.symm
        have hc0 := hb'.cell 0
        have hc1 := hb'.cell 1
        have hff := hb'.frozen 1
        simp at hc0 hc1
        have hx := hown'.cellAt m (by omega)
        rw [u8s_get hml] at hx
        have hfx := hown'.frozenAt m
        have Hm := Lib.hid hm
        have hm2 : m ≤ 20000000 := by omega
        have hrl := Hrm.out
        clear hm hml hne
        obtain ⟨T, hT0, hTk, hTr, hTm⟩ : ∃ T, 0 < T ∧ T ≤ gk ∧ T ≤ 8 - r ∧ T = min gk (8 - r) := ⟨min gk (8 - r), by omega, by omega, by omega, rfl⟩
        have HTm := Lib.hid hTm
        have Hrl := Lib.hid hrl
        clear hTm hrl
        go_upto_region 4 with fail
        go_cut [7] (fun s wx => s = .int .i64 (T : Nat) ∧ wx = wc)
        case first =>
          by_cases hkr : gk ≤ 8 - r
          · go_wp2_with fail
            go_meet
            have : T = gk := by have := HTm.out; omega
            exact ⟨by rw [this], rfl⟩
          · go_wp2_with fail
            go_meet
            have : T = 8 - r := by have := HTm.out; omega
            exact ⟨by rw [this]; congr 1; omega, rfl⟩
        case rest =>
          obtain ⟨rfl, rfl⟩ := hcut
          go_wp2_with fail
          go_quiet (fail)
          go_wp2_with fail
          go_region
          go_wp2_with fail
          go_roundg (gk - T)
          case measure => omega
          case rel =>
            refine ⟨by go_num, by omega, ?_⟩
            have hq : v / 2 ^ (gk - T) % 2 ^ T < 2 ^ T := Nat.mod_lt _ (Nat.pow_pos (by decide))
            have hfin := put_close (n := nq + 1) Hrl.out hT0 hTr hq Hm.out hb' hown' ho' hf'
            have hbyte := put_byte ((pk (l1 ++ [false])).getD m 0) v (gk - T) T r (pk_lt _ _) hv hTr
            rw [← hbyte] at hfin
            have hl2 : l ++ bitsOf (v / 2 ^ (gk - T)) (n0 - (gk - T)) = l1 ++ bitsOf (v / 2 ^ (gk - T) % 2 ^ T) T := by
              rw [HL1.out, List.append_assoc, bitsOf_mod _ _ _ (Nat.le_refl _)]
              have e : n0 - (gk - T) = (n0 - gk) + T := by omega
              rw [e, bitsOf_add, Nat.div_div_eq_div_mul, ← Nat.pow_add]
              have e2 : gk - T + T = gk := by omega
              rw [e2]
            rw [hl2]
            refine WrTo.trans hw.lto ho1 hf1 ?_
            have e3 : ((l1.length + T : Nat) : Int) = (l1.length : Int) + (T : Int) := by omega
            rw [e3] at hfin
            exact hfin
    · have hg0 : gk = 0 := by omega
      subst hg0
      go_wp2_with fail
      go_end0
      refine ⟨rfl, ?_⟩
      have e : l1 = l ++ bitsOf v n0 := by rw [HL1.out]; simp
      rw [← e]
      exact ⟨o1, hw1, ho1, hf1⟩
end Go.Proofs.Ytmgngmnkmmhckaa
