/-
  The reference's writer: its calls.
-/
import Derived.Test.YtmgngmnkmmhckaaWAdd
import Derived.Deep.RegionLaw
set_option linter.unusedVariables false
namespace Go.Proofs.Ytmgngmnkmmhckaa
open Go.RowKit Plain

def RwAt (w : World) (h : Nat) (o : Option Nat) (l : List Bool) : Prop :=
  ∃ v, Blk w h 55 #[v] ∧ w.ownsRow 0 4 1 v l.length (bs l) ∧ v.ownBlock = o
def RwTo (w : World) (h : Nat) (o : Option Nat) (l' : List Bool) (w' : World) : Prop :=
  ∃ o', RwAt w' h o' l' ∧ Only (WrFoot h o) w w' ∧ Fresh w o o'
section
variable {F : Nat → Prop} {w w' w1 w2 : World} {h : Nat} {o o1 : Option Nat} {l l' : List Bool}
theorem RwAt.lt (hw : RwAt w h o l) : h < w.heap.size := by obtain ⟨v, hb, _⟩ := hw; exact hb.lt
theorem RwAt.lto (hw : RwAt w h o l) : ∀ k, o = some k → k < w.heap.size := by
  obtain ⟨v, hb, ho, rfl⟩ := hw; exact own_lt ho
theorem RwAt.only (hw : RwAt w h o l) (ho : Only F w w') (hn : ∀ k, WrFoot h o k → ¬ F k) : RwAt w' h o l := by
  obtain ⟨v, hb, hr, rfl⟩ := hw
  exact ⟨v, hb.only ho (hn h (.inl rfl)), own_only hr ho (fun g hg => hn g (.inr hg)), rfl⟩
theorem RwTo.refl (hw : RwAt w h o l) : RwTo w h o l w := ⟨o, hw, Only.refl _ _, .inl rfl⟩
end

theorem bs_one (l : List Bool) : ∀ u ∈ bs l, u.oneCell' = true := by
  intro u hu
  simp only [bs, List.mem_map] at hu
  obtain ⟨b, _, rfl⟩ := hu
  rfl

set_option maxHeartbeats 400000 in
theorem rfits_yes (v n : Nat) (w : World) (hv : v < 18446744073709551616) (hn : n ≤ 64) (h : v < 2 ^ n) :
    Calls Try.prog 63 #[.int .u64 v, .int .i64 n] w fun e w' => e = .returned (.bool true) ∧ w = w' := by
  by_cases h64 : 64 ≤ n
  · obtain rfl : n = 64 := by omega
    go_enter Try.func63, Try.ntmps63
    go_wp2
    go_ret
    exact ⟨rfl, rfl⟩
  · have hd : ((v : Int) / 2 ^ n == 0) = true := by rw [cast_div_pow, div_eq_zero_of v n h]; rfl
    have hd2 : ((n : Int) == 64) = false := by rw [beq_eq_false_iff_ne]; omega
    clear h
    go_enter Try.func63, Try.ntmps63
    go_wp2
    go_ret
    exact ⟨rfl, rfl⟩
set_option maxHeartbeats 400000 in
theorem rfits_no (v n : Nat) (w : World) (hv : v < 18446744073709551616) (hn : n ≤ 64) (h : ¬ v < 2 ^ n) :
    Calls Try.prog 63 #[.int .u64 v, .int .i64 n] w fun e w' => e = .returned (.bool false) ∧ w = w' := by
  have h64 : ¬ 64 ≤ n := by
    intro h64
    have : n = 64 := by omega
    subst this
    exact h (by simpa using hv)
  have hd : ((v : Int) / 2 ^ n == 0) = false := by
    rw [cast_div_pow, beq_eq_false_iff_ne]
    intro e
    have e2 : v / 2 ^ n = 0 := by omega
    rw [Nat.div_eq_zero_iff] at e2
    rcases e2 with e2 | e2
    · have : 0 < 2 ^ n := Nat.pow_pos (by decide)
      omega
    · exact h e2
  have hd2 : ((n : Int) == 64) = false := by rw [beq_eq_false_iff_ne]; omega
  clear h
  go_enter Try.func63, Try.ntmps63
  go_wp2
  go_ret
  exact ⟨rfl, rfl⟩

/-- behind an append onto the writer's row and the store of it -/
theorem rw_close {w0 w w1 w2 : World} {h : Nat} {sv : Value} {l m : List Bool} {A : Option Addr} {c n : Nat} (hb : Blk w h 55 #[sv]) (ho : Only (WrFoot h sv.ownBlock) w0 w)
    (hs : w0.heap.size ≤ w.heap.size) (hg : w.grownBy w1 sv.ownBlock) (hne : sv.ownBlock ≠ some h)
    (hown : w1.ownsRow 0 4 1 (.slice A n c) n (bs l ++ bs m)) (hn : n = (l ++ m).length)
    (hat : Value.ownBlock (.slice A n c) = sv.ownBlock ∨ Value.ownBlock (.slice A n c) = some w.heap.size)
    (hw2 : w2 = w1.setCell ⟨h, 0, none⟩ (.slice A n c)) : RwTo w0 h sv.ownBlock (l ++ m) w2 := by
  have hb1 : Blk w1 h 55 #[sv] := hb.grown hg (fun e => hne e.symm)
  have hkn := own_blk_ne hown hb1 (by decide)
  refine ⟨Value.ownBlock (.slice A n c), ⟨.slice A n c, ?_, ?_, rfl⟩, ?_, ?_⟩
  · have hh := hb1.set_ 0 (.slice A n c)
    rw [hw2]
    simpa using hh
  · rw [← bs_append] at hown
    subst hn
    rw [hw2]
    exact own_only hown ((Only.refl (fun k => k = h) _).setCell (p := ⟨h, 0, none⟩) (.inl rfl) _) (fun k hk => hkn k hk)
  · rw [hw2]
    exact (ho.grown hg (fun g hg => .inl (.inr hg))).setCell (.inl (.inl rfl)) _
  · rcases hat with hat | hat
    · exact .inl hat
    · exact .inr ⟨_, hat, hs⟩

set_option maxRecDepth 100000 in
set_option maxHeartbeats 1000000 in
theorem rbit_any (h : Nat) (o : Option Nat) (l : List Bool) (b : Bool) (w : World) (hw : RwAt w h o l) (hL : l.length ≤ 134217728) :
    Calls Try.prog 52 #[.pointer (some ⟨h, 0, none⟩), .bool b] w fun e w' => e = .returned (.int .i64 (putCode l.length b.toNat 1)) ∧ RwTo w h o (putBits l b.toNat 1) w' := by
  obtain ⟨i0, hi, hz0, hz1, hz2⟩ := info_parts info4
  obtain ⟨sv, hb, hown, rfl⟩ := hw
  have hw : RwAt w h sv.ownBlock l := ⟨sv, hb, hown, rfl⟩
  obtain ⟨A, c, rfl⟩ := own_shape hown
  have hc0 := hb.cell 0
  have hf0 := hb.frozen 0
  simp at hc0
  have hfb : ¬ ((1 : Int) < 0 ∨ 64 < (1 : Int) ∨ ¬ b.toNat < 2 ^ (1 : Int).toNat) := by cases b <;> decide
  by_cases hful : 134217728 ≤ l.length
  · have hfin : putCode l.length b.toNat 1 = 3 ∧ putBits l b.toNat 1 = l := by
      have e := putCode_full (len := l.length) (v := b.toNat) (n := 1) hfb (by omega)
      exact ⟨e, by unfold putBits; rw [e, if_neg (by decide)]⟩
    have Hf := Lib.hid hfin
    have hfi : (134217728 : Int) ≤ (l.length : Int) := by omega
    clear hfin hfb hful
    go_enter Try.func52, Try.ntmps52
    go_wp2_with fail
    go_ret
    exact ⟨by rw [Hf.out.1]; rfl, by rw [Hf.out.2]; exact RwTo.refl hw⟩
  · have hfin : putCode l.length b.toNat 1 = 0 ∧ putBits l b.toNat 1 = l ++ [b] := by
      have e := putCode_ok (len := l.length) (v := b.toNat) (n := 1) hfb (by omega)
      refine ⟨e, ?_⟩
      unfold putBits; rw [e, if_pos rfl]
      cases b <;> rfl
    have Hf := Lib.hid hfin
    have hfi : decide ((134217728 : Int) ≤ (l.length : Int)) = false := decide_eq_false (by omega)
    clear hfin hfb hful
    have hne : Value.ownBlock (.slice A l.length c) ≠ some h := fun e => own_blk_ne hown hb (by decide) h e rfl
    go_enter Try.func52, Try.ntmps52
    go_wp2_with (at_builtin; refine wpList_append_src _ rfl (.tmp 15) (.tmp 17) _ rfl 0 4 i0 (.bool false) 1 Try.underlying26 hi hz0 hz1 hz2 rfl (.slice A l.length c) l.length (bs l) rfl (hown.alloc _) (some ⟨w.heap.size, 0, none⟩) 1 1 [.bool b] rfl rfl ?c0 ?c2 ?c3 ?c4 ?c5 ?_)
    case c0 => exact fun j u hu => ⟨_, rfl, cell_one_new _ _ _ j u hu⟩
    case c2 => simp [Value.oneCell']
    case c3 => unfold maxLen; omega
    case c4 => omega
    case c5 => exact Nat.zero_le _
    intro A' c' w1 hown1 hgrow hat
    have hb1 : Blk w1 h 55 _ := (hb.alloc _).grown hgrow (fun e => hne e.symm)
    have d0 := hb1.cell 0
    have d1 := hb1.frozen 0
    simp at d0
    have HC := Lib.hid (And.intro hown1 (And.intro hgrow hat))
    clear hown1 hgrow hat hc0 hf0
    go_wp2_with fail
    go_ret
    obtain ⟨hown1, hgrow, hat⟩ := HC.out
    refine ⟨by rw [Hf.out.1]; rfl, ?_⟩
    rw [Hf.out.2]
    exact rw_close (m := [b]) (hb.alloc _) ((Only.refl _ _).alloc _) (by simp) hgrow hne hown1 (by simp) (by rw [World.size_alloc]; exact hat) rfl

theorem call_after {w w1 : World} {h c n : Nat} {A A1 : Option Addr} {c1 : Nat} {l L : List Bool} (hb : Blk w h 55 #[.slice A l.length c]) (hown : w.ownsRow 0 4 1 (.slice A l.length c) l.length (bs l))
    (hbr : BRow w.drew w1 (.slice A1 n c1) L) : w1.cell? ⟨h, 0, none⟩ = some (.slice A l.length c) ∧ w1.frozen? ⟨h, 0, none⟩ = false ∧ Hid (w1.ownsRow 0 4 1 (.slice A l.length c) l.length (bs l)) ∧ Hid (Blk w1 h 55 #[.slice A l.length c]) ∧ Hid (Src w1 A1 (bs L)) ∧ Hid (Below w.heap.size w w1) := by
  have hbl : Below w.heap.size w w1 := ((Below.refl _ w).drew).trans hbr.2
  have hb1 := hb.below hbl hb.lt
  have h0 := hb1.cell 0
  simp at h0
  obtain ⟨h1, h2⟩ := hbr
  have hn : n = L.length := by
    rcases h1.2 with ⟨e, h⟩ | ⟨g, cap, cur, e, _⟩
    · injection e with _ e _; omega
    · injection e with _ e _
  subst hn
  exact ⟨h0, hb1.frozen 0, own_only hown (Only.of_below (F := fun _ => False) hbl) (fun _ _ hf => hf), hb1, Src.own h1, hbl⟩
theorem rw_step {w1 w2 : World} {h : Nat} {sv : Value} (hg : w1.grownBy w2 sv.ownBlock) (hb : Blk w1 h 55 #[sv]) (hne : sv.ownBlock ≠ some h) : w2.cell? ⟨h, 0, none⟩ = some sv ∧ w2.frozen? ⟨h, 0, none⟩ = false := by
  have hb2 := hb.grown hg (fun e => hne e.symm)
  have h0 := hb2.cell 0
  simp at h0
  exact ⟨h0, hb2.frozen 0⟩

theorem src_take {w : World} {A : Option Addr} {L : List Bool} (h : Src w A (bs L)) (m : Nat) : Src w A (bs (L.take m)) := by
  have : bs (L.take m) = (bs L).take m := by simp [bs, List.map_take]
  rw [this]
  exact h.take m
theorem brow_cap {w0 w : World} {A : Option Addr} {n c : Nat} {L : List Bool} (h : BRow w0 w (.slice A n c) L) : n ≤ c := by
  rcases h.1.2 with ⟨e, h⟩ | ⟨g, cap, cur, e, _, _, hc, _⟩
  · injection e with _ e1 e2; omega
  · injection e with _ e1 e2; omega

theorem BRow.shape {w0 w : World} {r : Value} {l : List Bool} (h : BRow w0 w r l) : ∃ A c, r = .slice A l.length c := own_shape h.1

set_option maxRecDepth 100000 in
set_option maxHeartbeats 2000000 in
theorem rput_any (h : Nat) (o : Option Nat) (l : List Bool) (v : Nat) (n : Int) (w : World) (hv : v < 18446744073709551616) (hw : RwAt w h o l) (hL : l.length ≤ 134217728) :
    Calls Try.prog 53 #[.pointer (some ⟨h, 0, none⟩), .int .u64 v, .int .i64 n] w fun e w' => e = .returned (.int .i64 (putCode l.length v n)) ∧ RwTo w h o (putBits l v n) w' := by
  obtain ⟨i0, hi, hz0, hz1, hz2⟩ := info_parts info4
  obtain ⟨sv, hb, hown, rfl⟩ := hw
  have hw : RwAt w h sv.ownBlock l := ⟨sv, hb, hown, rfl⟩
  obtain ⟨A, c, rfl⟩ := own_shape hown
  have hne : Value.ownBlock (.slice A l.length c) ≠ some h := fun e => own_blk_ne hown hb (by decide) h e rfl
  have Hne := Lib.hid hne
  have hc0 := hb.cell 0
  have hf0 := hb.frozen 0
  simp at hc0
  clear hne
  by_cases h1 : n < 0 ∨ 64 < n
  · have hfin : putCode l.length v n = 1 ∧ putBits l v n = l := by
      have e := putCode_arg (len := l.length) (v := v) (n := n) (by omega)
      exact ⟨e, by unfold putBits; rw [e, if_neg (by decide)]⟩
    have Hf := Lib.hid hfin
    clear hfin
    rcases h1 with h1 | h1
    · go_enter Try.func53, Try.ntmps53
      go_wp2_with fail
      go_ret
      exact ⟨by rw [Hf.out.1]; rfl, by rw [Hf.out.2]; exact RwTo.refl hw⟩
    · have h2 : ¬ n < 0 := by omega
      go_enter Try.func53, Try.ntmps53
      go_wp2_with fail
      go_ret
      exact ⟨by rw [Hf.out.1]; rfl, by rw [Hf.out.2]; exact RwTo.refl hw⟩
  · obtain ⟨m, rfl⟩ := Int.eq_ofNat_of_zero_le (show 0 ≤ n by omega)
    have hm : m ≤ 64 := by omega
    have hm2 : ¬ ((m : Int) < 0) := by omega
    have hm3 : ¬ ((64 : Int) < m) := by omega
    by_cases hf : v < 2 ^ m
    · by_cases hful : 134217728 < l.length + m
      · have hfin : putCode l.length v m = 3 ∧ putBits l v m = l := by
          have e := putCode_full (len := l.length) (v := v) (n := m) (by simp [hf]; omega) (by omega)
          exact ⟨e, by unfold putBits; rw [e, if_neg (by decide)]⟩
        have Hf := Lib.hid hfin
        have Hfit := Lib.hid hf
        have hd : decide (134217728 - (l.length : Int) < (m : Int)) = true := decide_eq_true (by omega)
        clear hfin h1 hf hful
        go_enter Try.func53, Try.ntmps53
        go_wp2_with (go_at_call 63; refine (rfits_yes v m _ hv hm Hfit.out).mono ?_; rintro e w' ⟨rfl, rfl⟩)
        go_ret
        exact ⟨by rw [Hf.out.1]; rfl, by rw [Hf.out.2]; exact RwTo.refl hw⟩
      · have hfin : putCode l.length v m = 0 ∧ putBits l v m = l ++ bitsOf v m := by
          have e := putCode_ok (len := l.length) (v := v) (n := m) (by simp [hf]; omega) (by omega)
          refine ⟨e, ?_⟩
          unfold putBits
          rw [e, if_pos rfl]
          rfl
        have Hf := Lib.hid hfin
        have Hfit := Lib.hid hf
        have hd : decide (134217728 - (l.length : Int) < (m : Int)) = false := decide_eq_false (by omega)
        clear hfin h1 hf hful
        go_enter Try.func53, Try.ntmps53
        go_wp2_with (go_at_call 63; refine (rfits_yes v m _ hv hm Hfit.out).mono ?_; rintro e w' ⟨rfl, rfl⟩)
        go_upto_region 5 with fail
        go_cut [] (fun wx => RwTo w h (Value.ownBlock (.slice A l.length c)) (l ++ bitsOf v m) wx)
        case first =>
          have HB := Lib.hid (And.intro hb (And.intro hown hw))
          clear hb hown hw
          have hlm : (bitsOf v m).length ≤ 64 := by rw [length_bitsOf]; exact hm
          go_region_law (first
            | (refine step_append_src _ rfl (.tmp 31) (.tmp 34) 26 rfl 0 4 i0 (.bool false) 1 Try.underlying26 hi hz0 hz1 hz2 rfl (.slice A l.length c) l.length (bs l) (by simp [Act.eval]) hown1.out A1 (bitsOf v m).length c1 (bs (bitsOf v m)) (by simp [Act.eval]) (length_bs _) hsrc.out (bs_one _) (by unfold maxLen; omega) (by omega) (Nat.zero_le _) ?_
               intro A' c' w2 hown2 hgrow hat
               obtain ⟨d0, d1⟩ := rw_step hgrow hbb.out (Hne.out)
               have HC := Lib.hid (And.intro hown2 (And.intro hgrow hat))
               clear hown2 hgrow hat)
            | (go_simp; go_at_call 64; refine (of_any v m _ hv hm).mono ?_; rintro e w1 ⟨r, rfl, hbr⟩; obtain ⟨A1, c1, rfl⟩ := hbr.shape; obtain ⟨e0, e1, hown1, hbb, hsrc, hobr⟩ := call_after HB.out.1 HB.out.2.1 hbr; clear hbr))
          all_goals
            go_wp2_with fail
            go_meet
            obtain ⟨hown2, hgrow, hat⟩ := HC.out
            exact rw_close hbb.out (Only.of_below hobr.out) hobr.out.size hgrow Hne.out hown2 (by rw [List.length_append]) hat rfl
        case rest =>
          have HC := Lib.hid hcut
          clear hcut
          go_wp2_with fail
          go_ret
          exact ⟨by rw [Hf.out.1]; rfl, by rw [Hf.out.2]; exact HC.out⟩
    · have hfin : putCode l.length v m = 1 ∧ putBits l v m = l := by
        have e := putCode_arg (len := l.length) (v := v) (n := m) (by right; right; simpa using hf)
        exact ⟨e, by unfold putBits; rw [e, if_neg (by decide)]⟩
      have Hf := Lib.hid hfin
      have Hfit := Lib.hid hf
      clear hfin h1 hf
      go_enter Try.func53, Try.ntmps53
      go_wp2_with (go_at_call 63; refine (rfits_no v m _ hv hm Hfit.out).mono ?_; rintro e w' ⟨rfl, rfl⟩)
      go_ret
      exact ⟨by rw [Hf.out.1]; rfl, by rw [Hf.out.2]; exact RwTo.refl hw⟩

set_option maxRecDepth 100000 in
set_option maxHeartbeats 2000000 in
theorem radd_any (h : Nat) (o : Option Nat) (l : List Bool) (s : ByteArray) (n : Int) (w : World) (hs : s.size ≤ 16777216) (hw : RwAt w h o l) (hL : l.length ≤ 134217728) :
    Calls Try.prog 54 #[.pointer (some ⟨h, 0, none⟩), .string s, .int .i64 n] w fun e w' => e = .returned (.int .i64 (addCode l.length s.size n)) ∧ RwTo w h o (addBits l s n) w' := by
  obtain ⟨i0, hi, hz0, hz1, hz2⟩ := info_parts info4
  obtain ⟨sv, hb, hown, rfl⟩ := hw
  have hw : RwAt w h sv.ownBlock l := ⟨sv, hb, hown, rfl⟩
  obtain ⟨A, c, rfl⟩ := own_shape hown
  have hne : Value.ownBlock (.slice A l.length c) ≠ some h := fun e => own_blk_ne hown hb (by decide) h e rfl
  have Hne := Lib.hid hne
  have hc0 := hb.cell 0
  have hf0 := hb.frozen 0
  simp at hc0
  clear hne
  by_cases h1 : n < 0 ∨ 8 * (s.size : Int) < n
  · have hfin : addCode l.length s.size n = 1 ∧ addBits l s n = l := by
      have e : addCode l.length s.size n = 1 := by unfold addCode; rw [if_pos h1]
      exact ⟨e, by unfold addBits; rw [e, if_neg (by decide)]⟩
    have Hf := Lib.hid hfin
    clear hfin
    rcases h1 with h1 | h1
    · go_enter Try.func54, Try.ntmps54
      go_wp2_with fail
      go_ret
      exact ⟨by rw [Hf.out.1]; rfl, by rw [Hf.out.2]; exact RwTo.refl hw⟩
    · have h2 : ¬ n < 0 := by omega
      go_enter Try.func54, Try.ntmps54
      go_wp2_with fail
      go_ret
      exact ⟨by rw [Hf.out.1]; rfl, by rw [Hf.out.2]; exact RwTo.refl hw⟩
  · obtain ⟨m, rfl⟩ := Int.eq_ofNat_of_zero_le (show 0 ≤ n by omega)
    have hm : m ≤ 8 * s.size := by omega
    have hm2 : ¬ ((m : Int) < 0) := by omega
    have hm3 : ¬ (8 * (s.size : Int) < m) := by omega
    by_cases hful : 134217728 < l.length + m
    · have hfin : addCode l.length s.size m = 3 ∧ addBits l s m = l := by
        have e : addCode l.length s.size m = 3 := by unfold addCode; rw [if_neg h1, if_pos (by omega)]
        exact ⟨e, by unfold addBits; rw [e, if_neg (by decide)]⟩
      have Hf := Lib.hid hfin
      have hd : decide (134217728 - (l.length : Int) < (m : Int)) = true := decide_eq_true (by omega)
      clear hfin h1 hful
      go_enter Try.func54, Try.ntmps54
      go_wp2_with fail
      go_ret
      exact ⟨by rw [Hf.out.1]; rfl, by rw [Hf.out.2]; exact RwTo.refl hw⟩
    · have hfin : addCode l.length s.size m = 0 ∧ addBits l s m = l ++ (bitsS s).take m := by
        have e : addCode l.length s.size m = 0 := by unfold addCode; rw [if_neg h1, if_neg (by omega)]
        refine ⟨e, ?_⟩
        unfold addBits
        rw [e, if_pos rfl]
        rfl
      have Hf := Lib.hid hfin
      have hd : decide (134217728 - (l.length : Int) < (m : Int)) = false := decide_eq_false (by omega)
      have hlen : ((bitsS s).take m).length = m := by rw [List.length_take, length_bitsS]; omega
      have Hlen := Lib.hid hlen
      have hlb := length_bitsS s
      have Hlb := Lib.hid hlb
      clear hfin h1 hful hlen hlb
      go_enter Try.func54, Try.ntmps54
      go_upto_region 5 with fail
      go_cut [] (fun wx => RwTo w h (Value.ownBlock (.slice A l.length c)) (l ++ (bitsS s).take m) wx)
      case first =>
        have HB := Lib.hid (And.intro hb (And.intro hown hw))
        clear hb hown hw
        go_region_law (first
          | (refine step_append_src _ rfl (.tmp 28) (.tmp 32) 26 rfl 0 4 i0 (.bool false) 1 Try.underlying26 hi hz0 hz1 hz2 rfl (.slice A l.length c) l.length (bs l) (by simp [Act.eval, Act.put]) hown1.out A1 m c1 (bs ((bitsS s).take m)) (by simp [Act.eval, Act.put]) (by rw [length_bs]; exact Hlen.out) (src_take hsrc.out m) (bs_one _) (by unfold maxLen; omega) (by omega) (Nat.zero_le _) ?_
             intro A' c' w2 hown2 hgrow hat
             obtain ⟨d0, d1⟩ := rw_step hgrow hbb.out (Hne.out)
             have HC := Lib.hid (And.intro hown2 (And.intro hgrow hat))
             clear hown2 hgrow hat)
          | (go_simp; go_at_call 14; refine (bits_any s _ hs).mono ?_; rintro e w1 ⟨r, rfl, hbr⟩; obtain ⟨A1, c1, rfl⟩ := hbr.shape; rw [Hlb.out] at hbr ⊢; obtain ⟨e0, e1, hown1, hbb, hsrc, hobr⟩ := call_after HB.out.1 HB.out.2.1 hbr; have hcap := Nat.le_trans hm (brow_cap hbr); clear hbr))
        all_goals
          go_wp2_with fail
          go_meet
          obtain ⟨hown2, hgrow, hat⟩ := HC.out
          exact rw_close hbb.out (Only.of_below hobr.out) hobr.out.size hgrow Hne.out hown2 (by rw [List.length_append, Hlen.out]) hat rfl
      case rest =>
        have HC := Lib.hid hcut
        clear hcut
        go_wp2_with fail
        go_ret
        exact ⟨by rw [Hf.out.1]; rfl, by rw [Hf.out.2]; exact HC.out⟩
end Go.Proofs.Ytmgngmnkmmhckaa
