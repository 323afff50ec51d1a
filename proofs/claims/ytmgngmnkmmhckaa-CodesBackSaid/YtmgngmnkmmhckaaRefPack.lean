/-
  The reference's Pack.
-/
import Derived.Test.YtmgngmnkmmhckaaPack
set_option linter.unusedVariables false
namespace Go.Proofs.Ytmgngmnkmmhckaa
open Go.RowKit Plain

theorem rpput {h : Nat} {o : Option Nat} {l : List Bool} {w : World} {v n : Nat} (hw : RwAt w h o l) (hv : v < 2 ^ n) (hv64 : v < 18446744073709551616) (hn : n ≤ 64) (hl : l.length + n ≤ 134217728) :
    Calls Try.prog 53 #[.pointer (some ⟨h, 0, none⟩), .int .u64 v, .int .i64 n] w fun e w' => e = .returned (.int .i64 0) ∧ RwTo w h o (l ++ bitsOf v n) w' := by
  have hc : putCode l.length v n = 0 := putCode_ok (by simp [hv]; omega) (by omega)
  have hb : putBits l v n = l ++ bitsOf v n := by unfold putBits; rw [hc, if_pos rfl]; rfl
  have := rput_any h o l v n w hv64 hw (by omega)
  rw [hb, hc] at this
  exact this
/-- refused, for whichever reason -/
theorem rpput_no {h : Nat} {o : Option Nat} {l : List Bool} {w : World} {v n : Nat} (hw : RwAt w h o l) (hv : ¬ (v < 2 ^ n ∧ l.length + n ≤ 134217728)) (hv64 : v < 18446744073709551616) (hl : l.length ≤ 134217728) :
    Calls Try.prog 53 #[.pointer (some ⟨h, 0, none⟩), .int .u64 v, .int .i64 n] w fun e w' => (∃ c : Int, e = .returned (.int .i64 c) ∧ (c == 0) = false) ∧ RwTo w h o l w' := by
  have hc : putCode l.length v n ≠ 0 := by
    unfold putCode
    split
    · decide
    · rename_i h
      split
      · decide
      · rename_i h2
        exfalso; apply hv
        simp at h
        exact ⟨h.2, by omega⟩
  have hb : putBits l v n = l := by unfold putBits; rw [if_neg hc]
  have := rput_any h o l v n w hv64 hw hl
  rw [hb] at this
  exact this.mono fun e w' ⟨he, hr⟩ => ⟨⟨_, he, beq_eq_false_iff_ne.2 hc⟩, hr⟩

set_option maxRecDepth 100000 in
set_option maxHeartbeats 4000000 in
theorem rpack_any (A : Option Addr) (c : Nat) (l : List Nat) (n : Int) (w : World) (hlen : l.length ≤ 9223372036854775807) (hA : SlU w A l) (h64 : ∀ i, l.getD i 0 < 18446744073709551616) :
    Calls Try.prog 32 #[.slice A l.length c, .int .i64 n] w fun e w' => e = .returned (.tuple #[.string (packS l n), .int .i64 (packC l n)]) ∧ Below w.heap.size w w' := by
  by_cases h1 : n < 1
  · have hno : packOk l n = false := by unfold packOk; simp; omega
    have HN := Lib.hid (pack_no hno)
    clear hno
    go_enter Try.func32, Try.ntmps32
    go_wp2_with fail
    go_ret2
    rw [HN.out.1, HN.out.2]
    exact ⟨rfl, Below.refl _ _⟩
  by_cases h2 : 64 < n
  · have hno : packOk l n = false := by unfold packOk; simp; omega
    have HN := Lib.hid (pack_no hno)
    clear hno
    go_enter Try.func32, Try.ntmps32
    go_wp2_with fail
    go_ret2
    rw [HN.out.1, HN.out.2]
    exact ⟨rfl, Below.refl _ _⟩
  obtain ⟨m, rfl⟩ := Int.eq_ofNat_of_zero_le (show 0 ≤ n by omega)
  have hm1 : 1 ≤ m := by omega
  have hm64 : m ≤ 64 := by omega
  have HA := Lib.hid (And.intro hA h64)
  clear hA h64 h1 h2
  go_enter Try.func32, Try.ntmps32
  go_wp2_with fail
  have a0 : RwAt (w.alloc (.cells #[.slice none 0 0] 55)) w.heap.size none [] := ⟨_, Blk.new w 55 #[.slice none 0 0], World.ownsRow_nil _ _ _ _, rfl⟩
  have H0 := Lib.hid (And.intro a0 ((Below.refl _ w).alloc (Nat.le_refl _) (.cells #[.slice none 0 0] 55)))
  clear a0
  obtain ⟨h1, hh1⟩ : ∃ h1, h1 = w.heap.size := ⟨_, rfl⟩
  obtain ⟨wx, hwx⟩ : ∃ wx, wx = w.alloc (.cells #[.slice none 0 0] 55) := ⟨_, rfl⟩
  rw [← hwx, ← hh1] at H0
  rw [← hwx, ← hh1]
  have G1 : Hid (w.heap.size = h1) := hh1.symm
  clear hwx hh1
  go_loopg [7] l.length (fun g i wr => ∃ (k : Nat) (o : Option Nat), k + g = l.length ∧ i = .int .i64 k ∧ RwAt wr h1 o (packBits (l.take k) m) ∧ Below h1 w wr ∧ Ge h1 o ∧ (∀ v ∈ l.take k, v < 2 ^ m) ∧ k * m ≤ 134217728)
  case atStart => exact ⟨0, none, by omega, rfl, H0.out.1, H0.out.2, Ge.none_, by simp, by omega⟩
  case round =>
    obtain ⟨k, o, hk, rfl, ha, hbel, hge, hall, hkm⟩ := hrel
    clear H0
    have hsz := hbel.size
    have hpl := length_packBits (l.take k) m
    have hlk : (l.take k).length = k := by rw [List.length_take]; omega
    rw [hlk] at hpl
    by_cases hlt : k < l.length
    · obtain ⟨a, rfl, hc⟩ := HA.out.1 k hlt
      have hc2 : wr.cell? (a.add k) = some (.int .u64 (l.getD k 0 : Nat)) := (hbel.cell (by have := World.block_lt_of_cell? w _ hc; rw [← G1.out]; exact this)).trans hc
      have hv64 := HA.out.2 k
      obtain ⟨v, hv⟩ : ∃ v, v = l.getD k 0 := ⟨_, rfl⟩
      rw [← hv] at hc2 hv64
      have hpb : (packBits (l.take k) m).length ≤ 134217728 := by omega
      have HV := Lib.hid (And.intro hv (And.intro hall (And.intro ha (And.intro hbel (And.intro hge (And.intro hpl hkm))))))
      clear hv hall hbel hge hlk hc hkm
      by_cases hfit : v < 2 ^ m ∧ k * m + m ≤ 134217728
      · have Hfit := Lib.hid hfit
        clear hfit
        have hl5 : (packBits (l.take k) m).length + m ≤ 134217728 := by have := Hfit.out.2; omega
        clear hpl
        go_wp2_with fail
        refine (rpput ha Hfit.out.1 hv64 hm64 hl5).mono ?_
        rintro e w2 ⟨rfl, hp⟩
        have HP := Lib.hid hp
        clear hp ha
        go_wp2_with fail
        go_roundg (gk - 1)
        case measure => omega
        case rel =>
          obtain ⟨hv, hall, ha, hbel, hge, hpl, hkm⟩ := HV.out
          have hon := HP.out.only
          obtain ⟨o', p1, p2, p3⟩ := HP.out
          refine ⟨k + 1, o', by omega, by go_num, ?_, ?_, ?_, ?_, ?_⟩
          · rw [take_snocN l k hlt, packBits_snoc, ← hv]; exact p1
          · rw [← G1.out] at hbel hge hon ⊢
            exact below_only hbel hon hbel.size (by rintro i (rfl | hi); exact Nat.le_refl _; exact hge i hi)
          · rw [← G1.out] at hge hbel ⊢; exact p3.geq hge hbel.size
          · intro x hx
            rw [take_snocN l k hlt, List.mem_append] at hx
            rcases hx with hx | hx
            · exact hall x hx
            · simp at hx; subst hx
              have := Hfit.out.1; rw [hv] at this; simpa using this
          · rw [Nat.add_mul]; have := Hfit.out.2; omega
      · have hno : packOk l m = false := by
          have hmem : v ∈ l := by
            have hv := HV.out.1
            rw [hv, List.getD, List.getElem?_eq_getElem hlt]
            exact List.getElem_mem hlt
          cases hok : packOk l m with
          | false => rfl
          | true =>
            exfalso
            apply hfit
            unfold packOk at hok
            simp at hok
            obtain ⟨⟨⟨_, _⟩, q1⟩, q2⟩ := hok
            refine ⟨by simpa using q2 v hmem, ?_⟩
            have h5 := (Nat.le_div_iff_mul_le (by omega : 0 < m)).1 q1
            have h6 : (k + 1) * m ≤ l.length * m := Nat.mul_le_mul_right _ (by omega)
            rw [Nat.add_mul] at h6
            omega
        have hbad : ¬ (v < 2 ^ m ∧ (packBits (l.take k) m).length + m ≤ 134217728) := by rw [hpl]; exact hfit
        have HN := Lib.hid (And.intro (pack_no hno) hbad)
        clear hno hfit hbad hpl
        go_wp2_with fail
        refine (rpput_no ha HN.out.2 hv64 hpb).mono ?_
        rintro e w2 ⟨⟨cc, rfl, hcc⟩, hp⟩
        have HP := Lib.hid hp
        clear hp ha
        go_wp2_with fail
        go_ret2
        rw [HN.out.1.1, HN.out.1.2]
        obtain ⟨hv, hall, ha, hbel, hge, _⟩ := HV.out
        refine ⟨rfl, ?_⟩
        rw [← G1.out] at hbel hge
        exact below_only hbel HP.out.only hbel.size (by rintro i (rfl | hi); rw [← G1.out]; exact Nat.le_refl _; exact hge i hi)
    · have hkl : k = l.length := by omega
      subst hkl
      rw [List.take_length] at ha hall hpl
      have hyes : packOk l m = true := by
        unfold packOk
        have h5 : (l.all fun v => decide (v < 2 ^ ((m : Int)).toNat)) = true := by
          rw [List.all_eq_true]; intro x hx; simpa using hall x hx
        rw [h5]
        have h6 := (Nat.le_div_iff_mul_le (by omega : 0 < m)).2 hkm
        simp
        omega
      obtain ⟨sv, hbq, hoq, hsq⟩ := ha
      obtain ⟨Aq, cq, rfl⟩ := own_shape hoq
      have f0 := hbq.cell 0
      simp at f0
      have hsl := SlB.own hoq
      have hl8 : (packBits l m).length ≤ 134217728 := by omega
      have HY := Lib.hid (pack_yes hyes)
      have HB := Lib.hid hbel
      clear hyes hall hbel hge hpl hkm hbq hoq hsq
      go_wp2_with fail
      refine (text_any Aq cq _ _ hl8 hsl).mono ?_
      rintro e w4 ⟨rfl, hb4⟩
      have H4 := Lib.hid hb4
      clear hb4
      go_wp2_with fail
      go_ret2
      rw [HY.out.1, HY.out.2]
      exact ⟨rfl, by have hb := HB.out; have h4 := H4.out; rw [G1.out]; exact hb.trans (h4.mono (by rw [← G1.out]; exact hsz))⟩
end Go.Proofs.Ytmgngmnkmmhckaa
