/-
  codes: a number is written.
-/
import Derived.Test.YtmgngmnkmmhckaaCLen
import Derived.Deep.CutBlock
set_option linter.unusedVariables false
namespace Go.Proofs.Ytmgngmnkmmhckaa
open Go.RowKit Plain

def zB (z : Int) : List Bool := if 0 ≤ z then List.replicate z.toNat false ++ [true] else []
def pB (a0 n0 a1 n1 k : Nat) : List Bool := if k = 0 then [] else if k = 1 then bitsOf a0 n0 else bitsOf a0 n0 ++ bitsOf a1 n1
def cB (z : Int) (a0 n0 a1 n1 : Nat) : List Bool := zB z ++ pB a0 n0 a1 n1 2
theorem length_zB {z : Int} (h : -1 ≤ z) : ((zB z).length : Int) = z + 1 := by
  unfold zB
  split
  · rw [List.length_append, List.length_replicate]; simp; omega
  · simp; omega
theorem length_cB {z : Int} (h : -1 ≤ z) (a0 n0 a1 n1 : Nat) : ((cB z a0 n0 a1 n1).length : Int) = z + 1 + n0 + n1 := by
  have := length_zB h
  unfold cB pB
  rw [List.length_append, if_neg (by decide), if_neg (by decide), List.length_append, length_bitsOf, length_bitsOf]
  omega
theorem bitsOf_0 (n : Nat) : bitsOf 0 n = List.replicate n false := by
  apply ext_getD
  · rw [length_bitsOf, List.length_replicate]
  · intro i hi
    rw [getD_bitsOf]
    simp only [Nat.zero_testBit, Bool.and_false]
    rw [length_bitsOf] at hi
    simp [List.getD, hi]
theorem bitsOf_1 (n : Nat) : bitsOf 1 (n + 1) = List.replicate n false ++ [true] := by
  rw [bitsOf_succ, show (1 : Nat) / 2 = 0 from rfl, bitsOf_0]; rfl
theorem ix0 (w : World) (x0 x1 x2 x3 : Value) : (Instr.index 107 (.agg #[x0, x1, x2, x3]) (.int .i64 0)).run Try.prog w = .ok (.agg #[x0, x1]) w := by
  have a := Try.isAgg106
  have s := Try.sizeOf106
  simp [Instr.index, run_underlying Try.underlying107, asIntOf, go_sem, part, a, s]
theorem ix1 (w : World) (x0 x1 x2 x3 : Value) : (Instr.index 107 (.agg #[x0, x1, x2, x3]) (.int .i64 1)).run Try.prog w = .ok (.agg #[x2, x3]) w := by
  have a := Try.isAgg106
  have s := Try.sizeOf106
  simp [Instr.index, run_underlying Try.underlying107, asIntOf, go_sem, part, a, s]
theorem lt64 {a n : Nat} (hn : n ≤ 64) (h : a < 2 ^ n) : a < 18446744073709551616 := by
  have h2 : 2 ^ n ≤ 2 ^ 64 := Nat.pow_le_pow_right (by decide) hn
  have e : (2 : Nat) ^ 64 = 18446744073709551616 := by decide
  omega
theorem put_one {h : Nat} {o : Option Nat} {l : List Bool} {w : World} {z : Int} (hw : WrAt w h o l) (h0 : 0 ≤ z) (h63 : z ≤ 63) (hl : (l.length : Int) + z + 1 ≤ 134217728) :
    Calls Try.prog 26 #[.pointer (some ⟨h, 0, none⟩), .int .u64 1, .int .i64 (z + 1)] w fun e w' => e = .returned (.int .i64 0) ∧ WrTo w h o (l ++ (List.replicate z.toNat false ++ [true])) w' := by
  obtain ⟨n, rfl⟩ := Int.eq_ofNat_of_zero_le h0
  have := pput (v := 1) (n := n + 1) hw (Nat.one_lt_two_pow (by omega)) (by decide) (by omega) (by omega)
  rw [bitsOf_1] at this
  exact this
theorem WrTo.more {w w1 w2 : World} {h : Nat} {o : Option Nat} {l : List Bool} (p : WrTo w h o l w1) (k : Below w1.heap.size w1 w2) : WrTo w h o l w2 := by
  obtain ⟨o1, a, ho, f⟩ := p
  exact ⟨o1, a.only (Only.of_below (F := fun _ => False) k) (fun _ _ e => e), ho.trans (Only.of_below (F := fun _ => False) k) (fun _ _ e => e.elim), f⟩

set_option maxRecDepth 100000 in
set_option maxHeartbeats 4000000 in
theorem cput_no (h : Nat) (o : Option Nat) (L : List Bool) (kd K v : Nat) (w : World) (hw : WrAt w h o L) (hK : K < 18446744073709551616) (hm : cMay kd K v = false) :
    Calls Try.prog 41 #[.pointer (some ⟨h, 0, none⟩), .agg #[.int .u8 kd, .int .u64 K], .int .u64 v] w fun e w' => e = .returned (.int .i64 1) ∧ WrTo w h o L w' := by
  have H0 := Lib.hid (WrTo.refl hw)
  have HH := Lib.hid (And.intro hK hm)
  clear hw hK hm
  go_enter Try.func41, Try.ntmps41
  go_wp2_with fail
  refine (len_no kd K v _ HH.out.1 HH.out.2).mono ?_
  rintro e w' ⟨rfl, hb⟩
  have H1 : Hid (WrTo w h o L w') := (H0.out.more ((Below.refl _ w).alloc (Nat.le_refl _) (.cells #[.int .u8 kd, .int .u64 K] 71))).more hb
  clear hb
  go_wp2_with fail
  go_ret
  exact ⟨rfl, H1.out⟩

set_option maxRecDepth 100000 in
set_option maxHeartbeats 8000000 in
theorem cput_yes (h : Nat) (o : Option Nat) (L : List Bool) (kd K v : Nat) (z : Int) (a0 n0 a1 n1 : Nat) (w : World) (hw : WrAt w h o L) (hL : L.length ≤ 134217728) (hK : K < 18446744073709551616) (hm : cMay kd K v = true)
    (hsp : Sp kd K v z a0 n0 a1 n1) (hz : -1 ≤ z) (hz2 : z ≤ 65535) (h0 : n0 ≤ 64) (h1 : n1 ≤ 64) (ha0 : a0 < 2 ^ n0) (ha1 : a1 < 2 ^ n1) (hfit : (L.length : Int) + (z + 1 + n0 + n1) ≤ 134217728) :
    Calls Try.prog 41 #[.pointer (some ⟨h, 0, none⟩), .agg #[.int .u8 kd, .int .u64 K], .int .u64 v] w fun e w' => e = .returned (.int .i64 0) ∧ WrTo w h o (L ++ cB z a0 n0 a1 n1) w' := by
  have H0 := Lib.hid (WrTo.refl hw)
  have Hlto := Lib.hid hw.lto
  have hb0 := Blk.new w 71 #[.int .u8 kd, .int .u64 K]
  have HH := Lib.hid (And.intro hK (And.intro hm (And.intro hsp (And.intro ha0 ha1))))
  clear hw hK hm hsp ha0 ha1
  go_enter Try.func41, Try.ntmps41
  go_wp2_with fail
  obtain ⟨g, hg⟩ : ∃ g, g = w.heap.size := ⟨_, rfl⟩
  obtain ⟨w1, hw1⟩ : ∃ w1, w1 = w.alloc (.cells #[.int .u8 kd, .int .u64 K] 71) := ⟨_, rfl⟩
  have H1 : Hid (WrTo w h o L w1) := by rw [hw1]; exact H0.out.more ((Below.refl _ w).alloc (Nat.le_refl _) (.cells #[.int .u8 kd, .int .u64 K] 71))
  rw [← hw1, ← hg] at hb0
  rw [← hw1, ← hg]
  clear hw1 hg H0
  refine (len_yes kd K v z a0 n0 a1 n1 _ HH.out.1 HH.out.2.1 HH.out.2.2.1 hz hz2 h0 h1).mono ?_
  rintro e w2 ⟨rfl, hb⟩
  have hb1 := hb0.only (Only.of_below (F := fun _ => False) hb) (fun e => e)
  have c0 := hb1.cell 0
  have c1 := hb1.cell 1
  simp at c0 c1
  have H2 := Lib.hid (H1.out.more hb)
  clear hb hb0 hb1 H1
  obtain ⟨o2, q2, q3⟩ := H2.out
  have Q := Lib.hid q2
  clear q2 q3
  have hd : decide ((134217728 : Int) - (L.length : Int) < z + 1 + n0 + n1) = false := decide_eq_false (by omega)
  have hdn := Lib.hid hfit
  clear hfit
  go_wp2_with fail
  refine (wlen_any h o2 L _ Q.out).mono ?_
  rintro e w' ⟨rfl, rfl⟩
  go_wp2_with fail
  refine (HH.out.2.2.1 _).mono ?_
  rintro e w3 ⟨rfl, hb⟩
  have H3 := Lib.hid (H2.out.more hb)
  clear hb c0 c1 H2 Q
  go_wp2_with fail
  have HW : Hid (∃ o4, WrAt (w3.alloc (.cells #[.int .u64 a0, .int .i64 n0, .int .u64 a1, .int .i64 n1] 107)) h o4 L ∧ Only (WrFoot h o) w (w3.alloc (.cells #[.int .u64 a0, .int .i64 n0, .int .u64 a1, .int .i64 n1] 107)) ∧ Fresh w o o4 ∧ ¬ WrFoot h o4 w3.heap.size) := by
    obtain ⟨o4, x1, x2, x3⟩ := H3.out
    have hlt := x1.lt
    have hlo := x1.lto
    refine ⟨o4, x1.only ((Only.refl (fun _ => False) _).alloc _) (fun _ _ e => e), x2.alloc _, x3, ?_⟩
    rintro (e | e)
    · omega
    · have := hlo _ e; omega
  have hb4 := Blk.new w3 107 #[.int .u64 a0, .int .i64 n0, .int .u64 a1, .int .i64 n1]
  obtain ⟨g4, hg4⟩ : ∃ g4, g4 = w3.heap.size := ⟨_, rfl⟩
  obtain ⟨w4, hw4⟩ : ∃ w4, w4 = w3.alloc (.cells #[.int .u64 a0, .int .i64 n0, .int .u64 a1, .int .i64 n1] 107) := ⟨_, rfl⟩
  rw [← hw4, ← hg4] at HW hb4
  rw [← hw4, ← hg4]
  clear hw4 hg4 H3
  obtain ⟨o4, x1, x2, x3, x4⟩ := HW.out
  have HX := Lib.hid (And.intro x1 (And.intro x2 (And.intro x3 (And.intro x4 hb4))))
  clear x1 x2 x3 x4 hb4 HW hd
  have hLl := HX.out.1.lto
  have HLl := Lib.hid hLl
  clear hLl
  go_loopg [9] z.toNat (fun n zz wr => ∃ k : Nat, zz = .int .i64 (z - 63 * (k : Int)) ∧ n = (z - 63 * (k : Int)).toNat ∧ (0 < k → 63 * (k : Int) ≤ z) ∧ WrTo w4 h o4 (L ++ List.replicate (63 * k) false) wr)
  case atStart => exact ⟨0, by simp, by simp, by omega, by simpa using WrTo.refl HX.out.1⟩
  case round =>
    obtain ⟨k, rfl, hn, hk, hp⟩ := hrel
    obtain ⟨o5, y1, y2, y3⟩ := hp
    have HY := Lib.hid (And.intro y1 (And.intro y2 y3))
    clear y1 y2 y3
    obtain ⟨zk, hzk⟩ : ∃ zk : Int, zk = z - 63 * (k : Int) := ⟨_, rfl⟩
    have hzk2 : -1 ≤ zk ∧ zk ≤ 65535 := by
      rcases Nat.eq_zero_or_pos k with h | h
      · subst h; omega
      · have := hk h; omega
    obtain ⟨hz3, hz4⟩ := hzk2
    rw [← hzk] at hn ⊢
    have HZ := Lib.hid (And.intro hzk hk)
    clear hzk hk
    by_cases h63 : 63 < zk
    · go_wp2_with fail
      refine (pput (v := 0) (n := 63) HY.out.1 (by decide) (by decide) (by decide) (by
        rw [List.length_append, List.length_replicate]; have := hdn.out; have := HZ.out.1; omega)).mono ?_
      rintro e w6 ⟨rfl, hp⟩
      have H6 := Lib.hid (WrTo.trans HLl.out HY.out.2.1 HY.out.2.2 hp)
      clear hp
      go_wp2_with fail
      go_roundg (zk - 63).toNat
      case measure => omega
      case rel =>
        refine ⟨k + 1, by have := HZ.out.1; congr 1; omega, by have := HZ.out.1; congr 1; omega, fun _ => by have := HZ.out.1; omega, ?_⟩
        have := H6.out
        rw [bitsOf_0, List.append_assoc, List.replicate_append_replicate, show 63 * k + 63 = 63 * (k + 1) by omega] at this
        exact this
    · go_upto_if 44 with fail
      go_cut [] (fun wx => WrTo w4 h o4 (L ++ zB z) wx)
      case first =>
        by_cases hneg : 0 ≤ zk
        · go_wp2_with fail
          refine (put_one HY.out.1 hneg (by omega) (by
            rw [List.length_append, List.length_replicate]; have := hdn.out; have := HZ.out.1; omega)).mono ?_
          rintro e w6 ⟨rfl, hp⟩
          have H6 := Lib.hid (WrTo.trans HLl.out HY.out.2.1 HY.out.2.2 hp)
          clear hp
          go_wp2_with fail
          go_meet
          have := H6.out
          rw [List.append_assoc, ← List.append_assoc (List.replicate _ _), List.replicate_append_replicate] at this
          have hz5 := HZ.out.1
          unfold zB
          rw [if_pos (by omega), show z.toNat = 63 * k + zk.toNat by omega]
          exact this
        · go_wp2_with fail
          go_meet
          have hk0 : k = 0 := by
            rcases Nat.eq_zero_or_pos k with h | h
            · exact h
            · have := HZ.out.2 h; have := HZ.out.1; omega
          subst hk0
          have := HY.out
          unfold zB
          rw [if_neg (by have := HZ.out.1; omega)]
          exact ⟨o5, by simpa using this.1, this.2.1, this.2.2⟩
      case rest =>
        have HC := Lib.hid hcut
        clear hcut HY HZ hz3 hz4
        have hb5 : Blk wc g4 107 #[.int .u64 a0, .int .i64 n0, .int .u64 a1, .int .i64 n1] := by
          obtain ⟨o6, y1, y2, y3⟩ := HC.out
          exact HX.out.2.2.2.2.only y2 HX.out.2.2.2.1
        have d0 := hb5.cell 0
        have d1 := hb5.cell 1
        have d2 := hb5.cell 2
        have d3 := hb5.cell 3
        simp at d0 d1 d2 d3
        clear hb5
        go_wp2_with fail
        clear d0 d1 d2 d3
        go_loopg [50] 2 (fun n i wr => ∃ j : Nat, j + n = 2 ∧ i = .int .i64 j ∧ WrTo w4 h o4 ((L ++ zB z) ++ pB a0 n0 a1 n1 j) wr)
        case atStart => exact ⟨0, by omega, rfl, by rw [show pB a0 n0 a1 n1 0 = [] from rfl, List.append_nil]; exact HC.out⟩
        case round =>
          obtain ⟨j, hj, rfl, hp⟩ := hrel
          obtain ⟨o6, y1, y2, y3⟩ := hp
          have HY := Lib.hid (And.intro y1 (And.intro y2 y3))
          clear y1 y2 y3 HC
          have hjj : j = 0 ∨ j = 1 ∨ j = 2 := by omega
          rcases hjj with rfl | rfl | rfl
          · have ix := ix0 wr (.int .u64 a0) (.int .i64 n0) (.int .u64 a1) (.int .i64 n1)
            go_wp2_with fail
            have HY2 : Hid (WrTo w4 h o4 ((L ++ zB z) ++ pB a0 n0 a1 n1 0) (wr.alloc (.cells #[.int .u64 a0, .int .i64 n0] 106))) := WrTo.more ⟨o6, HY.out.1, HY.out.2.1, HY.out.2.2⟩ ((Below.refl _ wr).alloc (Nat.le_refl _) _)
            obtain ⟨o7, y1, y2, y3⟩ := HY2.out
            have HY := Lib.hid (And.intro y1 (And.intro y2 y3))
            clear y1 y2 y3
            refine (pput (v := a0) (n := n0) HY.out.1 HH.out.2.2.2.1 (lt64 h0 HH.out.2.2.2.1) h0 (by
              rw [List.length_append, List.length_append]; have := length_zB hz; have := hdn.out; show _ + (pB a0 n0 a1 n1 0).length + _ ≤ _; rw [show pB a0 n0 a1 n1 0 = [] from rfl]; simp; omega)).mono ?_
            rintro e w6 ⟨rfl, hp⟩
            have H6 := Lib.hid (WrTo.trans HLl.out HY.out.2.1 HY.out.2.2 hp)
            clear hp
            go_wp2_with fail
            go_roundg 1
            case measure => omega
            case rel =>
              refine ⟨1, by omega, rfl, ?_⟩
              have := H6.out
              rw [show pB a0 n0 a1 n1 0 = [] from rfl, List.append_nil] at this
              exact this
          · have ix := ix1 wr (.int .u64 a0) (.int .i64 n0) (.int .u64 a1) (.int .i64 n1)
            go_wp2_with fail
            have HY2 : Hid (WrTo w4 h o4 ((L ++ zB z) ++ pB a0 n0 a1 n1 1) (wr.alloc (.cells #[.int .u64 a1, .int .i64 n1] 106))) := WrTo.more ⟨o6, HY.out.1, HY.out.2.1, HY.out.2.2⟩ ((Below.refl _ wr).alloc (Nat.le_refl _) _)
            obtain ⟨o7, y1, y2, y3⟩ := HY2.out
            have HY := Lib.hid (And.intro y1 (And.intro y2 y3))
            clear y1 y2 y3
            refine (pput (v := a1) (n := n1) HY.out.1 HH.out.2.2.2.2 (lt64 h1 HH.out.2.2.2.2) h1 (by
              rw [List.length_append, List.length_append]; have := length_zB hz; have := hdn.out; rw [show pB a0 n0 a1 n1 1 = bitsOf a0 n0 from rfl, length_bitsOf]; omega)).mono ?_
            rintro e w6 ⟨rfl, hp⟩
            have H6 := Lib.hid (WrTo.trans HLl.out HY.out.2.1 HY.out.2.2 hp)
            clear hp
            go_wp2_with fail
            go_roundg 0
            case measure => omega
            case rel =>
              refine ⟨2, by omega, rfl, ?_⟩
              have := H6.out
              rw [show pB a0 n0 a1 n1 1 = bitsOf a0 n0 from rfl, List.append_assoc] at this
              exact this
          · go_wp2_with fail
            go_ret
            refine ⟨rfl, WrTo.trans Hlto.out HX.out.2.1 HX.out.2.2.1 ?_⟩
            have := HY.out
            rw [List.append_assoc] at this
            exact ⟨o6, this.1, this.2.1, this.2.2⟩
end Go.Proofs.Ytmgngmnkmmhckaa
