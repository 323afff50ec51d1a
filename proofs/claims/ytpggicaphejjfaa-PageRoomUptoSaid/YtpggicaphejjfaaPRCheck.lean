/-
  The reference's Check.
-/
import Derived.Test.YtpggicaphejjfaaPRef2
import Derived.BigQuiet
set_option linter.unusedVariables false
namespace Go.Proofs.Ytpggicaphejjfaa
open Go.RowKit

theorem toList_loop (bs : ByteArray) : ∀ d i r, bs.size - i = d → ByteArray.toList.loop bs i r = r.reverse ++ bs.data.toList.drop i := by
  intro d
  induction d with
  | zero =>
    intro i r h
    rw [ByteArray.toList.loop, if_neg (by omega), List.drop_of_length_le (by rw [Array.length_toList]; show bs.size ≤ i; omega), List.append_nil]
  | succ d ih =>
    intro i r h
    have hi : i < bs.size := by omega
    rw [ByteArray.toList.loop, if_pos hi, ih (i + 1) _ (by omega), List.reverse_cons, List.append_assoc]
    have h2 : i < bs.data.toList.length := by rw [Array.length_toList]; exact hi
    rw [List.drop_eq_getElem_cons h2]
    have e : bs.get! i = bs.data.toList[i] := by
      show bs.data[i]! = _
      rw [getElem!_pos bs.data i hi]
      rfl
    rw [e]
    rfl
theorem toList_data (bs : ByteArray) : bs.toList = bs.data.toList := by
  unfold ByteArray.toList
  rw [toList_loop bs _ 0 [] rfl]
  rfl
theorem toList_ne {s t : ByteArray} (h : s ≠ t) : (s.toList == t.toList) = false := by
  rw [beq_eq_false_iff_ne, toList_data, toList_data]
  intro e
  apply h
  obtain ⟨⟨a⟩⟩ := s
  obtain ⟨⟨b⟩⟩ := t
  simp at e
  rw [e]
theorem quiet_left1 {P : Program} {f : FuncId} {args : Array Value} {w : World} {n : Nat} {v : Value}
    (h : Calls P f args (w.drewN n) fun e w' => e = .returned v ∧ w.drewN n = w') : Calls P f args (w.drewN n) fun e w'' => e = .returned v ∧ ∃ m, w'' = w.drewN m :=
  h.mono fun _ _ ⟨he, hm⟩ => ⟨he, n, hm.symm⟩
theorem toList_nil {x : ByteArray} : x.toList = [] ↔ x.size = 0 := by
  rw [toList_data]
  obtain ⟨⟨a⟩⟩ := x
  simp [ByteArray.size]
theorem below_drewN {B : Nat} {a w : World} (h : Below B a w) (n : Nat) : Below B a (w.drewN n) := ⟨h.os, h.tape, h.output, h.size, h.block⟩
/-- what the reference asks of the keys -/
def RckI (w w1 : World) (n : Nd) (A1 A2 A3 : Option Addr) (bx : Nat) (cs : Array Value) (u : World) : Prop := Below w.heap.size w u ∧ NdR u n A1 A2 A3 ∧ Blk u bx 25 cs
theorem RckI.drewN {w w1 : World} {n : Nd} {A1 A2 A3 : Option Addr} {bx : Nat} {cs : Array Value} {u : World} (h : RckI w w1 n A1 A2 A3 bx cs u) (k : Nat) : RckI w w1 n A1 A2 A3 bx cs (u.drewN k) :=
  ⟨below_drewN h.1 k, h.2.1.below (below_drewN (Below.refl _ u) k), h.2.2.drewN k⟩

set_option maxRecDepth 100000 in
set_option maxHeartbeats 4000000 in
theorem rcheck_yes (n : Nd) (A1 A2 A3 : Option Addr) (c1 c2 c3 m : Nat) (r : Bool) (w : World) (h : NdR w n A1 A2 A3) (m1 : 512 ≤ m) (m2 : m ≤ 4096) (m3 : m % 512 = 0) (hr : r = true ↔ CheckN n m) :
    Calls Try.prog 16 #[.agg (ndC n A1 A2 A3 c1 c2 c3), .int .i64 m] w fun e w' => e = .returned (.int .i64 (if r = true then 0 else 1)) ∧ Below w.heap.size w w' := by
  have hbx := Blk.new w 25 (ndC n A1 A2 A3 c1 c2 c3)
  have hB1 : Below w.heap.size w (w.alloc (.cells (ndC n A1 A2 A3 c1 c2 c3) 25)) := (Below.refl _ w).alloc (Nat.le_refl _) _
  have hq : mostN m ≤ 4096 := by unfold mostN; omega
  have ho4 : orderN m ≤ 4096 := by unfold orderN; omega
  obtain ⟨w1, hw1⟩ : ∃ w1, w1 = w.alloc (.cells (ndC n A1 A2 A3 c1 c2 c3) 25) := ⟨_, rfl⟩
  obtain ⟨bx, hbxe⟩ : ∃ bx, bx = w.heap.size := ⟨_, rfl⟩
  rw [← hw1] at hB1
  rw [← hw1, ← hbxe] at hbx
  have h' := h.below hB1
  have hmost := rmost_yes m w1 m1 m2 m3
  have horder := rorder_yes m w1 m1 m2 m3
  have hl1 := h.l1
  have HR : Hid (r = true ↔ CheckW n m) := hr.trans (checkW_iff h.l1 h.l3)
  clear hr m3
  have hbytes := fun (u : World) (hu : NdR u n A1 A2 A3) => rbytes_any n A1 A2 A3 c1 c2 c3 u hu
  unfold ndC at *
  obtain ⟨N1, hN1⟩ : ∃ N, N = n.keys.length := ⟨_, rfl⟩
  obtain ⟨N2, hN2⟩ : ∃ N, N = n.vals.length := ⟨_, rfl⟩
  obtain ⟨N3, hN3⟩ : ∃ N, N = n.kids.length := ⟨_, rfl⟩
  obtain ⟨lf, hlf⟩ : ∃ b, b = n.leaf := ⟨_, rfl⟩
  obtain ⟨B, hB⟩ : ∃ B, B = wrap64 (bytesN n : Nat) := ⟨_, rfl⟩
  obtain ⟨mo, hmo⟩ : ∃ q, q = mostN m := ⟨_, rfl⟩
  obtain ⟨od, hod⟩ : ∃ q, q = orderN m := ⟨_, rfl⟩
  rw [← hN1] at hl1
  rw [← hmo] at hmost hq
  rw [← hod] at horder ho4
  rw [← hN1, ← hN2, ← hN3, ← hlf] at hbx hw1 ⊢
  simp only [← hN1, ← hN2, ← hN3, ← hlf, ← hB] at hbytes
  have HN := Lib.hid (And.intro hN1 (And.intro hN2 (And.intro hN3 (And.intro hlf (And.intro hB (And.intro hmo hod))))))
  have HW := Lib.hid (And.intro hw1 hbxe)
  have HM := Lib.hid hmost
  have HO := Lib.hid horder
  have HY := Lib.hid hbytes
  have H1 : Hid (RckI w w1 n A1 A2 A3 bx #[.bool lf, .slice A1 N1 c1, .slice A2 N2 c2, .slice A3 N3 c3] w1) := ⟨hB1, h', hbx⟩
  clear hmost horder hbytes hbx hw1 hbxe hB1 hN1 hN2 hN3 hlf hB hmo hod h h'
  go_enter Try.func16, Try.ntmps16
  go_upto_region 1 with fail
  rw [← HW.out.1, ← HW.out.2]
  go_wp2_with fail
  refine HM.out.mono ?_
  rintro e w2 ⟨rfl, rfl⟩
  go_wp2_with fail
  refine HO.out.mono ?_
  rintro e w2 ⟨rfl, rfl⟩
  go_wp2_with fail
  go_loopg [9] N1 (fun g i wr => ∃ k : Nat, k + g = N1 ∧ i = .int .i64 k ∧ (∀ j, j < k → kOk n.keys j) ∧ RckI w w1 n A1 A2 A3 bx #[.bool lf, .slice A1 N1 c1, .slice A2 N2 c2, .slice A3 N3 c3] wr)
  case atStart => exact ⟨0, by omega, rfl, (fun j hj => absurd hj (by omega)), H1.out⟩
  case round =>
    obtain ⟨k, hk, rfl, hall, hI⟩ := hrel
    have HI := Lib.hid hI
    have x1 := hI.2.2.cell 1
    simp at x1
    clear hI
    by_cases hlt : k < N1
    · have hno : Hid (¬ kOk n.keys k → r = false) := fun hn => by
        rw [Bool.eq_false_iff]
        intro e
        exact hn ((HR.out.1 e).1.1 k (by rw [← HN.out.1]; exact hlt))
      have hyes : Hid (kOk n.keys k → ∀ j, j < k + 1 → kOk n.keys j) := fun hk j hj => by
        rcases Nat.lt_succ_iff_lt_or_eq.1 hj with h | h
        · exact hall j h
        · rw [h]; exact hk
      clear hall
      obtain ⟨b, off, rfl, _, hcl⟩ := HI.out.2.1.k (by rw [← HN.out.1]; omega)
      have hcell := hcl k (by rw [← HN.out.1]; exact hlt)
      have hdef : kOk n.keys k ↔ ((n.keys.getD k ⟨#[]⟩).toList ≠ [] ∧ (n.keys.getD k ⟨#[]⟩).size ≤ 64 ∧ (0 < k → Op.bytesLess (n.keys.getD (k - 1) ⟨#[]⟩).toList (n.keys.getD k ⟨#[]⟩).toList = true)) := Iff.rfl
      have hcell2 : 0 < k → wr.cell? ⟨b, off + (k - 1), none⟩ = some (.string (n.keys.getD (k - 1) ⟨#[]⟩)) := fun h => hcl (k - 1) (by rw [← HN.out.1]; omega)
      obtain ⟨x, hx⟩ : ∃ x, x = n.keys.getD k ⟨#[]⟩ := ⟨_, rfl⟩
      obtain ⟨y, hy⟩ : ∃ y, y = n.keys.getD (k - 1) ⟨#[]⟩ := ⟨_, rfl⟩
      rw [← hx] at hcell hdef
      rw [← hy] at hdef hcell2
      have HD := Lib.hid hdef
      have hkI0 : (0 : Int) ≤ (k : Int) := by omega
      have hkI1 : (k : Int) < (N1 : Int) := by omega
      have hkc : Hid (∀ rk : Bool, (rk = true ↔ (1 ≤ x.size ∧ x.size ≤ 64)) → ∀ (u : World) (q : Nat), Calls Try.prog 37 #[.string x] (u.drewN q) fun e w'' => e = .returned (.bool rk) ∧ ∃ m, w'' = u.drewN m) := fun rk hrk u q => quiet_left1 (key_any x _ rk hrk)
      clear hx hy hcl hdef
      by_cases h0 : 1 ≤ x.size ∧ x.size ≤ 64
      · have HK := Lib.hid (hkc.out true (by simp [h0]))
        rcases Nat.eq_zero_or_pos k with hk0 | hk0
        · have hok := hyes.out (HD.out.2 ⟨fun e => by have := toList_nil.1 e; omega, h0.2, fun e => by omega⟩)
          have HY2 := Lib.hid hok
          subst hk0
          rw [Nat.add_zero] at hcell
          clear hcell2 hok h0
          go_wp2_with fail
          go_quiet ((go_at_call 37; exact HK.out _ _))
          go_wp2_with fail
          go_roundg (gk - 1)
          case measure => omega
          case rel => exact ⟨1, by omega, by go_num, HY2.out, HI.out.drewN _⟩
        · obtain ⟨j, rfl⟩ : ∃ j, k = j + 1 := ⟨k - 1, by omega⟩
          have hj : ((j + 1 : Nat) : Int) - 1 = (j : Int) := by omega
          have hj2 : (j : Int) + 1 - 1 = (j : Int) := by omega
          have hcell3 : wr.cell? ⟨b, off + j, none⟩ = some (.string y) := hcell2 hk0
          have hd0 : decide ((0 : Int) < (j : Int) + 1) = true := decide_eq_true (by omega)
          have hjN : (j : Int) < (N1 : Int) := by omega
          have hjN0 : (0 : Int) ≤ (j : Int) := by omega
          clear hcell2
          cases hbl : Op.bytesLess y.toList x.toList with
          | true =>
            have hok := hyes.out (HD.out.2 ⟨fun e => by have := toList_nil.1 e; omega, h0.2, fun _ => hbl⟩)
            have HY2 := Lib.hid hok
            clear hok h0
            go_wp2_with fail
            go_quiet ((go_at_call 37; exact HK.out _ _))
            go_wp2_with fail
            go_roundg (gk - 1)
            case measure => omega
            case rel => exact ⟨j + 2, by omega, by go_num, HY2.out, HI.out.drewN _⟩
          | false =>
            have hrf := hno.out (fun h => by have := (HD.out.1 h).2.2 hk0; rw [hbl] at this; cases this)
            subst hrf
            clear h0
            go_wp2_with fail
            go_quiet ((go_at_call 37; exact HK.out _ _))
            go_wp2_with fail
            go_ret
            exact ⟨rfl, below_drewN HI.out.1 _⟩
      · have HK := Lib.hid (hkc.out false (by simp; omega))
        have hrf := hno.out (fun h => h0 ⟨by have := (HD.out.1 h).1; rcases Nat.eq_zero_or_pos x.size with e | e; exact absurd (toList_nil.2 e) this; omega, (HD.out.1 h).2.1⟩)
        subst hrf
        clear h0 hcell2
        go_wp2_with fail
        go_quiet ((go_at_call 37; exact HK.out _ _))
        go_wp2_with fail
        go_ret
        exact ⟨rfl, below_drewN HI.out.1 _⟩
    · have hk2 : k = N1 := by omega
      have hKP : Hid (KeysP n.keys) := fun j hj => hall j (by have := HN.out.1; omega)
      have x0 := HI.out.2.2.cell 0
      have x2 := HI.out.2.2.cell 2
      have x3 := HI.out.2.2.cell 3
      simp at x0 x2 x3
      subst hk2
      clear hall hlt
      cases lf with
      | true =>
        by_cases g1 : N2 = k
        · by_cases g2 : N3 = 0
          · subst g1 g2
            go_wp2_with fail
            go_loopg [10] N2 (fun g i wz => ∃ j : Nat, j + g = N2 ∧ i = .int .i64 j ∧ (∀ q, q < j → eOk n mo q) ∧ RckI w w1 n A1 A2 A3 bx #[.bool true, .slice A1 N2 c1, .slice A2 N2 c2, .slice A3 0 c3] wz)
            case atStart => exact ⟨0, by omega, rfl, (fun j hj => absurd hj (by omega)), HI.out⟩
            case round =>
              clear x0 x1 x2 x3
              obtain ⟨j, hj, rfl, hall, hJ⟩ := hrel
              have HJ := Lib.hid hJ
              have x1 := hJ.2.2.cell 1
              have x2 := hJ.2.2.cell 2
              simp at x1 x2
              clear hJ
              by_cases hlt : j < N2
              · have hno : Hid (¬ eOk n mo j → r = false) := fun hn => by
                  rw [Bool.eq_false_iff]
                  intro e
                  have := ((HR.out.1 e).2.1 HN.out.2.2.2.1.symm).2.2 j (by rw [← HN.out.2.1]; exact hlt)
                  rw [← HN.out.2.2.2.2.2.1] at this
                  exact hn this
                have hyes : Hid (eOk n mo j → ∀ q, q < j + 1 → eOk n mo q) := fun hk q hq => by
                  rcases Nat.lt_succ_iff_lt_or_eq.1 hq with h | h
                  · exact hall q h
                  · rw [h]; exact hk
                clear hall
                obtain ⟨b1, o1, rfl, _, hcl1⟩ := HJ.out.2.1.k (by rw [← HN.out.1]; omega)
                obtain ⟨b2, o2, rfl, _, hcl2⟩ := HJ.out.2.1.v (by rw [← HN.out.2.1]; omega)
                have hcell1 := hcl1 j (by rw [← HN.out.1]; exact hlt)
                have hcell2 := hcl2 j (by rw [← HN.out.2.1]; exact hlt)
                have hks := HJ.out.2.1.z j
                have hdef : eOk n mo j ↔ ((n.vals.getD j ⟨#[]⟩).size ≤ 4095 ∧ 3 + (n.keys.getD j ⟨#[]⟩).size + (n.vals.getD j ⟨#[]⟩).size ≤ mo) := Iff.rfl
                obtain ⟨x, hx⟩ : ∃ x, x = n.keys.getD j ⟨#[]⟩ := ⟨_, rfl⟩
                obtain ⟨y, hy⟩ : ∃ y, y = n.vals.getD j ⟨#[]⟩ := ⟨_, rfl⟩
                rw [← hx] at hcell1 hdef hks
                rw [← hy] at hcell2 hdef
                obtain ⟨p, hp⟩ : ∃ p, p = x.size := ⟨_, rfl⟩
                obtain ⟨q, hq'⟩ : ∃ q, q = y.size := ⟨_, rfl⟩
                have hp' : x.size = p := hp.symm
                have hq2 : y.size = q := hq'.symm
                rw [hp', hq2] at hdef
                rw [hp'] at hks
                have HD := Lib.hid hdef
                have hjI0 : (0 : Int) ≤ (j : Int) := by omega
                have hjI1 : (j : Int) < (N2 : Int) := by omega
                clear hx hy hcl1 hcl2 hdef hp hq'
                by_cases h0 : q ≤ 4095
                · obtain ⟨s, hs⟩ : ∃ s, s = 3 + p := ⟨_, rfl⟩
                  have hs1 : (3 : Int) + (p : Int) = (s : Int) := by omega
                  have hs2 : s ≤ 140737488355331 := by omega
                  obtain ⟨t, ht⟩ : ∃ t, t = s + q := ⟨_, rfl⟩
                  have ht1 : (s : Int) + (q : Int) = (t : Int) := by omega
                  have ht2 : t ≤ 140737488360000 := by omega
                  have d0 : decide ((4095 : Int) < (q : Int)) = false := decide_eq_false (by omega)
                  by_cases h1 : t ≤ mo
                  · have hok := hyes.out (HD.out.2 ⟨h0, by omega⟩)
                    have HY2 := Lib.hid hok
                    have h1b : decide ((mo : Int) < (t : Int)) = false := decide_eq_false (by omega)
                    clear hok hs ht
                    go_wp2_with fail
                    go_quiet (fail)
                    go_wp2_with fail
                    go_roundg (N2 - j - 1)
                    case measure => omega
                    case rel => exact ⟨j + 1, by omega, by go_num, HY2.out, HJ.out.drewN _⟩
                  · have hrf := hno.out (fun h => h1 (by have := (HD.out.1 h).2; omega))
                    have h1b : decide ((mo : Int) < (t : Int)) = true := decide_eq_true (by omega)
                    subst hrf
                    clear hs ht
                    go_wp2_with fail
                    go_quiet (fail)
                    go_wp2_with fail
                    go_ret
                    exact ⟨rfl, below_drewN HJ.out.1 _⟩
                · have hrf := hno.out (fun h => h0 (HD.out.1 h).1)
                  have d0 : decide ((4095 : Int) < (q : Int)) = true := decide_eq_true (by omega)
                  subst hrf
                  go_wp2_with fail
                  go_quiet (fail)
                  go_wp2_with fail
                  go_ret
                  exact ⟨rfl, below_drewN HJ.out.1 _⟩
              · have hj2 : j = N2 := by omega
                have hLP : Hid (LeafP n (mostN m)) := ⟨by rw [← HN.out.1, ← HN.out.2.1], HN.out.2.2.1.symm, fun q hq => by
                  have := hall q (by have := HN.out.2.1; omega)
                  rw [HN.out.2.2.2.2.2.1] at this
                  exact this⟩
                have hfin : Hid (B ≤ (m : Int) → r = true) := fun hb => HR.out.2 ⟨⟨hKP.out, by rw [← HN.out.2.2.2.2.1]; exact hb⟩, fun _ => hLP.out, fun e => by have := HN.out.2.2.2.1; rw [e] at this; cases this⟩
                have hbad : Hid (¬ B ≤ (m : Int) → r = false) := fun hb => by
                  rw [Bool.eq_false_iff]; intro e
                  exact hb (by have := (HR.out.1 e).1.2; rw [← HN.out.2.2.2.2.1] at this; exact this)
                have y0 := HJ.out.2.2.cell 0
                have y3 := HJ.out.2.2.cell 3
                simp at y0 y3
                subst hj2
                clear hall
                go_wp2_with fail
                refine (HY.out _ HJ.out.2.1).mono ?_
                rintro e w4 ⟨rfl, hb4⟩
                have H4 := Lib.hid (below_step HJ.out.1 hb4)
                clear hb4
                by_cases hBm : B ≤ (m : Int)
                · have hrt : r = true := hfin.out hBm
                  subst hrt
                  go_wp2_with fail
                  go_ret
                  exact ⟨rfl, H4.out⟩
                · have hrf : r = false := hbad.out (by omega)
                  subst hrf
                  go_wp2_with fail
                  go_ret
                  exact ⟨rfl, H4.out⟩
          · have hrf : r = false := by
              rw [Bool.eq_false_iff]; intro e; exact g2 (by have := ((HR.out.1 e).2.1 HN.out.2.2.2.1.symm).2.1; rw [← HN.out.2.2.1] at this; exact this)
            have g2b : ((N3 : Int) != 0) = true := by rw [bne_iff_ne]; omega
            subst hrf g1
            go_wp2_with fail
            go_ret
            exact ⟨rfl, HI.out.1⟩
        · have hrf : r = false := by
            rw [Bool.eq_false_iff]; intro e; exact g1 (by have := ((HR.out.1 e).2.1 HN.out.2.2.2.1.symm).1; rw [← HN.out.1, ← HN.out.2.1] at this; exact this)
          have g1b : ((N2 : Int) != (k : Int)) = true := by rw [bne_iff_ne]; omega
          subst hrf
          go_wp2_with fail
          go_ret
          exact ⟨rfl, HI.out.1⟩
      | false =>
        have hl : n.leaf = false := HN.out.2.2.2.1.symm
        have HBr : Hid (r = true → BranchP n (orderN m)) := fun e => (HR.out.1 e).2.2 hl
        have HBo : Hid (BranchP n (orderN m) → B ≤ (m : Int) → r = true) := fun hb hm => HR.out.2 ⟨⟨hKP.out, by rw [← HN.out.2.2.2.2.1]; exact hm⟩, (fun e => by rw [hl] at e; cases e), fun _ => hb⟩
        have hbad : Hid (¬ B ≤ (m : Int) → r = false) := fun hb => by
          rw [Bool.eq_false_iff]; intro e
          exact hb (by have := (HR.out.1 e).1.2; rw [← HN.out.2.2.2.2.1] at this; exact this)
        clear hl
        by_cases g2 : N2 = 0
        · by_cases g3 : N3 = k + 1
          · by_cases g4 : N3 ≤ od
            · have g3b : ((N3 : Int) != (k : Int) + 1) = false := by simp; omega
              have g3c : (k : Int) + 1 = (N3 : Int) := by omega
              have hN3b : N3 ≤ 140737488355329 := by omega
              have g4b : decide ((od : Int) < (N3 : Int)) = false := decide_eq_false (by omega)
              have g4c : decide (od < N3) = false := decide_eq_false (by omega)
              have HG := Lib.hid (And.intro g2 (And.intro g3 g4))
              subst g2
              clear g3b g3 g4
              go_wp2_with fail
              go_loopg [11] N3 (fun g i wz => ∃ j : Nat, j + g = N3 ∧ i = .int .i64 j ∧ (∀ q, q < j → n.kids.getD q 0 ≠ 0) ∧ RckI w w1 n A1 A2 A3 bx #[.bool false, .slice A1 k c1, .slice A2 0 c2, .slice A3 N3 c3] wz)
              case atStart => exact ⟨0, by omega, rfl, (fun j hj => absurd hj (by omega)), HI.out⟩
              case round =>
                clear x0 x1 x2 x3 g3c g4b g4c
                obtain ⟨j, hj, rfl, hall, hJ⟩ := hrel
                have HJ := Lib.hid hJ
                have x3 := hJ.2.2.cell 3
                have x0 := hJ.2.2.cell 0
                simp at x3 x0
                clear hJ
                by_cases hlt : j < N3
                · obtain ⟨b3, o3, rfl, _, hcl3⟩ := HJ.out.2.1.i (by rw [← HN.out.2.2.1]; omega)
                  have hcell3 := hcl3 j (by rw [← HN.out.2.2.1]; exact hlt)
                  obtain ⟨x, hx⟩ : ∃ x, x = n.kids.getD j 0 := ⟨_, rfl⟩
                  rw [← hx] at hcell3
                  have HA := Lib.hid (And.intro hall hx)
                  clear hall hcl3 hx
                  by_cases hx0 : x = 0
                  · have hrf : r = false := by
                      rw [Bool.eq_false_iff]; intro e
                      exact (HBr.out e).2.2.2 ⟨j, by rw [← HN.out.2.2.1]; exact hlt, by rw [← HA.out.2]; exact hx0⟩
                    subst hrf hx0
                    go_wp2_with fail
                    go_ret
                    exact ⟨rfl, HJ.out.1⟩
                  · have HX := Lib.hid hx0
                    have hx1 : ((x : Int) == 0) = false := by rw [beq_eq_false_iff_ne]; omega
                    have hx2 : ¬ ((x : Int) = 0) := by omega
                    go_wp2_with fail
                    go_roundg (N3 - j - 1)
                    case measure => omega
                    case rel =>
                      refine ⟨j + 1, by omega, by go_num, fun q hq => ?_, HJ.out⟩
                      rcases Nat.lt_succ_iff_lt_or_eq.1 hq with h | h
                      · exact HA.out.1 q h
                      · subst h; rw [← HA.out.2]; exact HX.out
                · have hj2 : j = N3 := by omega
                  have hBP : Hid (BranchP n (orderN m)) := ⟨HN.out.2.1.symm, by rw [← HN.out.1, ← HN.out.2.2.1]; exact HG.out.2.1, by rw [← HN.out.2.2.1, ← HN.out.2.2.2.2.2.2]; exact HG.out.2.2, fun ⟨q, hq, e⟩ => hall q (by have := HN.out.2.2.1; omega) e⟩
                  have hfin : Hid (B ≤ (m : Int) → r = true) := fun hb => HBo.out hBP.out hb
                  have y1 := HJ.out.2.2.cell 1
                  have y2 := HJ.out.2.2.cell 2
                  simp at y1 y2
                  subst hj2
                  clear hall
                  go_wp2_with fail
                  refine (HY.out _ HJ.out.2.1).mono ?_
                  rintro e w4 ⟨rfl, hb4⟩
                  have H4 := Lib.hid (below_step HJ.out.1 hb4)
                  clear hb4
                  by_cases hBm : B ≤ (m : Int)
                  · have hrt : r = true := hfin.out hBm
                    subst hrt
                    go_wp2_with fail
                    go_ret
                    exact ⟨rfl, H4.out⟩
                  · have hrf : r = false := hbad.out (by omega)
                    subst hrf
                    go_wp2_with fail
                    go_ret
                    exact ⟨rfl, H4.out⟩
            · have hrf : r = false := by
                rw [Bool.eq_false_iff]; intro e; exact g4 (by have := (HBr.out e).2.2.1; rw [← HN.out.2.2.1, ← HN.out.2.2.2.2.2.2] at this; exact this)
              have g3b : ((N3 : Int) != (k : Int) + 1) = false := by simp; omega
              have g4b : decide ((od : Int) < (N3 : Int)) = true := decide_eq_true (by omega)
              have g3c : (k : Int) + 1 = (N3 : Int) := by omega
              subst hrf g2
              clear g3 g3b
              go_wp2_with fail
              go_ret
              exact ⟨rfl, HI.out.1⟩
          · have hrf : r = false := by
              rw [Bool.eq_false_iff]; intro e; exact g3 (by have := (HBr.out e).2.1; rw [← HN.out.1, ← HN.out.2.2.1] at this; exact this)
            have g3b : ((N3 : Int) != (k : Int) + 1) = true := by rw [bne_iff_ne]; omega
            subst hrf g2
            go_wp2_with fail
            go_ret
            exact ⟨rfl, HI.out.1⟩
        · have hrf : r = false := by
            rw [Bool.eq_false_iff]; intro e; exact g2 (by have := (HBr.out e).1; rw [← HN.out.2.1] at this; exact this)
          have g2b : ((N2 : Int) != 0) = true := by rw [bne_iff_ne]; omega
          subst hrf
          go_wp2_with fail
          go_ret
          exact ⟨rfl, HI.out.1⟩
end Go.Proofs.Ytpggicaphejjfaa
