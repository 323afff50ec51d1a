/-
  May a node stand in a block: the program's Check.
-/
import Derived.Test.YtpggicaphejjfaaPLeaf2
set_option linter.unusedVariables false
namespace Go.Proofs.Ytpggicaphejjfaa
open Go.RowKit

/-- a node reads, and is not too long to count -/
structure NdR (w : World) (n : Nd) (A1 A2 A3 : Option Addr) : Prop where
  k : StrR w A1 n.keys
  v : StrR w A2 n.vals
  i : KidR w A3 n.kids
  l1 : n.keys.length ≤ 140737488355328
  l2 : n.vals.length ≤ 140737488355328
  l3 : n.kids.length ≤ 140737488355328
  a1 : 0 < n.keys.length → ∀ p, A1 = some p → p.block < w.heap.size
  a2 : 0 < n.vals.length → ∀ p, A2 = some p → p.block < w.heap.size
  b : Szd n.vals
  z : Szd n.keys
  u : ∀ i, n.kids.getD i 0 < 4294967296
theorem NdR.below {w w' : World} {n : Nd} {A1 A2 A3 : Option Addr} (h : NdR w n A1 A2 A3) (hb : Below w.heap.size w w') : NdR w' n A1 A2 A3 :=
  ⟨h.k.below hb, h.v.below hb, h.i.below hb, h.l1, h.l2, h.l3, fun hl p hp => Nat.lt_of_lt_of_le (h.a1 hl p hp) hb.size, fun hl p hp => Nat.lt_of_lt_of_le (h.a2 hl p hp) hb.size, h.b, h.z, h.u⟩
/-- a node that is no leaf may be -/
def BranchP (n : Nd) (order : Nat) : Prop := n.vals.length = 0 ∧ n.kids.length = n.keys.length + 1 ∧ n.kids.length ≤ order ∧ ¬ ∃ j, j < n.kids.length ∧ n.kids.getD j 0 = 0
/-- it may stand in a block of so many bytes -/
def CheckN (n : Nd) (m : Nat) : Prop := (KeysP n.keys ∧ bytesN n ≤ m) ∧ (n.leaf = true → LeafP n (mostN m)) ∧ (n.leaf = false → BranchP n (orderN m))
theorem szs_bound (l : List ByteArray) (b M : Nat) : ∀ {k : Nat}, (∀ i, i < k → (l.getD i ⟨#[]⟩).size ≤ M) → szs l b k ≤ (M + b) * k
  | 0, _ => Nat.le_refl _
  | k + 1, h => by
    have h1 := szs_bound l b M (k := k) (fun i hi => h i (by omega))
    have h2 := h k (by omega)
    show szs l b k + ((l.getD k ⟨#[]⟩).size + b) ≤ _
    rw [Nat.mul_succ]
    omega
/-- the same, with the number of bytes as the machine counts it -/
def CheckW (n : Nd) (m : Nat) : Prop := (KeysP n.keys ∧ wrap64 (bytesN n : Nat) ≤ (m : Int)) ∧ (n.leaf = true → LeafP n (mostN m)) ∧ (n.leaf = false → BranchP n (orderN m))
theorem bytes_small {n : Nd} {m : Nat} (h1 : n.keys.length ≤ 140737488355328) (h3 : n.kids.length ≤ 140737488355328) (hk : KeysP n.keys) (hl : n.leaf = true → LeafP n (mostN m)) : bytesN n ≤ 9223372036854775807 := by
  have q1 := szs_bound n.keys 3 64 (k := n.keys.length) (fun i hi => (hk i hi).2.1)
  have q2 := szs_bound n.keys 1 64 (k := n.keys.length) (fun i hi => (hk i hi).2.1)
  unfold bytesN
  split
  · next e =>
    have hl := hl e
    have q3 := szs_bound n.vals 0 4095 (k := n.vals.length) (fun i hi => (hl.2.2 i hi).1)
    have := hl.1
    omega
  · omega
theorem checkW_iff {n : Nd} {m : Nat} (h1 : n.keys.length ≤ 140737488355328) (h3 : n.kids.length ≤ 140737488355328) : CheckN n m ↔ CheckW n m := by
  constructor
  · intro h
    have hb := bytes_small h1 h3 h.1.1 h.2.1
    refine ⟨⟨h.1.1, ?_⟩, h.2⟩
    rw [wrap_ofNat hb]
    have := h.1.2
    omega
  · intro h
    have hb := bytes_small h1 h3 h.1.1 h.2.1
    refine ⟨⟨h.1.1, ?_⟩, h.2⟩
    have := h.1.2
    rw [wrap_ofNat hb] at this
    omega
theorem boolOf (p : Prop) : ∃ b : Bool, b = true ↔ p := by
  by_cases h : p
  · exact ⟨true, by simp [h]⟩
  · exact ⟨false, by simp [h]⟩
theorem below_step {a b c : World} (h : Below a.heap.size a b) (k : Below b.heap.size b c) : Below a.heap.size a c := h.trans (k.mono h.size)

set_option maxRecDepth 100000 in
set_option maxHeartbeats 4000000 in
theorem check_yes (n : Nd) (A1 A2 A3 : Option Addr) (c1 c2 c3 m : Nat) (r : Bool) (w : World) (h : NdR w n A1 A2 A3) (m1 : 512 ≤ m) (m2 : m ≤ 4096) (m3 : m % 512 = 0) (hr : r = true ↔ CheckN n m) :
    Calls Try.prog 15 #[.agg (ndC n A1 A2 A3 c1 c2 c3), .int .i64 m] w fun e w' => e = .returned (.int .i64 (if r = true then 0 else 1)) ∧ Below w.heap.size w w' := by
  obtain ⟨b1, hb1⟩ := boolOf (KeysP n.keys)
  obtain ⟨b3, hb3⟩ := boolOf (LeafP n (mostN m))
  obtain ⟨b4, hb4⟩ := boolOf (∃ j, j < n.kids.length ∧ n.kids.getD j 0 = 0)
  have hbx := Blk.new w 26 (ndC n A1 A2 A3 c1 c2 c3)
  have hB1 : Below w.heap.size w (w.alloc (.cells (ndC n A1 A2 A3 c1 c2 c3) 26)) := (Below.refl _ w).alloc (Nat.le_refl _) _
  have hq : mostN m ≤ 4096 := by unfold mostN; omega
  have ho4 : orderN m ≤ 4096 := by unfold orderN; omega
  obtain ⟨w1, hw1⟩ : ∃ w1, w1 = w.alloc (.cells (ndC n A1 A2 A3 c1 c2 c3) 26) := ⟨_, rfl⟩
  obtain ⟨bx, hbxe⟩ : ∃ bx, bx = w.heap.size := ⟨_, rfl⟩
  rw [← hw1] at hB1
  rw [← hw1, ← hbxe] at hbx
  have h' := h.below hB1
  have hmost := most_yes m w1 m1 m2 m3
  have horder := order_yes m w1 m1 m2 m3
  have hkeys := keys_any A1 c1 n.keys b1 w1 (by have := h.l1; omega) h'.k hb1
  have hbytes := bytes_any n A1 A2 A3 c1 c2 c3 w1 h'.k h'.v h'.l1 h'.l2 h'.l3 h'.a1 h'.a2 ⟨h'.z, h'.b⟩
  have hleaf := fun (u : World) (hu : Below w1.heap.size w1 u) => leaf_any n A1 A2 A3 c1 c2 c3 (mostN m) b3 u (h'.k.below hu) (h'.v.below hu) h'.l1 h'.l2 h'.l3 h'.z hq hb3
  have hcont := fun (u : World) (hu : Below w1.heap.size w1 u) => contains0_any A3 c3 n.kids b4 u h'.l3 (h'.i.below hu) hb4
  have hl1 := h.l1
  have hl2 := h.l2
  have hl3 := h.l3
  have HR : Hid ((r = true ↔ CheckW n m) ∧ (b1 = true ↔ KeysP n.keys) ∧ (b3 = true ↔ LeafP n (mostN m)) ∧ (b4 = true ↔ ∃ j, j < n.kids.length ∧ n.kids.getD j 0 = 0)) := ⟨hr.trans (checkW_iff h.l1 h.l3), hb1, hb3, hb4⟩
  clear hr hb1 hb3 hb4 h h' m3
  unfold ndC at *
  obtain ⟨N1, hN1⟩ : ∃ N, N = n.keys.length := ⟨_, rfl⟩
  obtain ⟨N2, hN2⟩ : ∃ N, N = n.vals.length := ⟨_, rfl⟩
  obtain ⟨N3, hN3⟩ : ∃ N, N = n.kids.length := ⟨_, rfl⟩
  obtain ⟨lf, hlf⟩ : ∃ b, b = n.leaf := ⟨_, rfl⟩
  obtain ⟨B, hB⟩ : ∃ B, B = wrap64 (bytesN n : Nat) := ⟨_, rfl⟩
  obtain ⟨mo, hmo⟩ : ∃ q, q = mostN m := ⟨_, rfl⟩
  obtain ⟨od, hod⟩ : ∃ q, q = orderN m := ⟨_, rfl⟩
  rw [← hN1] at hkeys hl1
  rw [← hN2] at hl2
  rw [← hN3] at hcont hl3
  rw [← hmo] at hmost hq
  rw [← hod] at horder ho4
  rw [← hN1, ← hN2, ← hN3, ← hlf] at hbx hw1 ⊢
  rw [← hN1, ← hN2, ← hN3, ← hlf, ← hB] at hbytes
  rw [← hN1, ← hN2, ← hN3, ← hlf, ← hmo] at hleaf
  have HN := Lib.hid (And.intro hN1 (And.intro hN2 (And.intro hN3 (And.intro hlf (And.intro hB (And.intro hmo hod))))))
  have HW := Lib.hid (And.intro hw1 hbxe)
  have HM := Lib.hid hmost
  have HO := Lib.hid horder
  have HK := Lib.hid hkeys
  have HY := Lib.hid hbytes
  have HL := Lib.hid hleaf
  have HC := Lib.hid hcont
  have HX : Hid (∀ u, Below w1.heap.size w1 u → u.cell? ⟨bx, 0, none⟩ = some (.bool lf) ∧ u.cell? ⟨bx, 1, none⟩ = some (.slice A1 N1 c1) ∧ u.cell? ⟨bx, 2, none⟩ = some (.slice A2 N2 c2) ∧ u.cell? ⟨bx, 3, none⟩ = some (.slice A3 N3 c3)) := fun u hu => by
    have hk := hbx.below hu hbx.lt
    exact ⟨hk.cell 0, hk.cell 1, hk.cell 2, hk.cell 3⟩
  have HB := Lib.hid hB1
  clear hmost horder hkeys hbytes hleaf hcont hbx hw1 hbxe hB1 hN1 hN2 hN3 hlf hB hmo hod
  obtain ⟨x0, x1, x2, x3⟩ := HX.out w1 (Below.refl _ _)
  go_enter Try.func15, Try.ntmps15
  go_upto_region 1 with fail
  rw [← HW.out.1, ← HW.out.2]
  go_wp2_with fail
  refine HM.out.mono ?_
  rintro e w2 ⟨rfl, rfl⟩
  go_wp2_with fail
  refine HO.out.mono ?_
  rintro e w2 ⟨rfl, rfl⟩
  go_upto_region 5 with fail
  go_cut [9] (fun v9 wx => v9 = .bool (b1 && decide (B ≤ m)) ∧ Below w1.heap.size w1 wx)
  case first =>
    go_wp2_with fail
    refine HK.out.mono ?_
    rintro e w2 ⟨rfl, rfl⟩
    cases b1 with
    | false =>
      go_wp2_with fail
      go_meet
      exact ⟨rfl, Below.refl _ _⟩
    | true =>
      go_wp2_with fail
      refine HY.out.mono ?_
      rintro e w2 ⟨rfl, hb⟩
      have H2 := Lib.hid hb
      clear hb
      go_wp2_with fail
      go_meet
      exact ⟨by simp, H2.out⟩
  case rest =>
    obtain ⟨rfl, hb⟩ := hcut
    obtain ⟨x0, x1, x2, x3⟩ := HX.out wc hb
    have H2 := Lib.hid hb
    obtain ⟨g, hg⟩ : ∃ g, g = (b1 && decide (B ≤ m)) := ⟨_, rfl⟩
    have HG : Hid (g = true ↔ (KeysP n.keys ∧ wrap64 (bytesN n : Nat) ≤ (m : Int))) := by
      show g = true ↔ _
      rw [hg, Bool.and_eq_true, decide_eq_true_eq, HR.out.2.1, HN.out.2.2.2.2.1]
    rw [← hg]
    clear hg hb
    have HL1 := Lib.hid hl1
    clear hl1 hl2 hl3
    cases lf with
    | true =>
      cases g with
      | false =>
        have hrf : r = false := by
          rw [Bool.eq_false_iff]; intro e; have := HG.out.2 (HR.out.1.1 e).1; cases this
        subst hrf
        go_wp2_with fail
        go_ret
        exact ⟨rfl, below_step HB.out H2.out⟩
      | true =>
        go_wp2_with fail
        refine (HL.out wc H2.out).mono ?_
        rintro e w3 ⟨rfl, hb⟩
        have H3 := Lib.hid (below_step H2.out hb)
        have hrb : r = b3 := by
          have hl := HN.out.2.2.2.1
          have e1 : r = true ↔ b3 = true := by
            rw [HR.out.1, HR.out.2.2.1]
            exact ⟨fun h => h.2.1 hl.symm, fun h => ⟨HG.out.1 (by simp), fun _ => h, fun h2 => by rw [← hl] at h2; cases h2⟩⟩
          cases r <;> cases b3 <;> simp_all
        subst hrb
        clear hb x0 x1 x2 x3
        cases r with
        | true =>
          go_wp2_with fail
          go_ret
          exact ⟨rfl, below_step HB.out H3.out⟩
        | false =>
          go_wp2_with fail
          go_ret
          exact ⟨rfl, below_step HB.out H3.out⟩
    | false =>
      have hl := HN.out.2.2.2.1
      have HF : Hid (r = true ↔ (g = true ∧ N2 = 0 ∧ N3 = N1 + 1 ∧ N3 ≤ od ∧ b4 = false)) := by
        show r = true ↔ _
        rw [HR.out.1]
        obtain ⟨q1, q2, q3, q4, q5, q6, q7⟩ := HN.out
        have hb4 : b4 = false ↔ ¬ ∃ j, j < n.kids.length ∧ n.kids.getD j 0 = 0 := by rw [← HR.out.2.2.2]; cases b4 <;> simp
        rw [q1, q2, q3, q7, hb4, HG.out]
        exact ⟨fun h => ⟨h.1, h.2.2 hl.symm⟩, fun h => ⟨h.1, (fun h2 => by rw [← hl] at h2; cases h2), fun _ => h.2⟩⟩
      clear hl
      cases g with
      | false =>
        have hrf : r = false := by
          rw [Bool.eq_false_iff]; intro e; have := (HF.out.1 e).1; cases this
        subst hrf
        go_wp2_with fail
        go_ret
        exact ⟨rfl, below_step HB.out H2.out⟩
      | true =>
        have hl1 := HL1.out
        by_cases g2 : N2 = 0
        · subst g2
          by_cases g3 : N3 = N1 + 1
          · subst g3
            by_cases g4 : N1 + 1 ≤ od
            · have g4i : ((N1 + 1 : Nat) : Int) ≤ (od : Int) := by omega
              have g3i : ((N1 + 1 : Nat) : Int) = (N1 : Int) + 1 := by omega
              go_wp2_with fail
              refine (HC.out wc H2.out).mono ?_
              rintro e w3 ⟨rfl, rfl⟩
              cases b4 with
              | false =>
                have hrt : r = true := HF.out.2 (by simpa using g4)
                subst hrt
                go_wp2_with fail
                go_ret
                exact ⟨rfl, below_step HB.out H2.out⟩
              | true =>
                have hrf : r = false := by
                  rw [Bool.eq_false_iff]; intro e; have := (HF.out.1 e).2.2.2.2; cases this
                subst hrf
                go_wp2_with fail
                go_ret
                exact ⟨rfl, below_step HB.out H2.out⟩
            · have hrf : r = false := by
                rw [Bool.eq_false_iff]; intro e; exact g4 (HF.out.1 e).2.2.2.1
              subst hrf
              have g4b : decide (((N1 : Int) + 1) ≤ (od : Int)) = false := decide_eq_false (by omega)
              clear g4
              go_wp2_with fail
              go_ret
              exact ⟨rfl, below_step HB.out H2.out⟩
          · have hrf : r = false := by
              rw [Bool.eq_false_iff]; intro e; exact g3 (HF.out.1 e).2.2.1
            subst hrf
            have g3b : ((N3 : Int) == (N1 : Int) + 1) = false := by rw [beq_eq_false_iff_ne]; omega
            have g3c : ¬ ((N3 : Int) = (N1 : Int) + 1) := by omega
            have g3d : decide ((N3 : Int) = (N1 : Int) + 1) = false := decide_eq_false g3c
            go_wp2_with fail
            go_ret
            exact ⟨rfl, below_step HB.out H2.out⟩
        · have hrf : r = false := by
            rw [Bool.eq_false_iff]; intro e; exact g2 (HF.out.1 e).2.1
          subst hrf
          have g2b : ((N2 : Int) == 0) = false := by rw [beq_eq_false_iff_ne]; omega
          go_wp2_with fail
          go_ret
          exact ⟨rfl, below_step HB.out H2.out⟩
end Go.Proofs.Ytpggicaphejjfaa
