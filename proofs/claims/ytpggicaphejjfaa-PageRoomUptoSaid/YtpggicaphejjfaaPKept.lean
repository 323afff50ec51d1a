/-
  The laws' kept.
-/
import Derived.Test.YtpggicaphejjfaaPOwn3
import Derived.Test.YtpggicaphejjfaaPSame2
set_option linter.unusedVariables false
namespace Go.Proofs.Ytpggicaphejjfaa
open Go.RowKit

theorem OwnR.below {W W' : World} {n : Nd} {B1 B2 B3 : Option Addr} {d1 d2 d3 : Nat} (h : OwnR W n B1 B2 B3 d1 d2 d3) (hb : Below W.heap.size W W') : OwnR W' n B1 B2 B3 d1 d2 d3 :=
  ⟨own_only h.1 (Only.of_below (F := fun _ => False) hb) (fun _ _ f => f), own_only h.2.1 (Only.of_below (F := fun _ => False) hb) (fun _ _ f => f), own_only h.2.2 (Only.of_below (F := fun _ => False) hb) (fun _ _ f => f)⟩
theorem own_reads {W : World} {e : TypeId} {A : Option Addr} {d n : Nat} {xs : List Value} {y : Value} (h : W.ownsRow 0 e 1 (.slice A (n + 1) d) (n + 1) (xs ++ [y])) (hl : xs.length = n) :
    ∃ g, A = some ⟨g, 0, none⟩ ∧ g < W.heap.size ∧ n + 1 ≤ d ∧ d ≤ maxLen ∧ W.cell? ⟨g, n, none⟩ = some y ∧ ∀ j, j < n → W.cell? ⟨g, j, none⟩ = xs[j]? := by
  have hc := own_cap h
  obtain ⟨g, cap, hv, _, hm⟩ := World.ownsRow.form h (by omega)
  injection hv with e1 e2 e3
  subst e1 e3
  refine ⟨g, rfl, (h.lt g rfl).2, hc, ?_, ?_, fun j hj => ?_⟩
  · rcases h.2 with ⟨e1, _⟩ | ⟨g', cap', cur, e1, _, _, _, h4, _⟩
    · cases e1
    · injection e1 with _ _ e3; omega
  · have := World.ownsRow.cellAt h n (by omega)
    rw [this, List.getElem?_append_right (by omega), hl, Nat.sub_self]
    rfl
  · have := World.ownsRow.cellAt h j (by omega)
    rw [this, List.getElem?_append_left (by omega)]
theorem ownR_nd {W w : World} {n : Nd} {A1 A2 A3 B1 B2 B3 : Option Addr} {d1 d2 d3 : Nat} (h : OwnR W n B1 B2 B3 d1 d2 d3) (hn : NdR w n A1 A2 A3) : NdR W n B1 B2 B3 := by
  obtain ⟨g1, rfl, l1, _, _, _, r1⟩ := own_reads h.1 (length_strs _)
  obtain ⟨g2, rfl, l2, _, _, _, r2⟩ := own_reads h.2.1 (length_strs _)
  obtain ⟨g3, rfl, l3, _, _, _, r3⟩ := own_reads h.2.2 (length_kidsV _)
  exact
    { k := fun _ => ⟨g1, 0, rfl, l1, fun i hi => by rw [Nat.zero_add, r1 i hi]; exact strs_get hi⟩
      v := fun _ => ⟨g2, 0, rfl, l2, fun i hi => by rw [Nat.zero_add, r2 i hi]; exact strs_get hi⟩
      i := fun _ => ⟨g3, 0, rfl, l3, fun i hi => by rw [Nat.zero_add, r3 i hi]; exact kidsV_get hi⟩
      l1 := hn.l1, l2 := hn.l2, l3 := hn.l3
      a1 := fun _ p hp => by cases hp; exact l1
      a2 := fun _ p hp => by cases hp; exact l2
      b := hn.b, z := hn.z, u := hn.u }

set_option maxRecDepth 100000 in
set_option maxHeartbeats 4000000 in
theorem kept_any (n : Nd) (A1 A2 A3 B1 B2 B3 : Option Addr) (c1 c2 c3 d1 d2 d3 : Nat) (w : World) (ho : OwnR w n B1 B2 B3 d1 d2 d3) (hn : NdR w n A1 A2 A3) :
    Calls Try.prog 21 #[.agg (ndC n B1 B2 B3 d1 d2 d3), .agg (ndC n A1 A2 A3 c1 c2 c3)] w fun e w' => e = .returned (.bool true) ∧ Below w.heap.size w w' := by
  obtain ⟨w2, hw2⟩ : ∃ w2, w2 = (w.alloc (.cells (ndC n B1 B2 B3 d1 d2 d3) 26)).alloc (.cells (ndC n A1 A2 A3 c1 c2 c3) 25) := ⟨_, rfl⟩
  obtain ⟨bx, hbx⟩ : ∃ bx, bx = w.heap.size := ⟨_, rfl⟩
  obtain ⟨ay, hay⟩ : ∃ ay, ay = w.heap.size + 1 := ⟨_, rfl⟩
  have hsz : (w.alloc (.cells (ndC n B1 B2 B3 d1 d2 d3) 26)).heap.size = w.heap.size + 1 := by simp
  have hB2 : Below w.heap.size w w2 := by rw [hw2]; exact ((Below.refl _ w).alloc (Nat.le_refl _) _).alloc (by simp) _
  have hk1 : Blk w2 bx 26 (ndC n B1 B2 B3 d1 d2 d3) := by rw [hw2, hbx]; exact (Blk.new w 26 _).alloc _
  have hk2 : Blk w2 ay 25 (ndC n A1 A2 A3 c1 c2 c3) := by rw [hw2, hay, ← hsz]; exact Blk.new _ 25 _
  have ho2 := ho.below hB2
  have hn2 := hn.below hB2
  have hb2 := ownR_nd ho2 hn2
  have hl1 := hn.l1
  have hl2 := hn.l2
  have hl3 := hn.l3
  obtain ⟨g1, rfl, l1, q1, m1, r1, _⟩ := own_reads ho2.1 (length_strs _)
  obtain ⟨g2, rfl, l2, q2, m2, r2, _⟩ := own_reads ho2.2.1 (length_strs _)
  obtain ⟨g3, rfl, l3, q3, m3, r3, _⟩ := own_reads ho2.2.2 (length_kidsV _)
  have HC : Hid (∀ u, Below w2.heap.size w2 u → Calls Try.prog 25 #[.agg (ndC n (some ⟨g1, 0, none⟩) (some ⟨g2, 0, none⟩) (some ⟨g3, 0, none⟩) d1 d2 d3), .agg (ndC n A1 A2 A3 c1 c2 c3)] u fun e w' => e = .returned (.bool true) ∧ Below u.heap.size u w') := fun u hu =>
    same_any n n _ _ _ A1 A2 A3 d1 d2 d3 c1 c2 c3 true u (hb2.below hu) (hn2.below hu) (by simp)
  unfold ndC at *
  obtain ⟨N1, hN1⟩ : ∃ N, N = n.keys.length := ⟨_, rfl⟩
  obtain ⟨N2, hN2⟩ : ∃ N, N = n.vals.length := ⟨_, rfl⟩
  obtain ⟨N3, hN3⟩ : ∃ N, N = n.kids.length := ⟨_, rfl⟩
  obtain ⟨lf, hlf⟩ : ∃ b, b = n.leaf := ⟨_, rfl⟩
  rw [← hN1] at q1 r1 hl1
  rw [← hN2] at q2 r2 hl2
  rw [← hN3] at q3 r3 hl3
  rw [← hN1, ← hN2, ← hN3, ← hlf] at hw2 hk1 hk2 HC ⊢
  have HW := Lib.hid (And.intro hw2 (And.intro hbx hay))
  have HB := Lib.hid hB2
  have HX : Hid (∀ u, Below w2.heap.size w2 u → u.cell? ⟨bx, 0, none⟩ = some (.bool lf) ∧ u.cell? ⟨bx, 1, none⟩ = some (.slice (some ⟨g1, 0, none⟩) N1 d1) ∧ u.cell? ⟨bx, 2, none⟩ = some (.slice (some ⟨g2, 0, none⟩) N2 d2) ∧ u.cell? ⟨bx, 3, none⟩ = some (.slice (some ⟨g3, 0, none⟩) N3 d3) ∧
      u.cell? ⟨ay, 0, none⟩ = some (.bool lf) ∧ u.cell? ⟨ay, 1, none⟩ = some (.slice A1 N1 c1) ∧ u.cell? ⟨ay, 2, none⟩ = some (.slice A2 N2 c2) ∧ u.cell? ⟨ay, 3, none⟩ = some (.slice A3 N3 c3) ∧
      u.cell? ⟨g1, N1, none⟩ = some (.string ⟨#[35]⟩) ∧ u.cell? ⟨g2, N2, none⟩ = some (.string ⟨#[35]⟩) ∧ u.cell? ⟨g3, N3, none⟩ = some (.int .u32 77)) := fun u hu => by
    have k1 := hk1.below hu hk1.lt
    have k2 := hk2.below hu hk2.lt
    exact ⟨k1.cell 0, k1.cell 1, k1.cell 2, k1.cell 3, k2.cell 0, k2.cell 1, k2.cell 2, k2.cell 3, (hu.cell (p := ⟨g1, N1, none⟩) l1).trans r1, (hu.cell (p := ⟨g2, N2, none⟩) l2).trans r2, (hu.cell (p := ⟨g3, N3, none⟩) l3).trans r3⟩
  clear hw2 hbx hay hsz hB2 hk1 hk2 ho2 hn2 hb2 ho hn r1 r2 r3 l1 l2 l3 hN1 hN2 hN3 hlf
  obtain ⟨P1, hP1⟩ : ∃ P, P = N1 + 1 := ⟨_, rfl⟩
  obtain ⟨P2, hP2⟩ : ∃ P, P = N2 + 1 := ⟨_, rfl⟩
  obtain ⟨P3, hP3⟩ : ∃ P, P = N3 + 1 := ⟨_, rfl⟩
  rw [← hP1] at q1
  rw [← hP2] at q2
  rw [← hP3] at q3
  unfold maxLen at m1 m2 m3
  have e1 : (N1 : Int) + 1 = (P1 : Int) := by omega
  have e2 : (N2 : Int) + 1 = (P2 : Int) := by omega
  have e3 : (N3 : Int) + 1 = (P3 : Int) := by omega
  have e1w : IntKind.i64.wrap ((N1 : Int) + 1) = (P1 : Int) := by rw [e1]; exact IntWalk.i64_in _ (by omega)
  have e2w : IntKind.i64.wrap ((N2 : Int) + 1) = (P2 : Int) := by rw [e2]; exact IntWalk.i64_in _ (by omega)
  have e3w : IntKind.i64.wrap ((N3 : Int) + 1) = (P3 : Int) := by rw [e3]; exact IntWalk.i64_in _ (by omega)
  have p1w : IntKind.i64.wrap (P1 : Int) = (P1 : Int) := IntWalk.i64_in _ (by omega)
  have p2w : IntKind.i64.wrap (P2 : Int) = (P2 : Int) := IntWalk.i64_in _ (by omega)
  have p3w : IntKind.i64.wrap (P3 : Int) = (P3 : Int) := IntWalk.i64_in _ (by omega)
  have n1w : IntKind.i64.wrap (N1 : Int) = (N1 : Int) := IntWalk.i64_in _ (by omega)
  have n2w : IntKind.i64.wrap (N2 : Int) = (N2 : Int) := IntWalk.i64_in _ (by omega)
  have n3w : IntKind.i64.wrap (N3 : Int) = (N3 : Int) := IntWalk.i64_in _ (by omega)
  have i1 : (0 : Int) ≤ (P1 : Int) := by omega
  have i2 : (0 : Int) ≤ (P2 : Int) := by omega
  have i3 : (0 : Int) ≤ (P3 : Int) := by omega
  have j1 : (P1 : Int) ≤ (d1 : Int) := by omega
  have j2 : (P2 : Int) ≤ (d2 : Int) := by omega
  have j3 : (P3 : Int) ≤ (d3 : Int) := by omega
  have k1 : (0 : Int) ≤ (N1 : Int) := by omega
  have k2 : (0 : Int) ≤ (N2 : Int) := by omega
  have k3 : (0 : Int) ≤ (N3 : Int) := by omega
  have t1 : (N1 : Int) < (P1 : Int) := by omega
  have t2 : (N2 : Int) < (P2 : Int) := by omega
  have t3 : (N3 : Int) < (P3 : Int) := by omega
  clear hP1 hP2 hP3 hl1 hl2 hl3 m1 m2 m3
  go_enter Try.func21, Try.ntmps21
  go_upto_region 1 with fail
  rw [← HW.out.1, ← HW.out.2.2, ← HW.out.2.1]
  have x0 := HX.out w2 (Below.refl _ _)
  go_region_held3 (fun u => u.cell? ⟨bx, 0, none⟩ = some (.bool lf) ∧ u.cell? ⟨bx, 1, none⟩ = some (.slice (some ⟨g1, 0, none⟩) N1 d1) ∧ u.cell? ⟨bx, 2, none⟩ = some (.slice (some ⟨g2, 0, none⟩) N2 d2) ∧ u.cell? ⟨bx, 3, none⟩ = some (.slice (some ⟨g3, 0, none⟩) N3 d3) ∧
      u.cell? ⟨ay, 0, none⟩ = some (.bool lf) ∧ u.cell? ⟨ay, 1, none⟩ = some (.slice A1 N1 c1) ∧ u.cell? ⟨ay, 2, none⟩ = some (.slice A2 N2 c2) ∧ u.cell? ⟨ay, 3, none⟩ = some (.slice A3 N3 c3) ∧
      u.cell? ⟨g1, N1, none⟩ = some (.string ⟨#[35]⟩) ∧ u.cell? ⟨g2, N2, none⟩ = some (.string ⟨#[35]⟩) ∧ u.cell? ⟨g3, N3, none⟩ = some (.int .u32 77)) (first | exact x0 | exact HX.out _ K1.out)
    (first | (go_at_call 25; refine (HC.out _ (by repeat (first | exact Below.refl _ _ | refine Below.drew ?_ | refine below_drewN ?_ _))).mono ?_; rintro e y1 ⟨rfl, hb⟩; have K1 : Hid (Below w2.heap.size w2 y1) := (below_step (by repeat (first | exact Below.refl _ _ | refine Below.drew ?_ | refine below_drewN ?_ _)) hb); clear hb))
  all_goals
    go_wp2_with fail
    go_ret
    exact ⟨by simp, below_step HB.out (by repeat (first | exact K1.out | refine Below.drew ?_ | refine below_drewN ?_ _))⟩
end Go.Proofs.Ytpggicaphejjfaa
