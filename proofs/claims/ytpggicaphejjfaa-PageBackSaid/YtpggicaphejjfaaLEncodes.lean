/-
  The law PageEncodes: its walk.
-/
import Derived.Test.YtpggicaphejjfaaPKept
import Derived.Test.YtpggicaphejjfaaPREncode
set_option linter.unusedVariables false
namespace Go.Proofs.Ytpggicaphejjfaa
open Go.RowKit

/-! both sides by one plain answer -/
theorem enc_both (n : Nd) (m : Int) : ∃ (s : ByteArray) (v : Int),
    (∀ (A1 A2 A3 : Option Addr) (c1 c2 c3 : Nat) (w : World), NdR w n A1 A2 A3 → Calls Try.prog 9 #[.agg (ndC n A1 A2 A3 c1 c2 c3), .int .i64 m] w fun e w' => e = .returned (.tuple #[.string s, .int .i64 v]) ∧ Below w.heap.size w w') ∧
    (∀ (A1 A2 A3 : Option Addr) (c1 c2 c3 : Nat) (w : World), NdR w n A1 A2 A3 → Calls Try.prog 10 #[.agg (ndC n A1 A2 A3 c1 c2 c3), .int .i64 m] w fun e w' => e = .returned (.tuple #[.string s, .int .i64 v]) ∧ Below w.heap.size w w') := by
  by_cases h : EncP n m
  · exact ⟨encS n m.toNat, 0, fun A1 A2 A3 c1 c2 c3 w hn => encode_yes n A1 A2 A3 c1 c2 c3 m w hn h, fun A1 A2 A3 c1 c2 c3 w hn => rencode_yes n A1 A2 A3 c1 c2 c3 m w hn h⟩
  · exact ⟨⟨#[]⟩, 1, fun A1 A2 A3 c1 c2 c3 w hn => encode_no n A1 A2 A3 c1 c2 c3 m w hn h, fun A1 A2 A3 c1 c2 c3 w hn => rencode_no n A1 A2 A3 c1 c2 c3 m w hn h⟩
theorem check_both (n : Nd) (m : Int) : ∃ v : Int,
    (∀ (A1 A2 A3 : Option Addr) (c1 c2 c3 : Nat) (w : World), NdR w n A1 A2 A3 → Calls Try.prog 15 #[.agg (ndC n A1 A2 A3 c1 c2 c3), .int .i64 m] w fun e w' => e = .returned (.int .i64 v) ∧ Below w.heap.size w w') ∧
    (∀ (A1 A2 A3 : Option Addr) (c1 c2 c3 : Nat) (w : World), NdR w n A1 A2 A3 → Calls Try.prog 16 #[.agg (ndC n A1 A2 A3 c1 c2 c3), .int .i64 m] w fun e w' => e = .returned (.int .i64 v) ∧ Below w.heap.size w w') := by
  by_cases hs : SizeP m
  · obtain ⟨k, rfl, h1, h2, h3⟩ := hs.nat
    obtain ⟨r, hr⟩ := boolOf (CheckN n k)
    exact ⟨if r = true then 0 else 1, fun A1 A2 A3 c1 c2 c3 w hn => check_yes n A1 A2 A3 c1 c2 c3 k r w hn h1 h2 h3 hr, fun A1 A2 A3 c1 c2 c3 w hn => rcheck_yes n A1 A2 A3 c1 c2 c3 k r w hn h1 h2 h3 hr⟩
  · exact ⟨1, fun A1 A2 A3 c1 c2 c3 w hn => check_no n A1 A2 A3 c1 c2 c3 m w hs, fun A1 A2 A3 c1 c2 c3 w hn => rcheck_no n A1 A2 A3 c1 c2 c3 m w hs⟩
theorem most_both (m : Int) : ∃ q v : Int, (∀ w, Calls Try.prog 11 #[.int .i64 m] w fun e w' => e = .returned (.tuple #[.int .i64 q, .int .i64 v]) ∧ w = w') ∧ (∀ w, Calls Try.prog 12 #[.int .i64 m] w fun e w' => e = .returned (.tuple #[.int .i64 q, .int .i64 v]) ∧ w = w') := by
  by_cases hs : SizeP m
  · obtain ⟨k, rfl, h1, h2, h3⟩ := hs.nat
    exact ⟨mostN k, 0, fun w => most_yes k w h1 h2 h3, fun w => rmost_yes k w h1 h2 h3⟩
  · exact ⟨0, 1, fun w => most_no m w hs, fun w => rmost_no m w hs⟩
theorem order_both (m : Int) : ∃ q v : Int, (∀ w, Calls Try.prog 13 #[.int .i64 m] w fun e w' => e = .returned (.tuple #[.int .i64 q, .int .i64 v]) ∧ w = w') ∧ (∀ w, Calls Try.prog 14 #[.int .i64 m] w fun e w' => e = .returned (.tuple #[.int .i64 q, .int .i64 v]) ∧ w = w') := by
  by_cases hs : SizeP m
  · obtain ⟨k, rfl, h1, h2, h3⟩ := hs.nat
    exact ⟨orderN k, 0, fun w => order_yes k w h1 h2 h3, fun w => rorder_yes k w h1 h2 h3⟩
  · exact ⟨0, 1, fun w => order_no m w hs, fun w => rorder_no m w hs⟩
theorem size_both (m : Int) : ∃ v : Int, (∀ w, Calls Try.prog 19 #[.int .i64 m] w fun e w' => e = .returned (.int .i64 v) ∧ w = w') ∧ (∀ w, Calls Try.prog 20 #[.int .i64 m] w fun e w' => e = .returned (.int .i64 v) ∧ w = w') := by
  by_cases hs : SizeP m
  · obtain ⟨k, rfl, h1, h2, h3⟩ := hs.nat
    exact ⟨0, fun w => size_yes k w h1 h2 h3, fun w => rsize_yes k w h1 h2 h3⟩
  · exact ⟨1, fun w => size_no m w hs, fun w => rsize_no m w hs⟩
theorem bytes_both (n : Nd) : ∃ v : Int,
    (∀ (A1 A2 A3 : Option Addr) (c1 c2 c3 : Nat) (w : World), NdR w n A1 A2 A3 → Calls Try.prog 17 #[.agg (ndC n A1 A2 A3 c1 c2 c3)] w fun e w' => e = .returned (.int .i64 v) ∧ Below w.heap.size w w') ∧
    (∀ (A1 A2 A3 : Option Addr) (c1 c2 c3 : Nat) (w : World), NdR w n A1 A2 A3 → Calls Try.prog 18 #[.agg (ndC n A1 A2 A3 c1 c2 c3)] w fun e w' => e = .returned (.int .i64 v) ∧ Below w.heap.size w w') :=
  ⟨wrap64 (bytesN n : Nat), fun A1 A2 A3 c1 c2 c3 w hn => bytes_any n A1 A2 A3 c1 c2 c3 w hn.k hn.v hn.l1 hn.l2 hn.l3 hn.a1 hn.a2 ⟨hn.z, hn.b⟩, fun A1 A2 A3 c1 c2 c3 w hn => rbytes_any n A1 A2 A3 c1 c2 c3 w hn⟩

/-- a node whose copy has room -/
def RoomN (n : Nd) : Prop := (n.keys.length + 1) * 16 ≤ 140737488355328 ∧ (n.vals.length + 1) * 16 ≤ 140737488355328 ∧ (n.kids.length + 1) * 4 ≤ 140737488355328
set_option maxRecDepth 100000 in
set_option maxHeartbeats 8000000 in
theorem encodes_any (n : Nd) (A1 A2 A3 : Option Addr) (c1 c2 c3 : Nat) (m : Int) (w : World) (h : NdR w n A1 A2 A3) (hroom : RoomN n) :
    Calls Try.prog 3 #[.agg (ndC n A1 A2 A3 c1 c2 c3), .int .i64 m] w fun e w' => e = .returned (.bool true) ∧ Below w.heap.size w w' := by
  obtain ⟨s, ev, hE1, hE2⟩ := enc_both n m
  obtain ⟨ck, hC1, hC2⟩ := check_both n m
  obtain ⟨mq, mv, hM1, hM2⟩ := most_both m
  obtain ⟨oq, ov, hO1, hO2⟩ := order_both m
  obtain ⟨sv, hS1, hS2⟩ := size_both m
  obtain ⟨bv, hY1, hY2⟩ := bytes_both n
  obtain ⟨w1, hw1⟩ : ∃ w1, w1 = w.alloc (.cells (ndC n A1 A2 A3 c1 c2 c3) 25) := ⟨_, rfl⟩
  obtain ⟨bx, hbx⟩ : ∃ bx, bx = w.heap.size := ⟨_, rfl⟩
  have hB1 : Below w.heap.size w w1 := by rw [hw1]; exact (Below.refl _ w).alloc (Nat.le_refl _) _
  have hk1 : Blk w1 bx 25 (ndC n A1 A2 A3 c1 c2 c3) := by rw [hw1, hbx]; exact Blk.new w 25 _
  have h1 := h.below hB1
  have hown := own_any n A1 A2 A3 c1 c2 c3 w1 h1 hroom.1 hroom.2.1 hroom.2.2
  have hlf : ∀ B1 B2 B3 d1 d2 d3, ndC n B1 B2 B3 d1 d2 d3 = #[.bool n.leaf, .slice B1 n.keys.length d1, .slice B2 n.vals.length d2, .slice B3 n.kids.length d3] := fun _ _ _ _ _ _ => rfl
  have HL := Lib.hid hlf
  have HW := Lib.hid (And.intro hw1 hbx)
  have HB1 := Lib.hid (And.intro hB1 (And.intro hk1 h1))
  have HOWN := Lib.hid hown
  clear hw1 hbx hB1 hk1 h1 hown hlf h hroom
  have HE := Lib.hid (And.intro hE1 hE2)
  have HC := Lib.hid (And.intro hC1 hC2)
  have HM := Lib.hid (And.intro hM1 hM2)
  have HO := Lib.hid (And.intro hO1 hO2)
  have HS := Lib.hid (And.intro hS1 hS2)
  have HY := Lib.hid (And.intro hY1 hY2)
  clear hE1 hE2 hC1 hC2 hM1 hM2 hO1 hO2 hS1 hS2 hY1 hY2
  obtain ⟨N1, hN1⟩ : ∃ N, N = n.keys.length := ⟨_, rfl⟩
  obtain ⟨N2, hN2⟩ : ∃ N, N = n.vals.length := ⟨_, rfl⟩
  obtain ⟨N3, hN3⟩ : ∃ N, N = n.kids.length := ⟨_, rfl⟩
  obtain ⟨lf, hlf⟩ : ∃ b, b = n.leaf := ⟨_, rfl⟩
  rw [← hN1, ← hN2, ← hN3, ← hlf] at HL
  simp only [HL.out] at HW HB1 HOWN HE HC HY ⊢
  clear hN1 hN2 hN3 hlf
  have x0 := HB1.out.2.1.cell 0
  have x1 := HB1.out.2.1.cell 1
  have x2 := HB1.out.2.1.cell 2
  have x3 := HB1.out.2.1.cell 3
  simp at x0 x1 x2 x3
  go_enter Try.func3, Try.ntmps3
  go_upto_region 1 with fail
  rw [← HW.out.1, ← HW.out.2]
  go_wp2_with fail
  refine HOWN.out.mono ?_
  rintro e w2 ⟨B1, B2, B3, d1, d2, d3, rfl, hb, ho⟩
  have H2 := Lib.hid (And.intro hb ho)
  clear hb ho x0 x1 x2 x3
  go_upto_region 2 with fail
  have hk3 := Blk.new w2 26 #[.bool lf, .slice B1 N1 d1, .slice B2 N2 d2, .slice B3 N3 d3]
  have hb3 : Below w2.heap.size w2 (w2.alloc (.cells #[.bool lf, .slice B1 N1 d1, .slice B2 N2 d2, .slice B3 N3 d3] 26)) := (Below.refl _ w2).alloc (Nat.le_refl _) _
  obtain ⟨px, hpx⟩ : ∃ px, px = w2.heap.size := ⟨_, rfl⟩
  obtain ⟨w3, hw3⟩ : ∃ w3, w3 = w2.alloc (.cells #[.bool lf, .slice B1 N1 d1, .slice B2 N2 d2, .slice B3 N3 d3] 26) := ⟨_, rfl⟩
  rw [← hw3] at hk3 hb3 ⊢
  rw [← hpx] at hk3 ⊢
  clear hw3 hpx
  have hb4 := below_step H2.out.1 hb3
  have HD : Hid (∀ u, Below w3.heap.size w3 u → NdR u n A1 A2 A3 ∧ NdR u n B1 B2 B3 ∧ OwnR u n B1 B2 B3 d1 d2 d3 ∧
      u.cell? ⟨px, 0, none⟩ = some (.bool lf) ∧ u.cell? ⟨px, 1, none⟩ = some (.slice B1 N1 d1) ∧ u.cell? ⟨px, 2, none⟩ = some (.slice B2 N2 d2) ∧ u.cell? ⟨px, 3, none⟩ = some (.slice B3 N3 d3) ∧
      u.cell? ⟨bx, 0, none⟩ = some (.bool lf) ∧ u.cell? ⟨bx, 1, none⟩ = some (.slice A1 N1 c1) ∧ u.cell? ⟨bx, 2, none⟩ = some (.slice A2 N2 c2) ∧ u.cell? ⟨bx, 3, none⟩ = some (.slice A3 N3 c3)) := fun u hu => by
    have ho := (H2.out.2.below hb3).below hu
    have k1 := (HB1.out.2.1.below hb4 HB1.out.2.1.lt).below hu (Nat.lt_of_lt_of_le HB1.out.2.1.lt hb4.size)
    have k2 := hk3.below hu hk3.lt
    exact ⟨(HB1.out.2.2.below hb4).below hu, ownR_nd ho HB1.out.2.2, ho, k2.cell 0, k2.cell 1, k2.cell 2, k2.cell 3, k1.cell 0, k1.cell 1, k1.cell 2, k1.cell 3⟩
  have HB4 := Lib.hid (below_step HB1.out.1 hb4)
  clear hk3 hb3 hb4
  obtain ⟨_, _, _, y0, y1, y2, y3, _, _, _, _⟩ := HD.out w3 (Below.refl _ _)
  go_wp2_with fail
  refine (HE.out.1 B1 B2 B3 d1 d2 d3 w3 (HD.out w3 (Below.refl _ _)).2.1).mono ?_
  rintro e w4 ⟨rfl, hb⟩
  have H4 := Lib.hid hb
  clear hb y0 y1 y2 y3
  obtain ⟨_, _, _, _, _, _, _, y0, y1, y2, y3⟩ := HD.out w4 H4.out
  go_wp2_with fail
  refine (HE.out.2 A1 A2 A3 c1 c2 c3 w4 (HD.out w4 H4.out).1).mono ?_
  rintro e w5 ⟨rfl, hb⟩
  have H5 := Lib.hid (below_step H4.out hb)
  clear hb y0 y1 y2 y3
  go_wp2_with fail
  refine (HM.out.1 w5).mono ?_
  rintro e w6 ⟨rfl, rfl⟩
  go_wp2_with fail
  refine (HM.out.2 _).mono ?_
  rintro e w6 ⟨rfl, rfl⟩
  go_wp2_with fail
  refine (HO.out.1 _).mono ?_
  rintro e w6 ⟨rfl, rfl⟩
  go_wp2_with fail
  refine (HO.out.2 _).mono ?_
  rintro e w6 ⟨rfl, rfl⟩
  go_upto_region 8 with fail
  have HKp : Hid (∀ u, Below w3.heap.size w3 u → Calls Try.prog 21 #[.agg #[.bool lf, .slice B1 N1 d1, .slice B2 N2 d2, .slice B3 N3 d3], .agg #[.bool lf, .slice A1 N1 c1, .slice A2 N2 c2, .slice A3 N3 c3]] u fun e w' => e = .returned (.bool true) ∧ Below u.heap.size u w') := fun u hu => by
    have := kept_any n A1 A2 A3 B1 B2 B3 c1 c2 c3 d1 d2 d3 u (HD.out u hu).2.2.1 (HD.out u hu).1
    rw [HL.out, HL.out] at this
    exact this
  have x0 := (HD.out w5 H5.out).2.2.2
  go_region_held3 (fun u => u.cell? ⟨px, 0, none⟩ = some (.bool lf) ∧ u.cell? ⟨px, 1, none⟩ = some (.slice B1 N1 d1) ∧ u.cell? ⟨px, 2, none⟩ = some (.slice B2 N2 d2) ∧ u.cell? ⟨px, 3, none⟩ = some (.slice B3 N3 d3) ∧
      u.cell? ⟨bx, 0, none⟩ = some (.bool lf) ∧ u.cell? ⟨bx, 1, none⟩ = some (.slice A1 N1 c1) ∧ u.cell? ⟨bx, 2, none⟩ = some (.slice A2 N2 c2) ∧ u.cell? ⟨bx, 3, none⟩ = some (.slice A3 N3 c3)) (first | exact x0 | exact (HD.out _ K6.out).2.2.2 | exact (HD.out _ K5.out).2.2.2 | exact (HD.out _ K4.out).2.2.2 | exact (HD.out _ K3.out).2.2.2 | exact (HD.out _ K2.out).2.2.2 | exact (HD.out _ K1.out).2.2.2)
    (first
      | (go_at_call 15; refine (HC.out.1 B1 B2 B3 d1 d2 d3 _ (HD.out _ (by repeat (first | exact H5.out | refine Below.drew ?_ | refine below_drewN ?_ _))).2.1).mono ?_; rintro e y1 ⟨rfl, hb⟩; have K1 : Hid (Below w3.heap.size w3 y1) := (below_step (by repeat (first | exact H5.out | refine Below.drew ?_ | refine below_drewN ?_ _)) hb); clear hb)
      | (go_at_call 16; refine (HC.out.2 A1 A2 A3 c1 c2 c3 _ (HD.out _ (by repeat (first | exact K1.out | refine Below.drew ?_ | refine below_drewN ?_ _))).1).mono ?_; rintro e y2 ⟨rfl, hb⟩; have K2 : Hid (Below w3.heap.size w3 y2) := (below_step (by repeat (first | exact K1.out | refine Below.drew ?_ | refine below_drewN ?_ _)) hb); clear hb)
      | (go_at_call 17; refine (HY.out.1 B1 B2 B3 d1 d2 d3 _ (HD.out _ (by repeat (first | exact K2.out | refine Below.drew ?_ | refine below_drewN ?_ _))).2.1).mono ?_; rintro e y3 ⟨rfl, hb⟩; have K3 : Hid (Below w3.heap.size w3 y3) := (below_step (by repeat (first | exact K2.out | refine Below.drew ?_ | refine below_drewN ?_ _)) hb); clear hb)
      | (go_at_call 18; refine (HY.out.2 A1 A2 A3 c1 c2 c3 _ (HD.out _ (by repeat (first | exact K3.out | refine Below.drew ?_ | refine below_drewN ?_ _))).1).mono ?_; rintro e y4 ⟨rfl, hb⟩; have K4 : Hid (Below w3.heap.size w3 y4) := (below_step (by repeat (first | exact K3.out | refine Below.drew ?_ | refine below_drewN ?_ _)) hb); clear hb)
      | (go_at_call 19; refine (HS.out.1 _).mono ?_; rintro e w' ⟨rfl, rfl⟩)
      | (go_at_call 20; refine (HS.out.2 _).mono ?_; rintro e w' ⟨rfl, rfl⟩)
      | (go_at_call 21; refine (HKp.out _ (by repeat (first | exact K4.out | refine Below.drew ?_ | refine below_drewN ?_ _))).mono ?_; rintro e y5 ⟨rfl, hb⟩; have K5 : Hid (Below w3.heap.size w3 y5) := (below_step (by repeat (first | exact K4.out | refine Below.drew ?_ | refine below_drewN ?_ _)) hb); clear hb)
      | (go_at_call 22; refine (awake_any _).mono ?_; rintro e y6 ⟨rfl, hb⟩; have K6 : Hid (Below w3.heap.size w3 y6) := (below_step (by repeat (first | exact K5.out | refine Below.drew ?_ | refine below_drewN ?_ _)) hb); clear hb))
  all_goals
    go_wp2_with fail
    go_ret
    exact ⟨by simp, below_step HB4.out (by repeat (first | exact K6.out | refine Below.drew ?_ | refine below_drewN ?_ _))⟩
end Go.Proofs.Ytpggicaphejjfaa
