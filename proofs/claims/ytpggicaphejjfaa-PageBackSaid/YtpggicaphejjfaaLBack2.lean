/-
  The law PageBack: its walk.
-/
import Derived.Test.YtpggicaphejjfaaLBack
set_option linter.unusedVariables false
namespace Go.Proofs.Ytpggicaphejjfaa
open Go.RowKit

set_option maxRecDepth 100000 in
set_option maxHeartbeats 8000000 in
theorem back_any (n m : Nd) (A1 A2 A3 C1 C2 C3 : Option Addr) (a1 a2 a3 c1 c2 c3 : Nat) (S : ByteArray) (X : Int) (w : World) (hn : NdR w n A1 A2 A3) (hm : NdR w m C1 C2 C3) (rn : RoomB n) (rm : RoomB m) (hS : S.size ≤ 140737488355328)
    (hX1 : -9223372036854775808 ≤ X) (hX2 : X ≤ 9223372036854775807) :
    Calls Try.prog 6 #[.agg (ndC n A1 A2 A3 a1 a2 a3), .agg (ndC m C1 C2 C3 c1 c2 c3), .agg #[.string S, .int .i64 X]] w fun e w' => e = .returned (.bool true) ∧ Below w.heap.size w w' := by
  obtain ⟨qa, qb, qc, qd, qz, z, ha, hb, hc, hc2, hd, hz, b1, b2, b3, b4, b5, b6, b7, b8, rfl, z1, z2, z3⟩ := size_law X hX1 hX2
  clear hX1 hX2 z3
  obtain ⟨es, ev, hE1, hE2⟩ := enc_one n z
  obtain ⟨fs, fv, hF1, hF2⟩ := enc_one m z
  obtain ⟨w1, hw1⟩ : ∃ w1, w1 = ((w.alloc (.cells (ndC n A1 A2 A3 a1 a2 a3) 25)).alloc (.cells (ndC m C1 C2 C3 c1 c2 c3) 25)).alloc (.cells #[.string S, .int .i64 X] 51) := ⟨_, rfl⟩
  obtain ⟨bx, hbx⟩ : ∃ b, b = w.heap.size := ⟨_, rfl⟩
  obtain ⟨ay, hay⟩ : ∃ b, b = w.heap.size + 1 := ⟨_, rfl⟩
  obtain ⟨cz, hcz⟩ : ∃ b, b = w.heap.size + 2 := ⟨_, rfl⟩
  have s1 : (w.alloc (.cells (ndC n A1 A2 A3 a1 a2 a3) 25)).heap.size = w.heap.size + 1 := by simp
  have s2 : ((w.alloc (.cells (ndC n A1 A2 A3 a1 a2 a3) 25)).alloc (.cells (ndC m C1 C2 C3 c1 c2 c3) 25)).heap.size = w.heap.size + 2 := by simp
  have hB1 : Below w.heap.size w w1 := by rw [hw1]; exact (((Below.refl _ w).alloc (Nat.le_refl _) _).alloc (by rw [s1]; omega) _).alloc (by rw [s2]; omega) _
  have k1 : Blk w1 bx 25 (ndC n A1 A2 A3 a1 a2 a3) := by rw [hw1, hbx]; exact ((Blk.new w 25 _).alloc _).alloc _
  have k2 : Blk w1 ay 25 (ndC m C1 C2 C3 c1 c2 c3) := by rw [hw1, hay, ← s1]; exact (Blk.new _ 25 _).alloc _
  have k3 : Blk w1 cz 51 #[.string S, .int .i64 X] := by rw [hw1, hcz, ← s2]; exact Blk.new _ 51 _
  have HB1 := Lib.hid (And.intro hB1 (And.intro (hn.below hB1) (And.intro (hm.below hB1) (And.intro rn rm))))
  have HEN := Lib.hid (And.intro hE1 hE2)
  have HFN := Lib.hid (And.intro hF1 hF2)
  have HLn : Hid (∀ B1 B2 B3 d1 d2 d3, ndC n B1 B2 B3 d1 d2 d3 = #[.bool n.leaf, .slice B1 n.keys.length d1, .slice B2 n.vals.length d2, .slice B3 n.kids.length d3]) := fun _ _ _ _ _ _ => rfl
  have HLm : Hid (∀ B1 B2 B3 d1 d2 d3, ndC m B1 B2 B3 d1 d2 d3 = #[.bool m.leaf, .slice B1 m.keys.length d1, .slice B2 m.vals.length d2, .slice B3 m.kids.length d3]) := fun _ _ _ _ _ _ => rfl
  have HX : Hid (∀ u, Below w1.heap.size w1 u → u.cell? ⟨bx, 0, none⟩ = some (.bool n.leaf) ∧ u.cell? ⟨bx, 1, none⟩ = some (.slice A1 n.keys.length a1) ∧ u.cell? ⟨bx, 2, none⟩ = some (.slice A2 n.vals.length a2) ∧ u.cell? ⟨bx, 3, none⟩ = some (.slice A3 n.kids.length a3) ∧
      u.cell? ⟨ay, 0, none⟩ = some (.bool m.leaf) ∧ u.cell? ⟨ay, 1, none⟩ = some (.slice C1 m.keys.length c1) ∧ u.cell? ⟨ay, 2, none⟩ = some (.slice C2 m.vals.length c2) ∧ u.cell? ⟨ay, 3, none⟩ = some (.slice C3 m.kids.length c3) ∧ NdR u n A1 A2 A3 ∧ NdR u m C1 C2 C3) := fun u hu => by
    have q1 := k1.below hu k1.lt
    have q2 := k2.below hu k2.lt
    exact ⟨q1.cell 0, q1.cell 1, q1.cell 2, q1.cell 3, q2.cell 0, q2.cell 1, q2.cell 2, q2.cell 3, HB1.out.2.1.below hu, HB1.out.2.2.1.below hu⟩
  have c0 := k3.cell 0
  have c1' := k3.cell 1
  simp at c0 c1'
  unfold ndC at hw1 ⊢
  have HW := Lib.hid (And.intro hw1 (And.intro hbx (And.intro hay hcz)))
  obtain ⟨N1, hN1⟩ : ∃ N, N = n.keys.length := ⟨_, rfl⟩
  obtain ⟨N2, hN2⟩ : ∃ N, N = n.vals.length := ⟨_, rfl⟩
  obtain ⟨N3, hN3⟩ : ∃ N, N = n.kids.length := ⟨_, rfl⟩
  obtain ⟨lf, hlf⟩ : ∃ b, b = n.leaf := ⟨_, rfl⟩
  obtain ⟨M1, hM1⟩ : ∃ N, N = m.keys.length := ⟨_, rfl⟩
  obtain ⟨M2, hM2⟩ : ∃ N, N = m.vals.length := ⟨_, rfl⟩
  obtain ⟨M3, hM3⟩ : ∃ N, N = m.kids.length := ⟨_, rfl⟩
  obtain ⟨lg, hlg⟩ : ∃ b, b = m.leaf := ⟨_, rfl⟩
  simp only [← hN1, ← hN2, ← hN3, ← hlf] at HX HLn HW ⊢
  simp only [← hM1, ← hM2, ← hM3, ← hlg] at HX HLm HW ⊢
  -- the calls, as the walk meets them
  have HOn : Hid (∀ u, Below w1.heap.size w1 u → Calls Try.prog 8 #[.agg #[.bool lf, .slice A1 N1 a1, .slice A2 N2 a2, .slice A3 N3 a3]] u fun e w' => ∃ B1 B2 B3 d1 d2 d3, e = .returned (.agg #[.bool lf, .slice B1 N1 d1, .slice B2 N2 d2, .slice B3 N3 d3]) ∧ Below u.heap.size u w' ∧ NdR w' n B1 B2 B3) := fun u hu => by
    have h1 := (HX.out u hu).2.2.2.2.2.2.2.2.1
    have := own_any n A1 A2 A3 a1 a2 a3 u h1 HB1.out.2.2.2.1.1 HB1.out.2.2.2.1.2.1 HB1.out.2.2.2.1.2.2
    rw [HLn.out] at this
    refine this.mono ?_
    rintro e w' ⟨B1, B2, B3, d1, d2, d3, he, hb, ho⟩
    rw [HLn.out] at he
    exact ⟨B1, B2, B3, d1, d2, d3, he, hb, ownR_nd ho h1⟩
  have HOm : Hid (∀ u, Below w1.heap.size w1 u → Calls Try.prog 8 #[.agg #[.bool lg, .slice C1 M1 c1, .slice C2 M2 c2, .slice C3 M3 c3]] u fun e w' => ∃ B1 B2 B3 d1 d2 d3, e = .returned (.agg #[.bool lg, .slice B1 M1 d1, .slice B2 M2 d2, .slice B3 M3 d3]) ∧ Below u.heap.size u w' ∧ NdR w' m B1 B2 B3) := fun u hu => by
    have h1 := (HX.out u hu).2.2.2.2.2.2.2.2.2
    have := own_any m C1 C2 C3 c1 c2 c3 u h1 HB1.out.2.2.2.2.1 HB1.out.2.2.2.2.2.1 HB1.out.2.2.2.2.2.2
    rw [HLm.out] at this
    refine this.mono ?_
    rintro e w' ⟨B1, B2, B3, d1, d2, d3, he, hb, ho⟩
    rw [HLm.out] at he
    exact ⟨B1, B2, B3, d1, d2, d3, he, hb, ownR_nd ho h1⟩
  have HEc : Hid (∀ (B1 B2 B3 : Option Addr) (d1 d2 d3 : Nat) (u : World), NdR u n B1 B2 B3 → Calls Try.prog 9 #[.agg #[.bool lf, .slice B1 N1 d1, .slice B2 N2 d2, .slice B3 N3 d3], .int .i64 z] u fun e w' => e = .returned (.tuple #[.string es, .int .i64 ev]) ∧ Below u.heap.size u w') := fun B1 B2 B3 d1 d2 d3 u hu => by
    have := HEN.out.1 B1 B2 B3 d1 d2 d3 u hu
    rw [HLn.out] at this
    exact this
  have HFc : Hid (∀ (B1 B2 B3 : Option Addr) (d1 d2 d3 : Nat) (u : World), NdR u m B1 B2 B3 → Calls Try.prog 9 #[.agg #[.bool lg, .slice B1 M1 d1, .slice B2 M2 d2, .slice B3 M3 d3], .int .i64 z] u fun e w' => e = .returned (.tuple #[.string fs, .int .i64 fv]) ∧ Below u.heap.size u w') := fun B1 B2 B3 d1 d2 d3 u hu => by
    have := HFN.out.1 B1 B2 B3 d1 d2 d3 u hu
    rw [HLm.out] at this
    exact this
  have HEv := Lib.hid HEN.out.2
  have HFv := Lib.hid HFN.out.2
  have HN := Lib.hid (And.intro hN1 (And.intro hN2 (And.intro hN3 hlf)))
  clear hn hm rn rm hE1 hE2 hF1 hF2 hw1 hbx hay hcz s1 s2 hB1 k1 k2 k3 HEN HFN hN1 hN2 hN3 hlf hM1 hM2 hM3 hlg
  obtain ⟨x0, x1, x2, x3, _⟩ := HX.out w1 (Below.refl _ _)
  go_enter Try.func6, Try.ntmps6
  go_upto_region 1 with fail
  rw [← HW.out.1, ← HW.out.2.2.2, ← HW.out.2.2.1, ← HW.out.2.1]
  go_wp2_with fail
  refine (HOn.out w1 (Below.refl _ _)).mono ?_
  rintro e w2 ⟨B1, B2, B3, d1, d2, d3, rfl, hb2, hnd⟩
  have H2 := Lib.hid (And.intro hb2 hnd)
  clear hb2 hnd x0 x1 x2 x3 c0 c1' ha hb hc hc2 hd hz b1 b2 b3 b4 b5 b6 b7 b8
  go_wp2_with fail
  refine (HEc.out B1 B2 B3 d1 d2 d3 w2 H2.out.2).mono ?_
  rintro e w3 ⟨rfl, hb3⟩
  have H3 := Lib.hid (below_step H2.out.1 hb3)
  clear hb3
  obtain ⟨_, _, _, _, x0, x1, x2, x3, _⟩ := HX.out w3 H3.out
  go_wp2_with fail
  refine (HOm.out w3 H3.out).mono ?_
  rintro e w4 ⟨D1, D2, D3, d1', d2', d3', rfl, hb4, hnd⟩
  have H4 := Lib.hid (And.intro (below_step H3.out hb4) hnd)
  clear hb4 hnd x0 x1 x2 x3
  go_wp2_with fail
  refine (HFc.out D1 D2 D3 d1' d2' d3' w4 H4.out.2).mono ?_
  rintro e w5 ⟨rfl, hb5⟩
  have H5 := Lib.hid (below_step H4.out.1 hb5)
  clear hb5
  go_upto_if 45 with fail
  go_cut [] (fun wx => Below w1.heap.size w1 wx)
  case first =>
    rcases HEv.out with ⟨rfl, hE, hes⟩ | ⟨rfl, hE⟩
    · obtain ⟨hck, hz4⟩ := encP_check hE
      have hu := (HX.out w5 H5.out).2.2.2.2.2.2.2.2.1.u
      have hval := valid_of hu hE
      have hsz := size_encS hck
      have htail := encS_tail hck
      have hbm := hck.1.2
      have hb3 := bytes_ge n
      rw [← hes] at hval hsz
      have hwb : wrap64 (bytesN n : Nat) = ((bytesN n : Nat) : Int) := wrap_ofNat (by omega)
      obtain ⟨q, hq⟩ : ∃ q, q = bytesN n := ⟨_, rfl⟩
      have hbc : Hid (∀ (B1 B2 B3 : Option Addr) (d1 d2 d3 : Nat) (u : World), NdR u n B1 B2 B3 → Calls Try.prog 17 #[.agg #[.bool lf, .slice B1 N1 d1, .slice B2 N2 d2, .slice B3 N3 d3]] u fun e w' => e = .returned (.int .i64 (q : Nat)) ∧ Below u.heap.size u w') := fun B1 B2 B3 d1 d2 d3 u hn => by
        have := bytes_any n B1 B2 B3 d1 d2 d3 u hn.k hn.v hn.l1 hn.l2 hn.l3 hn.a1 hn.a2 ⟨hn.z, hn.b⟩
        rw [hwb, ← hq, HLn.out] at this
        exact this
      rw [← hq] at hbm hb3
      have htl : Hid (∀ i, q ≤ i → ∀ hi : i < es.size, es[i]'hi = 0) := by rw [hq, hes]; exact htail
      have HV := Lib.hid hval
      clear hE hes hck hu hval htail hwb hq
      go_wp2_with fail
      refine (decode_any es w5 (by rw [hsz]; omega)).mono ?_
      rintro e w6 ⟨n', K, V, U, e1, e2, e3, dv, rfl, hb6, hnd6, hod6, hR, _⟩
      obtain ⟨rfl, rfl⟩ := decR_inj hR (.inl ⟨rfl, HV.out⟩)
      have H6 := Lib.hid (And.intro (below_step H5.out hb6) hnd6)
      clear hb6 hnd6 hod6 hR
      rw [HLn.out]
      obtain ⟨px, hpx⟩ : ∃ px, px = w6.heap.size := ⟨_, rfl⟩
      obtain ⟨w7, hw7⟩ : ∃ w7, w7 = w6.alloc (.cells #[.bool lf, .slice K N1 e1, .slice V N2 e2, .slice U N3 e3] 26) := ⟨_, rfl⟩
      have hb7 : Below w6.heap.size w6 w7 := by rw [hw7]; exact (Below.refl _ w6).alloc (Nat.le_refl _) _
      have kp : Blk w7 px 26 #[.bool lf, .slice K N1 e1, .slice V N2 e2, .slice U N3 e3] := by rw [hw7, hpx]; exact Blk.new w6 26 _
      have HW7 := Lib.hid (And.intro hw7 hpx)
      have H7 := Lib.hid (And.intro (below_step H6.out.1 hb7) (And.intro kp (H6.out.2.below hb7)))
      clear hw7 hpx hb7 kp
      go_upto_region 7 with fail
      rw [← HW7.out.1, ← HW7.out.2]
      obtain ⟨x0, x1, x2, x3, _⟩ := HX.out w7 H7.out.1
      go_wp2_with fail
      refine (HOn.out w7 H7.out.1).mono ?_
      rintro e w8 ⟨B1', B2', B3', d1'', d2'', d3'', rfl, hb8, hnd8⟩
      have H8 := Lib.hid (And.intro hb8 hnd8)
      clear hb8 hnd8 x0 x1 x2 x3
      go_wp2_with fail
      refine (hbc.out B1' B2' B3' d1'' d2'' d3'' w8 H8.out.2).mono ?_
      rintro e w9 ⟨rfl, hb9⟩
      have H9 := Lib.hid (below_step H8.out.1 hb9)
      clear hb9
      have H9B := Lib.hid (below_step H7.out.1 H9.out)
      obtain ⟨x0, x1, x2, x3, _, _, _, _, hnn, _⟩ := HX.out w9 H9B.out
      have kp := H7.out.2.1.below H9.out H7.out.2.1.lt
      have y0 := kp.cell 0
      have y1 := kp.cell 1
      have y2 := kp.cell 2
      have y3 := kp.cell 3
      simp at y0 y1 y2 y3
      have hsame := same_any n' n' K V U A1 A2 A3 e1 e2 e3 a1 a2 a3 true w9 (H7.out.2.2.below H9.out) hnn (by simp)
      rw [HLn.out, HLn.out] at hsame
      have HSA := Lib.hid hsame
      clear kp hsame hnn
      have g1 : decide ((q : Int) < 3) = false := decide_eq_false (by omega)
      have g2 : decide ((z : Int) < (q : Int)) = false := decide_eq_false (by omega)
      go_wp2_with fail
      refine HSA.out.mono ?_
      rintro e w10 ⟨rfl, hb10⟩
      have H10 := Lib.hid (below_step H9B.out hb10)
      clear hb10 x0 x1 x2 x3 y0 y1 y2 y3
      go_wp2_with fail
      go_loopg [16] (z - q) (fun g i wr => ∃ k : Nat, k + g = z ∧ q ≤ k ∧ i = .int .i64 k ∧ wr = w10)
      case atStart => exact ⟨q, by omega, Nat.le_refl _, rfl, rfl⟩
      case round =>
        obtain ⟨k, hk, hqk, rfl, rfl⟩ := hrel
        by_cases hlt : k < z
        · have hx := htl.out k hqk (by rw [hsz]; exact hlt)
          have hkI0 : (0 : Int) ≤ (k : Int) := by omega
          have hkI1 : (k : Int) < (z : Int) := by omega
          go_wp2_with fail
          go_roundg (gk - 1)
          case measure => omega
          case rel => exact ⟨k + 1, by omega, by omega, by go_num, rfl⟩
        · go_wp2_with fail
          go_meet
          exact H10.out
    · go_wp2_with fail
      go_meet
      exact H5.out
  case rest =>
    have HC := Lib.hid hcut
    clear hcut
    go_upto_region 15 with fail
    go_cut [101] (fun v wx => v = .bool false ∧ Below w1.heap.size w1 wx)
    case first =>
      rcases HEv.out with ⟨rfl, hE, hes⟩ | ⟨rfl, hE⟩
      · rcases HFv.out with ⟨rfl, hF, hfs⟩ | ⟨rfl, hF⟩
        · obtain ⟨x0, x1, x2, x3, y0, y1, y2, y3, hnn, hmm⟩ := HX.out wc HC.out
          obtain ⟨hck, hz4⟩ := encP_check hE
          obtain ⟨hck2, _⟩ := encP_check hF
          by_cases hnm : n = m
          · have hsame := rsame_any n m A1 A2 A3 C1 C2 C3 a1 a2 a3 c1 c2 c3 true wc hnn hmm (by simp [hnm])
            have hee : es = fs := by rw [hes, hfs, hnm]
            rw [HLn.out, HLm.out] at hsame
            have HSA := Lib.hid hsame
            subst hee
            clear hE hes hF hfs hck hck2 hnm hsame hnn hmm
            go_wp2_with fail
            refine HSA.out.mono ?_
            rintro e w6 ⟨rfl, hb6⟩
            have H6 := Lib.hid (below_step HC.out hb6)
            clear hb6
            go_wp2_with fail
            go_meet
            exact ⟨by simp, H6.out⟩
          · have hsame := rsame_any n m A1 A2 A3 C1 C2 C3 a1 a2 a3 c1 c2 c3 false wc hnn hmm (by simp [hnm])
            have hee : es ≠ fs := fun e => hnm (by
              refine enc_inj hck hck2 hz4 hnn.u hmm.u ?_
              have : (encS n z).data.toList = (encS m z).data.toList := by rw [← hes, ← hfs, e]
              simpa [encS] using this)
            have hne := toList_ne hee
            rw [HLn.out, HLm.out] at hsame
            have HSA := Lib.hid hsame
            clear hE hes hF hfs hck hck2 hnm hsame hnn hmm hee
            go_wp2_with fail
            refine HSA.out.mono ?_
            rintro e w6 ⟨rfl, hb6⟩
            have H6 := Lib.hid (below_step HC.out hb6)
            clear hb6
            go_wp2_with fail
            go_meet
            exact ⟨by simp, H6.out⟩
        · clear hE hes hF
          go_wp2_with fail
          go_meet
          exact ⟨by simp, HC.out⟩
      · clear hE
        go_wp2_with fail
        go_meet
        exact ⟨by simp, HC.out⟩
    case rest =>
      obtain ⟨rfl, hb6⟩ := hcut
      have H6 := Lib.hid hb6
      clear hb6
      go_wp2_with fail
      refine (decode_any S _ hS).mono ?_
      rintro e w7 ⟨n', K, V, U, e1, e2, e3, dv, rfl, hb7, hnd7, hod7, hR, _⟩
      obtain ⟨sz, hsz⟩ : ∃ q, q = S.size := ⟨_, rfl⟩
      have hsz' : S.size = sz := hsz.symm
      rw [hsz'] at hS
      obtain ⟨ts, tv, hT1, hT2⟩ := enc_one n' sz
      obtain ⟨px, hpx⟩ : ∃ px, px = w7.heap.size := ⟨_, rfl⟩
      obtain ⟨w8, hw8⟩ : ∃ w8, w8 = w7.alloc (.cells (ndC n' K V U e1 e2 e3) 26) := ⟨_, rfl⟩
      have hb8 : Below w7.heap.size w7 w8 := by rw [hw8]; exact (Below.refl _ w7).alloc (Nat.le_refl _) _
      have kp : Blk w8 px 26 (ndC n' K V U e1 e2 e3) := by rw [hw8, hpx]; exact Blk.new w7 26 _
      have htc := hT1 K V U e1 e2 e3 w8 (hnd7.below hb8)
      have hlast : (dv = 0 ∧ tv = 0 ∧ ts = S) ∨ dv = 4 := by
        rcases hR with ⟨e, hv⟩ | ⟨e, _⟩
        · left
          obtain ⟨hu, hE, hes⟩ := hv
          rw [hsz'] at hE hes
          rcases hT2 with ⟨t1, t2, t3⟩ | ⟨t1, t2⟩
          · exact ⟨e, t1, t3.trans hes⟩
          · exact absurd hE t2
        · right; exact e
      have H8 := Lib.hid (below_step H6.out (below_step hb7 hb8))
      have HLA := Lib.hid hlast
      have HPX := Lib.hid (And.intro hw8 hpx)
      unfold ndC at *
      obtain ⟨P1, hP1⟩ : ∃ N, N = n'.keys.length := ⟨_, rfl⟩
      obtain ⟨P2, hP2⟩ : ∃ N, N = n'.vals.length := ⟨_, rfl⟩
      obtain ⟨P3, hP3⟩ : ∃ N, N = n'.kids.length := ⟨_, rfl⟩
      obtain ⟨lh, hlh⟩ : ∃ b, b = n'.leaf := ⟨_, rfl⟩
      rw [← hP1, ← hP2, ← hP3, ← hlh] at HPX htc kp ⊢
      have HTC := Lib.hid htc
      have p0 := kp.cell 0
      have p1 := kp.cell 1
      have p2 := kp.cell 2
      have p3 := kp.cell 3
      simp at p0 p1 p2 p3
      clear hb7 hnd7 hod7 hR hT1 hT2 hpx hw8 hb8 kp htc hlast hP1 hP2 hP3 hlh hsz
      go_upto_region 18 with fail
      rw [← HPX.out.1, ← HPX.out.2]
      go_wp2_with fail
      refine HTC.out.mono ?_
      rintro e w9 ⟨rfl, hb9⟩
      have H9 := Lib.hid (below_step H8.out hb9)
      clear hb9 p0 p1 p2 p3
      rcases HLA.out with ⟨rfl, rfl, rfl⟩ | rfl
      · go_wp2_with fail
        refine (awake_any w9).mono ?_
        rintro e w10 ⟨rfl, hb10⟩
        have H10 := Lib.hid (below_step HB1.out.1 (below_step H9.out hb10))
        clear hb10
        go_wp2_with fail
        go_ret
        exact ⟨by simp, H10.out⟩
      · go_wp2_with fail
        refine (awake_any w9).mono ?_
        rintro e w10 ⟨rfl, hb10⟩
        have H10 := Lib.hid (below_step HB1.out.1 (below_step H9.out hb10))
        clear hb10
        go_wp2_with fail
        go_ret
        exact ⟨by simp, H10.out⟩
end Go.Proofs.Ytpggicaphejjfaa
