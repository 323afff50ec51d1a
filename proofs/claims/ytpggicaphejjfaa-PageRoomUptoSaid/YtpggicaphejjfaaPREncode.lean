/-
  The reference's Encode.
-/
import Derived.Test.YtpggicaphejjfaaPNum
import Derived.Test.YtpggicaphejjfaaPRCheck2
import Derived.Test.YtpggicaphejjfaaPEncode
import Derived.Deep.RegionHeld3
set_option linter.unusedVariables false
namespace Go.Proofs.Ytpggicaphejjfaa
open Go.RowKit

set_option maxRecDepth 100000 in
set_option maxHeartbeats 2000000 in
theorem rencode_no (n : Nd) (A1 A2 A3 : Option Addr) (c1 c2 c3 : Nat) (m : Int) (w : World) (h : NdR w n A1 A2 A3) (hn : ¬ EncP n m) :
    Calls Try.prog 10 #[.agg (ndC n A1 A2 A3 c1 c2 c3), .int .i64 m] w fun e w' => e = .returned (.tuple #[.string ⟨#[]⟩, .int .i64 1]) ∧ Below w.heap.size w w' := by
  obtain ⟨w1, hw1⟩ : ∃ w1, w1 = w.alloc (.cells (ndC n A1 A2 A3 c1 c2 c3) 25) := ⟨_, rfl⟩
  have hB1 : Below w.heap.size w w1 := by rw [hw1]; exact (Below.refl _ w).alloc (Nat.le_refl _) _
  have hck : Calls Try.prog 16 #[.agg (ndC n A1 A2 A3 c1 c2 c3), .int .i64 m] w1 fun e w' => e = .returned (.int .i64 1) ∧ Below w1.heap.size w1 w' := by
    by_cases hs : SizeP m
    · obtain ⟨k, rfl, h1, h2, h3⟩ := hs.nat
      have hc : ¬ CheckN n k := fun hc => hn ⟨hs, hc⟩
      exact rcheck_yes n A1 A2 A3 c1 c2 c3 k false w1 (h.below hB1) h1 h2 h3 (by simp [hc])
    · exact rcheck_no n A1 A2 A3 c1 c2 c3 m w1 hs
  have HM := Lib.hid (And.intro hck hB1)
  have hbx := Blk.new w 25 (ndC n A1 A2 A3 c1 c2 c3)
  obtain ⟨bx, hbxe⟩ : ∃ bx, bx = w.heap.size := ⟨_, rfl⟩
  rw [← hw1, ← hbxe] at hbx
  obtain ⟨N1, hN1⟩ : ∃ N, N = n.keys.length := ⟨_, rfl⟩
  obtain ⟨N2, hN2⟩ : ∃ N, N = n.vals.length := ⟨_, rfl⟩
  obtain ⟨N3, hN3⟩ : ∃ N, N = n.kids.length := ⟨_, rfl⟩
  obtain ⟨lf, hlf⟩ : ∃ b, b = n.leaf := ⟨_, rfl⟩
  unfold ndC at *
  rw [← hN1, ← hN2, ← hN3, ← hlf] at hw1 HM hbx ⊢
  have HW := Lib.hid (And.intro hw1 hbxe)
  have x0 := hbx.cell 0
  have x1 := hbx.cell 1
  have x2 := hbx.cell 2
  have x3 := hbx.cell 3
  simp at x0 x1 x2 x3
  clear h hn hB1 hck hN1 hN2 hN3 hlf hw1 hbx hbxe
  go_enter Try.func10, Try.ntmps10
  go_upto_region 1 with fail
  rw [← HW.out.1, ← HW.out.2]
  go_wp2_with fail
  refine HM.out.1.mono ?_
  rintro e w2 ⟨rfl, hb⟩
  have H2 := Lib.hid (below_step HM.out.2 hb)
  clear hb
  go_wp2_with fail
  go_ret2
  exact ⟨rfl, H2.out⟩
theorem encN_lastR (n : Nd) (m : Nat) (s : ByteArray) (hs : s.data.toList = bodyN n) : s ++ ⟨(List.replicate (m - (bodyN n).length) (0 : UInt8)).toArray⟩ = encS n m := by
  have h : (s ++ (⟨(List.replicate (m - (bodyN n).length) (0 : UInt8)).toArray⟩ : ByteArray)).data.toList = (encS n m).data.toList := by
    rw [data_append, hs]
    unfold encS encN
    simp
  cases hq : s ++ (⟨(List.replicate (m - (bodyN n).length) (0 : UInt8)).toArray⟩ : ByteArray) with
  | mk a =>
    rw [hq] at h
    cases he : encS n m with
    | mk b =>
      rw [he] at h
      congr 1
      exact Array.toList_inj.1 h
theorem add_run {a b c : ByteArray} (hc : c = a ++ b) (h : a.size + b.size ≤ 100000) : ∀ u, (binOp .add 9 (.string a) (.string b)).run Try.prog u = .ok (.string c) u := by
  intro u
  subst hc
  have := run_string_add_sum (P := Try.prog) u a b (by omega)
  simp [binOp, this]
theorem add_run2 {a b c : ByteArray} (hc : c = a ++ b) (h : a.size + b.size ≤ 100000) : ∀ u, (Op.stringOp .add a b).run Try.prog u = .ok (.string c) u := by
  intro u
  subst hc
  exact run_string_add_sum (P := Try.prog) u a b (by omega)
theorem cells_zero (d : Nat) : List.replicate d (Value.int .u8 0) = Lib.byteCells (List.replicate d 0) := by
  simp [Lib.byteCells]

set_option maxRecDepth 100000 in
set_option maxHeartbeats 4000000 in
theorem rencode_leaf (n : Nd) (A1 A2 A3 : Option Addr) (c1 c2 c3 m : Nat) (w : World) (h : NdR w n A1 A2 A3) (m1 : 512 ≤ m) (m2 : m ≤ 4096) (m3 : m % 512 = 0) (hn : CheckN n m) (hlf : n.leaf = true) :
    Calls Try.prog 10 #[.agg (ndC n A1 A2 A3 c1 c2 c3), .int .i64 m] w fun e w' => e = .returned (.tuple #[.string (encS n m), .int .i64 0]) ∧ Below w.heap.size w w' := by
  obtain ⟨w1, hw1⟩ : ∃ w1, w1 = w.alloc (.cells (ndC n A1 A2 A3 c1 c2 c3) 25) := ⟨_, rfl⟩
  have hB1 : Below w.heap.size w w1 := by rw [hw1]; exact (Below.refl _ w).alloc (Nat.le_refl _) _
  have h' := h.below hB1
  have hck := rcheck_yes n A1 A2 A3 c1 c2 c3 m true w1 h' m1 m2 m3 (by simp [hn])
  have hbx := Blk.new w 25 (ndC n A1 A2 A3 c1 c2 c3)
  obtain ⟨bx, hbxe⟩ : ∃ bx, bx = w.heap.size := ⟨_, rfl⟩
  obtain ⟨B, hBe⟩ : ∃ B, B = w1.heap.size := ⟨_, rfl⟩
  rw [← hw1, ← hbxe] at hbx
  have hBw : B = w.heap.size + 1 := by rw [hBe, hw1]; simp
  have hbody := length_bodyN hn
  have hbm := hn.1.2
  have hlen : Hid (∀ j, j ≤ n.keys.length → (headN n ++ entsN n j).length ≤ 4096) := fun j hj => by
    have h1 := entsN_le n hj
    have h2 : (bodyN n).length = (headN n ++ entsN n n.keys.length).length := rfl
    rw [List.length_append] at h2 ⊢
    omega
  have hkey : Hid (∀ i, i < n.keys.length → (n.keys.getD i ⟨#[]⟩).size ≤ 64) := fun i hi => (hn.1.1 i hi).2.1
  have hvl : Hid (n.vals.length = n.keys.length) := (hn.2.1 hlf).1
  have hval : Hid (∀ i, i < n.keys.length → (n.vals.getD i ⟨#[]⟩).size ≤ 4095) := fun i hi => ((hn.2.1 hlf).2.2 i (by have := hvl.out; omega)).1
  have hk64 : n.keys.length ≤ 4096 := by
    have h1 := szs_ge n.keys 3 n.keys.length
    have h2 : bytesN n = 3 + szs n.keys 3 n.keys.length + szs n.vals 0 n.vals.length := by unfold bytesN; rw [hlf]; rfl
    have := hn.2.1 hlf
    unfold LeafP at this
    omega
  obtain ⟨N1, hN1⟩ : ∃ N, N = n.keys.length := ⟨_, rfl⟩
  obtain ⟨N2, hN2⟩ : ∃ N, N = n.vals.length := ⟨_, rfl⟩
  obtain ⟨N3, hN3⟩ : ∃ N, N = n.kids.length := ⟨_, rfl⟩
  obtain ⟨L, hL⟩ : ∃ L, L = (bodyN n).length := ⟨_, rfl⟩
  obtain ⟨d, hd⟩ : ∃ d, d = m - L := ⟨_, rfl⟩
  have hd1 : (m : Int) - (L : Int) = (d : Int) := by omega
  have hd2 : d ≤ 4096 := by omega
  have hL2 : L ≤ 4096 := by omega
  have HR := Lib.hid (And.intro h' (And.intro hB1 (And.intro hBw (And.intro hL (And.intro hd hlf)))))
  have HCK : Hid (Calls Try.prog 16 #[.agg (ndC n A1 A2 A3 c1 c2 c3), .int .i64 m] w1 fun e w' => e = .returned (.int .i64 0) ∧ Below w1.heap.size w1 w') := hck
  unfold ndC at *
  rw [← hN1, ← hN2, ← hN3, hlf] at hw1 HCK hbx ⊢
  rw [← hN1] at hk64
  have HN := Lib.hid (And.intro hN1 (And.intro hN2 hN3))
  have HW := Lib.hid (And.intro hw1 hbxe)
  have HX : Hid (∀ u, Below B w1 u → u.cell? ⟨bx, 0, none⟩ = some (.bool true) ∧ u.cell? ⟨bx, 1, none⟩ = some (.slice A1 N1 c1) ∧ u.cell? ⟨bx, 2, none⟩ = some (.slice A2 N2 c2) ∧ u.cell? ⟨bx, 3, none⟩ = some (.slice A3 N3 c3)) := fun u hu => by
    have hk := hbx.below hu (by omega)
    exact ⟨hk.cell 0, hk.cell 1, hk.cell 2, hk.cell 3⟩
  have HRd : Hid (∀ u, Below B w1 u → NdR u n A1 A2 A3) := fun u hu => by rw [hBe] at hu; exact h'.below hu
  have HBe := Lib.hid hBe
  have HS : Hid (∀ u, Below B w1 u → B ≤ u.heap.size) := fun u hu => by rw [HBe.out]; exact hu.size
  have HT : Hid (∀ u z, Below B w1 u → Below u.heap.size u z → Below B w1 z) := fun u z hu hz => hu.trans (hz.mono (HS.out u hu))
  obtain ⟨x0, x1, x2, x3⟩ := HX.out w1 (Below.refl _ _)
  clear h hn hB1 hck hN1 hN2 hN3 hw1 hbx hbxe h' hBw hbody hbm hL hd hlf hBe
  obtain ⟨i0, hi, hq⟩ := Option.map_eq_some_iff.1 info5'
  have hz0 : i0.zero = some (.int .u8 0) := (Prod.mk.inj hq).1
  have hz1 : i0.size = 1 := (Prod.mk.inj (Prod.mk.inj hq).2).1
  have hz2 : i0.bytes = 1 := (Prod.mk.inj (Prod.mk.inj hq).2).2
  have HI0 := Lib.hid (And.intro hi (And.intro hz0 (And.intro hz1 hz2)))
  clear hq hi hz0 hz1 hz2
  go_enter Try.func10, Try.ntmps10
  go_upto_region 1 with fail
  rw [← HW.out.1, ← HW.out.2]
  go_wp2_with fail
  refine HCK.out.mono ?_
  rintro e w2 ⟨rfl, hb⟩
  have H2 : Hid (Below B w1 w2) := by show Below B w1 w2; rw [HBe.out]; exact hb
  clear hb x0 x1 x2 x3
  obtain ⟨x0, x1, x2, x3⟩ := HX.out w2 H2.out
  have hN1b : N1 < 4294967296 := by omega
  go_wp2_with fail
  refine (number2_any N1 w2 hN1b).mono ?_
  rintro e w5 ⟨rfl, hb⟩
  have H5 := Lib.hid (HT.out _ _ H2.out hb)
  clear hb x0 x1 x2 x3
  obtain ⟨y0, y1, y2, y3⟩ := HX.out w5 H5.out
  obtain ⟨s5, hs5⟩ : ∃ s, s = ((⟨#[1]⟩ : ByteArray) ++ ⟨(be 2 N1).toArray⟩) := ⟨_, rfl⟩
  have HHD : Hid (s5.data.toList = headN n) := by
    show s5.data.toList = headN n
    rw [hs5, data_append, HN.out.1, ← headN_leaf HR.out.2.2.2.2.2]
    rfl
  have HWB : Hid (Below B w1 w5) := H5.out
  go_wp2_with fail
  rw [← hs5]
  clear hs5
  go_loopg [6, 7] N1 (fun g sv i wr => ∃ (k : Nat) (s : ByteArray), k + g = N1 ∧ i = .int .i64 k ∧ sv = .string s ∧ s.data.toList = headN n ++ entsN n k ∧ Below B w1 wr)
  case atStart => exact ⟨0, _, by omega, rfl, rfl, by rw [show headN n ++ entsN n 0 = headN n from List.append_nil _]; exact HHD.out, HWB.out⟩
  case round =>
    clear y0 y1 y2 y3
    obtain ⟨k, s, hk, rfl, rfl, hs, hI⟩ := hrel
    have HI := Lib.hid hI
    have HSS := Lib.hid hs
    clear hI hs
    obtain ⟨y0, y1, y2, y3⟩ := HX.out wr HI.out
    have hssz : s.size ≤ 4096 := by rw [← length_data, HSS.out]; exact hlen.out k (by rw [← HN.out.1]; omega)
    by_cases hlt : k < N1
    · have HKE := hkey.out k (by rw [← HN.out.1]; omega)
      obtain ⟨b, off, rfl, _, hcl⟩ := (HRd.out wr HI.out).k (by rw [← HN.out.1]; omega)
      have hcell := hcl k (by rw [← HN.out.1]; exact hlt)
      have HC1 : Hid (∀ u, Below B w1 u → u.cell? ⟨b, off + k, none⟩ = some (.string (n.keys.getD k ⟨#[]⟩))) := fun u hu => by
        obtain ⟨b3, off3, e, _, hcl3⟩ := (HRd.out u hu).k (by rw [← HN.out.1]; omega)
        injection e with e
        injection e with e1 e2
        subst e1 e2
        exact hcl3 k (by rw [← HN.out.1]; exact hlt)
      have HVE := hval.out k (by rw [← HN.out.1]; omega)
      obtain ⟨b2, off2, rfl, _, hcl2⟩ := (HRd.out wr HI.out).v (by rw [hvl.out, ← HN.out.1]; omega)
      have HC2 : Hid (∀ u, Below B w1 u → u.cell? ⟨b2, off2 + k, none⟩ = some (.string (n.vals.getD k ⟨#[]⟩))) := fun u hu => by
        obtain ⟨b3, off3, e, _, hcl3⟩ := (HRd.out u hu).v (by rw [hvl.out, ← HN.out.1]; omega)
        injection e with e
        injection e with e1 e2
        subst e1 e2
        exact hcl3 k (by rw [hvl.out, ← HN.out.1]; exact hlt)
      have hent : entsN n (k + 1) = entsN n k ++ (be 1 (n.keys.getD k ⟨#[]⟩).size ++ (be 2 (n.vals.getD k ⟨#[]⟩).size ++ ((n.keys.getD k ⟨#[]⟩).data.toList ++ (n.vals.getD k ⟨#[]⟩).data.toList))) := by
        show entsN n k ++ entN n k = _
        unfold entN
        rw [HR.out.2.2.2.2.2]
        rfl
      obtain ⟨x, hx⟩ : ∃ x, x = n.keys.getD k ⟨#[]⟩ := ⟨_, rfl⟩
      obtain ⟨y, hy⟩ : ∃ y, y = n.vals.getD k ⟨#[]⟩ := ⟨_, rfl⟩
      rw [← hx] at hcell HKE hent HC1
      rw [← hy] at HVE HC2 hent
      obtain ⟨z, hz⟩ : ∃ z, z = x.size := ⟨_, rfl⟩
      obtain ⟨q, hq⟩ : ∃ q, q = y.size := ⟨_, rfl⟩
      have hz' : x.size = z := hz.symm
      have hq' : y.size = q := hq.symm
      rw [hz'] at HKE hent
      rw [hq'] at HVE hent
      have HE := Lib.hid hent
      have hN2e : k < N2 := by have := hvl.out; have h2 := HN.out; omega
      have hq32 : q < 4294967296 := by omega
      have hz32 : z < 4294967296 := by omega
      have HK : Hid (∀ u t, Below B w1 u → Below u.heap.size u t → Below B w1 t ∧ t.cell? ⟨bx, 1, none⟩ = some (.slice (some ⟨b, off, none⟩) N1 c1) ∧ t.cell? ⟨bx, 2, none⟩ = some (.slice (some ⟨b2, off2, none⟩) N2 c2) ∧ t.cell? ⟨b, off + k, none⟩ = some (.string x) ∧ t.cell? ⟨b2, off2 + k, none⟩ = some (.string y)) := fun u t hu ht => by
        have := HT.out u t hu ht
        exact ⟨this, (HX.out t this).2.1, (HX.out t this).2.2.1, HC1.out t this, HC2.out t this⟩
      clear hx hy hz hq hent hcl hcl2
      go_wp2_with fail
      obtain ⟨t1, ht1⟩ : ∃ t, t = (⟨(be 1 z).toArray⟩ : ByteArray) := ⟨_, rfl⟩
      have ht2 : t1.size = 1 := by rw [ht1]; rfl
      have hn1 := number1_any z wr hz32
      rw [← ht1] at hn1
      have HT1 := Lib.hid ht1
      clear ht1
      refine hn1.mono ?_
      rintro e w7 ⟨rfl, hb⟩
      clear hn1
      have K0 := Lib.hid (HK.out _ _ HI.out hb)
      clear hb hcell y0 y1 y2 y3
      obtain ⟨y0, _, _, _⟩ := HX.out w7 K0.out.1
      obtain ⟨s7, hs7⟩ : ∃ t, t = s ++ t1 := ⟨_, rfl⟩
      have hs8 : s7.size ≤ 4097 := by rw [hs7, ByteArray.size_append]; omega
      go_wp2_with fail
      rw [← hs7]
      have HS7 : Hid (s7 = s ++ (⟨(be 1 z).toArray⟩ : ByteArray)) := by rw [hs7, HT1.out]; exact rfl
      clear hs7
      · skip
        obtain ⟨t2, ht2⟩ : ∃ t, t = (⟨(be 2 q).toArray⟩ : ByteArray) := ⟨_, rfl⟩
        have ht3 : t2.size = 2 := by rw [ht2]; rfl
        have hnn := fun u => number2_any q u hq32
        rw [← ht2] at hnn
        have HNN := Lib.hid hnn
        have HT2 := Lib.hid ht2
        clear ht2 hnn
        obtain ⟨s60, h60⟩ : ∃ t, t = s7 ++ t2 := ⟨_, rfl⟩
        obtain ⟨s66, h66⟩ : ∃ t, t = s60 ++ x := ⟨_, rfl⟩
        obtain ⟨s72, h72⟩ : ∃ t, t = s66 ++ y := ⟨_, rfl⟩
        have z60 : s60.size = s7.size + t2.size := by rw [h60, ByteArray.size_append]
        have z66 : s66.size = s60.size + x.size := by rw [h66, ByteArray.size_append]
        have r60 := add_run h60 (by omega)
        have r66 := add_run h66 (by omega)
        have r72 := add_run h72 (by omega)
        have q60 := add_run2 h60 (by omega)
        have q66 := add_run2 h66 (by omega)
        have q72 := add_run2 h72 (by omega)
        have HA := Lib.hid (And.intro h60 (And.intro h66 h72))
        have hkI0 : (0 : Int) ≤ (k : Int) := by omega
        have hkI1 : (k : Int) < (N1 : Int) := by omega
        have hkI2 : (k : Int) < (N2 : Int) := by omega
        have hkw : IntKind.i64.wrap (k : Int) = (k : Int) := IntWalk.i64_in _ (by omega)
        have hqw : IntKind.u32.wrap (q : Int) = (q : Int) := IntWalk.u32_in _ (by omega)
        clear z60 z66 h60 h66 h72 ht3 hs8
        have x1 := K0.out.2.1
        have x2 := K0.out.2.2.1
        have x3 := K0.out.2.2.2.1
        have x4 := K0.out.2.2.2.2
        go_region_held3 (fun w' => w'.cell? ⟨bx, 1, none⟩ = some (.slice (some ⟨b, off, none⟩) N1 c1) ∧ w'.cell? ⟨bx, 2, none⟩ = some (.slice (some ⟨b2, off2, none⟩) N2 c2) ∧ w'.cell? ⟨b, off + k, none⟩ = some (.string x) ∧ w'.cell? ⟨b2, off2 + k, none⟩ = some (.string y)) (first | exact ⟨x1, x2, x3, x4⟩ | exact K1.out.2)
          (first
            | (go_at_call 33; refine (HNN.out _).mono ?_; rintro e y1 ⟨rfl, hb⟩; have K1 := Lib.hid (HK.out _ _ (by repeat (first | exact K0.out.1 | refine Below.drew ?_ | refine below_drewN ?_ _)) hb); clear hb))
        all_goals
          go_wp2_with fail
          go_roundg (gk - 1)
          all_goals first
            | omega
            | (refine ⟨k + 1, _, by omega, by go_num, rfl, ?_, by repeat (first | exact K1.out.1 | refine Below.drew ?_ | refine below_drewN ?_ _)⟩
               rw [HA.out.2.2, HA.out.2.1, HA.out.1, data_append, data_append, data_append, HS7.out, HT2.out, data_append, HSS.out, HE.out]
               simp only [List.append_assoc])
    · have hk2 : k = N1 := by omega
      subst hk2
      have hsz : s.size = L := by rw [← length_data, HSS.out, HR.out.2.2.2.1, HN.out.1]; rfl
      have hi := HI0.out.1
      go_wp2_with (refine wpList_make_full _ rfl (.tmp 92) (.tmp 92) 43 rfl wr.heap.size 5 i0 (.int .u8 0) 1 Try.underlying43 HI0.out.1 HI0.out.2.1 HI0.out.2.2.1 .i64 .i64 _ _ d rfl rfl rfl rfl ?m1 ?m2 ?m3 ?_)
      case m1 => rw [HI0.out.2.2.2]; omega
      case m2 => unfold maxLen; omega
      case m3 => exact Nat.le_refl _
      intro w8 hown hg
      have H8 : Hid (Below B w1 w8) := HI.out.grown hg (HS.out _ HI.out) (by simp)
      rw [toList_madeCells_one, cells_zero] at hown
      have hcv := run_textB (by simp) hown
      have hfin : s ++ (⟨(List.replicate d (0 : UInt8)).toArray⟩ : ByteArray) = encS n m := by
        rw [HR.out.2.2.2.2.1, HR.out.2.2.2.1]
        exact encN_lastR n m s (by rw [HSS.out, HN.out.1]; rfl)
      have HF := Lib.hid hfin
      obtain ⟨t, ht⟩ : ∃ t, t = (⟨(List.replicate d (0 : UInt8)).toArray⟩ : ByteArray) := ⟨_, rfl⟩
      rw [← ht] at hcv HF
      have htz : t.size = d := by rw [ht]; simp [ByteArray.size]
      clear hg hown hfin hi ht
      go_wp2_with fail
      go_ret2
      exact ⟨by rw [← HF.out]; rfl, HR.out.2.1.trans (H8.out.mono (by rw [HR.out.2.2.1]; omega))⟩

set_option maxRecDepth 100000 in
set_option maxHeartbeats 4000000 in
theorem rencode_branch (n : Nd) (A1 A2 A3 : Option Addr) (c1 c2 c3 m : Nat) (w : World) (h : NdR w n A1 A2 A3) (m1 : 512 ≤ m) (m2 : m ≤ 4096) (m3 : m % 512 = 0) (hn : CheckN n m) (hlf : n.leaf = false) :
    Calls Try.prog 10 #[.agg (ndC n A1 A2 A3 c1 c2 c3), .int .i64 m] w fun e w' => e = .returned (.tuple #[.string (encS n m), .int .i64 0]) ∧ Below w.heap.size w w' := by
  obtain ⟨w1, hw1⟩ : ∃ w1, w1 = w.alloc (.cells (ndC n A1 A2 A3 c1 c2 c3) 25) := ⟨_, rfl⟩
  have hB1 : Below w.heap.size w w1 := by rw [hw1]; exact (Below.refl _ w).alloc (Nat.le_refl _) _
  have h' := h.below hB1
  have hck := rcheck_yes n A1 A2 A3 c1 c2 c3 m true w1 h' m1 m2 m3 (by simp [hn])
  have hbx := Blk.new w 25 (ndC n A1 A2 A3 c1 c2 c3)
  obtain ⟨bx, hbxe⟩ : ∃ bx, bx = w.heap.size := ⟨_, rfl⟩
  obtain ⟨B, hBe⟩ : ∃ B, B = w1.heap.size := ⟨_, rfl⟩
  rw [← hw1, ← hbxe] at hbx
  have hBw : B = w.heap.size + 1 := by rw [hBe, hw1]; simp
  have hbody := length_bodyN hn
  have hbm := hn.1.2
  have hlen : Hid (∀ j, j ≤ n.keys.length → (headN n ++ entsN n j).length ≤ 4096) := fun j hj => by
    have h1 := entsN_le n hj
    have h2 : (bodyN n).length = (headN n ++ entsN n n.keys.length).length := rfl
    rw [List.length_append] at h2 ⊢
    omega
  have hkey : Hid (∀ i, i < n.keys.length → (n.keys.getD i ⟨#[]⟩).size ≤ 64) := fun i hi => (hn.1.1 i hi).2.1
  have hvl : Hid (n.kids.length = n.keys.length + 1) := (hn.2.2 hlf).2.1
  have hk64 : n.keys.length ≤ 4096 := by
    have h1 := szs_ge n.keys 1 n.keys.length
    have h2 : bytesN n = 3 + szs n.keys 1 n.keys.length + 4 * n.kids.length := by unfold bytesN; rw [hlf]; rfl
    have := hn.2.2 hlf
    unfold BranchP at this
    omega
  obtain ⟨N1, hN1⟩ : ∃ N, N = n.keys.length := ⟨_, rfl⟩
  obtain ⟨N2, hN2⟩ : ∃ N, N = n.vals.length := ⟨_, rfl⟩
  obtain ⟨N3, hN3⟩ : ∃ N, N = n.kids.length := ⟨_, rfl⟩
  obtain ⟨L, hL⟩ : ∃ L, L = (bodyN n).length := ⟨_, rfl⟩
  obtain ⟨d, hd⟩ : ∃ d, d = m - L := ⟨_, rfl⟩
  have hd1 : (m : Int) - (L : Int) = (d : Int) := by omega
  have hd2 : d ≤ 4096 := by omega
  have hL2 : L ≤ 4096 := by omega
  have HR := Lib.hid (And.intro h' (And.intro hB1 (And.intro hBw (And.intro hL (And.intro hd hlf)))))
  have HCK : Hid (Calls Try.prog 16 #[.agg (ndC n A1 A2 A3 c1 c2 c3), .int .i64 m] w1 fun e w' => e = .returned (.int .i64 0) ∧ Below w1.heap.size w1 w') := hck
  unfold ndC at *
  rw [← hN1, ← hN2, ← hN3, hlf] at hw1 HCK hbx ⊢
  rw [← hN1] at hk64
  have HN := Lib.hid (And.intro hN1 (And.intro hN2 hN3))
  have HW := Lib.hid (And.intro hw1 hbxe)
  have HX : Hid (∀ u, Below B w1 u → u.cell? ⟨bx, 0, none⟩ = some (.bool false) ∧ u.cell? ⟨bx, 1, none⟩ = some (.slice A1 N1 c1) ∧ u.cell? ⟨bx, 2, none⟩ = some (.slice A2 N2 c2) ∧ u.cell? ⟨bx, 3, none⟩ = some (.slice A3 N3 c3)) := fun u hu => by
    have hk := hbx.below hu (by omega)
    exact ⟨hk.cell 0, hk.cell 1, hk.cell 2, hk.cell 3⟩
  have HRd : Hid (∀ u, Below B w1 u → NdR u n A1 A2 A3) := fun u hu => by rw [hBe] at hu; exact h'.below hu
  have HBe := Lib.hid hBe
  have HS : Hid (∀ u, Below B w1 u → B ≤ u.heap.size) := fun u hu => by rw [HBe.out]; exact hu.size
  have HT : Hid (∀ u z, Below B w1 u → Below u.heap.size u z → Below B w1 z) := fun u z hu hz => hu.trans (hz.mono (HS.out u hu))
  obtain ⟨x0, x1, x2, x3⟩ := HX.out w1 (Below.refl _ _)
  clear h hn hB1 hck hN1 hN2 hN3 hw1 hbx hbxe h' hBw hbody hbm hL hd hlf hBe
  obtain ⟨i0, hi, hq⟩ := Option.map_eq_some_iff.1 info5'
  have hz0 : i0.zero = some (.int .u8 0) := (Prod.mk.inj hq).1
  have hz1 : i0.size = 1 := (Prod.mk.inj (Prod.mk.inj hq).2).1
  have hz2 : i0.bytes = 1 := (Prod.mk.inj (Prod.mk.inj hq).2).2
  have HI0 := Lib.hid (And.intro hi (And.intro hz0 (And.intro hz1 hz2)))
  clear hq hi hz0 hz1 hz2
  go_enter Try.func10, Try.ntmps10
  go_upto_region 1 with fail
  rw [← HW.out.1, ← HW.out.2]
  go_wp2_with fail
  refine HCK.out.mono ?_
  rintro e w2 ⟨rfl, hb⟩
  have H2 : Hid (Below B w1 w2) := by show Below B w1 w2; rw [HBe.out]; exact hb
  clear hb x0 x1 x2 x3
  obtain ⟨x0, x1, x2, x3⟩ := HX.out w2 H2.out
  have hN1b : N1 < 4294967296 := by omega
  go_wp2_with fail
  refine (number2_any N1 w2 hN1b).mono ?_
  rintro e w5 ⟨rfl, hb⟩
  have H5 := Lib.hid (HT.out _ _ H2.out hb)
  clear hb x0 x1 x2 x3
  obtain ⟨y0, y1, y2, y3⟩ := HX.out w5 H5.out
  obtain ⟨b0, off0, rfl, _, hcl0⟩ := (HRd.out w5 H5.out).i (by rw [hvl.out]; omega)
  have hc0 := hcl0 0 (by rw [hvl.out]; omega)
  have hu0 := (HRd.out w5 H5.out).u 0
  obtain ⟨kd, hkd⟩ : ∃ x, x = n.kids.getD 0 0 := ⟨_, rfl⟩
  rw [← hkd, Nat.add_zero] at hc0
  rw [← hkd] at hu0
  have HKD := Lib.hid hkd
  have hN3e : 0 < N3 := by have := hvl.out; have h2 := HN.out; omega
  clear hcl0 hkd
  go_wp2_with fail
  refine (number4_any kd w5 hu0).mono ?_
  rintro e w6 ⟨rfl, hb⟩
  have HWB := Lib.hid (HT.out _ _ H5.out hb)
  clear hb y0 y1 y2 y3 hc0
  obtain ⟨y0, y1, y2, y3⟩ := HX.out w6 HWB.out
  obtain ⟨s5, hs5⟩ : ∃ s, s = ((⟨#[2]⟩ : ByteArray) ++ ⟨(be 2 N1).toArray⟩ ++ ⟨(be 4 kd).toArray⟩) := ⟨_, rfl⟩
  have HHD : Hid (s5.data.toList = headN n) := by
    show s5.data.toList = headN n
    rw [hs5, data_append, data_append, HN.out.1, HKD.out, ← headN_branch HR.out.2.2.2.2.2]
    rfl
  go_wp2_with fail
  rw [← hs5]
  clear hs5
  go_loopg [6, 7] N1 (fun g sv i wr => ∃ (k : Nat) (s : ByteArray), k + g = N1 ∧ i = .int .i64 k ∧ sv = .string s ∧ s.data.toList = headN n ++ entsN n k ∧ Below B w1 wr)
  case atStart => exact ⟨0, _, by omega, rfl, rfl, by rw [show headN n ++ entsN n 0 = headN n from List.append_nil _]; exact HHD.out, HWB.out⟩
  case round =>
    clear y0 y1 y2 y3
    obtain ⟨k, s, hk, rfl, rfl, hs, hI⟩ := hrel
    have HI := Lib.hid hI
    have HSS := Lib.hid hs
    clear hI hs
    obtain ⟨y0, y1, y2, y3⟩ := HX.out wr HI.out
    have hssz : s.size ≤ 4096 := by rw [← length_data, HSS.out]; exact hlen.out k (by rw [← HN.out.1]; omega)
    by_cases hlt : k < N1
    · have HKE := hkey.out k (by rw [← HN.out.1]; omega)
      obtain ⟨b, off, rfl, _, hcl⟩ := (HRd.out wr HI.out).k (by rw [← HN.out.1]; omega)
      have hcell := hcl k (by rw [← HN.out.1]; exact hlt)
      have HC1 : Hid (∀ u, Below B w1 u → u.cell? ⟨b, off + k, none⟩ = some (.string (n.keys.getD k ⟨#[]⟩))) := fun u hu => by
        obtain ⟨b3, off3, e, _, hcl3⟩ := (HRd.out u hu).k (by rw [← HN.out.1]; omega)
        injection e with e
        injection e with e1 e2
        subst e1 e2
        exact hcl3 k (by rw [← HN.out.1]; exact hlt)
      have HC2 : Hid (∀ u, Below B w1 u → u.cell? ⟨b0, off0 + (k + 1), none⟩ = some (.int .u32 (n.kids.getD (k + 1) 0 : Nat))) := fun u hu => by
        obtain ⟨b3, off3, e, _, hcl3⟩ := (HRd.out u hu).i (by rw [hvl.out]; omega)
        injection e with e
        injection e with e1 e2
        subst e1 e2
        exact hcl3 (k + 1) (by rw [hvl.out, ← HN.out.1]; omega)
      have hu1 := (HRd.out wr HI.out).u (k + 1)
      have hent : entsN n (k + 1) = entsN n k ++ (be 1 (n.keys.getD k ⟨#[]⟩).size ++ ((n.keys.getD k ⟨#[]⟩).data.toList ++ be 4 (n.kids.getD (k + 1) 0))) := by
        show entsN n k ++ entN n k = _
        unfold entN
        rw [HR.out.2.2.2.2.2]
        rfl
      obtain ⟨x, hx⟩ : ∃ x, x = n.keys.getD k ⟨#[]⟩ := ⟨_, rfl⟩
      obtain ⟨y, hy⟩ : ∃ y, y = n.kids.getD (k + 1) 0 := ⟨_, rfl⟩
      rw [← hx] at hcell HKE hent HC1
      rw [← hy] at HC2 hent hu1
      obtain ⟨z, hz⟩ : ∃ z, z = x.size := ⟨_, rfl⟩
      have hz' : x.size = z := hz.symm
      rw [hz'] at HKE hent
      obtain ⟨kp, hkp⟩ : ∃ kp, kp = k + 1 := ⟨_, rfl⟩
      have HE : Hid (entsN n (k + 1) = _) := hent
      have HKP := Lib.hid hkp
      have hN3k : kp < N3 := by have := hvl.out; have h2 := HN.out; omega
      have hz32 : z < 4294967296 := by omega
      rw [← hkp] at HC2
      have hk1 : (k : Int) + 1 = (kp : Int) := by omega
      have hk3 : kp ≤ 4096 := by omega
      have hk4 : (kp : Int) < (N3 : Int) := by omega
      have hk5 : (0 : Int) ≤ (kp : Int) := by omega
      have HK : Hid (∀ u t, Below B w1 u → Below u.heap.size u t → Below B w1 t ∧ t.cell? ⟨bx, 1, none⟩ = some (.slice (some ⟨b, off, none⟩) N1 c1) ∧ t.cell? ⟨bx, 3, none⟩ = some (.slice (some ⟨b0, off0, none⟩) N3 c3) ∧ t.cell? ⟨b, off + k, none⟩ = some (.string x) ∧ t.cell? ⟨b0, off0 + kp, none⟩ = some (.int .u32 (y : Nat))) := fun u t hu ht => by
        have := HT.out u t hu ht
        exact ⟨this, (HX.out t this).2.1, (HX.out t this).2.2.2, HC1.out t this, HC2.out t this⟩
      clear hx hy hz hent hcl hkp
      go_wp2_with fail
      obtain ⟨t1, ht1⟩ : ∃ t, t = (⟨(be 1 z).toArray⟩ : ByteArray) := ⟨_, rfl⟩
      have ht2 : t1.size = 1 := by rw [ht1]; rfl
      have hn1 := number1_any z wr hz32
      rw [← ht1] at hn1
      have HT1 := Lib.hid ht1
      clear ht1
      refine hn1.mono ?_
      rintro e w7 ⟨rfl, hb⟩
      clear hn1
      have K0 := Lib.hid (HK.out _ _ HI.out hb)
      clear hb hcell y0 y1 y2 y3
      obtain ⟨y0, _, _, _⟩ := HX.out w7 K0.out.1
      obtain ⟨s7, hs7⟩ : ∃ t, t = s ++ t1 := ⟨_, rfl⟩
      have hs8 : s7.size ≤ 4097 := by rw [hs7, ByteArray.size_append]; omega
      go_wp2_with fail
      rw [← hs7]
      have HS7 : Hid (s7 = s ++ (⟨(be 1 z).toArray⟩ : ByteArray)) := by rw [hs7, HT1.out]; exact rfl
      clear hs7
      · skip
        obtain ⟨t2, ht2⟩ : ∃ t, t = (⟨(be 4 y).toArray⟩ : ByteArray) := ⟨_, rfl⟩
        have ht3 : t2.size = 4 := by rw [ht2]; rfl
        have hnn := fun u => number4_any y u hu1
        rw [← ht2] at hnn
        have HNN := Lib.hid hnn
        have HT2 := Lib.hid ht2
        clear ht2 hnn
        obtain ⟨s60, h60⟩ : ∃ t, t = s7 ++ x := ⟨_, rfl⟩
        obtain ⟨s66, h66⟩ : ∃ t, t = s60 ++ t2 := ⟨_, rfl⟩
        have z60 : s60.size = s7.size + x.size := by rw [h60, ByteArray.size_append]
        have r60 := add_run h60 (by omega)
        have r66 := add_run h66 (by omega)
        have q60 := add_run2 h60 (by omega)
        have q66 := add_run2 h66 (by omega)
        have HA := Lib.hid (And.intro h60 h66)
        have hkI0 : (0 : Int) ≤ (k : Int) := by omega
        have hkI1 : (k : Int) < (N1 : Int) := by omega
        have hkw : IntKind.i64.wrap (k : Int) = (k : Int) := IntWalk.i64_in _ (by omega)
        have hkw2 : IntKind.i64.wrap ((k : Int) + 1) = (kp : Int) := by rw [hk1]; exact IntWalk.i64_in _ (by omega)
        have hkw3 : IntKind.i64.wrap (kp : Int) = (kp : Int) := IntWalk.i64_in _ (by omega)
        clear z60 h60 h66 ht3 hs8
        have x1 := K0.out.2.1
        have x2 := K0.out.2.2.1
        have x3 := K0.out.2.2.2.1
        have x4 := K0.out.2.2.2.2
        go_region_held3 (fun w' => w'.cell? ⟨bx, 1, none⟩ = some (.slice (some ⟨b, off, none⟩) N1 c1) ∧ w'.cell? ⟨bx, 3, none⟩ = some (.slice (some ⟨b0, off0, none⟩) N3 c3) ∧ w'.cell? ⟨b, off + k, none⟩ = some (.string x) ∧ w'.cell? ⟨b0, off0 + kp, none⟩ = some (.int .u32 (y : Nat))) (first | exact ⟨x1, x2, x3, x4⟩ | exact K1.out.2)
          (first
            | (go_at_call 33; refine (HNN.out _).mono ?_; rintro e y1 ⟨rfl, hb⟩; have K1 := Lib.hid (HK.out _ _ (by repeat (first | exact K0.out.1 | refine Below.drew ?_ | refine below_drewN ?_ _)) hb); clear hb))
        all_goals
          go_wp2_with fail
          go_roundg (gk - 1)
          all_goals first
            | omega
            | (refine ⟨k + 1, _, by omega, by go_num, rfl, ?_, by repeat (first | exact K1.out.1 | refine Below.drew ?_ | refine below_drewN ?_ _)⟩
               rw [HA.out.2, HA.out.1, data_append, data_append, HS7.out, HT2.out, data_append, HSS.out, HE.out]
               simp only [List.append_assoc])
    · have hk2 : k = N1 := by omega
      subst hk2
      have hsz : s.size = L := by rw [← length_data, HSS.out, HR.out.2.2.2.1, HN.out.1]; rfl
      have hi := HI0.out.1
      go_wp2_with (refine wpList_make_full _ rfl (.tmp 92) (.tmp 92) 43 rfl wr.heap.size 5 i0 (.int .u8 0) 1 Try.underlying43 HI0.out.1 HI0.out.2.1 HI0.out.2.2.1 .i64 .i64 _ _ d rfl rfl rfl rfl ?m1 ?m2 ?m3 ?_)
      case m1 => rw [HI0.out.2.2.2]; omega
      case m2 => unfold maxLen; omega
      case m3 => exact Nat.le_refl _
      intro w8 hown hg
      have H8 : Hid (Below B w1 w8) := HI.out.grown hg (HS.out _ HI.out) (by simp)
      rw [toList_madeCells_one, cells_zero] at hown
      have hcv := run_textB (by simp) hown
      have hfin : s ++ (⟨(List.replicate d (0 : UInt8)).toArray⟩ : ByteArray) = encS n m := by
        rw [HR.out.2.2.2.2.1, HR.out.2.2.2.1]
        exact encN_lastR n m s (by rw [HSS.out, HN.out.1]; rfl)
      have HF := Lib.hid hfin
      obtain ⟨t, ht⟩ : ∃ t, t = (⟨(List.replicate d (0 : UInt8)).toArray⟩ : ByteArray) := ⟨_, rfl⟩
      rw [← ht] at hcv HF
      have htz : t.size = d := by rw [ht]; simp [ByteArray.size]
      clear hg hown hfin hi ht
      go_wp2_with fail
      go_ret2
      exact ⟨by rw [← HF.out]; rfl, HR.out.2.1.trans (H8.out.mono (by rw [HR.out.2.2.1]; omega))⟩
theorem rencode_yes (n : Nd) (A1 A2 A3 : Option Addr) (c1 c2 c3 : Nat) (m : Int) (w : World) (h : NdR w n A1 A2 A3) (hn : EncP n m) :
    Calls Try.prog 10 #[.agg (ndC n A1 A2 A3 c1 c2 c3), .int .i64 m] w fun e w' => e = .returned (.tuple #[.string (encS n m.toNat), .int .i64 0]) ∧ Below w.heap.size w w' := by
  obtain ⟨hs, hc⟩ := hn
  obtain ⟨k, rfl, h1, h2, h3⟩ := hs.nat
  have e : ((k : Int)).toNat = k := by omega
  rw [e] at hc ⊢
  cases hl : n.leaf with
  | true => exact rencode_leaf n A1 A2 A3 c1 c2 c3 k w h h1 h2 h3 hc hl
  | false => exact rencode_branch n A1 A2 A3 c1 c2 c3 k w h h1 h2 h3 hc hl
end Go.Proofs.Ytpggicaphejjfaa
