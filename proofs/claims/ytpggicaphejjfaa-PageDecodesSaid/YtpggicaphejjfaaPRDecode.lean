/-
  The reference's Decode.
-/
import Derived.Test.YtpggicaphejjfaaPDecT
import Derived.Deep.RegionLaw
set_option linter.unusedVariables false
set_option linter.unusedSimpArgs false
namespace Go.Proofs.Ytpggicaphejjfaa
open Go.RowKit

theorem extract_mid (r : List UInt8) (a b : Nat) : (mkB r).extract a b = mkB ((r.drop a).take (b - a)) := by
  apply ba_ext
  rw [mkB_data]
  simp only [ByteArray.data_extract, mkB, Array.toList_extract, List.extract_eq_take_drop]
theorem getElem_mkB (s : ByteArray) (L : List UInt8) (h : s = mkB L) (k : Nat) (hk : k < s.size) : s[k]'hk = L.getD k 0 := by
  subst h
  have hk' : k < L.length := by rw [mkB_size] at hk; exact hk
  show (mkB L).data[k]'_ = _
  simp [mkB, List.getD, hk']
theorem tB_no {n : Nat} {r : List UInt8} (h : n ≤ r.length) : tB n false r = false := by unfold tB; simp; omega
theorem tT_no {n : Nat} {r : List UInt8} (h : n ≤ r.length) : tT n false r = r.take n := by unfold tT; rw [tB_no h]; rfl
theorem tR_no {n : Nat} {r : List UInt8} (h : n ≤ r.length) : tR n false r = r.drop n := by unfold tR; rw [tB_no h]; rfl
theorem kind_head {L : List UInt8} (h : 1 ≤ L.length) : kindOf L = (L.getD 0 0).toNat := by
  cases L with
  | nil => simp at h
  | cons x r =>
    unfold kindOf
    rw [tT_no h]
    simp [val, valL]
theorem head_facts {L : List UInt8} (h : 512 ≤ L.length) : tB 1 false L = false ∧ tR 1 false L = L.drop 1 ∧ tT 2 false (L.drop 1) = (L.drop 1).take 2 ∧ tB 2 false (L.drop 1) = false ∧ tR 2 false (L.drop 1) = L.drop 3 ∧ tT 4 false (L.drop 3) = (L.drop 3).take 4 ∧ tB 4 false (L.drop 3) = false ∧ tR 4 false (L.drop 3) = L.drop 7 := by
  have l1 : (L.drop 1).length = L.length - 1 := by simp
  have l3 : (L.drop 3).length = L.length - 3 := by simp
  refine ⟨tB_no (by omega), tR_no (by omega), tT_no (by omega), tB_no (by omega), ?_, tT_no (by omega), tB_no (by omega), ?_⟩
  · rw [tR_no (by omega), List.drop_drop]
  · rw [tR_no (by omega), List.drop_drop]
theorem start_leaf {L : List UInt8} (h : 512 ≤ L.length) (hk : kindOf L = 1) : start L = (true, val ((L.drop 1).take 2), ⟨[], [], [], false, L.drop 3⟩) := by
  obtain ⟨a1, a2, a3, a4, a5, _⟩ := head_facts h
  simp only [start, a1, a2, a3, a4, a5, hk, decide_true, if_true]
theorem start_branch {L : List UInt8} (h : 512 ≤ L.length) (hk : ¬ kindOf L = 1) : start L = (false, val ((L.drop 1).take 2), ⟨[], [], [val ((L.drop 3).take 4)], false, L.drop 7⟩) := by
  obtain ⟨a1, a2, a3, a4, a5, a6, a7, a8⟩ := head_facts h
  simp only [start, a1, a2, a3, a4, a5, a6, a7, a8, decide_eq_false hk, Bool.false_eq_true, if_false]
theorem tB_true (n : Nat) (r : List UInt8) : tB n true r = true := rfl
theorem val_len (l : List UInt8) (n : Nat) (h : l.length ≤ n) (hn : n ≤ 4) : val l < 4294967296 := by
  have h1 := val_lt l
  exact Nat.lt_of_lt_of_le h1 (Nat.le_trans (Nat.pow_le_pow_right (by decide) (Nat.le_trans h hn)) (by decide))
theorem OwnD.only25 {F : Nat → Prop} {W W' : World} {B : Nat} {n : Nd} {K V U : Option Addr} {c1 c2 c3 : Nat} (h : OwnD W B n K V U c1 c2 c3) (ho : Only F W W') (hF : ∀ g, F g → ∃ cs, Blk W g 25 cs) : OwnD W' B n K V U c1 c2 c3 :=
  ⟨own_only h.1 ho (fun g hg hf => by obtain ⟨cs, hb⟩ := hF g hf; exact own_blk_ne h.1 hb (by decide) g hg rfl), own_only h.2.1 ho (fun g hg hf => by obtain ⟨cs, hb⟩ := hF g hf; exact own_blk_ne h.2.1 hb (by decide) g hg rfl),
    own_only h.2.2.1 ho (fun g hg hf => by obtain ⟨cs, hb⟩ := hF g hf; exact own_blk_ne h.2.2.1 hb (by decide) g hg rfl), h.2.2.2⟩

set_option maxRecDepth 100000 in
set_option maxHeartbeats 1000000 in
theorem rdecode_no (s : ByteArray) (w : World) (hs : s.size ≤ 140737488355328) (h : ¬ SizeP s.size) : Calls Try.prog 24 #[.string s] w (DecPost s w) := by
  have hno : Hid (¬ ∃ n, ValidN s n) := fun ⟨n, hv⟩ => h hv.2.1.1
  obtain ⟨w1, hw1⟩ : ∃ w1, w1 = w.alloc (.cells #[.bool false, .slice none 0 0, .slice none 0 0, .slice none 0 0] 25) := ⟨_, rfl⟩
  obtain ⟨b2, hb2⟩ : ∃ b2, b2 = w.heap.size := ⟨_, rfl⟩
  have hk : Blk w1 b2 25 zN := by rw [hw1, hb2]; exact Blk.new w 25 _
  have hB1 : Below w.heap.size w w1 := by rw [hw1]; exact (Below.refl _ w).alloc (Nat.le_refl _) _
  obtain ⟨m, hm⟩ : ∃ m, m = s.size := ⟨_, rfl⟩
  have hm' : s.size = m := hm.symm
  rw [← hm] at hs h
  have HC := Lib.hid (rsize_no m w1 h)
  have HW := Lib.hid (And.intro hw1 hb2)
  have HK := Lib.hid (And.intro hk (And.intro hB1 (Nat.le_of_eq hb2.symm)))
  clear h hk hB1 hw1 hb2 hm
  go_enter Try.func24, Try.ntmps24
  go_upto_region 1 with fail
  rw [← HW.out.1, ← HW.out.2]
  go_wp2_with fail
  refine HC.out.mono ?_
  rintro e w2 ⟨rfl, rfl⟩
  have k2 := HK.out.1
  have x0 := k2.cell 0
  have x1 := k2.cell 1
  have x2 := k2.cell 2
  have x3 := k2.cell 3
  have f0 := k2.frozen 0
  have f1 := k2.frozen 1
  have f2 := k2.frozen 2
  have f3 := k2.frozen 3
  simp [zN] at x0 x1 x2 x3
  have HE2 := Lib.hid (And.intro k2 (And.intro HK.out.2.1 HK.out.2.2))
  clear k2
  go_wp2_with fail
  have hfk := ((((HE2.out.1.set_ 0 (.bool false)).set_ 1 (.slice none 0 0)).set_ 2 (.slice none 0 0)).set_ 3 (.slice none 0 0))
  refine bodyPost_ret (results_cell_tmp rfl _ _ b2 25 zN (0, 0) _ rfl hfk Try.underlying25 rfl (by kernel_rfl)) rfl ?_
  exact decPost_no ((((HE2.out.2.1.setCell (p := ⟨b2, 0, none⟩) HE2.out.2.2 _).setCell (p := ⟨b2, 1, none⟩) HE2.out.2.2 _).setCell (p := ⟨b2, 2, none⟩) HE2.out.2.2 _).setCell (p := ⟨b2, 3, none⟩) HE2.out.2.2 _) hno.out

set_option maxRecDepth 100000 in
set_option maxHeartbeats 1000000 in
theorem rdecode_kind (s : ByteArray) (w : World) (hs : s.size ≤ 140737488355328) (h : SizeP s.size) (hk1 : ¬ kindOf s.data.toList = 1) (hk2 : ¬ kindOf s.data.toList = 2) : Calls Try.prog 24 #[.string s] w (DecPost s w) := by
  have hno : Hid (¬ ∃ n, ValidN s n) := fun ⟨n, hv⟩ => (valid_kind hv).elim hk1 hk2
  obtain ⟨w1, hw1⟩ : ∃ w1, w1 = w.alloc (.cells #[.bool false, .slice none 0 0, .slice none 0 0, .slice none 0 0] 25) := ⟨_, rfl⟩
  obtain ⟨b2, hb2⟩ : ∃ b2, b2 = w.heap.size := ⟨_, rfl⟩
  have hk : Blk w1 b2 25 zN := by rw [hw1, hb2]; exact Blk.new w 25 _
  have hB1 : Below w.heap.size w w1 := by rw [hw1]; exact (Below.refl _ w).alloc (Nat.le_refl _) _
  obtain ⟨m, hm⟩ : ∃ m, m = s.size := ⟨_, rfl⟩
  have hm' : s.size = m := hm.symm
  rw [← hm] at h
  unfold SizeP at h
  have HC := Lib.hid (rsize_yes m w1 (by omega) (by omega) (by omega))
  have hm5 : 512 ≤ m := by omega
  have hlt0 : 0 < s.size := by omega
  have hx0 := getElem_mkB s s.data.toList (mkB_of s).symm 0 hlt0
  rw [kind_head (by rw [length_data]; omega)] at hk1 hk2
  obtain ⟨y, hy⟩ : ∃ y, y = s.data.toList.getD 0 0 := ⟨_, rfl⟩
  rw [← hy] at hx0 hk1 hk2
  obtain ⟨kd, hkd⟩ : ∃ kd, kd = y.toNat := ⟨_, rfl⟩
  have hyk : y.toNat = kd := hkd.symm
  rw [← hkd] at hk1 hk2
  have g1 : ((kd : Int) != 1) = true := by rw [bne_iff_ne]; omega
  have g2 : ((kd : Int) != 2) = true := by rw [bne_iff_ne]; omega
  clear hy hkd hk1 hk2
  have HW := Lib.hid (And.intro hw1 hb2)
  have HK := Lib.hid (And.intro hk (And.intro hB1 (Nat.le_of_eq hb2.symm)))
  clear h hk hB1 hw1 hb2 hm
  go_enter Try.func24, Try.ntmps24
  go_upto_region 1 with fail
  rw [← HW.out.1, ← HW.out.2]
  go_wp2_with fail
  refine HC.out.mono ?_
  rintro e w2 ⟨rfl, rfl⟩
  have k2 := HK.out.1
  have x0 := k2.cell 0
  have x1 := k2.cell 1
  have x2 := k2.cell 2
  have x3 := k2.cell 3
  have f0 := k2.frozen 0
  have f1 := k2.frozen 1
  have f2 := k2.frozen 2
  have f3 := k2.frozen 3
  simp [zN] at x0 x1 x2 x3
  have HE2 := Lib.hid (And.intro k2 (And.intro HK.out.2.1 HK.out.2.2))
  clear k2
  go_wp2_with fail
  have hfk := ((((HE2.out.1.set_ 0 (.bool false)).set_ 1 (.slice none 0 0)).set_ 2 (.slice none 0 0)).set_ 3 (.slice none 0 0))
  refine bodyPost_ret (results_cell_tmp rfl _ _ b2 25 zN (0, 0) _ rfl hfk Try.underlying25 rfl (by kernel_rfl)) rfl ?_
  exact decPost_no ((((HE2.out.2.1.setCell (p := ⟨b2, 0, none⟩) HE2.out.2.2 _).setCell (p := ⟨b2, 1, none⟩) HE2.out.2.2 _).setCell (p := ⟨b2, 2, none⟩) HE2.out.2.2 _).setCell (p := ⟨b2, 3, none⟩) HE2.out.2.2 _) hno.out

set_option maxRecDepth 100000 in
set_option maxHeartbeats 8000000 in
theorem rdecode_leaf (s : ByteArray) (w : World) (h : SizeP s.size) (hkd : kindOf s.data.toList = 1) : Calls Try.prog 24 #[.string s] w (DecPost s w) := by
  obtain ⟨i9, hi9, hq9⟩ := Option.map_eq_some_iff.1 info9
  obtain ⟨i42, hi42, hq42⟩ := Option.map_eq_some_iff.1 info42
  have I9 : Hid (i9.zero = some (.string ⟨#[]⟩) ∧ i9.size = 1 ∧ i9.bytes = 16) := ⟨(Prod.mk.inj hq9).1, (Prod.mk.inj (Prod.mk.inj hq9).2).1, (Prod.mk.inj (Prod.mk.inj hq9).2).2⟩
  have I42 : Hid (i42.zero = some (.int .u32 0) ∧ i42.size = 1 ∧ i42.bytes = 4) := ⟨(Prod.mk.inj hq42).1, (Prod.mk.inj (Prod.mk.inj hq42).2).1, (Prod.mk.inj (Prod.mk.inj hq42).2).2⟩
  have HI9 := Lib.hid hi9
  have HI42 := Lib.hid hi42
  clear hq9 hq42 hi9 hi42
  obtain ⟨m, hm⟩ : ∃ m, m = s.size := ⟨_, rfl⟩
  have hm' : s.size = m := hm.symm
  have hsP := h
  rw [← hm] at h
  unfold SizeP at h
  have m1 : 512 ≤ m := by omega
  have m2 : m ≤ 4096 := by omega
  have m3 : m % 512 = 0 := by omega
  clear h
  obtain ⟨L, hL⟩ : ∃ L, L = s.data.toList := ⟨_, rfl⟩
  have hLl : L.length = m := by rw [hL, length_data, hm]
  have hsL : s = mkB L := by rw [hL, mkB_of]
  rw [← hL] at hkd
  have hst := start_leaf (by omega) hkd
  have hlt0 : 0 < s.size := by omega
  have hx0 := getElem_mkB s L hsL 0 hlt0
  rw [kind_head (by omega)] at hkd
  obtain ⟨y, hy⟩ : ∃ y, y = L.getD 0 0 := ⟨_, rfl⟩
  rw [← hy] at hx0 hkd
  have e13 : s.extract 1 3 = mkB ((L.drop 1).take 2) := by rw [hsL]; exact extract_mid L 1 3
  have e3m : s.extract 3 m = mkB (L.drop 3) := by rw [hsL, extract_mid]; congr 1; exact List.take_of_length_le (by simp; omega)
  obtain ⟨cl, hcl⟩ : ∃ c, c = (L.drop 1).take 2 := ⟨_, rfl⟩
  obtain ⟨r3, hr3⟩ : ∃ r, r = L.drop 3 := ⟨_, rfl⟩
  rw [← hcl] at e13 hst
  rw [← hr3] at e3m
  obtain ⟨C, hC⟩ : ∃ C, C = val cl := ⟨_, rfl⟩
  rw [← hC] at hst
  have hcl2 : cl.length ≤ 2 := by rw [hcl]; simp; omega
  have hC2 : C ≤ 65535 := by
    have h1 := val_lt cl
    have h3 : 256 ^ cl.length ≤ 256 ^ 2 := Nat.pow_le_pow_right (by decide) hcl2
    have h4 : (256 : Nat) ^ 2 = 65536 := by decide
    omega
  obtain ⟨scl, hscl⟩ : ∃ q, q = mkB cl := ⟨_, rfl⟩
  obtain ⟨sr3, hsr3⟩ : ∃ q, q = mkB r3 := ⟨_, rfl⟩
  have hr3l : r3.length = m - 3 := by rw [hr3]; simp; omega
  have hz3 : sr3.size = m - 3 := by rw [hsr3, mkB_size, hr3l]
  rw [← hscl] at e13
  rw [← hsr3] at e3m
  have HVC : Hid (∀ u, Calls Try.prog 41 #[.string scl] u fun e w' => e = .returned (.int .i64 (C : Nat)) ∧ u = w') := fun u => by rw [hscl, hC]; exact value_any cl u (by omega)
  obtain ⟨w1, hw1⟩ : ∃ w1, w1 = w.alloc (.cells #[.bool false, .slice none 0 0, .slice none 0 0, .slice none 0 0] 25) := ⟨_, rfl⟩
  obtain ⟨b2, hb2⟩ : ∃ b2, b2 = w.heap.size := ⟨_, rfl⟩
  have HSZ := Lib.hid (rsize_yes m w1 m1 m2 m3)
  obtain ⟨w3, hw3⟩ : ∃ w3, w3 = w1.alloc (.cells #[.bool true, .slice none 0 0, .slice none 0 0, .slice none 0 0] 25) := ⟨_, rfl⟩
  obtain ⟨pn, hpn⟩ : ∃ pn, pn = w1.heap.size := ⟨_, rfl⟩
  have hs1 : w1.heap.size = w.heap.size + 1 := by rw [hw1]; simp
  have hB1 : Below w.heap.size w w1 := by rw [hw1]; exact (Below.refl _ w).alloc (Nat.le_refl _) _
  have hD3 : DecT w b2 pn true ⟨[], [], [], false, r3⟩ none none none 0 0 0 w3 := by
    refine ⟨by rw [hw3]; exact hB1.alloc hB1.size _, by rw [hw3]; simp; omega, ⟨by omega, by omega⟩, by omega, ?_, ?_, ⟨rfl, .inl ⟨rfl, rfl⟩⟩, ⟨rfl, .inl ⟨rfl, rfl⟩⟩, ⟨rfl, .inl ⟨rfl, rfl⟩⟩, fun k hk => by simp [Value.ownBlock] at hk⟩
    · rw [hw3, hw1, hb2]; exact (Blk.new w 25 _).alloc _
    · rw [hw3, hpn]; exact Blk.new w1 25 _
  have HW := Lib.hid (And.intro hw1 (And.intro hb2 (And.intro hw3 hpn)))
  have HD3 := Lib.hid hD3
  have HST := Lib.hid hst
  have HL := Lib.hid (And.intro hL (And.intro hsP (And.intro hr3l (And.intro hr3 (And.intro hLl hsr3)))))
  clear hm hsP m3 hL hLl hsL hst hy hcl hr3 hC hcl2 hscl hsr3 hw1 hb2 hw3 hpn hs1 hB1 hD3
  go_enter Try.func24, Try.ntmps24
  go_upto_region 1 with fail
  rw [← HW.out.1, ← HW.out.2.1]
  go_wp2_with fail
  refine HSZ.out.mono ?_
  rintro e w2 ⟨rfl, rfl⟩
  go_upto_region 4 with fail
  rw [← HW.out.2.2.1, ← HW.out.2.2.2]
  go_wp2_with fail
  refine (HVC.out w3).mono ?_
  rintro e w4 ⟨rfl, rfl⟩
  have z0 := HD3.out.cl0
  obtain ⟨p0, hp0⟩ : ∃ p0, p0 = (⟨[], [], [], false, r3⟩ : PS) := ⟨_, rfl⟩
  have HST0 : Hid (start L = (true, C, p0)) := by show start L = (true, C, p0); rw [hp0]; rw [HL.out.2.2.2.1]; exact (by have := HST.out; exact this)
  have HP0 := Lib.hid hp0
  have hok0 : Hid (PSok p0 0) := by show PSok p0 0; rw [hp0]; exact ⟨by show r3.length ≤ 4096; omega, rfl, Nat.le_refl _, Nat.zero_le _, fun i => by simp [ByteArray.size], fun i => by simp [ByteArray.size], fun i => by simp⟩
  have hb0 : Hid (p0.b = false) := by show p0.b = false; rw [hp0]
  obtain ⟨sp0, hsp0⟩ : ∃ q, q = mkB p0.r := ⟨_, rfl⟩
  have hss : sr3 = sp0 := by rw [hsp0, hp0]; exact HL.out.2.2.2.2.2
  have HD0 : Hid (DecT w b2 pn true p0 none none none 0 0 0 w3) := by show DecT w b2 pn true p0 none none none 0 0 0 w3; rw [hp0]; exact HD3.out
  subst hss
  have HSP0 := Lib.hid hsp0
  clear hsp0
  clear hp0
  go_wp2_with fail
  go_loopg [6, 7] C (fun g v6 v7 wr => ∃ (k : Nat) (K V U : Option Addr) (e1 e2 e3 : Nat) (sr : ByteArray), k + g = C ∧ v7 = .int .i64 (k : Nat) ∧ v6 = .string sr ∧ sr = mkB (iter true p0 k).r ∧ (iter true p0 k).b = false ∧ DecT w b2 pn true (iter true p0 k) K V U e1 e2 e3 wr)
  case atStart => exact ⟨0, none, none, none, 0, 0, 0, _, by omega, rfl, rfl, HSP0.out, hb0.out, HD0.out⟩
  case round =>
    obtain ⟨k, K, V, U, e1, e2, e3, sr, hk, rfl, rfl, hsr, hbf, hD⟩ := hrel
    have hok := ok_iter hok0.out k (leaf := true)
    obtain ⟨p, hp⟩ : ∃ p, p = iter true p0 k := ⟨_, rfl⟩
    rw [← hp] at hD hok hsr hbf
    have HD := Lib.hid hD
    have HOK := Lib.hid hok
    have HP := Lib.hid (And.intro hp (And.intro hsr hbf))
    clear hD hok hp hsr hbf
    by_cases hlt : k < C
    · have hway : Hid (∀ n, ValidN s n → (step true p).b = false) := fun n hv => by
        have := valid_way hv (by rw [← HL.out.1]; exact HST0.out) (show k + 1 ≤ C by omega)
        rw [HP.out.1]
        exact this
      obtain ⟨t1, ht1⟩ : ∃ t, t = mkB (tT 1 false p.r) := ⟨_, rfl⟩
      obtain ⟨R2, hR2⟩ : ∃ t, t = tR 1 false p.r := ⟨_, rfl⟩
      obtain ⟨S2, hS2⟩ : ∃ t, t = mkB R2 := ⟨_, rfl⟩
      have hRb2 : R2.length ≤ 4096 := by rw [hR2]; exact Nat.le_trans (length_tR _ _ _) HOK.out.r
      have HS2 := Lib.hid (And.intro hS2 (And.intro hR2 ht1))
      by_cases hb1 : tB 1 false p.r = true
      · have htk := HD.out.take p.r HOK.out.r 1 (by decide) t1 ⟨#[]⟩ false ht1 (by rw [hb1]; rfl) (by rw [hb1]; rfl)
        rw [← HP.out.2.1] at htk
        have HTK := Lib.hid htk
        have hno : Hid (¬ ∃ n, ValidN s n) := fun ⟨n', hv⟩ => by
          have h1 := hway.out n' hv
          have h2 : (step true p).b = true := by
            show (stepL p).b = true
            simp only [stepL, HP.out.2.2, hb1, tB_true]
          rw [h2] at h1
          cases h1
        clear htk ht1 hR2 hS2 hb1
        go_wp2_with fail
        refine HTK.out.mono ?_
        rintro e w8 ⟨rfl, hD8⟩
        have HD8 := Lib.hid hD8
        clear hD8
        have k2 := HD8.out.k2
        have x0 := k2.cell 0
        have x1 := k2.cell 1
        have x2 := k2.cell 2
        have x3 := k2.cell 3
        have f0 := k2.frozen 0
        have f1 := k2.frozen 1
        have f2 := k2.frozen 2
        have f3 := k2.frozen 3
        simp [zN] at x0 x1 x2 x3
        have HE2 := Lib.hid (And.intro k2 (And.intro HD8.out.bl HD8.out.lo.1))
        clear k2
        go_wp2_with fail
        have hfk := ((((HE2.out.1.set_ 0 (.bool false)).set_ 1 (.slice none 0 0)).set_ 2 (.slice none 0 0)).set_ 3 (.slice none 0 0))
        refine bodyPost_ret (results_cell_tmp rfl _ _ b2 25 zN (0, 0) _ rfl hfk Try.underlying25 rfl (by kernel_rfl)) rfl ?_
        exact decPost_no ((((HE2.out.2.1.setCell (p := ⟨b2, 0, none⟩) HE2.out.2.2 _).setCell (p := ⟨b2, 1, none⟩) HE2.out.2.2 _).setCell (p := ⟨b2, 2, none⟩) HE2.out.2.2 _).setCell (p := ⟨b2, 3, none⟩) HE2.out.2.2 _) hno.out
      have hbf1 : tB 1 false p.r = false := Bool.eq_false_iff.2 hb1
      have htk := HD.out.take p.r HOK.out.r 1 (by decide) t1 S2 true ht1 (by rw [hbf1, hS2, hR2]; rfl) (by rw [hbf1]; rfl)
      rw [← HP.out.2.1] at htk
      have HTK1 := Lib.hid htk
      have HB1 := Lib.hid hbf1
      clear htk ht1 hR2 hS2 hb1 hbf1
      go_wp2_with fail
      refine HTK1.out.mono ?_
      rintro e u1w ⟨rfl, hD1⟩
      have HDS1 := Lib.hid hD1
      clear hD1
      have z0 := HDS1.out.cl0
      obtain ⟨t2, ht2⟩ : ∃ t, t = mkB (tT 2 false R2) := ⟨_, rfl⟩
      obtain ⟨R3, hR3⟩ : ∃ t, t = tR 2 false R2 := ⟨_, rfl⟩
      obtain ⟨S3, hS3⟩ : ∃ t, t = mkB R3 := ⟨_, rfl⟩
      have hRb3 : R3.length ≤ 4096 := by rw [hR3]; exact Nat.le_trans (length_tR _ _ _) hRb2
      have HS3 := Lib.hid (And.intro hS3 (And.intro hR3 ht2))
      by_cases hb2 : tB 2 false R2 = true
      · have htk := HDS1.out.take R2 hRb2 2 (by decide) t2 ⟨#[]⟩ false ht2 (by rw [hb2]; rfl) (by rw [hb2]; rfl)
        rw [← HS2.out.1] at htk
        have HTK := Lib.hid htk
        have hno : Hid (¬ ∃ n, ValidN s n) := fun ⟨n', hv⟩ => by
          have h1 := hway.out n' hv
          have h2 : (step true p).b = true := by
            show (stepL p).b = true
            rw [HS2.out.2.1] at hb2
            simp only [stepL, HP.out.2.2, HB1.out, hb2, tB_true]
          rw [h2] at h1
          cases h1
        clear htk ht2 hR3 hS3 hb2
        go_wp2_with fail
        refine HTK.out.mono ?_
        rintro e w8 ⟨rfl, hD8⟩
        have HD8 := Lib.hid hD8
        clear hD8
        have k2 := HD8.out.k2
        have x0 := k2.cell 0
        have x1 := k2.cell 1
        have x2 := k2.cell 2
        have x3 := k2.cell 3
        have f0 := k2.frozen 0
        have f1 := k2.frozen 1
        have f2 := k2.frozen 2
        have f3 := k2.frozen 3
        simp [zN] at x0 x1 x2 x3
        have HE2 := Lib.hid (And.intro k2 (And.intro HD8.out.bl HD8.out.lo.1))
        clear k2
        go_wp2_with fail
        have hfk := ((((HE2.out.1.set_ 0 (.bool false)).set_ 1 (.slice none 0 0)).set_ 2 (.slice none 0 0)).set_ 3 (.slice none 0 0))
        refine bodyPost_ret (results_cell_tmp rfl _ _ b2 25 zN (0, 0) _ rfl hfk Try.underlying25 rfl (by kernel_rfl)) rfl ?_
        exact decPost_no ((((HE2.out.2.1.setCell (p := ⟨b2, 0, none⟩) HE2.out.2.2 _).setCell (p := ⟨b2, 1, none⟩) HE2.out.2.2 _).setCell (p := ⟨b2, 2, none⟩) HE2.out.2.2 _).setCell (p := ⟨b2, 3, none⟩) HE2.out.2.2 _) hno.out
      have hbf2 : tB 2 false R2 = false := Bool.eq_false_iff.2 hb2
      have htk := HDS1.out.take R2 hRb2 2 (by decide) t2 S3 true ht2 (by rw [hbf2, hS3, hR3]; rfl) (by rw [hbf2]; rfl)
      rw [← HS2.out.1] at htk
      have HTK2 := Lib.hid htk
      have HB2 := Lib.hid hbf2
      clear htk ht2 hR3 hS3 hb2 hbf2
      go_wp2_with fail
      refine HTK2.out.mono ?_
      rintro e u2w ⟨rfl, hD2⟩
      have HDS2 := Lib.hid hD2
      clear hD2
      have hva := value_any (tT 1 false p.r) u2w (Nat.le_trans (length_tT _ _ _).1 (by decide))
      obtain ⟨sz, hsz⟩ : ∃ q, q = val (tT 1 false p.r) := ⟨_, rfl⟩
      rw [← HS2.out.2.2, ← hsz] at hva
      have hszb : sz < 4294967296 := by rw [hsz]; exact val_small 1 false p.r (by decide)
      have HVA := Lib.hid hva
      have HSZ2 := Lib.hid hsz
      clear hva hsz z0
      go_wp2_with fail
      refine HVA.out.mono ?_
      rintro e wva ⟨rfl, rfl⟩
      obtain ⟨t3, ht3⟩ : ∃ t, t = mkB (tT sz false R3) := ⟨_, rfl⟩
      obtain ⟨R4, hR4⟩ : ∃ t, t = tR sz false R3 := ⟨_, rfl⟩
      obtain ⟨S4, hS4⟩ : ∃ t, t = mkB R4 := ⟨_, rfl⟩
      have hRb4 : R4.length ≤ 4096 := by rw [hR4]; exact Nat.le_trans (length_tR _ _ _) hRb3
      have HS4 := Lib.hid (And.intro hS4 (And.intro hR4 ht3))
      by_cases hb3 : tB sz false R3 = true
      · have htk := HDS2.out.take R3 hRb3 sz (by omega) t3 ⟨#[]⟩ false ht3 (by rw [hb3]; rfl) (by rw [hb3]; rfl)
        rw [← HS3.out.1] at htk
        have HTK := Lib.hid htk
        have hno : Hid (¬ ∃ n, ValidN s n) := fun ⟨n', hv⟩ => by
          have h1 := hway.out n' hv
          have h2 : (step true p).b = true := by
            show (stepL p).b = true
            rw [HS3.out.2.1, HS2.out.2.1, HSZ2.out] at hb3
            have h2 := HB2.out
            rw [HS2.out.2.1] at h2
            simp only [stepL, HP.out.2.2, HB1.out, h2, hb3, tB_true]
          rw [h2] at h1
          cases h1
        clear htk ht3 hR4 hS4 hb3
        go_wp2_with fail
        refine HTK.out.mono ?_
        rintro e w8 ⟨rfl, hD8⟩
        have HD8 := Lib.hid hD8
        clear hD8
        have k2 := HD8.out.k2
        have x0 := k2.cell 0
        have x1 := k2.cell 1
        have x2 := k2.cell 2
        have x3 := k2.cell 3
        have f0 := k2.frozen 0
        have f1 := k2.frozen 1
        have f2 := k2.frozen 2
        have f3 := k2.frozen 3
        simp [zN] at x0 x1 x2 x3
        have HE2 := Lib.hid (And.intro k2 (And.intro HD8.out.bl HD8.out.lo.1))
        clear k2
        go_wp2_with fail
        have hfk := ((((HE2.out.1.set_ 0 (.bool false)).set_ 1 (.slice none 0 0)).set_ 2 (.slice none 0 0)).set_ 3 (.slice none 0 0))
        refine bodyPost_ret (results_cell_tmp rfl _ _ b2 25 zN (0, 0) _ rfl hfk Try.underlying25 rfl (by kernel_rfl)) rfl ?_
        exact decPost_no ((((HE2.out.2.1.setCell (p := ⟨b2, 0, none⟩) HE2.out.2.2 _).setCell (p := ⟨b2, 1, none⟩) HE2.out.2.2 _).setCell (p := ⟨b2, 2, none⟩) HE2.out.2.2 _).setCell (p := ⟨b2, 3, none⟩) HE2.out.2.2 _) hno.out
      have hbf3 : tB sz false R3 = false := Bool.eq_false_iff.2 hb3
      have htk := HDS2.out.take R3 hRb3 sz (by omega) t3 S4 true ht3 (by rw [hbf3, hS4, hR4]; rfl) (by rw [hbf3]; rfl)
      rw [← HS3.out.1] at htk
      have HTK3 := Lib.hid htk
      have HB3 := Lib.hid hbf3
      clear htk ht3 hR4 hS4 hb3 hbf3
      go_wp2_with fail
      refine HTK3.out.mono ?_
      rintro e u3w ⟨rfl, hD3⟩
      have HDS3 := Lib.hid hD3
      clear hD3
      have z0 := HDS3.out.cl0
      have hvb := value_any (tT 2 false R2) u3w (Nat.le_trans (length_tT _ _ _).1 (by decide))
      obtain ⟨ln, hln⟩ : ∃ q, q = val (tT 2 false R2) := ⟨_, rfl⟩
      rw [← HS3.out.2.2, ← hln] at hvb
      have hlnb : ln < 4294967296 := by rw [hln]; exact val_small 2 false R2 (by decide)
      have HVB := Lib.hid hvb
      have HLN := Lib.hid hln
      clear hvb hln
      go_wp2_with fail
      refine HVB.out.mono ?_
      rintro e wvb ⟨rfl, rfl⟩
      obtain ⟨t4, ht4⟩ : ∃ t, t = mkB (tT ln false R4) := ⟨_, rfl⟩
      obtain ⟨R5, hR5⟩ : ∃ t, t = tR ln false R4 := ⟨_, rfl⟩
      obtain ⟨S5, hS5⟩ : ∃ t, t = mkB R5 := ⟨_, rfl⟩
      have hRb5 : R5.length ≤ 4096 := by rw [hR5]; exact Nat.le_trans (length_tR _ _ _) hRb4
      have HS5 := Lib.hid (And.intro hS5 (And.intro hR5 ht4))
      by_cases hb4 : tB ln false R4 = true
      · have htk := HDS3.out.take R4 hRb4 ln (by omega) t4 ⟨#[]⟩ false ht4 (by rw [hb4]; rfl) (by rw [hb4]; rfl)
        rw [← HS4.out.1] at htk
        have HTK := Lib.hid htk
        have hno : Hid (¬ ∃ n, ValidN s n) := fun ⟨n', hv⟩ => by
          have h1 := hway.out n' hv
          have h2 : (step true p).b = true := by
            show (stepL p).b = true
            have h2 := HB2.out
            have h3 := HB3.out
            rw [HS4.out.2.1, HS3.out.2.1, HS2.out.2.1, HSZ2.out, HLN.out, HS2.out.2.1] at hb4
            rw [HS2.out.2.1] at h2
            rw [HS3.out.2.1, HS2.out.2.1, HSZ2.out] at h3
            simp only [stepL, HP.out.2.2, HB1.out, h2, h3, hb4, tB_true]
          rw [h2] at h1
          cases h1
        clear htk ht4 hR5 hS5 hb4
        go_wp2_with fail
        refine HTK.out.mono ?_
        rintro e w8 ⟨rfl, hD8⟩
        have HD8 := Lib.hid hD8
        clear hD8
        have k2 := HD8.out.k2
        have x0 := k2.cell 0
        have x1 := k2.cell 1
        have x2 := k2.cell 2
        have x3 := k2.cell 3
        have f0 := k2.frozen 0
        have f1 := k2.frozen 1
        have f2 := k2.frozen 2
        have f3 := k2.frozen 3
        simp [zN] at x0 x1 x2 x3
        have HE2 := Lib.hid (And.intro k2 (And.intro HD8.out.bl HD8.out.lo.1))
        clear k2
        go_wp2_with fail
        have hfk := ((((HE2.out.1.set_ 0 (.bool false)).set_ 1 (.slice none 0 0)).set_ 2 (.slice none 0 0)).set_ 3 (.slice none 0 0))
        refine bodyPost_ret (results_cell_tmp rfl _ _ b2 25 zN (0, 0) _ rfl hfk Try.underlying25 rfl (by kernel_rfl)) rfl ?_
        exact decPost_no ((((HE2.out.2.1.setCell (p := ⟨b2, 0, none⟩) HE2.out.2.2 _).setCell (p := ⟨b2, 1, none⟩) HE2.out.2.2 _).setCell (p := ⟨b2, 2, none⟩) HE2.out.2.2 _).setCell (p := ⟨b2, 3, none⟩) HE2.out.2.2 _) hno.out
      have hbf4 : tB ln false R4 = false := Bool.eq_false_iff.2 hb4
      have htk := HDS3.out.take R4 hRb4 ln (by omega) t4 S5 true ht4 (by rw [hbf4, hS5, hR5]; rfl) (by rw [hbf4]; rfl)
      rw [← HS4.out.1] at htk
      have HTK4 := Lib.hid htk
      have HB4 := Lib.hid hbf4
      clear htk ht4 hR5 hS5 hb4 hbf4
      go_wp2_with fail
      refine HTK4.out.mono ?_
      rintro e u4w ⟨rfl, hD4⟩
      have HDS4 := Lib.hid hD4
      clear hD4
      have z0 := HDS4.out.cl0
      have n1k := Nat.le_of_eq HOK.out.kl
      have n2k := HOK.out.vl
      have y1 := (HDS4.out.cl1 (.cells #[.string t3] 9)).2
      have y1b := (HDS4.out.cl1 (.cells #[.string t3] 9)).1
      have hoK := Lib.hid (ownAlloc HDS4.out.oK (.cells #[.string t3] 9))
      go_wp2_with (refine wpList_append_src _ rfl (.tmp 115) (.tmp 117) 22 rfl w.heap.size 9 i9 (.string ⟨#[]⟩) 16 Try.underlying22 HI9.out I9.out.1 I9.out.2.1 I9.out.2.2 rfl (.slice K p.keys.length e1) p.keys.length (strs p.keys) rfl hoK.out (some ⟨u4w.heap.size, 0, none⟩) 1 1 [.string t3] rfl rfl (src_one u4w 9 _) (by simp [Value.oneCell']) (by unfold maxLen; omega) (by omega) (Nat.le_trans HDS4.out.bs (by simp)) ?_)
      intro K' d1 w9 hown2 hgrow hat
      have ff := (HDS4.out.knK _ hgrow 1).2
      have qq := (HDS4.out.knK _ hgrow 1).1
      simp only [List.getElem?_toArray, List.getElem?_cons_succ, List.getElem?_cons_zero] at qq
      obtain ⟨w10, hw10⟩ : ∃ q, q = w9.setCell ⟨pn, 1, none⟩ (.slice K' (p.keys.length + 1) d1) := ⟨_, rfl⟩
      obtain ⟨pC, hpC⟩ : ∃ q, q = { p with keys := p.keys ++ [t3] } := ⟨_, rfl⟩
      have hDC := HDS4.out.key t3 hown2 hgrow (by simpa using hat)
      rw [← hw10, ← hpC] at hDC
      have HDC := Lib.hid hDC
      have HPC := Lib.hid hpC
      have HW10 := Lib.hid hw10
      have vl2 : pC.vals.length = p.vals.length := by rw [hpC]
      clear hown2 hgrow hat y1 y1b z0 hw10 hpC hDC
      go_upto_region 28 with fail
      rw [← HW10.out]
      clear ff qq
      have z0 := HDC.out.cl0
      have y2 := (HDC.out.cl2 (.cells #[.string t4] 9)).2
      have y2b := (HDC.out.cl2 (.cells #[.string t4] 9)).1
      have hoV := Lib.hid (ownAlloc HDC.out.oV (.cells #[.string t4] 9))
      have n2c : pC.vals.length ≤ k := by omega
      clear vl2
      go_wp2_with (refine wpList_append_src _ rfl (.tmp 123) (.tmp 125) 22 rfl w.heap.size 9 i9 (.string ⟨#[]⟩) 16 Try.underlying22 HI9.out I9.out.1 I9.out.2.1 I9.out.2.2 rfl (.slice V pC.vals.length e2) pC.vals.length (strs pC.vals) rfl hoV.out (some ⟨w10.heap.size, 0, none⟩) 1 1 [.string t4] rfl rfl (src_one w10 9 _) (by simp [Value.oneCell']) (by unfold maxLen; omega) (by omega) (Nat.le_trans HDC.out.bs (by simp)) ?_)
      intro V' d2 w11 hown2 hgrow hat
      have ff := (HDC.out.knV _ hgrow 2).2
      have qq := (HDC.out.knV _ hgrow 2).1
      simp only [List.getElem?_toArray, List.getElem?_cons_succ, List.getElem?_cons_zero] at qq
      have hDF := HDC.out.value t4 hown2 hgrow (by simpa using hat)
      have HDF := Lib.hid hDF
      clear hown2 hgrow hat hDF y2 y2b z0
      go_wp2_with fail
      go_roundg (gk - 1)
      case measure => omega
      case rel =>
        have e : iter true p0 (k + 1) = { pC with vals := pC.vals ++ [t4], b := false, r := R5 } := by
          show step true (iter true p0 k) = _
          rw [← HP.out.1]
          show stepL p = _
          have h2 := HB2.out
          have h3 := HB3.out
          have h4 := HB4.out
          rw [HPC.out, HS5.out.2.2, HS4.out.2.2, HS5.out.2.1]
          rw [HS4.out.2.1, HS3.out.2.1, HLN.out, HSZ2.out, HS2.out.2.1] at h4 ⊢
          rw [HS3.out.2.1, HSZ2.out, HS2.out.2.1] at h3
          rw [HS2.out.2.1] at h2
          simp only [stepL, HP.out.2.2, HB1.out, h2, h3, h4]
        refine ⟨k + 1, K', V', U, d1, d2, e3, S5, by omega, by go_num, rfl, ?_, ?_, ?_⟩
        · rw [e]; exact HS5.out.1
        · rw [e]
        · rw [e]; exact HDF.out.of _ rfl rfl rfl
    · have hkC : k = C := by omega
      have x5 := hlt
      clear x5
      obtain ⟨n', hn'⟩ : ∃ n' : Nd, n' = ⟨true, p.keys, p.vals, p.kids⟩ := ⟨_, rfl⟩
      have hown : OwnD wr w.heap.size n' K V U e1 e2 e3 := by rw [hn']; exact ⟨HD.out.oK, HD.out.oV, HD.out.oU, HD.out.nK⟩
      have hlen : n'.keys.length ≤ 100000 ∧ n'.vals.length ≤ 100000 ∧ n'.kids.length ≤ 100000 := by
        rw [hn']
        have a1 := HOK.out.kl
        have a2 := HOK.out.vl
        have a3 := HOK.out.ul
        exact ⟨by show p.keys.length ≤ _; omega, by show p.vals.length ≤ _; omega, by show p.kids.length ≤ _; omega⟩
      have hndf : ∀ W, OwnD W w.heap.size n' K V U e1 e2 e3 → NdR W n' K V U := fun W hW => hW.nd hlen.1 hlen.2.1 hlen.2.2 (by rw [hn']; exact HOK.out.ks) (by rw [hn']; exact HOK.out.vs) (by rw [hn']; exact HOK.out.us)
      have hvd : ∀ n, ValidN s n → n' = n := fun n hv => by
        have := valid_end hv (by rw [← HL.out.1]; exact HST0.out) (show k ≤ C by omega) (.inl hkC)
        rw [← HP.out.1] at this
        exact hn'.trans this.2
      obtain ⟨es, ev, hcall, hev⟩ : ∃ (es : ByteArray) (ev : Int), Calls Try.prog 10 #[.agg (ndC n' K V U e1 e2 e3), .int .i64 m] wr (fun e w' => e = .returned (.tuple #[.string es, .int .i64 ev]) ∧ Below wr.heap.size wr w') ∧ ((ev = 0 ∧ EncP n' m ∧ es = encS n' m) ∨ (ev = 1 ∧ ¬ EncP n' m)) := by
        by_cases hE : EncP n' m
        · exact ⟨encS n' m, 0, rencode_yes n' K V U e1 e2 e3 m wr (hndf wr hown) hE, .inl ⟨rfl, hE, rfl⟩⟩
        · exact ⟨⟨#[]⟩, 1, rencode_no n' K V U e1 e2 e3 m wr (hndf wr hown) hE, .inr ⟨rfl, hE⟩⟩
      have HCALL : Hid (Calls Try.prog 10 #[.agg #[.bool true, .slice K p.keys.length e1, .slice V p.vals.length e2, .slice U p.kids.length e3], .int .i64 m] wr (fun e w' => e = .returned (.tuple #[.string es, .int .i64 ev]) ∧ Below wr.heap.size wr w')) := by rw [hn'] at hcall; exact hcall
      have HF := Lib.hid (And.intro hn' (And.intro hown (And.intro hlen (And.intro hndf (And.intro hvd hev)))))
      have HKC := Lib.hid hkC
      clear hn' hown hlen hndf hvd hcall hev hkC
      have y0 := HD.out.cl0
      have y1 := (HD.out.cl1 (.cells #[] 0)).1
      have y2 := (HD.out.cl2 (.cells #[] 0)).1
      have y3 := (HD.out.cl3 (.cells #[] 0)).1
      go_wp2_with fail
      refine HCALL.out.mono ?_
      rintro e w9 ⟨rfl, hb9⟩
      have k2 := HD.out.k2.below hb9 HD.out.k2.lt
      have kn := HD.out.kn.below hb9 HD.out.kn.lt
      have H9 := Lib.hid (And.intro k2 (And.intro hb9 HD.out.lo.1))
      clear y0 y1 y2 y3
      have hbb : Hid (Below w.heap.size w w9) := HD.out.bl.trans (hb9.mono HD.out.bs)
      have y0 := kn.cell 0
      have y1 := kn.cell 1
      have y2 := kn.cell 2
      have y3 := kn.cell 3
      simp at y0 y1 y2 y3
      clear k2 kn hb9
      rcases HF.out.2.2.2.2.2 with ⟨rfl, hE, hes⟩ | ⟨rfl, hE⟩
      · by_cases heq : es = s
        · have HQ := Lib.hid (And.intro hE (And.intro hes heq))
          subst heq
          clear hE hes
          have k2 := H9.out.1
          have x0 := k2.cell 0
          have x1 := k2.cell 1
          have x2 := k2.cell 2
          have x3 := k2.cell 3
          have f0 := k2.frozen 0
          have f1 := k2.frozen 1
          have f2 := k2.frozen 2
          have f3 := k2.frozen 3
          simp [zN] at x0 x1 x2 x3
          clear k2
          go_wp2_with fail
          have hfk := ((((H9.out.1.set_ 0 (.bool true)).set_ 1 (.slice K p.keys.length e1)).set_ 2 (.slice V p.vals.length e2)).set_ 3 (.slice U p.kids.length e3))
          have hlo := H9.out.2.2
          refine bodyPost_ret (results_cell_tmp rfl _ _ b2 25 #[.bool true, .slice K p.keys.length e1, .slice V p.vals.length e2, .slice U p.kids.length e3] (0, 0) _ rfl hfk Try.underlying25 rfl (by kernel_rfl)) rfl ?_
          have ho : Only (fun k => k = b2) w9 ((((w9.setCell ⟨b2, 0, none⟩ (.bool true)).setCell ⟨b2, 1, none⟩ (.slice K p.keys.length e1)).setCell ⟨b2, 2, none⟩ (.slice V p.vals.length e2)).setCell ⟨b2, 3, none⟩ (.slice U p.kids.length e3)) :=
            ((((Only.refl (fun k => k = b2) w9).setCell (p := ⟨b2, 0, none⟩) (.inl rfl) _).setCell (p := ⟨b2, 1, none⟩) (.inl rfl) _).setCell (p := ⟨b2, 2, none⟩) (.inl rfl) _).setCell (p := ⟨b2, 3, none⟩) (.inl rfl) _
          have hD9 := (HF.out.2.1.below H9.out.2.1).only25 ho (fun g hg => by have e : g = b2 := hg; exact ⟨_, by rw [e]; exact H9.out.1⟩)
          have hus : ∀ i, n'.kids.getD i 0 < 4294967296 := by rw [HF.out.1]; exact HOK.out.us
          refine ⟨n', K, V, U, e1, e2, e3, 0, ?_, (((hbb.out.setCell (p := ⟨b2, 0, none⟩) hlo _).setCell (p := ⟨b2, 1, none⟩) hlo _).setCell (p := ⟨b2, 2, none⟩) hlo _).setCell (p := ⟨b2, 3, none⟩) hlo _, HF.out.2.2.2.1 _ hD9, hD9, .inl ⟨rfl, hus, ?_, ?_⟩, HF.out.2.2.1.1, HF.out.2.2.1.2.1, HF.out.2.2.1.2.2⟩
          · rw [HF.out.1]; rfl
          · rw [hm']; exact HQ.out.1
          · rw [hm']; exact HQ.out.2.1.symm
        · have hne := toList_ne heq
          have HQ := Lib.hid (And.intro hes heq)
          have hno : Hid (¬ ∃ n, ValidN s n) := fun ⟨n, hv⟩ => by have h1 := HF.out.2.2.2.2.1 n hv; have h2 := hv.2.2; rw [← h1, hm'] at h2; exact HQ.out.2 (HQ.out.1.trans h2)
          clear hE hes heq
          have k2 := H9.out.1
          have x0 := k2.cell 0
          have x1 := k2.cell 1
          have x2 := k2.cell 2
          have x3 := k2.cell 3
          have f0 := k2.frozen 0
          have f1 := k2.frozen 1
          have f2 := k2.frozen 2
          have f3 := k2.frozen 3
          simp [zN] at x0 x1 x2 x3
          have HE2 := Lib.hid (And.intro k2 (And.intro hbb.out H9.out.2.2))
          clear k2
          go_wp2_with fail
          have hfk := ((((HE2.out.1.set_ 0 (.bool false)).set_ 1 (.slice none 0 0)).set_ 2 (.slice none 0 0)).set_ 3 (.slice none 0 0))
          refine bodyPost_ret (results_cell_tmp rfl _ _ b2 25 zN (0, 0) _ rfl hfk Try.underlying25 rfl (by kernel_rfl)) rfl ?_
          exact decPost_no ((((HE2.out.2.1.setCell (p := ⟨b2, 0, none⟩) HE2.out.2.2 _).setCell (p := ⟨b2, 1, none⟩) HE2.out.2.2 _).setCell (p := ⟨b2, 2, none⟩) HE2.out.2.2 _).setCell (p := ⟨b2, 3, none⟩) HE2.out.2.2 _) hno.out
      · have HQ := Lib.hid hE
        have hno : Hid (¬ ∃ n, ValidN s n) := fun ⟨n, hv⟩ => by have h1 := HF.out.2.2.2.2.1 n hv; have h2 := hv.2.1; rw [← h1, hm'] at h2; exact HQ.out h2
        clear hE
        have k2 := H9.out.1
        have x0 := k2.cell 0
        have x1 := k2.cell 1
        have x2 := k2.cell 2
        have x3 := k2.cell 3
        have f0 := k2.frozen 0
        have f1 := k2.frozen 1
        have f2 := k2.frozen 2
        have f3 := k2.frozen 3
        simp [zN] at x0 x1 x2 x3
        have HE2 := Lib.hid (And.intro k2 (And.intro hbb.out H9.out.2.2))
        clear k2
        go_wp2_with fail
        have hfk := ((((HE2.out.1.set_ 0 (.bool false)).set_ 1 (.slice none 0 0)).set_ 2 (.slice none 0 0)).set_ 3 (.slice none 0 0))
        refine bodyPost_ret (results_cell_tmp rfl _ _ b2 25 zN (0, 0) _ rfl hfk Try.underlying25 rfl (by kernel_rfl)) rfl ?_
        exact decPost_no ((((HE2.out.2.1.setCell (p := ⟨b2, 0, none⟩) HE2.out.2.2 _).setCell (p := ⟨b2, 1, none⟩) HE2.out.2.2 _).setCell (p := ⟨b2, 2, none⟩) HE2.out.2.2 _).setCell (p := ⟨b2, 3, none⟩) HE2.out.2.2 _) hno.out
end Go.Proofs.Ytpggicaphejjfaa
