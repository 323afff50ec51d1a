/-
  The program's Decode.
-/
import Derived.Test.YtpggicaphejjfaaPDecR
import Derived.Deep.RegionLaw
import Derived.Laws.EntriesVeiled
set_option linter.unusedVariables false
namespace Go.Proofs.Ytpggicaphejjfaa
open Go.RowKit

set_option maxRecDepth 100000 in
set_option maxHeartbeats 1000000 in
theorem decode_no (s : ByteArray) (w : World) (hs : s.size ≤ 140737488355328) (h : ¬ SizeP s.size) : Calls Try.prog 23 #[.string s] w (DecPost s w) := by
  have hno : ¬ ∃ n, ValidN s n := fun ⟨n, hv⟩ => h hv.2.1.1
  obtain ⟨w1, hw1⟩ : ∃ w1, w1 = w.alloc (.cells #[.bool false, .slice none 0 0, .slice none 0 0, .slice none 0 0] 26) := ⟨_, rfl⟩
  obtain ⟨b2, hb2⟩ : ∃ b2, b2 = w.heap.size := ⟨_, rfl⟩
  have hk : Blk w1 b2 26 zN := by rw [hw1, hb2]; exact Blk.new w 26 _
  have hB1 : Below w.heap.size w w1 := by rw [hw1]; exact (Below.refl _ w).alloc (Nat.le_refl _) _
  obtain ⟨m, hm⟩ : ∃ m, m = s.size := ⟨_, rfl⟩
  rw [← hm] at hs h
  have HC := Lib.hid (And.intro (size_no m w1 h) (And.intro hk (And.intro hB1 (And.intro hb2 hno))))
  have HW := Lib.hid (And.intro hw1 hb2)
  have hm' : s.size = m := hm.symm
  have x0 := hk.cell 0
  have x1 := hk.cell 1
  have x2 := hk.cell 2
  have x3 := hk.cell 3
  have f0 := hk.frozen 0
  have f1 := hk.frozen 1
  have f2 := hk.frozen 2
  have f3 := hk.frozen 3
  simp [zN] at x0 x1 x2 x3
  clear h hk hB1 hno hw1 hb2 hm
  go_enter Try.func23, Try.ntmps23
  go_upto_region 1 with fail
  rw [← HW.out.1, ← HW.out.2]
  go_wp2_with fail
  refine HC.out.1.mono ?_
  rintro e w2 ⟨rfl, rfl⟩
  go_wp2_with fail
  have hfk := ((((HC.out.2.1.set_ 0 (.bool false)).set_ 1 (.slice none 0 0)).set_ 2 (.slice none 0 0)).set_ 3 (.slice none 0 0))
  have hlo : w.heap.size ≤ b2 := by rw [HC.out.2.2.2.1]; exact Nat.le_refl _
  refine bodyPost_ret (results_cell_tmp rfl _ _ b2 26 zN (0, 0) _ rfl hfk Try.underlying26 rfl (by kernel_rfl)) rfl ?_
  exact decPost_no ((((HC.out.2.2.1.setCell (p := ⟨b2, 0, none⟩) hlo _).setCell (p := ⟨b2, 1, none⟩) hlo _).setCell (p := ⟨b2, 2, none⟩) hlo _).setCell (p := ⟨b2, 3, none⟩) hlo _) HC.out.2.2.2.2
section
variable {w u : World} {b2 g4 g5 g6 pn : Nat} {leaf : Bool} {p : PS} {K V U : Option Addr} {c1 c2 c3 : Nat}
theorem DecS.cl0 (h : DecS w b2 g4 g5 g6 pn leaf p K V U c1 c2 c3 u) : u.cell? ⟨pn, 0, none⟩ = some (.bool leaf) := h.kn.cell 0
theorem DecS.cl1 (h : DecS w b2 g4 g5 g6 pn leaf p K V U c1 c2 c3 u) (o : Obj) : u.cell? ⟨pn, 1, none⟩ = some (.slice K p.keys.length c1) ∧ (u.alloc o).cell? ⟨pn, 1, none⟩ = some (.slice K p.keys.length c1) := ⟨h.kn.cell 1, (h.kn.alloc o).cell 1⟩
theorem DecS.cl2 (h : DecS w b2 g4 g5 g6 pn leaf p K V U c1 c2 c3 u) (o : Obj) : u.cell? ⟨pn, 2, none⟩ = some (.slice V p.vals.length c2) ∧ (u.alloc o).cell? ⟨pn, 2, none⟩ = some (.slice V p.vals.length c2) := ⟨h.kn.cell 2, (h.kn.alloc o).cell 2⟩
theorem DecS.cl3 (h : DecS w b2 g4 g5 g6 pn leaf p K V U c1 c2 c3 u) (o : Obj) : u.cell? ⟨pn, 3, none⟩ = some (.slice U p.kids.length c3) ∧ (u.alloc o).cell? ⟨pn, 3, none⟩ = some (.slice U p.kids.length c3) := ⟨h.kn.cell 3, (h.kn.alloc o).cell 3⟩
theorem DecS.cl5 (h : DecS w b2 g4 g5 g6 pn leaf p K V U c1 c2 c3 u) : u.cell? ⟨g5, 0, none⟩ = some (.bool p.b) := h.k5.cell 0
theorem DecS.cl6 (h : DecS w b2 g4 g5 g6 pn leaf p K V U c1 c2 c3 u) : u.cell? ⟨g6, 0, none⟩ = some (.func (Fn.func 39) #[] #[.pointer (some ⟨g5, 0, none⟩), .pointer (some ⟨g4, 0, none⟩)]) := h.k6.cell 0
/-- the node's block behind an append to its keys, its values, its kids -/
theorem DecS.knK (h : DecS w b2 g4 g5 g6 pn leaf p K V U c1 c2 c3 u) (o : Obj) {W' : World} (hg : (u.alloc o).grownBy W' (Value.ownBlock (.slice K p.keys.length c1))) : ∀ i, W'.cell? ⟨pn, i, none⟩ = (#[.bool leaf, .slice K p.keys.length c1, .slice V p.vals.length c2, .slice U p.kids.length c3] : Array Value)[i]? ∧ W'.frozen? ⟨pn, i, none⟩ = false := fun i =>
  have hk := (h.kn.alloc o).grown hg (ob_ne_blk (ownAlloc h.oK o) (h.kn.alloc o) (by decide))
  ⟨hk.cell i, hk.frozen i⟩
theorem DecS.knV (h : DecS w b2 g4 g5 g6 pn leaf p K V U c1 c2 c3 u) (o : Obj) {W' : World} (hg : (u.alloc o).grownBy W' (Value.ownBlock (.slice V p.vals.length c2))) : ∀ i, W'.cell? ⟨pn, i, none⟩ = (#[.bool leaf, .slice K p.keys.length c1, .slice V p.vals.length c2, .slice U p.kids.length c3] : Array Value)[i]? ∧ W'.frozen? ⟨pn, i, none⟩ = false := fun i =>
  have hk := (h.kn.alloc o).grown hg (ob_ne_blk (ownAlloc h.oV o) (h.kn.alloc o) (by decide))
  ⟨hk.cell i, hk.frozen i⟩
theorem DecS.knU (h : DecS w b2 g4 g5 g6 pn leaf p K V U c1 c2 c3 u) (o : Obj) {W' : World} (hg : (u.alloc o).grownBy W' (Value.ownBlock (.slice U p.kids.length c3))) : ∀ i, W'.cell? ⟨pn, i, none⟩ = (#[.bool leaf, .slice K p.keys.length c1, .slice V p.vals.length c2, .slice U p.kids.length c3] : Array Value)[i]? ∧ W'.frozen? ⟨pn, i, none⟩ = false := fun i =>
  have hk := (h.kn.alloc o).grown hg (ob_ne_blk (ownAlloc h.oU o) (h.kn.alloc o) (by decide))
  ⟨hk.cell i, hk.frozen i⟩
end
theorem src_one (y : World) (t : TypeId) (v : Value) : Src (y.alloc (.cells #[v] t)) (some ⟨y.heap.size, 0, none⟩) [v] := by
  intro j u hu
  have hj : j = 0 := by
    have := (List.getElem?_eq_some_iff.1 hu).1
    simpa using this
  subst hj
  refine ⟨_, rfl, ?_⟩
  rw [Addr.add_lit, Nat.add_zero, (Blk.new y t #[v]).cell]
  simpa using hu
theorem val_small (n : Nat) (b : Bool) (r : List UInt8) (hn : n ≤ 4) : val (tT n b r) < 4294967296 := by
  have h1 := val_lt (tT n b r)
  have h2 := (length_tT n b r).1
  exact Nat.lt_of_lt_of_le h1 (Nat.le_trans (Nat.pow_le_pow_right (by decide) (Nat.le_trans h2 hn)) (by decide))
theorem OwnD.only {F : Nat → Prop} {W W' : World} {B : Nat} {n : Nd} {K V U : Option Addr} {c1 c2 c3 : Nat} (h : OwnD W B n K V U c1 c2 c3) (ho : Only F W W') (hF : ∀ g, F g → ∃ cs, Blk W g 26 cs) : OwnD W' B n K V U c1 c2 c3 :=
  ⟨own_only h.1 ho (fun g hg hf => by obtain ⟨cs, hb⟩ := hF g hf; exact own_blk_ne h.1 hb (by decide) g hg rfl), own_only h.2.1 ho (fun g hg hf => by obtain ⟨cs, hb⟩ := hF g hf; exact own_blk_ne h.2.1 hb (by decide) g hg rfl),
    own_only h.2.2.1 ho (fun g hg hf => by obtain ⟨cs, hb⟩ := hF g hf; exact own_blk_ne h.2.2.1 hb (by decide) g hg rfl), h.2.2.2⟩

set_option maxRecDepth 100000 in
set_option maxHeartbeats 8000000 in
theorem decode_leaf (s : ByteArray) (w : World) (h : SizeP s.size) (hkd : kindOf s.data.toList = 1) : Calls Try.prog 23 #[.string s] w (DecPost s w) := by
  obtain ⟨i9, hi9, hq9⟩ := Option.map_eq_some_iff.1 info9
  obtain ⟨i42, hi42, hq42⟩ := Option.map_eq_some_iff.1 info42
  have I9 : Hid (i9.zero = some (.string ⟨#[]⟩) ∧ i9.size = 1 ∧ i9.bytes = 16) := ⟨(Prod.mk.inj hq9).1, (Prod.mk.inj (Prod.mk.inj hq9).2).1, (Prod.mk.inj (Prod.mk.inj hq9).2).2⟩
  have I42 : Hid (i42.zero = some (.int .u32 0) ∧ i42.size = 1 ∧ i42.bytes = 4) := ⟨(Prod.mk.inj hq42).1, (Prod.mk.inj (Prod.mk.inj hq42).2).1, (Prod.mk.inj (Prod.mk.inj hq42).2).2⟩
  have HI9 := Lib.hid hi9
  have HI42 := Lib.hid hi42
  clear hq9 hq42 hi9 hi42
  obtain ⟨m, hm⟩ : ∃ m, m = s.size := ⟨_, rfl⟩
  have hm' : s.size = m := hm.symm
  have hsP := h
  rw [← hm] at h
  unfold SizeP at h
  have m1 : 512 ≤ m := by omega
  have m2 : m ≤ 4096 := by omega
  have m3 : m % 512 = 0 := by omega
  clear h
  obtain ⟨L, hL⟩ : ∃ L, L = s.data.toList := ⟨_, rfl⟩
  have hLl : L.length = m := by rw [hL, length_data, hm]
  have hsL : s = mkB L := by rw [hL, mkB_of]
  rw [← hL] at hkd
  obtain ⟨w1, hw1⟩ : ∃ w1, w1 = w.alloc (.cells #[.bool false, .slice none 0 0, .slice none 0 0, .slice none 0 0] 26) := ⟨_, rfl⟩
  obtain ⟨b2, hb2⟩ : ∃ b2, b2 = w.heap.size := ⟨_, rfl⟩
  have hB1 : Below w.heap.size w w1 := by rw [hw1]; exact (Below.refl _ w).alloc (Nat.le_refl _) _
  have hk2 : Blk w1 b2 26 zN := by rw [hw1, hb2]; exact Blk.new w 26 _
  have hs1 : w1.heap.size = w.heap.size + 1 := by rw [hw1]; simp
  have HSZ := Lib.hid (size_yes m w1 m1 m2 m3)
  obtain ⟨g4, hg4⟩ : ∃ g, g = w1.heap.size := ⟨_, rfl⟩
  obtain ⟨g5, hg5⟩ : ∃ g, g = w1.heap.size + 1 := ⟨_, rfl⟩
  obtain ⟨g6, hg6⟩ : ∃ g, g = w1.heap.size + 2 := ⟨_, rfl⟩
  obtain ⟨w4, hw4⟩ : ∃ w4, w4 = ((w1.alloc (.cells #[.string s] 9)).alloc (.cells #[.bool false] 4)).alloc (.cells #[.func (Fn.func 39) #[] #[.pointer (some ⟨g5, 0, none⟩), .pointer (some ⟨g4, 0, none⟩)]] 73) := ⟨_, rfl⟩
  have e2 : (w1.alloc (.cells #[.string s] 9)).heap.size = w1.heap.size + 1 := by simp
  have e3 : ((w1.alloc (.cells #[.string s] 9)).alloc (.cells #[.bool false] 4)).heap.size = w1.heap.size + 2 := by simp
  have k4 : Blk w4 g4 9 #[.string (mkB L)] := by rw [hw4, hg4, ← hsL]; exact ((Blk.new w1 9 _).alloc _).alloc _
  have k5 : Blk w4 g5 4 #[.bool false] := by rw [hw4, hg5, ← e2]; exact (Blk.new _ 4 _).alloc _
  have k6 : Blk w4 g6 73 #[.func (Fn.func 39) #[] #[.pointer (some ⟨g5, 0, none⟩), .pointer (some ⟨g4, 0, none⟩)]] := by
    have := Blk.new ((w1.alloc (.cells #[.string s] 9)).alloc (.cells #[.bool false] 4)) 73 #[.func (Fn.func 39) #[] #[.pointer (some ⟨g5, 0, none⟩), .pointer (some ⟨g4, 0, none⟩)]]
    rw [e3, ← hg6, ← hw4] at this
    exact this
  have hB4 : Below w.heap.size w w4 := by rw [hw4]; exact ((hB1.alloc hB1.size _).alloc (by rw [e2]; omega) _).alloc (by rw [e3]; omega) _
  have k2 : Blk w4 b2 26 zN := by rw [hw4]; exact ((hk2.alloc _).alloc _).alloc _
  have hs4 : w4.heap.size = w.heap.size + 4 := by rw [hw4]; simp [hs1]
  have hne54 : g5 ≠ g4 := by omega
  have hnum := number_any 1 false L g6 g5 g4 w4 k6 k5 k4 hne54 (by omega) (by decide)
  have HW1 := Lib.hid (And.intro hw1 hb2)
  have HW4 : Hid (w4 = ((w1.alloc (.cells #[.string s] 9)).alloc (.cells #[.bool false] 4)).alloc (.cells #[.func (Fn.func 39) #[] #[.pointer (some ⟨g5, 0, none⟩), .pointer (some ⟨g4, 0, none⟩)]] 73) ∧ g4 = w1.heap.size ∧ g5 = w1.heap.size + 1 ∧ g6 = w1.heap.size + 2) := ⟨hw4, hg4, hg5, hg6⟩
  have HN1 := Lib.hid hnum
  have HK4 := Lib.hid (And.intro k6 (And.intro k2 (And.intro hB4 (And.intro hs4 (And.intro hs1 hb2)))))
  have HL := Lib.hid (And.intro hL (And.intro hLl (And.intro hsL (And.intro hsP hm))))
  clear hw1 hb2 hB1 hk2 hs1 hg4 hg5 hg6 hw4 e2 e3 k4 k5 k6 hB4 k2 hs4 hne54 hnum hL hLl hsL hsP hm m3
  go_enter Try.func23, Try.ntmps23
  go_upto_region 1 with fail
  rw [← HW1.out.1, ← HW1.out.2]
  go_wp2_with fail
  refine HSZ.out.mono ?_
  rintro e w2 ⟨rfl, rfl⟩
  go_upto_region 6 with fail
  rw [← HW4.out.2.2.2, ← HW4.out.2.2.1, ← HW4.out.2.1]
  rw [← HW4.out.1]
  go_wp2_with fail
  refine HN1.out.mono ?_
  rintro e w5 ⟨rfl, k5, k4, ho⟩
  -- the node's block
  obtain ⟨kd, hkde⟩ : ∃ kd, kd = val (tT 1 false L) := ⟨_, rfl⟩
  have hkd2 : kd = 1 := by rw [hkde]; exact hkd
  rw [← hkde]
  obtain ⟨pn, hpn⟩ : ∃ pn, pn = w5.heap.size := ⟨_, rfl⟩
  obtain ⟨w6, hw6⟩ : ∃ w6, w6 = w5.alloc (.cells #[.bool true, .slice none 0 0, .slice none 0 0, .slice none 0 0] 26) := ⟨_, rfl⟩
  obtain ⟨p1, hp1⟩ : ∃ p1, p1 = (⟨[], [], [], tB 1 false L, tR 1 false L⟩ : PS) := ⟨_, rfl⟩
  have hD6 : DecS w b2 g4 g5 g6 pn true p1 none none none 0 0 0 w6 := by
    obtain ⟨k6, k2, hB4, hs4, hs1, hb2⟩ := HK4.out
    have e4 := HW4.out.2.1
    have e5 := HW4.out.2.2.1
    have e6 := HW4.out.2.2.2
    have hB5 : Below w.heap.size w w5 := hB4.trans (ho.below (fun k hk hf => by omega) hB4.size)
    have nn : ∀ {g : Nat}, g ≠ g5 → g ≠ g4 → ¬ (g = g5 ∨ g = g4) := fun h1 h2 h3 => h3.elim h1 h2
    have hs5 := ho.size
    rw [hw6, hp1]
    refine ⟨hB5.alloc hB5.size _, by have := hB5.size; simp; omega, ⟨by omega, by omega, by omega, by omega, by omega⟩, by omega, (k2.only ho (nn (by omega) (by omega))).alloc _, (k6.only ho (nn (by omega) (by omega))).alloc _, ?_, k5.alloc _, k4.alloc _, ⟨rfl, .inl ⟨rfl, rfl⟩⟩, ⟨rfl, .inl ⟨rfl, rfl⟩⟩, ⟨rfl, .inl ⟨rfl, rfl⟩⟩, ?_, ?_⟩
    · rw [hpn]; exact Blk.new w5 26 _
    · intro k hk; simp [Value.ownBlock] at hk
    · intro k hk; simp [Value.ownBlock] at hk
  have HD6 := Lib.hid hD6
  have HP1 := Lib.hid hp1
  have HW6 := Lib.hid (And.intro hw6 hpn)
  have hr1 : p1.r.length ≤ 4096 := by rw [hp1]; have := length_tR 1 false L; have := HL.out.2.1; simp only; omega
  have HKD := Lib.hid (And.intro hkde hkd)
  clear k5 k4 ho hpn hw6 hp1 hD6 hkde
  subst hkd2
  go_upto_region 8 with fail
  rw [← HW6.out.1, ← HW6.out.2]
  go_wp2_with fail
  refine (HD6.out.number hr1 2 (by decide)).mono ?_
  rintro e w7 ⟨rfl, hD7⟩
  obtain ⟨C, hC⟩ : ∃ C, C = val (tT 2 p1.b p1.r) := ⟨_, rfl⟩
  rw [← hC]
  have hC2 : C ≤ 65535 := by
    have h1 := val_lt (tT 2 p1.b p1.r)
    have h2 := (length_tT 2 p1.b p1.r).1
    have h3 : 256 ^ (tT 2 p1.b p1.r).length ≤ 256 ^ 2 := Nat.pow_le_pow_right (by decide) h2
    rw [hC]
    have h4 : (256 : Nat) ^ 2 = 65536 := by decide
    omega
  obtain ⟨p2, hp2⟩ : ∃ p2, p2 = { p1 with b := tB 2 p1.b p1.r, r := tR 2 p1.b p1.r } := ⟨_, rfl⟩
  rw [← hp2] at hD7
  have hr2 : p2.r.length ≤ 4096 := by rw [hp2]; have := length_tR 2 p1.b p1.r; simp only; omega
  have HD7 := Lib.hid hD7
  have HP2 := Lib.hid (And.intro hC hp2)
  clear hD7 hC hp2
  have z0 := HD7.out.kn.cell 0
  simp at z0
  obtain ⟨p0, hp0⟩ : ∃ p0, p0 = p2 := ⟨_, rfl⟩
  have HST : Hid (start L = (true, C, p0)) := by
    show start L = (true, C, p0)
    have hk1 : kindOf L = 1 := HKD.out.2
    rw [hp0, HP2.out.2, HP2.out.1, HP1.out]
    unfold start
    simp only [hk1, decide_true, if_true]
  rw [← hp0] at HD7 hr2
  have HD0 : Hid (DecS w b2 g4 g5 g6 pn true p0 none none none 0 0 0 w7) := HD7.out
  have hok0 : Hid (PSok p0 0) := by rw [hp0, HP2.out.2, HP1.out]; exact ⟨by have := hr2; rw [hp0, HP2.out.2] at this; simpa [HP1.out] using this, rfl, Nat.le_refl _, Nat.zero_le _, fun i => by simp [ByteArray.size], fun i => by simp [ByteArray.size], fun i => by simp⟩
  have z0 := (HD0.out.kn).cell 0
  clear z0
  go_wp2_with fail
  go_loopg [10] C (fun g v wr => ∃ (k : Nat) (K V U : Option Addr) (e1 e2 e3 : Nat), k + g = C ∧ v = .int .i64 (g : Nat) ∧ DecS w b2 g4 g5 g6 pn true (iter true p0 k) K V U e1 e2 e3 wr)
  case atStart => exact ⟨0, none, none, none, 0, 0, 0, by omega, rfl, HD0.out⟩
  case round =>
    obtain ⟨k, K, V, U, e1, e2, e3, hk, rfl, hD⟩ := hrel
    have hok := ok_iter hok0.out k (leaf := true)
    obtain ⟨p, hp⟩ : ∃ p, p = iter true p0 k := ⟨_, rfl⟩
    rw [← hp] at hD hok
    have HD := Lib.hid hD
    have HOK := Lib.hid hok
    have HP := Lib.hid hp
    have x5 := hD.cl5
    clear hD hok hp
    by_cases hlt : 0 < gk
    · cases hb : p.b with
      | false =>
        rw [hb] at x5
        have HB := Lib.hid hb
        clear hb
        go_wp2_with fail
        refine (HD.out.number HOK.out.r 1 (by decide)).mono ?_
        rintro e w8 ⟨rfl, hA⟩
        have hszb := val_small 1 p.b p.r (by decide)
        obtain ⟨sz, hsz⟩ : ∃ sz, sz = val (tT 1 p.b p.r) := ⟨_, rfl⟩
        rw [← hsz] at hszb ⊢
        obtain ⟨pA, hpA⟩ : ∃ q, q = { p with b := tB 1 p.b p.r, r := tR 1 p.b p.r } := ⟨_, rfl⟩
        have hokA : PSok pA k := by rw [hpA]; exact HOK.out.read 1 p.b _
        rw [← hpA] at hA
        have HA := Lib.hid hA
        have HOKA := Lib.hid hokA
        have HPA := Lib.hid (And.intro hsz hpA)
        have x0 := hA.cl0
        clear x5 hA hokA hsz hpA
        go_wp2_with fail
        refine (HA.out.number HOKA.out.r 2 (by decide)).mono ?_
        rintro e w8b ⟨rfl, hB⟩
        have hlnb := val_small 2 pA.b pA.r (by decide)
        obtain ⟨ln, hln⟩ : ∃ ln, ln = val (tT 2 pA.b pA.r) := ⟨_, rfl⟩
        rw [← hln] at hlnb ⊢
        obtain ⟨pB, hpB⟩ : ∃ q, q = { pA with b := tB 2 pA.b pA.r, r := tR 2 pA.b pA.r } := ⟨_, rfl⟩
        have hokB : PSok pB k := by rw [hpB]; exact HOKA.out.read 2 pA.b _
        rw [← hpB] at hB
        have HBS := Lib.hid hB
        have HOKB := Lib.hid hokB
        have HPB := Lib.hid (And.intro hln hpB)
        clear x0 hB hokB hln hpB
        have n1k := Nat.le_of_eq HOKB.out.kl
        have y1 := (HBS.out.cl1 (.cells #[] 0)).1
        have y6 := HBS.out.cl6
        obtain ⟨t, ht⟩ : ∃ t, t = mkB (tT sz pB.b pB.r) := ⟨_, rfl⟩
        obtain ⟨pC, hpC⟩ : ∃ q, q = { pB with b := tB sz pB.b pB.r, r := tR sz pB.b pB.r, keys := pB.keys ++ [t] } := ⟨_, rfl⟩
        have hrC : pC.r.length ≤ 4096 := by rw [hpC]; exact (HOKB.out.text sz pB.b).1
        have HT := Lib.hid ht
        have HPC := Lib.hid hpC
        clear ht hpC
        go_upto_region 16 with fail
        go_cut [] from 41 to 80 (fun wx => ∃ K' d, DecS w b2 g4 g5 g6 pn true pC K' V U d e2 e3 wx)
        case first =>
          go_region_law (first
            | (refine step_append_src _ rfl (.tmp 56) (.tmp 60) 22 rfl w.heap.size 9 i9 (.string ⟨#[]⟩) 16 Try.underlying22 HI9.out I9.out.1 I9.out.2.1 I9.out.2.2 rfl (.slice K pB.keys.length e1) pB.keys.length (strs pB.keys) (by simp [Act.eval]) HO.out.1 (some ⟨y1.heap.size, 0, none⟩) 1 1 [.string t] (by simp [Act.eval]) rfl HO.out.2.1 (by simp [Value.oneCell']) (by unfold maxLen; omega) (by omega) HO.out.2.2 ?_
               intro X' dd w9 hown2 hgrow hat
               have hfz := HO3.out w9 hgrow
               have ff := (hfz 1).2
               have qq := (hfz 1).1
               simp only [List.getElem?_toArray, List.getElem?_cons_succ, List.getElem?_cons_zero] at qq
               have HC := Lib.hid (And.intro hown2 (And.intro hgrow hat))
               clear hown2 hgrow hat hfz)
            | (go_simp; go_at_call 39; refine (HBS.out.drew.text HOKB.out.r sz (by omega)).mono ?_; rintro e y1 ⟨rfl, hy⟩; rw [← HT.out]; obtain ⟨y3, y4⟩ := hy.cl1 (.cells #[.string t] 9); have z6 := hy.cl6; have HY := Lib.hid hy
               have HO : Hid ((y1.alloc (.cells #[.string t] 9)).ownsRow w.heap.size 9 1 (.slice K pB.keys.length e1) pB.keys.length (strs pB.keys) ∧ Src (y1.alloc (.cells #[.string t] 9)) (some ⟨y1.heap.size, 0, none⟩) [.string t] ∧ w.heap.size ≤ (y1.alloc (.cells #[.string t] 9)).heap.size) := ⟨ownAlloc hy.oK _, src_one y1 9 _, Nat.le_trans hy.bs (by simp)⟩
               have HO3 : Hid (∀ W', (y1.alloc (.cells #[.string t] 9)).grownBy W' (Value.ownBlock (.slice K pB.keys.length e1)) → ∀ i, _) := fun W' hg => hy.knK _ hg
               clear hy))
          all_goals
            go_wp2_with fail
            go_meet
            refine ⟨X', dd, ?_⟩
            rw [HPC.out]
            exact HY.out.key t HC.out.1 HC.out.2.1 HC.out.2.2
        case rest =>
          obtain ⟨K', d', hC⟩ := hcut
          have HCS := Lib.hid hC
          have x0 := hC.cl0
          clear hC
          obtain ⟨t2, ht2⟩ : ∃ t, t = mkB (tT ln pC.b pC.r) := ⟨_, rfl⟩
          have HT2 := Lib.hid ht2
          have n2k : pC.vals.length ≤ k := by rw [HPC.out]; exact HOKB.out.vl
          clear ht2
          go_upto_region 18 with fail
          have y2 := (HCS.out.cl2 (.cells #[] 0)).1
          have y6 := HCS.out.cl6
          go_region_law (first
            | (refine step_append_src _ rfl (.tmp 66) (.tmp 70) 22 rfl w.heap.size 9 i9 (.string ⟨#[]⟩) 16 Try.underlying22 HI9.out I9.out.1 I9.out.2.1 I9.out.2.2 rfl (.slice V pC.vals.length e2) pC.vals.length (strs pC.vals) (by simp [Act.eval]) HO.out.1 (some ⟨y1.heap.size, 0, none⟩) 1 1 [.string t2] (by simp [Act.eval]) rfl HO.out.2.1 (by simp [Value.oneCell']) (by unfold maxLen; omega) (by omega) HO.out.2.2 ?_
               intro X' dd w9 hown2 hgrow hat
               have hfz := HO3.out w9 hgrow
               have ff := (hfz 2).2
               have qq := (hfz 2).1
               simp only [List.getElem?_toArray, List.getElem?_cons_succ, List.getElem?_cons_zero] at qq
               have HC := Lib.hid (And.intro hown2 (And.intro hgrow hat))
               clear hown2 hgrow hat hfz)
            | (go_simp; go_at_call 39; refine (HCS.out.drew.text hrC ln (by omega)).mono ?_; rintro e y1 ⟨rfl, hy⟩; rw [← HT2.out]; obtain ⟨y3, y4⟩ := hy.cl2 (.cells #[.string t2] 9); have z6 := hy.cl6; have HY := Lib.hid hy
               have HO : Hid ((y1.alloc (.cells #[.string t2] 9)).ownsRow w.heap.size 9 1 (.slice V pC.vals.length e2) pC.vals.length (strs pC.vals) ∧ Src (y1.alloc (.cells #[.string t2] 9)) (some ⟨y1.heap.size, 0, none⟩) [.string t2] ∧ w.heap.size ≤ (y1.alloc (.cells #[.string t2] 9)).heap.size) := ⟨ownAlloc hy.oV _, src_one y1 9 _, Nat.le_trans hy.bs (by simp)⟩
               have HO3 : Hid (∀ W', (y1.alloc (.cells #[.string t2] 9)).grownBy W' (Value.ownBlock (.slice V pC.vals.length e2)) → ∀ i, _) := fun W' hg => hy.knV _ hg
               clear hy))
          all_goals
            go_wp2_with fail
            go_roundg (gk - 1)
            case measure => omega
            case rel =>
              refine ⟨k + 1, K', X', U, d', dd, e3, by omega, by go_num, ?_⟩
              have hfin := HY.out.value t2 HC.out.1 HC.out.2.1 HC.out.2.2
              have e : iter true p0 (k + 1) = { pC with b := tB ln pC.b pC.r, r := tR ln pC.b pC.r, vals := pC.vals ++ [t2] } := by
                show step true (iter true p0 k) = _
                rw [← HP.out]
                rw [HT2.out, HPC.out, HT.out, HPB.out.2, HPB.out.1, HPA.out.2, HPA.out.1]
                rfl
              rw [e]
              exact hfin
      | true =>
        rw [hb] at x5
        have HB := Lib.hid hb
        clear hb
        have hend : Hid (k = C ∨ p.b = true) := .inr HB.out
        obtain ⟨n', hn'⟩ : ∃ n' : Nd, n' = ⟨true, p.keys, p.vals, p.kids⟩ := ⟨_, rfl⟩
        have hown : OwnD wr w.heap.size n' K V U e1 e2 e3 := by rw [hn']; exact ⟨HD.out.oK, HD.out.oV, HD.out.oU, fun q hq => (HD.out.nK q hq).2⟩
        have hlen : n'.keys.length ≤ 100000 ∧ n'.vals.length ≤ 100000 ∧ n'.kids.length ≤ 100000 := by
          rw [hn']
          have a1 := HOK.out.kl
          have a2 := HOK.out.vl
          have a3 := HOK.out.ul
          exact ⟨by show p.keys.length ≤ _; omega, by show p.vals.length ≤ _; omega, by show p.kids.length ≤ _; omega⟩
        have hndf : ∀ W, OwnD W w.heap.size n' K V U e1 e2 e3 → NdR W n' K V U := fun W hW => hW.nd hlen.1 hlen.2.1 hlen.2.2 (by rw [hn']; exact HOK.out.ks) (by rw [hn']; exact HOK.out.vs) (by rw [hn']; exact HOK.out.us)
        have hvd : ∀ n, ValidN s n → p.b = false ∧ n' = n := fun n hv => by
          have := valid_end hv (by rw [← HL.out.1]; exact HST.out) (show k ≤ C by omega) (by rw [← HP.out]; exact hend.out)
          rw [← HP.out] at this
          exact ⟨this.1, hn'.trans this.2⟩
        have hnd := hndf wr hown
        obtain ⟨es, ev, hcall, hev⟩ : ∃ (es : ByteArray) (ev : Int), Calls Try.prog 9 #[.agg (ndC n' K V U e1 e2 e3), .int .i64 m] wr (fun e w' => e = .returned (.tuple #[.string es, .int .i64 ev]) ∧ Below wr.heap.size wr w') ∧ ((ev = 0 ∧ EncP n' m ∧ es = encS n' m) ∨ (ev = 1 ∧ ¬ EncP n' m)) := by
          by_cases hE : EncP n' m
          · exact ⟨encS n' m, 0, encode_yes n' K V U e1 e2 e3 m wr hnd hE, .inl ⟨rfl, hE, rfl⟩⟩
          · exact ⟨⟨#[]⟩, 1, encode_no n' K V U e1 e2 e3 m wr hnd hE, .inr ⟨rfl, hE⟩⟩
        have HCALL : Hid (Calls Try.prog 9 #[.agg #[.bool true, .slice K p.keys.length e1, .slice V p.vals.length e2, .slice U p.kids.length e3], .int .i64 m] wr (fun e w' => e = .returned (.tuple #[.string es, .int .i64 ev]) ∧ Below wr.heap.size wr w')) := by rw [hn'] at hcall; exact hcall
        have HF := Lib.hid (And.intro hn' (And.intro hown (And.intro hlen (And.intro hndf (And.intro hvd hev)))))
        clear hn' hown hlen hndf hvd hnd hcall hev
        have y0 := HD.out.cl0
        have y1 := (HD.out.cl1 (.cells #[] 0)).1
        have y2 := (HD.out.cl2 (.cells #[] 0)).1
        have y3 := (HD.out.cl3 (.cells #[] 0)).1
        go_wp2_with fail
        refine HCALL.out.mono ?_
        rintro e w9 ⟨rfl, hb9⟩
        have k2 := HD.out.k2.below hb9 HD.out.k2.lt
        have kn := HD.out.kn.below hb9 HD.out.kn.lt
        have k5 := HD.out.k5.below hb9 HD.out.k5.lt
        rw [HB.out] at k5
        have x5 := k5.cell 0
        have x0 := k2.cell 0
        have x1 := k2.cell 1
        have x2 := k2.cell 2
        have x3 := k2.cell 3
        have f0 := k2.frozen 0
        have f1 := k2.frozen 1
        have f2 := k2.frozen 2
        have f3 := k2.frozen 3
        clear y0 y1 y2 y3
        have y0 := kn.cell 0
        have y1 := kn.cell 1
        have y2 := kn.cell 2
        have y3 := kn.cell 3
        simp [zN] at x0 x1 x2 x3 x5 y0 y1 y2 y3
        have H9 := Lib.hid (And.intro k2 (And.intro hb9 HD.out.lo.1))
        clear k2 kn k5 hb9
        have hno : Hid (¬ ∃ n, ValidN s n) := fun ⟨n, hv⟩ => by have h1 := (HF.out.2.2.2.2.1 n hv).1; rw [HB.out] at h1; cases h1
        go_wp2_with fail
        have hfk := ((((H9.out.1.set_ 0 (.bool false)).set_ 1 (.slice none 0 0)).set_ 2 (.slice none 0 0)).set_ 3 (.slice none 0 0))
        have hlo := H9.out.2.2
        have hbb : Below w.heap.size w w9 := HD.out.bl.trans (H9.out.2.1.mono HD.out.bs)
        refine bodyPost_ret (results_cell_tmp rfl _ _ b2 26 zN (0, 0) _ rfl hfk Try.underlying26 rfl (by kernel_rfl)) rfl ?_
        exact decPost_no ((((hbb.setCell (p := ⟨b2, 0, none⟩) hlo _).setCell (p := ⟨b2, 1, none⟩) hlo _).setCell (p := ⟨b2, 2, none⟩) hlo _).setCell (p := ⟨b2, 3, none⟩) hlo _) hno.out
    · have hgk : gk = 0 := by omega
      cases hb : p.b with
      | false =>
        have HB := Lib.hid hb
        clear hb x5
        have hend : Hid (k = C ∨ p.b = true) := .inl (by omega)
        obtain ⟨n', hn'⟩ : ∃ n' : Nd, n' = ⟨true, p.keys, p.vals, p.kids⟩ := ⟨_, rfl⟩
        have hown : OwnD wr w.heap.size n' K V U e1 e2 e3 := by rw [hn']; exact ⟨HD.out.oK, HD.out.oV, HD.out.oU, fun q hq => (HD.out.nK q hq).2⟩
        have hlen : n'.keys.length ≤ 100000 ∧ n'.vals.length ≤ 100000 ∧ n'.kids.length ≤ 100000 := by
          rw [hn']
          have a1 := HOK.out.kl
          have a2 := HOK.out.vl
          have a3 := HOK.out.ul
          exact ⟨by show p.keys.length ≤ _; omega, by show p.vals.length ≤ _; omega, by show p.kids.length ≤ _; omega⟩
        have hndf : ∀ W, OwnD W w.heap.size n' K V U e1 e2 e3 → NdR W n' K V U := fun W hW => hW.nd hlen.1 hlen.2.1 hlen.2.2 (by rw [hn']; exact HOK.out.ks) (by rw [hn']; exact HOK.out.vs) (by rw [hn']; exact HOK.out.us)
        have hvd : ∀ n, ValidN s n → p.b = false ∧ n' = n := fun n hv => by
          have := valid_end hv (by rw [← HL.out.1]; exact HST.out) (show k ≤ C by omega) (by rw [← HP.out]; exact hend.out)
          rw [← HP.out] at this
          exact ⟨this.1, hn'.trans this.2⟩
        have hnd := hndf wr hown
        obtain ⟨es, ev, hcall, hev⟩ : ∃ (es : ByteArray) (ev : Int), Calls Try.prog 9 #[.agg (ndC n' K V U e1 e2 e3), .int .i64 m] wr (fun e w' => e = .returned (.tuple #[.string es, .int .i64 ev]) ∧ Below wr.heap.size wr w') ∧ ((ev = 0 ∧ EncP n' m ∧ es = encS n' m) ∨ (ev = 1 ∧ ¬ EncP n' m)) := by
          by_cases hE : EncP n' m
          · exact ⟨encS n' m, 0, encode_yes n' K V U e1 e2 e3 m wr hnd hE, .inl ⟨rfl, hE, rfl⟩⟩
          · exact ⟨⟨#[]⟩, 1, encode_no n' K V U e1 e2 e3 m wr hnd hE, .inr ⟨rfl, hE⟩⟩
        have HCALL : Hid (Calls Try.prog 9 #[.agg #[.bool true, .slice K p.keys.length e1, .slice V p.vals.length e2, .slice U p.kids.length e3], .int .i64 m] wr (fun e w' => e = .returned (.tuple #[.string es, .int .i64 ev]) ∧ Below wr.heap.size wr w')) := by rw [hn'] at hcall; exact hcall
        have HF := Lib.hid (And.intro hn' (And.intro hown (And.intro hlen (And.intro hndf (And.intro hvd hev)))))
        clear hn' hown hlen hndf hvd hnd hcall hev
        have y0 := HD.out.cl0
        have y1 := (HD.out.cl1 (.cells #[] 0)).1
        have y2 := (HD.out.cl2 (.cells #[] 0)).1
        have y3 := (HD.out.cl3 (.cells #[] 0)).1
        go_wp2_with fail
        refine HCALL.out.mono ?_
        rintro e w9 ⟨rfl, hb9⟩
        have k2 := HD.out.k2.below hb9 HD.out.k2.lt
        have kn := HD.out.kn.below hb9 HD.out.kn.lt
        have k5 := HD.out.k5.below hb9 HD.out.k5.lt
        rw [HB.out] at k5
        have x5 := k5.cell 0
        have x0 := k2.cell 0
        have x1 := k2.cell 1
        have x2 := k2.cell 2
        have x3 := k2.cell 3
        have f0 := k2.frozen 0
        have f1 := k2.frozen 1
        have f2 := k2.frozen 2
        have f3 := k2.frozen 3
        clear y0 y1 y2 y3
        have y0 := kn.cell 0
        have y1 := kn.cell 1
        have y2 := kn.cell 2
        have y3 := kn.cell 3
        simp [zN] at x0 x1 x2 x3 x5 y0 y1 y2 y3
        have H9 := Lib.hid (And.intro k2 (And.intro hb9 HD.out.lo.1))
        clear k2 kn k5 hb9
        rcases HF.out.2.2.2.2.2 with ⟨rfl, hE, hes⟩ | ⟨rfl, hE⟩
        · by_cases heq : es = s
          · have HQ := Lib.hid (And.intro hE (And.intro hes heq))
            subst heq
            clear hE hes
            go_wp2_with fail
            have hfk := ((((H9.out.1.set_ 0 (.bool true)).set_ 1 (.slice K p.keys.length e1)).set_ 2 (.slice V p.vals.length e2)).set_ 3 (.slice U p.kids.length e3))
            have hlo := H9.out.2.2
            have hbb : Below w.heap.size w w9 := HD.out.bl.trans (H9.out.2.1.mono HD.out.bs)
            refine bodyPost_ret (results_cell_tmp rfl _ _ b2 26 #[.bool true, .slice K p.keys.length e1, .slice V p.vals.length e2, .slice U p.kids.length e3] (0, 0) _ rfl hfk Try.underlying26 rfl (by kernel_rfl)) rfl ?_
            have ho : Only (fun k => k = b2) w9 ((((w9.setCell ⟨b2, 0, none⟩ (.bool true)).setCell ⟨b2, 1, none⟩ (.slice K p.keys.length e1)).setCell ⟨b2, 2, none⟩ (.slice V p.vals.length e2)).setCell ⟨b2, 3, none⟩ (.slice U p.kids.length e3)) :=
              ((((Only.refl (fun k => k = b2) w9).setCell (p := ⟨b2, 0, none⟩) (.inl rfl) _).setCell (p := ⟨b2, 1, none⟩) (.inl rfl) _).setCell (p := ⟨b2, 2, none⟩) (.inl rfl) _).setCell (p := ⟨b2, 3, none⟩) (.inl rfl) _
            have hD9 := (HF.out.2.1.below H9.out.2.1).only ho (fun g hg => by have e : g = b2 := hg; exact ⟨_, by rw [e]; exact H9.out.1⟩)
            have hus : ∀ i, n'.kids.getD i 0 < 4294967296 := by rw [HF.out.1]; exact HOK.out.us
            refine ⟨n', K, V, U, e1, e2, e3, 0, ?_, (((hbb.setCell (p := ⟨b2, 0, none⟩) hlo _).setCell (p := ⟨b2, 1, none⟩) hlo _).setCell (p := ⟨b2, 2, none⟩) hlo _).setCell (p := ⟨b2, 3, none⟩) hlo _, HF.out.2.2.2.1 _ hD9, hD9, .inl ⟨rfl, hus, ?_, ?_⟩, HF.out.2.2.1.1, HF.out.2.2.1.2.1, HF.out.2.2.1.2.2⟩
            · rw [HF.out.1]; rfl
            · rw [hm']; exact HQ.out.1
            · rw [hm']; exact HQ.out.2.1.symm
          · have hne := toList_ne heq
            have HQ := Lib.hid (And.intro hes heq)
            clear hE hes heq
            have hno : Hid (¬ ∃ n, ValidN s n) := fun ⟨n, hv⟩ => by have h1 := (HF.out.2.2.2.2.1 n hv).2; have h2 := hv.2.2; rw [← h1, hm'] at h2; exact HQ.out.2 (HQ.out.1.trans h2)
            go_wp2_with fail
            have hfk := ((((H9.out.1.set_ 0 (.bool false)).set_ 1 (.slice none 0 0)).set_ 2 (.slice none 0 0)).set_ 3 (.slice none 0 0))
            have hlo := H9.out.2.2
            have hbb : Below w.heap.size w w9 := HD.out.bl.trans (H9.out.2.1.mono HD.out.bs)
            refine bodyPost_ret (results_cell_tmp rfl _ _ b2 26 zN (0, 0) _ rfl hfk Try.underlying26 rfl (by kernel_rfl)) rfl ?_
            exact decPost_no ((((hbb.setCell (p := ⟨b2, 0, none⟩) hlo _).setCell (p := ⟨b2, 1, none⟩) hlo _).setCell (p := ⟨b2, 2, none⟩) hlo _).setCell (p := ⟨b2, 3, none⟩) hlo _) hno.out
        · have HQ := Lib.hid hE
          clear hE
          have hno : Hid (¬ ∃ n, ValidN s n) := fun ⟨n, hv⟩ => by have h1 := (HF.out.2.2.2.2.1 n hv).2; have h2 := hv.2.1; rw [← h1, hm'] at h2; exact HQ.out h2
          go_wp2_with fail
          have hfk := ((((H9.out.1.set_ 0 (.bool false)).set_ 1 (.slice none 0 0)).set_ 2 (.slice none 0 0)).set_ 3 (.slice none 0 0))
          have hlo := H9.out.2.2
          have hbb : Below w.heap.size w w9 := HD.out.bl.trans (H9.out.2.1.mono HD.out.bs)
          refine bodyPost_ret (results_cell_tmp rfl _ _ b2 26 zN (0, 0) _ rfl hfk Try.underlying26 rfl (by kernel_rfl)) rfl ?_
          exact decPost_no ((((hbb.setCell (p := ⟨b2, 0, none⟩) hlo _).setCell (p := ⟨b2, 1, none⟩) hlo _).setCell (p := ⟨b2, 2, none⟩) hlo _).setCell (p := ⟨b2, 3, none⟩) hlo _) hno.out
      | true =>
        have HB := Lib.hid hb
        clear hb x5
        have hend : Hid (k = C ∨ p.b = true) := .inl (by omega)
        obtain ⟨n', hn'⟩ : ∃ n' : Nd, n' = ⟨true, p.keys, p.vals, p.kids⟩ := ⟨_, rfl⟩
        have hown : OwnD wr w.heap.size n' K V U e1 e2 e3 := by rw [hn']; exact ⟨HD.out.oK, HD.out.oV, HD.out.oU, fun q hq => (HD.out.nK q hq).2⟩
        have hlen : n'.keys.length ≤ 100000 ∧ n'.vals.length ≤ 100000 ∧ n'.kids.length ≤ 100000 := by
          rw [hn']
          have a1 := HOK.out.kl
          have a2 := HOK.out.vl
          have a3 := HOK.out.ul
          exact ⟨by show p.keys.length ≤ _; omega, by show p.vals.length ≤ _; omega, by show p.kids.length ≤ _; omega⟩
        have hndf : ∀ W, OwnD W w.heap.size n' K V U e1 e2 e3 → NdR W n' K V U := fun W hW => hW.nd hlen.1 hlen.2.1 hlen.2.2 (by rw [hn']; exact HOK.out.ks) (by rw [hn']; exact HOK.out.vs) (by rw [hn']; exact HOK.out.us)
        have hvd : ∀ n, ValidN s n → p.b = false ∧ n' = n := fun n hv => by
          have := valid_end hv (by rw [← HL.out.1]; exact HST.out) (show k ≤ C by omega) (by rw [← HP.out]; exact hend.out)
          rw [← HP.out] at this
          exact ⟨this.1, hn'.trans this.2⟩
        have hnd := hndf wr hown
        obtain ⟨es, ev, hcall, hev⟩ : ∃ (es : ByteArray) (ev : Int), Calls Try.prog 9 #[.agg (ndC n' K V U e1 e2 e3), .int .i64 m] wr (fun e w' => e = .returned (.tuple #[.string es, .int .i64 ev]) ∧ Below wr.heap.size wr w') ∧ ((ev = 0 ∧ EncP n' m ∧ es = encS n' m) ∨ (ev = 1 ∧ ¬ EncP n' m)) := by
          by_cases hE : EncP n' m
          · exact ⟨encS n' m, 0, encode_yes n' K V U e1 e2 e3 m wr hnd hE, .inl ⟨rfl, hE, rfl⟩⟩
          · exact ⟨⟨#[]⟩, 1, encode_no n' K V U e1 e2 e3 m wr hnd hE, .inr ⟨rfl, hE⟩⟩
        have HCALL : Hid (Calls Try.prog 9 #[.agg #[.bool true, .slice K p.keys.length e1, .slice V p.vals.length e2, .slice U p.kids.length e3], .int .i64 m] wr (fun e w' => e = .returned (.tuple #[.string es, .int .i64 ev]) ∧ Below wr.heap.size wr w')) := by rw [hn'] at hcall; exact hcall
        have HF := Lib.hid (And.intro hn' (And.intro hown (And.intro hlen (And.intro hndf (And.intro hvd hev)))))
        clear hn' hown hlen hndf hvd hnd hcall hev
        have y0 := HD.out.cl0
        have y1 := (HD.out.cl1 (.cells #[] 0)).1
        have y2 := (HD.out.cl2 (.cells #[] 0)).1
        have y3 := (HD.out.cl3 (.cells #[] 0)).1
        go_wp2_with fail
        refine HCALL.out.mono ?_
        rintro e w9 ⟨rfl, hb9⟩
        have k2 := HD.out.k2.below hb9 HD.out.k2.lt
        have kn := HD.out.kn.below hb9 HD.out.kn.lt
        have k5 := HD.out.k5.below hb9 HD.out.k5.lt
        rw [HB.out] at k5
        have x5 := k5.cell 0
        have x0 := k2.cell 0
        have x1 := k2.cell 1
        have x2 := k2.cell 2
        have x3 := k2.cell 3
        have f0 := k2.frozen 0
        have f1 := k2.frozen 1
        have f2 := k2.frozen 2
        have f3 := k2.frozen 3
        clear y0 y1 y2 y3
        have y0 := kn.cell 0
        have y1 := kn.cell 1
        have y2 := kn.cell 2
        have y3 := kn.cell 3
        simp [zN] at x0 x1 x2 x3 x5 y0 y1 y2 y3
        have H9 := Lib.hid (And.intro k2 (And.intro hb9 HD.out.lo.1))
        clear k2 kn k5 hb9
        have hno : Hid (¬ ∃ n, ValidN s n) := fun ⟨n, hv⟩ => by have h1 := (HF.out.2.2.2.2.1 n hv).1; rw [HB.out] at h1; cases h1
        go_wp2_with fail
        have hfk := ((((H9.out.1.set_ 0 (.bool false)).set_ 1 (.slice none 0 0)).set_ 2 (.slice none 0 0)).set_ 3 (.slice none 0 0))
        have hlo := H9.out.2.2
        have hbb : Below w.heap.size w w9 := HD.out.bl.trans (H9.out.2.1.mono HD.out.bs)
        refine bodyPost_ret (results_cell_tmp rfl _ _ b2 26 zN (0, 0) _ rfl hfk Try.underlying26 rfl (by kernel_rfl)) rfl ?_
        exact decPost_no ((((hbb.setCell (p := ⟨b2, 0, none⟩) hlo _).setCell (p := ⟨b2, 1, none⟩) hlo _).setCell (p := ⟨b2, 2, none⟩) hlo _).setCell (p := ⟨b2, 3, none⟩) hlo _) hno.out
end Go.Proofs.Ytpggicaphejjfaa
