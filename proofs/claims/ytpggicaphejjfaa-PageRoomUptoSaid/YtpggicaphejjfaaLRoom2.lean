/-
  The law PageRoom: its walk.
-/
import Derived.Test.YtpggicaphejjfaaLRoom
import Derived.Test.YtpggicaphejjfaaLBack
import Derived.Deep.RegionLaw
import Derived.Deep.CutBlock
import Derived.Deep.OwnRows
set_option linter.unusedVariables false
set_option linter.unusedSimpArgs false
namespace Go.Proofs.Ytpggicaphejjfaa
open Go.RowKit

theorem own_one (w : World) {B : Nat} (hB : B ≤ w.heap.size) (e : TypeId) (x : Value) : (w.alloc (.cells #[x] e)).ownsRow B e 1 (.slice (some ⟨w.heap.size, 0, none⟩) 1 1) 1 [x] :=
  ⟨rfl, .inr ⟨w.heap.size, 1, #[x], rfl, hB, Blk.new w e #[x], Nat.le_refl _, by decide, rfl, rfl⟩⟩
theorem kids_snoc_ne {l : List Nat} {x : Nat} (h : ∀ j, j < l.length → l.getD j 0 ≠ 0) (hx : x ≠ 0) : ∀ j, j < (l ++ [x]).length → (l ++ [x]).getD j 0 ≠ 0 := by
  intro j hj
  rw [List.length_append] at hj
  simp at hj
  rcases Nat.lt_or_ge j l.length with q | q
  · have := h j q
    simpa [List.getD, List.getElem?_append_left q] using this
  · have : j = l.length := by omega
    subst this
    simpa [List.getD] using hx
theorem kids_snoc_lt {l : List Nat} {x : Nat} (h : ∀ j, l.getD j 0 < 4294967296) (hx : x < 4294967296) : ∀ j, (l ++ [x]).getD j 0 < 4294967296 := by
  intro j
  rcases Nat.lt_or_ge j l.length with q | q
  · have := h j
    simpa [List.getD, List.getElem?_append_left q] using this
  · rcases Nat.eq_or_lt_of_le q with q | q
    · rw [← q]; simpa [List.getD] using hx
    · have : (l ++ [x])[j]? = none := by simp; omega
      simp [List.getD, this]
/-- what loop 1 has made -/
structure KidP (p : Nd) (od : Nat) : Prop where
  lf : p.leaf = false
  ks : KeysP p.keys
  vs : p.vals = []
  us : p.kids.length = p.keys.length + 1
  od : p.kids.length ≤ od
  nz : ∀ j, j < p.kids.length → p.kids.getD j 0 ≠ 0
  lt : ∀ j, p.kids.getD j 0 < 4294967296
theorem kidP_start {od : Nat} (h : 1 ≤ od) : KidP ⟨false, [], [], [1]⟩ od := by
  refine ⟨rfl, fun i hi => absurd hi (by simp), rfl, rfl, h, fun j hj => ?_, fun j => ?_⟩
  · have : j = 0 := by simpa using hj
    subst this
    decide
  · rcases j with _ | j <;> simp
theorem KidP.more {p : Nd} {od : Nat} (h : KidP p od) {x : ByteArray} {t : Nat} (h1 : 1 ≤ x.size) (h2 : x.size ≤ 64) (h3 : 0 < p.keys.length → Op.bytesLess (p.keys.getD (p.keys.length - 1) ⟨#[]⟩).toList x.toList = true) (ho : p.kids.length < od) (ht : t ≠ 0) (ht2 : t < 4294967296) :
    KidP { p with keys := p.keys ++ [x], kids := p.kids ++ [t] } od :=
  ⟨h.lf, keysP_snoc h.ks h1 h2 h3, h.vs, by simp [h.us], by simp; omega, kids_snoc_ne h.nz ht, kids_snoc_lt h.lt ht2⟩
theorem RmN.allocN {w u : World} {pn : Nat} {leaf : Bool} {p : Nd} {K V U : Option Addr} {c1 c2 c3 : Nat} (h : RmN w pn leaf p K V U c1 c2 c3 u) (o : Obj) : RmN w pn leaf p K V U c1 c2 c3 (u.alloc o) :=
  ⟨h.bl.alloc h.bs _, by have := h.bs; simp; omega, h.lo, h.kn.alloc o, ownAlloc h.oK o, ownAlloc h.oV o, ownAlloc h.oU o, h.nK⟩
theorem RmN.own {w u : World} {pn : Nat} {leaf : Bool} {p : Nd} {K V U : Option Addr} {c1 c2 c3 : Nat} (h : RmN w pn leaf p K V U c1 c2 c3 u) : OwnD u w.heap.size p K V U c1 c2 c3 := ⟨h.oK, h.oV, h.oU, h.nK⟩
theorem KidP.nd {p : Nd} {od : Nat} (h : KidP p od) (ho : od ≤ 60) {W : World} {B : Nat} {K V U : Option Addr} {c1 c2 c3 : Nat} (hW : OwnD W B p K V U c1 c2 c3) : NdR W p K V U := by
  have h1 := h.us
  have h2 := h.od
  refine hW.nd (by omega) (by rw [h.vs]; decide) (by omega) (fun i => ?_) (fun i => by rw [h.vs]; simp [ByteArray.size]) h.lt
  rcases Nat.lt_or_ge i p.keys.length with q | q
  · have := (h.ks i q).2.1; omega
  · simp [List.getD, q, ByteArray.size]
theorem KidP.check {p : Nd} {z : Nat} (h : KidP p (orderN z)) (hz : 512 ≤ z) : CheckN p z := room_check hz h.lf h.ks (by rw [h.vs]; rfl) h.us h.od h.nz
def kb (i : Nat) : ByteArray := ⟨#[UInt8.ofNat (97 + i)]⟩
def nlN (T : ByteArray) (j : Nat) : Nd := ⟨true, (List.range j).map kb, List.replicate j T, []⟩
theorem nlN_succ (T : ByteArray) (j : Nat) : nlN T (j + 1) = { nlN T j with keys := (nlN T j).keys ++ [kb j], vals := (nlN T j).vals ++ [T] } := by
  simp [nlN, List.range_succ, List.replicate_succ']
theorem nlN_three (T : ByteArray) : nlN T 3 = nl3 T T T := rfl
theorem nlN_nd {T : ByteArray} (hT : T.size ≤ 4096) {W : World} {B : Nat} {K V U : Option Addr} {c1 c2 c3 : Nat} (hW : OwnD W B (nlN T 3) K V U c1 c2 c3) : NdR W (nlN T 3) K V U := by
  refine hW.nd (by simp [nlN]) (by simp [nlN]) (by simp [nlN]) (fun i => ?_) (fun i => ?_) (fun i => by simp [nlN])
  · rcases Nat.lt_or_ge i 3 with q | q
    · rcases (show i = 0 ∨ i = 1 ∨ i = 2 by omega) with rfl | rfl | rfl <;> exact (by decide : 1 ≤ 4096)
    · simp [nlN, List.getD, q, ByteArray.size]
  · rcases Nat.lt_or_ge i 3 with q | q
    · rcases (show i = 0 ∨ i = 1 ∨ i = 2 by omega) with rfl | rfl | rfl <;> exact hT
    · simp [nlN, List.getD, q, ByteArray.size]
theorem kb_text (W : World) (g : Nat) {t i : Nat} (ht : t = 97 + i) (hi : i < 3) (hW : Blk W g 5 #[.int .u8 (t : Nat)]) : (convert 43 9 (.slice (some ⟨g, 0, none⟩) 1 1)).run Try.prog W = .ok (.string (kb i)) W := by
  have ho : W.ownsRow 0 5 1 (.slice (some ⟨g, 0, none⟩) 1 1) 1 (Lib.byteCells [UInt8.ofNat (97 + i)]) := by
    refine ⟨rfl, .inr ⟨g, 1, #[.int .u8 (t : Nat)], rfl, Nat.zero_le _, hW, Nat.le_refl _, by decide, rfl, ?_⟩⟩
    subst ht
    rcases (show i = 0 ∨ i = 1 ∨ i = 2 by omega) with rfl | rfl | rfl <;> rfl
  exact run_textB (by simp) ho
theorem zeros_text (W : World) (g q : Nat) (hW : Blk W g 5 (madeCells #[.int .u8 0] q)) (hq : q ≤ 4096) : (convert 43 9 (.slice (some ⟨g, 0, none⟩) q q)).run Try.prog W = .ok (.string ⟨(List.replicate q (0 : UInt8)).toArray⟩) W := by
  have ho : W.ownsRow 0 5 1 (.slice (some ⟨g, 0, none⟩) q q) q (Lib.byteCells (List.replicate q 0)) := by
    refine ⟨by rw [← cells_zero]; simp, .inr ⟨g, q, _, rfl, Nat.zero_le _, hW, Nat.le_refl _, by unfold maxLen; omega, by rw [size_madeCells]; omega, ?_⟩⟩
    rw [toList_madeCells_one, cells_zero, Nat.mul_one]
    exact List.take_of_length_le (by rw [← cells_zero]; simp)
  exact run_textB (by simp) ho
theorem big_world (w : World) (x T : ByteArray) (m : Nat) :
    Below w.heap.size w ((((w.alloc (.cells #[.string x] 9)).alloc (.cells (madeCells #[.int .u8 0] m) 5)).alloc (.cells #[.string T] 9)).alloc (.cells #[.bool true, .slice (some ⟨w.heap.size, 0, none⟩) 1 1, .slice (some ⟨w.heap.size + 1 + 1, 0, none⟩) 1 1, .slice none 0 0] 26)) ∧
    Blk ((((w.alloc (.cells #[.string x] 9)).alloc (.cells (madeCells #[.int .u8 0] m) 5)).alloc (.cells #[.string T] 9)).alloc (.cells #[.bool true, .slice (some ⟨w.heap.size, 0, none⟩) 1 1, .slice (some ⟨w.heap.size + 1 + 1, 0, none⟩) 1 1, .slice none 0 0] 26)) (w.heap.size + 1 + 1 + 1) 26 #[.bool true, .slice (some ⟨w.heap.size, 0, none⟩) 1 1, .slice (some ⟨w.heap.size + 1 + 1, 0, none⟩) 1 1, .slice none 0 0] ∧
    OwnD ((((w.alloc (.cells #[.string x] 9)).alloc (.cells (madeCells #[.int .u8 0] m) 5)).alloc (.cells #[.string T] 9)).alloc (.cells #[.bool true, .slice (some ⟨w.heap.size, 0, none⟩) 1 1, .slice (some ⟨w.heap.size + 1 + 1, 0, none⟩) 1 1, .slice none 0 0] 26)) 0 ⟨true, [x], [T], []⟩ (some ⟨w.heap.size, 0, none⟩) (some ⟨w.heap.size + 1 + 1, 0, none⟩) none 1 1 0 := by
  have s1 : (w.alloc (.cells #[.string x] 9)).heap.size = w.heap.size + 1 := by simp
  have s2 : ((w.alloc (.cells #[.string x] 9)).alloc (.cells (madeCells #[.int .u8 0] m) 5)).heap.size = w.heap.size + 1 + 1 := by simp
  have s3 : (((w.alloc (.cells #[.string x] 9)).alloc (.cells (madeCells #[.int .u8 0] m) 5)).alloc (.cells #[.string T] 9)).heap.size = w.heap.size + 1 + 1 + 1 := by simp
  refine ⟨((((Below.refl _ w).alloc (Nat.le_refl _) _).alloc (by omega) _).alloc (by omega) _).alloc (by omega) _, by rw [← s3]; exact Blk.new _ 26 _, ?_, ?_, ⟨rfl, .inl ⟨rfl, rfl⟩⟩, ?_⟩
  · exact ownAlloc (ownAlloc (ownAlloc (own_one w (Nat.zero_le _) 9 _) _) _) _
  · have := own_one ((w.alloc (.cells #[.string x] 9)).alloc (.cells (madeCells #[.int .u8 0] m) 5)) (B := 0) (Nat.zero_le _) 9 (.string T)
    rw [s2] at this
    exact ownAlloc this _
  · intro k hk h2
    simp [Value.ownBlock] at hk h2
    omega
theorem big_nd {T : ByteArray} (hT : T.size ≤ 4096) {W : World} {K V U : Option Addr} {c1 c2 c3 : Nat} (hW : OwnD W 0 ⟨true, [⟨#[97]⟩], [T], []⟩ K V U c1 c2 c3) : NdR W ⟨true, [⟨#[97]⟩], [T], []⟩ K V U := by
  refine hW.nd (by show 1 ≤ 100000; decide) (by show 1 ≤ 100000; decide) (by show 0 ≤ 100000; decide) (fun i => ?_) (fun i => ?_) (fun i => by simp)
  · rcases i with _ | i
    · exact (by decide : 1 ≤ 4096)
    · simp [List.getD, ByteArray.size]
  · rcases i with _ | i
    · exact hT
    · simp [List.getD, ByteArray.size]

set_option maxRecDepth 100000 in
set_option maxHeartbeats 8000000 in
theorem room_any (A : Option Addr) (l : List ByteArray) (c : Nat) (F : Nat) (X : Int) (w : World) (hl : StrR w A l) (hn : l.length ≤ 1048576) (hF : F ≤ 255) (hX1 : -9223372036854775808 ≤ X) (hX2 : X ≤ 9223372036854775807) :
    Calls Try.prog 4 #[.slice A l.length c, .int .u8 (F : Nat), .int .i64 X] w fun e w' => e = .returned (.bool true) ∧ Below w.heap.size w w' := by
  obtain ⟨i9, hi9, hq9⟩ := Option.map_eq_some_iff.1 info9
  obtain ⟨i42, hi42, hq42⟩ := Option.map_eq_some_iff.1 info42
  have I9 : Hid (i9.zero = some (.string ⟨#[]⟩) ∧ i9.size = 1 ∧ i9.bytes = 16) := ⟨(Prod.mk.inj hq9).1, (Prod.mk.inj (Prod.mk.inj hq9).2).1, (Prod.mk.inj (Prod.mk.inj hq9).2).2⟩
  have I42 : Hid (i42.zero = some (.int .u32 0) ∧ i42.size = 1 ∧ i42.bytes = 4) := ⟨(Prod.mk.inj hq42).1, (Prod.mk.inj (Prod.mk.inj hq42).2).1, (Prod.mk.inj (Prod.mk.inj hq42).2).2⟩
  have HI9 := Lib.hid hi9
  have HI42 := Lib.hid hi42
  clear hq9 hq42 hi9 hi42
  obtain ⟨qa, qb, qc, qd, qz, z, ha, hb, hc, hc2, hd, hz, b1, b2, b3, b4, b5, b6, b7, b8, rfl, z1, z2, z3⟩ := size_law X hX1 hX2
  clear hX1 hX2
  have HOR : Hid (∀ u, Calls Try.prog 13 #[.int .i64 z] u fun e w' => e = .returned (.tuple #[.int .i64 (orderN z), .int .i64 0]) ∧ u = w') := fun u => order_yes z u z1 z2 z3
  have HMO : Hid (∀ u, Calls Try.prog 11 #[.int .i64 z] u fun e w' => e = .returned (.tuple #[.int .i64 (mostN z), .int .i64 0]) ∧ u = w') := fun u => most_yes z u z1 z2 z3
  have o1 : 1 ≤ orderN z := by unfold orderN; omega
  have o2 : orderN z ≤ 60 := by unfold orderN; omega
  have m1 : 127 ≤ mostN z := by unfold mostN; omega
  have m2 : mostN z ≤ 1023 := by unfold mostN; omega
  obtain ⟨od, hod⟩ : ∃ q, q = orderN z := ⟨_, rfl⟩
  obtain ⟨mo, hmo⟩ : ∃ q, q = mostN z := ⟨_, rfl⟩
  rw [← hod] at HOR o1 o2
  rw [← hmo] at HMO m1 m2
  obtain ⟨N, hN⟩ : ∃ q, q = l.length := ⟨_, rfl⟩
  rw [← hN] at hn ⊢
  have HZ := Lib.hid (And.intro hod (And.intro hmo (And.intro z1 (And.intro z2 z3))))
  have HL := Lib.hid (And.intro hl hN)
  clear hl hN hod hmo
  go_enter Try.func4, Try.ntmps4
  go_wp2_with fail
  refine (HOR.out w).mono ?_
  rintro e w1 ⟨rfl, rfl⟩
  clear ha hb hc hc2 hd hz b1 b2 b3 b4 b5 b6 b7 b8
  go_wp2_with fail
  refine (HMO.out w).mono ?_
  rintro e w1 ⟨rfl, rfl⟩
  go_upto_region 7 with fail
  obtain ⟨pn, hpn⟩ : ∃ q, q = w.heap.size + 1 := ⟨_, rfl⟩
  obtain ⟨w2, hw2⟩ : ∃ w2, w2 = (w.alloc (.cells #[.int .u32 1] 42)).alloc (.cells #[.bool false, .slice none 0 0, .slice none 0 0, .slice (some ⟨w.heap.size, 0, none⟩) 1 1] 26) := ⟨_, rfl⟩
  rw [← hpn, ← hw2]
  have hR2 : RmN w pn false ⟨false, [], [], [1]⟩ none none (some ⟨w.heap.size, 0, none⟩) 0 0 1 w2 := by
    have s1 : (w.alloc (.cells #[.int .u32 1] 42)).heap.size = w.heap.size + 1 := by simp
    refine ⟨by rw [hw2]; exact ((Below.refl _ w).alloc (Nat.le_refl _) _).alloc (by rw [s1]; omega) _, by rw [hw2]; simp; omega, by omega, ?_, ⟨rfl, .inl ⟨rfl, rfl⟩⟩, ⟨rfl, .inl ⟨rfl, rfl⟩⟩, ?_, fun k hk => by simp [Value.ownBlock] at hk⟩
    · rw [hw2, hpn, ← s1]; exact Blk.new _ 26 _
    · rw [hw2]; exact ownAlloc (own_one w (Nat.le_refl _) 42 _) _
  have hK2 : KidP ⟨false, [], [], [1]⟩ od := kidP_start o1
  have HR2 := Lib.hid (And.intro hR2 hK2)
  clear hpn hw2 hR2 hK2
  go_upto_block 0 with fail
  go_cut [12, 13] from 46 to 102 (fun v12 v13 wx => ∃ (p : Nd) (K U : Option Addr) (e1 e3 : Nat), RmN w pn false p K none U e1 0 e3 wx ∧ KidP p od)
  case first =>
    go_wp2_with fail
    go_loopg [12] N (fun g v12 wr => ∃ (k : Nat) (p : Nd) (K U : Option Addr) (e1 e3 : Nat), k + g = N ∧ v12 = .int .i64 (k : Nat) ∧ RmN w pn false p K none U e1 0 e3 wr ∧ KidP p od)
    case atStart => exact ⟨0, _, _, _, _, _, by omega, rfl, HR2.out.1, HR2.out.2⟩
    case round =>
      obtain ⟨k, p, K, U, e1, e3, hk, rfl, hD, hP⟩ := hrel
      have HD := Lib.hid hD
      have HP := Lib.hid hP
      have hpv : p.vals.length = 0 := by rw [hP.vs]; rfl
      have hul := hP.us
      have hod := hP.od
      clear hD hP
      by_cases hlt : k < N
      · have y3 := (HD.out.cl3 (.cells #[] 0)).1
        by_cases hkd : p.kids.length < od
        · obtain ⟨b, off, rfl, _, hcl⟩ := (HL.out.1.below HD.out.bl) (by rw [← HL.out.2]; omega)
          have hcell := hcl k (by rw [← HL.out.2]; exact hlt)
          obtain ⟨x, hx⟩ : ∃ x, x = l.getD k ⟨#[]⟩ := ⟨_, rfl⟩
          rw [← hx] at hcell
          clear hcl hx
          obtain ⟨xz, hxz⟩ : ∃ q, q = x.size := ⟨_, rfl⟩
          have hx' : x.size = xz := hxz.symm
          clear hxz
          have y1 := (HD.out.cl1 (.cells #[] 0)).1
          by_cases h1 : xz < 1
          · go_wp2_with fail
            all_goals go_roundg (gk - 1)
            all_goals first | omega | exact ⟨k + 1, p, K, U, e1, e3, by omega, by go_num, HD.out, HP.out⟩
          · by_cases h2 : 64 < xz
            · go_wp2_with fail
              all_goals go_roundg (gk - 1)
              all_goals first | omega | exact ⟨k + 1, p, K, U, e1, e3, by omega, by go_num, HD.out, HP.out⟩
            · rcases Nat.eq_zero_or_pos p.keys.length with hk0 | hk0
              · have hup : Hid (0 < p.keys.length → Op.bytesLess (p.keys.getD (p.keys.length - 1) ⟨#[]⟩).toList x.toList = true) := fun h => by omega
                go_upto_region 12 with fail
                have hup2 := hup
                have nk : p.keys.length ≤ 60 := by omega
                clear y1 y3 hk0
                have y1 := (HD.out.cl1 (.cells #[.string x] 9)).2
                have y1b := (HD.out.cl1 (.cells #[.string x] 9)).1
                have hoK := Lib.hid (ownAlloc HD.out.oK (.cells #[.string x] 9))
                go_wp2_with (refine wpList_append_src _ rfl (.tmp 90) (.tmp 92) 22 rfl w.heap.size 9 i9 (.string ⟨#[]⟩) 16 Try.underlying22 HI9.out I9.out.1 I9.out.2.1 I9.out.2.2 rfl (.slice K p.keys.length e1) p.keys.length (strs p.keys) rfl hoK.out (some ⟨wr.heap.size, 0, none⟩) 1 1 [.string x] rfl rfl (src_one wr 9 _) (by simp [Value.oneCell']) (by unfold maxLen; omega) (by omega) (Nat.le_trans HD.out.bs (by simp)) ?_)
                intro K' d1 w9 hown2 hgrow hat
                have ff := (HD.out.knK _ hgrow 1).2
                have qq := (HD.out.knK _ hgrow 1).1
                simp only [List.getElem?_toArray, List.getElem?_cons_succ, List.getElem?_cons_zero] at qq
                obtain ⟨w10, hw10⟩ : ∃ q, q = w9.setCell ⟨pn, 1, none⟩ (.slice K' (p.keys.length + 1) d1) := ⟨_, rfl⟩
                obtain ⟨pC, hpC⟩ : ∃ q, q = { p with keys := p.keys ++ [x] } := ⟨_, rfl⟩
                have hDC := HD.out.key x hown2 hgrow (by simpa using hat)
                rw [← hw10, ← hpC] at hDC
                have HDC := Lib.hid hDC
                have HPC := Lib.hid hpC
                have HW10 := Lib.hid hw10
                have ul2 : pC.kids.length = p.kids.length := by rw [hpC]
                clear hown2 hgrow hat y1 y1b hw10 hpC hDC
                go_upto_region 13 with fail
                rw [← HW10.out]
                clear ff qq
                obtain ⟨t, ht⟩ : ∃ t : Nat, (k : Int) + 2 = (t : Int) := ⟨k + 2, by omega⟩
                have hu1 : IntKind.u32.wrap (k : Int) = (k : Int) := IntWalk.u32_in _ (by omega)
                have hu2 : IntKind.u32.wrap (t : Int) = (t : Int) := IntWalk.u32_in _ (by omega)
                have y3 := (HDC.out.cl3 (.cells #[.int .u32 (t : Nat)] 42)).1
                have y3d := (HDC.out.cl3 (.cells #[.int .u32 (t : Nat)] 42)).2
                have hoU := Lib.hid (ownAlloc HDC.out.oU (.cells #[.int .u32 (t : Nat)] 42))
                have hmore := HP.out.more (x := x) (t := t) (by omega) (by omega) hup2.out hkd (by omega) (by omega)
                have HMORE := Lib.hid hmore
                have nu : pC.kids.length ≤ 60 := by omega
                clear hmore ul2 hul hod
                go_wp2_with (refine wpList_append_src _ rfl (.tmp 96) (.tmp 100) 23 rfl w.heap.size 42 i42 (.int .u32 0) 4 Try.underlying23 HI42.out I42.out.1 I42.out.2.1 I42.out.2.2 rfl (.slice U pC.kids.length e3) pC.kids.length (kidsV pC.kids) rfl hoU.out (some ⟨w10.heap.size, 0, none⟩) 1 1 [.int .u32 (t : Nat)] rfl rfl (src_one w10 42 _) (by simp [Value.oneCell']) (by unfold maxLen; omega) (by omega) (Nat.le_trans HDC.out.bs (by simp)) ?_)
                intro U' dd w11 hown2 hgrow hat
                have ff := (HDC.out.knU _ hgrow 3).2
                have qq := (HDC.out.knU _ hgrow 3).1
                simp only [List.getElem?_toArray, List.getElem?_cons_succ, List.getElem?_cons_zero] at qq
                have hDF := HDC.out.kid t hown2 hgrow (by simpa using hat)
                have HDF := Lib.hid hDF
                clear hown2 hgrow hat hDF y3 y3d
                go_wp2_with fail
                go_roundg (gk - 1)
                case measure => omega
                case rel => exact ⟨k + 1, _, K', U', d1, dd, by omega, by go_num, HDF.out, by rw [HPC.out]; exact HMORE.out⟩
              · obtain ⟨b', off', rfl, _, hcl⟩ := row_strR HD.out.oK hk0
                obtain ⟨j, hj⟩ : ∃ j, p.keys.length = j + 1 := ⟨p.keys.length - 1, by omega⟩
                have hcell3 := hcl j (by omega)
                obtain ⟨y, hy⟩ : ∃ y, y = p.keys.getD j ⟨#[]⟩ := ⟨_, rfl⟩
                rw [← hy] at hcell3
                have hup : Hid (Op.bytesLess y.toList x.toList = true → 0 < p.keys.length → Op.bytesLess (p.keys.getD (p.keys.length - 1) ⟨#[]⟩).toList x.toList = true) := fun h _ => by
                  rw [hj, Nat.add_sub_cancel, ← hy]; exact h
                have hj2 : ((j + 1 : Nat) : Int) - 1 = (j : Int) := by omega
                rw [hj] at y1
                clear hcl hy
                cases hbl : Op.bytesLess y.toList x.toList with
                | false =>
                  go_wp2_with fail
                  all_goals go_roundg (gk - 1)
                  all_goals first | omega | exact ⟨k + 1, p, _, U, e1, e3, by omega, by go_num, HD.out, HP.out⟩
                | true =>
                  go_upto_region 12 with fail
                  have hup2 : Hid (0 < p.keys.length → Op.bytesLess (p.keys.getD (p.keys.length - 1) ⟨#[]⟩).toList x.toList = true) := hup.out hbl
                  have nk : p.keys.length ≤ 60 := by omega
                  clear y1 y3 hk0 hj hj2 hcell3 hbl
                  have y1 := (HD.out.cl1 (.cells #[.string x] 9)).2
                  have y1b := (HD.out.cl1 (.cells #[.string x] 9)).1
                  have hoK := Lib.hid (ownAlloc HD.out.oK (.cells #[.string x] 9))
                  go_wp2_with (refine wpList_append_src _ rfl (.tmp 90) (.tmp 92) 22 rfl w.heap.size 9 i9 (.string ⟨#[]⟩) 16 Try.underlying22 HI9.out I9.out.1 I9.out.2.1 I9.out.2.2 rfl (.slice (some ⟨b', off', none⟩) p.keys.length e1) p.keys.length (strs p.keys) rfl hoK.out (some ⟨wr.heap.size, 0, none⟩) 1 1 [.string x] rfl rfl (src_one wr 9 _) (by simp [Value.oneCell']) (by unfold maxLen; omega) (by omega) (Nat.le_trans HD.out.bs (by simp)) ?_)
                  intro K' d1 w9 hown2 hgrow hat
                  have ff := (HD.out.knK _ hgrow 1).2
                  have qq := (HD.out.knK _ hgrow 1).1
                  simp only [List.getElem?_toArray, List.getElem?_cons_succ, List.getElem?_cons_zero] at qq
                  obtain ⟨w10, hw10⟩ : ∃ q, q = w9.setCell ⟨pn, 1, none⟩ (.slice K' (p.keys.length + 1) d1) := ⟨_, rfl⟩
                  obtain ⟨pC, hpC⟩ : ∃ q, q = { p with keys := p.keys ++ [x] } := ⟨_, rfl⟩
                  have hDC := HD.out.key x hown2 hgrow (by simpa using hat)
                  rw [← hw10, ← hpC] at hDC
                  have HDC := Lib.hid hDC
                  have HPC := Lib.hid hpC
                  have HW10 := Lib.hid hw10
                  have ul2 : pC.kids.length = p.kids.length := by rw [hpC]
                  clear hown2 hgrow hat y1 y1b hw10 hpC hDC
                  go_upto_region 13 with fail
                  rw [← HW10.out]
                  clear ff qq
                  obtain ⟨t, ht⟩ : ∃ t : Nat, (k : Int) + 2 = (t : Int) := ⟨k + 2, by omega⟩
                  have hu1 : IntKind.u32.wrap (k : Int) = (k : Int) := IntWalk.u32_in _ (by omega)
                  have hu2 : IntKind.u32.wrap (t : Int) = (t : Int) := IntWalk.u32_in _ (by omega)
                  have y3 := (HDC.out.cl3 (.cells #[.int .u32 (t : Nat)] 42)).1
                  have y3d := (HDC.out.cl3 (.cells #[.int .u32 (t : Nat)] 42)).2
                  have hoU := Lib.hid (ownAlloc HDC.out.oU (.cells #[.int .u32 (t : Nat)] 42))
                  have hmore := HP.out.more (x := x) (t := t) (by omega) (by omega) hup2.out hkd (by omega) (by omega)
                  have HMORE := Lib.hid hmore
                  have nu : pC.kids.length ≤ 60 := by omega
                  clear hmore ul2 hul hod
                  go_wp2_with (refine wpList_append_src _ rfl (.tmp 96) (.tmp 100) 23 rfl w.heap.size 42 i42 (.int .u32 0) 4 Try.underlying23 HI42.out I42.out.1 I42.out.2.1 I42.out.2.2 rfl (.slice U pC.kids.length e3) pC.kids.length (kidsV pC.kids) rfl hoU.out (some ⟨w10.heap.size, 0, none⟩) 1 1 [.int .u32 (t : Nat)] rfl rfl (src_one w10 42 _) (by simp [Value.oneCell']) (by unfold maxLen; omega) (by omega) (Nat.le_trans HDC.out.bs (by simp)) ?_)
                  intro U' dd w11 hown2 hgrow hat
                  have ff := (HDC.out.knU _ hgrow 3).2
                  have qq := (HDC.out.knU _ hgrow 3).1
                  simp only [List.getElem?_toArray, List.getElem?_cons_succ, List.getElem?_cons_zero] at qq
                  have hDF := HDC.out.kid t hown2 hgrow (by simpa using hat)
                  have HDF := Lib.hid hDF
                  clear hown2 hgrow hat hDF y3 y3d
                  go_wp2_with fail
                  go_roundg (gk - 1)
                  case measure => omega
                  case rel => exact ⟨k + 1, _, K', U', d1, dd, by omega, by go_num, HDF.out, by rw [HPC.out]; exact HMORE.out⟩
        · clear hul
          go_wp2_with fail
          go_meet
          exact ⟨p, K, U, e1, e3, HD.out, HP.out⟩
      · clear hul
        go_wp2_with fail
        go_meet
        exact ⟨p, K, U, e1, e3, HD.out, HP.out⟩
  case rest =>
    obtain ⟨p, K, U, e1, e3, hD, hP⟩ := hcut
    have HD := Lib.hid hD
    have HP := Lib.hid hP
    clear hD hP HR2
    -- the leaf
    obtain ⟨r, hr⟩ : ∃ r, r = F % 100 := ⟨_, rfl⟩
    have hr100 : r ≤ 99 := by omega
    have hFr : Int.tmod (F : Int) 100 = (r : Int) := by rw [Int.tmod_eq_emod_of_nonneg (by omega)]; omega
    obtain ⟨m3, hm3⟩ : ∃ m3 : Nat, (mo : Int) - 3 = (m3 : Int) := ⟨mo - 3, by omega⟩
    obtain ⟨m4, hm4⟩ : ∃ m4 : Nat, (m3 : Int) - 1 = (m4 : Int) := ⟨m3 - 1, by omega⟩
    obtain ⟨q, hq⟩ : ∃ q : Nat, (m4 : Int) - (r : Int) = (q : Int) := ⟨m4 - r, by omega⟩
    have q1 : q + 4 ≤ mo := by omega
    have m31 : m3 + 3 = mo := by omega
    clear hr
    obtain ⟨T, hT⟩ : ∃ T : ByteArray, T = ⟨(List.replicate q (0 : UInt8)).toArray⟩ := ⟨_, rfl⟩
    have hTz : T.size = q := by rw [hT]; simp [ByteArray.size]
    have HT := Lib.hid (And.intro hT hTz)
    clear hT hTz
    go_upto_region 15 with fail
    obtain ⟨pm, hpm⟩ : ∃ q, q = wc.heap.size := ⟨_, rfl⟩
    obtain ⟨w3, hw3⟩ : ∃ w3, w3 = wc.alloc (.cells #[.bool true, .slice none 0 0, .slice none 0 0, .slice none 0 0] 26) := ⟨_, rfl⟩
    rw [← hpm, ← hw3]
    have hR3 : RmN wc pm true (nlN T 0) none none none 0 0 0 w3 :=
      ⟨by rw [hw3]; exact (Below.refl _ wc).alloc (Nat.le_refl _) _, by rw [hw3]; simp, by omega, by rw [hw3, hpm]; exact Blk.new _ 26 _, ⟨rfl, .inl ⟨rfl, rfl⟩⟩, ⟨rfl, .inl ⟨rfl, rfl⟩⟩, ⟨rfl, .inl ⟨rfl, rfl⟩⟩, fun k hk => by simp [Value.ownBlock] at hk⟩
    have HR3 := Lib.hid hR3
    clear hpm hw3 hR3
    go_wp2_with fail
    go_loopg [15] 3 (fun g v15 wr => ∃ (j : Nat) (K V : Option Addr) (e1 e2 : Nat), j + g = 3 ∧ v15 = .int .i64 (j : Nat) ∧ RmN wc pm true (nlN T j) K V none e1 e2 0 wr)
    case atStart => exact ⟨0, _, _, _, _, by omega, rfl, HR3.out⟩
    case round =>
      obtain ⟨j, K', V', d1, d2, hj, rfl, hD2⟩ := hrel
      have HD2 := Lib.hid hD2
      clear hD2
      by_cases hlt : j < 3
      · obtain ⟨t, ht⟩ : ∃ t : Nat, 97 + (j : Int) = (t : Int) := ⟨97 + j, by omega⟩
        have hu1 : IntKind.u8.wrap (t : Int) = (t : Int) := by rw [IntKind.wrap_u8]; omega
        have hcv := kb_text (wr.alloc (.cells #[.int .u8 (t : Nat)] 5)) wr.heap.size (t := t) (i := j) (by omega) hlt (Blk.new wr 5 _)
        obtain ⟨x, hx⟩ : ∃ x, x = kb j := ⟨_, rfl⟩
        rw [← hx] at hcv
        have HX := Lib.hid hx
        clear hx
        go_upto_region 19 with fail
        obtain ⟨wa, hwa⟩ : ∃ u, u = wr.alloc (.cells #[.int .u8 (t : Nat)] 5) := ⟨_, rfl⟩
        have hDA := HD2.out.allocN (.cells #[.int .u8 (t : Nat)] 5)
        obtain ⟨pL, hpL⟩ : ∃ q, q = nlN T j := ⟨_, rfl⟩
        rw [← hwa, ← hpL] at hDA
        rw [← hwa]
        have HDA := Lib.hid hDA
        have nk : pL.keys.length ≤ 3 := by rw [hpL]; simp [nlN]; omega
        have nv : pL.vals.length ≤ 3 := by rw [hpL]; simp [nlN]; omega
        have HPL := Lib.hid hpL
        clear hcv hwa hDA hpL hu1
        have y1 := (HDA.out.cl1 (.cells #[.string x] 9)).2
        have y1b := (HDA.out.cl1 (.cells #[.string x] 9)).1
        have hoK := Lib.hid (ownAlloc HDA.out.oK (.cells #[.string x] 9))
        go_wp2_with (refine wpList_append_src _ rfl (.tmp 114) (.tmp 116) 22 rfl wc.heap.size 9 i9 (.string ⟨#[]⟩) 16 Try.underlying22 HI9.out I9.out.1 I9.out.2.1 I9.out.2.2 rfl (.slice K' pL.keys.length d1) pL.keys.length (strs pL.keys) rfl hoK.out (some ⟨wa.heap.size, 0, none⟩) 1 1 [.string x] rfl rfl (src_one wa 9 _) (by simp [Value.oneCell']) (by unfold maxLen; omega) (by omega) (Nat.le_trans HDA.out.bs (by simp)) ?_)
        intro K2 f1 w9 hown2 hgrow hat
        have ff := (HDA.out.knK _ hgrow 1).2
        have qq := (HDA.out.knK _ hgrow 1).1
        simp only [List.getElem?_toArray, List.getElem?_cons_succ, List.getElem?_cons_zero] at qq
        obtain ⟨w10, hw10⟩ : ∃ q, q = w9.setCell ⟨pm, 1, none⟩ (.slice K2 (pL.keys.length + 1) f1) := ⟨_, rfl⟩
        obtain ⟨pC, hpC⟩ : ∃ q, q = { pL with keys := pL.keys ++ [x] } := ⟨_, rfl⟩
        have hDC := HDA.out.key x hown2 hgrow (by simpa using hat)
        rw [← hw10, ← hpC] at hDC
        have HDC := Lib.hid hDC
        have HPC := Lib.hid hpC
        have HW10 := Lib.hid hw10
        have nv2 : pC.vals.length ≤ 3 := by rw [hpC]; exact nv
        clear hown2 hgrow hat y1 y1b hw10 hpC hDC
        go_upto_region 20 with fail
        rw [← HW10.out]
        clear ff qq
        have hmk := Go.run_make_row' (P := Try.prog) 43 5 (.int .u8 0) 1 Try.underlying43 info5' rfl .i64 .i64 q (by omega) (by omega) w10.drew
        have hcv := zeros_text (w10.drew.alloc (.cells (madeCells #[.int .u8 0] q) 5)) w10.drew.heap.size q (Blk.new _ 5 _) (by omega)
        rw [← HT.out.1] at hcv
        obtain ⟨gy, hgy⟩ : ∃ g, g = w10.drew.heap.size := ⟨_, rfl⟩
        obtain ⟨wy, hwy⟩ : ∃ u, u = w10.drew.alloc (.cells (madeCells #[.int .u8 0] q) 5) := ⟨_, rfl⟩
        have hDY := (HDC.out.drewN 1).allocN (.cells (madeCells #[.int .u8 0] q) 5)
        have hDR := HDC.out.drewN 1
        rw [show w10.drewN 1 = w10.drew from rfl] at hDY hDR
        rw [← hwy] at hDY
        rw [← hgy, ← hwy] at hmk hcv
        have HDY := Lib.hid hDY
        have HDR := Lib.hid hDR
        clear hDY hDR hgy hwy
        have y2 := (HDR.out.cl2 (.cells #[.string T] 9)).1
        have y2b := (HDY.out.cl2 (.cells #[.string T] 9)).1
        have y2c := (HDY.out.cl2 (.cells #[.string T] 9)).2
        have hoV := Lib.hid (ownAlloc HDY.out.oV (.cells #[.string T] 9))
        have hi1 : IntKind.i64.wrap (m3 : Int) = (m3 : Int) := by rw [IntKind.wrap_i64]; omega
        have hi2 : IntKind.i64.wrap (m4 : Int) = (m4 : Int) := by rw [IntKind.wrap_i64]; omega
        have hi3 : IntKind.i64.wrap (F : Int) = (F : Int) := by rw [IntKind.wrap_i64]; omega
        have hi4 : IntKind.i64.wrap (q : Int) = (q : Int) := by rw [IntKind.wrap_i64]; omega
        go_region_law (first
          | (refine step_append_src _ rfl (.tmp 120) (.tmp 130) 22 rfl wc.heap.size 9 i9 (.string ⟨#[]⟩) 16 Try.underlying22 HI9.out I9.out.1 I9.out.2.1 I9.out.2.2 rfl (.slice V' pC.vals.length d2) pC.vals.length (strs pC.vals) (by simp [Act.eval]) hoV.out (some ⟨wy.heap.size, 0, none⟩) 1 1 [.string T] (by simp [Act.eval]) rfl (src_one wy 9 _) (by simp [Value.oneCell']) (by unfold maxLen; omega) (by omega) (Nat.le_trans HDY.out.bs (by simp)) ?_
             intro V2 f2 w11 hown2 hgrow hat
             have hfz := HDY.out.knV (.cells #[.string T] 9) hgrow 2
             have ff := hfz.2
             have qq := hfz.1
             simp only [List.getElem?_toArray, List.getElem?_cons_succ, List.getElem?_cons_zero] at qq
             have HC := Lib.hid (And.intro hown2 (And.intro hgrow hat))
             clear hown2 hgrow hat hfz))
        all_goals
          go_wp2_with fail
          go_roundg (gk - 1)
          case measure => omega
          case rel =>
            have hDF := HDY.out.value T HC.out.1 HC.out.2.1 (by simpa using HC.out.2.2)
            refine ⟨j + 1, K2, V2, f1, f2, by omega, by go_num, ?_⟩
            have e : nlN T (j + 1) = { pC with vals := pC.vals ++ [T] } := by rw [nlN_succ, ← HPL.out, ← HX.out, HPC.out]
            rw [e]
            exact hDF
      · have hj3 : j = 3 := by omega
        subst hj3
        have hi1 : IntKind.i64.wrap (m3 : Int) = (m3 : Int) := by rw [IntKind.wrap_i64]; omega
        have hs1 : (wr.alloc (.cells #[.string ⟨#[97]⟩] 9)).heap.size = wr.heap.size + 1 := by simp
        have hmk := Go.run_make_row' (P := Try.prog) 43 5 (.int .u8 0) 1 Try.underlying43 info5' rfl .i64 .i64 m3 (by omega) (by omega) (wr.alloc (.cells #[.string ⟨#[97]⟩] 9))
        have hcv := zeros_text ((wr.alloc (.cells #[.string ⟨#[97]⟩] 9)).alloc (.cells (madeCells #[.int .u8 0] m3) 5)) (wr.alloc (.cells #[.string ⟨#[97]⟩] 9)).heap.size m3 (Blk.new _ 5 _) (by omega)
        rw [hs1] at hmk hcv
        obtain ⟨T3, hT3⟩ : ∃ T3 : ByteArray, T3 = ⟨(List.replicate m3 (0 : UInt8)).toArray⟩ := ⟨_, rfl⟩
        have hTz3 : T3.size = m3 := by rw [hT3]; simp [ByteArray.size]
        rw [← hT3] at hcv
        have HT3 := Lib.hid hTz3
        clear hT3 hTz3 hs1
        go_upto_region 22 with fail
        obtain ⟨w4, hw4⟩ : ∃ u, u = ((((wr.alloc (.cells #[.string ⟨#[97]⟩] 9)).alloc (.cells (madeCells #[.int .u8 0] m3) 5)).alloc (.cells #[.string T3] 9)).alloc (.cells #[.bool true, .slice (some ⟨wr.heap.size, 0, none⟩) 1 1, .slice (some ⟨wr.heap.size + 1 + 1, 0, none⟩) 1 1, .slice none 0 0] 26)) := ⟨_, rfl⟩
        rw [← hw4]
        have h4 := big_world wr ⟨#[97]⟩ T3 m3
        rw [← hw4] at h4
        have H40 := Lib.hid h4.1
        have H4 := Lib.hid h4.2
        obtain ⟨pb, hpb⟩ : ∃ q, q = wr.heap.size + 1 + 1 + 1 := ⟨_, rfl⟩
        obtain ⟨g1, hg1⟩ : ∃ q, q = wr.heap.size := ⟨_, rfl⟩
        obtain ⟨g2, hg2⟩ : ∃ q, q = wr.heap.size + 1 + 1 := ⟨_, rfl⟩
        rw [← hpb, ← hg2, ← hg1] at H4
        rw [← hpb]
        clear hcv hmk hi1 h4 hw4 hpb hg1 hg2
        have hbw : Hid (Below wc.heap.size wc w4) := HD2.out.bl.trans (H40.out.mono HD2.out.bs)
        have HC1 : Hid (∀ u, Below w4.heap.size w4 u → Calls Try.prog 15 #[.agg #[.bool false, .slice K p.keys.length e1, .slice none p.vals.length 0, .slice U p.kids.length e3], .int .i64 z] u fun e w' => e = .returned (.int .i64 0) ∧ Below u.heap.size u w') := fun u hu => by
          have hwu : Below wc.heap.size wc u := hbw.out.trans (hu.mono hbw.out.size)
          have := check_yes p K none U e1 0 e3 z true u (HP.out.nd o2 (HD.out.own.below hwu)) z1 z2 z3 ⟨fun _ => (by have h := HP.out; rw [HZ.out.1] at h; exact h.check z1), fun _ => rfl⟩
          unfold ndC at this
          rw [HP.out.lf] at this
          exact this
        have HC2 : Hid (∀ u, Below w4.heap.size w4 u → Calls Try.prog 15 #[.agg #[.bool true, .slice K' (nlN T 3).keys.length d1, .slice V' (nlN T 3).vals.length d2, .slice none (nlN T 3).kids.length 0], .int .i64 z] u fun e w' => e = .returned (.int .i64 0) ∧ Below u.heap.size u w') := fun u hu => by
          have hwu : Below wr.heap.size wr u := H40.out.trans (hu.mono H40.out.size)
          exact check_yes (nlN T 3) K' V' none d1 d2 0 z true u (nlN_nd (by rw [HT.out.2]; omega) (HD2.out.own.below hwu)) z1 z2 z3 ⟨fun _ => (by rw [nlN_three]; exact leaf_check z1 z2 HT.out.2 HT.out.2 HT.out.2 (by rw [← HZ.out.2.1]; omega)), fun _ => rfl⟩
        have HC3 : Hid (∀ u, Below w4.heap.size w4 u → Calls Try.prog 15 #[.agg #[.bool true, .slice (some ⟨g1, 0, none⟩) 1 1, .slice (some ⟨g2, 0, none⟩) 1 1, .slice none 0 0], .int .i64 z] u fun e w' => e = .returned (.int .i64 1) ∧ Below u.heap.size u w') := fun u hu => by
          exact check_yes ⟨true, [⟨#[97]⟩], [T3], []⟩ (some ⟨g1, 0, none⟩) (some ⟨g2, 0, none⟩) none 1 1 0 z false u (big_nd (by rw [HT3.out]; omega) (H4.out.2.below hu)) z1 z2 z3 ⟨fun h => (by cases h), fun h => absurd h (big_check (by rw [HT3.out, ← HZ.out.2.1]; omega) z1)⟩
        have hx1 : Hid (∀ u, Below w4.heap.size w4 u → (u.cell? ⟨pn, 0, none⟩ = some (.bool false) ∧ u.cell? ⟨pn, 1, none⟩ = some (.slice K p.keys.length e1) ∧ u.cell? ⟨pn, 2, none⟩ = some (.slice none p.vals.length 0) ∧ u.cell? ⟨pn, 3, none⟩ = some (.slice U p.kids.length e3)) ∧
            (u.cell? ⟨pm, 0, none⟩ = some (.bool true) ∧ u.cell? ⟨pm, 1, none⟩ = some (.slice K' (nlN T 3).keys.length d1) ∧ u.cell? ⟨pm, 2, none⟩ = some (.slice V' (nlN T 3).vals.length d2) ∧ u.cell? ⟨pm, 3, none⟩ = some (.slice none (nlN T 3).kids.length 0)) ∧
            (u.cell? ⟨pb, 0, none⟩ = some (.bool true) ∧ u.cell? ⟨pb, 1, none⟩ = some (.slice (some ⟨g1, 0, none⟩) 1 1) ∧ u.cell? ⟨pb, 2, none⟩ = some (.slice (some ⟨g2, 0, none⟩) 1 1) ∧ u.cell? ⟨pb, 3, none⟩ = some (.slice none 0 0))) := fun u hu => by
          have hwu : Below wc.heap.size wc u := hbw.out.trans (hu.mono hbw.out.size)
          have hru : Below wr.heap.size wr u := H40.out.trans (hu.mono H40.out.size)
          have k1 := HD.out.kn.below hwu HD.out.kn.lt
          have k2 := HD2.out.kn.below hru HD2.out.kn.lt
          have k3 := H4.out.1.below hu H4.out.1.lt
          exact ⟨⟨k1.cell 0, k1.cell 1, k1.cell 2, k1.cell 3⟩, ⟨k2.cell 0, k2.cell 1, k2.cell 2, k2.cell 3⟩, ⟨k3.cell 0, k3.cell 1, k3.cell 2, k3.cell 3⟩⟩
        obtain ⟨M1, hM1⟩ : ∃ q, q = (nlN T 3).keys.length := ⟨_, rfl⟩
        obtain ⟨M2, hM2⟩ : ∃ q, q = (nlN T 3).vals.length := ⟨_, rfl⟩
        obtain ⟨M3, hM3⟩ : ∃ q, q = (nlN T 3).kids.length := ⟨_, rfl⟩
        rw [← hM1, ← hM2, ← hM3] at HC2 hx1
        clear hM1 hM2 hM3
        obtain ⟨⟨x0, x1, x2, x3⟩, _⟩ := hx1.out w4 (Below.refl _ _)
        go_wp2_with fail
        refine (HC1.out w4 (Below.refl _ _)).mono ?_
        rintro e w5 ⟨rfl, hb5⟩
        have H5 := Lib.hid hb5
        clear hb5 x0 x1 x2 x3
        obtain ⟨_, ⟨x0, x1, x2, x3⟩, _⟩ := hx1.out w5 H5.out
        go_wp2_with fail
        refine (HC2.out w5 H5.out).mono ?_
        rintro e w6 ⟨rfl, hb6⟩
        have H6 := Lib.hid (below_step H5.out hb6)
        clear hb6 x0 x1 x2 x3
        obtain ⟨_, _, x0, x1, x2, x3⟩ := hx1.out w6 H6.out
        go_wp2_with fail
        refine (HC3.out w6 H6.out).mono ?_
        rintro e w7 ⟨rfl, hb7⟩
        have H7 := Lib.hid (below_step H6.out hb7)
        clear hb7 x0 x1 x2 x3
        go_wp2_with fail
        refine (awake_any w7).mono ?_
        rintro e w8 ⟨rfl, hb8⟩
        have H8 := Lib.hid (below_step H7.out hb8)
        clear hb8
        go_wp2_with fail
        go_ret
        exact ⟨by simp, HD.out.bl.trans ((hbw.out.trans (H8.out.mono hbw.out.size)).mono HD.out.bs)⟩
end Go.Proofs.Ytpggicaphejjfaa
